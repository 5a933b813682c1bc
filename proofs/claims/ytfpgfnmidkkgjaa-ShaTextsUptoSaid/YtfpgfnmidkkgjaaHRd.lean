/- sha: Wide, Left, Spoil, Write. -/
import Derived.Test.YtfpgfnmidkkgjaaHRc
import Derived.Laws.CopyOwn
set_option linter.unusedVariables false
set_option linter.unusedSimpArgs false
namespace Go.Proofs.Ytfpgfnmidkkgjaa
open Go.RowKit
namespace Sha

/-- what Wide lays: of three bytes 7 behind the bytes j are laid -/
def wd (bs : List B) (j : Nat) : List B := bs ++ (List.replicate j 7#8 ++ List.replicate (3 - j) 0#8)
theorem wd_len (bs : List B) (j : Nat) (h : j ≤ 3) : (wd bs j).length = bs.length + 3 := by simp [wd]; omega
theorem wd_set (bs : List B) (j : Nat) (h : j < 3) : (wd bs j).set (bs.length + j) 7#8 = wd bs (j + 1) := by
  unfold wd
  rw [List.set_append_right _ _ (by omega), Nat.add_sub_cancel_left]
  match j, h with
  | 0, _ | 1, _ | 2, _ => rfl
theorem wd_at (bs : List B) (j : Nat) (h : j < 3) : (wd bs 3).getD (bs.length + j) 0 = 7#8 := by
  unfold wd
  rw [List.getD_eq_getElem?_getD, List.getElem?_append_right (by omega), Nat.add_sub_cancel_left]
  match j, h with
  | 0, _ | 1, _ | 2, _ => rfl
theorem wd_take (bs : List B) : (wd bs 3).take bs.length = bs := by unfold wd; rw [List.take_left' rfl]
theorem made_b (i0 : TypeInfo) (hz1 : i0.size = 1) (s : Nat) : madeCells (Value.int .u8 0).cells (((s : Nat) : Int).toNat * i0.size) = brr (List.replicate s 0) := by
  rw [hz1]
  simp [madeCells, brr, Value.cells]
  apply Array.ext_getElem?
  intro j
  simp only [Array.getElem?_map, Array.getElem?_range, Array.getElem?_replicate]
  split
  · simp [Nat.mod_one]
  · rfl
/-- a block that reads as a slice of its beginning -/
theorem sl_blk {w : World} {g : Nat} {l : List B} (h : Blk w g TU8 (brr l)) (hm : l.length ≤ maxLen) (k : Nat) (hk : k ≤ l.length) : SL eb w (.slice (some ⟨g, 0, none⟩) k l.length) (l.take k) :=
  SL.take (SL.of_own (enc := eb) (own_blk h (Nat.zero_le _) hm) rfl) hk

set_option maxHeartbeats 1600000 in
theorem wide_any (v : Value) (bs : List B) (w : World) (hs : SL eb w v bs) (hn : bs.length ≤ 4194304) :
    Calls Try.prog 22 #[v] w fun e w' => ∃ g, e = .returned (.slice (some ⟨g, 0, none⟩) bs.length (bs.length + 3)) ∧ w.heap.size ≤ g ∧ Blk w' g TU8 (brr (wd bs 3)) ∧ Gr w w' := by
  obtain ⟨i0, hi0, hz0, hz1, hz2⟩ := info_parts info_b
  have HS := Lib.hid hs
  obtain ⟨A, cap, rfl, _⟩ := hs.len
  have Hn := Lib.hid hn
  have hn' : (bs.length : Int) ≤ 4194304 := by omega
  obtain ⟨s, hs3⟩ : ∃ s, s = bs.length + 3 := ⟨_, rfl⟩
  have e3 : (bs.length : Int) + 3 = (s : Int) := by omega
  have Hs3 := Lib.hid hs3
  have hs' : s ≤ 4194307 := by omega
  have hmk := fun w => run_make (P := Try.prog) w TS8 TU8 i0 (.int .u8 0) Try.underlying28 hi0 hz0 .i64 .i64 (s : Nat) (s : Nat) (by omega) (by omega) (by rw [hz2]; omega) (by omega)
  rw [made_b i0 hz1] at hmk
  simp only [Int.toNat_natCast] at hmk
  have hsi : (s : Int) ≤ 4194307 := by omega
  have Hs1 := Lib.hid (fun g w => run_slice_to (P := Try.prog) TS8 TU8 i0 Try.underlying28 hi0 (some ⟨g, 0, none⟩) s s bs.length (by omega) w)
  clear hs hn hs3 hs' hi0 hz0 hz1 hz2
  go_enter Try.func22, Try.ntmps22
  go_upto_region 2 with (fail)
  clear e3
  have HB1 := Lib.hid (Blk.new w TU8 (brr (List.replicate s 0)))
  have HG1 := Lib.hid ((Fr.refl w NoneS).alloc (.cells (brr (List.replicate s 0)) TU8))
  have Hg := Lib.hid (Nat.le_refl w.heap.size)
  generalize hg : w.heap.size = g at HB1 ⊢
  have Hge := Lib.hid (show w.heap.size ≤ g by omega)
  generalize World.alloc w _ = w1 at HB1 HG1 ⊢
  have HS1 := Lib.hid (HS.out.gr HG1.out)
  have Hwd := Lib.hid (show splice ((List.replicate s (0 : B)).map C) 0 (bs.map C) = (wd bs 0).map C from by
    have := Hs3.out
    simp [splice, wd, this])
  have Hg2 := Lib.hid hg
  clear hg hmk
  have Hpos := Lib.hid (show 0 < (bs.map C).length → some (⟨g, 0, none⟩ : Addr) = some ⟨g, 0, none⟩ ∧ ∃ ad, A = some ad ∧ ∀ j u, (bs.map C)[j]? = some u → w1.cell? (ad.add j) = some u from by
    intro h0
    obtain ⟨A', cap', he, hc', hr⟩ := HS1.out
    rw [List.length_map] at h0
    obtain ⟨b, off, hA, hb, hcell⟩ := hr h0
    obtain ⟨rfl, _⟩ : A = A' ∧ cap = cap' := by simpa using he
    refine ⟨rfl, _, hA, fun j u hu => ?_⟩
    rw [addr_add]
    refine hcell j u ?_
    rw [bytes_eq]; exact hu)
  have Hl1 := Lib.hid (show (bs.map C).length = Nat.min bs.length s by rw [List.length_map]; have := Hs3.out; exact (Nat.min_eq_left (by omega)).symm)
  have Hl2 := Lib.hid (show 0 + (bs.map C).length ≤ ((List.replicate s (0 : B)).map C).length by rw [List.length_map, List.length_map, List.length_replicate]; have := Hs3.out; omega)
  have Hl3 := Lib.hid (show ∀ v ∈ bs.map C, v.oneCell' = true by intro v hv; obtain ⟨x, _, rfl⟩ := List.mem_map.1 hv; rfl)
  go_upto_region 3 with (refine wpList_copy_splice rfl (.tmp 10) (.tmp 11) TS8 TS8 rfl TU8 Try.underlying28 (by kernel_rfl) (some ⟨g, 0, none⟩) A s s bs.length cap rfl rfl g 0 ((List.replicate s (0 : B)).map C) TU8 HB1.out (bs.map C) Hl1.out Hpos.out Hl2.out Hl3.out w.heap.size w (Gr.below HG1.out) Hge.out ?_; intro w2 hb2 hbel; have HB2 := hb2; have HG2 := Lib.hid (Fr.of_below hbel (Nat.le_refl _)); clear hb2 hbel)
  rw [Hwd.out] at HB2
  go_upto_block 0 with (fail)
  go_wp2_with fail
  go_loopg [5] 4 (fun m s5 wr => ∃ (j i : Nat), s5 = .int .i64 i ∧ Hid (j ≤ 3 ∧ i = bs.length + j ∧ 3 - j < m) ∧ Hid (Blk wr g TU8 (brr (wd bs j)) ∧ Gr w wr))
  case atStart => exact ⟨0, bs.length, by simp [goInt], ⟨by omega, by omega, by omega⟩, HB2.out, HG2.out⟩
  case round =>
    obtain ⟨j, i, rfl, HJ, HP⟩ := hrel
    have hil : (i : Int) ≤ 4194310 := by have := HJ.out; omega
    by_cases hj : j < 3
    · have hlt : (i : Int) < (s : Int) := by have := HJ.out; have := Hs3.out; omega
      have q0 := bcell HP.out.1 (i := i) (by rw [wd_len _ _ HJ.out.1]; have := HJ.out; omega)
      have q1 := HP.out.1.frozen i
      go_wp2_with fail
      go_roundg (gk - 1)
      case measure => have := HJ.out; omega
      case rel =>
        refine ⟨j + 1, i + 1, by go_num, ⟨hj, by have := HJ.out; omega, by have := HJ.out; omega⟩, ?_, HP.out.2.setCell (p := ⟨g, i, none⟩) (by have := Hge.out; simp; omega) _⟩
        have h := HP.out.1.set_ i (C 7#8)
        rw [brr_set, HJ.out.2.1, wd_set _ _ hj, ← HJ.out.2.1] at h
        exact h
    · obtain rfl : j = 3 := by have := HJ.out; omega
      have hlt : decide (i < s) = false := decide_eq_false (by have := HJ.out; have := Hs3.out; omega)
      have hs1 := fun w => Hs1.out g w
      go_wp2_with fail
      go_ret
      refine ⟨g, ?_, Hge.out, HP.out.1, HP.out.2⟩
      rw [show bs.length + 3 = s from Hs3.out.symm]
      rfl

theorem write_any {w : World} {base p : Nat} {lv : Value} {all : List B} (H : HSt w base p lv all) (v : Value) {xs : List B} (hs : SL eb w v xs) (hv : 0 < xs.length → v.ownBlock ≠ some p) (hx : xs.length ≤ 4194304) (hn : all.length ≤ 4194304) (hb : base ≤ w.heap.size) :
    Calls Try.prog 19 #[.pointer (some ⟨p, 0, none⟩), v] w fun e w' => e = .returned (.int .i64 0) ∧ ∃ lv', HSt w' base p lv' (all ++ xs) ∧ Fr w w' (TS p lv) ∧ (∀ k, lv'.ownBlock = some k → w.heap.size ≤ k) := by
  have c0 := H.c0
  have HT := Lib.hid (take_any (H := H) v hs hv (by have := rem_len all; omega) hx hn hb)
  clear hs hv hx hn hb
  go_enter Try.func19, Try.ntmps19
  go_wp2_with (go_at_call 34; refine HT.out.mono ?_; rintro e w2 ⟨rfl, lv', hh, hf, ho⟩; have HH := Lib.hid hh; have HF := Lib.hid hf; have HO := Lib.hid ho; clear hh hf ho)
  go_ret
  refine ⟨rfl, lv', ?_, HF.out, HO.out⟩
  have h := HH.out
  rw [take_stt, take_rem, ← List.length_append] at h
  exact h

theorem left_any (g : Nat) (v : Value) (bs : List B) (w : World) (hb : Blk w g TU8 (brr (wd bs 3))) (hs : SL eb w v bs) (hn : bs.length ≤ 4194304) :
    Calls Try.prog 23 #[.slice (some ⟨g, 0, none⟩) bs.length (bs.length + 3), v] w fun e w' => e = .returned (.bool true) ∧ Dr w w' := by
  obtain ⟨i0, hi0, hz0, hz1, hz2⟩ := info_parts info_b
  obtain ⟨s, hs3⟩ : ∃ s, s = bs.length + 3 := ⟨_, rfl⟩
  have HW := Lib.hid (show SL eb w (.slice (some ⟨g, 0, none⟩) bs.length s) bs from by
    have h := sl_blk hb (by rw [wd_len _ _ (Nat.le_refl _)]; unfold maxLen; omega) bs.length (by rw [wd_len _ _ (Nat.le_refl _)]; omega)
    rw [wd_take, wd_len _ _ (Nat.le_refl _), ← hs3] at h
    exact h)
  rw [← hs3]
  have HS := Lib.hid hs
  obtain ⟨A, cap, rfl, _⟩ := hs.len
  have Hn := Lib.hid hn
  have hn' : (bs.length : Int) ≤ 4194304 := by omega
  have e3 : (bs.length : Int) + 3 = (s : Int) := by omega
  have hsl := fun w => run_slice_to (P := Try.prog) TS8 TU8 i0 Try.underlying28 hi0 (some ⟨g, 0, none⟩) bs.length s s (Nat.le_refl _) w
  have hdec : decide (bs = bs) = true := decide_eq_true rfl
  have HB := Lib.hid hb
  have hl1 : (bs.length : Int) < (s : Int) := by omega
  have hl2 : (bs.length : Int) + 1 < (s : Int) := by omega
  have hl3 : (bs.length : Int) + 2 < (s : Int) := by omega
  have e1 : ((bs.length : Int) + 1).toNat = bs.length + 1 := by omega
  have e2 : ((bs.length : Int) + 2).toNat = bs.length + 2 := by omega
  have hl4 : (0 : Int) ≤ (bs.length : Int) + 1 := by omega
  have hl5 : (0 : Int) ≤ (bs.length : Int) + 2 := by omega
  have Hsame := Lib.hid (same_any _ _ bs bs w HW.out HS.out (by omega))
  rw [hdec] at Hsame
  clear hs hn hs3 hdec hb hi0 hz0 hz1 hz2
  go_enter Try.func23, Try.ntmps23
  go_upto_region 4 with (go_at_call 17; refine Hsame.out.mono ?_; rintro e w2 ⟨rfl, hd⟩; have HD := Lib.hid hd; clear hd)
  have HB2 := Lib.hid (HB.out.fr HD.out.gr (fun h => h))
  have k0 : w2.cell? ⟨g, bs.length, none⟩ = some (.int .u8 7) := by
    have h := bcell HB2.out (i := bs.length + 0) (by rw [wd_len _ _ (Nat.le_refl _)]; omega)
    rw [wd_at bs 0 (by decide)] at h
    exact h
  have k1 : w2.cell? ⟨g, bs.length + 1, none⟩ = some (.int .u8 7) := by
    have h := bcell HB2.out (i := bs.length + 1) (by rw [wd_len _ _ (Nat.le_refl _)]; omega)
    rw [wd_at bs 1 (by decide)] at h
    exact h
  have k2 : w2.cell? ⟨g, bs.length + 2, none⟩ = some (.int .u8 7) := by
    have h := bcell HB2.out (i := bs.length + 2) (by rw [wd_len _ _ (Nat.le_refl _)]; omega)
    rw [wd_at bs 2 (by decide)] at h
    exact h
  go_wp2_with fail
  go_ret
  exact ⟨rfl, HD.out⟩

def IsB (u : Value) : Prop := ∃ x : Int, u = .int .u8 x
set_option maxHeartbeats 1600000 in
theorem spoil_any (g n cap : Nat) (cur : Array Value) (b : Int) (w : World) (hb : Blk w g TU8 cur) (hc : cur.size = cap) (hI : ∀ u ∈ cur.toList, IsB u) (hn : n ≤ cap) (hcap : cap ≤ 8388608) :
    Calls Try.prog 24 #[.slice (some ⟨g, 0, none⟩) n cap, .int .u8 b] w fun e w' => e = .returned (.tuple #[]) ∧ Fr w w' (fun k => k = g) := by
  obtain ⟨i0, hi0, hz0, hz1, hz2⟩ := info_parts info_b
  have HB := Lib.hid hb
  have HT := Lib.hid hI
  have Hsz := Lib.hid hc
  have hcm' : (cap : Int) ≤ 8388608 := by omega
  have Hnc := Lib.hid hn
  have hs1 := fun w => run_slice_to (P := Try.prog) TS8 TU8 i0 Try.underlying28 hi0 (some ⟨g, 0, none⟩) n cap cap (Nat.le_refl _) w
  clear hb hI hc hn hcap hi0 hz0 hz1 hz2
  go_enter Try.func24, Try.ntmps24
  go_wp2_with fail
  go_loopg [4] (cap + 1) (fun m s4 wr => ∃ (k : Nat) (cs : Array Value), s4 = .int .i64 k ∧ Hid (k ≤ cap ∧ cap - k < m) ∧ Hid (Blk wr g TU8 cs ∧ cs.size = cap ∧ ∀ u ∈ cs.toList, IsB u) ∧ Hid (Fr w wr (fun k => k = g)))
  case atStart => exact ⟨0, cur, rfl, ⟨Nat.zero_le _, by omega⟩, ⟨HB.out, Hsz.out, HT.out⟩, Fr.refl _ _⟩
  case round =>
    obtain ⟨k, cs, rfl, HK, HC, HF⟩ := hrel
    by_cases hk : k < cap
    · have hlt : k < cs.size := by rw [HC.out.2.1]; exact hk
      obtain ⟨x, hx⟩ := HC.out.2.2 cs[k] (Array.mem_toList_iff.2 (Array.getElem_mem hlt))
      have c1 : wr.cell? ⟨g, k, none⟩ = some (.int .u8 x) := by rw [HC.out.1.cell, Array.getElem?_eq_getElem hlt, hx]
      have f1 := HC.out.1.frozen k
      have hki : (k : Int) < (cap : Int) := by omega
      clear hx hlt
      go_wp2_with fail
      go_roundg (gk - 1)
      case measure => have := HK.out; omega
      case rel =>
        refine ⟨k + 1, _, by go_num, ⟨hk, by have := HK.out; omega⟩, ⟨HC.out.1.set_ k _, ?_, ?_⟩, HF.out.setCell (p := ⟨g, k, none⟩) (fun _ => rfl) _⟩
        · rw [Array.size_setIfInBounds]; exact HC.out.2.1
        · intro u hu
          rw [Array.toList_setIfInBounds] at hu
          rcases List.mem_or_eq_of_mem_set hu with h | h
          · exact HC.out.2.2 u h
          · exact ⟨_, h⟩
    · have hki : decide ((k : Int) < (cap : Int)) = false := decide_eq_false (by omega)
      go_wp2_with fail
      go_end0
      exact ⟨rfl, HF.out⟩
theorem brr_isb (l : List B) : ∀ u ∈ (brr l).toList, IsB u := by
  intro u hu
  simp [brr] at hu
  obtain ⟨x, _, rfl⟩ := hu
  exact ⟨_, rfl⟩
end Sha
end Go.Proofs.Ytfpgfnmidkkgjaa
