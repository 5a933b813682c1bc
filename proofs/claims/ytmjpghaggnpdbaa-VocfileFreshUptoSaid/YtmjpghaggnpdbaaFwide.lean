/- The reference's Wide and Left. -/
import Derived.Test.YtmjpghaggnpdbaaVTa
import Derived.Test.YtmjpghaggnpdbaaFsame
import Derived.Laws.CopyOwn
set_option linter.unusedVariables false
set_option linter.unusedSimpArgs false
namespace Go.Proofs.Ytmjpghaggnpdbaa
open Go.RowKit
namespace Voc
def bcs (l : List Int) : Array Value := (l.map (Value.int .u8)).toArray
theorem bcs_get (l : List Int) (i : Nat) : (bcs l)[i]? = (l[i]?).map (Value.int .u8) := by simp [bcs]
theorem bcs_set (l : List Int) (i : Nat) (x : Int) : (bcs l).setIfInBounds i (.int .u8 x) = bcs (l.set i x) := by
  unfold bcs; rw [List.map_set]; simp
theorem wcellB {wr : World} {g i : Nat} {t : TypeId} {l : List Int} (h : Blk wr g t (bcs l)) (hi : i < l.length) : wr.cell? ⟨g, i, none⟩ = some (.int .u8 (l.getD i 0)) := by
  rw [h.cell, bcs_get, List.getD_eq_getElem?_getD, List.getElem?_eq_getElem hi]; rfl
theorem flat_encB (l : List Int) : l.flatMap encB = l.map (Value.int .u8) := by induction l with
  | nil => rfl
  | cons x r ih => rw [List.flatMap_cons, ih]; rfl
theorem own_bcs {w : World} {g base : Nat} {l : List Int} (h : Blk w g 5 (bcs l)) (hb : base ≤ g) (hm : l.length ≤ maxLen) : w.ownsRow base 5 1 (.slice (some ⟨g, 0, none⟩) l.length l.length) l.length (l.flatMap encB) := by
  refine ⟨by simp [flat_encB], .inr ⟨g, l.length, bcs l, rfl, hb, h, Nat.le_refl _, hm, by simp [bcs], ?_⟩⟩
  rw [flat_encB, Nat.mul_one]
  simp only [bcs]
  rw [List.take_of_length_le (by simp)]
/-- what Wide lays: of three bytes 7 behind the bytes j are laid -/
def wd (bs : List Int) (j : Nat) : List Int := bs ++ (List.replicate j 7 ++ List.replicate (3 - j) 0)
theorem wd_len (bs : List Int) (j : Nat) (h : j ≤ 3) : (wd bs j).length = bs.length + 3 := by simp [wd]; omega
theorem wd_set (bs : List Int) (j : Nat) (h : j < 3) : (wd bs j).set (bs.length + j) 7 = wd bs (j + 1) := by
  unfold wd
  rw [List.set_append_right _ _ (by omega), Nat.add_sub_cancel_left]
  match j, h with
  | 0, _ | 1, _ | 2, _ => rfl
theorem wd_at (bs : List Int) (j : Nat) (h : j < 3) : (wd bs 3).getD (bs.length + j) 0 = 7 := by
  unfold wd
  rw [List.getD_eq_getElem?_getD, List.getElem?_append_right (by omega), Nat.add_sub_cancel_left]
  match j, h with
  | 0, _ | 1, _ | 2, _ => rfl
theorem wd_take (bs : List Int) : (wd bs 3).take bs.length = bs := by unfold wd; rw [List.take_left' rfl]
theorem made_b (i0 : TypeInfo) (hz1 : i0.size = 1) (s : Nat) : madeCells (Value.int .u8 0).cells (((s : Nat) : Int).toNat * i0.size) = bcs (List.replicate s 0) := by
  rw [hz1]
  simp [madeCells, bcs, Value.cells]
  apply Array.ext_getElem?
  intro j
  simp only [Array.getElem?_map, Array.getElem?_range, Array.getElem?_replicate]
  split
  · simp [Nat.mod_one]
  · rfl
/-- a block that reads as a slice of its beginning -/
theorem sl_blk {w : World} {g : Nat} {l : List Int} (h : Blk w g 5 (bcs l)) (hm : l.length ≤ maxLen) (k : Nat) (hk : k ≤ l.length) : SL encB w (.slice (some ⟨g, 0, none⟩) k l.length) (l.take k) :=
  SL.take (SL.of_own (enc := encB) (own_bcs h (Nat.zero_le _) hm) rfl) hk

set_option maxHeartbeats 1600000 in
theorem wide_any (v : Value) (bs : List Int) (w : World) (hs : SL encB w v bs) (hn : bs.length ≤ 4194304) :
    Calls Try.prog 16 #[v] w fun e w' => ∃ g, e = .returned (.slice (some ⟨g, 0, none⟩) bs.length (bs.length + 3)) ∧ w.heap.size ≤ g ∧ Blk w' g 5 (bcs (wd bs 3)) ∧ Gr w w' := by
  obtain ⟨i0, hi0, hz0, hz1, hz2⟩ := info_parts info_u8
  have HS := Lib.hid hs
  obtain ⟨A, cap, rfl, _⟩ := hs.len
  have Hn := Lib.hid hn
  have hn' : (bs.length : Int) ≤ 4194304 := by omega
  obtain ⟨s, hs3⟩ : ∃ s, s = bs.length + 3 := ⟨_, rfl⟩
  have e3 : (bs.length : Int) + 3 = (s : Int) := by omega
  have Hs3 := Lib.hid hs3
  have hs' : s ≤ 4194307 := by omega
  have hmk := fun w => run_make (P := Try.prog) w 22 5 i0 (.int .u8 0) Try.underlying22 hi0 hz0 .i64 .i64 (s : Nat) (s : Nat) (by omega) (by omega) (by rw [hz2]; omega) (by omega)
  rw [made_b i0 hz1] at hmk
  simp only [Int.toNat_natCast] at hmk
  have hsi : (s : Int) ≤ 4194307 := by omega
  have Hs1 := Lib.hid (fun g w => run_slice_to (P := Try.prog) 22 5 i0 Try.underlying22 hi0 (some ⟨g, 0, none⟩) s s bs.length (by omega) w)
  clear hs hn hs3 hs' hi0 hz0 hz1 hz2
  go_enter Try.func16, Try.ntmps16
  go_upto_region 2 with (fail)
  clear e3
  have HB1 := Lib.hid (Blk.new w 5 (bcs (List.replicate s 0)))
  have HG1 := Lib.hid ((Fr.refl w NoneS).alloc (.cells (bcs (List.replicate s 0)) 5))
  have Hg := Lib.hid (Nat.le_refl w.heap.size)
  generalize hg : w.heap.size = g at HB1 ⊢
  have Hge := Lib.hid (show w.heap.size ≤ g by omega)
  generalize World.alloc w _ = w1 at HB1 HG1 ⊢
  have HS1 := Lib.hid (HS.out.gr HG1.out)
  have Hwd := Lib.hid (show splice ((List.replicate s (0 : Int)).map (Value.int .u8)) 0 (bs.map (Value.int .u8)) = (wd bs 0).map (Value.int .u8) from by
    have := Hs3.out
    simp [splice, wd, this])
  have Hg2 := Lib.hid hg
  clear hg hmk
  have Hpos := Lib.hid (show 0 < (bs.map (Value.int .u8)).length → some (⟨g, 0, none⟩ : Addr) = some ⟨g, 0, none⟩ ∧ ∃ ad, A = some ad ∧ ∀ j u, (bs.map (Value.int .u8))[j]? = some u → w1.cell? (ad.add j) = some u from by
    intro h0
    obtain ⟨A', cap', he, hc', hr⟩ := HS1.out
    rw [List.length_map] at h0
    obtain ⟨b, off, hA, hb, hcell⟩ := hr h0
    obtain ⟨rfl, _⟩ : A = A' ∧ cap = cap' := by simpa using he
    refine ⟨rfl, _, hA, fun j u hu => ?_⟩
    rw [addr_add]
    refine hcell j u ?_
    rw [flat_encB]; exact hu)
  have Hl1 := Lib.hid (show (bs.map (Value.int .u8)).length = Nat.min bs.length s by rw [List.length_map]; have := Hs3.out; exact (Nat.min_eq_left (by omega)).symm)
  have Hl2 := Lib.hid (show 0 + (bs.map (Value.int .u8)).length ≤ ((List.replicate s (0 : Int)).map (Value.int .u8)).length by rw [List.length_map, List.length_map, List.length_replicate]; have := Hs3.out; omega)
  have Hl3 := Lib.hid (show ∀ v ∈ bs.map (Value.int .u8), v.oneCell' = true by intro v hv; obtain ⟨x, _, rfl⟩ := List.mem_map.1 hv; rfl)
  go_upto_region 3 with (refine wpList_copy_splice rfl (.tmp 10) (.tmp 11) 22 22 rfl 5 Try.underlying22 (by kernel_rfl) (some ⟨g, 0, none⟩) A s s bs.length cap rfl rfl g 0 ((List.replicate s (0 : Int)).map (Value.int .u8)) 5 HB1.out (bs.map (Value.int .u8)) Hl1.out Hpos.out Hl2.out Hl3.out w.heap.size w (Gr.below HG1.out) Hge.out ?_; intro w2 hb2 hbel; have HB2 := hb2; have HG2 := Lib.hid (Fr.of_below hbel (Nat.le_refl _)); clear hb2 hbel)
  rw [Hwd.out] at HB2
  go_upto_block 0 with (fail)
  go_wp2_with fail
  go_loopg [5] 4 (fun m s5 wr => ∃ (j i : Nat), s5 = .int .i64 i ∧ Hid (j ≤ 3 ∧ i = bs.length + j ∧ 3 - j < m) ∧ Hid (Blk wr g 5 (bcs (wd bs j)) ∧ Gr w wr))
  case atStart => exact ⟨0, bs.length, by simp [goInt], ⟨by omega, by omega, by omega⟩, HB2.out, HG2.out⟩
  case round =>
    obtain ⟨j, i, rfl, HJ, HP⟩ := hrel
    have hil : (i : Int) ≤ 4194310 := by have := HJ.out; omega
    by_cases hj : j < 3
    · have hlt : (i : Int) < (s : Int) := by have := HJ.out; have := Hs3.out; omega
      have q0 := wcellB HP.out.1 (i := i) (by rw [wd_len _ _ HJ.out.1]; have := HJ.out; omega)
      have q1 := HP.out.1.frozen i
      go_wp2_with fail
      go_roundg (gk - 1)
      case measure => have := HJ.out; omega
      case rel =>
        refine ⟨j + 1, i + 1, by go_num, ⟨hj, by have := HJ.out; omega, by have := HJ.out; omega⟩, ?_, HP.out.2.setCell (p := ⟨g, i, none⟩) (by have := Hge.out; simp; omega) _⟩
        have h := HP.out.1.set_ i ((.int .u8 7))
        rw [bcs_set, HJ.out.2.1, wd_set _ _ hj, ← HJ.out.2.1] at h
        exact h
    · obtain rfl : j = 3 := by have := HJ.out; omega
      have hlt : decide (i < s) = false := decide_eq_false (by have := HJ.out; have := Hs3.out; omega)
      have hs1 := fun w => Hs1.out g w
      go_wp2_with fail
      go_ret
      refine ⟨g, ?_, Hge.out, HP.out.1, HP.out.2⟩
      rw [show bs.length + 3 = s from Hs3.out.symm]
      rfl

theorem left_any (g : Nat) (v : Value) (bs : List Int) (w : World) (hb : Blk w g 5 (bcs (wd bs 3))) (hs : SL encB w v bs) (hn : bs.length ≤ 4194304) :
    Calls Try.prog 17 #[.slice (some ⟨g, 0, none⟩) bs.length (bs.length + 3), v] w fun e w' => e = .returned (.bool true) ∧ Dr w w' := by
  obtain ⟨i0, hi0, hz0, hz1, hz2⟩ := info_parts info_u8
  obtain ⟨s, hs3⟩ : ∃ s, s = bs.length + 3 := ⟨_, rfl⟩
  have HW := Lib.hid (show SL encB w (.slice (some ⟨g, 0, none⟩) bs.length s) bs from by
    have h := sl_blk hb (by rw [wd_len _ _ (Nat.le_refl _)]; unfold maxLen; omega) bs.length (by rw [wd_len _ _ (Nat.le_refl _)]; omega)
    rw [wd_take, wd_len _ _ (Nat.le_refl _), ← hs3] at h
    exact h)
  rw [← hs3]
  have HS := Lib.hid hs
  obtain ⟨A, cap, rfl, _⟩ := hs.len
  have Hn := Lib.hid hn
  have hn' : (bs.length : Int) ≤ 4194304 := by omega
  have e3 : (bs.length : Int) + 3 = (s : Int) := by omega
  have hsl := fun w => run_slice_to (P := Try.prog) 22 5 i0 Try.underlying22 hi0 (some ⟨g, 0, none⟩) bs.length s s (Nat.le_refl _) w
  have hdec : decide (bs = bs) = true := decide_eq_true rfl
  have HB := Lib.hid hb
  have hl1 : (bs.length : Int) < (s : Int) := by omega
  have hl2 : (bs.length : Int) + 1 < (s : Int) := by omega
  have hl3 : (bs.length : Int) + 2 < (s : Int) := by omega
  have e1 : ((bs.length : Int) + 1).toNat = bs.length + 1 := by omega
  have e2 : ((bs.length : Int) + 2).toNat = bs.length + 2 := by omega
  have hl4 : (0 : Int) ≤ (bs.length : Int) + 1 := by omega
  have hl5 : (0 : Int) ≤ (bs.length : Int) + 2 := by omega
  have Hsame := Lib.hid (same_any _ _ bs bs w HW.out HS.out (by omega))
  rw [hdec] at Hsame
  clear hs hn hs3 hdec hb hi0 hz0 hz1 hz2
  go_enter Try.func17, Try.ntmps17
  go_upto_region 4 with (go_at_call 14; refine Hsame.out.mono ?_; rintro e w2 ⟨rfl, hd⟩; have HD := Lib.hid hd; clear hd)
  have HB2 := Lib.hid (HB.out.fr HD.out.gr (fun h => h))
  have k0 : w2.cell? ⟨g, bs.length, none⟩ = some (.int .u8 7) := by
    have h := wcellB HB2.out (i := bs.length + 0) (by rw [wd_len _ _ (Nat.le_refl _)]; omega)
    rw [wd_at bs 0 (by decide)] at h
    exact h
  have k1 : w2.cell? ⟨g, bs.length + 1, none⟩ = some (.int .u8 7) := by
    have h := wcellB HB2.out (i := bs.length + 1) (by rw [wd_len _ _ (Nat.le_refl _)]; omega)
    rw [wd_at bs 1 (by decide)] at h
    exact h
  have k2 : w2.cell? ⟨g, bs.length + 2, none⟩ = some (.int .u8 7) := by
    have h := wcellB HB2.out (i := bs.length + 2) (by rw [wd_len _ _ (Nat.le_refl _)]; omega)
    rw [wd_at bs 2 (by decide)] at h
    exact h
  go_wp2_with fail
  go_ret
  exact ⟨rfl, HD.out⟩
end Voc
end Go.Proofs.Ytmjpghaggnpdbaa
