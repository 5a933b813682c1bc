/- sha: behind, New, Copy. -/
import Derived.Test.YtmjpghaggnpdbaaHWc
import Derived.Test.YtmjpghaggnpdbaaHSpec
import Derived.Laws.MakeOwn
set_option linter.unusedVariables false
set_option linter.unusedSimpArgs false
namespace Go.Proofs.Ytmjpghaggnpdbaa
open Go.RowKit
namespace Sha
abbrev TU8 : TypeId := 5
abbrev TS8 : TypeId := 22
abbrev TH : TypeId := 105
abbrev TD : TypeId := 67
/-- a byte's cells -/
def eb (x : B) : List Value := [C x]
theorem info_b : (Try.prog.info? TU8).map (fun i => (i.zero, i.size, i.bytes)) = some (some (.int .u8 0), 1, 1) := by kernel_rfl

theorem bytes_eq (l : List B) : l.flatMap eb = l.map C := by induction l with
  | nil => rfl
  | cons x r ih => rw [List.flatMap_cons, ih]; rfl
/-- a block of bytes is a row -/
theorem own_blk {w : World} {g base : Nat} {l : List B} (h : Blk w g TU8 (brr l)) (hb : base ≤ g) (hm : l.length ≤ maxLen) : w.ownsRow base TU8 1 (.slice (some ⟨g, 0, none⟩) l.length l.length) l.length (l.flatMap eb) := by
  refine ⟨by simp [bytes_eq], .inr ⟨g, l.length, brr l, rfl, hb, h, Nat.le_refl _, hm, by simp [brr], ?_⟩⟩
  rw [bytes_eq, Nat.mul_one]
  simp only [brr]
  rw [List.take_of_length_le (by simp)]

theorem pby_val (n i : Nat) : (8 * (n : Int)) / 2 ^ (8 * i) % 256 = ((pby n i).toNat : Int) := by
  unfold pby
  rw [BitVec.toNat_ofNat]
  simp

set_option maxHeartbeats 800000 in
theorem behind_any (n : Nat) (hn : n ≤ 1099511627776) (w : World) :
    Calls Try.prog 65 #[.int .i64 n] w fun e w' => ∃ g, e = .returned (.slice (some ⟨g, 0, none⟩) (psize n) (psize n)) ∧ w.heap.size ≤ g ∧ Blk w' g TU8 (brr (pad n)) ∧ Gr w w' := by
  obtain ⟨i0, hi0, hz0, hz1, hz2⟩ := info_parts info_b
  have hn' : (n : Int) ≤ 1099511627776 := by omega
  have hps := psize_mod n
  have hps1 : -(((n : Int) + 9) % 64) % 64 + 9 = ((psize n : Nat) : Int) := by unfold psize; omega
  have Hps1 := Lib.hid hps1
  have hmk := fun w => run_make (P := Try.prog) w TS8 TU8 i0 (.int .u8 0) Try.underlying22 hi0 hz0 .i64 .i64 (psize n : Nat) (psize n : Nat) (by omega) (by omega) (by rw [hz2]; omega) (by omega)
  have hz : madeCells (Value.int .u8 0).cells (((psize n : Nat) : Int).toNat * i0.size) = brr (List.replicate (psize n) 0) := by
    rw [hz1]
    simp [madeCells, brr, Value.cells]
    apply Array.ext_getElem?
    intro j
    simp only [Array.getElem?_map, Array.getElem?_range, Array.getElem?_replicate]
    split
    · simp [Nat.mod_one]
    · rfl
  rw [hz] at hmk
  simp only [Int.toNat_natCast] at hmk
  clear hps1 hz hz0 hz1 hz2 hi0
  have Hpad0 := Lib.hid (show (List.replicate (psize n) (0 : B)).set 0 128#8 = padI n 0 from rfl)
  have Hpads := Lib.hid (show ∀ i, (padI n i).set (psize n - 1 - i) (pby n i) = padI n (i + 1) from fun _ => rfl)
  have Hpl := Lib.hid (padI_len n)
  have Hpad : Hid (pad n = padI n 8) := Lib.hid rfl
  generalize psize n = s at hps Hps1 hmk Hpad0 Hpads Hpl ⊢
  obtain ⟨hs1, hs2, hs3⟩ := hps
  clear hs1
  have hs4 : (0 : Int) < s := by omega
  have hs5 : (s : Int) ≤ 72 := by omega
  have hs6 : (9 : Int) ≤ s := by omega
  go_enter Try.func65, Try.ntmps65
  go_upto_region 2 with (fail)
  rw [Hps1.out]
  go_upto_region 3 with (fail)
  have HB0 := Lib.hid (Blk.new w TU8 (brr (List.replicate s 0)))
  have HG0 := Lib.hid ((Fr.refl w NoneS).alloc (.cells (brr (List.replicate s 0)) TU8))
  generalize hg : w.heap.size = g at HB0 ⊢
  generalize World.alloc w _ = w1 at HB0 HG0 ⊢
  have Hg := Lib.hid (show w.heap.size ≤ g by rw [hg]; exact Nat.le_refl _)
  clear hg
  have q0 : w1.cell? ⟨g, 0, none⟩ = some (C 0) := by
    rw [HB0.out.cell, brr_get, List.getElem?_replicate, if_pos (by omega)]; rfl
  have q1 := HB0.out.frozen 0
  go_upto_block 0 with (fail)
  have HB1 := Lib.hid (show Blk (w1.setCell ⟨g, 0, none⟩ (.int .u8 128)) g TU8 (brr (padI n 0)) from by
    have h := HB0.out.set_ 0 (C 128#8)
    rw [brr_set, Hpad0.out] at h
    exact h)
  have HG1 := Lib.hid (HG0.out.setCell (p := ⟨g, 0, none⟩) (by have := Hg.out; simp; omega) (.int .u8 128))
  generalize World.setCell w1 _ _ = w2 at HB1 HG1 ⊢
  clear q0 q1 HB0 HG0
  go_wp2_with fail
  go_loopg [16] 9 (fun m s16 wr => ∃ (i : Nat), s16 = .int .i64 i ∧ Hid (i ≤ 8 ∧ 8 - i < m) ∧ Hid (Blk wr g TU8 (brr (padI n i)) ∧ Gr w wr))
  case atStart => exact ⟨0, rfl, ⟨by omega, by omega⟩, HB1.out, HG1.out⟩
  case round =>
    obtain ⟨i, rfl, HI, HP⟩ := hrel
    by_cases hi : i < 8
    · have hi1 : (i : Int) < 8 := by omega
      have q0 := bcell HP.out.1 (i := s - 1 - i) (by rw [Hpl.out]; omega)
      have q1 := HP.out.1.frozen (s - 1 - i)
      have u1 : (s : Int) - 1 - (i : Int) = ((s - 1 - i : Nat) : Int) := by omega
      have u2 : ((s - 1 - i : Nat) : Int) < s := by omega
      go_wp2_with fail
      go_roundg (gk - 1)
      case measure => have := HI.out; omega
      case rel =>
        refine ⟨i + 1, by go_num, ⟨by omega, by have := HI.out; omega⟩, ?_⟩
        rw [pby_val]
        refine ⟨?_, HP.out.2.setCell (p := ⟨g, s - 1 - i, none⟩) (by have := Hg.out; simp; omega) _⟩
        have h := HP.out.1.set_ (s - 1 - i) (C (pby n i))
        rw [brr_set, Hpads.out] at h
        exact h
    · obtain rfl : i = 8 := by have := HI.out; omega
      go_wp2_with fail
      go_ret
      refine ⟨_, rfl, Hg.out, ?_, HP.out.2⟩
      rw [Hpad.out]
      exact HP.out.1

/-- a hash's cells -/
def hcs (st : List U) (lv : Value) (n : Nat) : Array Value := (Value.bool true :: st.map V ++ [lv, .int .i64 (n : Int)]).toArray
/-- a hash of these words, this left-over, so many bytes -/
structure HB (w : World) (base p : Nat) (st : List U) (lv : Value) (n : Nat) (rest : List B) : Prop where
  bs : base ≤ p
  blk : Blk w p TH (hcs st lv n)
  own : w.ownsRow base TU8 1 lv rest.length (rest.flatMap eb)
  len : st.length = 8
  n0 : n < 2 ^ 60
section
variable {w w' : World} {base p n : Nat} {st : List U} {lv : Value} {rest : List B}
theorem HB.c0 (H : HB w base p st lv n rest) : w.cell? ⟨p, 0, none⟩ = some (.bool true) := by rw [H.blk.cell]; simp [hcs]
theorem HB.c9 (H : HB w base p st lv n rest) : w.cell? ⟨p, 9, none⟩ = some lv := by
  rw [H.blk.cell]; have := H.len; simp [hcs, this]
theorem HB.c10 (H : HB w base p st lv n rest) : w.cell? ⟨p, 10, none⟩ = some (.int .i64 (n : Int)) := by
  rw [H.blk.cell]; have := H.len; simp [hcs, this]
theorem HB.ne (H : HB w base p st lv n rest) : lv.ownBlock ≠ some p := own_blk_ne H.own H.blk (by decide)
theorem HB.gr' (H : HB w base p st lv n rest) (hg : Gr w w') : HB w' base p st lv n rest :=
  ⟨H.bs, H.blk.fr hg (fun h => h), hg.owns H.own (fun _ _ h => h), H.len, H.n0⟩
theorem HB.range (H : HB w base p st lv n rest) : w.rangeAt p 1 (st.map V) := by
  intro j v hj
  rw [H.blk.cell]
  have hl : j < st.length := by have := (List.getElem?_eq_some_iff.1 hj).1; simpa using this
  unfold hcs
  rw [List.getElem?_toArray, Nat.add_comm, List.cons_append, List.getElem?_cons_succ, List.getElem?_append_left (by simpa using hl)]
  exact hj
end

theorem new_any (w : World) :
    Calls Try.prog 51 #[] w fun e w' => ∃ p, e = .returned (.pointer (some ⟨p, 0, none⟩)) ∧ HB w' w.heap.size p HU (.slice none 0 0) 0 [] ∧ Gr w w' := by
  go_enter Try.func51, Try.ntmps51
  go_wp2_with (first
    | (go_at_call 62; refine (begin_any _).mono ?_; rintro e w1 ⟨rfl, hg1⟩; have HG1 := Lib.hid hg1; clear hg1)
    | refine wpList_build_to rfl _ _ rfl (hcs HU (.slice none 0 0) 0) (by kernel_rfl) ?_)
  go_ret
  exact ⟨_, rfl, ⟨HG1.out.size, Blk.new _ _ _, World.ownsRow_nil _ _ _ _, rfl, by decide⟩, HG1.out.alloc _⟩

theorem eb_one : ∀ x : B, ∀ u ∈ eb x, u.oneCell' = true := by intro x u hu; simp [eb] at hu; subst hu; rfl
theorem hcs_size (st : List U) (lv : Value) (n : Nat) (h : st.length = 8) : (hcs st lv n).size = 11 := by simp [hcs, h]
theorem hcs_one (st : List U) (lv : Value) (n : Nat) (h : lv.oneCell' = true) : (hcs st lv n).all (·.oneCell') = true := by
  simp [hcs, Value.oneCell', h]
  cases lv <;> first | rfl | simp_all [Value.oneCell']
theorem own_one {w : World} {base n : Nat} {lv : Value} {xs : List Value} (h : w.ownsRow base TU8 1 lv n xs) : lv.oneCell' = true := by
  rcases h.2 with ⟨rfl, _⟩ | ⟨g, cap, cur, rfl, _⟩ <;> rfl
theorem hcs_set9 (st : List U) (lv lv' : Value) (n : Nat) (h : st.length = 8) : (hcs st lv n).setIfInBounds 9 lv' = hcs st lv' n := by
  unfold hcs
  rw [List.setIfInBounds_toArray]
  congr 1
  rw [List.set_append_right _ _ (by simp [h])]
  simp [h]
theorem hcs_set10 (st : List U) (lv : Value) (n m : Nat) (h : st.length = 8) : (hcs st lv n).setIfInBounds 10 (.int .i64 (m : Int)) = hcs st lv m := by
  unfold hcs
  rw [List.setIfInBounds_toArray]
  congr 1
  rw [List.set_append_right _ _ (by simp [h])]
  simp [h]

theorem own_form {w : World} {base n : Nat} {lv : Value} {xs : List Value} (h : w.ownsRow base TU8 1 lv n xs) : ∃ A cap, lv = .slice A n cap := by
  rcases h.2 with ⟨rfl, rfl⟩ | ⟨g, cap, cur, rfl, _⟩
  · exact ⟨_, _, rfl⟩
  · exact ⟨_, _, rfl⟩
theorem hcs_9 {w : World} {q n : Nat} {st : List U} {lv : Value} (h : Blk w q TH (hcs st lv n)) (hl : st.length = 8) : w.cell? ⟨q, 9, none⟩ = some lv := by rw [h.cell]; simp [hcs, hl]
theorem hcs_10 {w : World} {q n : Nat} {st : List U} {lv : Value} (h : Blk w q TH (hcs st lv n)) (hl : st.length = 8) : w.cell? ⟨q, 10, none⟩ = some (.int .i64 (n : Int)) := by rw [h.cell]; simp [hcs, hl]
theorem nil_own (k : Nat) : ¬ (Value.slice none 0 0).ownBlock = some k := by simp [Value.ownBlock]

set_option maxRecDepth 100000 in
theorem copy_any {w : World} {base p n : Nat} {st : List U} {lv : Value} {rest : List B} (H : HB w base p st lv n rest) (hr : rest.length ≤ 4194304) :
    Calls Try.prog 64 #[.pointer (some ⟨p, 0, none⟩)] w fun e w' => ∃ q lv', e = .returned (.pointer (some ⟨q, 0, none⟩)) ∧ HB w' w.heap.size q st lv' n rest ∧ Gr w w' := by
  obtain ⟨i0, hi0, hz0, hz1, hz2⟩ := info_parts info_b
  have c0 := H.c0
  have H' := Lib.hid H
  have Hr := Lib.hid hr
  clear H hr
  go_enter Try.func64, Try.ntmps64
  go_upto_region 4 with (first
    | refine wpList_load_row rfl _ _ rfl p rfl TH (hcs st lv n) (0, 0) _ H'.out.blk Try.underlying105 rfl (by rw [hcs_size _ _ _ H'.out.len]; kernel_rfl) ?_
    | refine wpList_store_new (w0 := w) rfl _ _ _ rfl (hcs st lv n) _ _ rfl rfl rfl (by rw [hcs_size _ _ _ H'.out.len]; kernel_rfl) (by rw [hcs_size _ _ _ H'.out.len]; rfl) (hcs_one _ _ _ (own_one H'.out.own)) ?_)
  have HB1 := Lib.hid (Blk.new w TH (hcs st lv n))
  have HG1 := Lib.hid ((Fr.refl w NoneS).alloc (.cells (hcs st lv n) TH))
  have HS := Lib.hid (H'.out.gr' HG1.out)
  generalize hq : w.heap.size = q at HB1 ⊢
  generalize World.alloc w _ = w1 at HB1 HG1 HS ⊢
  have Hq := Lib.hid hq
  clear hq c0
  have c9 := HS.out.c9
  have HO := Lib.hid (SL.of_own (enc := eb) HS.out.own rfl)
  go_wp2_with (at_builtin; refine wpList_append_sl _ eb rfl (.const (.slice none 0 0)) (.tmp 19) TS8 rfl q TU8 i0 (.int .u8 0) 1 1 Try.underlying22 hi0 hz0 hz1 hz2 rfl (by omega) (.slice none 0 0) 0 [] rfl (World.ownsRow_nil _ _ _ _) lv rest rfl HO.out (fun _ => rfl) eb_one (by have := Hr.out; unfold maxLen; omega) (by have := Hr.out; omega) (by rw [← Hq.out]; exact HG1.out.size) ?_
               intro v2 w2 hown2 hg2 hat2
               rw [Nat.zero_add, List.nil_append] at hown2
               obtain ⟨A2, cap2, rfl⟩ := own_form hown2
               have HO2 := Lib.hid hown2
               have HG2 := Lib.hid (show Gr w1 w2 from hg2.mono (fun k _ h => nil_own k h))
               have HB2 := Lib.hid (HB1.out.fr HG2.out (fun h => h))
               have q9 := hcs_9 HB2.out HS.out.len
               have qf := HB2.out.frozen 9
               clear hown2 hg2 hat2)
  go_ret
  refine ⟨q, .slice A2 rest.length cap2, rfl, ⟨by rw [Hq.out]; exact Nat.le_refl _, ?_, ?_, HS.out.len, HS.out.n0⟩, (HG1.out.trans HG2.out (fun _ _ h => h)).setCell (by simp; have := Hq.out; omega) _⟩
  · have h := HB2.out.set_ 9 (.slice A2 rest.length cap2)
    rw [hcs_set9 _ _ _ _ HS.out.len] at h
    exact h
  · rw [Hq.out]
    refine (((Fr.refl w2 (fun k => k = q)).setCell (p := ⟨q, 9, none⟩) (fun _ => rfl) (.slice A2 rest.length cap2))).owns HO2.out (fun k hk hkq => ?_)
    subst hkq
    exact own_blk_ne HO2.out HB2.out (by decide) hk
end Sha
end Go.Proofs.Ytmjpghaggnpdbaa
