/- the reference's joined and step. -/
import Derived.Test.YtildhlneldoffaaERa
import Derived.Test.YtildhlneldoffaaEPa
import Derived.Test.YtildhlneldoffaaFrfind
import Derived.StillTailTactics
set_option linter.unusedVariables false
set_option linter.unusedSimpArgs false
namespace Go.Proofs.Ytildhlneldoffaa
open Go.RowKit
open Voc
namespace Bpe
/-- a row of numbers grows -/
theorem OI.app {w w' w2 : World} {B : Nat} {v v' : Value} {l m : List Int} (h : OI w B v l) (hg : Gr w w') (ho : w2.ownsRow B TI 1 v' (l.length + m.length) (l.flatMap encI ++ m.flatMap encI)) (hsp : ∀ T : Value → Prop, (∀ u ∈ (Value.int .i64 0).cells.toList, T u) → (∀ u ∈ m.flatMap encI, T u) → SpareT T w' v → SpareT T w2 v') : OI w2 B v' (l ++ m) :=
  ⟨by rw [List.length_append, List.flatMap_append]; exact ho, hsp IsI (fun u hu => by simp [Value.cells] at hu; subst hu; exact ⟨0, rfl⟩) (fun u hu => by obtain ⟨x, _, hx⟩ := List.mem_flatMap.1 hu; simp [encI] at hx; exact ⟨x, hx⟩) (h.gr hg).spare⟩
set_option maxRecDepth 20000 in
set_option maxHeartbeats 1600000 in
theorem rjoined_any {w : World} {v : Value} {l : List Int} (i t : Nat) (HV : SL encI w v l) (hi : i + 1 < l.length) (hll : l.length ≤ 1048576) :
    Calls Try.prog 42 #[v, .int .i64 (i : Nat), .int .i64 (t : Nat)] w fun e w' => ∃ r, e = .returned r ∧ OI w' w.heap.size r (joined l i t) ∧ Gr w w' := by
  obtain ⟨i1, hi1, hx0, hx1, hx2⟩ := info_parts info_int
  have HV0 := Lib.hid HV
  obtain ⟨A, cap, rfl, hcap⟩ := HV.len
  have hs1 := fun w => run_slice_to (P := Try.prog) 28 TI i1 Try.underlying28 hi1 A l.length cap i (by omega) w
  have hli : (l.length : Int) ≤ 1048576 := by omega
  have hii : (i : Int) + 1 < (l.length : Int) := by omega
  obtain ⟨i2, hi2⟩ : ∃ i2, i + 2 = i2 := ⟨_, rfl⟩
  have e2 : (i : Int) + 2 = (i2 : Int) := by omega
  obtain ⟨vt, hs2, hsl2⟩ : ∃ vt, (∀ w, (Instr.slice 28 (.slice A l.length cap) (some (.int .i64 (i2 : Int))) none none).run Try.prog w = .ok vt w) ∧ ∀ w, SL encI w (.slice A l.length cap) l → SL encI w vt (l.drop i2) :=
    ⟨_, fun w => run_slice_from 28 TI i1 1 Try.underlying28 hi1 hx1 A l.length cap i2 (by omega) w, fun w h => h.from_ (fun _ => rfl) (by omega)⟩
  have HSL2 := Lib.hid hsl2
  have Hi := Lib.hid (And.intro hi (And.intro hll hi2))
  have Hl3 := Lib.hid (show (l.take i).length = i by rw [List.length_take]; have := Hi.out; omega)
  clear HV hsl2 hi hll hcap hi2
  go_enter Try.func42, Try.ntmps42
  go_upto_region 3 with (
    at_builtin
    refine wpList_append_st _ encI rfl (.tmp 8) (.tmp 11) 28 rfl w.heap.size TI i1 (.int .i64 0) 1 8 Try.underlying28 hi1 hx0 hx1 hx2 rfl (by decide) (.slice none 0 0) 0 [] rfl (World.ownsRow_nil _ _ _ _) (.slice A i cap) (l.take i) rfl (SL.take HV0.out (by have := Hi.out.1; omega)) (fun _ => rfl) encI_1 (by rw [List.length_take]; have := Hi.out; unfold maxLen; omega) (by rw [List.length_take]; have := Hi.out; omega) (Nat.le_refl _) ?_
    intro v3 w3 hown3 hg3 hat3 hsp3
    rw [Nat.zero_add, List.nil_append] at hown3
    have hown3' := hown3
    rw [Hl3.out] at hown3
    obtain ⟨A3, cap3, rfl⟩ := own_formN hown3
    have HG3 := Lib.hid (show Gr w w3 from hg3.mono (fun _ _ h => by simp [Value.ownBlock] at h))
    have HO3 := Lib.hid (show OI w3 w.heap.size (.slice A3 i cap3) (l.take i) from by
      have h := (OI.nil w w.heap.size).app (m := l.take i) (Fr.refl w NoneS) (by simpa using hown3') hsp3
      simpa using h)
    clear hown3 hown3' hg3 hat3 hsp3)
  go_upto_region 4 with (
    at_builtin
    refine wpList_append_st _ encI rfl (.tmp 13) (.tmp 15) 28 rfl w.heap.size TI i1 (.int .i64 0) 1 8 Try.underlying28 hi1 hx0 hx1 hx2 rfl (by decide) (.slice A3 i cap3) (l.take i).length _ rfl (HO3.out.own.alloc _) (.slice (some ⟨w3.heap.size, 0, none⟩) 1 1) [(t : Int)] rfl (sl_one (enc := encI) w3 (t : Int) #[.int .i64 (t : Int)] rfl TI) (fun _ => rfl) encI_1 (by rw [Hl3.out]; have := Hi.out; simp only [maxLen, List.length_singleton]; omega) (by rw [Hl3.out]; have := Hi.out; simp only [List.length_singleton]; omega) (Nat.le_trans HG3.out.size (by simp)) ?_
    intro v4 w4 hown4 hg4 hat4 hsp4
    rw [Hl3.out] at hown4
    obtain ⟨A4, cap4, rfl⟩ := own_formN hown4
    have HG4 := Lib.hid (show Gr w w4 from (HG3.out.alloc (.cells #[.int .i64 (t : Int)] TI)).trans hg4 (fun i hi e => by have := (HO3.out.own.lt i e).1; omega))
    have HO4 := Lib.hid (show OI w4 w.heap.size (.slice A4 (i + 1) cap4) (l.take i ++ [(t : Int)]) from HO3.out.app (m := [(t : Int)]) ((Fr.refl w3 NoneS).alloc _) (by rw [Hl3.out]; exact hown4) hsp4)
    clear hown4 hg4 hat4 hsp4)
  have Hl4 := Lib.hid (show (l.take i ++ [(t : Int)]).length = i + 1 by rw [List.length_append, Hl3.out]; rfl)
  go_wp2_with (
    at_builtin
    go_loud (refine wpList_append_st _ encI rfl (.tmp 17) (.tmp 21) 28 rfl w.heap.size TI i1 (.int .i64 0) 1 8 Try.underlying28 hi1 hx0 hx1 hx2 rfl (by decide) (.slice A4 (i + 1) cap4) (l.take i ++ [(t : Int)]).length _ rfl HO4.out.own vt (l.drop i2) rfl (HSL2.out _ (HV0.out.gr HG4.out)) (fun _ => rfl) encI_1 (by rw [Hl4.out, List.length_drop]; have := Hi.out; unfold maxLen; omega) (by rw [Hl4.out, List.length_drop]; have := Hi.out; omega) HG4.out.size ?_)
    intro v5 w5 hown5 hg5 hat5 hsp5
    have HG5 := Lib.hid (show Gr w w5 from HG4.out.trans hg5 (fun i hi e => by have := (HO4.out.own.lt i e).1; omega))
    have HO5 := Lib.hid (show OI w5 w.heap.size v5 (l.take i ++ [(t : Int)] ++ l.drop i2) from HO4.out.app (m := l.drop i2) (Fr.refl w4 NoneS) hown5 hsp5)
    clear hown5 hg5 hat5 hsp5)
  go_ret
  refine ⟨v5, rfl, ?_, HG5.out⟩
  have h := HO5.out
  rw [List.append_assoc, ← Hi.out.2.2] at h
  exact h
end Bpe
end Go.Proofs.Ytildhlneldoffaa
