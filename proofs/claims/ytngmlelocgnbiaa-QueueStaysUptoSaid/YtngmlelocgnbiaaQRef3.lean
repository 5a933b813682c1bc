/- The references of chapter 7: Sorted; copies of ints; closures. -/
import Derived.Test.YtngmlelocgnbiaaQRef2
import Derived.Test.YtngmlelocgnbiaaQWe
set_option linter.unusedVariables false
set_option linter.unusedSimpArgs false
namespace Go.Proofs.Ytngmlelocgnbiaa
open Go.RowKit

theorem isort_snoc {α : Type} (lt : α → α → Bool) (xs : List α) (x : α) : QP.isort lt (xs ++ [x]) = QP.ins lt (QP.isort lt xs) x := by
  unfold QP.isort; rw [List.foldl_append]; rfl
theorem length_ins {α : Type} (lt : α → α → Bool) (xs : List α) (x : α) : (QP.ins lt xs x).length = xs.length + 1 := by
  unfold QP.ins
  have h := congrArg List.length (List.takeWhile_append_dropWhile (p := fun y => !lt x y) (l := xs))
  rw [List.length_append] at h
  simp; omega
theorem length_foldl_ins {α : Type} (lt : α → α → Bool) : ∀ (xs l : List α), (xs.foldl (QP.ins lt) l).length = l.length + xs.length
  | [], l => rfl
  | x :: xs, l => by rw [List.foldl_cons, length_foldl_ins lt xs, length_ins, List.length_cons]; omega
theorem length_isort {α : Type} (lt : α → α → Bool) (xs : List α) : (QP.isort lt xs).length = xs.length := by
  unfold QP.isort; rw [length_foldl_ins]; simp

set_option maxHeartbeats 3200000 in
set_option maxRecDepth 100000 in
theorem RSorted_any (v : Value) (xs : List Int) (b : Int) (w : World) (hs : SL encI w v xs) (hx : xs.length ≤ 2097152) :
    Calls Try.prog 14 #[v, .int .i64 b] w fun e w' => ∃ r, e = .returned r ∧ w'.ownsRow w.heap.size 3 1 r xs.length ((QP.isort (ltR b) xs).flatMap encI) ∧ Gr w w' := by
  have HS := Lib.hid hs
  obtain ⟨A, cap, rfl, hc⟩ := hs.len
  clear hs
  have hx' : (xs.length : Int) ≤ 2097152 := by omega
  go_enter Try.func14, Try.ntmps14
  go_wp2_with fail
  go_loopg [5, 6] (xs.length + 1) (fun m s5 s6 wr => ∃ k : Nat, s6 = .int .i64 k ∧ Hid (k ≤ xs.length ∧ xs.length - k < m) ∧
    Hid (wr.ownsRow w.heap.size 3 1 s5 k ((QP.isort (ltR b) (xs.take k)).flatMap encI)) ∧ Hid (Gr w wr))
  case atStart => exact ⟨0, rfl, ⟨Nat.zero_le _, by omega⟩, World.ownsRow_nil _ _ _ _, Fr.refl _ _⟩
  case round =>
    obtain ⟨k, rfl, HK, HO, HG⟩ := hrel
    by_cases hk : k < xs.length
    · obtain ⟨b1, o1, rfl, _, hc1⟩ := (HS.out.gr HG.out).at_ (s := 1) (fun _ => rfl) rfl hk
      have c1 := hc1 0 (by omega)
      clear hc1
      simp [encI] at c1
      have E1 := Lib.hid (List.take_succ_eq_append_getElem hk)
      generalize xs[k] = y at c1 E1
      have hki : (k : Int) < xs.length := by omega
      have hL : (QP.isort (ltR b) (xs.take k)).length = k := by rw [length_isort, List.length_take, Nat.min_eq_left (Nat.le_of_lt hk)]
      have HL := Lib.hid hL
      clear hL
      have hP := Lib.hid (Push_any _ (QP.isort (ltR b) (xs.take k)) y b wr (SL.of_own HO.out HL.out.symm) (by have := HL.out; omega))
      go_wp2_with fail
      refine hP.out.mono ?_
      rintro e w2 ⟨r, rfl, ho, hg⟩
      have HO2 := Lib.hid ho
      have HG2 := Lib.hid hg
      clear ho hg
      go_wp2_with fail
      go_roundg (gk - 1)
      case measure => have := HK.out; omega
      case rel =>
        refine ⟨k + 1, by go_num, ⟨hk, by have := HK.out; omega⟩, ?_, HG.out.trans HG2.out (fun _ _ h => h)⟩
        have h := HO2.out
        rw [HL.out, ← isort_snoc, ← E1.out] at h
        exact own_base h HG.out.size
    · obtain rfl : k = xs.length := by have := HK.out; omega
      go_wp2_with fail
      go_ret
      refine ⟨_, rfl, ?_, HG.out⟩
      have h := HO.out
      rw [List.take_length] at h
      exact h
end Go.Proofs.Ytngmlelocgnbiaa
