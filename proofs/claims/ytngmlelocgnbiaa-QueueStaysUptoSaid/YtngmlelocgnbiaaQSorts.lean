/- QueueSorts: the walk. -/
import Derived.Test.YtngmlelocgnbiaaQLess
set_option linter.unusedVariables false
set_option linter.unusedSimpArgs false
namespace Go.Proofs.Ytngmlelocgnbiaa
open Go.RowKit

theorem makeFunc_run {P : Program} (fn : Fn) (first cap : Array Value) (w : World) : (Instr.makeFunc fn first cap).run P w = .ok (.func fn first cap) w := rfl

set_option maxHeartbeats 3200000 in
set_option maxRecDepth 100000 in
theorem QueueSorts_walk (w : World) (b : Int) (wb : (Lit.int .i64 b).wf = true) (v : Value) (xs : List Int) (hs : SL encI w v xs) (hwf : ∀ x ∈ xs, (Lit.int .i64 x).wf = true) (hl : xs.length ≤ 1048576) :
    Calls Try.prog 3 #[.int .i64 b, v] w fun e w' => e = .returned (.bool true) ∧ Gr w w' := by
  have HS := Lib.hid hs
  clear hs wb hwf
  have Hl := Lib.hid hl
  clear hl
  have Hs1 := Lib.hid (Qi.sorted_any (ltR b) (.func (.func 11) #[] #[.pointer (some ⟨w.heap.size, 0, none⟩)]) v xs (w.alloc (.cells #[.int .i64 b] 3)) (HS.out.gr ((Fr.refl w NoneS).alloc _))
    (less_QueueSorts b w.heap.size _ _ (by simp) (by simp)) (by have := Hl.out; omega))
  have hmf := @makeFunc_run Try.prog
  go_enter Try.func3, Try.ntmps3
  go_wp2_with fail
  refine Hs1.out.mono ?_
  rintro e w2 ⟨r, rfl, ho, hg⟩
  have HO := Lib.hid ho
  have HG := Lib.hid hg
  have HG2 := Lib.hid (((Fr.refl w NoneS).alloc (.cells #[.int .i64 b] 3)).trans hg (fun _ _ h => h))
  have c1 : w2.cell? ⟨w.heap.size, 0, none⟩ = some (.int .i64 b) := (hg.cell (p := ⟨w.heap.size, 0, none⟩) (by simp) (fun h => h)).trans (by simp)
  clear ho hg
  go_wp2_with fail
  have Hs2 := Lib.hid (RSorted_any v xs b w2 (HS.out.gr HG2.out) (by have := Hl.out; omega))
  refine Hs2.out.mono ?_
  rintro e w3 ⟨r2, rfl, ho, hg⟩
  have HO2 := Lib.hid ho
  have HG3 := Lib.hid hg
  clear ho hg
  go_wp2_with fail
  have Hi := Lib.hid (Ints_any r r2 _ _ w3 (SL.gr (SL.of_own (enc := encI) (by exact HO.out) (QP.length_sorted _ _).symm) HG3.out) (SL.of_own (enc := encI) HO2.out (length_isort _ _).symm) (by rw [QP.length_sorted]; have := Hl.out; omega))
  have Heq := Lib.hid (show decide (QP.sorted (ltR b) xs = QP.isort (ltR b) xs) = true from decide_eq_true (QP.sorted_isort (swo_ltR b) xs))
  refine Hi.out.mono ?_
  rw [Heq.out]
  rintro e w4 ⟨rfl, hd⟩
  have HD := Lib.hid hd
  clear hd
  go_wp2_with fail
  have Hw := Lib.hid (works_any w4)
  refine Hw.out.mono ?_
  rintro e w5 ⟨rfl, hg⟩
  have HG5 := Lib.hid hg
  clear hg
  go_wp2_with fail
  go_ret
  exact ⟨rfl, (((HG2.out.trans HG3.out (fun _ _ h => h)).trans HD.out.gr (fun _ _ h => h)).trans HG5.out (fun _ _ h => h))⟩
end Go.Proofs.Ytngmlelocgnbiaa
