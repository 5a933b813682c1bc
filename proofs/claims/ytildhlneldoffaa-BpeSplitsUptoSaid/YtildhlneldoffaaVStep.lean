/- Steps at a map's operations in a region that draws; takes laid by a word. No program. -/
import Derived.Test.YtildhlneldoffaaVPlain
import Derived.Deep.RegionHeld3
set_option linter.unusedVariables false
set_option linter.unusedSimpArgs false
namespace Go.Proofs.Ytildhlneldoffaa
open Go.RowKit

section
variable {P : Program} {ops : Array Oper} {o : Oper} {a : Act} {w : World} {K : Act → World → Prop} {Q : Exit → Act → World → Prop} {E : Prop}
theorem step_lookup (hg : o.guard = none) (m x : Operand) (t : TypeId) (hop : o.op = .lookup t m x true) (M X : Value) (hm : a.eval m = M) (hx : a.eval x = X) (v : Value) (w' : World)
    (hrun : (Instr.lookup t M X true).run P w = .ok v w') (hK : K (a.put o.dst v) w') : if Region.wanted o (yielded ops a.tmps) = true then Oper.wp P o a w K Q else E := by
  have hw : Region.wanted o (yielded ops a.tmps) = true := by simp [Region.wanted, hg]
  rw [if_pos hw]
  unfold Oper.wp
  simp [execOp, hop, hm, hx, hrun, Result.andThen]
  exact hK
theorem step_mapUpdate (hg : o.guard = none) (m x y : Operand) (t : TypeId) (hop : o.op = .mapUpdate t m x y) (M X Y : Value) (hm : a.eval m = M) (hx : a.eval x = X) (hy : a.eval y = Y) (w' : World)
    (hrun : (Instr.mapUpdate t M X Y).run P w = .ok () w') (hK : K (a.put o.dst undef) w') : if Region.wanted o (yielded ops a.tmps) = true then Oper.wp P o a w K Q else E := by
  have hw : Region.wanted o (yielded ops a.tmps) = true := by simp [Region.wanted, hg]
  rw [if_pos hw]
  unfold Oper.wp
  simp [execOp, hop, hm, hx, hy, hrun, Result.andThen]
  exact hK
theorem step_mapEntry (hg : o.guard = none) (m x : Operand) (t : TypeId) (hop : o.op = .mapEntry t m x) (M X : Value) (hm : a.eval m = M) (hx : a.eval x = X) (v : Value) (w' : World)
    (hrun : (Instr.mapEntry t M X).run P w = .ok v w') (hK : K (a.put o.dst v) w') : if Region.wanted o (yielded ops a.tmps) = true then Oper.wp P o a w K Q else E := by
  have hw : Region.wanted o (yielded ops a.tmps) = true := by simp [Region.wanted, hg]
  rw [if_pos hw]
  unfold Oper.wp
  simp [execOp, hop, hm, hx, hrun, Result.andThen]
  exact hK
theorem step_entryStore (hg : o.guard = none) (m x y : Operand) (t : TypeId) (hop : o.op = .entryStore t m x y) (M X Y : Value) (hm : a.eval m = M) (hx : a.eval x = X) (hy : a.eval y = Y) (w' : World)
    (hrun : (Instr.entryStore t M X Y).run P w = .ok () w') (hK : K (a.put o.dst undef) w') : if Region.wanted o (yielded ops a.tmps) = true then Oper.wp P o a w K Q else E := by
  have hw : Region.wanted o (yielded ops a.tmps) = true := by simp [Region.wanted, hg]
  rw [if_pos hw]
  unfold Oper.wp
  simp [execOp, hop, hm, hx, hy, hrun, Result.andThen]
  exact hK
end

theorem Fr.drew0 {w w' : World} {S : Nat → Prop} (h : Fr w.drew w' S) : Fr w w' S := ⟨h.os, h.tape.trans rfl, h.output, h.size, h.block⟩
end Go.Proofs.Ytildhlneldoffaa
