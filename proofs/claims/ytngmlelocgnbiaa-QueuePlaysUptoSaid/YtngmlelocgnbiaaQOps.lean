/- A list of Ops that came in. -/
import Derived.Test.YtngmlelocgnbiaaQPlays
set_option linter.unusedVariables false
set_option linter.unusedSimpArgs false
namespace Go.Proofs.Ytngmlelocgnbiaa
open Go.ChangeShapes Go.WideShapes Go.ChangeAt Go.RowKit

theorem op_elem {H : Type} {enc : TypeId × Value → H} {W : World} (n : Nat) (cs : List Value) (y : DataW H × List MemPlace) (hy : DataW.trod enc Try.prog W 0 (fun _ => true) true n 42 cs = some y) (hl : cs.length = 2) : ∃ o : Int × Int, cs = encOp o ∧ True := by
  match cs, hl with
  | [c0, c1], _ =>
    obtain ⟨xs, m, _, _, _, hxl, hf⟩ := DataW.trod_struct Try.underlying42 hy
    have hxl' : xs.length = 2 := hxl
    match xs, hxl' with
    | [x0, x1], _ =>
      have h0 := hf 0 _ rfl
      have h1 := hf 1 _ rfl
      have e0 : Try.prog.cellsOf 5 = 1 := by kernel_rfl
      have e1 : Try.prog.cellsOf 3 = 1 := by kernel_rfl
      have h0 : DataW.trod enc Try.prog W 0 (fun _ => true) true m 5 [c0] = some x0 := by rw [← show ([c0, c1].drop 0).take (Try.prog.cellsOf 5) = [c0] by rw [e0]; rfl]; exact h0
      have h1 : DataW.trod enc Try.prog W 0 (fun _ => true) true m 3 [c1] = some x1 := by rw [← show ([c0, c1].drop 1).take (Try.prog.cellsOf 3) = [c1] by rw [e1]; rfl]; exact h1
      obtain ⟨a, ha, _⟩ := DataW.trod_int Try.underlying5 h0
      obtain ⟨b, hb, _⟩ := DataW.trod_int Try.underlying3 h1
      simp at ha hb
      exact ⟨(a, b), by rw [ha, hb]; rfl, trivial⟩

theorem open_ops {H : Type} {enc : TypeId × Value → H} {W : World} {v : Value} {d : DataW H} {p : List MemPlace} (h : DataW.Trod enc Try.prog W 0 (fun _ => true) true 38 v d p) (hv : ∃ A len cap, v = .slice A len cap) :
    ∃ xs : List (Int × Int), SL encOp W v xs ∧ xs.length ≤ Rows.uptoBulk d := by
  obtain ⟨xs, a, _, c⟩ := open_sl encOp (fun _ => True) Try.underlying38 (by kernel_rfl) (by omega) (fun _ => rfl) op_elem h hv
  exact ⟨xs, a, c⟩
end Go.Proofs.Ytngmlelocgnbiaa
