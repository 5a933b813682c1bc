/- A vocabulary that comes in. -/
import Derived.Test.YtlodbhlidgepfaaFrame
import Derived.Test.YtlodbhlidgepfaaVTa
import Derived.ChangeSame
set_option linter.unusedVariables false
set_option linter.unusedSimpArgs false
namespace Go.Proofs.Ytlodbhlidgepfaa
open Go.ChangeShapes Go.WideShapes Go.ChangeAt Go.RowKit
namespace Voc
set_option maxRecDepth 20000 in
theorem trod_pc {H : Type} {enc : TypeId × Value → H} {W : World} {n : Nat} {cs : List Value} {y : DataW H × List MemPlace} (h : DataW.trod enc Try.prog W 0 (fun _ => true) true n TPc cs = some y) (hl : cs.length = 5) : ∃ x : Pc, cs = encP x ∧ wfP x := by
  obtain ⟨xs, m, _, _, _, hlen, hf⟩ := DataW.trod_struct Try.underlying68 h
  obtain ⟨y0, y1, y2, y3, y4, rfl⟩ : ∃ y0 y1 y2 y3 y4, xs = [y0, y1, y2, y3, y4] := by
    match xs, hlen with
    | [y0, y1, y2, y3, y4], _ => exact ⟨_, _, _, _, _, rfl⟩
  match cs, hl with
  | [c0, c1, c2, c3, c4], _ =>
    obtain ⟨j, h0, _⟩ := DataW.trod_bool Try.underlying4 (hf 0 _ rfl)
    obtain ⟨b, h1, _, w1⟩ := DataW.trod_int Try.underlying5 (hf 1 _ rfl)
    obtain ⟨l, h2, _, w2⟩ := DataW.trod_int Try.underlying3 (hf 2 _ rfl)
    obtain ⟨r, h3, _, w3⟩ := DataW.trod_int Try.underlying3 (hf 3 _ rfl)
    obtain ⟨k, h4, _, w4⟩ := DataW.trod_int Try.underlying66 (hf 4 _ rfl)
    have e0 : Try.prog.cellsOf 4 = 1 := by kernel_rfl
    have e1 : Try.prog.cellsOf 5 = 1 := by kernel_rfl
    have e2 : Try.prog.cellsOf 3 = 1 := by kernel_rfl
    have e4 : Try.prog.cellsOf 66 = 1 := by kernel_rfl
    simp [e0, e1, e2, e4] at h0 h1 h2 h3 h4
    subst h0 h1 h2 h3 h4
    exact ⟨⟨j, b, l, r, k⟩, rfl, w1, w2, w3, w4⟩
set_option maxRecDepth 20000 in
theorem open_vocab {H : Type} {enc : TypeId × Value → H} {W : World} {r : Reach} {b0 : Nat} {v : Value} {d : DataW H} {p : List MemPlace} (hv : Value.okWide Try.prog W r b0 27 v) (h : DataW.Trod enc Try.prog W 0 (fun _ => true) true 27 v d p) :
    ∃ (sv : Value) (xs : List Pc), v = .agg #[sv] ∧ SL encP W sv xs ∧ (∀ x ∈ xs, wfP x) ∧ xs.length ≤ Rows.uptoBulk d := by
  obtain ⟨cs, rfl, hsz⟩ := okWide_struct Try.underlying27 hv
  have hC : Try.prog.cellsOf 27 = 1 := by kernel_rfl
  obtain ⟨c0, rfl⟩ : ∃ c0, cs = #[c0] := by
    obtain ⟨l⟩ := cs
    match l, hsz.trans hC with
    | [c0], _ => exact ⟨c0, rfl⟩
  obtain ⟨fuel, hf⟩ := h
  obtain ⟨y0, n, hx, _, h0⟩ := trod_struct1 Try.underlying27 hf
  simp only [Prod.mk.injEq] at hx
  have hC0 : Try.prog.cellsOf 25 = 1 := by kernel_rfl
  have h0' : DataW.trod enc Try.prog W 0 (fun _ => true) true n 25 [c0] = some y0 := by simpa [Value.cells, hC0] using h0
  obtain ⟨A, len, cap, rfl⟩ : ∃ A len cap, c0 = .slice A len cap := by
    rcases DataW.trod_slice Try.underlying25 h0' with ⟨h1, _⟩ | ⟨a, len', cap', _, _, _, _, h1, _⟩
    · simp at h1; exact ⟨_, _, _, h1⟩
    · simp at h1; exact ⟨_, _, _, h1⟩
  obtain ⟨xs, hs, hw, hl⟩ := open_sl (P := Try.prog) (e := TPc) (s := 5) encP wfP Try.underlying25 (by kernel_rfl) (by omega) (fun _ => rfl) (fun n cs y hy hl => trod_pc hy hl)
    (show DataW.Trod enc Try.prog W 0 (fun _ => true) true 25 (.slice A len cap) y0.1 y0.2 from ⟨n, h0'⟩) ⟨_, _, _, rfl⟩
  refine ⟨_, xs, rfl, hs, hw, Nat.le_trans hl ?_⟩
  rw [hx.1]
  simp only [Rows.uptoBulk, Rows.uptoBulkAll]
  omega
end Voc
end Go.Proofs.Ytlodbhlidgepfaa
