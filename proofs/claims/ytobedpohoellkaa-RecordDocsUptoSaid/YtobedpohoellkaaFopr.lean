/- A record that comes in. -/
import Derived.Test.YtobedpohoellkaaFopv
import Derived.Test.YtobedpohoellkaaRWc
set_option linter.unusedVariables false
set_option linter.unusedSimpArgs false
namespace Go.Proofs.Ytobedpohoellkaa
open Go.ChangeShapes Go.WideShapes Go.ChangeAt Go.RowKit
open Voc
namespace Rec
theorem trod_arr {H : Type} {enc : TypeId × Value → H} {P : Program} {W : World} {t e : TypeId} {n : Nat} {k : IntKind} (ht : P.underlying t = some (.array n e)) (he : P.underlying e = some (.int k)) (hc : P.cellsOf e = 1) (hct : P.cellsOf t = n)
    {fuel : Nat} {cs : List Value} {y : DataW H × List MemPlace} (hsz : cs.length = n) (hf : DataW.trod enc P W 0 (fun _ => true) true fuel t cs = some y) :
    ∃ xs : List Int, xs.length = n ∧ cs = xs.map (Value.int k) ∧ ∀ x ∈ xs, (Lit.int k x).wf = true := by
  cases fuel with
  | zero => simp [DataW.trod] at hf
  | succ m =>
    rw [DataW.trod_step] at hf
    unfold DataW.trodStep at hf
    simp only [ht, Value.cells] at hf
    rw [if_pos (by rw [hct]; simpa using hsz)] at hf
    simp only [Option.map_eq_some_iff] at hf
    obtain ⟨ys, hy, e1⟩ := hf
    obtain ⟨hl, hg⟩ := mapM_get _ _ _ hy
    rw [List.length_range] at hl
    have each : ∀ i, i < n → ∃ x : Int, cs[i]? = some (.int k x) ∧ (Lit.int k x).wf = true := by
      intro i hi
      have h1 := hg i i (by simp [hi])
      rw [List.getElem?_eq_getElem (by omega), hc, Nat.mul_one] at h1
      obtain ⟨x, h2, _, h3⟩ := DataW.trod_int he h1
      refine ⟨x, ?_, h3⟩
      have h4 : (List.take 1 (List.drop i cs))[0]? = some (.int k x) := by rw [h2]; rfl
      rw [List.getElem?_take, List.getElem?_drop] at h4
      simpa using h4
    refine ⟨cs.map (fun v => match v with | .int _ x => x | _ => 0), by simpa using hsz, ?_, ?_⟩
    · apply List.ext_getElem?
      intro i
      by_cases hi : i < n
      · obtain ⟨x, hx, _⟩ := each i hi
        simp [hx]
      · rw [List.getElem?_eq_none (by omega), List.getElem?_eq_none (by simp; omega)]
    · intro x hx
      obtain ⟨v, hv, rfl⟩ := List.mem_map.1 hx
      obtain ⟨i, hi, rfl⟩ := List.getElem_of_mem hv
      obtain ⟨x, hx, hw⟩ := each i (by omega)
      have : cs[i] = .int k x := by
        rw [List.getElem?_eq_getElem hi] at hx
        injection hx
      rw [this]
      exact hw
set_option maxRecDepth 20000 in
theorem open_record {H : Type} {enc : TypeId × Value → H} {W : World} {r : Reach} {b0 : Nat} {v : Value} {d : DataW H} {p : List MemPlace} (hv : Value.okWide Try.prog W r b0 27 v) (h : DataW.Trod enc Try.prog W 0 (fun _ => true) true 27 v d p) :
    ∃ (R : Rc) (tv : Value), v = .agg (rcA R tv) ∧ R.d.length = 32 ∧ (∀ x ∈ R.d, (Lit.int .u8 x).wf = true) ∧ (Lit.int .u64 R.v).wf = true ∧ (Lit.int .i64 R.n).wf = true ∧ SL encI W tv R.t ∧ (∀ x ∈ R.t, (Lit.int .i64 x).wf = true) ∧ R.t.length ≤ Rows.uptoBulk d := by
  obtain ⟨cs, rfl, hsz⟩ := okWide_struct Try.underlying27 hv
  have hC : Try.prog.cellsOf 27 = 35 := by kernel_rfl
  rw [hC] at hsz
  obtain ⟨fuel, hf⟩ := h
  obtain ⟨xs, m, _, hx, _, hxl, hfl⟩ := DataW.trod_struct Try.underlying27 hf
  obtain ⟨y0, y1, y2, y3, rfl⟩ : ∃ y0 y1 y2 y3, xs = [y0, y1, y2, y3] := by
    match xs, hxl with
    | [y0, y1, y2, y3], _ => exact ⟨_, _, _, _, rfl⟩
  have e0 : Try.prog.cellsOf 23 = 32 := by kernel_rfl
  have e1 : Try.prog.cellsOf 24 = 1 := by kernel_rfl
  have e2 : Try.prog.cellsOf 3 = 1 := by kernel_rfl
  have e3 : Try.prog.cellsOf 25 = 1 := by kernel_rfl
  have h0 : DataW.trod enc Try.prog W 0 (fun _ => true) true m 23 (cs.toList.take 32) = some y0 := by
    have h := hfl 0 _ rfl
    simpa [Value.cells, e0] using h
  have h1 : DataW.trod enc Try.prog W 0 (fun _ => true) true m 24 ((cs.toList.drop 32).take 1) = some y1 := by
    have h := hfl 1 _ rfl
    simpa [Value.cells, e1] using h
  have h2 : DataW.trod enc Try.prog W 0 (fun _ => true) true m 3 ((cs.toList.drop 33).take 1) = some y2 := by
    have h := hfl 2 _ rfl
    simpa [Value.cells, e2] using h
  have h3 : DataW.trod enc Try.prog W 0 (fun _ => true) true m 25 ((cs.toList.drop 34).take 1) = some y3 := by
    have h := hfl 3 _ rfl
    simpa [Value.cells, e3] using h
  have hl : cs.toList.length = 35 := by simpa using hsz
  obtain ⟨dg, hdl, hd, hdw⟩ := trod_arr Try.underlying23 Try.underlying5 (by kernel_rfl) e0 (by rw [List.length_take, hl]; rfl) h0
  obtain ⟨vv, hv1, _, hvw⟩ := DataW.trod_int Try.underlying24 h1
  obtain ⟨nn, hn1, _, hnw⟩ := DataW.trod_int Try.underlying3 h2
  have c34 : ∃ c, (cs.toList.drop 34).take 1 = [c] := by
    have hlen : ((cs.toList.drop 34).take 1).length = 1 := by rw [List.length_take, List.length_drop, hl]; rfl
    match hh : (cs.toList.drop 34).take 1, hlen with
    | [c], _ => exact ⟨c, rfl⟩
  obtain ⟨c3, hc3⟩ := c34
  rw [hc3] at h3
  obtain ⟨A, len, cap, rfl⟩ : ∃ A len cap, c3 = .slice A len cap := by
    rcases DataW.trod_slice Try.underlying25 h3 with ⟨h4, _⟩ | ⟨a, len', cap', _, _, _, _, h4, _⟩
    · simp at h4; exact ⟨_, _, _, h4⟩
    · simp at h4; exact ⟨_, _, _, h4⟩
  obtain ⟨ts, hs, hw, htl⟩ := open_ints' (P := Try.prog) Try.underlying25 Try.underlying3 (by kernel_rfl)
    (show DataW.Trod enc Try.prog W 0 (fun _ => true) true 25 (.slice A len cap) y3.1 y3.2 from ⟨m, h3⟩) ⟨_, _, _, rfl⟩
  refine ⟨⟨dg, vv, nn, ts⟩, .slice A len cap, ?_, hdl, hdw, hvw, hnw, hs, hw, Nat.le_trans htl ?_⟩
  · have hcs : cs.toList = dg.map (Value.int .u8) ++ [.int .u64 vv, .int .i64 nn, .slice A len cap] := by
      have p0 : cs.toList = cs.toList.take 32 ++ ((cs.toList.drop 32).take 1 ++ ((cs.toList.drop 33).take 1 ++ (cs.toList.drop 34).take 1)) := by
        have q34 : (cs.toList.drop 34).take 1 = cs.toList.drop 34 := List.take_of_length_le (by rw [List.length_drop, hl]; decide)
        rw [q34, show cs.toList.drop 34 = (cs.toList.drop 33).drop 1 by rw [List.drop_drop], List.take_append_drop, show cs.toList.drop 33 = (cs.toList.drop 32).drop 1 by rw [List.drop_drop], List.take_append_drop, List.take_append_drop]
      rw [p0, hd, hv1, hn1, hc3]
      rfl
    unfold rcA
    rw [← hcs]
  · simp only [Prod.mk.injEq] at hx
    rw [hx.1]
    simp only [Rows.uptoBulk, Rows.uptoBulkAll, List.map_cons, List.map_nil]
    omega
end Rec
end Go.Proofs.Ytobedpohoellkaa
