/- model: what Do needs: a document is taken out of a row of one's own; rows of numbers; the boxes. -/
import Derived.Test.YtlodbhlidgepfaaMWf
set_option linter.unusedVariables false
set_option linter.unusedSimpArgs false
namespace Go.Proofs.Ytlodbhlidgepfaa
open Go.RowKit
open Voc Leb Bpe
namespace Mod
section
variable {P : Program}
theorem run_copy_rows (w : World) (dT sT ty elem : TypeId) (g o dLen dCap : Nat) (a : Addr) (sLen sCap size : Nat) (cur : Array Value) (t : TypeId) (cs : List Value)
    (hu : P.underlying dT = some (.slice elem)) (hs : (P.info? elem).map (·.size) = some size)
    (hg : w.heap[g]? = some (.cells cur t (0, 0))) (hn : cs.length = Nat.min sLen dLen * size)
    (hsrc : ∀ j v, cs[j]? = some v → w.cell? (a.add j) = some v) (hfit : o + cs.length ≤ cur.size) (h1 : ∀ v ∈ cs, v.oneCell' = true) :
    (Builtin.copy_ #[dT, sT] ty #[.slice (some ⟨g, o, none⟩) dLen dCap, .slice (some a) sLen sCap]).run P w =
      .ok (goInt (Nat.min sLen dLen)) (w.setRow g (cur.toList.take o ++ cs ++ cur.toList.drop (o + cs.length)).toArray) := by
  have hl := run_loadCells_list (P := P) w a cs hsrc
  have hst := run_storeCells_at P g o t cs 0 cur w hg (by simpa using hfit) h1
  cases hq : P.info? elem with
  | none => simp [hq] at hs
  | some i =>
    have hi : i.size = size := by simpa [hq] using hs
    rw [hn] at hl
    simp [Builtin.copy_, run_underlying hu, Builtin.lenOf, Builtin.firstCells, sizeOf, typeInfo, hq, hi, hl, hst]
theorem run_copy_zero (w : World) (dT sT ty elem : TypeId) (dp sp : Option Addr) (dLen dCap sCap size : Nat) (hu : P.underlying dT = some (.slice elem)) (hs : (P.info? elem).map (·.size) = some size) :
    (Builtin.copy_ #[dT, sT] ty #[.slice dp dLen dCap, .slice sp 0 sCap]).run P w = .ok (goInt 0) w := by
  cases hq : P.info? elem with
  | none => simp [hq] at hs
  | some i =>
    cases dp <;> cases sp <;> simp [Builtin.copy_, run_underlying hu, Builtin.lenOf, Builtin.firstCells, sizeOf, typeInfo, hq, storeCells, loadCells, loadCellsFrom]
theorem wp_copy {o : Oper} {a : Act} {w w' : World} {K : Act → World → Prop} {Q : Exit → Act → World → Prop} (d s : Operand) (dT sT : TypeId)
    (ho : o.op = .call { callee := .builtin .copy, args := #[d, s], argTypes := #[dT, sT] }) (dv sv v : Value) (hd : a.eval d = dv) (hs : a.eval s = sv)
    (hrun : (Builtin.copy_ #[dT, sT] o.type #[dv, sv]).run P w = .ok v w') (h : K (a.put o.dst v) w') : o.wp P a w K Q := by
  unfold Oper.wp
  simp [execOp, ho, resolve, invoke, builtin, hd, hs, hrun, Result.andThen]
  exact h
theorem step_copy {ops : Array Oper} {o : Oper} {a : Act} {w w' : World} {K : Act → World → Prop} {Q : Exit → Act → World → Prop} {E : Prop} (hgd : o.guard = none) (d s : Operand) (dT sT : TypeId)
    (ho : o.op = .call { callee := .builtin .copy, args := #[d, s], argTypes := #[dT, sT] }) (dv sv v : Value) (hd : a.eval d = dv) (hs : a.eval s = sv)
    (hrun : (Builtin.copy_ #[dT, sT] o.type #[dv, sv]).run P w = .ok v w') (h : K (a.put o.dst v) w') : if Region.wanted o (yielded ops a.tmps) = true then Oper.wp P o a w K Q else E := by
  have hw : Region.wanted o (yielded ops a.tmps) = true := by simp [Region.wanted, hgd]
  rw [if_pos hw]
  exact wp_copy d s dT sT ho dv sv v hd hs hrun h
end
theorem del_any {b n cap g at_ : Nat} {D : List (Int × Sv)} (hD : D.length = n) (hat : at_ < n) (hnc : n ≤ cap) (hmax : n ≤ 1048576) :
    ∃ S1 S2 : Value, (∀ w, (Instr.slice TDocs (.slice (some ⟨g, 0, none⟩) n cap) (some (.int .i64 (at_ : Int))) none none).run Try.prog w = .ok S1 w) ∧
      (∀ w, (Instr.slice TDocs (.slice (some ⟨g, 0, none⟩) n cap) (some (.int .i64 ((at_ + 1 : Nat) : Int))) none none).run Try.prog w = .ok S2 w) ∧
      ∀ w ty, w.ownsRow b TDoc 2 (.slice (some ⟨g, 0, none⟩) n cap) n (D.flatMap encD) → ∃ w', (Builtin.copy_ #[TDocs, TDocs] ty #[S1, S2]).run Try.prog w = .ok (.int .i64 ((n - at_ - 1 : Nat) : Int)) w' ∧
        Fr w w' (fun k => k = g) ∧ w'.ownsRow b TDoc 2 (.slice (some ⟨g, 0, none⟩) (n - 1) cap) (n - 1) ((D.eraseIdx at_).flatMap encD) := by
  obtain ⟨i0, hi0, hz0, hz1, hz2⟩ := info_parts info_doc
  have r1 := fun w => run_slice_from (P := Try.prog) TDocs TDoc i0 2 Try.underlying23 hi0 hz1 (some ⟨g, 0, none⟩) n cap at_ (by omega) w
  have r2 := fun w => run_slice_from (P := Try.prog) TDocs TDoc i0 2 Try.underlying23 hi0 hz1 (some ⟨g, 0, none⟩) n cap (at_ + 1) (by omega) w
  refine ⟨_, _, r1, r2, fun w ty ho => ?_⟩
  have hsz : (Try.prog.info? TDoc).map (·.size) = some 2 := by rw [hi0]; simp [hz1]
  have hfl : ∀ l : List (Int × Sv), (l.flatMap encD).length = l.length * 2 := len_flatMap encD 2 (fun _ => rfl)
  have herase : D.eraseIdx at_ = D.take at_ ++ D.drop (at_ + 1) := List.eraseIdx_eq_take_drop_succ D at_
  have hel : (D.eraseIdx at_).length = n - 1 := by rw [List.length_eraseIdx, if_pos (by omega), hD]
  rcases ho.2 with ⟨h, _⟩ | ⟨g', cap', cur, hv, hb, hg, hn1, hm, hcs, htake⟩
  · cases h
  injection hv with hv1 hv2 hv3
  injection hv1 with hv1
  injection hv1 with hv1
  subst hv1 hv3
  have hat2 : (⟨g, 0, none⟩ : Addr).add (at_ * 2) = ⟨g, at_ * 2, none⟩ := by rw [addr_add, Nat.zero_add]
  have hat3 : (⟨g, 0, none⟩ : Addr).add ((at_ + 1) * 2) = ⟨g, (at_ + 1) * 2, none⟩ := by rw [addr_add, Nat.zero_add]
  rw [if_neg (show ¬ cap = at_ by omega)]
  simp only [Option.map_some, hat2, hat3]
  by_cases hlast : n = at_ + 1
  · have hmin : n - (at_ + 1) = 0 := by omega
    rw [hmin]
    refine ⟨w, ?_, Fr.refl w _, ?_⟩
    · rw [show n - at_ - 1 = 0 by omega]
      exact run_copy_zero w TDocs TDocs ty TDoc _ _ _ _ _ 2 Try.underlying23 hsz
    · refine ⟨by rw [hfl, hel], Or.inr ⟨g, cap, cur, rfl, hb, hg, by omega, hm, hcs, ?_⟩⟩
      rw [herase, List.drop_of_length_le (by omega), List.append_nil]
      have e1 : D.flatMap encD = (D.take at_).flatMap encD ++ (D.drop at_).flatMap encD := by rw [← List.flatMap_append, List.take_append_drop]
      have e2 : ((D.take at_).flatMap encD).length = (n - 1) * 2 := by rw [hfl, List.length_take]; omega
      have := congrArg (List.take ((n - 1) * 2)) htake
      rw [List.take_take, Nat.min_eq_left (by omega), e1, List.take_append_of_le_length (by rw [e2]; exact Nat.le_refl _)] at this
      exact this.trans (List.take_of_length_le (by rw [e2]; exact Nat.le_refl _))
  · rw [if_neg (show ¬ cap = at_ + 1 by omega)]
    have hcsl : ((D.drop (at_ + 1)).flatMap encD).length = (n - (at_ + 1)) * 2 := by rw [hfl, List.length_drop, hD]
    have hmin : Nat.min (n - (at_ + 1)) (n - at_) = n - (at_ + 1) := Nat.min_eq_left (by omega)
    have hr := run_copy_rows (P := Try.prog) w TDocs TDocs ty TDoc g (at_ * 2) (n - at_) (cap - at_) ⟨g, (at_ + 1) * 2, none⟩ (n - (at_ + 1)) (cap - (at_ + 1)) 2 cur TDoc ((D.drop (at_ + 1)).flatMap encD) Try.underlying23 hsz hg (by rw [hcsl, hmin])
      (fun j v hj => by
        have hj1 := (List.getElem?_eq_some_iff.1 hj).1
        rw [hcsl] at hj1
        rw [addr_add, cell_of_row w g _ cur TDoc (0, 0) hg, ← Array.getElem?_toList]
        have e1 : D.flatMap encD = (D.take (at_ + 1)).flatMap encD ++ (D.drop (at_ + 1)).flatMap encD := by rw [← List.flatMap_append, List.take_append_drop]
        have e2 : ((D.take (at_ + 1)).flatMap encD).length = (at_ + 1) * 2 := by rw [hfl, List.length_take]; omega
        have h3 : (cur.toList.take (n * 2))[(at_ + 1) * 2 + j]? = some v := by
          rw [htake, e1, List.getElem?_append_right (by omega), e2, Nat.add_sub_cancel_left]; exact hj
        rw [List.getElem?_take] at h3
        split at h3
        · exact h3
        · cases h3)
      (by rw [hcsl, hcs]; omega) (fun v hv => by obtain ⟨x, _, hx⟩ := List.mem_flatMap.1 hv; exact encD_one x v hx)
    refine ⟨w.setRow g (cur.toList.take (at_ * 2) ++ (D.drop (at_ + 1)).flatMap encD ++ cur.toList.drop (at_ * 2 + ((D.drop (at_ + 1)).flatMap encD).length)).toArray, ?_, Sha.fr_setRow (S := fun k => k = g) (Fr.refl w _) (fun _ => rfl) _, ?_⟩
    · rw [hr, hmin]
      have : n - at_ - 1 = n - (at_ + 1) := by omega
      rw [this]; rfl
    · have hnew : (cur.toList.take (at_ * 2) ++ (D.drop (at_ + 1)).flatMap encD ++ cur.toList.drop (at_ * 2 + ((D.drop (at_ + 1)).flatMap encD).length)).toArray.size = cap * 2 := by
        simp only [List.size_toArray, List.length_append, List.length_take, List.length_drop, hcsl, Array.length_toList, hcs]
        omega
      refine ⟨by rw [hfl, hel], Or.inr ⟨g, cap, _, rfl, hb, setRow_heap w g cur _ TDoc (0, 0) hg, by omega, hm, hnew, ?_⟩⟩
      have e1 : D.flatMap encD = (D.take at_).flatMap encD ++ (D.drop at_).flatMap encD := by rw [← List.flatMap_append, List.take_append_drop]
      have e2 : ((D.take at_).flatMap encD).length = at_ * 2 := by rw [hfl, List.length_take]; omega
      have e3 : cur.toList.take (at_ * 2) = (D.take at_).flatMap encD := by
        have := congrArg (List.take (at_ * 2)) htake
        rw [List.take_take, Nat.min_eq_left (by omega), e1, List.take_append_of_le_length (by rw [e2]; exact Nat.le_refl _)] at this
        exact this.trans (List.take_of_length_le (by rw [e2]; exact Nat.le_refl _))
      rw [e3, herase, List.flatMap_append]
      simp only
      rw [List.take_append_of_le_length (by rw [List.length_append, e2, hcsl]; omega), List.take_of_length_le (by rw [List.length_append, e2, hcsl]; omega)]
end Mod
end Go.Proofs.Ytlodbhlidgepfaa
