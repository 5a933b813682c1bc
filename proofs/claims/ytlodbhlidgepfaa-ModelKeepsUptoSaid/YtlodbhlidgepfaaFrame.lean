/- What a statement's arguments read as; the bound on their bulk. Rows of rows that come in: with a measure. -/
import Derived.Test.YtlodbhlidgepfaaRows
import Derived.Test.YtlodbhlidgepfaaLib
import Derived.ProofKit
import Derived.OpenShut
import Derived.ShutString
import Derived.ChangeOld
import Derived.JoinedCond
set_option linter.unusedVariables false
set_option linter.unusedSimpArgs false
namespace Go.Proofs.Ytlodbhlidgepfaa
open Go.ChangeShapes Go.WideShapes Go.ChangeAt Go.RowKit

theorem bulk_one {H : Type} (d : DataW H) : 1 ≤ Rows.uptoBulk d := by
  cases d with
  | lit l => cases l <;> simp [Rows.uptoBulk]
  | nil => simp [Rows.uptoBulk]
  | ptr d => simp [Rows.uptoBulk]
  | slice elems spare => simp [Rows.uptoBulk]
  | agg parts => simp [Rows.uptoBulk]
  | iface t d => simp [Rows.uptoBulk]
  | map entries => simp [Rows.uptoBulk]
  | held h => simp [Rows.uptoBulk]
theorem bulk_length {H : Type} (l : List (DataW H)) : l.length ≤ Rows.uptoBulkAll l := by
  induction l with
  | nil => simp [Rows.uptoBulkAll]
  | cons x r ih => have := bulk_one x; simp only [Rows.uptoBulkAll, List.length_cons]; omega
theorem bulk_all {H : Type} {l : List (DataW H)} (hk : Rows.uptoSmall H l = true) : Rows.uptoBulkAll l ≤ 1048576 := by
  have h := of_decide_eq_true hk
  exact h
theorem bulk_mem {H : Type} {d : DataW H} : ∀ {l : List (DataW H)}, d ∈ l → Rows.uptoBulk d ≤ Rows.uptoBulkAll l
  | x :: r, h => by
    simp only [Rows.uptoBulkAll]
    rcases List.mem_cons.1 h with e | e
    · subst e; omega
    · have := bulk_mem e; omega

theorem mapM_get {α β : Type} (f : α → Option β) : ∀ (l : List α) (r : List β), l.mapM f = some r → r.length = l.length ∧ ∀ (i : Nat) (x : α), l[i]? = some x → f x = r[i]?
  | [], r, h => by
    simp at h
    subst h
    exact ⟨rfl, fun i x hx => by simp at hx⟩
  | y :: l, r, h => by
    rw [List.mapM_cons] at h
    cases hy : f y with
    | none => rw [hy] at h; cases h
    | some b =>
      rw [hy] at h
      cases hl : l.mapM f with
      | none => rw [hl] at h; cases h
      | some r' =>
        rw [hl] at h
        injection h with h
        subst h
        obtain ⟨h1, h2⟩ := mapM_get f l r' hl
        refine ⟨by simp [h1], fun i x hx => ?_⟩
        cases i with
        | zero => simp at hx; subst hx; rw [hy]; rfl
        | succ i => simp at hx; rw [h2 i x hx]; rfl

theorem cells_get {w : World} {base : Nat} {a : Addr} {n : Nat} {cs : List Value} (h : w.cells? base a n = some cs) : cs.length = n ∧ ∀ j, j < n → w.cell? (a.add j) = cs[j]? := by
  unfold World.cells? at h
  split at h
  · obtain ⟨h1, h2⟩ := mapM_get _ _ _ h
    rw [List.length_range] at h1
    exact ⟨h1, fun j hj => h2 j j (by simp [hj])⟩
  · cases h

theorem add_spot {w : World} {a : Addr} {v : Value} (h : w.cell? a = some v) : a = ⟨a.block, a.off, none⟩ := by
  obtain ⟨b, o, s⟩ := a
  cases s with
  | none => rfl
  | some s =>
    unfold World.cell? at h
    split at h
    · simp at h
    · cases h

/-- a slice that came in, its elements opened by 'hel' -/
theorem open_sl {H : Type} {enc : TypeId × Value → H} {P : Program} {W : World} {t e : TypeId} {s : Nat} {α : Type} (encα : α → List Value) (wf : α → Prop) (ht : P.underlying t = some (.slice e)) (hc : P.cellsOf e = s) (hs0 : 0 < s) (hs : ∀ x, (encα x).length = s)
    (hel : ∀ n cs y, DataW.trod enc P W 0 (fun _ => true) true n e cs = some y → cs.length = s → ∃ x, cs = encα x ∧ wf x)
    {v : Value} {d : DataW H} {p : List MemPlace} (h : DataW.Trod enc P W 0 (fun _ => true) true t v d p) (hv : ∃ A len cap, v = .slice A len cap) :
    ∃ xs : List α, SL encα W v xs ∧ (∀ x ∈ xs, wf x) ∧ xs.length ≤ Rows.uptoBulk d := by
  obtain ⟨A, len, cap, rfl⟩ := hv
  obtain ⟨fuel, hf⟩ := h
  rcases DataW.trod_slice ht hf with ⟨h1, h2⟩ | ⟨a, len', cap', elems, rest, n, _, h1, h2, _, hl, hm, hlen, hel', _⟩
  · simp [Value.cells] at h1
    obtain ⟨rfl, rfl, rfl⟩ := h1
    exact ⟨[], SL.nil W, (fun x hx => by cases hx), Nat.zero_le _⟩
  · simp [Value.cells] at h1
    obtain ⟨rfl, rfl, rfl⟩ := h1
    rw [hc] at hel'
    have each : ∀ i, i < len → ∃ x, wf x ∧ ∀ j, j < s → W.cell? (a.add (i * s + j)) = (encα x)[j]? := by
      intro i hi
      have h3 := hel' i hi
      cases hcs : W.cells? 0 (a.add (i * s)) s with
      | none => rw [hcs] at h3; simp at h3; omega
      | some cs =>
        rw [hcs] at h3
        obtain ⟨h4, h5⟩ := cells_get hcs
        have h6 : ∃ y, DataW.trod enc P W 0 (fun _ => true) true n e cs = some y := by
          rw [Option.bind_some] at h3
          exact ⟨elems[i]'(by omega), by rw [h3]; exact List.getElem?_eq_getElem _⟩
        obtain ⟨y, hy⟩ := h6
        obtain ⟨x, rfl, hx⟩ := hel n cs y hy h4
        refine ⟨x, hx, fun j hj => ?_⟩
        rw [← h5 j hj]
        unfold Addr.add
        by_cases hi0 : i * s = 0
        · simp [hi0]
        · by_cases hj0 : j = 0
          · subst hj0; simp [hi0]
          · rw [if_neg (by omega), if_neg hi0, if_neg hj0]
            simp [Nat.add_assoc]
    have build : ∀ m, m ≤ len → ∃ xs : List α, xs.length = m ∧ (∀ x ∈ xs, wf x) ∧ ∀ i j, i < m → j < s → W.cell? (a.add (i * s + j)) = (xs[i]?).bind fun x => (encα x)[j]? := by
      intro m
      induction m with
      | zero => exact fun _ => ⟨[], rfl, fun x hx => (by cases hx), fun i j hi => by omega⟩
      | succ m ih =>
        intro hm'
        obtain ⟨xs, e1, e2, e3⟩ := ih (by omega)
        obtain ⟨x, hx, hxc⟩ := each m (by omega)
        refine ⟨xs ++ [x], by simp [e1], fun z hz => ?_, fun i j hi hj => ?_⟩
        · rcases List.mem_append.1 hz with h' | h'
          · exact e2 z h'
          · simp at h'; subst h'; exact hx
        · by_cases hi' : i < m
          · rw [e3 i j hi' hj, List.getElem?_append_left (by omega)]
          · obtain rfl : i = m := by omega
            rw [hxc j hj, List.getElem?_append_right (by omega), e1, Nat.sub_self]
            rfl
    obtain ⟨xs, e1, e2, e3⟩ := build len (Nat.le_refl _)
    have hd : d = .slice (elems.map (·.1)) (rest.map (·.1)) := by simp only [Prod.mk.injEq] at h2; exact h2.1
    refine ⟨xs, ⟨some a, cap, by rw [e1], by omega, fun h0 => ?_⟩, e2, ?_⟩
    · have c0 := e3 0 0 (by omega) hs0
      have hx0 : (xs[0]?) = some (xs[0]'h0) := List.getElem?_eq_getElem h0
      rw [hx0, Nat.zero_mul] at c0
      have h00 : 0 < (encα (xs[0]'h0)).length := by rw [hs]; exact hs0
      have c1 : W.cell? a = some ((encα (xs[0]'h0))[0]'h00) := by
        have : a.add (0 + 0) = a := rfl
        rw [this] at c0
        rw [c0]
        exact List.getElem?_eq_getElem h00
      have ha := add_spot c1
      refine ⟨a.block, a.off, by rw [← ha], World.block_lt_of_cell? _ _ c1, fun i u hu => ?_⟩
      have hil : i < xs.length * s := by rw [← len_flatMap encα s hs]; exact (List.getElem?_eq_some_iff.1 hu).1
      have hq : i / s < len := by rw [← e1]; exact Nat.div_lt_of_lt_mul (by rw [Nat.mul_comm]; exact hil)
      have h7 := e3 (i / s) (i % s) hq (Nat.mod_lt _ hs0)
      rw [Nat.div_add_mod' i s, ← get_flatMap' encα s hs0 hs, hu] at h7
      rw [← h7]
      unfold Addr.add
      split
      · rename_i h'; subst h'; rw [Nat.add_zero]; exact congrArg _ ha.symm
      · rfl
    · rw [hd, e1, ← hlen]
      simp only [Rows.uptoBulk]
      have := bulk_length (elems.map (·.1))
      rw [List.length_map] at this
      omega

theorem open_ints' {H : Type} {enc : TypeId × Value → H} {P : Program} {W : World} {t e : TypeId} {k : IntKind} (ht : P.underlying t = some (.slice e)) (he : P.underlying e = some (.int k)) (hc : P.cellsOf e = 1)
    {v : Value} {d : DataW H} {p : List MemPlace} (h : DataW.Trod enc P W 0 (fun _ => true) true t v d p) (hv : ∃ A len cap, v = .slice A len cap) :
    ∃ xs : List Int, SL (fun x : Int => [Value.int k x]) W v xs ∧ (∀ x ∈ xs, (Lit.int k x).wf = true) ∧ xs.length ≤ Rows.uptoBulk d :=
  open_sl (fun x : Int => [Value.int k x]) (fun x => (Lit.int k x).wf = true) ht hc (by omega) (fun _ => rfl)
    (fun n cs y hy _ => by obtain ⟨m, h1, _, h3⟩ := DataW.trod_int he hy; exact ⟨m, h1, h3⟩) h hv
end Go.Proofs.Ytlodbhlidgepfaa

namespace Go.Proofs.Ytlodbhlidgepfaa
open Go.ChangeShapes Go.WideShapes Go.ChangeAt Go.RowKit

theorem bulk_app {H : Type} : ∀ (l m : List (DataW H)), Rows.uptoBulkAll (l ++ m) = Rows.uptoBulkAll l + Rows.uptoBulkAll m
  | [], m => by simp [Rows.uptoBulkAll]
  | x :: l, m => by simp only [List.cons_append, Rows.uptoBulkAll, bulk_app l m]; omega

/-- as open_sl; the measures of the elements are no more than the bulk, all together -/
theorem open_slm {H : Type} {enc : TypeId × Value → H} {P : Program} {W : World} {t e : TypeId} {s : Nat} {α : Type} (encα : α → List Value) (wf : α → Prop) (μ : α → Nat) (ht : P.underlying t = some (.slice e)) (hc : P.cellsOf e = s) (hs0 : 0 < s) (hs : ∀ x, (encα x).length = s)
    (hel : ∀ n cs y, DataW.trod enc P W 0 (fun _ => true) true n e cs = some y → cs.length = s → ∃ x, cs = encα x ∧ wf x ∧ μ x ≤ Rows.uptoBulk y.1)
    {v : Value} {d : DataW H} {p : List MemPlace} (h : DataW.Trod enc P W 0 (fun _ => true) true t v d p) (hv : ∃ A len cap, v = .slice A len cap) :
    ∃ xs : List α, SL encα W v xs ∧ (∀ x ∈ xs, wf x) ∧ xs.length ≤ Rows.uptoBulk d ∧ (xs.map μ).sum ≤ Rows.uptoBulk d := by
  obtain ⟨A, len, cap, rfl⟩ := hv
  obtain ⟨fuel, hf⟩ := h
  rcases DataW.trod_slice ht hf with ⟨h1, h2⟩ | ⟨a, len', cap', elems, rest, n, _, h1, h2, _, hl, hm, hlen, hel', _⟩
  · simp [Value.cells] at h1
    obtain ⟨rfl, rfl, rfl⟩ := h1
    exact ⟨[], SL.nil W, (fun x hx => by cases hx), Nat.zero_le _, Nat.zero_le _⟩
  · simp [Value.cells] at h1
    obtain ⟨rfl, rfl, rfl⟩ := h1
    rw [hc] at hel'
    have each : ∀ i, (hi : i < len) → ∃ x, (wf x ∧ μ x ≤ Rows.uptoBulk (elems[i]'(by omega)).1) ∧ ∀ j, j < s → W.cell? (a.add (i * s + j)) = (encα x)[j]? := by
      intro i hi
      have h3 := hel' i hi
      cases hcs : W.cells? 0 (a.add (i * s)) s with
      | none => rw [hcs] at h3; simp at h3; omega
      | some cs =>
        rw [hcs] at h3
        obtain ⟨h4, h5⟩ := cells_get hcs
        have hy : DataW.trod enc P W 0 (fun _ => true) true n e cs = some (elems[i]'(by omega)) := by
          rw [Option.bind_some] at h3
          rw [h3]; exact List.getElem?_eq_getElem _
        obtain ⟨x, rfl, hx⟩ := hel n cs _ hy h4
        refine ⟨x, hx, fun j hj => ?_⟩
        rw [← h5 j hj]
        unfold Addr.add
        by_cases hi0 : i * s = 0
        · simp [hi0]
        · by_cases hj0 : j = 0
          · subst hj0; simp [hi0]
          · rw [if_neg (by omega), if_neg hi0, if_neg hj0]
            simp [Nat.add_assoc]
    have build : ∀ m, m ≤ len → ∃ xs : List α, xs.length = m ∧ (∀ x ∈ xs, wf x) ∧ (xs.map μ).sum ≤ Rows.uptoBulkAll ((elems.take m).map (·.1)) ∧ ∀ i j, i < m → j < s → W.cell? (a.add (i * s + j)) = (xs[i]?).bind fun x => (encα x)[j]? := by
      intro m
      induction m with
      | zero => exact fun _ => ⟨[], rfl, (fun x hx => by cases hx), Nat.zero_le _, fun i j hi => by omega⟩
      | succ m ih =>
        intro hm'
        obtain ⟨xs, e1, e2, e4, e3⟩ := ih (by omega)
        obtain ⟨x, ⟨hx, hμ⟩, hxc⟩ := each m (by omega)
        refine ⟨xs ++ [x], by simp [e1], fun z hz => ?_, ?_, fun i j hi hj => ?_⟩
        · rcases List.mem_append.1 hz with h' | h'
          · exact e2 z h'
          · simp at h'; subst h'; exact hx
        · rw [List.take_succ_eq_append_getElem (by omega), List.map_append, List.map_append, List.sum_append, bulk_app]
          simp only [List.map_cons, List.map_nil, List.sum_cons, List.sum_nil, Rows.uptoBulkAll]
          omega
        · by_cases hi' : i < m
          · rw [e3 i j hi' hj, List.getElem?_append_left (by omega)]
          · obtain rfl : i = m := by omega
            rw [hxc j hj, List.getElem?_append_right (by omega), e1, Nat.sub_self]
            rfl
    obtain ⟨xs, e1, e2, e4, e3⟩ := build len (Nat.le_refl _)
    have hd : d = .slice (elems.map (·.1)) (rest.map (·.1)) := by simp only [Prod.mk.injEq] at h2; exact h2.1
    refine ⟨xs, ⟨some a, cap, by rw [e1], by omega, fun h0 => ?_⟩, e2, ?_, ?_⟩
    · have c0 := e3 0 0 (by omega) hs0
      have hx0 : (xs[0]?) = some (xs[0]'h0) := List.getElem?_eq_getElem h0
      rw [hx0, Nat.zero_mul] at c0
      have h00 : 0 < (encα (xs[0]'h0)).length := by rw [hs]; exact hs0
      have c1 : W.cell? a = some ((encα (xs[0]'h0))[0]'h00) := by
        have : a.add (0 + 0) = a := rfl
        rw [this] at c0
        rw [c0]
        exact List.getElem?_eq_getElem h00
      have ha := add_spot c1
      refine ⟨a.block, a.off, by rw [← ha], World.block_lt_of_cell? _ _ c1, fun i u hu => ?_⟩
      have hil : i < xs.length * s := by rw [← len_flatMap encα s hs]; exact (List.getElem?_eq_some_iff.1 hu).1
      have hq : i / s < len := by rw [← e1]; exact Nat.div_lt_of_lt_mul (by rw [Nat.mul_comm]; exact hil)
      have h7 := e3 (i / s) (i % s) hq (Nat.mod_lt _ hs0)
      rw [Nat.div_add_mod' i s, ← get_flatMap' encα s hs0 hs, hu] at h7
      rw [← h7]
      unfold Addr.add
      split
      · rename_i h'; subst h'; rw [Nat.add_zero]; exact congrArg _ ha.symm
      · rfl
    · rw [hd, e1, ← hlen]
      simp only [Rows.uptoBulk]
      have := bulk_length (elems.map (·.1))
      rw [List.length_map] at this
      omega
    · rw [hd]
      simp only [Rows.uptoBulk]
      rw [List.take_of_length_le (by omega)] at e4
      omega
end Go.Proofs.Ytlodbhlidgepfaa
