/- model: states, deeds and answers, in plain Lean. -/
import Derived.Test.YtlodbhlidgepfaaEWi
import Derived.Test.YtlodbhlidgepfaaGLi
import Derived.Test.YtlodbhlidgepfaaGWh
set_option linter.unusedVariables false
set_option linter.unusedSimpArgs false
namespace Go.Proofs.Ytlodbhlidgepfaa
open Go.RowKit
open Voc Leb Crc Bpe
namespace Mod
structure Dc where
  id : Int
  b : List Int
deriving DecidableEq
structure St where
  docs : List Dc
  next : Int
  voc : List Pc
structure Dd where
  k : Int
  id : Int
  n : Int
  b : List Int
structure An where
  e : Int
  id : Int
  n : Int
  b : List Int
  ids : List Int
  more : Bool
def an0 : An := ⟨0, 0, 0, [], [], false⟩
/-- is document i as it may be? -/
def okAt (nx : Int) (ds : List Dc) (i : Nat) : Bool :=
  decide (1 ≤ (ds.getD i ⟨0, []⟩).id) && (decide ((ds.getD i ⟨0, []⟩).id < nx) && ((decide (i = 0) || decide ((ds.getD (i - 1) ⟨0, []⟩).id < (ds.getD i ⟨0, []⟩).id)) && decide ((ds.getD i ⟨0, []⟩).b.length ≤ 4096)))
def okTo (nx : Int) (ds : List Dc) (k : Nat) : Prop := ∀ i, i < k → okAt nx ds i = true
instance (nx : Int) (ds : List Dc) (k : Nat) : Decidable (okTo nx ds k) := inferInstanceAs (Decidable (∀ i, i < k → okAt nx ds i = true))
def mayB (s : St) : Bool := decide (1 ≤ s.next ∧ s.next ≤ 4294967296) && (decide (okTo s.next s.docs s.docs.length) && decide ((checkE s.voc).1 = 0))
def dmayE (d : Dd) : Bool :=
  if d.k = 6 ∨ d.k = 7 ∨ d.k = 8 then decide (d.id = 0 ∧ d.n = 0 ∧ d.b.length = 0)
  else if d.k = 2 ∨ d.k = 3 ∨ d.k = 4 then decide (d.n = 0 ∧ d.b.length = 0)
  else if d.k = 5 then decide (d.b.length = 0 ∧ 0 ≤ d.n ∧ d.n ≤ 65536)
  else if d.k = 1 ∨ d.k = 9 then decide (d.id = 0 ∧ d.n = 0)
  else false
/-- the place of the first document from an Id on -/
def atE (ds : List Dc) (id : Int) : Nat := ds.findIdx fun d => decide (id ≤ d.id)
def hasE (ds : List Dc) (id : Int) : Bool := decide ((ds[atE ds id]?).map (·.id) = some id)
def ingE (s : St) (b : List Int) : St × An :=
  if 4096 < b.length then (s, { an0 with e := 12 })
  else if 4294967295 < s.next then (s, { an0 with e := 3 })
  else (⟨s.docs ++ [⟨s.next, b⟩], s.next + 1, s.voc⟩, { an0 with id := s.next })
def migE (s : St) (b : List Int) : St × An :=
  if (Vf.readE b).2.2 ≠ 0 then (s, { an0 with e := 11 })
  else (⟨s.docs, s.next, (Vf.readE b).1⟩, { an0 with id := (Vf.idE (Vf.readE b).1 : Nat) })
def doE (s : St) (d : Dd) : St × An :=
  if mayB s = false ∨ dmayE d = false then (s, { an0 with e := 2 })
  else if d.k = 1 then ingE s d.b
  else if (d.k = 2 ∨ d.k = 3 ∨ d.k = 4) ∧ hasE s.docs d.id = false then (s, { an0 with e := 7 })
  else if d.k = 9 then migE s d.b
  else if d.k = 2 then (⟨s.docs.eraseIdx (atE s.docs d.id), s.next, s.voc⟩, { an0 with id := d.id })
  else if d.k = 3 then (s, { an0 with b := (s.docs.getD (atE s.docs d.id) ⟨0, []⟩).b })
  else if d.k = 4 then (s, { an0 with e := (encE s.voc (s.docs.getD (atE s.docs d.id) ⟨0, []⟩).b).2, ids := (encE s.voc (s.docs.getD (atE s.docs d.id) ⟨0, []⟩).b).1 })
  else if d.k = 5 then (s, { an0 with ids := ((s.docs.drop (atE s.docs d.id)).take d.n.toNat).map (·.id), more := decide (d.n < ((s.docs.drop (atE s.docs d.id)).length : Int)) })
  else if d.k = 6 then (s, { an0 with n := s.docs.length })
  else (s, an0)

/-! ### numbers and bytes that may be -/
def wfD (d : Dc) : Prop := (0 ≤ d.id ∧ d.id < 18446744073709551616) ∧ Leb.Bs d.b ∧ d.b.length ≤ 1048576
structure wfS (s : St) : Prop where
  docs : ∀ d ∈ s.docs, wfD d
  nd : s.docs.length ≤ 1048000
  next : 0 ≤ s.next ∧ s.next < 18446744073709551616
  voc : ∀ q ∈ s.voc, wfP q
  nv : s.voc.length ≤ 1048576

theorem rising {nx : Int} {ds : List Dc} (h : okTo nx ds ds.length) : ∀ i j, i < j → j < ds.length → (ds.getD i ⟨0, []⟩).id < (ds.getD j ⟨0, []⟩).id := by
  intro i j hij hj
  induction j with
  | zero => omega
  | succ j ih =>
    have h1 := h (j + 1) hj
    simp only [okAt, Bool.and_eq_true, Bool.or_eq_true, decide_eq_true_eq] at h1
    have h2 : (ds.getD j ⟨0, []⟩).id < (ds.getD (j + 1) ⟨0, []⟩).id := by
      rcases h1.2.2.1 with h | h
      · omega
      · exact h
    rcases Nat.lt_or_ge i j with h3 | h3
    · have := ih h3 (by omega)
      omega
    · obtain rfl : i = j := by omega
      exact h2
theorem getD_get {α : Type} (l : List α) (i : Nat) (a : α) (h : i < l.length) : l.getD i a = l[i] := by rw [List.getD_eq_getElem?_getD, List.getElem?_eq_getElem h]; rfl
/-- what a search by halves comes to -/
theorem at_of {ds : List Dc} {id : Int} {k : Nat} (hk : k ≤ ds.length) (h1 : ∀ i, i < k → (ds.getD i ⟨0, []⟩).id < id) (h2 : k < ds.length → id ≤ (ds.getD k ⟨0, []⟩).id) : atE ds id = k := by
  unfold atE
  rcases Nat.lt_or_ge k ds.length with h | h
  · refine (List.findIdx_eq h).2 ⟨?_, fun j hj => ?_⟩
    · have := h2 h; rw [getD_get ds k _ h] at this; exact decide_eq_true this
    · have := h1 j hj; rw [getD_get ds j _ (by omega)] at this; exact decide_eq_false (by omega)
  · obtain rfl : k = ds.length := by omega
    refine List.findIdx_eq_length_of_false fun d hd => ?_
    obtain ⟨i, hi, rfl⟩ := List.getElem_of_mem hd
    have := h1 i hi
    rw [getD_get ds i _ hi] at this
    exact decide_eq_false (by omega)
theorem at_le (ds : List Dc) (id : Int) : atE ds id ≤ ds.length := List.findIdx_le_length
theorem has_lt {ds : List Dc} {id : Int} (h : hasE ds id = true) : atE ds id < ds.length ∧ (ds.getD (atE ds id) ⟨0, []⟩).id = id := by
  unfold hasE at h
  have h := of_decide_eq_true h
  cases hh : ds[atE ds id]? with
  | none => rw [hh] at h; cases h
  | some d =>
    rw [hh] at h
    injection h with h
    have hlt := (List.getElem?_eq_some_iff.1 hh).1
    exact ⟨hlt, by rw [List.getD_eq_getElem?_getD, hh]; exact h⟩
theorem has_no {ds : List Dc} {id : Int} (h : atE ds id < ds.length → (ds.getD (atE ds id) ⟨0, []⟩).id ≠ id) : hasE ds id = false := by
  unfold hasE
  refine decide_eq_false fun h1 => ?_
  rcases Nat.lt_or_ge (atE ds id) ds.length with h2 | h2
  · rw [List.getElem?_eq_getElem h2] at h1
    injection h1 with h1
    exact h h2 (by rw [getD_get _ _ _ h2]; exact h1)
  · rw [List.getElem?_eq_none h2] at h1
    cases h1
theorem has_yes {ds : List Dc} {id : Int} (h : atE ds id < ds.length) (h1 : (ds.getD (atE ds id) ⟨0, []⟩).id = id) : hasE ds id = true := by
  unfold hasE
  refine decide_eq_true ?_
  rw [List.getElem?_eq_getElem h]
  rw [getD_get _ _ _ h] at h1
  simp [h1]
theorem may_parts {s : St} (h : mayB s = true) : (1 ≤ s.next ∧ s.next ≤ 4294967296) ∧ okTo s.next s.docs s.docs.length ∧ (checkE s.voc).1 = 0 := by
  unfold mayB at h
  simp only [Bool.and_eq_true, decide_eq_true_eq] at h
  exact h
theorem may_of {s : St} (h1 : 1 ≤ s.next ∧ s.next ≤ 4294967296) (h2 : okTo s.next s.docs s.docs.length) (h3 : (checkE s.voc).1 = 0) : mayB s = true := by
  unfold mayB
  simp only [Bool.and_eq_true, decide_eq_true_eq]
  exact ⟨h1, h2, h3⟩
theorem ok_parts {nx : Int} {ds : List Dc} {i : Nat} (h : okAt nx ds i = true) : 1 ≤ (ds.getD i ⟨0, []⟩).id ∧ (ds.getD i ⟨0, []⟩).id < nx ∧ (i = 0 ∨ (ds.getD (i - 1) ⟨0, []⟩).id < (ds.getD i ⟨0, []⟩).id) ∧ (ds.getD i ⟨0, []⟩).b.length ≤ 4096 := by
  simp only [okAt, Bool.and_eq_true, Bool.or_eq_true, decide_eq_true_eq] at h
  exact h
theorem ok_of {nx : Int} {ds : List Dc} {i : Nat} (h : 1 ≤ (ds.getD i ⟨0, []⟩).id ∧ (ds.getD i ⟨0, []⟩).id < nx ∧ (i = 0 ∨ (ds.getD (i - 1) ⟨0, []⟩).id < (ds.getD i ⟨0, []⟩).id) ∧ (ds.getD i ⟨0, []⟩).b.length ≤ 4096) : okAt nx ds i = true := by
  simp only [okAt, Bool.and_eq_true, Bool.or_eq_true, decide_eq_true_eq]
  exact h
/-- a read vocabulary has a file -/
theorem read_file {b : List Int} (hb : Leb.Bs b) (h : (Vf.readE b).2.2 = 0) : (checkE (Vf.readE b).1).1 = 0 ∧ (∀ q ∈ (Vf.readE b).1, wfP q) ∧ (Vf.readE b).1.length ≤ 4096 := by
  rcases hr : Vf.readE b with ⟨ps, x, E⟩
  rw [hr] at h
  simp only at h
  subst h
  obtain ⟨h1, h2, h3, _, _⟩ := Vf.read_ok hb hr
  refine ⟨h2, h3, ?_⟩
  obtain ⟨a, ha⟩ : ∃ a, checkE ps = (0, a) := ⟨(checkE ps).2, by rw [← h2]⟩
  exact (ok_of_check ha).1
theorem ing_wf {s : St} {b : List Int} (h : wfS s) (hn : s.docs.length < 1048000) (hb : Leb.Bs b) : wfS (ingE s b).1 := by
  unfold ingE
  split
  · exact h
  · split
    · exact h
    · refine ⟨fun d hd => ?_, by simp; omega, by have := h.next; simp only; omega, h.voc, h.nv⟩
      simp only [List.mem_append, List.mem_singleton] at hd
      rcases hd with hd | rfl
      · exact h.docs d hd
      · exact ⟨h.next, hb, by simp only; omega⟩
theorem mig_wf {s : St} {b : List Int} (h : wfS s) (hb : Leb.Bs b) : wfS (migE s b).1 := by
  unfold migE
  split
  · exact h
  · rename_i hr
    have := read_file hb (by simpa using hr)
    exact ⟨h.docs, h.nd, h.next, this.2.1, by have := this.2.2; simp only; omega⟩
theorem do_wf {s : St} {d : Dd} (h : wfS s) (hn : s.docs.length < 1048000) (hb : Leb.Bs d.b) : wfS (doE s d).1 := by
  unfold doE
  repeat' split
  all_goals first
    | exact h
    | exact ing_wf h hn hb
    | exact mig_wf h hb
    | exact ⟨fun x hx => h.docs x (List.mem_of_mem_eraseIdx hx), by have := h.nd; have := List.length_eraseIdx_le s.docs (atE s.docs d.id); simp only; omega, h.next, h.voc, h.nv⟩
theorem do_len (s : St) (d : Dd) : (doE s d).1.docs.length ≤ s.docs.length + 1 := by
  unfold doE ingE migE
  repeat' split
  all_goals first
    | simp only; omega
    | (simp only [List.length_append, List.length_singleton]; omega)
    | (have := List.length_eraseIdx_le s.docs (atE s.docs d.id); simp only; omega)
end Mod
end Go.Proofs.Ytlodbhlidgepfaa
