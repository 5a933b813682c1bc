/- vocab: what is wrong with a piece, in plain Lean. -/
import Derived.Test.YtmjpghaggnpdbaaVMap
set_option linter.unusedVariables false
set_option linter.unusedSimpArgs false
namespace Go.Proofs.Ytmjpghaggnpdbaa
open Go.RowKit
namespace Voc

/-- a piece -/
structure Pc where
  j : Bool
  b : Int
  l : Int
  r : Int
  k : Int
deriving DecidableEq
def encP (p : Pc) : List Value := [.bool p.j, .int .u8 p.b, .int .i64 p.l, .int .i64 p.r, .int .u32 p.k]
def wfP (p : Pc) : Prop := (Lit.int .u8 p.b).wf = true ∧ (Lit.int .i64 p.l).wf = true ∧ (Lit.int .i64 p.r).wf = true ∧ (Lit.int .u32 p.k).wf = true
theorem encP_len (p : Pc) : (encP p).length = 5 := rfl

def szAt (sz : List Nat) (i : Int) : Nat := sz.getD i.toNat 0
/-- are they bytes of one value? joins of one pair or of one rank? -/
def sameB (p q : Pc) : Bool := !q.j && q.b == p.b
def sameP (p q : Pc) : Bool := q.j && (q.l == p.l && q.r == p.r)
def sameK (p q : Pc) : Bool := q.j && q.k == p.k
/-- what is wrong with a piece behind others -/
def stepE (ps : List Pc) (sz : List Nat) (p : Pc) : Int :=
  if p.j = false then
    if ¬ (p.l = 0 ∧ p.r = 0 ∧ p.k = 0) then 5 else if ps.any (sameB p) then 8 else 0
  else if p.b ≠ 0 then 5
  else if p.l < 0 ∨ (ps.length : Int) ≤ p.l ∨ p.r < 0 ∨ (ps.length : Int) ≤ p.r then 2
  else if 256 < szAt sz p.l + szAt sz p.r then 3
  else if ps.any (sameP p) || ps.any (sameK p) then 8 else 0
def stepS (sz : List Nat) (p : Pc) : Nat := if p.j = false then 1 else szAt sz p.l + szAt sz p.r

/-- the entries of the three maps -/
def be (ps : List Pc) : List (Value × Value) := ps.zipIdx.filterMap fun x => if x.1.j then none else some (.int .u8 x.1.b, .int .i64 (x.2 : Nat))
def pe (ps : List Pc) : List (Value × Value) := ps.zipIdx.filterMap fun x => if x.1.j then some (.agg #[.int .i64 x.1.l, .int .i64 x.1.r], .int .i64 (x.2 : Nat)) else none
def re (ps : List Pc) : List (Value × Value) := ps.zipIdx.filterMap fun x => if x.1.j then some (.int .u32 x.1.k, .int .i64 (x.2 : Nat)) else none
theorem be_snoc (ps : List Pc) (q : Pc) : be (ps ++ [q]) = be ps ++ (if q.j then [] else [(.int .u8 q.b, .int .i64 (ps.length : Nat))]) := by
  unfold be; rw [List.zipIdx_append, List.filterMap_append]; cases h : q.j <;> simp [h]
theorem pe_snoc (ps : List Pc) (q : Pc) : pe (ps ++ [q]) = pe ps ++ (if q.j then [(.agg #[.int .i64 q.l, .int .i64 q.r], .int .i64 (ps.length : Nat))] else []) := by
  unfold pe; rw [List.zipIdx_append, List.filterMap_append]; cases h : q.j <;> simp [h]
theorem re_snoc (ps : List Pc) (q : Pc) : re (ps ++ [q]) = re ps ++ (if q.j then [(.int .u32 q.k, .int .i64 (ps.length : Nat))] else []) := by
  unfold re; rw [List.zipIdx_append, List.filterMap_append]; cases h : q.j <;> simp [h]
theorem mem_be {ps : List Pc} {x : Value × Value} (h : x ∈ be ps) : ∃ q i, ps[i]? = some q ∧ q.j = false ∧ x = (.int .u8 q.b, .int .i64 (i : Nat)) := by
  obtain ⟨⟨q, i⟩, hm, he⟩ := List.mem_filterMap.1 h
  have hi := List.mem_zipIdx_iff_getElem?.1 hm
  simp only at hi he
  cases hj : q.j <;> rw [hj] at he <;> simp at he
  exact ⟨q, i, hi, hj, he.symm⟩
theorem mem_pe {ps : List Pc} {x : Value × Value} (h : x ∈ pe ps) : ∃ q i, ps[i]? = some q ∧ q.j = true ∧ x = (.agg #[.int .i64 q.l, .int .i64 q.r], .int .i64 (i : Nat)) := by
  obtain ⟨⟨q, i⟩, hm, he⟩ := List.mem_filterMap.1 h
  have hi := List.mem_zipIdx_iff_getElem?.1 hm
  simp only at hi he
  cases hj : q.j <;> rw [hj] at he <;> simp at he
  exact ⟨q, i, hi, hj, he.symm⟩
theorem mem_re {ps : List Pc} {x : Value × Value} (h : x ∈ re ps) : ∃ q i, ps[i]? = some q ∧ q.j = true ∧ x = (.int .u32 q.k, .int .i64 (i : Nat)) := by
  obtain ⟨⟨q, i⟩, hm, he⟩ := List.mem_filterMap.1 h
  have hi := List.mem_zipIdx_iff_getElem?.1 hm
  simp only at hi he
  cases hj : q.j <;> rw [hj] at he <;> simp at he
  exact ⟨q, i, hi, hj, he.symm⟩
theorem in_be {ps : List Pc} {q : Pc} {i : Nat} (h : ps[i]? = some q) (hj : q.j = false) : ((.int .u8 q.b, .int .i64 (i : Nat)) : Value × Value) ∈ be ps :=
  List.mem_filterMap.2 ⟨(q, i), List.mem_zipIdx_iff_getElem?.2 h, by simp [hj]⟩
theorem in_pe {ps : List Pc} {q : Pc} {i : Nat} (h : ps[i]? = some q) (hj : q.j = true) : ((.agg #[.int .i64 q.l, .int .i64 q.r], .int .i64 (i : Nat)) : Value × Value) ∈ pe ps :=
  List.mem_filterMap.2 ⟨(q, i), List.mem_zipIdx_iff_getElem?.2 h, by simp [hj]⟩
theorem in_re {ps : List Pc} {q : Pc} {i : Nat} (h : ps[i]? = some q) (hj : q.j = true) : ((.int .u32 q.k, .int .i64 (i : Nat)) : Value × Value) ∈ re ps :=
  List.mem_filterMap.2 ⟨(q, i), List.mem_zipIdx_iff_getElem?.2 h, by simp [hj]⟩
theorem be_no {ps : List Pc} {p : Pc} (h : ps.any (sameB p) = false) : ∀ x ∈ be ps, x.1 ≠ .int .u8 p.b := by
  intro x hx e
  obtain ⟨q, i, hi, hj, rfl⟩ := mem_be hx
  have h1 := List.any_eq_false.1 h q (List.mem_of_getElem? hi)
  injection e with _ e
  simp [sameB, hj, e] at h1
theorem be_yes {ps : List Pc} {p : Pc} (h : ps.any (sameB p) = true) : ∃ v, ((.int .u8 p.b, v) : Value × Value) ∈ be ps := by
  obtain ⟨q, hq, hs⟩ := List.any_eq_true.1 h
  obtain ⟨i, hi⟩ := List.getElem?_of_mem hq
  simp [sameB] at hs
  exact ⟨_, hs.2 ▸ in_be hi hs.1⟩
theorem pe_no {ps : List Pc} {p : Pc} (h : ps.any (sameP p) = false) : ∀ x ∈ pe ps, x.1 ≠ .agg #[.int .i64 p.l, .int .i64 p.r] := by
  intro x hx e
  obtain ⟨q, i, hi, hj, rfl⟩ := mem_pe hx
  have h1 := List.any_eq_false.1 h q (List.mem_of_getElem? hi)
  simp at e
  simp [sameP, hj, e] at h1
theorem pe_yes {ps : List Pc} {p : Pc} (h : ps.any (sameP p) = true) : ∃ v, ((.agg #[.int .i64 p.l, .int .i64 p.r], v) : Value × Value) ∈ pe ps := by
  obtain ⟨q, hq, hs⟩ := List.any_eq_true.1 h
  obtain ⟨i, hi⟩ := List.getElem?_of_mem hq
  simp [sameP] at hs
  exact ⟨_, by have := in_pe hi hs.1; rw [hs.2.1, hs.2.2] at this; exact this⟩
theorem re_no {ps : List Pc} {p : Pc} (h : ps.any (sameK p) = false) : ∀ x ∈ re ps, x.1 ≠ .int .u32 p.k := by
  intro x hx e
  obtain ⟨q, i, hi, hj, rfl⟩ := mem_re hx
  have h1 := List.any_eq_false.1 h q (List.mem_of_getElem? hi)
  injection e with _ e
  simp [sameK, hj, e] at h1
theorem re_yes {ps : List Pc} {p : Pc} (h : ps.any (sameK p) = true) : ∃ v, ((.int .u32 p.k, v) : Value × Value) ∈ re ps := by
  obtain ⟨q, hq, hs⟩ := List.any_eq_true.1 h
  obtain ⟨i, hi⟩ := List.getElem?_of_mem hq
  simp [sameK] at hs
  exact ⟨_, by have := in_re hi hs.1; rw [hs.2] at this; exact this⟩
end Voc
end Go.Proofs.Ytmjpghaggnpdbaa
