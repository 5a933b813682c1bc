/- vocab: the joins by rising ranks, in plain Lean. -/
import Derived.Test.YtdogccgebgdlmaaVTa
import Derived.Test.YtdogccgebgdlmaaVJa
set_option linter.unusedVariables false
set_option linter.unusedSimpArgs false
namespace Go.Proofs.Ytdogccgebgdlmaa
open Go.RowKit
namespace Voc
def isJ (xs : List Pc) (i : Nat) : Bool := match xs[i]? with | some q => q.j | none => false
/-- the joins, as they stand -/
def jl (xs : List Pc) (n : Nat) : List Nat := (List.range n).filter (isJ xs)
def below (xs : List Pc) (i : Nat) (a : Nat) : Bool := decide (rk xs a < rk xs i)
def insR (xs : List Pc) (l : List Nat) (i : Nat) : List Nat := l.takeWhile (below xs i) ++ i :: l.dropWhile (below xs i)
def joinsN (xs : List Pc) (n : Nat) : List Nat := (jl xs n).foldl (insR xs) []
/-- the joins, by rising ranks -/
def joinsF (xs : List Pc) : List Nat := joinsN xs xs.length
theorem isJ_of {xs : List Pc} {i : Nat} {q : Pc} (h : xs[i]? = some q) : isJ xs i = q.j := by unfold isJ; rw [h]
theorem isJ_lt {xs : List Pc} {i : Nat} (h : isJ xs i = true) : i < xs.length := by
  unfold isJ at h
  cases hx : xs[i]? with
  | none => rw [hx] at h; cases h
  | some q => exact (List.getElem?_eq_some_iff.1 hx).1
theorem rk_of {xs : List Pc} {i : Nat} {q : Pc} (h : xs[i]? = some q) : rk xs i = q.k := by unfold rk; rw [h]; rfl
theorem jl_succ (xs : List Pc) (n : Nat) : jl xs (n + 1) = if isJ xs n = true then jl xs n ++ [n] else jl xs n := by
  unfold jl
  rw [List.range_succ, List.filter_append]
  cases h : isJ xs n <;> simp [h]
theorem joinsN_succ (xs : List Pc) (n : Nat) : joinsN xs (n + 1) = if isJ xs n = true then insR xs (joinsN xs n) n else joinsN xs n := by
  unfold joinsN
  rw [jl_succ]
  cases h : isJ xs n <;> simp [h]
theorem insR_perm (xs : List Pc) (l : List Nat) (i : Nat) : (insR xs l i).Perm (i :: l) := by
  unfold insR
  refine List.perm_middle.trans ?_
  rw [List.takeWhile_append_dropWhile]
theorem joinsN_perm (xs : List Pc) (n : Nat) : (joinsN xs n).Perm (jl xs n) := by
  induction n with
  | zero => exact List.Perm.refl _
  | succ n ih =>
    rw [joinsN_succ, jl_succ]
    cases h : isJ xs n
    · exact ih
    · simp only [if_true]
      refine (insR_perm xs _ n).trans ((ih.cons n).trans ?_)
      exact (List.perm_append_singleton n _).symm
theorem mem_jl {xs : List Pc} {n i : Nat} : i ∈ jl xs n ↔ i < n ∧ isJ xs i = true := by
  unfold jl; rw [List.mem_filter, List.mem_range]
theorem mem_joinsN {xs : List Pc} {n i : Nat} : i ∈ joinsN xs n ↔ i < n ∧ isJ xs i = true := by
  rw [(joinsN_perm xs n).mem_iff, mem_jl]
theorem rk_inj {xs : List Pc} (H : Inv xs) {i j : Nat} (hi : isJ xs i = true) (hj : isJ xs j = true) (h : rk xs i = rk xs j) : i = j := by
  have h1 := isJ_lt hi
  have h2 := isJ_lt hj
  have e1 := List.getElem?_eq_getElem h1
  have e2 := List.getElem?_eq_getElem h2
  rw [isJ_of e1] at hi
  rw [isJ_of e2] at hj
  rw [rk_of e1, rk_of e2] at h
  rcases Nat.lt_trichotomy i j with h' | h' | h'
  · exact absurd h ((H.one i j _ _ h' e1 e2 (hi.trans hj.symm)).2 hj).2
  · exact h'
  · exact absurd h.symm ((H.one j i _ _ h' e2 e1 (hj.trans hi.symm)).2 hi).2
def Asc (xs : List Pc) (l : List Nat) : Prop := l.Pairwise fun a b => rk xs a < rk xs b
theorem drop_le {xs : List Pc} {i : Nat} : ∀ {l : List Nat}, Asc xs l → ∀ a ∈ l.dropWhile (below xs i), rk xs i ≤ rk xs a
  | [], _, a, h => by cases h
  | x :: l, hp, a, h => by
    rw [List.dropWhile_cons] at h
    have hp' := List.pairwise_cons.1 hp
    split at h
    · exact drop_le hp'.2 a h
    · rename_i hx
      have hx' : rk xs i ≤ rk xs x := by simpa [below] using hx
      rcases List.mem_cons.1 h with e | e
      · subst e; exact hx'
      · have := hp'.1 a e; omega
theorem take_lt {xs : List Pc} {i : Nat} {l : List Nat} : ∀ a ∈ l.takeWhile (below xs i), rk xs a < rk xs i := by
  induction l with
  | nil => intro a h; cases h
  | cons x l ih =>
    intro a h
    rw [List.takeWhile_cons] at h
    split at h
    · rename_i hx
      rcases List.mem_cons.1 h with e | e
      · subst e; simpa [below] using hx
      · exact ih a e
    · cases h
theorem insR_asc {xs : List Pc} (H : Inv xs) {l : List Nat} {i : Nat} (hl : Asc xs l) (hj : ∀ a ∈ l, isJ xs a = true ∧ a ≠ i) (hi : isJ xs i = true) : Asc xs (insR xs l i) := by
  unfold insR Asc
  have hd : ∀ b ∈ l.dropWhile (below xs i), rk xs i < rk xs b := by
    intro b hb
    have h1 := drop_le hl b hb
    have h2 := hj b ((List.dropWhile_sublist _).subset hb)
    rcases Int.lt_or_eq_of_le h1 with h | h
    · exact h
    · exact absurd (rk_inj H hi h2.1 h).symm h2.2
  rw [List.pairwise_append]
  refine ⟨hl.sublist (List.takeWhile_sublist _), List.pairwise_cons.2 ⟨hd, hl.sublist (List.dropWhile_sublist _)⟩, fun a ha b hb => ?_⟩
  have h1 := take_lt a ha
  rcases List.mem_cons.1 hb with e | e
  · subst e; exact h1
  · have := hd b e; omega
theorem joinsN_asc {xs : List Pc} (H : Inv xs) : ∀ n, Asc xs (joinsN xs n)
  | 0 => List.Pairwise.nil
  | n + 1 => by
    rw [joinsN_succ]
    cases h : isJ xs n
    · exact joinsN_asc H n
    · exact insR_asc H (joinsN_asc H n) (fun a ha => by have := mem_joinsN.1 ha; exact ⟨this.2, by omega⟩) h
theorem asc_eq {xs : List Pc} : ∀ {l m : List Nat}, Asc xs l → Asc xs m → l.Perm m → l = m
  | [], m, _, _, hp => (List.nil_perm.1 hp).symm
  | x :: l, [], _, _, hp => absurd (List.perm_nil.1 hp) (by simp)
  | x :: l, y :: m, hl, hm, hp => by
    have hl' := List.pairwise_cons.1 hl
    have hm' := List.pairwise_cons.1 hm
    have hxy : x = y := by
      have h1 : x ∈ y :: m := hp.mem_iff.1 (by simp)
      have h2 : y ∈ x :: l := hp.mem_iff.2 (by simp)
      rcases List.mem_cons.1 h1 with e | e
      · exact e
      · rcases List.mem_cons.1 h2 with e' | e'
        · exact e'.symm
        · have a := hm'.1 x e
          have b := hl'.1 y e'
          omega
    subst hxy
    rw [asc_eq hl'.2 hm'.2 ((List.perm_cons x).1 hp)]
/-- whatever ascends and holds all joins, each once, is the row -/
theorem asc_joins {xs : List Pc} (H : Inv xs) {l : List Nat} (hl : Asc xs l) (hp : l.Perm (jl xs xs.length)) : l = joinsF xs :=
  asc_eq hl (joinsN_asc H _) (hp.trans (joinsN_perm xs _).symm)
theorem re_eq (ps : List Pc) : re ps = (jl ps ps.length).map fun i => (.int .u32 (rk ps i), .int .i64 (i : Nat)) := by
  have h : ∀ (r ps : List Pc) (n : Nat), (∀ i, r[i]? = ps[n + i]?) → ((r.zipIdx n).filterMap fun x => if x.1.j then some ((.int .u32 x.1.k, .int .i64 (x.2 : Nat)) : Value × Value) else none) = (((List.range' n r.length).filter (isJ ps)).map fun i => (.int .u32 (rk ps i), .int .i64 (i : Nat))) := by
    intro r
    induction r with
    | nil => intro ps n _; rfl
    | cons q r ih =>
      intro ps n hr
      have h0 := hr 0
      rw [List.getElem?_cons_zero, Nat.add_zero] at h0
      have h := ih ps (n + 1) (fun i => by have := hr (i + 1); rw [List.getElem?_cons_succ] at this; rw [this]; congr 1; omega)
      rw [List.zipIdx_cons, List.filterMap_cons, List.length_cons, List.range'_succ, List.filter_cons, h, isJ_of h0.symm]
      cases hj : q.j <;> simp [hj, rk_of h0.symm]
  have := h ps ps 0 (fun i => by rw [Nat.zero_add])
  unfold re jl
  rw [this, List.range_eq_range']
end Voc
end Go.Proofs.Ytdogccgebgdlmaa
