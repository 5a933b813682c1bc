/- vocab: which token a byte is, which join two tokens have, in plain Lean. -/
import Derived.Test.YtildhlneldoffaaVGd
set_option linter.unusedVariables false
set_option linter.unusedSimpArgs false
namespace Go.Proofs.Ytildhlneldoffaa
open Go.RowKit
namespace Voc
/-- the first piece that is this byte -/
def tokF (c : Int) : List Pc → Nat
  | [] => 0
  | q :: r => if q.j = false ∧ q.b = c then 0 else tokF c r + 1
/-- what Byte answers -/
def byteE (xs : List Pc) (c : Int) : Int × Int := if (checkE xs).1 = 0 then ((tokF c xs : Nat), 0) else (0, 11)
theorem tokF_at {c : Int} : ∀ (xs : List Pc) (i : Nat) (q : Pc), xs[i]? = some q → q.j = false → q.b = c → (∀ k, k < i → ∀ p, xs[k]? = some p → ¬ (p.j = false ∧ p.b = c)) → tokF c xs = i
  | [], i, q, h, _, _, _ => by simp at h
  | p :: r, 0, q, h, hj, hb, _ => by simp at h; subst h; simp [tokF, hj, hb]
  | p :: r, i + 1, q, h, hj, hb, hf => by
    have h0 := hf 0 (by omega) p rfl
    simp only [tokF]
    rw [if_neg h0, tokF_at r i q (by simpa using h) hj hb (fun k hk p' hp' => hf (k + 1) (by omega) p' (by simpa using hp'))]
theorem tokF_good {xs : List Pc} (H : Inv xs) {i : Nat} {q : Pc} {c : Int} (h : xs[i]? = some q) (hj : q.j = false) (hb : q.b = c) : tokF c xs = i :=
  tokF_at xs i q h hj hb (fun k hk p hp h' => (H.one k i p q hk hp h (h'.1.trans hj.symm)).1 hj (h'.2.trans hb.symm))
theorem tokF_lt {c : Int} : ∀ (xs : List Pc) (k : Nat) (q : Pc), k < tokF c xs → xs[k]? = some q → ¬ (q.j = false ∧ q.b = c)
  | [], k, q, h, hq => by simp at hq
  | p :: r, 0, q, h, hq => by
    simp at hq
    subst hq
    intro h'
    simp [tokF, h'.1, h'.2] at h
  | p :: r, k + 1, q, h, hq => by
    simp only [tokF] at h
    split at h
    · omega
    · exact tokF_lt r k q (by omega) (by simpa using hq)
/-- the first join of two tokens -/
def fndF (l r : Int) : List Pc → Option Nat
  | [] => none
  | q :: t => if q.j = true ∧ q.l = l ∧ q.r = r then some 0 else (fndF l r t).map (· + 1)
def fndV (o : Option Nat) : Int := match o with | some i => (i : Int) | none => 0
theorem fndF_some {l r : Int} : ∀ (xs : List Pc) (i : Nat), fndF l r xs = some i → ∃ q, xs[i]? = some q ∧ q.j = true ∧ q.l = l ∧ q.r = r
  | [], i, h => by simp [fndF] at h
  | p :: t, i, h => by
    simp only [fndF] at h
    split at h
    · rename_i h'
      injection h with h
      subst h
      exact ⟨p, rfl, h'⟩
    · cases hf : fndF l r t with
      | none => rw [hf] at h; cases h
      | some k =>
        rw [hf] at h
        injection h with h
        subst h
        obtain ⟨q, h1, h2⟩ := fndF_some t k hf
        exact ⟨q, by simpa using h1, h2⟩
theorem fndF_none {l r : Int} : ∀ (xs : List Pc), fndF l r xs = none → ∀ q ∈ xs, ¬ (q.j = true ∧ q.l = l ∧ q.r = r)
  | [], h, q, hq => by cases hq
  | p :: t, h, q, hq => by
    simp only [fndF] at h
    split at h
    · cases h
    · rename_i h'
      rcases List.mem_cons.1 hq with e | e
      · subst e; exact h'
      · refine fndF_none t ?_ q e
        cases hf : fndF l r t with
        | none => rfl
        | some k => rw [hf] at h; cases h
theorem fndF_lt {l r : Int} : ∀ (xs : List Pc) (k : Nat) (q : Pc), (∀ i, fndF l r xs = some i → k < i) → xs[k]? = some q → ¬ (q.j = true ∧ q.l = l ∧ q.r = r)
  | [], k, q, _, hq => by simp at hq
  | p :: t, 0, q, h, hq => by
    simp at hq
    subst hq
    intro h'
    have := h 0 (by simp [fndF, h'])
    omega
  | p :: t, k + 1, q, h, hq => by
    by_cases h' : p.j = true ∧ p.l = l ∧ p.r = r
    · have := h 0 (by simp [fndF, h'])
      omega
    · refine fndF_lt t k q (fun i hi => ?_) (by simpa using hq)
      have := h (i + 1) (by simp only [fndF]; rw [if_neg h', hi]; rfl)
      omega
theorem fndF_good {xs : List Pc} (H : Inv xs) {i : Nat} {q : Pc} {l r : Int} (h : xs[i]? = some q) (hj : q.j = true) (hl : q.l = l) (hr : q.r = r) : fndF l r xs = some i := by
  cases hf : fndF l r xs with
  | none => exact absurd ⟨hj, hl, hr⟩ (fndF_none xs hf q (List.mem_of_getElem? h))
  | some k =>
    obtain ⟨p, h1, h2, h3, h4⟩ := fndF_some xs k hf
    rcases Nat.lt_trichotomy k i with h' | h' | h'
    · exact absurd ⟨h3.trans hl.symm, h4.trans hr.symm⟩ ((H.one k i p q h' h1 h (h2.trans hj.symm)).2 hj).1
    · rw [h']
    · exact absurd ⟨hl.trans h3.symm, hr.trans h4.symm⟩ ((H.one i k q p h' h h1 (hj.trans h2.symm)).2 h2).1
/-- what Find answers -/
def findE (xs : List Pc) (l r : Int) : Option Nat := if (checkE xs).1 = 0 then fndF l r xs else none
end Voc
end Go.Proofs.Ytildhlneldoffaa
