/- bpe: a step and the tokens, by the rule, in plain Lean. -/
import Derived.Test.YtildhlneldoffaaVFp
set_option linter.unusedVariables false
set_option linter.unusedSimpArgs false
namespace Go.Proofs.Ytildhlneldoffaa
open Voc
namespace Bpe
/-- the rank of piece t -/
def rk (xs : List Pc) (t : Nat) : Int := match xs[t]? with | some q => q.k | none => 0
/-- the better of two pairs -/
def better (xs : List Pc) (o : Option (Nat × Nat)) (i t : Nat) : Option (Nat × Nat) :=
  match o with
  | none => some (i, t)
  | some (a, b) => if rk xs t < rk xs b then some (i, t) else some (a, b)
def fndAt (xs : List Pc) (l : List Int) (i : Nat) : Option Nat := fndF (l.getD i 0) (l.getD (i + 1) 0) xs
/-- the best of the first k pairs -/
def scan (xs : List Pc) (l : List Int) : Nat → Option (Nat × Nat)
  | 0 => none
  | k + 1 => match fndAt xs l k with
    | none => scan xs l k
    | some t => better xs (scan xs l k) k t
def stepR (xs : List Pc) (l : List Int) : Option (Nat × Nat) := scan xs l (l.length - 1)
def joined (l : List Int) (i t : Nat) : List Int := l.take i ++ ((t : Int) :: l.drop (i + 2))
/-- so many steps -/
def encN (xs : List Pc) : Nat → List Int → List Int
  | 0, l => l
  | n + 1, l => match stepR xs l with
    | none => l
    | some (i, t) => encN xs n (joined l i t)
def encL (xs : List Pc) (l : List Int) : List Int := encN xs l.length l

/-- what the best pair is -/
def Best (xs : List Pc) (l : List Int) (k i t : Nat) : Prop :=
  i < k ∧ fndAt xs l i = some t ∧ ∀ i' t', i' < k → fndAt xs l i' = some t' → rk xs t ≤ rk xs t' ∧ (i' < i → rk xs t < rk xs t')
theorem scan_none {xs : List Pc} {l : List Int} : ∀ {k : Nat}, scan xs l k = none → ∀ i, i < k → fndAt xs l i = none
  | 0, _, i, hi => by omega
  | k + 1, h, i, hi => by
    simp only [scan] at h
    cases hf : fndAt xs l k with
    | none =>
      rw [hf] at h
      rcases Nat.lt_or_eq_of_le (Nat.le_of_lt_succ hi) with h' | h'
      · exact scan_none h i h'
      · rw [h']; exact hf
    | some t =>
      rw [hf] at h
      simp only at h
      unfold better at h
      split at h
      · cases h
      · split at h <;> cases h
theorem scan_some {xs : List Pc} {l : List Int} : ∀ {k i t : Nat}, scan xs l k = some (i, t) → Best xs l k i t
  | 0, i, t, h => by cases h
  | k + 1, i, t, h => by
    simp only [scan] at h
    cases hf : fndAt xs l k with
    | none =>
      rw [hf] at h
      obtain ⟨h1, h2, h3⟩ := scan_some h
      refine ⟨by omega, h2, fun i' t' hi' ht' => ?_⟩
      rcases Nat.lt_or_eq_of_le (Nat.le_of_lt_succ hi') with h' | h'
      · exact h3 i' t' h' ht'
      · rw [h', hf] at ht'; cases ht'
    | some u =>
      rw [hf] at h
      simp only at h
      cases hs : scan xs l k with
      | none =>
        rw [hs] at h
        simp only [better] at h
        injection h with h
        injection h with ha hb
        subst ha hb
        refine ⟨by omega, hf, fun i' t' hi' ht' => ?_⟩
        rcases Nat.lt_or_eq_of_le (Nat.le_of_lt_succ hi') with h' | h'
        · rw [scan_none hs i' h'] at ht'; cases ht'
        · subst h'
          rw [hf] at ht'
          injection ht' with ht'
          subst ht'
          exact ⟨Int.le_refl _, fun h => by omega⟩
      | some ab =>
        obtain ⟨a, b⟩ := ab
        rw [hs] at h
        simp only [better] at h
        obtain ⟨h1, h2, h3⟩ := scan_some hs
        split at h
        · rename_i hlt
          injection h with h
          injection h with ha hb
          subst ha hb
          refine ⟨by omega, hf, fun i' t' hi' ht' => ?_⟩
          rcases Nat.lt_or_eq_of_le (Nat.le_of_lt_succ hi') with h' | h'
          · have := (h3 i' t' h' ht').1
            exact ⟨by omega, fun _ => by omega⟩
          · subst h'
            rw [hf] at ht'
            injection ht' with ht'
            subst ht'
            exact ⟨Int.le_refl _, fun h => by omega⟩
        · rename_i hlt
          injection h with h
          injection h with ha hb
          subst ha hb
          refine ⟨by omega, h2, fun i' t' hi' ht' => ?_⟩
          rcases Nat.lt_or_eq_of_le (Nat.le_of_lt_succ hi') with h' | h'
          · exact h3 i' t' h' ht'
          · subst h'
            rw [hf] at ht'
            injection ht' with ht'
            subst ht'
            exact ⟨by omega, fun h => by omega⟩
theorem Best.uniq {xs : List Pc} {l : List Int} {k i t i2 t2 : Nat} (h : Best xs l k i t) (h' : Best xs l k i2 t2) : i = i2 ∧ t = t2 := by
  obtain ⟨a1, a2, a3⟩ := h
  obtain ⟨b1, b2, b3⟩ := h'
  have c := a3 i2 t2 b1 b2
  have d := b3 i t a1 a2
  have e : i = i2 := by
    rcases Nat.lt_trichotomy i i2 with h | h | h
    · have := d.2 h; have := c.1; omega
    · exact h
    · have := c.2 h; have := d.1; omega
  subst e
  rw [a2] at b2
  injection b2 with b2
  exact ⟨rfl, b2⟩
theorem scan_of {xs : List Pc} {l : List Int} {k i t : Nat} (h : Best xs l k i t) : scan xs l k = some (i, t) := by
  cases hs : scan xs l k with
  | none => have h2 := h.2.1; rw [scan_none hs i h.1] at h2; cases h2
  | some ab =>
    obtain ⟨a, b⟩ := ab
    obtain ⟨rfl, rfl⟩ := h.uniq (scan_some hs)
    rfl
theorem scan_of_none {xs : List Pc} {l : List Int} : ∀ {k : Nat}, (∀ i, i < k → fndAt xs l i = none) → scan xs l k = none
  | 0, _ => rfl
  | k + 1, h => by
    simp only [scan]
    rw [h k (by omega)]
    exact scan_of_none (fun i hi => h i (by omega))
theorem joined_len {l : List Int} {i t : Nat} (h : i + 1 < l.length) : (joined l i t).length = l.length - 1 := by
  simp only [joined, List.length_append, List.length_take, List.length_cons, List.length_drop]; omega
theorem stepR_lt {xs : List Pc} {l : List Int} {i t : Nat} (h : stepR xs l = some (i, t)) : i + 1 < l.length := by
  have := (scan_some h).1; omega
theorem encN_more {xs : List Pc} : ∀ (f g : Nat) (l : List Int), l.length ≤ f + 1 → l.length ≤ g + 1 → encN xs f l = encN xs g l
  | f, 0, l, h1, h2 => by
    have h0 : stepR xs l = none := by
      unfold stepR
      rw [show l.length - 1 = 0 by omega]
      rfl
    cases f with
    | zero => rfl
    | succ f => simp only [encN, h0]
  | 0, g + 1, l, h1, h2 => by
    have h0 : stepR xs l = none := by
      unfold stepR
      rw [show l.length - 1 = 0 by omega]
      rfl
    simp only [encN, h0]
  | f + 1, g + 1, l, h1, h2 => by
    simp only [encN]
    cases hs : stepR xs l with
    | none => rfl
    | some ab =>
      obtain ⟨i, t⟩ := ab
      simp only
      have hl := joined_len (t := t) (stepR_lt hs)
      exact encN_more f g _ (by omega) (by omega)
theorem encL_step {xs : List Pc} {l : List Int} {i t : Nat} (h : stepR xs l = some (i, t)) : encL xs l = encL xs (joined l i t) := by
  have hl := joined_len (t := t) (stepR_lt h)
  have hlt := stepR_lt h
  unfold encL
  obtain ⟨n, hn⟩ : ∃ n, l.length = n + 1 := ⟨l.length - 1, by omega⟩
  rw [hn]
  simp only [encN, h]
  exact encN_more _ _ _ (by omega) (by omega)
theorem encL_none {xs : List Pc} {l : List Int} (h : stepR xs l = none) : encL xs l = l := by
  unfold encL
  cases hn : l.length with
  | zero => rfl
  | succ n => simp only [encN, h]
/-- what holds of a row and stays with a step holds of its tokens -/
theorem encL_ind {xs : List Pc} (P : List Int → Prop) (hP : ∀ l i t, P l → stepR xs l = some (i, t) → P (joined l i t)) : ∀ (n : Nat) (l : List Int), l.length ≤ n → P l → P (encL xs l)
  | 0, l, hn, h => by
    have : l = [] := List.eq_nil_of_length_eq_zero (by omega)
    subst this; exact h
  | n + 1, l, hn, h => by
    cases hs : stepR xs l with
    | none => rw [encL_none hs]; exact h
    | some ab =>
      obtain ⟨i, t⟩ := ab
      rw [encL_step hs]
      have hl := joined_len (t := t) (stepR_lt hs)
      have hlt := stepR_lt hs
      exact encL_ind P hP n _ (by omega) (hP l i t h hs)
/-- no step is left -/
theorem encL_end {xs : List Pc} : ∀ (n : Nat) (l : List Int), l.length ≤ n → stepR xs (encL xs l) = none
  | 0, l, hn => by
    have : l = [] := List.eq_nil_of_length_eq_zero (by omega)
    subst this; rfl
  | n + 1, l, hn => by
    cases hs : stepR xs l with
    | none => rw [encL_none hs]; exact hs
    | some ab =>
      obtain ⟨i, t⟩ := ab
      rw [encL_step hs]
      have hl := joined_len (t := t) (stepR_lt hs)
      have hlt := stepR_lt hs
      exact encL_end n _ (by omega)
theorem encL_le {xs : List Pc} (l : List Int) : (encL xs l).length ≤ l.length := by
  refine encL_ind (xs := xs) (fun m => m.length ≤ l.length) (fun m i t hm hs => ?_) l.length l (Nat.le_refl _) (Nat.le_refl _)
  rw [joined_len (stepR_lt hs)]; omega
theorem fndAt_lt {xs : List Pc} {l : List Int} {i t : Nat} (h : fndAt xs l i = some t) : t < xs.length := by
  obtain ⟨q, h1, _⟩ := fndF_some xs t h
  exact (List.getElem?_eq_some_iff.1 h1).1
theorem joined_get {l : List Int} {i t : Nat} (h : i + 1 < l.length) (k : Nat) : (joined l i t)[k]? = if k < i then l[k]? else if k = i then some (t : Int) else l[k + 1]? := by
  unfold joined
  by_cases h1 : k < i
  · rw [if_pos h1, List.getElem?_append_left (by rw [List.length_take]; omega), List.getElem?_take, if_pos h1]
  · rw [if_neg h1, List.getElem?_append_right (by rw [List.length_take]; omega), List.length_take, Nat.min_eq_left (by omega)]
    by_cases h2 : k = i
    · rw [if_pos h2, h2, Nat.sub_self]; rfl
    · rw [if_neg h2]
      obtain ⟨m, hm⟩ : ∃ m, k = i + 1 + m := ⟨k - i - 1, by omega⟩
      rw [show k - i = m + 1 by omega, List.getElem?_cons_succ, List.getElem?_drop]
      congr 1
      omega
/-- the tokens of a row are pieces -/
def InV (xs : List Pc) (l : List Int) : Prop := ∀ x ∈ l, 0 ≤ x ∧ x < (xs.length : Int)
theorem InV.joined {xs : List Pc} {l : List Int} {i t : Nat} (h : InV xs l) (ht : t < xs.length) : InV xs (joined l i t) := by
  intro x hx
  unfold Bpe.joined at hx
  rcases List.mem_append.1 hx with h' | h'
  · exact h x (List.mem_of_mem_take h')
  · rcases List.mem_cons.1 h' with e | e
    · subst e; omega
    · exact h x (List.mem_of_mem_drop e)
theorem InV.enc {xs : List Pc} {l : List Int} (h : InV xs l) : InV xs (encL xs l) :=
  encL_ind (xs := xs) (InV xs) (fun m i t hm hs => hm.joined (fndAt_lt (scan_some hs).2.1)) l.length l (Nat.le_refl _) h
end Bpe
end Go.Proofs.Ytildhlneldoffaa
