/- bpe: a step and the tokens, by the rule, in plain Lean. bpe: a row whose neighbours stand in lists; the pairs that wait; in plain Lean. bpe: what waits is what can be joined; what is popped, and not out of date, is the step; in plain Lean. -/
import Derived.Test.YtlodbhlidgepfaaVTa
import Derived.Test.YtlodbhlidgepfaaQPlain
set_option linter.unusedVariables false
set_option linter.unusedSimpArgs false
namespace Go.Proofs.Ytlodbhlidgepfaa
open Voc
namespace Bpe
/-- the rank of piece t -/
def rk (xs : List Pc) (t : Nat) : Int := match xs[t]? with | some q => q.k | none => 0
/-- the better of two pairs -/
def better (xs : List Pc) (o : Option (Nat × Nat)) (i t : Nat) : Option (Nat × Nat) :=
  match o with
  | none => some (i, t)
  | some (a, b) => if rk xs t < rk xs b then some (i, t) else some (a, b)
def fndAt (xs : List Pc) (l : List Int) (i : Nat) : Option Nat := fndF (l.getD i 0) (l.getD (i + 1) 0) xs
/-- the best of the first k pairs -/
def scan (xs : List Pc) (l : List Int) : Nat → Option (Nat × Nat)
  | 0 => none
  | k + 1 => match fndAt xs l k with
    | none => scan xs l k
    | some t => better xs (scan xs l k) k t
def stepR (xs : List Pc) (l : List Int) : Option (Nat × Nat) := scan xs l (l.length - 1)
def joined (l : List Int) (i t : Nat) : List Int := l.take i ++ ((t : Int) :: l.drop (i + 2))
/-- so many steps -/
def encN (xs : List Pc) : Nat → List Int → List Int
  | 0, l => l
  | n + 1, l => match stepR xs l with
    | none => l
    | some (i, t) => encN xs n (joined l i t)
def encL (xs : List Pc) (l : List Int) : List Int := encN xs l.length l

/-- what the best pair is -/
def Best (xs : List Pc) (l : List Int) (k i t : Nat) : Prop :=
  i < k ∧ fndAt xs l i = some t ∧ ∀ i' t', i' < k → fndAt xs l i' = some t' → rk xs t ≤ rk xs t' ∧ (i' < i → rk xs t < rk xs t')
theorem scan_none {xs : List Pc} {l : List Int} : ∀ {k : Nat}, scan xs l k = none → ∀ i, i < k → fndAt xs l i = none
  | 0, _, i, hi => by omega
  | k + 1, h, i, hi => by
    simp only [scan] at h
    cases hf : fndAt xs l k with
    | none =>
      rw [hf] at h
      rcases Nat.lt_or_eq_of_le (Nat.le_of_lt_succ hi) with h' | h'
      · exact scan_none h i h'
      · rw [h']; exact hf
    | some t =>
      rw [hf] at h
      simp only at h
      unfold better at h
      split at h
      · cases h
      · split at h <;> cases h
theorem scan_some {xs : List Pc} {l : List Int} : ∀ {k i t : Nat}, scan xs l k = some (i, t) → Best xs l k i t
  | 0, i, t, h => by cases h
  | k + 1, i, t, h => by
    simp only [scan] at h
    cases hf : fndAt xs l k with
    | none =>
      rw [hf] at h
      obtain ⟨h1, h2, h3⟩ := scan_some h
      refine ⟨by omega, h2, fun i' t' hi' ht' => ?_⟩
      rcases Nat.lt_or_eq_of_le (Nat.le_of_lt_succ hi') with h' | h'
      · exact h3 i' t' h' ht'
      · rw [h', hf] at ht'; cases ht'
    | some u =>
      rw [hf] at h
      simp only at h
      cases hs : scan xs l k with
      | none =>
        rw [hs] at h
        simp only [better] at h
        injection h with h
        injection h with ha hb
        subst ha hb
        refine ⟨by omega, hf, fun i' t' hi' ht' => ?_⟩
        rcases Nat.lt_or_eq_of_le (Nat.le_of_lt_succ hi') with h' | h'
        · rw [scan_none hs i' h'] at ht'; cases ht'
        · subst h'
          rw [hf] at ht'
          injection ht' with ht'
          subst ht'
          exact ⟨Int.le_refl _, fun h => by omega⟩
      | some ab =>
        obtain ⟨a, b⟩ := ab
        rw [hs] at h
        simp only [better] at h
        obtain ⟨h1, h2, h3⟩ := scan_some hs
        split at h
        · rename_i hlt
          injection h with h
          injection h with ha hb
          subst ha hb
          refine ⟨by omega, hf, fun i' t' hi' ht' => ?_⟩
          rcases Nat.lt_or_eq_of_le (Nat.le_of_lt_succ hi') with h' | h'
          · have := (h3 i' t' h' ht').1
            exact ⟨by omega, fun _ => by omega⟩
          · subst h'
            rw [hf] at ht'
            injection ht' with ht'
            subst ht'
            exact ⟨Int.le_refl _, fun h => by omega⟩
        · rename_i hlt
          injection h with h
          injection h with ha hb
          subst ha hb
          refine ⟨by omega, h2, fun i' t' hi' ht' => ?_⟩
          rcases Nat.lt_or_eq_of_le (Nat.le_of_lt_succ hi') with h' | h'
          · exact h3 i' t' h' ht'
          · subst h'
            rw [hf] at ht'
            injection ht' with ht'
            subst ht'
            exact ⟨by omega, fun h => by omega⟩
theorem Best.uniq {xs : List Pc} {l : List Int} {k i t i2 t2 : Nat} (h : Best xs l k i t) (h' : Best xs l k i2 t2) : i = i2 ∧ t = t2 := by
  obtain ⟨a1, a2, a3⟩ := h
  obtain ⟨b1, b2, b3⟩ := h'
  have c := a3 i2 t2 b1 b2
  have d := b3 i t a1 a2
  have e : i = i2 := by
    rcases Nat.lt_trichotomy i i2 with h | h | h
    · have := d.2 h; have := c.1; omega
    · exact h
    · have := c.2 h; have := d.1; omega
  subst e
  rw [a2] at b2
  injection b2 with b2
  exact ⟨rfl, b2⟩
theorem scan_of {xs : List Pc} {l : List Int} {k i t : Nat} (h : Best xs l k i t) : scan xs l k = some (i, t) := by
  cases hs : scan xs l k with
  | none => have h2 := h.2.1; rw [scan_none hs i h.1] at h2; cases h2
  | some ab =>
    obtain ⟨a, b⟩ := ab
    obtain ⟨rfl, rfl⟩ := h.uniq (scan_some hs)
    rfl
theorem scan_of_none {xs : List Pc} {l : List Int} : ∀ {k : Nat}, (∀ i, i < k → fndAt xs l i = none) → scan xs l k = none
  | 0, _ => rfl
  | k + 1, h => by
    simp only [scan]
    rw [h k (by omega)]
    exact scan_of_none (fun i hi => h i (by omega))
theorem joined_len {l : List Int} {i t : Nat} (h : i + 1 < l.length) : (joined l i t).length = l.length - 1 := by
  simp only [joined, List.length_append, List.length_take, List.length_cons, List.length_drop]; omega
theorem stepR_lt {xs : List Pc} {l : List Int} {i t : Nat} (h : stepR xs l = some (i, t)) : i + 1 < l.length := by
  have := (scan_some h).1; omega
theorem encN_more {xs : List Pc} : ∀ (f g : Nat) (l : List Int), l.length ≤ f + 1 → l.length ≤ g + 1 → encN xs f l = encN xs g l
  | f, 0, l, h1, h2 => by
    have h0 : stepR xs l = none := by
      unfold stepR
      rw [show l.length - 1 = 0 by omega]
      rfl
    cases f with
    | zero => rfl
    | succ f => simp only [encN, h0]
  | 0, g + 1, l, h1, h2 => by
    have h0 : stepR xs l = none := by
      unfold stepR
      rw [show l.length - 1 = 0 by omega]
      rfl
    simp only [encN, h0]
  | f + 1, g + 1, l, h1, h2 => by
    simp only [encN]
    cases hs : stepR xs l with
    | none => rfl
    | some ab =>
      obtain ⟨i, t⟩ := ab
      simp only
      have hl := joined_len (t := t) (stepR_lt hs)
      exact encN_more f g _ (by omega) (by omega)
theorem encL_step {xs : List Pc} {l : List Int} {i t : Nat} (h : stepR xs l = some (i, t)) : encL xs l = encL xs (joined l i t) := by
  have hl := joined_len (t := t) (stepR_lt h)
  have hlt := stepR_lt h
  unfold encL
  obtain ⟨n, hn⟩ : ∃ n, l.length = n + 1 := ⟨l.length - 1, by omega⟩
  rw [hn]
  simp only [encN, h]
  exact encN_more _ _ _ (by omega) (by omega)
theorem encL_none {xs : List Pc} {l : List Int} (h : stepR xs l = none) : encL xs l = l := by
  unfold encL
  cases hn : l.length with
  | zero => rfl
  | succ n => simp only [encN, h]
/-- what holds of a row and stays with a step holds of its tokens -/
theorem encL_ind {xs : List Pc} (P : List Int → Prop) (hP : ∀ l i t, P l → stepR xs l = some (i, t) → P (joined l i t)) : ∀ (n : Nat) (l : List Int), l.length ≤ n → P l → P (encL xs l)
  | 0, l, hn, h => by
    have : l = [] := List.eq_nil_of_length_eq_zero (by omega)
    subst this; exact h
  | n + 1, l, hn, h => by
    cases hs : stepR xs l with
    | none => rw [encL_none hs]; exact h
    | some ab =>
      obtain ⟨i, t⟩ := ab
      rw [encL_step hs]
      have hl := joined_len (t := t) (stepR_lt hs)
      have hlt := stepR_lt hs
      exact encL_ind P hP n _ (by omega) (hP l i t h hs)
/-- no step is left -/
theorem encL_end {xs : List Pc} : ∀ (n : Nat) (l : List Int), l.length ≤ n → stepR xs (encL xs l) = none
  | 0, l, hn => by
    have : l = [] := List.eq_nil_of_length_eq_zero (by omega)
    subst this; rfl
  | n + 1, l, hn => by
    cases hs : stepR xs l with
    | none => rw [encL_none hs]; exact hs
    | some ab =>
      obtain ⟨i, t⟩ := ab
      rw [encL_step hs]
      have hl := joined_len (t := t) (stepR_lt hs)
      have hlt := stepR_lt hs
      exact encL_end n _ (by omega)
theorem encL_le {xs : List Pc} (l : List Int) : (encL xs l).length ≤ l.length := by
  refine encL_ind (xs := xs) (fun m => m.length ≤ l.length) (fun m i t hm hs => ?_) l.length l (Nat.le_refl _) (Nat.le_refl _)
  rw [joined_len (stepR_lt hs)]; omega
theorem fndAt_lt {xs : List Pc} {l : List Int} {i t : Nat} (h : fndAt xs l i = some t) : t < xs.length := by
  obtain ⟨q, h1, _⟩ := fndF_some xs t h
  exact (List.getElem?_eq_some_iff.1 h1).1
theorem joined_get {l : List Int} {i t : Nat} (h : i + 1 < l.length) (k : Nat) : (joined l i t)[k]? = if k < i then l[k]? else if k = i then some (t : Int) else l[k + 1]? := by
  unfold joined
  by_cases h1 : k < i
  · rw [if_pos h1, List.getElem?_append_left (by rw [List.length_take]; omega), List.getElem?_take, if_pos h1]
  · rw [if_neg h1, List.getElem?_append_right (by rw [List.length_take]; omega), List.length_take, Nat.min_eq_left (by omega)]
    by_cases h2 : k = i
    · rw [if_pos h2, h2, Nat.sub_self]; rfl
    · rw [if_neg h2]
      obtain ⟨m, hm⟩ : ∃ m, k = i + 1 + m := ⟨k - i - 1, by omega⟩
      rw [show k - i = m + 1 by omega, List.getElem?_cons_succ, List.getElem?_drop]
      congr 1
      omega
/-- the tokens of a row are pieces -/
def InV (xs : List Pc) (l : List Int) : Prop := ∀ x ∈ l, 0 ≤ x ∧ x < (xs.length : Int)
theorem InV.joined {xs : List Pc} {l : List Int} {i t : Nat} (h : InV xs l) (ht : t < xs.length) : InV xs (joined l i t) := by
  intro x hx
  unfold Bpe.joined at hx
  rcases List.mem_append.1 hx with h' | h'
  · exact h x (List.mem_of_mem_take h')
  · rcases List.mem_cons.1 h' with e | e
    · subst e; omega
    · exact h x (List.mem_of_mem_drop e)
theorem InV.enc {xs : List Pc} {l : List Int} (h : InV xs l) : InV xs (encL xs l) :=
  encL_ind (xs := xs) (InV xs) (fun m i t hm hs => hm.joined (fndAt_lt (scan_some hs).2.1)) l.length l (Nat.le_refl _) h
end Bpe
end Go.Proofs.Ytlodbhlidgepfaa

namespace Go.Proofs.Ytlodbhlidgepfaa
open Voc
namespace Bpe
/-- a pair that waits: its rank, its place, its two tokens, their join -/
abbrev Pr := Int × Int × Int × Int × Int
def ltP (a b : Pr) : Bool := decide (a.1 < b.1) || (decide (a.1 = b.1) && decide (a.2.1 < b.2.1))
theorem swo_ltP : QP.SWO ltP := by
  constructor
  · intro a b h
    simp [ltP] at h ⊢
    omega
  · intro a b c h
    simp [ltP] at h ⊢
    omega

/-- the place ahead of the j-th one -/
def prev (P : List Nat) : Nat → Int
  | 0 => -1
  | j + 1 => (((P[j]?).getD 0 : Nat) : Int)
/-- a row: the live places P, each with its neighbours -/
structure Lk (n : Nat) (tok ah fr : List Int) (P : List Nat) : Prop where
  lt : tok.length = n
  la : ah.length = n
  lf : fr.length = n
  srt : P.Pairwise (· < ·)
  in_ : ∀ p ∈ P, p < n
  live : ∀ (i : Nat) (x : Int), tok[i]? = some x → (0 ≤ x ↔ i ∈ P)
  far_ : ∀ (j p : Nat), P[j]? = some p → fr[p]? = some (((P[j + 1]?).getD n : Nat) : Int)
  ah_ : ∀ (j p : Nat), P[j]? = some p → ah[p]? = some (prev P j)
def rowOf (tok : List Int) (P : List Nat) : List Int := P.map fun (p : Nat) => tok.getD p 0
theorem rowOf_at {tok : List Int} {P : List Nat} {j p : Nat} (h : P[j]? = some p) : (rowOf tok P).getD j 0 = tok.getD p 0 := by
  unfold rowOf
  rw [List.getD_eq_getElem?_getD, List.getElem?_map, h]; rfl
theorem rowOf_len (tok : List Int) (P : List Nat) : (rowOf tok P).length = P.length := by simp [rowOf]
theorem mono {P : List Nat} (h : P.Pairwise (· < ·)) {a b x y : Nat} (ha : P[a]? = some x) (hb : P[b]? = some y) (hab : a < b) : x < y := by
  obtain ⟨h1, rfl⟩ := List.getElem?_eq_some_iff.1 ha
  obtain ⟨h2, rfl⟩ := List.getElem?_eq_some_iff.1 hb
  exact List.pairwise_iff_getElem.1 h a b h1 h2 hab
theorem inj {P : List Nat} (h : P.Pairwise (· < ·)) {a b x : Nat} (ha : P[a]? = some x) (hb : P[b]? = some x) : a = b := by
  rcases Nat.lt_trichotomy a b with h' | h' | h'
  · have := mono h ha hb h'; omega
  · exact h'
  · have := mono h hb ha h'; omega
def ah0 (n : Nat) : List Int := (List.range n).map fun (i : Nat) => (i : Int) - 1
def fr0 (n : Nat) : List Int := (List.range n).map fun (i : Nat) => (i : Int) + 1
theorem Lk.start (tok : List Int) (h0 : ∀ x ∈ tok, 0 ≤ x) : Lk tok.length tok (ah0 tok.length) (fr0 tok.length) (List.range tok.length) := by
  refine ⟨rfl, by simp [ah0], by simp [fr0], List.pairwise_lt_range, fun p hp => List.mem_range.1 hp, fun i x hx => ?_, fun j p hp => ?_, fun j p hp => ?_⟩
  · have := (List.getElem?_eq_some_iff.1 hx).1
    exact ⟨fun _ => List.mem_range.2 this, fun _ => h0 x (List.mem_of_getElem? hx)⟩
  · obtain ⟨h1, h2⟩ := List.getElem?_eq_some_iff.1 hp
    simp at h1 h2
    subst h2
    unfold fr0
    rw [List.getElem?_map, List.getElem?_range h1]
    simp only [Option.map_some, Option.some.injEq]
    by_cases h : j + 1 < tok.length
    · rw [List.getElem?_range h]; rfl
    · rw [List.getElem?_eq_none (by simp; omega)]
      simp only [Option.getD_none]
      omega
  · obtain ⟨h1, h2⟩ := List.getElem?_eq_some_iff.1 hp
    simp at h1 h2
    subst h2
    unfold ah0
    rw [List.getElem?_map, List.getElem?_range h1]
    simp only [Option.map_some, Option.some.injEq]
    cases j with
    | zero => rfl
    | succ j =>
      simp only [prev]
      rw [List.getElem?_range (show j < tok.length by omega)]
      simp only [Option.getD_some]
      omega
theorem rowOf_start (tok : List Int) : rowOf tok (List.range tok.length) = tok := by
  unfold rowOf
  apply List.ext_getElem?
  intro i
  rw [List.getElem?_map]
  rcases Nat.lt_or_ge i tok.length with h | h
  · rw [List.getElem?_range h, List.getElem?_eq_getElem h]
    simp [List.getElem?_eq_getElem h]
  · rw [List.getElem?_eq_none (by simpa using h), List.getElem?_eq_none h]; rfl
def tokJ (tok : List Int) (p g t : Nat) : List Int := (tok.set p (t : Int)).set g (-1)
def frJ (fr : List Int) (p fg : Nat) : List Int := fr.set p (fg : Int)
def ahJ (n : Nat) (ah : List Int) (p fg : Nat) : List Int := if fg < n then ah.set fg (p : Int) else ah
section
variable {n : Nat} {tok ah fr : List Int} {P : List Nat}
theorem Lk.plt (h : Lk n tok ah fr P) {j p : Nat} (hp : P[j]? = some p) : p < n := h.in_ p (List.mem_of_getElem? hp)
theorem erase_at (P : List Nat) (j k : Nat) : (P.eraseIdx (j + 1))[k]? = if k < j + 1 then P[k]? else P[k + 1]? := by
  rw [List.getElem?_eraseIdx]
theorem tokJ_at {p g t : Nat} {i : Nat} (hi : i < tok.length) (hne : i ≠ p) (hng : i ≠ g) : (tokJ tok p g t)[i]? = tok[i]? := by
  unfold tokJ
  rw [List.getElem?_set_ne (Ne.symm hng), List.getElem?_set_ne (Ne.symm hne)]
theorem Lk.join (h : Lk n tok ah fr P) {j p g : Nat} (hp : P[j]? = some p) (hg : P[j + 1]? = some g) (t : Nat) :
    Lk n (tokJ tok p g t) (ahJ n ah p ((P[j + 2]?).getD n)) (frJ fr p ((P[j + 2]?).getD n)) (P.eraseIdx (j + 1)) := by
  have hpn := h.plt hp
  have hgn := h.plt hg
  have hpg := mono h.srt hp hg (by omega)
  have hmem : ∀ i, i ≠ g → (i ∈ P.eraseIdx (j + 1) ↔ i ∈ P) := fun i hi => by
    constructor
    · exact fun hm => List.mem_of_mem_eraseIdx hm
    · intro hm
      obtain ⟨k, hk⟩ := List.getElem?_of_mem hm
      have hkj : k ≠ j + 1 := fun e => by subst e; rw [hg] at hk; injection hk with hk; exact hi hk.symm
      rcases Nat.lt_or_ge k (j + 1) with h1 | h1
      · exact List.mem_of_getElem? (i := k) (by rw [erase_at, if_pos h1]; exact hk)
      · exact List.mem_of_getElem? (i := k - 1) (by rw [erase_at, if_neg (by omega), show k - 1 + 1 = k by omega]; exact hk)
  have hgno : g ∉ P.eraseIdx (j + 1) := fun hm => by
    obtain ⟨k, hk⟩ := List.getElem?_of_mem hm
    rw [erase_at] at hk
    split at hk
    · have := inj h.srt hk hg; omega
    · have := inj h.srt hk hg; omega
  refine ⟨by simp [tokJ, h.lt], ?_, by simp [frJ, h.lf], h.srt.sublist (List.eraseIdx_sublist _ _), fun q hq => h.in_ q (List.mem_of_mem_eraseIdx hq), fun i x hx => ?_, fun k q hq => ?_, fun k q hq => ?_⟩
  · unfold ahJ; split <;> simp [h.la]
  · have hil : i < n := by
      have := (List.getElem?_eq_some_iff.1 hx).1
      simpa [tokJ, h.lt] using this
    by_cases hig : i = g
    · subst hig
      have : x = -1 := by
        unfold tokJ at hx
        rw [List.getElem?_set_self (by simp [h.lt]; exact hil)] at hx
        injection hx with hx
        exact hx.symm
      subst this
      exact ⟨fun h => by omega, fun hm => absurd hm hgno⟩
    · by_cases hip : i = p
      · subst hip
        have : x = (t : Int) := by
          unfold tokJ at hx
          rw [List.getElem?_set_ne (Ne.symm hig), List.getElem?_set_self (by rw [h.lt]; exact hil)] at hx
          injection hx with hx
          exact hx.symm
        subst this
        exact ⟨fun _ => (hmem i hig).2 (List.mem_of_getElem? hp), fun _ => by omega⟩
      · rw [tokJ_at (by rw [h.lt]; exact hil) hip hig] at hx
        exact (h.live i x hx).trans (hmem i hig).symm
  · rw [erase_at] at hq
    unfold frJ
    rw [erase_at]
    rcases Nat.lt_trichotomy k j with hk | hk | hk
    · rw [if_pos (by omega)] at hq
      rw [if_pos (by omega)]
      have hqp : p ≠ q := by have := mono h.srt hq hp hk; omega
      rw [List.getElem?_set_ne hqp]
      exact h.far_ k q hq
    · subst hk
      rw [if_pos (by omega), hp] at hq
      injection hq with hq
      subst hq
      rw [if_neg (by omega), List.getElem?_set_self (by rw [h.lf]; exact hpn)]
    · rw [if_neg (by omega)] at hq
      rw [if_neg (by omega)]
      have hqp : p ≠ q := by have := mono h.srt hp hq (by omega); omega
      rw [List.getElem?_set_ne hqp]
      exact h.far_ (k + 1) q hq
  · rw [erase_at] at hq
    have hsome : ∀ x, (ahJ n ah p ((P[j + 2]?).getD n))[q]? = some x ↔ (if q = (P[j + 2]?).getD n then x = (p : Int) else ah[q]? = some x) := fun x => by
      have hqn : q < n := by
        split at hq
        · exact h.plt hq
        · exact h.plt hq
      unfold ahJ
      by_cases e : q = (P[j + 2]?).getD n
      · rw [if_pos e, ← e, if_pos hqn, List.getElem?_set_self (by rw [h.la]; exact hqn)]
        exact ⟨fun h => by injection h with h; exact h.symm, fun h => by rw [h]⟩
      · rw [if_neg e]
        split
        · rw [List.getElem?_set_ne (Ne.symm e)]
        · exact Iff.rfl
    rw [hsome]
    rcases Nat.lt_trichotomy k (j + 1) with hk | hk | hk
    · rw [if_pos hk] at hq
      have hne : q ≠ (P[j + 2]?).getD n := by
        cases hf : P[j + 2]? with
        | none => have := h.plt hq; simp only [Option.getD_none]; omega
        | some f => have := mono h.srt hq hf (by omega); simp only [Option.getD_some]; omega
      rw [if_neg hne]
      have := h.ah_ k q hq
      cases k with
      | zero => exact this
      | succ k =>
        simp only [prev] at this ⊢
        rw [erase_at, if_pos (by omega)]
        exact this
    · subst hk
      rw [if_neg (by omega)] at hq
      rw [hq]
      simp only [Option.getD_some, if_pos, prev]
      rw [erase_at, if_pos (by omega), hp]; rfl
    · rw [if_neg (by omega)] at hq
      have hne : q ≠ (P[j + 2]?).getD n := by
        cases hf : P[j + 2]? with
        | none => have := h.plt hq; simp only [Option.getD_none]; omega
        | some f => have := mono h.srt hf hq (by omega); simp only [Option.getD_some]; omega
      rw [if_neg hne]
      obtain ⟨m, rfl⟩ : ∃ m, k = m + 1 := ⟨k - 1, by omega⟩
      have := h.ah_ (m + 1 + 1) q hq
      simp only [prev] at this ⊢
      rw [erase_at, if_neg (by omega)]
      exact this
theorem rowOf_join (h : Lk n tok ah fr P) {j p g : Nat} (hp : P[j]? = some p) (hg : P[j + 1]? = some g) (t : Nat) :
    rowOf (tokJ tok p g t) (P.eraseIdx (j + 1)) = joined (rowOf tok P) j t := by
  have hpn := h.plt hp
  have hgn := h.plt hg
  have hpg := mono h.srt hp hg (by omega)
  have hlen : j + 1 < (rowOf tok P).length := by rw [rowOf_len]; exact (List.getElem?_eq_some_iff.1 hg).1
  apply List.ext_getElem?
  intro k
  rw [joined_get hlen]
  have hR : ∀ m, (rowOf tok P)[m]? = P[m]?.map fun q => tok.getD q 0 := fun m => by unfold rowOf; rw [List.getElem?_map]
  have hL : (rowOf (tokJ tok p g t) (P.eraseIdx (j + 1)))[k]? = (P.eraseIdx (j + 1))[k]?.map fun q => (tokJ tok p g t).getD q 0 := by unfold rowOf; rw [List.getElem?_map]
  rw [hL, hR, hR, erase_at]
  have hsame : ∀ q, q < n → q ≠ p → q ≠ g → (tokJ tok p g t).getD q 0 = tok.getD q 0 := fun q h1 h2 h3 => by
    rw [List.getD_eq_getElem?_getD, List.getD_eq_getElem?_getD, tokJ_at (by rw [h.lt]; exact h1) h2 h3]
  by_cases h1 : k < j
  · rw [if_pos (by omega), if_pos h1]
    cases hk : P[k]? with
    | none => rfl
    | some q =>
      have a := mono h.srt hk hp h1
      simp only [Option.map_some]
      rw [hsame q (h.plt hk) (by omega) (by omega)]
  · rw [if_neg h1]
    by_cases h2 : k = j
    · subst h2
      rw [if_pos (by omega), if_pos rfl, hp]
      simp only [Option.map_some, Option.some.injEq]
      unfold tokJ
      rw [List.getD_eq_getElem?_getD, List.getElem?_set_ne (by omega), List.getElem?_set_self (by rw [h.lt]; exact hpn)]; rfl
    · rw [if_neg (by omega), if_neg h2]
      cases hk : P[k + 1]? with
      | none => rfl
      | some q =>
        have a := mono h.srt hg hk (by omega)
        simp only [Option.map_some]
        rw [hsame q (h.plt hk) (by omega) (by omega)]
/-- what stays of the tokens in the end -/
theorem Lk.filter (h : Lk n tok ah fr P) : tok.filter (fun x => decide (0 ≤ x)) = rowOf tok P := by
  have key : ∀ (m : Nat) (tk : List Int) (Q : List Nat), (∀ i x, tk[i]? = some x → (0 ≤ x ↔ m + i ∈ Q)) → (∀ q ∈ Q, m ≤ q ∧ q < m + tk.length) → Q.Pairwise (· < ·) →
      tk.filter (fun x => decide (0 ≤ x)) = Q.map fun q => tk.getD (q - m) 0 := by
    intro m tk
    induction tk generalizing m with
    | nil =>
      intro Q _ hQ _
      cases Q with
      | nil => rfl
      | cons q r => have := hQ q (by simp); simp at this; omega
    | cons x tk ih =>
      intro Q hl hQ hs
      have h0 := hl 0 x rfl
      have hrest : ∀ Q' : List Nat, (∀ q, q ∈ Q' ↔ q ∈ Q ∧ q ≠ m) → Q'.Pairwise (· < ·) → tk.filter (fun x => decide (0 ≤ x)) = Q'.map fun q => (x :: tk).getD (q - m) 0 := fun Q' hq' hs' => by
        rw [ih (m + 1) Q' (fun i y hy => by
            rw [hl (i + 1) y (by simpa using hy), hq', show m + (i + 1) = m + 1 + i by omega]
            exact ⟨fun h => ⟨h, by omega⟩, fun h => h.1⟩)
          (fun q hq => by have h1 := (hq' q).1 hq; have h2 := hQ q h1.1; simp at h2; have := h1.2; omega) hs']
        apply List.map_congr_left
        intro q hq
        have h1 := (hq' q).1 hq
        have h2 := hQ q h1.1
        have h3 := h1.2
        rw [show q - m = (q - (m + 1)) + 1 by omega]
        simp
      by_cases hx : 0 ≤ x
      · have hm := h0.1 hx
        rw [Nat.add_zero] at hm
        cases Q with
        | nil => cases hm
        | cons q r =>
          have hqm : q = m := by
            rcases List.mem_cons.1 hm with e | e
            · exact e.symm
            · have := (List.pairwise_cons.1 hs).1 m e
              have := (hQ q (by simp)).1
              omega
          subst hqm
          rw [List.filter_cons_of_pos (by simpa using hx), List.map_cons, hrest r (fun q' => ?_) (List.pairwise_cons.1 hs).2]
          · simp
          · constructor
            · intro h'
              exact ⟨List.mem_cons_of_mem _ h', by have := (List.pairwise_cons.1 hs).1 q' h'; omega⟩
            · rintro ⟨h1, h2⟩
              rcases List.mem_cons.1 h1 with e | e
              · exact absurd e h2
              · exact e
      · rw [List.filter_cons_of_neg (by simpa using hx), hrest Q (fun q' => ⟨fun h' => ⟨h', fun e => ?_⟩, fun h' => h'.1⟩) hs]
        subst e
        exact hx (h0.2 (by simpa using h'))
  have := key 0 tok P (fun i x hx => by rw [Nat.zero_add]; exact h.live i x hx) (fun q hq => ⟨Nat.zero_le _, by rw [Nat.zero_add, h.lt]; exact h.in_ q hq⟩) h.srt
  exact this
end
end Bpe
end Go.Proofs.Ytlodbhlidgepfaa

namespace Go.Proofs.Ytlodbhlidgepfaa
open Voc
namespace Bpe
def entE (xs : List Pc) (tok : List Int) (p g t : Nat) : Pr := (rk xs t, (p : Int), tok.getD p 0, tok.getD g 0, (t : Int))
def Snd (xs : List Pc) (n : Nat) (e : Pr) : Prop := ∃ a t : Nat, a < n ∧ fndF e.2.2.1 e.2.2.2.1 xs = some t ∧ e.1 = rk xs t ∧ e.2.1 = (a : Int) ∧ e.2.2.2.2 = (t : Int)
structure Wt (xs : List Pc) (n : Nat) (tok : List Int) (P : List Nat) (X : Nat → Prop) (hp : List (Pr × Nat)) (nx : Nat) : Prop where
  inv : QP.QInv ltP hp nx
  snd : ∀ e ∈ hp, Snd xs n e.1
  all : ∀ (j p g t : Nat), P[j]? = some p → P[j + 1]? = some g → ¬ X p → fndF (tok.getD p 0) (tok.getD g 0) xs = some t → ∃ e ∈ hp, e.1 = entE xs tok p g t
/-- what wait pushes -/
def waitE (xs : List Pc) (n : Nat) (tok fr : List Int) (i : Nat) : Option Pr :=
  if (n : Int) ≤ fr.getD i 0 then none else
    match fndF (tok.getD i 0) (tok.getD (fr.getD i 0).toNat 0) xs with
    | none => none
    | some t => some (entE xs tok i (fr.getD i 0).toNat t)
def waitQ (o : Option Pr) (hp : List (Pr × Nat)) (nx : Nat) : List (Pr × Nat) := match o with | none => hp | some e => QP.push ltP hp (e, nx)
def waitX (o : Option Pr) (nx : Nat) : Nat := match o with | none => nx | some _ => nx + 1
section
variable {xs : List Pc} {n : Nat} {tok ah fr : List Int} {P : List Nat} {X Y : Nat → Prop} {hp : List (Pr × Nat)} {nx : Nat}
theorem Wt.mono (h : Wt xs n tok P X hp nx) (hy : ∀ (j p : Nat), P[j]? = some p → X p → Y p) : Wt xs n tok P Y hp nx :=
  ⟨h.inv, h.snd, fun j p g t h1 h2 h3 h4 => h.all j p g t h1 h2 (fun hx => h3 (hy j p h1 hx)) h4⟩
theorem Lk.far (L : Lk n tok ah fr P) {j p : Nat} (h : P[j]? = some p) : fr.getD p 0 = (((P[j + 1]?).getD n : Nat) : Int) := by
  rw [List.getD_eq_getElem?_getD, L.far_ j p h]; rfl
theorem mem_push {e : Pr × Nat} {l : List (Pr × Nat)} {x : Pr × Nat} : x ∈ QP.push ltP l e ↔ x ∈ l ∨ x = e := by
  have := (QP.push_perm (lt := ltP) l e).mem_iff (a := x)
  rw [this]; simp
theorem waitE_cases (L : Lk n tok ah fr P) {j p : Nat} (h : P[j]? = some p) :
    (waitE xs n tok fr p = none ∧ (∀ g t, P[j + 1]? = some g → fndF (tok.getD p 0) (tok.getD g 0) xs ≠ some t)) ∨
    (∃ g t, P[j + 1]? = some g ∧ g < n ∧ fr.getD p 0 = (g : Int) ∧ fndF (tok.getD p 0) (tok.getD g 0) xs = some t ∧ waitE xs n tok fr p = some (entE xs tok p g t)) := by
  unfold waitE
  rw [L.far h]
  cases hg : P[j + 1]? with
  | none =>
    left
    simp only [Option.getD_none]
    rw [if_pos (by omega)]
    exact ⟨rfl, fun g t hg => by cases hg⟩
  | some g =>
    have hgn := L.plt hg
    simp only [Option.getD_some, Int.toNat_natCast]
    rw [if_neg (by omega)]
    cases hf : fndF (tok.getD p 0) (tok.getD g 0) xs with
    | none =>
      left
      refine ⟨rfl, fun g' t hg' => ?_⟩
      injection hg' with hg'
      subst hg'
      rw [hf]
      intro h; cases h
    | some t =>
      right
      exact ⟨g, t, rfl, hgn, rfl, hf, rfl⟩
theorem Wt.wait (h : Wt xs n tok P X hp nx) (L : Lk n tok ah fr P) {j p : Nat} (hj : P[j]? = some p) :
    Wt xs n tok P (fun q => X q ∧ q ≠ p) (waitQ (waitE xs n tok fr p) hp nx) (waitX (waitE xs n tok fr p) nx) := by
  rcases waitE_cases (xs := xs) L hj with ⟨h1, h2⟩ | ⟨g, t, h1, h2, h3, h4, h5⟩
  · rw [h1]
    refine ⟨h.inv, h.snd, fun j' p' g' t' a1 a2 a3 a4 => ?_⟩
    by_cases hp' : p' = p
    · subst hp'
      have := inj L.srt a1 hj
      subst this
      exact absurd a4 (h2 g' t' a2)
    · exact h.all j' p' g' t' a1 a2 (fun hx => a3 ⟨hx, hp'⟩) a4
  · rw [h5]
    refine ⟨h.inv.push swo_ltP _, fun e he => ?_, fun j' p' g' t' a1 a2 a3 a4 => ?_⟩
    · rcases mem_push.1 he with h' | h'
      · exact h.snd e h'
      · subst h'
        exact ⟨p, t, L.plt hj, h4, rfl, rfl, rfl⟩
    · by_cases hp' : p' = p
      · subst hp'
        have := inj L.srt a1 hj
        subst this
        rw [h1] at a2
        injection a2 with a2
        subst a2
        rw [h4] at a4
        injection a4 with a4
        subst a4
        exact ⟨(_, nx), mem_push.2 (Or.inr rfl), rfl⟩
      · obtain ⟨e, he, hee⟩ := h.all j' p' g' t' a1 a2 (fun hx => a3 ⟨hx, hp'⟩) a4
        exact ⟨e, mem_push.2 (Or.inl he), hee⟩
theorem Wt.nil (xs : List Pc) (n : Nat) (tok : List Int) (P : List Nat) : Wt xs n tok P (fun _ => True) [] 0 :=
  ⟨QP.QInv.nil, fun e h => (by cases h), fun j p g t _ _ h => absurd trivial h⟩
theorem least {nx : Nat} {e : Pr × Nat} {r : List (Pr × Nat)} (hi : QP.QInv ltP (e :: r) nx) {x : Pr × Nat} (hx : x ∈ e :: r) : ltP x.1 e.1 = false := by
  obtain ⟨k, hk⟩ := List.getElem?_of_mem hx
  have hl := (List.getElem?_eq_some_iff.1 hk).1
  have := QP.heap_root swo_ltP hi.heap k hl e x rfl hk
  unfold QP.ahead at this
  cases h : ltP x.1 e.1 with
  | false => rfl
  | true => rw [h] at this; simp at this
theorem rank_place {a b : Pr} (h : ltP a b = false) : b.1 ≤ a.1 ∧ (a.1 = b.1 → b.2.1 ≤ a.2.1) := by
  simp [ltP] at h
  omega
/-- is an entry out of date? -/
def Fit (n : Nat) (tok fr : List Int) (e : Pr) : Prop := tok.getD e.2.1.toNat 0 = e.2.2.1 ∧ fr.getD e.2.1.toNat 0 < (n : Int) ∧ tok.getD (fr.getD e.2.1.toNat 0).toNat 0 = e.2.2.2.1
theorem Wt.stale {e : Pr × Nat} {r : List (Pr × Nat)} (h : Wt xs n tok P (fun _ => False) (e :: r) nx) (L : Lk n tok ah fr P) (hs : ¬ Fit n tok fr e.1) :
    Wt xs n tok P (fun _ => False) (QP.pop ltP (e :: r)) nx := by
  have hm : ∀ {a : Pr × Nat}, a ∈ QP.pop ltP (e :: r) ↔ a ∈ r := (QP.pop_perm (lt := ltP) e r).mem_iff
  refine ⟨h.inv.pop swo_ltP, fun x hx => h.snd x (List.mem_cons_of_mem _ ((hm (a := x)).1 hx)), fun j p g t h1 h2 h3 h4 => ?_⟩
  obtain ⟨x, hx, he⟩ := h.all j p g t h1 h2 h3 h4
  rcases List.mem_cons.1 hx with e1 | e1
  · exfalso
    subst e1
    apply hs
    rw [he]
    unfold Fit entE
    simp only [Int.toNat_natCast]
    have hf := L.far h1
    rw [h2] at hf
    rw [hf]
    have := L.plt h2
    exact ⟨trivial, by simp only [Option.getD_some]; omega, by simp only [Option.getD_some, Int.toNat_natCast]⟩
  · exact ⟨x, (hm (a := x)).2 e1, he⟩
theorem Wt.fit {e : Pr × Nat} {r : List (Pr × Nat)} (h : Wt xs n tok P (fun _ => False) (e :: r) nx) (L : Lk n tok ah fr P) (hb : Back xs) (hs : Fit n tok fr e.1) :
    ∃ j p g t : Nat, P[j]? = some p ∧ P[j + 1]? = some g ∧ fr.getD p 0 = (g : Int) ∧ e.1 = entE xs tok p g t ∧ t < xs.length ∧ stepR xs (rowOf tok P) = some (j, t) ∧
      Wt xs n (tokJ tok p g t) (P.eraseIdx (j + 1)) (fun q => q = p ∨ (1 ≤ j ∧ P[j - 1]? = some q)) (QP.pop ltP (e :: r)) nx := by
  obtain ⟨p, t, hpn, hf, hr, ha, ht⟩ := h.snd e (by simp)
  obtain ⟨f1, f2, f3⟩ := hs
  obtain ⟨q, hq1, hq2, hq3, hq4⟩ := fndF_some xs t hf
  have hpos : 0 ≤ e.1.2.2.1 := by have := (hb t q hq1 hq2).1.1; omega
  rw [ha, Int.toNat_natCast] at f1 f2 f3
  have hpt : tok[p]? = some (tok.getD p 0) := by
    have hlt : p < tok.length := by rw [L.lt]; exact hpn
    rw [List.getD_eq_getElem?_getD, List.getElem?_eq_getElem hlt]; rfl
  have hpP : p ∈ P := (L.live p _ hpt).1 (by rw [f1]; exact hpos)
  obtain ⟨j, hj⟩ := List.getElem?_of_mem hpP
  have hfar := L.far hj
  cases hg : P[j + 1]? with
  | none => rw [hg] at hfar; simp only [Option.getD_none] at hfar; omega
  | some g =>
    rw [hg] at hfar
    simp only [Option.getD_some] at hfar
    rw [hfar, Int.toNat_natCast] at f3
    have hent : e.1 = entE xs tok p g t := by
      unfold entE
      rw [f1, f3, ← hr, ← ha, ← ht]
    have htl : t < xs.length := (List.getElem?_eq_some_iff.1 hq1).1
    have hjl := (List.getElem?_eq_some_iff.1 hg).1
    have hstep : stepR xs (rowOf tok P) = some (j, t) := by
      apply scan_of
      refine ⟨by rw [rowOf_len]; omega, ?_, fun i' t' hi' ht' => ?_⟩
      · unfold fndAt
        rw [rowOf_at hj, rowOf_at hg, f1, f3]
        exact hf
      · rw [rowOf_len] at hi'
        obtain ⟨p', hp'⟩ : ∃ p', P[i']? = some p' := ⟨_, List.getElem?_eq_getElem (by omega)⟩
        obtain ⟨g', hg'⟩ : ∃ g', P[i' + 1]? = some g' := ⟨_, List.getElem?_eq_getElem (by omega)⟩
        unfold fndAt at ht'
        rw [rowOf_at hp', rowOf_at hg'] at ht'
        obtain ⟨x, hx, he⟩ := h.all i' p' g' t' hp' hg' (fun h => h) ht'
        have hle := rank_place (least h.inv hx)
        rw [he, hent] at hle
        unfold entE at hle
        simp only at hle
        refine ⟨hle.1, fun hlt => ?_⟩
        have hm := Bpe.mono L.srt hp' hj hlt
        have h1 := hle.1
        have h2 := hle.2
        rcases Int.lt_or_eq_of_le h1 with h' | h'
        · exact h'
        · have := h2 h'.symm; omega
    refine ⟨j, p, g, t, hj, hg, hfar, hent, htl, hstep, ?_⟩
    have hm : ∀ {a : Pr × Nat}, a ∈ QP.pop ltP (e :: r) ↔ a ∈ r := (QP.pop_perm (lt := ltP) e r).mem_iff
    refine ⟨h.inv.pop swo_ltP, fun x hx => h.snd x (List.mem_cons_of_mem _ ((hm (a := x)).1 hx)), fun j' p' g' t' h1 h2 h3 h4 => ?_⟩
    rw [erase_at] at h1 h2
    have hpg := Bpe.mono L.srt hj hg (by omega)
    have hp'n : p' ≠ p := fun e => h3 (Or.inl e)
    have hkey : ∃ k, P[k]? = some p' ∧ P[k + 1]? = some g' ∧ p' ≠ g ∧ g' ≠ p ∧ g' ≠ g := by
      rcases Nat.lt_trichotomy j' j with hlt | heq | hgt
      · rw [if_pos (by omega)] at h1
        rw [if_pos (by omega)] at h2
        have a1 := Bpe.mono L.srt h1 hg (by omega)
        have hg'p : g' ≠ p := fun e => by
          subst e
          have := inj L.srt h2 hj
          exact h3 (Or.inr ⟨by omega, by rw [← this, Nat.add_sub_cancel]; exact h1⟩)
        have a2 := Bpe.mono L.srt h2 hg (by omega)
        exact ⟨j', h1, h2, by omega, hg'p, by omega⟩
      · subst heq
        rw [if_pos (by omega), hj] at h1
        injection h1 with h1
        exact absurd h1.symm hp'n
      · rw [if_neg (by omega)] at h1
        rw [if_neg (by omega)] at h2
        have a1 := Bpe.mono L.srt hg h1 (by omega)
        have a2 := Bpe.mono L.srt h1 h2 (by omega)
        exact ⟨j' + 1, h1, h2, by omega, by omega, by omega⟩
    obtain ⟨k, k1, k2, k3, k4, k5⟩ := hkey
    have same : ∀ i, i < n → i ≠ p → i ≠ g → (tokJ tok p g t).getD i 0 = tok.getD i 0 := fun i a b c => by
      rw [List.getD_eq_getElem?_getD, List.getD_eq_getElem?_getD, tokJ_at (by rw [L.lt]; exact a) b c]
    have s1 := same p' (L.plt k1) hp'n k3
    have s2 := same g' (L.plt k2) k4 k5
    rw [s1, s2] at h4
    obtain ⟨x, hx, he⟩ := h.all k p' g' t' k1 k2 (fun h => h) h4
    have he' : x.1 = entE xs (tokJ tok p g t) p' g' t' := by rw [he]; unfold entE; rw [s1, s2]
    rcases List.mem_cons.1 hx with e1 | e1
    · exfalso
      subst e1
      rw [hent] at he
      unfold entE at he
      injection he with _ he
      injection he with he _
      exact hp'n (by omega)
    · exact ⟨x, (hm (a := x)).2 e1, he'⟩
theorem Wt.done (h : Wt xs n tok P (fun _ => False) [] nx) : stepR xs (rowOf tok P) = none := by
  apply scan_of_none
  intro i hi
  rw [rowOf_len] at hi
  obtain ⟨p', hp'⟩ : ∃ p', P[i]? = some p' := ⟨_, List.getElem?_eq_getElem (by omega)⟩
  obtain ⟨g', hg'⟩ : ∃ g', P[i + 1]? = some g' := ⟨_, List.getElem?_eq_getElem (by omega)⟩
  unfold fndAt
  rw [rowOf_at hp', rowOf_at hg']
  cases hf : fndF (tok.getD p' 0) (tok.getD g' 0) xs with
  | none => rfl
  | some t =>
    obtain ⟨x, hx, _⟩ := h.all i p' g' t hp' hg' (fun h => h) hf
    cases hx
/-- behind a join both new pairs wait -/
theorem Wt.both {j p : Nat} (h : Wt xs n tok P (fun q => q = p ∨ (1 ≤ j ∧ P[j - 1]? = some q)) hp nx) (L : Lk n tok ah fr P) (hj : P[j]? = some p) (o : Option Pr)
    (ho : (j = 0 ∧ o = none) ∨ (∃ q, 1 ≤ j ∧ P[j - 1]? = some q ∧ o = waitE xs n tok fr q)) :
    Wt xs n tok P (fun _ => False) (waitQ (waitE xs n tok fr p) (waitQ o hp nx) (waitX o nx)) (waitX (waitE xs n tok fr p) (waitX o nx)) := by
  have h1 : Wt xs n tok P (fun q => q = p) (waitQ o hp nx) (waitX o nx) := by
    rcases ho with ⟨a, rfl⟩ | ⟨q, a, b, rfl⟩
    · exact h.mono fun j' q _ hq => hq.resolve_right (fun h => by omega)
    · refine (h.wait L b).mono fun j' q' hj' hq' => ?_
      rcases hq'.1 with h' | h'
      · exact h'
      · rw [b] at h'
        have := h'.2
        injection this with this
        exact absurd this.symm hq'.2
  exact (h1.wait L hj).mono fun j' q _ hq => hq.2 hq.1
end
end Bpe
end Go.Proofs.Ytlodbhlidgepfaa
