/- bpe: a row whose neighbours stand in lists; the pairs that wait; in plain Lean. -/
import Derived.Test.YtildhlneldoffaaEPa
import Derived.Test.YtildhlneldoffaaQPlain
set_option linter.unusedVariables false
set_option linter.unusedSimpArgs false
namespace Go.Proofs.Ytildhlneldoffaa
open Voc
namespace Bpe
/-- a pair that waits: its rank, its place, its two tokens, their join -/
abbrev Pr := Int × Int × Int × Int × Int
def ltP (a b : Pr) : Bool := decide (a.1 < b.1) || (decide (a.1 = b.1) && decide (a.2.1 < b.2.1))
theorem swo_ltP : QP.SWO ltP := by
  constructor
  · intro a b h
    simp [ltP] at h ⊢
    omega
  · intro a b c h
    simp [ltP] at h ⊢
    omega

/-- the place ahead of the j-th one -/
def prev (P : List Nat) : Nat → Int
  | 0 => -1
  | j + 1 => (((P[j]?).getD 0 : Nat) : Int)
/-- a row: the live places P, each with its neighbours -/
structure Lk (n : Nat) (tok ah fr : List Int) (P : List Nat) : Prop where
  lt : tok.length = n
  la : ah.length = n
  lf : fr.length = n
  srt : P.Pairwise (· < ·)
  in_ : ∀ p ∈ P, p < n
  live : ∀ (i : Nat) (x : Int), tok[i]? = some x → (0 ≤ x ↔ i ∈ P)
  far_ : ∀ (j p : Nat), P[j]? = some p → fr[p]? = some (((P[j + 1]?).getD n : Nat) : Int)
  ah_ : ∀ (j p : Nat), P[j]? = some p → ah[p]? = some (prev P j)
def rowOf (tok : List Int) (P : List Nat) : List Int := P.map fun (p : Nat) => tok.getD p 0
theorem rowOf_at {tok : List Int} {P : List Nat} {j p : Nat} (h : P[j]? = some p) : (rowOf tok P).getD j 0 = tok.getD p 0 := by
  unfold rowOf
  rw [List.getD_eq_getElem?_getD, List.getElem?_map, h]; rfl
theorem rowOf_len (tok : List Int) (P : List Nat) : (rowOf tok P).length = P.length := by simp [rowOf]
theorem mono {P : List Nat} (h : P.Pairwise (· < ·)) {a b x y : Nat} (ha : P[a]? = some x) (hb : P[b]? = some y) (hab : a < b) : x < y := by
  obtain ⟨h1, rfl⟩ := List.getElem?_eq_some_iff.1 ha
  obtain ⟨h2, rfl⟩ := List.getElem?_eq_some_iff.1 hb
  exact List.pairwise_iff_getElem.1 h a b h1 h2 hab
theorem inj {P : List Nat} (h : P.Pairwise (· < ·)) {a b x : Nat} (ha : P[a]? = some x) (hb : P[b]? = some x) : a = b := by
  rcases Nat.lt_trichotomy a b with h' | h' | h'
  · have := mono h ha hb h'; omega
  · exact h'
  · have := mono h hb ha h'; omega
def ah0 (n : Nat) : List Int := (List.range n).map fun (i : Nat) => (i : Int) - 1
def fr0 (n : Nat) : List Int := (List.range n).map fun (i : Nat) => (i : Int) + 1
theorem Lk.start (tok : List Int) (h0 : ∀ x ∈ tok, 0 ≤ x) : Lk tok.length tok (ah0 tok.length) (fr0 tok.length) (List.range tok.length) := by
  refine ⟨rfl, by simp [ah0], by simp [fr0], List.pairwise_lt_range, fun p hp => List.mem_range.1 hp, fun i x hx => ?_, fun j p hp => ?_, fun j p hp => ?_⟩
  · have := (List.getElem?_eq_some_iff.1 hx).1
    exact ⟨fun _ => List.mem_range.2 this, fun _ => h0 x (List.mem_of_getElem? hx)⟩
  · obtain ⟨h1, h2⟩ := List.getElem?_eq_some_iff.1 hp
    simp at h1 h2
    subst h2
    unfold fr0
    rw [List.getElem?_map, List.getElem?_range h1]
    simp only [Option.map_some, Option.some.injEq]
    by_cases h : j + 1 < tok.length
    · rw [List.getElem?_range h]; rfl
    · rw [List.getElem?_eq_none (by simp; omega)]
      simp only [Option.getD_none]
      omega
  · obtain ⟨h1, h2⟩ := List.getElem?_eq_some_iff.1 hp
    simp at h1 h2
    subst h2
    unfold ah0
    rw [List.getElem?_map, List.getElem?_range h1]
    simp only [Option.map_some, Option.some.injEq]
    cases j with
    | zero => rfl
    | succ j =>
      simp only [prev]
      rw [List.getElem?_range (show j < tok.length by omega)]
      simp only [Option.getD_some]
      omega
theorem rowOf_start (tok : List Int) : rowOf tok (List.range tok.length) = tok := by
  unfold rowOf
  apply List.ext_getElem?
  intro i
  rw [List.getElem?_map]
  rcases Nat.lt_or_ge i tok.length with h | h
  · rw [List.getElem?_range h, List.getElem?_eq_getElem h]
    simp [List.getElem?_eq_getElem h]
  · rw [List.getElem?_eq_none (by simpa using h), List.getElem?_eq_none h]; rfl
def tokJ (tok : List Int) (p g t : Nat) : List Int := (tok.set p (t : Int)).set g (-1)
def frJ (fr : List Int) (p fg : Nat) : List Int := fr.set p (fg : Int)
def ahJ (n : Nat) (ah : List Int) (p fg : Nat) : List Int := if fg < n then ah.set fg (p : Int) else ah
section
variable {n : Nat} {tok ah fr : List Int} {P : List Nat}
theorem Lk.plt (h : Lk n tok ah fr P) {j p : Nat} (hp : P[j]? = some p) : p < n := h.in_ p (List.mem_of_getElem? hp)
theorem erase_at (P : List Nat) (j k : Nat) : (P.eraseIdx (j + 1))[k]? = if k < j + 1 then P[k]? else P[k + 1]? := by
  rw [List.getElem?_eraseIdx]
theorem tokJ_at {p g t : Nat} {i : Nat} (hi : i < tok.length) (hne : i ≠ p) (hng : i ≠ g) : (tokJ tok p g t)[i]? = tok[i]? := by
  unfold tokJ
  rw [List.getElem?_set_ne (Ne.symm hng), List.getElem?_set_ne (Ne.symm hne)]
theorem Lk.join (h : Lk n tok ah fr P) {j p g : Nat} (hp : P[j]? = some p) (hg : P[j + 1]? = some g) (t : Nat) :
    Lk n (tokJ tok p g t) (ahJ n ah p ((P[j + 2]?).getD n)) (frJ fr p ((P[j + 2]?).getD n)) (P.eraseIdx (j + 1)) := by
  have hpn := h.plt hp
  have hgn := h.plt hg
  have hpg := mono h.srt hp hg (by omega)
  have hmem : ∀ i, i ≠ g → (i ∈ P.eraseIdx (j + 1) ↔ i ∈ P) := fun i hi => by
    constructor
    · exact fun hm => List.mem_of_mem_eraseIdx hm
    · intro hm
      obtain ⟨k, hk⟩ := List.getElem?_of_mem hm
      have hkj : k ≠ j + 1 := fun e => by subst e; rw [hg] at hk; injection hk with hk; exact hi hk.symm
      rcases Nat.lt_or_ge k (j + 1) with h1 | h1
      · exact List.mem_of_getElem? (i := k) (by rw [erase_at, if_pos h1]; exact hk)
      · exact List.mem_of_getElem? (i := k - 1) (by rw [erase_at, if_neg (by omega), show k - 1 + 1 = k by omega]; exact hk)
  have hgno : g ∉ P.eraseIdx (j + 1) := fun hm => by
    obtain ⟨k, hk⟩ := List.getElem?_of_mem hm
    rw [erase_at] at hk
    split at hk
    · have := inj h.srt hk hg; omega
    · have := inj h.srt hk hg; omega
  refine ⟨by simp [tokJ, h.lt], ?_, by simp [frJ, h.lf], h.srt.sublist (List.eraseIdx_sublist _ _), fun q hq => h.in_ q (List.mem_of_mem_eraseIdx hq), fun i x hx => ?_, fun k q hq => ?_, fun k q hq => ?_⟩
  · unfold ahJ; split <;> simp [h.la]
  · have hil : i < n := by
      have := (List.getElem?_eq_some_iff.1 hx).1
      simpa [tokJ, h.lt] using this
    by_cases hig : i = g
    · subst hig
      have : x = -1 := by
        unfold tokJ at hx
        rw [List.getElem?_set_self (by simp [h.lt]; exact hil)] at hx
        injection hx with hx
        exact hx.symm
      subst this
      exact ⟨fun h => by omega, fun hm => absurd hm hgno⟩
    · by_cases hip : i = p
      · subst hip
        have : x = (t : Int) := by
          unfold tokJ at hx
          rw [List.getElem?_set_ne (Ne.symm hig), List.getElem?_set_self (by rw [h.lt]; exact hil)] at hx
          injection hx with hx
          exact hx.symm
        subst this
        exact ⟨fun _ => (hmem i hig).2 (List.mem_of_getElem? hp), fun _ => by omega⟩
      · rw [tokJ_at (by rw [h.lt]; exact hil) hip hig] at hx
        exact (h.live i x hx).trans (hmem i hig).symm
  · rw [erase_at] at hq
    unfold frJ
    rw [erase_at]
    rcases Nat.lt_trichotomy k j with hk | hk | hk
    · rw [if_pos (by omega)] at hq
      rw [if_pos (by omega)]
      have hqp : p ≠ q := by have := mono h.srt hq hp hk; omega
      rw [List.getElem?_set_ne hqp]
      exact h.far_ k q hq
    · subst hk
      rw [if_pos (by omega), hp] at hq
      injection hq with hq
      subst hq
      rw [if_neg (by omega), List.getElem?_set_self (by rw [h.lf]; exact hpn)]
    · rw [if_neg (by omega)] at hq
      rw [if_neg (by omega)]
      have hqp : p ≠ q := by have := mono h.srt hp hq (by omega); omega
      rw [List.getElem?_set_ne hqp]
      exact h.far_ (k + 1) q hq
  · rw [erase_at] at hq
    have hsome : ∀ x, (ahJ n ah p ((P[j + 2]?).getD n))[q]? = some x ↔ (if q = (P[j + 2]?).getD n then x = (p : Int) else ah[q]? = some x) := fun x => by
      have hqn : q < n := by
        split at hq
        · exact h.plt hq
        · exact h.plt hq
      unfold ahJ
      by_cases e : q = (P[j + 2]?).getD n
      · rw [if_pos e, ← e, if_pos hqn, List.getElem?_set_self (by rw [h.la]; exact hqn)]
        exact ⟨fun h => by injection h with h; exact h.symm, fun h => by rw [h]⟩
      · rw [if_neg e]
        split
        · rw [List.getElem?_set_ne (Ne.symm e)]
        · exact Iff.rfl
    rw [hsome]
    rcases Nat.lt_trichotomy k (j + 1) with hk | hk | hk
    · rw [if_pos hk] at hq
      have hne : q ≠ (P[j + 2]?).getD n := by
        cases hf : P[j + 2]? with
        | none => have := h.plt hq; simp only [Option.getD_none]; omega
        | some f => have := mono h.srt hq hf (by omega); simp only [Option.getD_some]; omega
      rw [if_neg hne]
      have := h.ah_ k q hq
      cases k with
      | zero => exact this
      | succ k =>
        simp only [prev] at this ⊢
        rw [erase_at, if_pos (by omega)]
        exact this
    · subst hk
      rw [if_neg (by omega)] at hq
      rw [hq]
      simp only [Option.getD_some, if_pos, prev]
      rw [erase_at, if_pos (by omega), hp]; rfl
    · rw [if_neg (by omega)] at hq
      have hne : q ≠ (P[j + 2]?).getD n := by
        cases hf : P[j + 2]? with
        | none => have := h.plt hq; simp only [Option.getD_none]; omega
        | some f => have := mono h.srt hf hq (by omega); simp only [Option.getD_some]; omega
      rw [if_neg hne]
      obtain ⟨m, rfl⟩ : ∃ m, k = m + 1 := ⟨k - 1, by omega⟩
      have := h.ah_ (m + 1 + 1) q hq
      simp only [prev] at this ⊢
      rw [erase_at, if_neg (by omega)]
      exact this
theorem rowOf_join (h : Lk n tok ah fr P) {j p g : Nat} (hp : P[j]? = some p) (hg : P[j + 1]? = some g) (t : Nat) :
    rowOf (tokJ tok p g t) (P.eraseIdx (j + 1)) = joined (rowOf tok P) j t := by
  have hpn := h.plt hp
  have hgn := h.plt hg
  have hpg := mono h.srt hp hg (by omega)
  have hlen : j + 1 < (rowOf tok P).length := by rw [rowOf_len]; exact (List.getElem?_eq_some_iff.1 hg).1
  apply List.ext_getElem?
  intro k
  rw [joined_get hlen]
  have hR : ∀ m, (rowOf tok P)[m]? = P[m]?.map fun q => tok.getD q 0 := fun m => by unfold rowOf; rw [List.getElem?_map]
  have hL : (rowOf (tokJ tok p g t) (P.eraseIdx (j + 1)))[k]? = (P.eraseIdx (j + 1))[k]?.map fun q => (tokJ tok p g t).getD q 0 := by unfold rowOf; rw [List.getElem?_map]
  rw [hL, hR, hR, erase_at]
  have hsame : ∀ q, q < n → q ≠ p → q ≠ g → (tokJ tok p g t).getD q 0 = tok.getD q 0 := fun q h1 h2 h3 => by
    rw [List.getD_eq_getElem?_getD, List.getD_eq_getElem?_getD, tokJ_at (by rw [h.lt]; exact h1) h2 h3]
  by_cases h1 : k < j
  · rw [if_pos (by omega), if_pos h1]
    cases hk : P[k]? with
    | none => rfl
    | some q =>
      have a := mono h.srt hk hp h1
      simp only [Option.map_some]
      rw [hsame q (h.plt hk) (by omega) (by omega)]
  · rw [if_neg h1]
    by_cases h2 : k = j
    · subst h2
      rw [if_pos (by omega), if_pos rfl, hp]
      simp only [Option.map_some, Option.some.injEq]
      unfold tokJ
      rw [List.getD_eq_getElem?_getD, List.getElem?_set_ne (by omega), List.getElem?_set_self (by rw [h.lt]; exact hpn)]; rfl
    · rw [if_neg (by omega), if_neg h2]
      cases hk : P[k + 1]? with
      | none => rfl
      | some q =>
        have a := mono h.srt hg hk (by omega)
        simp only [Option.map_some]
        rw [hsame q (h.plt hk) (by omega) (by omega)]
/-- what stays of the tokens in the end -/
theorem Lk.filter (h : Lk n tok ah fr P) : tok.filter (fun x => decide (0 ≤ x)) = rowOf tok P := by
  have key : ∀ (m : Nat) (tk : List Int) (Q : List Nat), (∀ i x, tk[i]? = some x → (0 ≤ x ↔ m + i ∈ Q)) → (∀ q ∈ Q, m ≤ q ∧ q < m + tk.length) → Q.Pairwise (· < ·) →
      tk.filter (fun x => decide (0 ≤ x)) = Q.map fun q => tk.getD (q - m) 0 := by
    intro m tk
    induction tk generalizing m with
    | nil =>
      intro Q _ hQ _
      cases Q with
      | nil => rfl
      | cons q r => have := hQ q (by simp); simp at this; omega
    | cons x tk ih =>
      intro Q hl hQ hs
      have h0 := hl 0 x rfl
      have hrest : ∀ Q' : List Nat, (∀ q, q ∈ Q' ↔ q ∈ Q ∧ q ≠ m) → Q'.Pairwise (· < ·) → tk.filter (fun x => decide (0 ≤ x)) = Q'.map fun q => (x :: tk).getD (q - m) 0 := fun Q' hq' hs' => by
        rw [ih (m + 1) Q' (fun i y hy => by
            rw [hl (i + 1) y (by simpa using hy), hq', show m + (i + 1) = m + 1 + i by omega]
            exact ⟨fun h => ⟨h, by omega⟩, fun h => h.1⟩)
          (fun q hq => by have h1 := (hq' q).1 hq; have h2 := hQ q h1.1; simp at h2; have := h1.2; omega) hs']
        apply List.map_congr_left
        intro q hq
        have h1 := (hq' q).1 hq
        have h2 := hQ q h1.1
        have h3 := h1.2
        rw [show q - m = (q - (m + 1)) + 1 by omega]
        simp
      by_cases hx : 0 ≤ x
      · have hm := h0.1 hx
        rw [Nat.add_zero] at hm
        cases Q with
        | nil => cases hm
        | cons q r =>
          have hqm : q = m := by
            rcases List.mem_cons.1 hm with e | e
            · exact e.symm
            · have := (List.pairwise_cons.1 hs).1 m e
              have := (hQ q (by simp)).1
              omega
          subst hqm
          rw [List.filter_cons_of_pos (by simpa using hx), List.map_cons, hrest r (fun q' => ?_) (List.pairwise_cons.1 hs).2]
          · simp
          · constructor
            · intro h'
              exact ⟨List.mem_cons_of_mem _ h', by have := (List.pairwise_cons.1 hs).1 q' h'; omega⟩
            · rintro ⟨h1, h2⟩
              rcases List.mem_cons.1 h1 with e | e
              · exact absurd e h2
              · exact e
      · rw [List.filter_cons_of_neg (by simpa using hx), hrest Q (fun q' => ⟨fun h' => ⟨h', fun e => ?_⟩, fun h' => h'.1⟩) hs]
        subst e
        exact hx (h0.2 (by simpa using h'))
  have := key 0 tok P (fun i x hx => by rw [Nat.zero_add]; exact h.live i x hx) (fun q hq => ⟨Nat.zero_le _, by rw [Nat.zero_add, h.lt]; exact h.in_ q hq⟩) h.srt
  exact this
end
end Bpe
end Go.Proofs.Ytildhlneldoffaa
