/- bpe: what waits is what can be joined; what is popped, and not out of date, is the step; in plain Lean. -/
import Derived.Test.YtildhlneldoffaaEPb
set_option linter.unusedVariables false
set_option linter.unusedSimpArgs false
namespace Go.Proofs.Ytildhlneldoffaa
open Voc
namespace Bpe
def entE (xs : List Pc) (tok : List Int) (p g t : Nat) : Pr := (rk xs t, (p : Int), tok.getD p 0, tok.getD g 0, (t : Int))
def Snd (xs : List Pc) (n : Nat) (e : Pr) : Prop := ∃ a t : Nat, a < n ∧ fndF e.2.2.1 e.2.2.2.1 xs = some t ∧ e.1 = rk xs t ∧ e.2.1 = (a : Int) ∧ e.2.2.2.2 = (t : Int)
structure Wt (xs : List Pc) (n : Nat) (tok : List Int) (P : List Nat) (X : Nat → Prop) (hp : List (Pr × Nat)) (nx : Nat) : Prop where
  inv : QP.QInv ltP hp nx
  snd : ∀ e ∈ hp, Snd xs n e.1
  all : ∀ (j p g t : Nat), P[j]? = some p → P[j + 1]? = some g → ¬ X p → fndF (tok.getD p 0) (tok.getD g 0) xs = some t → ∃ e ∈ hp, e.1 = entE xs tok p g t
/-- what wait pushes -/
def waitE (xs : List Pc) (n : Nat) (tok fr : List Int) (i : Nat) : Option Pr :=
  if (n : Int) ≤ fr.getD i 0 then none else
    match fndF (tok.getD i 0) (tok.getD (fr.getD i 0).toNat 0) xs with
    | none => none
    | some t => some (entE xs tok i (fr.getD i 0).toNat t)
def waitQ (o : Option Pr) (hp : List (Pr × Nat)) (nx : Nat) : List (Pr × Nat) := match o with | none => hp | some e => QP.push ltP hp (e, nx)
def waitX (o : Option Pr) (nx : Nat) : Nat := match o with | none => nx | some _ => nx + 1
section
variable {xs : List Pc} {n : Nat} {tok ah fr : List Int} {P : List Nat} {X Y : Nat → Prop} {hp : List (Pr × Nat)} {nx : Nat}
theorem Wt.mono (h : Wt xs n tok P X hp nx) (hy : ∀ (j p : Nat), P[j]? = some p → X p → Y p) : Wt xs n tok P Y hp nx :=
  ⟨h.inv, h.snd, fun j p g t h1 h2 h3 h4 => h.all j p g t h1 h2 (fun hx => h3 (hy j p h1 hx)) h4⟩
theorem Lk.far (L : Lk n tok ah fr P) {j p : Nat} (h : P[j]? = some p) : fr.getD p 0 = (((P[j + 1]?).getD n : Nat) : Int) := by
  rw [List.getD_eq_getElem?_getD, L.far_ j p h]; rfl
theorem mem_push {e : Pr × Nat} {l : List (Pr × Nat)} {x : Pr × Nat} : x ∈ QP.push ltP l e ↔ x ∈ l ∨ x = e := by
  have := (QP.push_perm (lt := ltP) l e).mem_iff (a := x)
  rw [this]; simp
theorem waitE_cases (L : Lk n tok ah fr P) {j p : Nat} (h : P[j]? = some p) :
    (waitE xs n tok fr p = none ∧ (∀ g t, P[j + 1]? = some g → fndF (tok.getD p 0) (tok.getD g 0) xs ≠ some t)) ∨
    (∃ g t, P[j + 1]? = some g ∧ g < n ∧ fr.getD p 0 = (g : Int) ∧ fndF (tok.getD p 0) (tok.getD g 0) xs = some t ∧ waitE xs n tok fr p = some (entE xs tok p g t)) := by
  unfold waitE
  rw [L.far h]
  cases hg : P[j + 1]? with
  | none =>
    left
    simp only [Option.getD_none]
    rw [if_pos (by omega)]
    exact ⟨rfl, fun g t hg => by cases hg⟩
  | some g =>
    have hgn := L.plt hg
    simp only [Option.getD_some, Int.toNat_natCast]
    rw [if_neg (by omega)]
    cases hf : fndF (tok.getD p 0) (tok.getD g 0) xs with
    | none =>
      left
      refine ⟨rfl, fun g' t hg' => ?_⟩
      injection hg' with hg'
      subst hg'
      rw [hf]
      intro h; cases h
    | some t =>
      right
      exact ⟨g, t, rfl, hgn, rfl, hf, rfl⟩
theorem Wt.wait (h : Wt xs n tok P X hp nx) (L : Lk n tok ah fr P) {j p : Nat} (hj : P[j]? = some p) :
    Wt xs n tok P (fun q => X q ∧ q ≠ p) (waitQ (waitE xs n tok fr p) hp nx) (waitX (waitE xs n tok fr p) nx) := by
  rcases waitE_cases (xs := xs) L hj with ⟨h1, h2⟩ | ⟨g, t, h1, h2, h3, h4, h5⟩
  · rw [h1]
    refine ⟨h.inv, h.snd, fun j' p' g' t' a1 a2 a3 a4 => ?_⟩
    by_cases hp' : p' = p
    · subst hp'
      have := inj L.srt a1 hj
      subst this
      exact absurd a4 (h2 g' t' a2)
    · exact h.all j' p' g' t' a1 a2 (fun hx => a3 ⟨hx, hp'⟩) a4
  · rw [h5]
    refine ⟨h.inv.push swo_ltP _, fun e he => ?_, fun j' p' g' t' a1 a2 a3 a4 => ?_⟩
    · rcases mem_push.1 he with h' | h'
      · exact h.snd e h'
      · subst h'
        exact ⟨p, t, L.plt hj, h4, rfl, rfl, rfl⟩
    · by_cases hp' : p' = p
      · subst hp'
        have := inj L.srt a1 hj
        subst this
        rw [h1] at a2
        injection a2 with a2
        subst a2
        rw [h4] at a4
        injection a4 with a4
        subst a4
        exact ⟨(_, nx), mem_push.2 (Or.inr rfl), rfl⟩
      · obtain ⟨e, he, hee⟩ := h.all j' p' g' t' a1 a2 (fun hx => a3 ⟨hx, hp'⟩) a4
        exact ⟨e, mem_push.2 (Or.inl he), hee⟩
theorem Wt.nil (xs : List Pc) (n : Nat) (tok : List Int) (P : List Nat) : Wt xs n tok P (fun _ => True) [] 0 :=
  ⟨QP.QInv.nil, fun e h => (by cases h), fun j p g t _ _ h => absurd trivial h⟩
theorem least {nx : Nat} {e : Pr × Nat} {r : List (Pr × Nat)} (hi : QP.QInv ltP (e :: r) nx) {x : Pr × Nat} (hx : x ∈ e :: r) : ltP x.1 e.1 = false := by
  obtain ⟨k, hk⟩ := List.getElem?_of_mem hx
  have hl := (List.getElem?_eq_some_iff.1 hk).1
  have := QP.heap_root swo_ltP hi.heap k hl e x rfl hk
  unfold QP.ahead at this
  cases h : ltP x.1 e.1 with
  | false => rfl
  | true => rw [h] at this; simp at this
theorem rank_place {a b : Pr} (h : ltP a b = false) : b.1 ≤ a.1 ∧ (a.1 = b.1 → b.2.1 ≤ a.2.1) := by
  simp [ltP] at h
  omega
/-- is an entry out of date? -/
def Fit (n : Nat) (tok fr : List Int) (e : Pr) : Prop := tok.getD e.2.1.toNat 0 = e.2.2.1 ∧ fr.getD e.2.1.toNat 0 < (n : Int) ∧ tok.getD (fr.getD e.2.1.toNat 0).toNat 0 = e.2.2.2.1
theorem Wt.stale {e : Pr × Nat} {r : List (Pr × Nat)} (h : Wt xs n tok P (fun _ => False) (e :: r) nx) (L : Lk n tok ah fr P) (hs : ¬ Fit n tok fr e.1) :
    Wt xs n tok P (fun _ => False) (QP.pop ltP (e :: r)) nx := by
  have hm : ∀ {a : Pr × Nat}, a ∈ QP.pop ltP (e :: r) ↔ a ∈ r := (QP.pop_perm (lt := ltP) e r).mem_iff
  refine ⟨h.inv.pop swo_ltP, fun x hx => h.snd x (List.mem_cons_of_mem _ ((hm (a := x)).1 hx)), fun j p g t h1 h2 h3 h4 => ?_⟩
  obtain ⟨x, hx, he⟩ := h.all j p g t h1 h2 h3 h4
  rcases List.mem_cons.1 hx with e1 | e1
  · exfalso
    subst e1
    apply hs
    rw [he]
    unfold Fit entE
    simp only [Int.toNat_natCast]
    have hf := L.far h1
    rw [h2] at hf
    rw [hf]
    have := L.plt h2
    exact ⟨trivial, by simp only [Option.getD_some]; omega, by simp only [Option.getD_some, Int.toNat_natCast]⟩
  · exact ⟨x, (hm (a := x)).2 e1, he⟩
theorem Wt.fit {e : Pr × Nat} {r : List (Pr × Nat)} (h : Wt xs n tok P (fun _ => False) (e :: r) nx) (L : Lk n tok ah fr P) (hb : Back xs) (hs : Fit n tok fr e.1) :
    ∃ j p g t : Nat, P[j]? = some p ∧ P[j + 1]? = some g ∧ fr.getD p 0 = (g : Int) ∧ e.1 = entE xs tok p g t ∧ t < xs.length ∧ stepR xs (rowOf tok P) = some (j, t) ∧
      Wt xs n (tokJ tok p g t) (P.eraseIdx (j + 1)) (fun q => q = p ∨ (1 ≤ j ∧ P[j - 1]? = some q)) (QP.pop ltP (e :: r)) nx := by
  obtain ⟨p, t, hpn, hf, hr, ha, ht⟩ := h.snd e (by simp)
  obtain ⟨f1, f2, f3⟩ := hs
  obtain ⟨q, hq1, hq2, hq3, hq4⟩ := fndF_some xs t hf
  have hpos : 0 ≤ e.1.2.2.1 := by have := (hb t q hq1 hq2).1.1; omega
  rw [ha, Int.toNat_natCast] at f1 f2 f3
  have hpt : tok[p]? = some (tok.getD p 0) := by
    have hlt : p < tok.length := by rw [L.lt]; exact hpn
    rw [List.getD_eq_getElem?_getD, List.getElem?_eq_getElem hlt]; rfl
  have hpP : p ∈ P := (L.live p _ hpt).1 (by rw [f1]; exact hpos)
  obtain ⟨j, hj⟩ := List.getElem?_of_mem hpP
  have hfar := L.far hj
  cases hg : P[j + 1]? with
  | none => rw [hg] at hfar; simp only [Option.getD_none] at hfar; omega
  | some g =>
    rw [hg] at hfar
    simp only [Option.getD_some] at hfar
    rw [hfar, Int.toNat_natCast] at f3
    have hent : e.1 = entE xs tok p g t := by
      unfold entE
      rw [f1, f3, ← hr, ← ha, ← ht]
    have htl : t < xs.length := (List.getElem?_eq_some_iff.1 hq1).1
    have hjl := (List.getElem?_eq_some_iff.1 hg).1
    have hstep : stepR xs (rowOf tok P) = some (j, t) := by
      apply scan_of
      refine ⟨by rw [rowOf_len]; omega, ?_, fun i' t' hi' ht' => ?_⟩
      · unfold fndAt
        rw [rowOf_at hj, rowOf_at hg, f1, f3]
        exact hf
      · rw [rowOf_len] at hi'
        obtain ⟨p', hp'⟩ : ∃ p', P[i']? = some p' := ⟨_, List.getElem?_eq_getElem (by omega)⟩
        obtain ⟨g', hg'⟩ : ∃ g', P[i' + 1]? = some g' := ⟨_, List.getElem?_eq_getElem (by omega)⟩
        unfold fndAt at ht'
        rw [rowOf_at hp', rowOf_at hg'] at ht'
        obtain ⟨x, hx, he⟩ := h.all i' p' g' t' hp' hg' (fun h => h) ht'
        have hle := rank_place (least h.inv hx)
        rw [he, hent] at hle
        unfold entE at hle
        simp only at hle
        refine ⟨hle.1, fun hlt => ?_⟩
        have hm := Bpe.mono L.srt hp' hj hlt
        have h1 := hle.1
        have h2 := hle.2
        rcases Int.lt_or_eq_of_le h1 with h' | h'
        · exact h'
        · have := h2 h'.symm; omega
    refine ⟨j, p, g, t, hj, hg, hfar, hent, htl, hstep, ?_⟩
    have hm : ∀ {a : Pr × Nat}, a ∈ QP.pop ltP (e :: r) ↔ a ∈ r := (QP.pop_perm (lt := ltP) e r).mem_iff
    refine ⟨h.inv.pop swo_ltP, fun x hx => h.snd x (List.mem_cons_of_mem _ ((hm (a := x)).1 hx)), fun j' p' g' t' h1 h2 h3 h4 => ?_⟩
    rw [erase_at] at h1 h2
    have hpg := Bpe.mono L.srt hj hg (by omega)
    have hp'n : p' ≠ p := fun e => h3 (Or.inl e)
    have hkey : ∃ k, P[k]? = some p' ∧ P[k + 1]? = some g' ∧ p' ≠ g ∧ g' ≠ p ∧ g' ≠ g := by
      rcases Nat.lt_trichotomy j' j with hlt | heq | hgt
      · rw [if_pos (by omega)] at h1
        rw [if_pos (by omega)] at h2
        have a1 := Bpe.mono L.srt h1 hg (by omega)
        have hg'p : g' ≠ p := fun e => by
          subst e
          have := inj L.srt h2 hj
          exact h3 (Or.inr ⟨by omega, by rw [← this, Nat.add_sub_cancel]; exact h1⟩)
        have a2 := Bpe.mono L.srt h2 hg (by omega)
        exact ⟨j', h1, h2, by omega, hg'p, by omega⟩
      · subst heq
        rw [if_pos (by omega), hj] at h1
        injection h1 with h1
        exact absurd h1.symm hp'n
      · rw [if_neg (by omega)] at h1
        rw [if_neg (by omega)] at h2
        have a1 := Bpe.mono L.srt hg h1 (by omega)
        have a2 := Bpe.mono L.srt h1 h2 (by omega)
        exact ⟨j' + 1, h1, h2, by omega, by omega, by omega⟩
    obtain ⟨k, k1, k2, k3, k4, k5⟩ := hkey
    have same : ∀ i, i < n → i ≠ p → i ≠ g → (tokJ tok p g t).getD i 0 = tok.getD i 0 := fun i a b c => by
      rw [List.getD_eq_getElem?_getD, List.getD_eq_getElem?_getD, tokJ_at (by rw [L.lt]; exact a) b c]
    have s1 := same p' (L.plt k1) hp'n k3
    have s2 := same g' (L.plt k2) k4 k5
    rw [s1, s2] at h4
    obtain ⟨x, hx, he⟩ := h.all k p' g' t' k1 k2 (fun h => h) h4
    have he' : x.1 = entE xs (tokJ tok p g t) p' g' t' := by rw [he]; unfold entE; rw [s1, s2]
    rcases List.mem_cons.1 hx with e1 | e1
    · exfalso
      subst e1
      rw [hent] at he
      unfold entE at he
      injection he with _ he
      injection he with he _
      exact hp'n (by omega)
    · exact ⟨x, (hm (a := x)).2 e1, he'⟩
theorem Wt.done (h : Wt xs n tok P (fun _ => False) [] nx) : stepR xs (rowOf tok P) = none := by
  apply scan_of_none
  intro i hi
  rw [rowOf_len] at hi
  obtain ⟨p', hp'⟩ : ∃ p', P[i]? = some p' := ⟨_, List.getElem?_eq_getElem (by omega)⟩
  obtain ⟨g', hg'⟩ : ∃ g', P[i + 1]? = some g' := ⟨_, List.getElem?_eq_getElem (by omega)⟩
  unfold fndAt
  rw [rowOf_at hp', rowOf_at hg']
  cases hf : fndF (tok.getD p' 0) (tok.getD g' 0) xs with
  | none => rfl
  | some t =>
    obtain ⟨x, hx, _⟩ := h.all i p' g' t hp' hg' (fun h => h) hf
    cases hx
/-- behind a join both new pairs wait -/
theorem Wt.both {j p : Nat} (h : Wt xs n tok P (fun q => q = p ∨ (1 ≤ j ∧ P[j - 1]? = some q)) hp nx) (L : Lk n tok ah fr P) (hj : P[j]? = some p) (o : Option Pr)
    (ho : (j = 0 ∧ o = none) ∨ (∃ q, 1 ≤ j ∧ P[j - 1]? = some q ∧ o = waitE xs n tok fr q)) :
    Wt xs n tok P (fun _ => False) (waitQ (waitE xs n tok fr p) (waitQ o hp nx) (waitX o nx)) (waitX (waitE xs n tok fr p) (waitX o nx)) := by
  have h1 : Wt xs n tok P (fun q => q = p) (waitQ o hp nx) (waitX o nx) := by
    rcases ho with ⟨a, rfl⟩ | ⟨q, a, b, rfl⟩
    · exact h.mono fun j' q _ hq => hq.resolve_right (fun h => by omega)
    · refine (h.wait L b).mono fun j' q' hj' hq' => ?_
      rcases hq'.1 with h' | h'
      · exact h'
      · rw [b] at h'
        have := h'.2
        injection this with this
        exact absurd this.symm hq'.2
  exact (h1.wait L hj).mono fun j' q _ hq => hq.2 hq.1
end
end Bpe
end Go.Proofs.Ytildhlneldoffaa
