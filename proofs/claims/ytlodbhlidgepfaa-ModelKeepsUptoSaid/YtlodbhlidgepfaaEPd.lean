/- bpe: the rounds of the queue, in plain Lean. -/
import Derived.Test.YtlodbhlidgepfaaEPa
set_option linter.unusedVariables false
set_option linter.unusedSimpArgs false
namespace Go.Proofs.Ytlodbhlidgepfaa
open Voc
namespace Bpe
structure LP (xs : List Pc) (n : Nat) (L0 tok ah fr : List Int) (P : List Nat) (hp : List (Pr × Nat)) (nx : Nat) : Prop where
  lk : Lk n tok ah fr P
  wt : Wt xs n tok P (fun _ => False) hp nx
  enc : encL xs (rowOf tok P) = encL xs L0
  tk : ∀ x ∈ tok, -1 ≤ x ∧ x < 4097
  nx_ : nx + 2 * P.length ≤ 3 * n
  hl : hp.length ≤ nx
section
variable {xs : List Pc} {n : Nat} {L0 tok ah fr : List Int} {P : List Nat} {hp : List (Pr × Nat)} {nx : Nat}
theorem LP.start (hL : L0.length = n) (h0 : ∀ x ∈ L0, 0 ≤ x) (ht : ∀ x ∈ L0, -1 ≤ x ∧ x < 4097) (hw : Wt xs n L0 (List.range n) (fun _ => False) hp nx) (hn : nx ≤ n) (hl : hp.length ≤ nx) : LP xs n L0 L0 (ah0 n) (fr0 n) (List.range n) hp nx := by
  subst hL
  exact ⟨Lk.start L0 h0, hw, by rw [rowOf_start], ht, by rw [List.length_range]; omega, hl⟩
theorem LP.stale {e : Pr × Nat} {r : List (Pr × Nat)} (H : LP xs n L0 tok ah fr P (e :: r) nx) (hs : ¬ Fit n tok fr e.1) : LP xs n L0 tok ah fr P (QP.pop ltP (e :: r)) nx ∧ (QP.pop ltP (e :: r)).length = r.length := by
  have hl : (QP.pop ltP (e :: r)).length = r.length := by rw [QP.length_pop, List.length_cons]; omega
  exact ⟨⟨H.lk, H.wt.stale H.lk hs, H.enc, H.tk, H.nx_, by rw [hl]; have := H.hl; rw [List.length_cons] at this; omega⟩, hl⟩
theorem waitQ_len (o : Option Pr) (hp : List (Pr × Nat)) (nx : Nat) : (waitQ o hp nx).length + nx = hp.length + waitX o nx := by
  unfold waitQ waitX
  split
  · rfl
  · rw [QP.length_push]; omega
theorem waitX_le (o : Option Pr) (nx : Nat) : waitX o nx ≤ nx + 1 := by unfold waitX; split <;> omega
theorem LP.fit {e : Pr × Nat} {r : List (Pr × Nat)} (H : LP xs n L0 tok ah fr P (e :: r) nx) (hX : Back xs) (h4 : xs.length ≤ 4096) (hs : Fit n tok fr e.1) :
    ∃ j p g t : Nat, P[j]? = some p ∧ P[j + 1]? = some g ∧ p < n ∧ e.1 = entE xs tok p g t ∧ t < xs.length ∧
      ∀ o, ((j = 0 ∧ o = none) ∨ (∃ q, 1 ≤ j ∧ (P.eraseIdx (j + 1))[j - 1]? = some q ∧ o = waitE xs n (tokJ tok p g t) (frJ fr p ((P[j + 2]?).getD n)) q)) →
        LP xs n L0 (tokJ tok p g t) (ahJ n ah p ((P[j + 2]?).getD n)) (frJ fr p ((P[j + 2]?).getD n)) (P.eraseIdx (j + 1))
          (waitQ (waitE xs n (tokJ tok p g t) (frJ fr p ((P[j + 2]?).getD n)) p) (waitQ o (QP.pop ltP (e :: r)) nx) (waitX o nx)) (waitX (waitE xs n (tokJ tok p g t) (frJ fr p ((P[j + 2]?).getD n)) p) (waitX o nx)) ∧
        (waitQ (waitE xs n (tokJ tok p g t) (frJ fr p ((P[j + 2]?).getD n)) p) (waitQ o (QP.pop ltP (e :: r)) nx) (waitX o nx)).length + 3 * (P.eraseIdx (j + 1)).length < (e :: r).length + 3 * P.length := by
  obtain ⟨j, p, g, t, hj, hg, hf, he, ht, hst, hw⟩ := H.wt.fit H.lk hX hs
  refine ⟨j, p, g, t, hj, hg, H.lk.plt hj, he, ht, fun o ho => ?_⟩
  have hlk := H.lk.join hj hg t
  have hj' : (P.eraseIdx (j + 1))[j]? = some p := by rw [erase_at, if_pos (by omega)]; exact hj
  have hjl := (List.getElem?_eq_some_iff.1 hg).1
  have hPl : (P.eraseIdx (j + 1)).length = P.length - 1 := by rw [List.length_eraseIdx, if_pos hjl]
  have hw' := hw.mono (Y := fun q => q = p ∨ (1 ≤ j ∧ (P.eraseIdx (j + 1))[j - 1]? = some q)) (fun j' q _ h => by
    rcases h with h | ⟨h1, h2⟩
    · exact Or.inl h
    · exact Or.inr ⟨h1, by rw [erase_at, if_pos (by omega)]; exact h2⟩)
  have hb := hw'.both hlk hj' o ho
  generalize waitE xs n (tokJ tok p g t) (frJ fr p ((P[j + 2]?).getD n)) p = o2 at hb ⊢
  have hl : (QP.pop ltP (e :: r)).length = r.length := by rw [QP.length_pop, List.length_cons]; omega
  have l1 := waitQ_len o (QP.pop ltP (e :: r)) nx
  have l2 := waitQ_len o2 (waitQ o (QP.pop ltP (e :: r)) nx) (waitX o nx)
  have l3 := waitX_le o nx
  have l4 := waitX_le o2 (waitX o nx)
  have l5 := H.hl
  have l6 := H.nx_
  rw [List.length_cons] at l5
  refine ⟨⟨hlk, hb, ?_, ?_, by omega, by omega⟩, by rw [List.length_cons]; omega⟩
  · rw [rowOf_join H.lk hj hg, ← encL_step hst, H.enc]
  · intro x hx
    unfold tokJ at hx
    rcases List.mem_or_eq_of_mem_set hx with h | h
    · rcases List.mem_or_eq_of_mem_set h with h | h
      · exact H.tk x h
      · subst h; omega
    · subst h; omega
theorem LP.nat {e : Pr × Nat} {r : List (Pr × Nat)} (H : LP xs n L0 tok ah fr P (e :: r) nx) (hX : Back xs) {a : Nat} (ha : e.1.2.1 = (a : Int)) (h1 : tok.getD a 0 = e.1.2.2.1) : ∃ g : Nat, fr.getD a 0 = (g : Int) := by
  obtain ⟨p, t, hpn, hf, hr, hap, ht⟩ := H.wt.snd e (by simp)
  obtain ⟨q, hq1, hq2, hq3, hq4⟩ := fndF_some xs t hf
  have hpos : 0 ≤ e.1.2.2.1 := by have := (hX t q hq1 hq2).1.1; omega
  have hpa : p = a := by omega
  subst hpa
  have hlt : p < tok.length := by rw [H.lk.lt]; exact hpn
  have hpt : tok[p]? = some (tok.getD p 0) := by rw [List.getD_eq_getElem?_getD, List.getElem?_eq_getElem hlt]; rfl
  obtain ⟨j, hj⟩ := List.getElem?_of_mem ((H.lk.live p _ hpt).1 (by rw [h1]; exact hpos))
  exact ⟨_, H.lk.far hj⟩
theorem LP.done (H : LP xs n L0 tok ah fr P [] nx) : tok.filter (fun x => decide (0 ≤ x)) = encL xs L0 := by
  rw [H.lk.filter, ← H.enc, encL_none H.wt.done]
end
end Bpe
end Go.Proofs.Ytlodbhlidgepfaa
