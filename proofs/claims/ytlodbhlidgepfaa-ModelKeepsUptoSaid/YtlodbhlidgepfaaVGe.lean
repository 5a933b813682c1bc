/- vocab: how long a token's bytes are. vocab: a token's bytes are its parts'; a beginning of a right Vocab. -/
import Derived.Test.YtlodbhlidgepfaaVTa
set_option linter.unusedVariables false
set_option linter.unusedSimpArgs false
namespace Go.Proofs.Ytlodbhlidgepfaa
open Go.RowKit
namespace Voc
theorem size_len (xs : List Pc) (n : Int) : (sizeE xs n).1 = ((expE xs n).length : Int) := by
  by_cases h : (sizeE xs n).2 = 0
  · exact (size_ok h).2.2.2.2
  · have h0 : expE xs n = [] := by unfold expE; rw [if_neg h]
    rw [h0]
    unfold sizeE at h ⊢
    split
    · rfl
    · rename_i h1
      rw [if_neg h1] at h
      split
      · rfl
      · rename_i h2
        rw [if_neg h2] at h
        exact absurd rfl h
theorem expE_le (xs : List Pc) (n : Int) : (expE xs n).length ≤ 256 := by
  have h := size_len xs n
  have h2 : (sizeE xs n).1 ≤ 256 := by
    unfold sizeE
    split
    · simp
    · rename_i hc
      split
      · simp
      · have hg := good_of (xs := xs) (by simpa using hc)
        have := szAt_le hg.le n
        simp only
        omega
  omega
end Voc
end Go.Proofs.Ytlodbhlidgepfaa

namespace Go.Proofs.Ytlodbhlidgepfaa
open Go.RowKit
namespace Voc
theorem size_zero {xs : List Pc} (h : (checkE xs).1 = 0) {n : Int} (h0 : 0 ≤ n) (h1 : n < xs.length) : (sizeE xs n).2 = 0 := by
  unfold sizeE
  rw [if_neg (by omega), if_neg (by omega)]
theorem expE_at {xs : List Pc} (h : (checkE xs).1 = 0) {n : Nat} (h1 : n < xs.length) : expE xs n = expB xs (n + 1) n := by
  unfold expE
  rw [if_pos (size_zero h (by omega) (by omega)), Int.toNat_natCast]
theorem expE_join {xs : List Pc} (h : (checkE xs).1 = 0) {n : Nat} {q : Pc} (hq : xs[n]? = some q) (hj : q.j = true) : expE xs n = expE xs q.l ++ expE xs q.r ∧ (0 ≤ q.l ∧ q.l < xs.length) ∧ (0 ≤ q.r ∧ q.r < xs.length) := by
  have hn := (List.getElem?_eq_some_iff.1 hq).1
  have hb := (good_of h).ok.back
  obtain ⟨⟨a, b⟩, c, d⟩ := hb n q hq hj
  obtain ⟨i, hi⟩ : ∃ i : Nat, q.l = i := ⟨q.l.toNat, by omega⟩
  obtain ⟨j, hj'⟩ : ∃ j : Nat, q.r = j := ⟨q.r.toNat, by omega⟩
  refine ⟨?_, by omega, by omega⟩
  rw [expE_at h hn, hi, hj', expE_at h (by omega), expE_at h (by omega)]
  simp only [expB, Int.toNat_natCast, hq, hj, if_true]
  rw [hi, hj', expB_more hb n (i + 1) i (by omega) (by omega), expB_more hb n (j + 1) j (by omega) (by omega)]
  simp only [expB, Int.toNat_natCast]
theorem expE_byte {xs : List Pc} (h : (checkE xs).1 = 0) {n : Nat} {q : Pc} (hq : xs[n]? = some q) (hj : q.j = false) : expE xs n = [q.b] := by
  rw [expE_at h (List.getElem?_eq_some_iff.1 hq).1]
  simp [expB, Int.toNat_natCast, hq, hj]
theorem expE_pos {xs : List Pc} (h : (checkE xs).1 = 0) : ∀ (f n : Nat), n < f → n < xs.length → 1 ≤ (expE xs n).length := by
  intro f
  induction f with
  | zero => intro n h; omega
  | succ f ih =>
    intro n hnf hn
    have hq := List.getElem?_eq_getElem hn
    cases hj : (xs[n]'hn).j with
    | false => rw [expE_byte h hq hj]; simp
    | true =>
      obtain ⟨e, ⟨a, b⟩, c, d⟩ := expE_join h hq hj
      obtain ⟨⟨a2, b2⟩, c2, d2⟩ := (good_of h).ok.back n _ hq hj
      rw [e, List.length_append]
      obtain ⟨i, hi⟩ : ∃ i : Nat, (xs[n]'hn).l = i := ⟨(xs[n]'hn).l.toNat, by omega⟩
      have := ih i (by omega) (by omega)
      rw [hi]
      omega
theorem badF_take : ∀ (r ps : List Pc) (sz : List Nat) (m : Nat), badF ps sz r = none → badF ps sz (r.take m) = none
  | [], ps, sz, m, _ => by simp [badF]
  | q :: r, ps, sz, 0, _ => by simp [badF]
  | q :: r, ps, sz, m + 1, h => by
    simp only [badF] at h
    rw [List.take_succ_cons]
    simp only [badF]
    split at h
    · rename_i h0
      rw [if_pos h0]
      exact badF_take r _ _ m h
    · cases h
theorem badF_ok {xs : List Pc} (h : (checkE xs).1 = 0) : badF [] [] xs = none := by
  unfold checkE at h
  split at h
  · cases h
  · cases hb : badF [] [] xs with
    | none => rfl
    | some x => rw [hb] at h; exact absurd h (badF_ne _ _ _ _ hb)
theorem check_take {xs : List Pc} (h : (checkE xs).1 = 0) {m : Nat} (hm : m ≤ xs.length) : checkE (xs.take m) = (7, m) ∨ checkE (xs.take m) = (0, 0) := by
  have h4 := (good_of h).len
  have hl : (xs.take m).length = m := by rw [List.length_take]; omega
  unfold checkE
  rw [if_neg (by omega), badF_take _ _ _ m (badF_ok h), hl]
  simp only
  split
  · exact .inl rfl
  · exact .inr rfl
end Voc
end Go.Proofs.Ytlodbhlidgepfaa
