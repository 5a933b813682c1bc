/- bpe: what follows of the rule, in plain Lean: the bytes stay; a byte that no join takes parts a row; a join that ranks behind all others. -/
import Derived.Test.YtobedpohoellkaaEWi
import Derived.Test.YtobedpohoellkaaERa
import Derived.Test.YtobedpohoellkaaFsame
set_option linter.unusedVariables false
set_option linter.unusedSimpArgs false
namespace Go.Proofs.Ytobedpohoellkaa
open Voc
namespace Bpe
theorem flatE_cons (xs : List Pc) (x : Int) (l : List Int) : flatE xs (x :: l) = expE xs x ++ flatE xs l := by simp [flatE]
theorem flatE_app (xs : List Pc) (l m : List Int) : flatE xs (l ++ m) = flatE xs l ++ flatE xs m := by simp [flatE]
theorem two_at {m : List Int} {i : Nat} (h : i + 1 < m.length) : m = m.take i ++ (m.getD i 0 :: m.getD (i + 1) 0 :: m.drop (i + 2)) := by
  have e1 : m.drop i = m.getD i 0 :: m.drop (i + 1) := by
    rw [List.drop_eq_getElem_cons (show i < m.length by omega), List.getD_eq_getElem?_getD, List.getElem?_eq_getElem (show i < m.length by omega)]; rfl
  have e2 : m.drop (i + 1) = m.getD (i + 1) 0 :: m.drop (i + 2) := by
    rw [List.drop_eq_getElem_cons h, List.getD_eq_getElem?_getD, List.getElem?_eq_getElem h]; rfl
  rw [← e2, ← e1, List.take_append_drop]
theorem flat_joined {xs : List Pc} (hc : (checkE xs).1 = 0) {m : List Int} {i t : Nat} (h : stepR xs m = some (i, t)) : flatE xs (joined m i t) = flatE xs m := by
  have hlt := stepR_lt h
  obtain ⟨_, h2, _⟩ := scan_some h
  obtain ⟨q, hq, hj, hl, hr⟩ := fndF_some xs t h2
  have he := (expE_join hc hq hj).1
  rw [hl, hr] at he
  conv => rhs; rw [two_at hlt]
  unfold joined
  rw [flatE_app, flatE_app, flatE_cons, flatE_cons, flatE_cons, he, List.append_assoc]
theorem byte_exp {xs : List Pc} (hc : (checkE xs).1 = 0) (hw : ∀ q ∈ xs, wfP q) {c : Int} (h0 : 0 ≤ c ∧ c < 256) : expE xs (tokF c xs) = [c] ∧ tokF c xs < xs.length := by
  obtain ⟨i, q, hi, hj, hb⟩ := (good_of hc).byte hw c h0.1 h0.2
  rw [tokF_good (good_of hc).inv hi hj hb, expE_byte hc hi hj, hb]
  exact ⟨rfl, (List.getElem?_eq_some_iff.1 hi).1⟩
theorem flat_row0 {xs : List Pc} (hc : (checkE xs).1 = 0) (hw : ∀ q ∈ xs, wfP q) : ∀ (bs : List Int), (∀ c ∈ bs, 0 ≤ c ∧ c < 256) → flatE xs (row0 xs bs) = bs
  | [], _ => rfl
  | c :: bs, h => by
    have ih := flat_row0 hc hw bs (fun x hx => h x (List.mem_cons_of_mem _ hx))
    have e : row0 xs (c :: bs) = (tokF c xs : Int) :: row0 xs bs := rfl
    rw [e, flatE_cons, ih, (byte_exp hc hw (h c (by simp))).1]; rfl
theorem row0_in {xs : List Pc} (hc : (checkE xs).1 = 0) (hw : ∀ q ∈ xs, wfP q) {bs : List Int} (h : ∀ c ∈ bs, 0 ≤ c ∧ c < 256) : InV xs (row0 xs bs) := by
  intro x hx
  unfold row0 at hx
  obtain ⟨c, hcm, rfl⟩ := List.mem_map.1 hx
  have := (byte_exp hc hw (h c hcm)).2
  omega
theorem flat_enc {xs : List Pc} (hc : (checkE xs).1 = 0) (m : List Int) : flatE xs (encL xs m) = flatE xs m :=
  encL_ind (xs := xs) (fun k => flatE xs k = flatE xs m) (fun k i t h hs => by rw [flat_joined hc hs, h]) m.length m (Nat.le_refl _) rfl
theorem in_any {xs : List Pc} {m : List Int} (h : InV xs m) : ¬ (m.any (badX xs) = true) := by
  rw [List.any_eq_true]
  rintro ⟨x, hx, hb⟩
  have := h x hx
  unfold badX at hb
  simp at hb
  omega
/-- what Encode gives when it gives something -/
theorem enc_ok {xs : List Pc} {bs : List Int} (h : (encE xs bs).2 = 0) : (checkE xs).1 = 0 ∧ bs.length ≤ 4096 ∧ (encE xs bs).1 = encL xs (row0 xs bs) := by
  unfold encE at h ⊢
  split at h
  · cases h
  · rename_i h1
    split at h
    · cases h
    · rename_i h2
      rw [if_neg h1, if_neg h2]
      exact ⟨Decidable.byContradiction h1, by omega, rfl⟩
theorem enc_bad {xs : List Pc} {bs : List Int} (h : (encE xs bs).2 ≠ 0) : (encE xs bs).1 = [] := by
  unfold encE at h ⊢
  split
  · rfl
  · split
    · rfl
    · rename_i h1 h2
      rw [if_neg h1, if_neg h2] at h
      exact absurd rfl h
theorem enc_back {xs : List Pc} {bs : List Int} (hw : ∀ q ∈ xs, wfP q) (hb : ∀ c ∈ bs, 0 ≤ c ∧ c < 256) (h : (encE xs bs).2 = 0) : decE xs (encE xs bs).1 = (bs, 0) := by
  obtain ⟨hc, h4, he⟩ := enc_ok h
  rw [he]
  have hf : flatE xs (encL xs (row0 xs bs)) = bs := by rw [flat_enc hc, flat_row0 hc hw bs hb]
  unfold decE
  rw [if_neg (by rw [hc]; decide), if_neg (in_any (row0_in hc hw hb).enc), hf, if_neg (by omega)]
theorem enc_none {xs : List Pc} (m : List Int) (i : Nat) (hi : i + 1 < (encL xs m).length) : fndF ((encL xs m).getD i 0) ((encL xs m).getD (i + 1) 0) xs = none :=
  scan_none (encL_end m.length m (Nat.le_refl _)) i (by omega)

/-! ### a byte that no join takes -/
section
variable {xs : List Pc} {c : Int}
theorem fnd_left (hc : ∀ q ∈ xs, q.j = true → q.l ≠ c ∧ q.r ≠ c) (r : Int) : fndF c r xs = none := by
  cases h : fndF c r xs with
  | none => rfl
  | some t =>
    obtain ⟨q, h1, h2, h3, _⟩ := fndF_some xs t h
    exact absurd h3 (hc q (List.mem_of_getElem? h1) h2).1
theorem fnd_right (hc : ∀ q ∈ xs, q.j = true → q.l ≠ c ∧ q.r ≠ c) (l : Int) : fndF l c xs = none := by
  cases h : fndF l c xs with
  | none => rfl
  | some t =>
    obtain ⟨q, h1, h2, _, h4⟩ := fndF_some xs t h
    exact absurd h4 (hc q (List.mem_of_getElem? h1) h2).2
theorem get_l (x y : List Int) (i : Nat) (h : i < x.length) : (x ++ c :: y).getD i 0 = x.getD i 0 := by
  rw [List.getD_eq_getElem?_getD, List.getD_eq_getElem?_getD, List.getElem?_append_left h]
theorem get_c (x y : List Int) : (x ++ c :: y).getD x.length 0 = c := by
  rw [List.getD_eq_getElem?_getD, List.getElem?_append_right (Nat.le_refl _), Nat.sub_self]; rfl
theorem get_r (x y : List Int) (j : Nat) : (x ++ c :: y).getD (x.length + 1 + j) 0 = y.getD j 0 := by
  rw [List.getD_eq_getElem?_getD, List.getD_eq_getElem?_getD, List.getElem?_append_right (by omega), show x.length + 1 + j - x.length = j + 1 by omega]; rfl
theorem fnd_in_l (x y : List Int) (i : Nat) (h : i + 1 < x.length) : fndAt xs (x ++ c :: y) i = fndAt xs x i := by
  unfold fndAt; rw [get_l x y i (by omega), get_l x y (i + 1) h]
theorem fnd_in_r (x y : List Int) (j : Nat) : fndAt xs (x ++ c :: y) (x.length + 1 + j) = fndAt xs y j := by
  unfold fndAt; rw [get_r x y j, show x.length + 1 + j + 1 = x.length + 1 + (j + 1) by omega, get_r x y (j + 1)]
/-- where a pair that can be joined lies -/
theorem fnd_where (hc : ∀ q ∈ xs, q.j = true → q.l ≠ c ∧ q.r ≠ c) (x y : List Int) {k t : Nat} (h : fndAt xs (x ++ c :: y) k = some t) : (k + 1 < x.length) ∨ ∃ j, k = x.length + 1 + j := by
  by_cases h1 : k + 1 < x.length
  · exact Or.inl h1
  · by_cases h2 : x.length + 1 ≤ k
    · exact Or.inr ⟨k - x.length - 1, by omega⟩
    · exfalso
      unfold fndAt at h
      by_cases h3 : k = x.length
      · rw [h3, get_c x y, fnd_left hc] at h; cases h
      · rw [show k + 1 = x.length by omega, get_c x y, fnd_right hc] at h; cases h
theorem step_split (hc : ∀ q ∈ xs, q.j = true → q.l ≠ c ∧ q.r ≠ c) (x y : List Int) {k t : Nat} (h : stepR xs (x ++ c :: y) = some (k, t)) :
    (stepR xs x = some (k, t)) ∨ ∃ j, k = x.length + 1 + j ∧ stepR xs y = some (j, t) := by
  obtain ⟨h1, h2, h3⟩ := scan_some h
  rw [List.length_append, List.length_cons] at h1 h3
  rcases fnd_where hc x y h2 with hk | ⟨j, rfl⟩
  · left
    rw [fnd_in_l x y k hk] at h2
    refine scan_of ⟨by omega, h2, fun i' t' hi' ht' => h3 i' t' (by omega) (by rw [fnd_in_l x y i' (by omega)]; exact ht')⟩
  · right
    rw [fnd_in_r] at h2
    refine ⟨j, rfl, scan_of ⟨by omega, h2, fun i' t' hi' ht' => ?_⟩⟩
    have := h3 (x.length + 1 + i') t' (by omega) (by rw [fnd_in_r]; exact ht')
    exact ⟨this.1, fun hlt => this.2 (by omega)⟩
theorem step_split_none (x y : List Int) (h : stepR xs (x ++ c :: y) = none) : stepR xs x = none ∧ stepR xs y = none := by
  have h' := scan_none h
  rw [List.length_append, List.length_cons] at h'
  refine ⟨scan_of_none fun i hi => ?_, scan_of_none fun j hj => ?_⟩
  · rw [← fnd_in_l (c := c) x y i (by omega)]; exact h' i (by omega)
  · rw [← fnd_in_r (c := c) x y j]; exact h' _ (by omega)
theorem joined_l (x y : List Int) {k t : Nat} (h : k + 1 < x.length) : joined (x ++ c :: y) k t = joined x k t ++ c :: y := by
  unfold joined
  rw [List.take_append_of_le_length (by omega), List.drop_append_of_le_length (by omega), List.append_assoc]; rfl
theorem joined_r (x y : List Int) (j t : Nat) : joined (x ++ c :: y) (x.length + 1 + j) t = x ++ c :: joined y j t := by
  unfold joined
  have e1 : (x ++ c :: y).take (x.length + 1 + j) = x ++ c :: y.take j := by
    rw [List.take_append, show x.length + 1 + j - x.length = j + 1 by omega, List.take_of_length_le (by omega)]; rfl
  have e2 : (x ++ c :: y).drop (x.length + 1 + j + 2) = y.drop (j + 2) := by
    rw [List.drop_append, show x.length + 1 + j + 2 - x.length = (j + 2) + 1 by omega, List.drop_of_length_le (by omega)]; rfl
  rw [e1, e2, List.append_assoc]; rfl
theorem encL_split (hc : ∀ q ∈ xs, q.j = true → q.l ≠ c ∧ q.r ≠ c) : ∀ (n : Nat) (x y : List Int), x.length + y.length ≤ n → encL xs (x ++ c :: y) = encL xs x ++ c :: encL xs y
  | 0, x, y, h => by
    have hx : x = [] := List.eq_nil_of_length_eq_zero (by omega)
    have hy : y = [] := List.eq_nil_of_length_eq_zero (by omega)
    subst hx hy
    rfl
  | n + 1, x, y, h => by
    cases hs : stepR xs (x ++ c :: y) with
    | none =>
      obtain ⟨h1, h2⟩ := step_split_none x y hs
      rw [encL_none hs, encL_none h1, encL_none h2]
    | some kt =>
      obtain ⟨k, t⟩ := kt
      rw [encL_step hs]
      rcases step_split hc x y hs with h1 | ⟨j, rfl, h1⟩
      · have hlt := stepR_lt h1
        have hl := joined_len (t := t) hlt
        rw [joined_l x y hlt, encL_split hc n _ y (by omega), encL_step h1]
      · have hlt := stepR_lt h1
        have hl := joined_len (t := t) hlt
        rw [joined_r, encL_split hc n x _ (by omega), encL_step h1]
end

/-! ### a join that ranks behind all others -/
section
variable {xs : List Pc} {q : Pc}
theorem fndF_snoc (l r : Int) : ∀ (xs : List Pc), fndF l r (xs ++ [q]) = match fndF l r xs with | some t => some t | none => if q.j = true ∧ q.l = l ∧ q.r = r then some xs.length else none
  | [] => by simp only [List.nil_append, fndF, Option.map_none]; rfl
  | p :: xs => by
    simp only [List.cons_append, fndF]
    by_cases h : p.j = true ∧ p.l = l ∧ p.r = r
    · rw [if_pos h, if_pos h]
    · rw [if_neg h, if_neg h, fndF_snoc l r xs]
      cases fndF l r xs with
      | some t => rfl
      | none =>
        simp only [Option.map_none]
        split
        · rfl
        · rfl
theorem rk_snoc {t : Nat} (h : t < xs.length) : rk (xs ++ [q]) t = rk xs t := by unfold rk; rw [List.getElem?_append_left h]
theorem rk_last : rk (xs ++ [q]) xs.length = q.k := by unfold rk; rw [List.getElem?_append_right (Nat.le_refl _), Nat.sub_self]; rfl
theorem rk_le {b : Int} (h : ∀ p ∈ xs, p.k ≤ b) {t : Nat} (ht : t < xs.length) : rk xs t ≤ b := by
  unfold rk; rw [List.getElem?_eq_getElem ht]; exact h _ (List.getElem_mem ht)
theorem step_more (h : ∀ p ∈ xs, p.k < q.k) {m : List Int} {i t : Nat} (hs : stepR xs m = some (i, t)) : stepR (xs ++ [q]) m = some (i, t) := by
  obtain ⟨h1, h2, h3⟩ := scan_some hs
  have htl := fndAt_lt h2
  refine scan_of ⟨h1, ?_, fun i' t' hi' ht' => ?_⟩
  · unfold fndAt at h2 ⊢
    rw [fndF_snoc, h2]
  · rw [rk_snoc htl]
    unfold fndAt at ht'
    rw [fndF_snoc] at ht'
    cases hf : fndF (m.getD i' 0) (m.getD (i' + 1) 0) xs with
    | some u =>
      rw [hf] at ht'
      injection ht' with ht'
      subst ht'
      have hul := fndAt_lt (l := m) (i := i') hf
      rw [rk_snoc hul]
      exact h3 i' u hi' hf
    | none =>
      rw [hf] at ht'
      simp only at ht'
      split at ht'
      · injection ht' with ht'
        subst ht'
        rw [rk_last]
        have h4 : rk xs t < q.k := by unfold rk; rw [List.getElem?_eq_getElem htl]; exact h _ (List.getElem_mem htl)
        exact ⟨by omega, fun _ => h4⟩
      · cases ht'
theorem encL_more (h : ∀ p ∈ xs, p.k < q.k) (m : List Int) : encL (xs ++ [q]) m = encL (xs ++ [q]) (encL xs m) := by
  have := encL_ind (xs := xs) (fun k => encL (xs ++ [q]) m = encL (xs ++ [q]) k) (fun k i t hk hs => by rw [hk, encL_step (step_more h hs)]) m.length m (Nat.le_refl _) rfl
  exact this
theorem encL_same (h : ∀ p ∈ xs, p.k < q.k) (m : List Int) (hno : ∀ i, i + 1 < (encL xs m).length → ¬ (q.l = (encL xs m).getD i 0 ∧ q.r = (encL xs m).getD (i + 1) 0)) : encL (xs ++ [q]) m = encL xs m := by
  rw [encL_more h, encL_none]
  refine scan_of_none fun i hi => ?_
  unfold fndAt
  rw [fndF_snoc, enc_none m i (by omega)]
  simp only
  rw [if_neg (fun h' => hno i (by omega) ⟨h'.2.1, h'.2.2⟩)]
theorem encL_fewer (h : ∀ p ∈ xs, p.k < q.k) (hj : q.j = true) (m : List Int) (i : Nat) (hi : i + 1 < (encL xs m).length) (hp : q.l = (encL xs m).getD i 0 ∧ q.r = (encL xs m).getD (i + 1) 0) : (encL (xs ++ [q]) m).length < (encL xs m).length := by
  rw [encL_more h]
  cases hs : stepR (xs ++ [q]) (encL xs m) with
  | none =>
    have := scan_none hs i (by omega)
    unfold fndAt at this
    rw [fndF_snoc, enc_none m i hi] at this
    simp only at this
    rw [if_pos ⟨hj, hp.1, hp.2⟩] at this
    cases this
  | some kt =>
    obtain ⟨k, t⟩ := kt
    rw [encL_step hs]
    have hlt := stepR_lt hs
    have := encL_le (xs := xs ++ [q]) (joined (encL xs m) k t)
    rw [joined_len hlt] at this
    omega
theorem tokF_snoc {c : Int} : ∀ (xs : List Pc), tokF c xs < xs.length → tokF c (xs ++ [q]) = tokF c xs
  | [], h => by simp [tokF] at h
  | p :: xs, h => by
    simp only [List.cons_append, tokF] at h ⊢
    split
    · rfl
    · rename_i h'
      rw [if_neg h'] at h
      rw [tokF_snoc xs (by simpa using h)]
theorem row0_snoc (hc : (checkE xs).1 = 0) (hw : ∀ q ∈ xs, wfP q) {bs : List Int} (hb : ∀ c ∈ bs, 0 ≤ c ∧ c < 256) : row0 (xs ++ [q]) bs = row0 xs bs := by
  unfold row0
  apply List.map_congr_left
  intro c hcm
  rw [tokF_snoc xs (byte_exp hc hw (hb c hcm)).2]
end
end Bpe
end Go.Proofs.Ytobedpohoellkaa

namespace Go.Proofs.Ytobedpohoellkaa
open Go.RowKit
open Voc Bpe
theorem bs_in {l : List Int} (h : ∀ x ∈ l, (Lit.int .u8 x).wf = true) : ∀ c ∈ l, 0 ≤ c ∧ c < 256 := fun c hc => u8_in (h c hc)
theorem encE_eq (xs : List Pc) (bs : List Int) : rencE xs bs = encE xs bs := by rw [renc_eq]; rfl
theorem begin_len (xs : List Pc) (bs : List Int) : (beginE xs bs).1.length ≤ bs.length := by
  unfold beginE
  split
  · exact Nat.zero_le _
  · split
    · exact Nat.zero_le _
    · rw [row0_len]; exact Nat.le_refl _
theorem enc_len (xs : List Pc) (bs : List Int) : (encE xs bs).1.length ≤ bs.length := by
  unfold encE
  split
  · exact Nat.zero_le _
  · split
    · exact Nat.zero_le _
    · have := encL_le (xs := xs) (row0 xs bs); rw [row0_len] at this; exact this
theorem dec_len (xs : List Pc) (l : List Int) : (decE xs l).1.length ≤ 4096 := by
  unfold decE
  split
  · exact Nat.zero_le _
  · split
    · exact Nat.zero_le _
    · split
      · exact Nat.zero_le _
      · simp only; omega
end Go.Proofs.Ytobedpohoellkaa
