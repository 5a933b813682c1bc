/- leb: numbers of unlike lengths, in plain Lean. -/
import Derived.Test.YtmjpghaggnpdbaaLib
set_option linter.unusedVariables false
set_option linter.unusedSimpArgs false
namespace Go.Proofs.Ytmjpghaggnpdbaa
open Go.RowKit
namespace Leb
/-- a number's bytes -/
def putN : Nat → Nat → List Int
  | 0, _ => []
  | f + 1, n => if n < 128 then [(n : Int)] else ((n % 128 + 128 : Nat) : Int) :: putN f (n / 128)
def putL (n : Nat) : List Int := putN 10 n
theorem putN_len : ∀ (f n : Nat), (putN f n).length ≤ f
  | 0, n => by simp [putN]
  | f + 1, n => by
    simp only [putN]
    split
    · simp
    · rw [List.length_cons]; have := putN_len f (n / 128); omega
theorem putL_len (n : Nat) : (putL n).length ≤ 10 := putN_len 10 n
theorem putN_pos (f n : Nat) : 1 ≤ (putN (f + 1) n).length := by
  simp only [putN]
  split <;> simp
theorem putN_more : ∀ (f n : Nat), n < 128 ^ (f + 1) → putN (f + 2) n = putN (f + 1) n
  | 0, n, h => by
    simp only [putN]
    have : n < 128 := by simpa using h
    rw [if_pos this, if_pos this]
  | f + 1, n, h => by
    have h2 : n / 128 < 128 ^ (f + 1) := by
      rw [Nat.div_lt_iff_lt_mul (by omega)]
      rw [Nat.pow_succ] at h
      exact h
    have := putN_more f (n / 128) h2
    simp only [putN] at this ⊢
    split
    · rfl
    · rw [this]
theorem putN_byte : ∀ (f n : Nat), ∀ c ∈ putN f n, 0 ≤ c ∧ c < 256
  | 0, n, c, h => by simp [putN] at h
  | f + 1, n, c, h => by
    simp only [putN] at h
    split at h
    · simp at h; omega
    · rcases List.mem_cons.1 h with e | e
      · omega
      · exact putN_byte f _ c e
/-- the sum of the first i digits -/
def accF (l : List Int) : Nat → Nat
  | 0 => 0
  | i + 1 => accF l i + ((l.getD i 0).toNat % 128) * 128 ^ i
/-- how many of the first f bytes go on -/
def runN : Nat → List Int → Nat
  | 0, _ => 0
  | _, [] => 0
  | f + 1, c :: l => if 128 ≤ c then runN f l + 1 else 0
def bad (c : Int) (k : Nat) : Prop := (k = 9 ∧ 1 < c) ∨ (0 < k ∧ c = 0)
instance (c : Int) (k : Nat) : Decidable (bad c k) := by unfold bad; infer_instance
/-- the number at a list's head; of how many bytes; what is wrong -/
def lebE (l : List Int) : Nat × Nat × Int :=
  if runN 9 l = l.length then (0, 0, 4) else if bad (l.getD (runN 9 l) 0) (runN 9 l) then (0, 0, 5) else (accF l (runN 9 l + 1), runN 9 l + 1, 0)
theorem runN_le : ∀ (f : Nat) (l : List Int), runN f l ≤ f ∧ runN f l ≤ l.length
  | 0, l => by simp [runN]
  | f + 1, [] => by simp [runN]
  | f + 1, c :: l => by
    have := runN_le f l
    simp only [runN]
    split
    · rw [List.length_cons]; omega
    · simp
theorem runN_at : ∀ (f : Nat) (l : List Int) (i : Nat), i < runN f l → 128 ≤ l.getD i 0
  | 0, l, i, h => by simp [runN] at h
  | f + 1, [], i, h => by simp [runN] at h
  | f + 1, c :: l, i, h => by
    simp only [runN] at h
    split at h
    · rename_i hc
      cases i with
      | zero => simpa using hc
      | succ i => simpa using runN_at f l i (by omega)
    · omega
theorem runN_end : ∀ (f : Nat) (l : List Int), runN f l < f → runN f l < l.length → l.getD (runN f l) 0 < 128
  | 0, l, h, _ => by omega
  | f + 1, [], h, h2 => by simp at h2
  | f + 1, c :: l, h, h2 => by
    simp only [runN] at h h2 ⊢
    split
    · rename_i hc
      rw [if_pos hc] at h h2
      simpa using runN_end f l (by omega) (by simpa using h2)
    · rename_i hc
      simpa using hc
/-- i bytes go on, and there is no more than i -/
theorem runN_eq {f : Nat} {l : List Int} {i : Nat} (h1 : ∀ j, j < i → 128 ≤ l.getD j 0) (hi : i ≤ f) (hl : i ≤ l.length) (h2 : i < f → i < l.length → l.getD i 0 < 128) : runN f l = i := by
  rcases Nat.lt_trichotomy (runN f l) i with h | h | h
  · have := h1 _ h
    have := runN_end f l (by omega) (by omega)
    omega
  · exact h
  · have h3 := runN_at f l i h
    have h4 := runN_le f l
    have := h2 (by omega) (by omega)
    omega
theorem accF_lt (l : List Int) : ∀ i, accF l i < 128 ^ i
  | 0 => by simp [accF]
  | i + 1 => by
    have h := accF_lt l i
    have h2 : (l.getD i 0).toNat % 128 ≤ 127 := by omega
    simp only [accF]
    rw [Nat.pow_succ]
    have : ((l.getD i 0).toNat % 128) * 128 ^ i ≤ 127 * 128 ^ i := Nat.mul_le_mul_right _ h2
    omega
theorem accF_app (l r : List Int) : ∀ i, i ≤ l.length → accF (l ++ r) i = accF l i
  | 0, _ => rfl
  | i + 1, h => by
    simp only [accF]
    rw [accF_app l r i (by omega), List.getD_eq_getElem?_getD, List.getD_eq_getElem?_getD, List.getElem?_append_left (by omega)]
theorem accF_cons (c : Int) (l : List Int) : ∀ i, accF (c :: l) (i + 1) = c.toNat % 128 + 128 * accF l i
  | 0 => by simp [accF]
  | i + 1 => by
    have h := accF_cons c l i
    simp only [accF] at h ⊢
    rw [h]
    simp only [List.getD_cons_succ]
    rw [Nat.mul_add, Nat.pow_succ, Nat.mul_left_comm 128, Nat.mul_comm 128 (128 ^ i), Nat.add_assoc]
/-- what is put is read -/
theorem putN_read : ∀ (f n : Nat) (r : List Int), n < 128 ^ (f + 1) → ∃ k, (putN (f + 1) n).length = k + 1 ∧ (∀ j, j < k → 128 ≤ (putN (f + 1) n ++ r).getD j 0) ∧ (putN (f + 1) n ++ r).getD k 0 < 128 ∧ accF (putN (f + 1) n ++ r) (k + 1) = n ∧ (0 < k → (putN (f + 1) n ++ r).getD k 0 ≠ 0) ∧ k ≤ f ∧ 0 ≤ (putN (f + 1) n ++ r).getD k 0
  | 0, n, r, h => by
    have h1 : n < 128 := by simpa using h
    refine ⟨0, ?_, fun j hj => by omega, ?_, ?_, fun h => by omega, Nat.le_refl _, ?_⟩
    · simp [putN, h1]
    · simp [putN, h1]; omega
    · simp [putN, h1, accF]
    · simp [putN, h1]
  | f + 1, n, r, h => by
    have h2 : n / 128 < 128 ^ (f + 1) := by
      rw [Nat.div_lt_iff_lt_mul (by omega)]
      rw [Nat.pow_succ] at h
      exact h
    by_cases h1 : n < 128
    · have e : putN (f + 1 + 1) n = [(n : Int)] := by simp only [putN]; rw [if_pos h1]
      rw [e]
      refine ⟨0, rfl, fun j hj => by omega, ?_, ?_, fun h => by omega, Nat.zero_le _, ?_⟩
      · simp; omega
      · simp [accF]; omega
      · simp
    · obtain ⟨k, a1, a2, a3, a4, a5, a6, a7⟩ := putN_read f (n / 128) r h2
      have e : putN (f + 1 + 1) n = ((n % 128 + 128 : Nat) : Int) :: putN (f + 1) (n / 128) := by
        rw [putN, if_neg h1]
      rw [e]
      refine ⟨k + 1, by rw [List.length_cons, a1], fun j hj => ?_, ?_, ?_, fun _ => ?_, by omega, ?_⟩
      · cases j with
        | zero => simp; omega
        | succ j => simpa using a2 j (by omega)
      · simpa using a3
      · rw [List.cons_append, accF_cons, a4]
        simp only [Int.toNat_natCast]
        omega
      · rw [List.cons_append, List.getD_cons_succ]
        rcases Nat.eq_zero_or_pos k with h0 | h0
        · subst h0
          have hk : (putN (f + 1) (n / 128)).length = 1 := a1
          simp only [accF] at a4
          simp at a4 a3 a7 ⊢
          omega
        · exact a5 h0
      · simpa using a7
theorem lebE_put (n : Nat) (hn : n < 2 ^ 64) (r : List Int) : lebE (putL n ++ r) = (n, (putL n).length, 0) := by
  have h70 : n < 128 ^ (9 + 1) := by
    have : (2 : Nat) ^ 64 < 128 ^ 10 := by decide
    omega
  obtain ⟨k, a1, a2, a3, a4, a5, a6, a7⟩ := putN_read 9 n r h70
  have hk : runN 9 (putL n ++ r) = k := runN_eq a2 a6 (by rw [List.length_append]; have : (putL n).length = k + 1 := a1; omega) (fun _ _ => a3)
  unfold lebE
  rw [hk, if_neg (by rw [List.length_append]; have : (putL n).length = k + 1 := a1; omega)]
  have hl : (putL n).length = k + 1 := a1
  rw [hl]
  have hnb : ¬ bad ((putL n ++ r).getD k 0) k := by
    unfold bad
    rintro (⟨h9, hc⟩ | ⟨h0, hc⟩)
    · subst h9
      have hb : accF (putL n ++ r) 10 = accF (putL n ++ r) 9 + (((putL n ++ r).getD 9 0).toNat % 128) * 128 ^ 9 := rfl
      have e : accF (putL n ++ r) 10 = n := a4
      have a3' : (putL n ++ r).getD 9 0 < 128 := a3
      have hge : 2 * 128 ^ 9 ≤ (((putL n ++ r).getD 9 0).toNat % 128) * 128 ^ 9 := Nat.mul_le_mul_right _ (by omega)
      have h64 : (2 : Nat) * 128 ^ 9 = 2 ^ 64 := by decide
      omega
    · exact a5 h0 hc
  rw [if_neg hnb]
  have e : accF (putL n ++ r) (k + 1) = n := a4
  rw [e]
theorem putL_read {l : List Int} (hb : ∀ c ∈ l, 0 ≤ c ∧ c < 256) {n k : Nat} (h : lebE l = (n, k, 0)) : l.take k = putL n ∧ k ≤ l.length ∧ n < 2 ^ 64 ∧ 1 ≤ k := by
  unfold lebE at h
  split at h
  · cases h
  rename_i h1
  split at h
  · cases h
  rename_i h2
  have hle := runN_le 9 l
  generalize hr : runN 9 l = r at h h1 h2 hle
  injection h with e1 e2
  injection e2 with e2 _
  subst e2
  have hat := runN_at 9 l
  have hend := runN_end 9 l
  rw [hr] at hat hend
  have hlt : r < l.length := by omega
  have hcb : 0 ≤ l.getD r 0 ∧ l.getD r 0 < 256 := by rw [List.getD_eq_getElem?_getD, List.getElem?_eq_getElem hlt]; exact hb _ (List.getElem_mem hlt)
  have hc : l.getD r 0 < 128 := by
    rcases Nat.lt_or_ge r 9 with h9 | h9
    · exact hend h9 hlt
    · have : r = 9 := by omega
      unfold bad at h2
      omega
  have key : ∀ (r f : Nat) (l : List Int), r < l.length → r ≤ f → (∀ i, i < r → 128 ≤ l.getD i 0) → l.getD r 0 < 128 → (0 < r → l.getD r 0 ≠ 0) → (∀ c ∈ l, 0 ≤ c ∧ c < 256) → l.take (r + 1) = putN (f + 1) (accF l (r + 1)) := by
    intro r
    induction r with
    | zero =>
      intro f l hl hf h1 h2 h3 hb
      match l, hl with
      | c :: l, _ =>
        have hc := hb c (by simp)
        simp at h2
        have e : accF (c :: l) (0 + 1) = c.toNat := by simp [accF]; omega
        rw [e]
        simp only [putN]
        rw [if_pos (by omega)]
        simp
        omega
    | succ r ih =>
      intro f l hl hf h1 h2 h3 hb
      match l, hl with
      | c :: l, hl =>
        obtain ⟨f, rfl⟩ : ∃ g, f = g + 1 := ⟨f - 1, by omega⟩
        have hc := hb c (by simp)
        have hc1 := h1 0 (by omega)
        simp at hc1
        have hpos : 0 < accF l (r + 1) := by
          rcases Nat.eq_zero_or_pos (accF l (r + 1)) with h0 | h0
          · exfalso
            simp only [accF] at h0
            have h5 : (l.getD r 0).toNat % 128 * 128 ^ r = 0 := by omega
            have h6 : 0 < 128 ^ r := Nat.pow_pos (by omega)
            rcases Nat.mul_eq_zero.1 h5 with h7 | h7
            · have h8 := h3 (by omega)
              simp only [List.getD_cons_succ] at h2 h8
              have h9 : 0 ≤ l.getD r 0 := by
                rw [List.getD_eq_getElem?_getD, List.getElem?_eq_getElem (by simpa using hl)]
                exact (hb _ (List.mem_cons_of_mem _ (List.getElem_mem _))).1
              omega
            · omega
          · exact h0
        have := ih f l (by simpa using hl) (by omega) (fun i hi => by have := h1 (i + 1) (by omega); simpa using this) (by simpa using h2) (fun h0 => by
          have := h3 (by omega)
          simpa using this) (fun c hc => hb c (List.mem_cons_of_mem _ hc))
        rw [accF_cons, List.take_succ_cons, this]
        rw [show putN (f + 1 + 1) (c.toNat % 128 + 128 * accF l (r + 1)) = (((c.toNat % 128 + 128 * accF l (r + 1)) % 128 + 128 : Nat) : Int) :: putN (f + 1) ((c.toNat % 128 + 128 * accF l (r + 1)) / 128) from by rw [putN, if_neg (by omega)]]
        congr 1
        · omega
        · congr 1; omega
  refine ⟨?_, by omega, ?_, by omega⟩
  · rw [← e1]
    exact key r 9 l hlt (by omega) hat hc (fun h0 hc0 => h2 (Or.inr ⟨h0, hc0⟩)) hb
  · rw [← e1]
    rcases Nat.lt_or_ge r 9 with h9 | h9
    · have := accF_lt l (r + 1)
      have h2 : 128 ^ (r + 1) ≤ 128 ^ 9 := Nat.pow_le_pow_right (by omega) (by omega)
      have h3 : (128 : Nat) ^ 9 = 2 ^ 63 := by decide
      omega
    · have : r = 9 := by omega
      subst this
      have h1 := accF_lt l 9
      have h3 : (128 : Nat) ^ 9 = 2 ^ 63 := by decide
      unfold bad at h2
      have hc1 : l.getD 9 0 ≤ 1 := by omega
      simp only [accF] at h1 ⊢
      have h4 : (l.getD 9 0).toNat % 128 * 128 ^ 9 ≤ 1 * 128 ^ 9 := Nat.mul_le_mul_right _ (by omega)
      omega
end Leb
end Go.Proofs.Ytmjpghaggnpdbaa
