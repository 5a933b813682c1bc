/- leb: numbers of unlike lengths, in plain Lean. crc, in plain Lean. Bits of unsigned numbers, as natural numbers. No program. vocfile: a vocabulary's file, in plain Lean. -/
import Derived.Test.YtlodbhlidgepfaaLib
import Derived.Test.YtlodbhlidgepfaaVTa
set_option linter.unusedVariables false
set_option linter.unusedSimpArgs false
namespace Go.Proofs.Ytlodbhlidgepfaa
open Go.RowKit
namespace Leb
/-- a number's bytes -/
def putN : Nat → Nat → List Int
  | 0, _ => []
  | f + 1, n => if n < 128 then [(n : Int)] else ((n % 128 + 128 : Nat) : Int) :: putN f (n / 128)
def putL (n : Nat) : List Int := putN 10 n
theorem putN_len : ∀ (f n : Nat), (putN f n).length ≤ f
  | 0, n => by simp [putN]
  | f + 1, n => by
    simp only [putN]
    split
    · simp
    · rw [List.length_cons]; have := putN_len f (n / 128); omega
theorem putL_len (n : Nat) : (putL n).length ≤ 10 := putN_len 10 n
theorem putN_pos (f n : Nat) : 1 ≤ (putN (f + 1) n).length := by
  simp only [putN]
  split <;> simp
theorem putN_more : ∀ (f n : Nat), n < 128 ^ (f + 1) → putN (f + 2) n = putN (f + 1) n
  | 0, n, h => by
    simp only [putN]
    have : n < 128 := by simpa using h
    rw [if_pos this, if_pos this]
  | f + 1, n, h => by
    have h2 : n / 128 < 128 ^ (f + 1) := by
      rw [Nat.div_lt_iff_lt_mul (by omega)]
      rw [Nat.pow_succ] at h
      exact h
    have := putN_more f (n / 128) h2
    simp only [putN] at this ⊢
    split
    · rfl
    · rw [this]
theorem putN_byte : ∀ (f n : Nat), ∀ c ∈ putN f n, 0 ≤ c ∧ c < 256
  | 0, n, c, h => by simp [putN] at h
  | f + 1, n, c, h => by
    simp only [putN] at h
    split at h
    · simp at h; omega
    · rcases List.mem_cons.1 h with e | e
      · omega
      · exact putN_byte f _ c e
/-- the sum of the first i digits -/
def accF (l : List Int) : Nat → Nat
  | 0 => 0
  | i + 1 => accF l i + ((l.getD i 0).toNat % 128) * 128 ^ i
/-- how many of the first f bytes go on -/
def runN : Nat → List Int → Nat
  | 0, _ => 0
  | _, [] => 0
  | f + 1, c :: l => if 128 ≤ c then runN f l + 1 else 0
def bad (c : Int) (k : Nat) : Prop := (k = 9 ∧ 1 < c) ∨ (0 < k ∧ c = 0)
instance (c : Int) (k : Nat) : Decidable (bad c k) := by unfold bad; infer_instance
/-- the number at a list's head; of how many bytes; what is wrong -/
def lebE (l : List Int) : Nat × Nat × Int :=
  if runN 9 l = l.length then (0, 0, 4) else if bad (l.getD (runN 9 l) 0) (runN 9 l) then (0, 0, 5) else (accF l (runN 9 l + 1), runN 9 l + 1, 0)
theorem runN_le : ∀ (f : Nat) (l : List Int), runN f l ≤ f ∧ runN f l ≤ l.length
  | 0, l => by simp [runN]
  | f + 1, [] => by simp [runN]
  | f + 1, c :: l => by
    have := runN_le f l
    simp only [runN]
    split
    · rw [List.length_cons]; omega
    · simp
theorem runN_at : ∀ (f : Nat) (l : List Int) (i : Nat), i < runN f l → 128 ≤ l.getD i 0
  | 0, l, i, h => by simp [runN] at h
  | f + 1, [], i, h => by simp [runN] at h
  | f + 1, c :: l, i, h => by
    simp only [runN] at h
    split at h
    · rename_i hc
      cases i with
      | zero => simpa using hc
      | succ i => simpa using runN_at f l i (by omega)
    · omega
theorem runN_end : ∀ (f : Nat) (l : List Int), runN f l < f → runN f l < l.length → l.getD (runN f l) 0 < 128
  | 0, l, h, _ => by omega
  | f + 1, [], h, h2 => by simp at h2
  | f + 1, c :: l, h, h2 => by
    simp only [runN] at h h2 ⊢
    split
    · rename_i hc
      rw [if_pos hc] at h h2
      simpa using runN_end f l (by omega) (by simpa using h2)
    · rename_i hc
      simpa using hc
/-- i bytes go on, and there is no more than i -/
theorem runN_eq {f : Nat} {l : List Int} {i : Nat} (h1 : ∀ j, j < i → 128 ≤ l.getD j 0) (hi : i ≤ f) (hl : i ≤ l.length) (h2 : i < f → i < l.length → l.getD i 0 < 128) : runN f l = i := by
  rcases Nat.lt_trichotomy (runN f l) i with h | h | h
  · have := h1 _ h
    have := runN_end f l (by omega) (by omega)
    omega
  · exact h
  · have h3 := runN_at f l i h
    have h4 := runN_le f l
    have := h2 (by omega) (by omega)
    omega
theorem accF_lt (l : List Int) : ∀ i, accF l i < 128 ^ i
  | 0 => by simp [accF]
  | i + 1 => by
    have h := accF_lt l i
    have h2 : (l.getD i 0).toNat % 128 ≤ 127 := by omega
    simp only [accF]
    rw [Nat.pow_succ]
    have : ((l.getD i 0).toNat % 128) * 128 ^ i ≤ 127 * 128 ^ i := Nat.mul_le_mul_right _ h2
    omega
theorem accF_app (l r : List Int) : ∀ i, i ≤ l.length → accF (l ++ r) i = accF l i
  | 0, _ => rfl
  | i + 1, h => by
    simp only [accF]
    rw [accF_app l r i (by omega), List.getD_eq_getElem?_getD, List.getD_eq_getElem?_getD, List.getElem?_append_left (by omega)]
theorem accF_cons (c : Int) (l : List Int) : ∀ i, accF (c :: l) (i + 1) = c.toNat % 128 + 128 * accF l i
  | 0 => by simp [accF]
  | i + 1 => by
    have h := accF_cons c l i
    simp only [accF] at h ⊢
    rw [h]
    simp only [List.getD_cons_succ]
    rw [Nat.mul_add, Nat.pow_succ, Nat.mul_left_comm 128, Nat.mul_comm 128 (128 ^ i), Nat.add_assoc]
/-- what is put is read -/
theorem putN_read : ∀ (f n : Nat) (r : List Int), n < 128 ^ (f + 1) → ∃ k, (putN (f + 1) n).length = k + 1 ∧ (∀ j, j < k → 128 ≤ (putN (f + 1) n ++ r).getD j 0) ∧ (putN (f + 1) n ++ r).getD k 0 < 128 ∧ accF (putN (f + 1) n ++ r) (k + 1) = n ∧ (0 < k → (putN (f + 1) n ++ r).getD k 0 ≠ 0) ∧ k ≤ f ∧ 0 ≤ (putN (f + 1) n ++ r).getD k 0
  | 0, n, r, h => by
    have h1 : n < 128 := by simpa using h
    refine ⟨0, ?_, fun j hj => by omega, ?_, ?_, fun h => by omega, Nat.le_refl _, ?_⟩
    · simp [putN, h1]
    · simp [putN, h1]; omega
    · simp [putN, h1, accF]
    · simp [putN, h1]
  | f + 1, n, r, h => by
    have h2 : n / 128 < 128 ^ (f + 1) := by
      rw [Nat.div_lt_iff_lt_mul (by omega)]
      rw [Nat.pow_succ] at h
      exact h
    by_cases h1 : n < 128
    · have e : putN (f + 1 + 1) n = [(n : Int)] := by simp only [putN]; rw [if_pos h1]
      rw [e]
      refine ⟨0, rfl, fun j hj => by omega, ?_, ?_, fun h => by omega, Nat.zero_le _, ?_⟩
      · simp; omega
      · simp [accF]; omega
      · simp
    · obtain ⟨k, a1, a2, a3, a4, a5, a6, a7⟩ := putN_read f (n / 128) r h2
      have e : putN (f + 1 + 1) n = ((n % 128 + 128 : Nat) : Int) :: putN (f + 1) (n / 128) := by
        rw [putN, if_neg h1]
      rw [e]
      refine ⟨k + 1, by rw [List.length_cons, a1], fun j hj => ?_, ?_, ?_, fun _ => ?_, by omega, ?_⟩
      · cases j with
        | zero => simp; omega
        | succ j => simpa using a2 j (by omega)
      · simpa using a3
      · rw [List.cons_append, accF_cons, a4]
        simp only [Int.toNat_natCast]
        omega
      · rw [List.cons_append, List.getD_cons_succ]
        rcases Nat.eq_zero_or_pos k with h0 | h0
        · subst h0
          have hk : (putN (f + 1) (n / 128)).length = 1 := a1
          simp only [accF] at a4
          simp at a4 a3 a7 ⊢
          omega
        · exact a5 h0
      · simpa using a7
theorem lebE_put (n : Nat) (hn : n < 2 ^ 64) (r : List Int) : lebE (putL n ++ r) = (n, (putL n).length, 0) := by
  have h70 : n < 128 ^ (9 + 1) := by
    have : (2 : Nat) ^ 64 < 128 ^ 10 := by decide
    omega
  obtain ⟨k, a1, a2, a3, a4, a5, a6, a7⟩ := putN_read 9 n r h70
  have hk : runN 9 (putL n ++ r) = k := runN_eq a2 a6 (by rw [List.length_append]; have : (putL n).length = k + 1 := a1; omega) (fun _ _ => a3)
  unfold lebE
  rw [hk, if_neg (by rw [List.length_append]; have : (putL n).length = k + 1 := a1; omega)]
  have hl : (putL n).length = k + 1 := a1
  rw [hl]
  have hnb : ¬ bad ((putL n ++ r).getD k 0) k := by
    unfold bad
    rintro (⟨h9, hc⟩ | ⟨h0, hc⟩)
    · subst h9
      have hb : accF (putL n ++ r) 10 = accF (putL n ++ r) 9 + (((putL n ++ r).getD 9 0).toNat % 128) * 128 ^ 9 := rfl
      have e : accF (putL n ++ r) 10 = n := a4
      have a3' : (putL n ++ r).getD 9 0 < 128 := a3
      have hge : 2 * 128 ^ 9 ≤ (((putL n ++ r).getD 9 0).toNat % 128) * 128 ^ 9 := Nat.mul_le_mul_right _ (by omega)
      have h64 : (2 : Nat) * 128 ^ 9 = 2 ^ 64 := by decide
      omega
    · exact a5 h0 hc
  rw [if_neg hnb]
  have e : accF (putL n ++ r) (k + 1) = n := a4
  rw [e]
theorem putL_read {l : List Int} (hb : ∀ c ∈ l, 0 ≤ c ∧ c < 256) {n k : Nat} (h : lebE l = (n, k, 0)) : l.take k = putL n ∧ k ≤ l.length ∧ n < 2 ^ 64 ∧ 1 ≤ k := by
  unfold lebE at h
  split at h
  · cases h
  rename_i h1
  split at h
  · cases h
  rename_i h2
  have hle := runN_le 9 l
  generalize hr : runN 9 l = r at h h1 h2 hle
  injection h with e1 e2
  injection e2 with e2 _
  subst e2
  have hat := runN_at 9 l
  have hend := runN_end 9 l
  rw [hr] at hat hend
  have hlt : r < l.length := by omega
  have hcb : 0 ≤ l.getD r 0 ∧ l.getD r 0 < 256 := by rw [List.getD_eq_getElem?_getD, List.getElem?_eq_getElem hlt]; exact hb _ (List.getElem_mem hlt)
  have hc : l.getD r 0 < 128 := by
    rcases Nat.lt_or_ge r 9 with h9 | h9
    · exact hend h9 hlt
    · have : r = 9 := by omega
      unfold bad at h2
      omega
  have key : ∀ (r f : Nat) (l : List Int), r < l.length → r ≤ f → (∀ i, i < r → 128 ≤ l.getD i 0) → l.getD r 0 < 128 → (0 < r → l.getD r 0 ≠ 0) → (∀ c ∈ l, 0 ≤ c ∧ c < 256) → l.take (r + 1) = putN (f + 1) (accF l (r + 1)) := by
    intro r
    induction r with
    | zero =>
      intro f l hl hf h1 h2 h3 hb
      match l, hl with
      | c :: l, _ =>
        have hc := hb c (by simp)
        simp at h2
        have e : accF (c :: l) (0 + 1) = c.toNat := by simp [accF]; omega
        rw [e]
        simp only [putN]
        rw [if_pos (by omega)]
        simp
        omega
    | succ r ih =>
      intro f l hl hf h1 h2 h3 hb
      match l, hl with
      | c :: l, hl =>
        obtain ⟨f, rfl⟩ : ∃ g, f = g + 1 := ⟨f - 1, by omega⟩
        have hc := hb c (by simp)
        have hc1 := h1 0 (by omega)
        simp at hc1
        have hpos : 0 < accF l (r + 1) := by
          rcases Nat.eq_zero_or_pos (accF l (r + 1)) with h0 | h0
          · exfalso
            simp only [accF] at h0
            have h5 : (l.getD r 0).toNat % 128 * 128 ^ r = 0 := by omega
            have h6 : 0 < 128 ^ r := Nat.pow_pos (by omega)
            rcases Nat.mul_eq_zero.1 h5 with h7 | h7
            · have h8 := h3 (by omega)
              simp only [List.getD_cons_succ] at h2 h8
              have h9 : 0 ≤ l.getD r 0 := by
                rw [List.getD_eq_getElem?_getD, List.getElem?_eq_getElem (by simpa using hl)]
                exact (hb _ (List.mem_cons_of_mem _ (List.getElem_mem _))).1
              omega
            · omega
          · exact h0
        have := ih f l (by simpa using hl) (by omega) (fun i hi => by have := h1 (i + 1) (by omega); simpa using this) (by simpa using h2) (fun h0 => by
          have := h3 (by omega)
          simpa using this) (fun c hc => hb c (List.mem_cons_of_mem _ hc))
        rw [accF_cons, List.take_succ_cons, this]
        rw [show putN (f + 1 + 1) (c.toNat % 128 + 128 * accF l (r + 1)) = (((c.toNat % 128 + 128 * accF l (r + 1)) % 128 + 128 : Nat) : Int) :: putN (f + 1) ((c.toNat % 128 + 128 * accF l (r + 1)) / 128) from by rw [putN, if_neg (by omega)]]
        congr 1
        · omega
        · congr 1; omega
  refine ⟨?_, by omega, ?_, by omega⟩
  · rw [← e1]
    exact key r 9 l hlt (by omega) hat hc (fun h0 hc0 => h2 (Or.inr ⟨h0, hc0⟩)) hb
  · rw [← e1]
    rcases Nat.lt_or_ge r 9 with h9 | h9
    · have := accF_lt l (r + 1)
      have h2 : 128 ^ (r + 1) ≤ 128 ^ 9 := Nat.pow_le_pow_right (by omega) (by omega)
      have h3 : (128 : Nat) ^ 9 = 2 ^ 63 := by decide
      omega
    · have : r = 9 := by omega
      subst this
      have h1 := accF_lt l 9
      have h3 : (128 : Nat) ^ 9 = 2 ^ 63 := by decide
      unfold bad at h2
      have hc1 : l.getD 9 0 ≤ 1 := by omega
      simp only [accF] at h1 ⊢
      have h4 : (l.getD 9 0).toNat % 128 * 128 ^ 9 ≤ 1 * 128 ^ 9 := Nat.mul_le_mul_right _ (by omega)
      omega
end Leb
end Go.Proofs.Ytlodbhlidgepfaa

namespace Go.Proofs.Ytlodbhlidgepfaa
open Go.RowKit
namespace Crc
/-- one bit goes out -/
def stepN (r : Nat) : Nat := if r % 2 = 0 then r / 2 else (r / 2) ^^^ 2197175160
def takeN (r c : Nat) : Nat := stepN (stepN (stepN (stepN (stepN (stepN (stepN (stepN (r ^^^ c))))))))
def moreN (r : Nat) (bs : List Int) : Nat := bs.foldl (fun r c => takeN r c.toNat) r
def crcN (bs : List Int) : Nat := moreN 4294967295 bs ^^^ 4294967295
theorem xor_lt {a b : Nat} (ha : a < 2 ^ 32) (hb : b < 2 ^ 32) : a ^^^ b < 2 ^ 32 := Nat.xor_lt_two_pow ha hb
theorem stepN_lt {r : Nat} (h : r < 2 ^ 32) : stepN r < 2 ^ 32 := by
  unfold stepN
  split
  · omega
  · exact xor_lt (by omega) (by decide)
theorem takeN_lt {r c : Nat} (h : r < 2 ^ 32) (hc : c < 2 ^ 32) : takeN r c < 2 ^ 32 := by
  unfold takeN
  exact stepN_lt (stepN_lt (stepN_lt (stepN_lt (stepN_lt (stepN_lt (stepN_lt (stepN_lt (xor_lt h hc))))))))
theorem moreN_lt : ∀ (bs : List Int) (r : Nat), (∀ c ∈ bs, 0 ≤ c ∧ c < 256) → r < 2 ^ 32 → moreN r bs < 2 ^ 32
  | [], r, _, h => h
  | c :: bs, r, hb, h => moreN_lt bs _ (fun c hc => hb c (List.mem_cons_of_mem _ hc)) (takeN_lt h (by have := hb c (by simp); omega))
theorem crcN_lt {bs : List Int} (hb : ∀ c ∈ bs, 0 ≤ c ∧ c < 256) : crcN bs < 2 ^ 32 := xor_lt (moreN_lt bs _ hb (by decide)) (by decide)
theorem moreN_app (r : Nat) (a b : List Int) : moreN r (a ++ b) = moreN (moreN r a) b := List.foldl_append
/-- a step is undone by its top bit -/
theorem stepN_top {r : Nat} (h : r < 2 ^ 32) : (stepN r).testBit 31 = decide (r % 2 = 1) := by
  unfold stepN
  split
  · rename_i h0
    have : r / 2 < 2 ^ 31 := by omega
    rw [Nat.testBit_lt_two_pow this]
    simp [h0]
  · rename_i h0
    have : r / 2 < 2 ^ 31 := by omega
    rw [Nat.testBit_xor, Nat.testBit_lt_two_pow this]
    have h1 : r % 2 = 1 := by omega
    simp [h1]
    decide
theorem xor_can {a b c : Nat} (h : a ^^^ c = b ^^^ c) : a = b := by
  have := congrArg (· ^^^ c) h
  simpa [Nat.xor_assoc] using this
theorem stepN_inj {a b : Nat} (ha : a < 2 ^ 32) (hb : b < 2 ^ 32) (h : stepN a = stepN b) : a = b := by
  have h1 := stepN_top ha
  have h2 := stepN_top hb
  rw [h, h2] at h1
  unfold stepN at h
  have h3 : a % 2 = b % 2 := by
    by_cases ha1 : a % 2 = 1 <;> by_cases hb1 : b % 2 = 1 <;> simp [ha1, hb1] at h1 <;> omega
  by_cases ha0 : a % 2 = 0
  · rw [if_pos ha0, if_pos (by omega)] at h
    omega
  · rw [if_neg ha0, if_neg (by omega)] at h
    have := xor_can h
    omega
theorem takeN_inj {r s c d : Nat} (hr : r < 2 ^ 32) (hs : s < 2 ^ 32) (hc : c < 2 ^ 32) (hd : d < 2 ^ 32) (h : takeN r c = takeN s d) : r ^^^ c = s ^^^ d := by
  unfold takeN at h
  have a0 := xor_lt hr hc
  have b0 := xor_lt hs hd
  have a1 := stepN_lt a0
  have b1 := stepN_lt b0
  have a2 := stepN_lt a1
  have b2 := stepN_lt b1
  have a3 := stepN_lt a2
  have b3 := stepN_lt b2
  have a4 := stepN_lt a3
  have b4 := stepN_lt b3
  have a5 := stepN_lt a4
  have b5 := stepN_lt b4
  have a6 := stepN_lt a5
  have b6 := stepN_lt b5
  have a7 := stepN_lt a6
  have b7 := stepN_lt b6
  exact stepN_inj a0 b0 (stepN_inj a1 b1 (stepN_inj a2 b2 (stepN_inj a3 b3 (stepN_inj a4 b4 (stepN_inj a5 b5 (stepN_inj a6 b6 (stepN_inj a7 b7 h)))))))
theorem moreN_inj : ∀ (bs : List Int) (r s : Nat), (∀ c ∈ bs, 0 ≤ c ∧ c < 256) → r < 2 ^ 32 → s < 2 ^ 32 → moreN r bs = moreN s bs → r = s
  | [], r, s, _, _, _, h => h
  | c :: bs, r, s, hb, hr, hs, h => by
    have hc := hb c (by simp)
    have hc' : c.toNat < 2 ^ 32 := by omega
    have := moreN_inj bs _ _ (fun c hc => hb c (List.mem_cons_of_mem _ hc)) (takeN_lt hr hc') (takeN_lt hs hc') h
    exact xor_can (takeN_inj hr hs hc' hc' this)
/-- one byte is another one: so is the sum -/
theorem crcN_one {a b : List Int} {c d : Int} (hc : 0 ≤ c ∧ c < 256) (hd : 0 ≤ d ∧ d < 256) (ha : ∀ c ∈ a, 0 ≤ c ∧ c < 256) (hb : ∀ c ∈ b, 0 ≤ c ∧ c < 256) (hne : c ≠ d) : crcN (a ++ c :: b) ≠ crcN (a ++ d :: b) := by
  intro h
  unfold crcN at h
  have h1 := xor_can h
  rw [moreN_app, moreN_app] at h1
  have hr : moreN 4294967295 a < 2 ^ 32 := moreN_lt a _ ha (by decide)
  have hc' : c.toNat < 2 ^ 32 := by omega
  have hd' : d.toNat < 2 ^ 32 := by omega
  have h2 := moreN_inj b _ _ hb (takeN_lt hr hc') (takeN_lt hr hd') h1
  have h3 := takeN_inj hr hr hc' hd' h2
  rw [Nat.xor_comm _ c.toNat, Nat.xor_comm _ d.toNat] at h3
  have := xor_can h3
  omega
/-- four bytes, the lowest first -/
def four (n : Nat) : List Int := [((n % 256 : Nat) : Int), ((n / 256 % 256 : Nat) : Int), ((n / 65536 % 256 : Nat) : Int), ((n / 16777216 % 256 : Nat) : Int)]
theorem four_len (n : Nat) : (four n).length = 4 := rfl
theorem four_byte (n : Nat) : ∀ c ∈ four n, 0 ≤ c ∧ c < 256 := by
  intro c hc
  simp [four] at hc
  omega
theorem four_inj {m n : Nat} (hm : m < 2 ^ 32) (hn : n < 2 ^ 32) (h : four m = four n) : m = n := by
  simp [four] at h
  omega
end Crc
end Go.Proofs.Ytlodbhlidgepfaa

namespace Go.Proofs.Ytlodbhlidgepfaa
open Go.RowKit
theorem ofInt_nat (n a : Nat) : BitVec.ofInt n (a : Int) = BitVec.ofNat n a := by
  apply BitVec.eq_of_toNat_eq
  rw [BitVec.toNat_ofInt, BitVec.toNat_ofNat]
  omega
theorem xor32 {a b : Nat} (ha : a < 2 ^ 32) (hb : b < 2 ^ 32) : bits .xor .u32 (a : Int) (b : Int) = ((a ^^^ b : Nat) : Int) := by
  show IntKind.u32.wrap ((BitVec.ofInt 32 (a : Int) ^^^ BitVec.ofInt 32 (b : Int)).toNat : Int) = _
  rw [ofInt_nat, ofInt_nat, BitVec.toNat_xor, BitVec.toNat_ofNat, BitVec.toNat_ofNat, Nat.mod_eq_of_lt ha, Nat.mod_eq_of_lt hb]
  have := Nat.xor_lt_two_pow ha hb
  show ((a ^^^ b : Nat) : Int) % 4294967296 = _
  omega
theorem and32 {a b : Nat} (ha : a < 2 ^ 32) (hb : b < 2 ^ 32) : bits .and .u32 (a : Int) (b : Int) = ((a &&& b : Nat) : Int) := by
  show IntKind.u32.wrap ((BitVec.ofInt 32 (a : Int) &&& BitVec.ofInt 32 (b : Int)).toNat : Int) = _
  rw [ofInt_nat, ofInt_nat, BitVec.toNat_and, BitVec.toNat_ofNat, BitVec.toNat_ofNat, Nat.mod_eq_of_lt ha, Nat.mod_eq_of_lt hb]
  have := Nat.and_lt_two_pow a hb
  show ((a &&& b : Nat) : Int) % 4294967296 = _
  omega
theorem or8 {a b : Nat} (ha : a < 2 ^ 8) (hb : b < 2 ^ 8) : bits .or .u8 (a : Int) (b : Int) = ((a ||| b : Nat) : Int) := by
  show IntKind.u8.wrap ((BitVec.ofInt 8 (a : Int) ||| BitVec.ofInt 8 (b : Int)).toNat : Int) = _
  rw [ofInt_nat, ofInt_nat, BitVec.toNat_or, BitVec.toNat_ofNat, BitVec.toNat_ofNat, Nat.mod_eq_of_lt ha, Nat.mod_eq_of_lt hb]
  have := Nat.or_lt_two_pow ha hb
  show ((a ||| b : Nat) : Int) % 256 = _
  omega
theorem and8 {a b : Nat} (ha : a < 2 ^ 8) (hb : b < 2 ^ 8) : bits .and .u8 (a : Int) (b : Int) = ((a &&& b : Nat) : Int) := by
  show IntKind.u8.wrap ((BitVec.ofInt 8 (a : Int) &&& BitVec.ofInt 8 (b : Int)).toNat : Int) = _
  rw [ofInt_nat, ofInt_nat, BitVec.toNat_and, BitVec.toNat_ofNat, BitVec.toNat_ofNat, Nat.mod_eq_of_lt ha, Nat.mod_eq_of_lt hb]
  have := Nat.and_lt_two_pow a hb
  show ((a &&& b : Nat) : Int) % 256 = _
  omega
theorem xor8 {a b : Nat} (ha : a < 2 ^ 8) (hb : b < 2 ^ 8) : bits .xor .u8 (a : Int) (b : Int) = ((a ^^^ b : Nat) : Int) := by
  show IntKind.u8.wrap ((BitVec.ofInt 8 (a : Int) ^^^ BitVec.ofInt 8 (b : Int)).toNat : Int) = _
  rw [ofInt_nat, ofInt_nat, BitVec.toNat_xor, BitVec.toNat_ofNat, BitVec.toNat_ofNat, Nat.mod_eq_of_lt ha, Nat.mod_eq_of_lt hb]
  have := Nat.xor_lt_two_pow ha hb
  show ((a ^^^ b : Nat) : Int) % 256 = _
  omega
theorem or64 {a b : Nat} (ha : a < 2 ^ 64) (hb : b < 2 ^ 64) : bits .or .u64 (a : Int) (b : Int) = ((a ||| b : Nat) : Int) := by
  show IntKind.u64.wrap ((BitVec.ofInt 64 (a : Int) ||| BitVec.ofInt 64 (b : Int)).toNat : Int) = _
  rw [ofInt_nat, ofInt_nat, BitVec.toNat_or, BitVec.toNat_ofNat, BitVec.toNat_ofNat, Nat.mod_eq_of_lt ha, Nat.mod_eq_of_lt hb]
  have := Nat.or_lt_two_pow ha hb
  show ((a ||| b : Nat) : Int) % 18446744073709551616 = _
  omega
/-- a low part and a high part -/
theorem or_add {a b k : Nat} (h : a < 2 ^ k) : a ||| (b * 2 ^ k) = a + b * 2 ^ k := by
  have := Nat.shiftLeft_add_eq_or_of_lt h b
  rw [Nat.shiftLeft_eq] at this
  rw [Nat.or_comm, ← this, Nat.add_comm]
theorem and_127 (a : Nat) : a &&& 127 = a % 128 := Nat.and_two_pow_sub_one_eq_mod a 7
theorem and_1 (a : Nat) : a &&& 1 = a % 2 := Nat.and_two_pow_sub_one_eq_mod a 1
theorem or_128 {a : Nat} (h : a < 256) : a ||| 128 = a % 128 + 128 := by
  have h1 : ∀ a : Fin 256, a.val ||| 128 = a.val % 128 + 128 := by decide +kernel
  exact h1 ⟨a, h⟩
theorem and_all32 {a : Nat} (h : a < 2 ^ 32) : a &&& 4294967295 = a := by
  have := Nat.and_two_pow_sub_one_eq_mod a 32
  rw [Nat.mod_eq_of_lt h] at this
  simpa using this
end Go.Proofs.Ytlodbhlidgepfaa

namespace Go.Proofs.Ytlodbhlidgepfaa
open Go.RowKit
open Voc Leb Crc
namespace Vf
def magic : List Int := [115, 116, 111, 111, 107, 118]
def pieceB (p : Pc) : List Int := if p.j = true then 1 :: (putL p.l.toNat ++ (putL p.r.toNat ++ putL p.k.toNat)) else [0, p.b]
def bodyB (xs : List Pc) : List Int := magic ++ (putL xs.length ++ xs.flatMap pieceB)
def fileB (xs : List Pc) : List Int := bodyB xs ++ four (crcN (bodyB xs))
def putE (xs : List Pc) : List Int × Int := if (checkE xs).1 = 0 then (fileB xs, 0) else ([], 11)
/-- what is read: what is wrong and where, or what it is and where one stands -/
inductive R (α : Type) where
  | bad (e : Int) (at_ : Nat)
  | ok (x : α) (at_ : Nat)
def numR (b : List Int) (at_ most : Nat) : R Nat :=
  if (lebE (b.drop at_)).2.2 ≠ 0 then .bad (lebE (b.drop at_)).2.2 at_ else if most < (lebE (b.drop at_)).1 then .bad 3 at_ else .ok (lebE (b.drop at_)).1 (at_ + (lebE (b.drop at_)).2.1)
def byteR (b : List Int) (at_ : Nat) : R Int := if at_ = b.length then .bad 4 b.length else .ok (b.getD at_ 0) (at_ + 1)
def pieceR (b : List Int) (at_ : Nat) : R Pc :=
  match byteR b at_ with
  | .bad e x => .bad e x
  | .ok t a1 =>
    if t = 0 then
      match byteR b a1 with
      | .bad e x => .bad e x
      | .ok c a2 => .ok ⟨false, c, 0, 0, 0⟩ a2
    else if t = 1 then
      match numR b a1 4095 with
      | .bad e x => .bad e x
      | .ok l a2 =>
        match numR b a2 4095 with
        | .bad e x => .bad e x
        | .ok r a3 =>
          match numR b a3 4294967295 with
          | .bad e x => .bad e x
          | .ok k a4 => .ok ⟨true, 0, l, r, k⟩ a4
    else .bad 5 at_
def piecesR (b : List Int) : Nat → Nat → R (List (Nat × Pc))
  | 0, at_ => .ok [] at_
  | m + 1, at_ =>
    match pieceR b at_ with
    | .bad e x => .bad e x
    | .ok p a =>
      match piecesR b m a with
      | .bad e x => .bad e x
      | .ok l a' => .ok ((at_, p) :: l) a'
/-- behind the pieces: the sum, and nothing more; may it be? -/
def endE (b : List Int) (l : List (Nat × Pc)) (s : Nat) : List Pc × Nat × Int :=
  if b.length < s + 4 then ([], b.length, 4)
  else if (b.drop s).take 4 ≠ four (crcN (b.take s)) then ([], s, 6)
  else if s + 4 < b.length then ([], s + 4, 5)
  else if (checkE (l.map (·.2))).1 ≠ 0 then ([], (l.map (·.1)).getD (checkE (l.map (·.2))).2 s, 11)
  else (l.map (·.2), 0, 0)
def readE (b : List Int) : List Pc × Nat × Int :=
  if b.take 6 ≠ magic then ([], 0, 5)
  else match numR b 6 4096 with
    | .bad e x => ([], x, e)
    | .ok m a =>
      match piecesR b m a with
      | .bad e x => ([], x, e)
      | .ok l s => endE b l s

/-- what a piece that is written may be -/
def FormP (p : Pc) : Prop := (p.j = false → p.l = 0 ∧ p.r = 0 ∧ p.k = 0 ∧ 0 ≤ p.b ∧ p.b < 256) ∧ (p.j = true → p.b = 0 ∧ (0 ≤ p.l ∧ p.l < 4096) ∧ (0 ≤ p.r ∧ p.r < 4096) ∧ 0 ≤ p.k ∧ p.k < 4294967296)
theorem u32_in {x : Int} (h : (Lit.int .u32 x).wf = true) : 0 ≤ x ∧ x < 4294967296 := by
  simp [Lit.wf, IntKind.min, IntKind.max, IntKind.signed, IntKind.bits] at h
  omega
theorem u8_mk {x : Int} (h : 0 ≤ x ∧ x < 256) : (Lit.int .u8 x).wf = true := by
  simp [Lit.wf, IntKind.min, IntKind.max, IntKind.signed, IntKind.bits]; omega
theorem i64_mk {x : Int} (h : 0 ≤ x ∧ x < 4294967296) : (Lit.int .i64 x).wf = true := by
  simp [Lit.wf, IntKind.min, IntKind.max, IntKind.signed, IntKind.bits]; omega
theorem u32_mk {x : Int} (h : 0 ≤ x ∧ x < 4294967296) : (Lit.int .u32 x).wf = true := by
  simp [Lit.wf, IntKind.min, IntKind.max, IntKind.signed, IntKind.bits]; omega
theorem form_of {xs : List Pc} (H : Voc.Good xs) (hw : ∀ q ∈ xs, wfP q) : ∀ p ∈ xs, FormP p := by
  intro p hp
  obtain ⟨i, hi⟩ := List.getElem?_of_mem hp
  have hl := H.len
  have hi' := (List.getElem?_eq_some_iff.1 hi).1
  refine ⟨fun hj => ?_, fun hj => ?_⟩
  · have := (H.inv.form p hp).1 hj
    have hb := u8_in (hw p hp).1
    exact ⟨this.1, this.2.1, this.2.2, hb⟩
  · obtain ⟨⟨a, b⟩, c, d⟩ := H.ok.back i p hi hj
    exact ⟨(H.inv.form p hp).2 hj, ⟨a, by omega⟩, ⟨c, by omega⟩, u32_in (hw p hp).2.2.2⟩
theorem putL_app {m n : Nat} (hm : m < 2 ^ 64) (hn : n < 2 ^ 64) {r s : List Int} (h : putL m ++ r = putL n ++ s) : m = n ∧ r = s := by
  have h1 := lebE_put m hm r
  have h2 := lebE_put n hn s
  rw [h, h2] at h1
  injection h1 with e1 e2
  subst e1
  exact ⟨rfl, List.append_cancel_left h⟩
theorem pieceB_app {p q : Pc} (hp : FormP p) (hq : FormP q) {r s : List Int} (h : pieceB p ++ r = pieceB q ++ s) : p = q ∧ r = s := by
  have h64 : (4294967296 : Nat) < 2 ^ 64 := by decide
  unfold pieceB at h
  cases hj : p.j with
  | false =>
    cases hk : q.j with
    | false =>
      simp [hj, hk] at h
      obtain ⟨a1, a2, a3, _⟩ := hp.1 hj
      obtain ⟨b1, b2, b3, _⟩ := hq.1 hk
      refine ⟨?_, h.2⟩
      obtain ⟨j, b, l, r, k⟩ := p
      obtain ⟨j', b', l', r', k'⟩ := q
      simp_all
    | true => simp [hj, hk] at h
  | true =>
    cases hk : q.j with
    | false => simp [hj, hk] at h
    | true =>
      simp [hj, hk] at h
      obtain ⟨a1, a2, a3, a4, a5⟩ := hp.2 hj
      obtain ⟨b1, b2, b3, b4, b5⟩ := hq.2 hk
      obtain ⟨e1, h⟩ := putL_app (by omega) (by omega) h
      obtain ⟨e2, h⟩ := putL_app (by omega) (by omega) h
      obtain ⟨e3, h⟩ := putL_app (by omega) (by omega) h
      refine ⟨?_, h⟩
      obtain ⟨j, b, l, r, k⟩ := p
      obtain ⟨j', b', l', r', k'⟩ := q
      simp only at *
      have : l = l' := by omega
      have : r = r' := by omega
      have : k = k' := by omega
      simp_all
theorem pieces_app : ∀ {xs ys : List Pc}, (∀ p ∈ xs, FormP p) → (∀ p ∈ ys, FormP p) → xs.length = ys.length → ∀ {r s : List Int}, xs.flatMap pieceB ++ r = ys.flatMap pieceB ++ s → xs = ys ∧ r = s
  | [], [], _, _, _, r, s, h => ⟨rfl, by simpa using h⟩
  | [], y :: ys, _, _, hl, _, _, _ => by simp at hl
  | x :: xs, [], _, _, hl, _, _, _ => by simp at hl
  | x :: xs, y :: ys, hx, hy, hl, r, s, h => by
    rw [List.flatMap_cons, List.flatMap_cons, List.append_assoc, List.append_assoc] at h
    obtain ⟨e, h⟩ := pieceB_app (hx x (by simp)) (hy y (by simp)) h
    obtain ⟨e2, h⟩ := pieces_app (fun p hp => hx p (List.mem_cons_of_mem _ hp)) (fun p hp => hy p (List.mem_cons_of_mem _ hp)) (by simpa using hl) h
    exact ⟨by rw [e, e2], h⟩
theorem body_app {xs ys : List Pc} (hx : ∀ p ∈ xs, FormP p) (hy : ∀ p ∈ ys, FormP p) (h1 : xs.length ≤ 4096) (h2 : ys.length ≤ 4096) {r s : List Int} (h : bodyB xs ++ r = bodyB ys ++ s) : xs = ys ∧ r = s := by
  have h64 : (4294967296 : Nat) < 2 ^ 64 := by decide
  unfold bodyB at h
  simp only [List.append_assoc] at h
  have h := List.append_cancel_left h
  obtain ⟨e, h⟩ := putL_app (by omega) (by omega) h
  exact pieces_app hx hy e h
theorem pieceB_byte {p : Pc} (hp : FormP p) : ∀ c ∈ pieceB p, 0 ≤ c ∧ c < 256 := by
  intro c hc
  unfold pieceB at hc
  split at hc
  · rcases List.mem_cons.1 hc with e | e
    · omega
    · rcases List.mem_append.1 e with e | e
      · exact putN_byte _ _ _ e
      · rcases List.mem_append.1 e with e | e
        · exact putN_byte _ _ _ e
        · exact putN_byte _ _ _ e
  · rename_i h
    have := hp.1 (by simpa using h)
    simp at hc
    omega
theorem bodyB_byte {xs : List Pc} (h : ∀ p ∈ xs, FormP p) : ∀ c ∈ bodyB xs, 0 ≤ c ∧ c < 256 := by
  intro c hc
  unfold bodyB at hc
  rcases List.mem_append.1 hc with e | e
  · simp [magic] at e; omega
  · rcases List.mem_append.1 e with e | e
    · exact putN_byte _ _ _ e
    · obtain ⟨p, hp, hc⟩ := List.mem_flatMap.1 e
      exact pieceB_byte (h p hp) c hc
theorem pieceB_len (p : Pc) : (pieceB p).length ≤ 31 := by
  unfold pieceB
  split
  · have := putL_len p.l.toNat
    have := putL_len p.r.toNat
    have := putL_len p.k.toNat
    simp only [List.length_cons, List.length_append]
    omega
  · simp
theorem fileB_len (xs : List Pc) : (fileB xs).length ≤ 20 + 31 * xs.length := by
  have h1 : (xs.flatMap pieceB).length ≤ 31 * xs.length := by
    induction xs with
    | nil => simp
    | cons x xs ih => rw [List.flatMap_cons, List.length_append, List.length_cons]; have := pieceB_len x; omega
  have := putL_len xs.length
  unfold fileB bodyB
  simp only [List.length_append, four_len, magic, List.length_cons, List.length_nil]
  omega
/-! ### what is put is read -/
theorem numR_put {b : List Int} {at_ n most : Nat} {r : List Int} (h : b.drop at_ = putL n ++ r) (hn : n < 2 ^ 64) (hm : n ≤ most) : numR b at_ most = .ok n (at_ + (putL n).length) := by
  unfold numR
  rw [h, lebE_put n hn]
  simp only [ne_eq, not_true_eq_false, if_false]
  rw [if_neg (by omega)]
theorem drop_app {b r s : List Int} {at_ : Nat} (h : b.drop at_ = r ++ s) : b.drop (at_ + r.length) = s := by
  rw [← List.drop_drop, h, List.drop_left]
theorem pieceR_put {b : List Int} {at_ : Nat} {p : Pc} {r : List Int} (hp : FormP p) (h : b.drop at_ = pieceB p ++ r) : pieceR b at_ = .ok p (at_ + (pieceB p).length) := by
  have h64 : (4294967296 : Nat) < 2 ^ 64 := by decide
  have hlen := congrArg List.length h
  rw [List.length_drop, List.length_append] at hlen
  unfold pieceB at h hlen ⊢
  cases hj : p.j with
  | false =>
    simp only [hj] at h hlen ⊢
    simp only [Bool.false_eq_true, if_false] at h hlen ⊢
    simp only [List.length_cons, List.length_nil] at hlen
    have g0 : b.getD at_ 0 = 0 := by
      have : (b.drop at_)[0]? = some 0 := by rw [h]; rfl
      rw [List.getElem?_drop, Nat.add_zero] at this
      rw [List.getD_eq_getElem?_getD, this]; rfl
    have g1 : b.getD (at_ + 1) 0 = p.b := by
      have : (b.drop at_)[1]? = some p.b := by rw [h]; rfl
      rw [List.getElem?_drop] at this
      rw [List.getD_eq_getElem?_getD, this]; rfl
    obtain ⟨a1, a2, a3, _⟩ := hp.1 hj
    unfold pieceR byteR
    rw [if_neg (by omega)]
    simp only [g0, if_true]
    rw [if_neg (by omega)]
    simp only [g1]
    obtain ⟨j, b', l, r, k⟩ := p
    simp_all
  | true =>
    simp only [hj, if_true] at h hlen ⊢
    simp only [List.length_cons] at hlen
    have g0 : b.getD at_ 0 = 1 := by
      have : (b.drop at_)[0]? = some 1 := by rw [h]; rfl
      rw [List.getElem?_drop, Nat.add_zero] at this
      rw [List.getD_eq_getElem?_getD, this]; rfl
    obtain ⟨a1, a2, a3, a4, a5⟩ := hp.2 hj
    have h1 : b.drop (at_ + 1) = putL p.l.toNat ++ (putL p.r.toNat ++ (putL p.k.toNat ++ r)) := by
      rw [← List.drop_drop, h]
      simp
    have h2 := drop_app h1
    have h3 := drop_app h2
    have n1 := numR_put (most := 4095) h1 (by omega) (by omega)
    have n2 := numR_put (most := 4095) h2 (by omega) (by omega)
    have n3 := numR_put (most := 4294967295) h3 (by omega) (by omega)
    unfold pieceR byteR
    rw [if_neg (by omega)]
    simp only [g0]
    rw [if_neg (by decide), if_pos trivial, n1]
    simp only
    rw [n2]
    simp only
    rw [n3]
    simp only
    obtain ⟨j, b', l, r', k⟩ := p
    simp only at a1 a2 a3 a4 a5 hj ⊢
    subst hj a1
    rw [show ((l.toNat : Nat) : Int) = l by omega, show ((r'.toNat : Nat) : Int) = r' by omega, show ((k.toNat : Nat) : Int) = k by omega]
    congr 1
    simp only [List.length_cons, List.length_append]; omega
theorem piecesR_put : ∀ {xs : List Pc} {b : List Int} {at_ : Nat} {r : List Int}, (∀ p ∈ xs, FormP p) → b.drop at_ = xs.flatMap pieceB ++ r → ∃ l, piecesR b xs.length at_ = .ok l (at_ + (xs.flatMap pieceB).length) ∧ l.map (·.2) = xs
  | [], b, at_, r, _, _ => ⟨[], rfl, rfl⟩
  | x :: xs, b, at_, r, hx, h => by
    rw [List.flatMap_cons, List.append_assoc] at h
    have h1 := pieceR_put (hx x (by simp)) h
    obtain ⟨l, h2, h3⟩ := piecesR_put (fun p hp => hx p (List.mem_cons_of_mem _ hp)) (drop_app h)
    refine ⟨(at_, x) :: l, ?_, by rw [List.map_cons, h3]⟩
    rw [List.length_cons, piecesR, h1]
    simp only
    rw [h2]
    simp only [List.flatMap_cons, List.length_append, Nat.add_assoc]
theorem read_put {xs : List Pc} (hc : (checkE xs).1 = 0) (hw : ∀ q ∈ xs, wfP q) : readE (fileB xs) = (xs, 0, 0) := by
  have H := good_of hc
  have hf := form_of H hw
  have h64 : (4294967296 : Nat) < 2 ^ 64 := by decide
  have hl := H.len
  have e : fileB xs = magic ++ (putL xs.length ++ (xs.flatMap pieceB ++ four (crcN (bodyB xs)))) := by
    have h1 : bodyB xs = magic ++ (putL xs.length ++ xs.flatMap pieceB) := rfl
    unfold fileB
    rw [h1]
    simp only [List.append_assoc]
  have h6 : (fileB xs).drop 6 = putL xs.length ++ (xs.flatMap pieceB ++ four (crcN (bodyB xs))) := by rw [e]; rfl
  have h0 : (fileB xs).take 6 = magic := by rw [e]; rfl
  have n0 := numR_put (most := 4096) h6 (by omega) (by omega)
  have h7 := drop_app h6
  obtain ⟨l, h8, h9⟩ := piecesR_put hf h7
  have hbl : (bodyB xs).length = 6 + (putL xs.length).length + (xs.flatMap pieceB).length := by unfold bodyB; simp [magic]; omega
  have hfl : (fileB xs).length = (bodyB xs).length + 4 := by unfold fileB; rw [List.length_append, four_len]
  unfold readE
  rw [h0, n0]
  simp only [ne_eq, not_true_eq_false, if_false]
  rw [h8]
  simp only
  rw [← hbl]
  unfold endE
  rw [if_neg (by omega)]
  have t1 : (fileB xs).take (bodyB xs).length = bodyB xs := List.take_left' rfl
  have t2 : (fileB xs).drop (bodyB xs).length = four (crcN (bodyB xs)) := List.drop_left' rfl
  rw [t1, t2]
  rw [List.take_of_length_le (by rw [four_len]; exact Nat.le_refl _)]
  simp only [ne_eq, not_true_eq_false, if_false]
  rw [if_neg (by omega), h9, hc]
  simp
/-! ### what is read is what is put -/
theorem numR_ok {b : List Int} (hb : ∀ c ∈ b, 0 ≤ c ∧ c < 256) {at_ most n a : Nat} (h : numR b at_ most = .ok n a) : n ≤ most ∧ b.drop at_ = putL n ++ b.drop a ∧ n < 2 ^ 64 := by
  unfold numR at h
  split at h
  · cases h
  rename_i h0
  split at h
  · cases h
  rename_i h1
  obtain ⟨⟨m, k, e⟩, hl⟩ : ∃ x, lebE (b.drop at_) = x := ⟨_, rfl⟩
  rw [hl] at h h0 h1
  simp only [ne_eq, Decidable.not_not] at h h0 h1
  subst h0
  injection h with e1 e2
  subst e1 e2
  obtain ⟨t1, t2, t3, _⟩ := putL_read (fun c hc => hb c (List.mem_of_mem_drop hc)) hl
  refine ⟨by omega, ?_, t3⟩
  rw [← t1, ← List.drop_drop, List.take_append_drop]
theorem pieceR_ok {b : List Int} (hb : ∀ c ∈ b, 0 ≤ c ∧ c < 256) {at_ a : Nat} {p : Pc} (hat : at_ ≤ b.length) (h : pieceR b at_ = .ok p a) : b.drop at_ = pieceB p ++ b.drop a ∧ FormP p ∧ wfP p := by
  have hcons : ∀ i, i < b.length → b.drop i = b.getD i 0 :: b.drop (i + 1) := fun i hi => by
    rw [List.drop_eq_getElem_cons hi, List.getD_eq_getElem?_getD, List.getElem?_eq_getElem hi]; rfl
  unfold pieceR byteR at h
  by_cases h0 : at_ = b.length
  · rw [if_pos h0] at h; cases h
  rw [if_neg h0] at h
  simp only at h
  have hc0 := hcons at_ (by omega)
  by_cases ht : b.getD at_ 0 = 0
  · rw [if_pos ht] at h
    by_cases h1 : at_ + 1 = b.length
    · rw [if_pos h1] at h; cases h
    rw [if_neg h1] at h
    simp only at h
    injection h with e1 e2
    subst e1 e2
    have hc1 := hcons (at_ + 1) (by omega)
    have hr : 0 ≤ b.getD (at_ + 1) 0 ∧ b.getD (at_ + 1) 0 < 256 := by
      rw [List.getD_eq_getElem?_getD, List.getElem?_eq_getElem (by omega)]; exact hb _ (List.getElem_mem _)
    refine ⟨?_, ⟨fun _ => ⟨rfl, rfl, rfl, hr⟩, (fun h => by cases h)⟩, u8_mk hr, i64_mk (x := 0) (by decide), i64_mk (x := 0) (by decide), u32_mk (x := 0) (by decide)⟩
    rw [hc0, ht, hc1]; rfl
  · rw [if_neg ht] at h
    by_cases ht1 : b.getD at_ 0 = 1
    · rw [if_pos ht1] at h
      cases hn1 : numR b (at_ + 1) 4095 with
      | bad e x => rw [hn1] at h; cases h
      | ok l a2 =>
        rw [hn1] at h
        simp only at h
        cases hn2 : numR b a2 4095 with
        | bad e x => rw [hn2] at h; cases h
        | ok r a3 =>
          rw [hn2] at h
          simp only at h
          cases hn3 : numR b a3 4294967295 with
          | bad e x => rw [hn3] at h; cases h
          | ok k a4 =>
            rw [hn3] at h
            simp only at h
            injection h with e1 e2
            subst e1 e2
            obtain ⟨l1, l2, _⟩ := numR_ok hb hn1
            obtain ⟨r1, r2, _⟩ := numR_ok hb hn2
            obtain ⟨k1, k2, _⟩ := numR_ok hb hn3
            refine ⟨?_, ⟨(fun h => by cases h), fun _ => ⟨rfl, ⟨by simp only; omega, by simp only; omega⟩, ⟨by simp only; omega, by simp only; omega⟩, by simp only; omega, by simp only; omega⟩⟩, u8_mk ⟨Int.le_refl _, by simp only; omega⟩, i64_mk (by simp only; omega), i64_mk (by simp only; omega), u32_mk (by simp only; omega)⟩
            rw [hc0, ht1, l2, r2, k2]
            unfold pieceB
            simp
    · rw [if_neg ht1] at h; cases h
theorem numR_le {b : List Int} {at_ most n a : Nat} (h : numR b at_ most = .ok n a) : a ≤ b.length := by
  unfold numR at h
  split at h
  · cases h
  rename_i h0
  split at h
  · cases h
  injection h with e1 e2
  subst e2
  unfold lebE at h0 ⊢
  have := runN_le 9 (b.drop at_)
  rw [List.length_drop] at this
  split
  · rename_i h1; rw [if_pos h1] at h0; simp at h0
  · rename_i h1
    rw [if_neg h1] at h0
    split
    · rename_i h2; rw [if_pos h2] at h0; simp at h0
    · rw [List.length_drop] at h1
      simp only
      omega
theorem pieceR_le {b : List Int} {at_ a : Nat} {p : Pc} (hat : at_ ≤ b.length) (h : pieceR b at_ = .ok p a) : a ≤ b.length := by
  unfold pieceR byteR at h
  by_cases h0 : at_ = b.length
  · rw [if_pos h0] at h; cases h
  rw [if_neg h0] at h
  simp only at h
  by_cases ht : b.getD at_ 0 = 0
  · rw [if_pos ht] at h
    by_cases h1 : at_ + 1 = b.length
    · rw [if_pos h1] at h; cases h
    rw [if_neg h1] at h
    simp only at h
    injection h with e1 e2
    omega
  · rw [if_neg ht] at h
    by_cases ht1 : b.getD at_ 0 = 1
    · rw [if_pos ht1] at h
      cases hn1 : numR b (at_ + 1) 4095 with
      | bad e x => rw [hn1] at h; cases h
      | ok l a2 =>
        rw [hn1] at h
        simp only at h
        cases hn2 : numR b a2 4095 with
        | bad e x => rw [hn2] at h; cases h
        | ok r a3 =>
          rw [hn2] at h
          simp only at h
          cases hn3 : numR b a3 4294967295 with
          | bad e x => rw [hn3] at h; cases h
          | ok k a4 =>
            rw [hn3] at h
            simp only at h
            injection h with e1 e2
            subst e2
            exact numR_le hn3
    · rw [if_neg ht1] at h; cases h
theorem piecesR_ok {b : List Int} (hb : ∀ c ∈ b, 0 ≤ c ∧ c < 256) : ∀ {m at_ a : Nat} {l : List (Nat × Pc)}, at_ ≤ b.length → piecesR b m at_ = .ok l a → l.length = m ∧ b.drop at_ = (l.map (·.2)).flatMap pieceB ++ b.drop a ∧ (∀ p ∈ l.map (·.2), FormP p ∧ wfP p) ∧ a ≤ b.length
  | 0, at_, a, l, hat, h => by
    simp only [piecesR] at h
    injection h with e1 e2
    subst e1 e2
    exact ⟨rfl, rfl, fun p hp => (by simp at hp), hat⟩
  | m + 1, at_, a, l, hat, h => by
    simp only [piecesR] at h
    cases hp : pieceR b at_ with
    | bad e x => rw [hp] at h; cases h
    | ok p a1 =>
      rw [hp] at h
      simp only at h
      cases hq : piecesR b m a1 with
      | bad e x => rw [hq] at h; cases h
      | ok l' a' =>
        rw [hq] at h
        simp only at h
        injection h with e1 e2
        subst e1 e2
        obtain ⟨h1, h2, h3⟩ := pieceR_ok hb hat hp
        obtain ⟨h4, h5, h6, h7⟩ := piecesR_ok hb (pieceR_le hat hp) hq
        refine ⟨by rw [List.length_cons, h4], ?_, fun q hq => ?_, h7⟩
        · rw [h1, h5]; simp
        · rw [List.map_cons] at hq
          rcases List.mem_cons.1 hq with e | e
          · subst e; exact ⟨h2, h3⟩
          · exact h6 q e
theorem read_ok {b : List Int} (hb : ∀ c ∈ b, 0 ≤ c ∧ c < 256) {xs : List Pc} {x : Nat} (h : readE b = (xs, x, 0)) : b = fileB xs ∧ (checkE xs).1 = 0 ∧ (∀ q ∈ xs, wfP q) ∧ x = 0 ∧ (∀ q ∈ xs, FormP q) := by
  unfold readE at h
  split at h
  · cases h
  rename_i h6
  have h6 : b.take 6 = magic := by simpa using h6
  have hl6 : 6 ≤ b.length := by
    have := congrArg List.length h6
    rw [List.length_take] at this
    simp [magic] at this
    omega
  cases hn : numR b 6 4096 with
  | bad e y =>
    rw [hn] at h
    simp only at h
    injection h with _ h
    injection h with _ h
    unfold numR at hn
    split at hn
    · injection hn with e1 e2; subst e1; exact absurd h ‹_›
    · split at hn
      · injection hn with e1 e2; subst e1; cases h
      · cases hn
  | ok m a =>
    rw [hn] at h
    simp only at h
    obtain ⟨n1, n2, n3⟩ := numR_ok hb hn
    have n4 := numR_le hn
    cases hp : piecesR b m a with
    | bad e y =>
      rw [hp] at h
      simp only at h
      injection h with _ h
      injection h with _ h
      exfalso
      have hne : ∀ (m a : Nat) (e : Int) (y : Nat), piecesR b m a = .bad e y → e ≠ 0 := by
        have num : ∀ a most e y, numR b a most = .bad e y → e ≠ 0 := by
          intro a most e y h
          unfold numR at h
          split at h
          · injection h with e1 e2; subst e1; assumption
          · split at h
            · injection h with e1 e2; subst e1; decide
            · cases h
        have pc : ∀ a e y, pieceR b a = .bad e y → e ≠ 0 := by
          intro a e y h
          unfold pieceR byteR at h
          by_cases h0 : a = b.length
          · rw [if_pos h0] at h; injection h with e1 e2; subst e1; decide
          rw [if_neg h0] at h
          simp only at h
          by_cases ht : b.getD a 0 = 0
          · rw [if_pos ht] at h
            by_cases h1 : a + 1 = b.length
            · rw [if_pos h1] at h; injection h with e1 e2; subst e1; decide
            rw [if_neg h1] at h
            cases h
          · rw [if_neg ht] at h
            by_cases ht1 : b.getD a 0 = 1
            · rw [if_pos ht1] at h
              cases hn1 : numR b (a + 1) 4095 with
              | bad e' x => rw [hn1] at h; injection h with e1 e2; subst e1; exact num _ _ _ _ hn1
              | ok l a2 =>
                rw [hn1] at h
                simp only at h
                cases hn2 : numR b a2 4095 with
                | bad e' x => rw [hn2] at h; injection h with e1 e2; subst e1; exact num _ _ _ _ hn2
                | ok r a3 =>
                  rw [hn2] at h
                  simp only at h
                  cases hn3 : numR b a3 4294967295 with
                  | bad e' x => rw [hn3] at h; injection h with e1 e2; subst e1; exact num _ _ _ _ hn3
                  | ok k a4 => rw [hn3] at h; cases h
            · rw [if_neg ht1] at h; injection h with e1 e2; subst e1; decide
        intro m
        induction m with
        | zero => intro a e y h; simp only [piecesR] at h; cases h
        | succ m ih =>
          intro a e y h
          simp only [piecesR] at h
          cases hp : pieceR b a with
          | bad e' x => rw [hp] at h; injection h with e1 e2; subst e1; exact pc _ _ _ hp
          | ok p a1 =>
            rw [hp] at h
            simp only at h
            cases hq : piecesR b m a1 with
            | bad e' x => rw [hq] at h; injection h with e1 e2; subst e1; exact ih _ _ _ hq
            | ok l a' => rw [hq] at h; cases h
      exact hne _ _ _ _ hp h
    | ok l s =>
      rw [hp] at h
      simp only at h
      obtain ⟨p1, p2, p3, p4⟩ := piecesR_ok hb n4 hp
      unfold endE at h
      split at h
      · cases h
      rename_i e1
      split at h
      · cases h
      rename_i e2
      split at h
      · cases h
      rename_i e3
      split at h
      · cases h
      rename_i e4
      injection h with x1 x2
      injection x2 with x2 _
      subst x1
      have e4 : (checkE (l.map (·.2))).1 = 0 := by simpa using e4
      have e2 : (b.drop s).take 4 = four (crcN (b.take s)) := by simpa using e2
      have hd : b.drop s = four (crcN (b.take s)) := by
        rw [← e2, List.take_of_length_le (by rw [List.length_drop]; omega)]
      have hbody : b.take s = bodyB (l.map (·.2)) := by
        have h1 : b = magic ++ (putL m ++ ((l.map (·.2)).flatMap pieceB ++ b.drop s)) := by
          rw [← p2, ← n2, ← h6, List.take_append_drop]
        have h2 : b = bodyB (l.map (·.2)) ++ b.drop s := by
          unfold bodyB
          rw [List.length_map, p1]
          simp only [List.append_assoc]
          exact h1
        have h3 : b.take s ++ b.drop s = bodyB (l.map (·.2)) ++ b.drop s := by rw [List.take_append_drop]; exact h2
        exact List.append_cancel_right h3
      refine ⟨?_, e4, fun q hq => (p3 q hq).2, x2.symm, fun q hq => (p3 q hq).1⟩
      unfold fileB
      rw [← hbody, ← hd, List.take_append_drop]
/-! ### what is spoilt -/
theorem fileB_app {xs ys : List Pc} (hx : ∀ p ∈ xs, FormP p) (hy : ∀ p ∈ ys, FormP p) (h1 : xs.length ≤ 4096) (h2 : ys.length ≤ 4096) {r : List Int} (h : fileB xs ++ r = fileB ys) : r = [] := by
  unfold fileB at h
  rw [List.append_assoc] at h
  obtain ⟨e, h⟩ := body_app hx hy h1 h2 h
  subst e
  have := congrArg List.length h
  rw [List.length_append, four_len] at this
  exact List.eq_nil_of_length_eq_zero (by omega)
theorem fileB_byte {xs : List Pc} (h : ∀ p ∈ xs, FormP p) : ∀ c ∈ fileB xs, 0 ≤ c ∧ c < 256 := by
  intro c hc
  unfold fileB at hc
  rcases List.mem_append.1 hc with e | e
  · exact bodyB_byte h c e
  · exact four_byte _ c e
theorem read_cut {xs : List Pc} (hc : (checkE xs).1 = 0) (hw : ∀ q ∈ xs, wfP q) {m : Nat} (hm : m < (fileB xs).length) : (readE ((fileB xs).take m)).2.2 ≠ 0 := by
  intro h0
  have hf := form_of (good_of hc) hw
  obtain ⟨⟨ws, x, e⟩, hr⟩ : ∃ y, readE ((fileB xs).take m) = y := ⟨_, rfl⟩
  rw [hr] at h0
  simp only at h0
  subst h0
  obtain ⟨h1, h2, h3, h4, h5⟩ := read_ok (fun c hc => fileB_byte hf c (List.mem_of_mem_take hc)) hr
  have h6 : fileB ws ++ (fileB xs).drop m = fileB xs := by rw [← h1, List.take_append_drop]
  have h7 := fileB_app h5 hf (good_of h2).len (good_of hc).len h6
  have := congrArg List.length h7
  rw [List.length_drop] at this
  simp at this
  omega
theorem read_one {xs : List Pc} (hc : (checkE xs).1 = 0) (hw : ∀ q ∈ xs, wfP q) {m : Nat} {c : Int} (hm : m < (fileB xs).length) (hcb : 0 ≤ c ∧ c < 256) (hne : (fileB xs).getD m 0 ≠ c) : (readE ((fileB xs).set m c)).2.2 ≠ 0 := by
  intro h0
  have hf := form_of (good_of hc) hw
  have hxb := fileB_byte hf
  obtain ⟨⟨ws, x, e⟩, hr⟩ : ∃ y, readE ((fileB xs).set m c) = y := ⟨_, rfl⟩
  rw [hr] at h0
  simp only at h0
  subst h0
  obtain ⟨h1, h2, h3, h4, h5⟩ := read_ok (fun d hd => by
    rcases List.mem_or_eq_of_mem_set hd with h | h
    · exact hxb d h
    · subst h; exact hcb) hr
  have hwb := fileB_byte h5
  have hl : (fileB ws).length = (fileB xs).length := by rw [← h1, List.length_set]
  have hlx : (fileB xs).length = (bodyB xs).length + 4 := by unfold fileB; rw [List.length_append, four_len]
  have hlw : (fileB ws).length = (bodyB ws).length + 4 := by unfold fileB; rw [List.length_append, four_len]
  have hbb : (bodyB ws).length = (bodyB xs).length := by omega
  have e1 : (fileB ws).take (bodyB xs).length = bodyB ws := by rw [← hbb]; exact List.take_left' rfl
  have e2 : (fileB xs).take (bodyB xs).length = bodyB xs := List.take_left' rfl
  have e3 : (fileB ws).drop (bodyB xs).length = four (crcN (bodyB ws)) := by rw [← hbb]; exact List.drop_left' rfl
  have e4 : (fileB xs).drop (bodyB xs).length = four (crcN (bodyB xs)) := List.drop_left' rfl
  have hg : (fileB xs).getD m 0 = (fileB xs)[m] := by rw [List.getD_eq_getElem?_getD, List.getElem?_eq_getElem hm]; rfl
  rcases Nat.lt_or_ge m (bodyB xs).length with hlt | hge
  · have h8 : four (crcN (bodyB ws)) = four (crcN (bodyB xs)) := by
      rw [← e3, ← e4, ← h1, List.drop_set_of_lt hlt]
    have h9 := four_inj (crcN_lt (bodyB_byte h5)) (crcN_lt (bodyB_byte hf)) h8
    have h10 : bodyB ws = (bodyB xs).set m c := by rw [← e1, ← h1, List.take_set, e2]
    have h11 : bodyB xs = (bodyB xs).take m ++ (bodyB xs)[m] :: (bodyB xs).drop (m + 1) := by
      rw [← List.drop_eq_getElem_cons hlt, List.take_append_drop]
    have h12 : (bodyB xs).set m c = (bodyB xs).take m ++ c :: (bodyB xs).drop (m + 1) := by
      rw [List.set_eq_take_append_cons_drop, if_pos hlt]
    have hbx := bodyB_byte hf
    have hmx : (bodyB xs)[m] = (fileB xs).getD m 0 := by
      unfold fileB
      rw [List.getD_eq_getElem?_getD, List.getElem?_append_left hlt, List.getElem?_eq_getElem hlt]
      rfl
    rw [h10, h12] at h9
    conv at h9 => rhs; rw [h11]
    exact crcN_one hcb (by rw [hmx, hg]; exact hxb _ (List.getElem_mem hm)) (fun d hd => hbx d (List.mem_of_mem_take hd)) (fun d hd => hbx d (List.mem_of_mem_drop hd)) (fun e => hne (by rw [← hmx]; exact e.symm)) h9
  · have h8 : bodyB ws = bodyB xs := by
      rw [← e1, ← h1, List.take_set_of_le hge, e2]
    have h9 : (fileB xs).set m c = fileB xs := by rw [h1]; unfold fileB; rw [h8]
    have h10 := congrArg (fun l => l.getD m 0) h9
    simp only [List.getD_eq_getElem?_getD, List.getElem?_set_self hm] at h10
    apply hne
    rw [List.getD_eq_getElem?_getD]
    exact h10.symm
end Vf
end Go.Proofs.Ytlodbhlidgepfaa
