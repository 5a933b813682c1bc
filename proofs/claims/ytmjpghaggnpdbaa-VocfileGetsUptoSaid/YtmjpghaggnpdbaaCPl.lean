/- crc, in plain Lean. -/
import Derived.Test.YtmjpghaggnpdbaaLib
set_option linter.unusedVariables false
set_option linter.unusedSimpArgs false
namespace Go.Proofs.Ytmjpghaggnpdbaa
open Go.RowKit
namespace Crc
/-- one bit goes out -/
def stepN (r : Nat) : Nat := if r % 2 = 0 then r / 2 else (r / 2) ^^^ 2197175160
def takeN (r c : Nat) : Nat := stepN (stepN (stepN (stepN (stepN (stepN (stepN (stepN (r ^^^ c))))))))
def moreN (r : Nat) (bs : List Int) : Nat := bs.foldl (fun r c => takeN r c.toNat) r
def crcN (bs : List Int) : Nat := moreN 4294967295 bs ^^^ 4294967295
theorem xor_lt {a b : Nat} (ha : a < 2 ^ 32) (hb : b < 2 ^ 32) : a ^^^ b < 2 ^ 32 := Nat.xor_lt_two_pow ha hb
theorem stepN_lt {r : Nat} (h : r < 2 ^ 32) : stepN r < 2 ^ 32 := by
  unfold stepN
  split
  · omega
  · exact xor_lt (by omega) (by decide)
theorem takeN_lt {r c : Nat} (h : r < 2 ^ 32) (hc : c < 2 ^ 32) : takeN r c < 2 ^ 32 := by
  unfold takeN
  exact stepN_lt (stepN_lt (stepN_lt (stepN_lt (stepN_lt (stepN_lt (stepN_lt (stepN_lt (xor_lt h hc))))))))
theorem moreN_lt : ∀ (bs : List Int) (r : Nat), (∀ c ∈ bs, 0 ≤ c ∧ c < 256) → r < 2 ^ 32 → moreN r bs < 2 ^ 32
  | [], r, _, h => h
  | c :: bs, r, hb, h => moreN_lt bs _ (fun c hc => hb c (List.mem_cons_of_mem _ hc)) (takeN_lt h (by have := hb c (by simp); omega))
theorem crcN_lt {bs : List Int} (hb : ∀ c ∈ bs, 0 ≤ c ∧ c < 256) : crcN bs < 2 ^ 32 := xor_lt (moreN_lt bs _ hb (by decide)) (by decide)
theorem moreN_app (r : Nat) (a b : List Int) : moreN r (a ++ b) = moreN (moreN r a) b := List.foldl_append
/-- a step is undone by its top bit -/
theorem stepN_top {r : Nat} (h : r < 2 ^ 32) : (stepN r).testBit 31 = decide (r % 2 = 1) := by
  unfold stepN
  split
  · rename_i h0
    have : r / 2 < 2 ^ 31 := by omega
    rw [Nat.testBit_lt_two_pow this]
    simp [h0]
  · rename_i h0
    have : r / 2 < 2 ^ 31 := by omega
    rw [Nat.testBit_xor, Nat.testBit_lt_two_pow this]
    have h1 : r % 2 = 1 := by omega
    simp [h1]
    decide
theorem xor_can {a b c : Nat} (h : a ^^^ c = b ^^^ c) : a = b := by
  have := congrArg (· ^^^ c) h
  simpa [Nat.xor_assoc] using this
theorem stepN_inj {a b : Nat} (ha : a < 2 ^ 32) (hb : b < 2 ^ 32) (h : stepN a = stepN b) : a = b := by
  have h1 := stepN_top ha
  have h2 := stepN_top hb
  rw [h, h2] at h1
  unfold stepN at h
  have h3 : a % 2 = b % 2 := by
    by_cases ha1 : a % 2 = 1 <;> by_cases hb1 : b % 2 = 1 <;> simp [ha1, hb1] at h1 <;> omega
  by_cases ha0 : a % 2 = 0
  · rw [if_pos ha0, if_pos (by omega)] at h
    omega
  · rw [if_neg ha0, if_neg (by omega)] at h
    have := xor_can h
    omega
theorem takeN_inj {r s c d : Nat} (hr : r < 2 ^ 32) (hs : s < 2 ^ 32) (hc : c < 2 ^ 32) (hd : d < 2 ^ 32) (h : takeN r c = takeN s d) : r ^^^ c = s ^^^ d := by
  unfold takeN at h
  have a0 := xor_lt hr hc
  have b0 := xor_lt hs hd
  have a1 := stepN_lt a0
  have b1 := stepN_lt b0
  have a2 := stepN_lt a1
  have b2 := stepN_lt b1
  have a3 := stepN_lt a2
  have b3 := stepN_lt b2
  have a4 := stepN_lt a3
  have b4 := stepN_lt b3
  have a5 := stepN_lt a4
  have b5 := stepN_lt b4
  have a6 := stepN_lt a5
  have b6 := stepN_lt b5
  have a7 := stepN_lt a6
  have b7 := stepN_lt b6
  exact stepN_inj a0 b0 (stepN_inj a1 b1 (stepN_inj a2 b2 (stepN_inj a3 b3 (stepN_inj a4 b4 (stepN_inj a5 b5 (stepN_inj a6 b6 (stepN_inj a7 b7 h)))))))
theorem moreN_inj : ∀ (bs : List Int) (r s : Nat), (∀ c ∈ bs, 0 ≤ c ∧ c < 256) → r < 2 ^ 32 → s < 2 ^ 32 → moreN r bs = moreN s bs → r = s
  | [], r, s, _, _, _, h => h
  | c :: bs, r, s, hb, hr, hs, h => by
    have hc := hb c (by simp)
    have hc' : c.toNat < 2 ^ 32 := by omega
    have := moreN_inj bs _ _ (fun c hc => hb c (List.mem_cons_of_mem _ hc)) (takeN_lt hr hc') (takeN_lt hs hc') h
    exact xor_can (takeN_inj hr hs hc' hc' this)
/-- one byte is another one: so is the sum -/
theorem crcN_one {a b : List Int} {c d : Int} (hc : 0 ≤ c ∧ c < 256) (hd : 0 ≤ d ∧ d < 256) (ha : ∀ c ∈ a, 0 ≤ c ∧ c < 256) (hb : ∀ c ∈ b, 0 ≤ c ∧ c < 256) (hne : c ≠ d) : crcN (a ++ c :: b) ≠ crcN (a ++ d :: b) := by
  intro h
  unfold crcN at h
  have h1 := xor_can h
  rw [moreN_app, moreN_app] at h1
  have hr : moreN 4294967295 a < 2 ^ 32 := moreN_lt a _ ha (by decide)
  have hc' : c.toNat < 2 ^ 32 := by omega
  have hd' : d.toNat < 2 ^ 32 := by omega
  have h2 := moreN_inj b _ _ hb (takeN_lt hr hc') (takeN_lt hr hd') h1
  have h3 := takeN_inj hr hr hc' hd' h2
  rw [Nat.xor_comm _ c.toNat, Nat.xor_comm _ d.toNat] at h3
  have := xor_can h3
  omega
/-- four bytes, the lowest first -/
def four (n : Nat) : List Int := [((n % 256 : Nat) : Int), ((n / 256 % 256 : Nat) : Int), ((n / 65536 % 256 : Nat) : Int), ((n / 16777216 % 256 : Nat) : Int)]
theorem four_len (n : Nat) : (four n).length = 4 := rfl
theorem four_byte (n : Nat) : ∀ c ∈ four n, 0 ≤ c ∧ c < 256 := by
  intro c hc
  simp [four] at hc
  omega
theorem four_inj {m n : Nat} (hm : m < 2 ^ 32) (hn : n < 2 ^ 32) (h : four m = four n) : m = n := by
  simp [four] at h
  omega
end Crc
end Go.Proofs.Ytmjpghaggnpdbaa
