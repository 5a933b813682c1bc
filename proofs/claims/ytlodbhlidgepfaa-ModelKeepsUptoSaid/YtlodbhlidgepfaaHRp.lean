/- sha: stookref04.Behind. sha: stookref04.Sum. -/
import Derived.Test.YtlodbhlidgepfaaHSpec
import Derived.Test.YtlodbhlidgepfaaLib
import Derived.BigQuiet
import Derived.Deep.QuietTactic
set_option linter.unusedVariables false
set_option linter.unusedSimpArgs false
namespace Go.Proofs.Ytlodbhlidgepfaa
open Go.RowKit
namespace Sha

/-- the value 'behind' gives, read as a row -/
theorem pad_own {w : World} {g base : Nat} {n : Nat} (h : Blk w g TU8 (brr (pad n))) (hb : base ≤ g) : w.ownsRow base TU8 1 (.slice (some ⟨g, 0, none⟩) (psize n) (psize n)) (psize n) ((pad n).flatMap eb) := by
  have h1 := own_blk h hb (by rw [pad_len]; have := psize_mod n; unfold maxLen; omega)
  rw [pad_len] at h1
  exact h1
/-- what the reference has laid -/
def rpadI (n k i : Nat) : List B := 128#8 :: List.replicate k 0#8 ++ ((List.range i).map fun j => pby n (7 - j))
theorem rpad_succ0 (n k : Nat) : rpadI n k 0 ++ [0#8] = rpadI n (k + 1) 0 := by
  simp [rpadI, List.replicate_succ']
theorem rpad_succ (n k i : Nat) : rpadI n k i ++ [pby n (7 - i)] = rpadI n k (i + 1) := by
  simp [rpadI, List.range_succ]
theorem rpad_end (n : Nat) : rpadI n (psize n - 9) 8 = pad n := by
  rw [pad_eq]; rfl
theorem rpad_len (n k i : Nat) : (rpadI n k i).length = 1 + k + i := by simp [rpadI]; omega

/-- bytes as whole numbers, as words of eight bits -/
theorem ofInts_sl {w : World} {v : Value} {xs : List Int} (hs : SL (fun x : Int => [Value.int .u8 x]) w v xs) (h : ∀ x ∈ xs, 0 ≤ x ∧ x < 256) : SL eb w v (xs.map (BitVec.ofInt 8)) := by
  have hc : ∀ xs : List Int, (∀ x ∈ xs, 0 ≤ x ∧ x < 256) → (xs.map (BitVec.ofInt 8)).flatMap eb = xs.flatMap (fun x : Int => [Value.int .u8 x]) := by
    intro xs
    induction xs with
    | nil => intro _; rfl
    | cons x r ih =>
      intro h
      rw [List.map_cons, List.flatMap_cons, List.flatMap_cons, ih (fun y hy => h y (List.mem_cons_of_mem _ hy))]
      have := h x (by simp)
      have e : eb (BitVec.ofInt 8 x) = [Value.int .u8 x] := by
        show [C (BitVec.ofInt 8 x)] = _
        have : ((BitVec.ofInt 8 x).toNat : Int) = x := by rw [BitVec.toNat_ofInt]; omega
        simp only [C, this]
      rw [e]
  obtain ⟨A, cap, rfl, hl, hr⟩ := hs
  refine ⟨A, cap, by rw [List.length_map], by rw [List.length_map]; exact hl, fun h0 => ?_⟩
  rw [List.length_map] at h0
  obtain ⟨b, off, rfl, hq, hcell⟩ := hr h0
  exact ⟨b, off, rfl, hq, by rw [hc xs h]; exact hcell⟩
end Sha
end Go.Proofs.Ytlodbhlidgepfaa

namespace Go.Proofs.Ytlodbhlidgepfaa
open Go.RowKit
namespace Sha

/-- of these bytes i are laid, zeros behind them -/
def fill (c : List B) (n i : Nat) : List B := c.take i ++ List.replicate (n - i) 0
theorem fill_len (c : List B) (n i : Nat) (h : c.length = n) (hi : i ≤ n) : (fill c n i).length = n := by simp [fill]; omega
theorem fill_zero (c : List B) (n : Nat) : fill c n 0 = List.replicate n 0 := by simp [fill]
theorem fill_all (c : List B) (n : Nat) (h : c.length = n) : fill c n n = c := by simp [fill, ← h]
theorem fill_set (c : List B) (n i : Nat) (h : c.length = n) (hi : i < n) : (fill c n i).set i (c.getD i 0) = fill c n (i + 1) := by
  have hl : (c.take i).length = i := by rw [List.length_take]; omega
  obtain ⟨m, hm⟩ : ∃ m, n - i = m + 1 := ⟨n - i - 1, by omega⟩
  have hm' : n - (i + 1) = m := by omega
  unfold fill
  rw [List.set_append_right _ _ (by omega), hl, Nat.sub_self, hm, hm', List.replicate_succ, List.set_cons_zero, List.take_succ_eq_append_getElem (by omega)]
  rw [List.append_assoc, List.getD_eq_getElem?_getD, List.getElem?_eq_getElem (show i < c.length by omega)]; rfl

/-- a block of 64 of a row -/
theorem chunk_len (L : List B) (k : Nat) (h : 64 * k + 64 ≤ L.length) : ((L.drop (64 * k)).take 64).length = 64 := by simp; omega
theorem chunk_get (L : List B) (k i : Nat) (hi : i < 64) : ((L.drop (64 * k)).take 64).getD i 0 = L.getD (64 * k + i) 0 := by
  simp [List.getElem?_take, hi]

end Sha
end Go.Proofs.Ytlodbhlidgepfaa
