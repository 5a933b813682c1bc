/- sha: what Press answers, in plain Lean. sha: digests, in plain Lean. -/
import Derived.Test.YtmjpghaggnpdbaaHWa
set_option linter.unusedVariables false
set_option linter.unusedSimpArgs false
namespace Go.Proofs.Ytmjpghaggnpdbaa
open Go.RowKit

/-- a function with a body is entered -/
theorem callFunc_enters {P : Program} {f : FuncId} {fn : Func} (hf : P.funcs[f]? = some fn) (hn : (fn.name == "runtime.NumGoroutine") = false) (hb : fn.body.isNone = false) (args : Array Value) (w : World) :
    (callFunc f args).run P w = .ok (.enter f args) w := by
  unfold callFunc program
  simp only [Sem.run_bind]
  show (Sem.run P (match P.funcs[f]? with | none => _ | some fn => _) w) = _
  rw [hf]
  simp only [hn, hb]
  rfl

namespace Sha
abbrev B := BitVec 8
/-- words, as the program holds them -/
def arr (l : List U) : Array Value := (l.map V).toArray
/-- bytes -/
abbrev C (x : B) : Value := .int .u8 (x.toNat : Int)
def brr (l : List B) : Array Value := (l.map C).toArray

theorem arr_size (l : List U) : (arr l).size = l.length := by simp [arr]
theorem brr_size (l : List B) : (brr l).size = l.length := by simp [brr]
theorem arr_get (l : List U) (i : Nat) : (arr l)[i]? = (l[i]?).map V := by simp [arr]
theorem brr_get (l : List B) (i : Nat) : (brr l)[i]? = (l[i]?).map C := by simp [brr]
theorem arr_set (l : List U) (i : Nat) (x : U) : (arr l).setIfInBounds i (V x) = arr (l.set i x) := by
  unfold arr; rw [List.map_set]; simp
theorem brr_set (l : List B) (i : Nat) (x : B) : (brr l).setIfInBounds i (C x) = brr (l.set i x) := by
  unfold brr; rw [List.map_set]; simp
theorem arr_one (l : List U) : (arr l).all (·.oneCell') = true := by
  simp [arr, Value.oneCell']
theorem brr_one (l : List B) : (brr l).all (·.oneCell') = true := by
  simp [brr, Value.oneCell']

def KU : List U := KS.map (BitVec.ofNat 32)
def HU : List U := HS.map (BitVec.ofNat 32)
theorem KA_eq : KA = arr KU := by kernel_rfl
theorem HA_eq : HA = arr HU := by kernel_rfl

/-- four bytes make a word -/
def word (a b c d : B) : U := (a.setWidth 32) <<< 24 ||| (b.setWidth 32) <<< 16 ||| (c.setWidth 32) <<< 8 ||| d.setWidth 32
def sg0 (x : U) : U := rr x 7 ^^^ rr x 18 ^^^ x >>> 3
def sg1 (x : U) : U := rr x 17 ^^^ rr x 19 ^^^ x >>> 10
def bg0 (x : U) : U := rr x 2 ^^^ rr x 13 ^^^ rr x 22
def bg1 (x : U) : U := rr x 6 ^^^ rr x 11 ^^^ rr x 25

abbrev gt (l : List U) (i : Nat) : U := l.getD i 0
/-- the first sixteen words of a block, of which i are laid -/
def lay (b : List B) (i : Nat) : U := word (b.getD (4 * i) 0) (b.getD (4 * i + 1) 0) (b.getD (4 * i + 2) 0) (b.getD (4 * i + 3) 0)
def ext (W : List U) (j : Nat) : U := gt W j + sg0 (gt W (j + 1)) + gt W (j + 9) + sg1 (gt W (j + 14))
def W0 (b : List B) : Nat → List U
  | 0 => List.replicate 64 0
  | i + 1 => (W0 b i).set i (lay b i)
def W1 (W : List U) : Nat → List U
  | 0 => W
  | j + 1 => (W1 W j).set (j + 16) (ext (W1 W j) j)
theorem W0_len (b : List B) : ∀ i, (W0 b i).length = 64
  | 0 => by simp [W0]
  | i + 1 => by rw [W0, List.length_set, W0_len]
theorem W1_len (W : List U) (h : W.length = 64) : ∀ i, (W1 W i).length = 64
  | 0 => h
  | i + 1 => by rw [W1, List.length_set, W1_len W h]

/-- a round -/
def rnd (s : List U) (k w : U) : List U :=
  let t1 := gt s 7 + bg1 (gt s 4) + (gt s 6 ^^^ (gt s 4 &&& (gt s 5 ^^^ gt s 6))) + k + w
  let t2 := bg0 (gt s 0) + ((gt s 0 &&& gt s 1) ^^^ (gt s 0 &&& gt s 2) ^^^ (gt s 1 &&& gt s 2))
  [t1 + t2, gt s 0, gt s 1, gt s 2, gt s 3 + t1, gt s 4, gt s 5, gt s 6]
def rnds (W : List U) (s : List U) : Nat → List U
  | 0 => s
  | i + 1 => rnd (rnds W s i) (gt KU i) (gt W i)
theorem rnds_len (W s : List U) (h : s.length = 8) : ∀ i, (rnds W s i).length = 8
  | 0 => h
  | i + 1 => rfl
def addTo (h v : List U) : Nat → List U
  | 0 => h
  | i + 1 => (addTo h v i).set i (gt (addTo h v i) i + gt v i)
theorem addTo_len (h v : List U) (hh : h.length = 8) : ∀ i, (addTo h v i).length = 8
  | 0 => hh
  | i + 1 => by rw [addTo, List.length_set, addTo_len h v hh]
/-- a block is pressed into eight words -/
def press (h : List U) (b : List B) : List U := addTo h (rnds (W1 (W0 b 16) 48) h 64) 8

theorem gt_get {l : List U} {i : Nat} (h : i < l.length) : l[i]? = some (gt l i) := by simp [gt, h]
end Sha
end Go.Proofs.Ytmjpghaggnpdbaa

namespace Go.Proofs.Ytmjpghaggnpdbaa
open Go.RowKit
namespace Sha

theorem press_len (h : List U) (b : List B) (hh : h.length = 8) : (press h b).length = 8 := addTo_len _ _ hh _

/-- k blocks of l go in -/
def eat (h : List U) (l : List B) : Nat → List U
  | 0 => h
  | k + 1 => press (eat h l k) ((l.drop (64 * k)).take 64)
theorem eat_len (h : List U) (l : List B) (hh : h.length = 8) : ∀ k, (eat h l k).length = 8
  | 0 => hh
  | k + 1 => press_len _ _ (eat_len h l hh k)
theorem eat_app (h : List U) (l m : List B) : ∀ k, 64 * k ≤ l.length → eat h (l ++ m) k = eat h l k
  | 0, _ => rfl
  | k + 1, hk => by
    rw [eat, eat, eat_app h l m k (by omega), List.drop_append_of_le_length (by omega), List.take_append_of_le_length (by rw [List.length_drop]; omega)]
theorem eat_add (h : List U) (l : List B) (a : Nat) : ∀ k, eat h l (a + k) = eat (eat h l a) (l.drop (64 * a)) k
  | 0 => rfl
  | k + 1 => by
    rw [← Nat.add_assoc, eat, eat, eat_add h l a k, List.drop_drop]
    congr 3
    omega

/-- the state behind all these bytes, and what is left over -/
def stt (l : List B) : List U := eat HU l (l.length / 64)
def rem (l : List B) : List B := l.drop (64 * (l.length / 64))
theorem stt_len (l : List B) : (stt l).length = 8 := eat_len _ _ rfl _
theorem rem_len (l : List B) : (rem l).length < 64 := by unfold rem; rw [List.length_drop]; omega
theorem take_len (l xs : List B) : (l ++ xs).length / 64 = l.length / 64 + (rem l ++ xs).length / 64 := by
  unfold rem; rw [List.length_append, List.length_append, List.length_drop]; omega
theorem take_stt (l xs : List B) : eat (stt l) (rem l ++ xs) ((rem l ++ xs).length / 64) = stt (l ++ xs) := by
  have e : (l ++ xs).drop (64 * (l.length / 64)) = rem l ++ xs := by rw [List.drop_append_of_le_length (by omega)]; rfl
  have h1 : stt (l ++ xs) = eat HU (l ++ xs) (l.length / 64 + (rem l ++ xs).length / 64) := by rw [← take_len]; rfl
  rw [h1, eat_add, eat_app HU l xs _ (by omega), e]
  rfl
theorem take_rem (l xs : List B) : (rem l ++ xs).drop (64 * ((rem l ++ xs).length / 64)) = rem (l ++ xs) := by
  have e : (l ++ xs).drop (64 * (l.length / 64)) = rem l ++ xs := by rw [List.drop_append_of_le_length (by omega)]; rfl
  have h1 : rem (l ++ xs) = (l ++ xs).drop (64 * (l.length / 64 + (rem l ++ xs).length / 64)) := by rw [← take_len]; rfl
  rw [h1, Nat.mul_add, ← List.drop_drop, e]
theorem stt_nil : stt [] = HU := rfl
theorem rem_nil : rem [] = [] := rfl

/-- what stands behind n bytes: i of the eight last are laid -/
def psize (n : Nat) : Nat := (64 - (n + 9) % 64) % 64 + 9
def pby (n i : Nat) : B := BitVec.ofNat 8 (8 * n / 2 ^ (8 * i))
def padI (n : Nat) : Nat → List B
  | 0 => (List.replicate (psize n) 0).set 0 128#8
  | i + 1 => (padI n i).set (psize n - 1 - i) (pby n i)
theorem padI_len (n : Nat) : ∀ i, (padI n i).length = psize n
  | 0 => by simp [padI]
  | i + 1 => by rw [padI, List.length_set, padI_len]
def pad (n : Nat) : List B := padI n 8
theorem pad_len (n : Nat) : (pad n).length = psize n := padI_len n 8
theorem psize_mod (n : Nat) : (n + psize n) % 64 = 0 ∧ 9 ≤ psize n ∧ psize n ≤ 72 := by unfold psize; omega
theorem padI_get (n : Nat) : ∀ i, i ≤ 8 → ∀ j, j < psize n → (padI n i)[j]? = some (if psize n - 1 - j < i then pby n (psize n - 1 - j) else if j = 0 then 128#8 else 0#8)
  | 0, _, j, hj => by
    rw [padI, List.getElem?_set, List.length_replicate]
    by_cases h : 0 = j
    · subst h; simp; omega
    · rw [if_neg h, if_neg (by omega), if_neg (fun e => h e.symm)]; simp [hj]
  | i + 1, hi, j, hj => by
    have ih := padI_get n i (by omega) j hj
    have hp := psize_mod n
    rw [padI, List.getElem?_set, padI_len]
    by_cases h : psize n - 1 - i = j
    · rw [if_pos h, if_pos (by omega), if_pos (by omega)]
      congr 2; omega
    · rw [if_neg h, ih]
      congr 1
      by_cases h2 : psize n - 1 - j < i
      · rw [if_pos h2, if_pos (by omega)]
      · rw [if_neg h2]; exact (if_neg (by omega)).symm
/-- the same as a list that grows -/
theorem pad_eq (n : Nat) : pad n = 128#8 :: List.replicate (psize n - 9) 0#8 ++ [pby n 7, pby n 6, pby n 5, pby n 4, pby n 3, pby n 2, pby n 1, pby n 0] := by
  have hp := psize_mod n
  apply List.ext_getElem?
  intro j
  by_cases hj : j < psize n
  · rw [pad, padI_get n 8 (by omega) j hj]
    by_cases h0 : j = 0
    · subst h0; rw [if_neg (by omega), if_pos rfl]; rfl
    · by_cases h1 : j < psize n - 8
      · rw [if_neg (by omega), if_neg h0, List.getElem?_append_left (by simp; omega)]
        obtain ⟨k, rfl⟩ : ∃ k, j = k + 1 := ⟨j - 1, by omega⟩
        rw [List.getElem?_cons_succ, List.getElem?_replicate, if_pos (by omega)]
      · rw [if_pos (by omega), List.getElem?_append_right (by simp; omega)]
        obtain ⟨k, hk, hk8⟩ : ∃ k, psize n - 1 - j = k ∧ k < 8 := ⟨_, rfl, by omega⟩
        have e : j - (128#8 :: List.replicate (psize n - 9) 0#8).length = 7 - k := by simp; omega
        rw [hk, e]
        match k, hk8 with
        | 0, _ | 1, _ | 2, _ | 3, _ | 4, _ | 5, _ | 6, _ | 7, _ => rfl
  · rw [List.getElem?_eq_none (by rw [pad_len]; omega), List.getElem?_eq_none (by simp; omega)]

/-- the digest's bytes: of i words they are laid -/
def byt (x : U) (s : Nat) : B := (x >>> s).setWidth 8
def digI (h : List U) : Nat → List B
  | 0 => List.replicate 32 0
  | i + 1 => ((((digI h i).set (4 * i) (byt (gt h i) 24)).set (4 * i + 1) (byt (gt h i) 16)).set (4 * i + 2) (byt (gt h i) 8)).set (4 * i + 3) (byt (gt h i) 0)
theorem digI_len (h : List U) : ∀ i, (digI h i).length = 32
  | 0 => by simp [digI]
  | i + 1 => by simp [digI, digI_len h i]
theorem digI_get (h : List U) : ∀ i, i ≤ 8 → ∀ j, j < 32 → (digI h i)[j]? = some (if j < 4 * i then byt (gt h (j / 4)) (24 - 8 * (j % 4)) else 0)
  | 0, _, j, hj => by rw [digI, List.getElem?_replicate, if_pos hj, if_neg (by omega)]
  | i + 1, hi, j, hj => by
    have ih := digI_get h i (by omega) j hj
    rw [digI]
    simp only [List.getElem?_set, List.length_set, digI_len]
    by_cases h3 : 4 * i + 3 = j
    · rw [if_pos h3, if_pos (by omega), if_pos (by omega)]
      have e1 : j / 4 = i := by omega
      have e2 : 24 - 8 * (j % 4) = 0 := by omega
      rw [e1, e2]
    · rw [if_neg h3]
      by_cases h2 : 4 * i + 2 = j
      · rw [if_pos h2, if_pos (by omega), if_pos (by omega)]
        have e1 : j / 4 = i := by omega
        have e2 : 24 - 8 * (j % 4) = 8 := by omega
        rw [e1, e2]
      · rw [if_neg h2]
        by_cases h1 : 4 * i + 1 = j
        · rw [if_pos h1, if_pos (by omega), if_pos (by omega)]
          have e1 : j / 4 = i := by omega
          have e2 : 24 - 8 * (j % 4) = 16 := by omega
          rw [e1, e2]
        · rw [if_neg h1]
          by_cases h0 : 4 * i = j
          · rw [if_pos h0, if_pos (by omega), if_pos (by omega)]
            have e1 : j / 4 = i := by omega
            have e2 : 24 - 8 * (j % 4) = 24 := by omega
            rw [e1, e2]
          · rw [if_neg h0, ih]
            congr 1
            by_cases h4 : j < 4 * i
            · rw [if_pos h4, if_pos (by omega)]
            · rw [if_neg h4, if_neg (by omega)]
def dig (h : List U) : List B := digI h 8
theorem dig_len (h : List U) : (dig h).length = 32 := digI_len h 8
/-- the sum of bytes -/
def sum (l : List B) : List B := dig (stt (l ++ pad l.length))
theorem sum_len (l : List B) : (sum l).length = 32 := dig_len _
theorem dig_get (h : List U) (j : Nat) (hj : j < 32) : (dig h)[j]? = some (byt (gt h (j / 4)) (24 - 8 * (j % 4))) := by
  rw [dig, digI_get h 8 (by omega) j hj, if_pos (by omega)]
end Sha
end Go.Proofs.Ytmjpghaggnpdbaa
