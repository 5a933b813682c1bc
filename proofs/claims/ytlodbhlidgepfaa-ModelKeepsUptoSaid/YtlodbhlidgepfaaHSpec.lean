/- sha: words, and the small functions. sha: what Press answers, in plain Lean. sha: digests, in plain Lean. sha: Press. sha: the reference's Press. sha: behind, New, Copy. sha: take. sha: Sum of a hash. sha: Sum of bytes, Text. -/
import Derived.Test.YtlodbhlidgepfaaFrame
import Derived.Test.YtlodbhlidgepfaaLib
import Derived.BigQuiet
import Derived.BigRegion
import Derived.Deep.QuietTactic
import Derived.Deep.LoopGhost
import Derived.Deep.DeepCutAuto
import Derived.Deep.CutBlock
import Derived.Deep.WholeRow
import Derived.StillTailTactics
import Derived.IntWalk
import Derived.Deep.RegionHeld3
import Derived.Laws.MakeOwn
import Derived.Deep.MidRow
import Derived.Deep.RegionLaw
set_option linter.unusedVariables false
set_option linter.unusedSimpArgs false
namespace Go.Proofs.Ytlodbhlidgepfaa
open Go.RowKit

namespace Sha
abbrev U := BitVec 32
/-- a word as the program holds it -/
abbrev V (x : U) : Value := .int .u32 (x.toNat : Int)

theorem wrap32 (n : Int) : IntKind.u32.wrap n = n % 4294967296 := by simp [IntKind.wrap, IntKind.bits, IntKind.signed]
theorem ofInt_toNat (a : U) : BitVec.ofInt 32 (a.toNat : Int) = a := by
  apply BitVec.eq_of_toNat_eq
  rw [BitVec.toNat_ofInt]
  have := a.isLt
  omega
theorem bits_or (a b : U) : bits .or .u32 (a.toNat : Int) (b.toNat : Int) = ((a ||| b).toNat : Int) := by
  show IntKind.u32.wrap ((BitVec.ofInt 32 _ ||| BitVec.ofInt 32 _).toNat : Int) = _
  rw [ofInt_toNat, ofInt_toNat, wrap32]
  have := (a ||| b).isLt
  omega
theorem bits_and (a b : U) : bits .and .u32 (a.toNat : Int) (b.toNat : Int) = ((a &&& b).toNat : Int) := by
  show IntKind.u32.wrap ((BitVec.ofInt 32 _ &&& BitVec.ofInt 32 _).toNat : Int) = _
  rw [ofInt_toNat, ofInt_toNat, wrap32]
  have := (a &&& b).isLt
  omega
theorem bits_xor (a b : U) : bits .xor .u32 (a.toNat : Int) (b.toNat : Int) = ((a ^^^ b).toNat : Int) := by
  show IntKind.u32.wrap ((BitVec.ofInt 32 _ ^^^ BitVec.ofInt 32 _).toNat : Int) = _
  rw [ofInt_toNat, ofInt_toNat, wrap32]
  have := (a ^^^ b).isLt
  omega
theorem add_w (a b : U) : ((a.toNat : Int) + (b.toNat : Int)) % 4294967296 = ((a + b).toNat : Int) := by
  rw [BitVec.toNat_add]; omega
theorem shr_w (a : U) (n : Nat) : (a.toNat : Int) / 2 ^ n = ((a >>> n).toNat : Int) := by
  rw [BitVec.toNat_ushiftRight, Nat.shiftRight_eq_div_pow]; simp
theorem shl_w (a : U) (n : Nat) : (a.toNat : Int) * 2 ^ n % 4294967296 = ((a <<< n).toNat : Int) := by
  rw [BitVec.toNat_shiftLeft, Nat.shiftLeft_eq]; simp

/-- a word turned right -/
def rr (x : U) (n : Nat) : U := x >>> n ||| x <<< (32 - n)

theorem rot_any (x : U) (k : Int) (s : Nat) (hk : bits .and .u64 (IntKind.u64.wrap k) 31 = (s : Int)) (h0 : 0 < s) (h1 : s < 32) (w : World) :
    Calls Try.prog 97 #[V x, .int .i64 k] w fun e w' => e = .returned (V (rr x (32 - s))) ∧ w' = w := by
  have h2 : ((s : Int)).toNat = s := rfl
  have h3 : IntKind.u64.wrap (32 - (s : Int)) = ((32 - s : Nat) : Int) := by simp [IntKind.wrap, IntKind.bits, IntKind.signed]; omega
  have h4 : (((32 - s : Nat) : Int)).toNat = 32 - s := rfl
  have h5 : (0 : Int) ≤ s := by omega
  have h6 : (s : Int) ≤ 32 := by omega
  have h7 : (0 : Int) ≤ ((32 - s : Nat) : Int) := by omega
  have h8 : ((32 - s : Nat) : Int) ≤ 32 := by omega
  go_enter Try.func97, Try.ntmps97
  go_wp2
  go_ret
  refine ⟨?_, rfl⟩
  rw [shl_w, shr_w, bits_or]
  have : 32 - (32 - s) = s := by omega
  unfold rr
  rw [this, BitVec.or_comm]
  rfl
theorem turn_any (x : U) (n : Nat) (h0 : 0 < n) (h1 : n < 32) (w : World) :
    Calls Try.prog 96 #[V x, .int .i64 n] w fun e w' => e = .returned (V (rr x n)) ∧ w' = w := by
  have a1 : bits .and .u64 (IntKind.u64.wrap (-(n : Int))) 31 = ((32 - n : Nat) : Int) := by
    have : ∀ n : Fin 32, 0 < n.val → bits .and .u64 (IntKind.u64.wrap (-(n.val : Int))) 31 = ((32 - n.val : Nat) : Int) := by decide +kernel
    exact this ⟨n, h1⟩ h0
  have H := Lib.hid (fun w => rot_any x _ _ a1 (by omega) (by omega) w)
  have e : 32 - (32 - n) = n := by omega
  rw [e] at H
  clear a1 e
  go_enter Try.func96, Try.ntmps96
  go_wp2_with (go_at_call 97; refine (H.out _).mono ?_; rintro e w' ⟨rfl, rfl⟩)
  go_ret
  exact ⟨rfl, rfl⟩

/-! ### the tables -/
section
variable {P : Program}
theorem wpList_build_to {ops : Array Oper} {rest : List Oper} {o : Oper} {a : Act} {w : World} {Q : Exit → Act → World → Prop} (hg : o.guard = none) (t : TypeId) (parts : Array (Nat × Operand)) (ho : o.op = .build t parts)
    (cells : Array Value) (hf : P.built t (parts.map fun (i, x) => (i, a.eval x)).toList = some cells)
    (h : wpList P ops Q rest (a.put o.dst (.agg cells)) w) : wpList P ops Q (o :: rest) a w :=
  wpList_build hg t parts ho (by rw [hf]; rfl) (by rw [hf]; exact h)
theorem wpList_store_new {ops : Array Oper} {rest : List Oper} {o : Oper} {a : Act} {w w0 : World} {Q : Exit → Act → World → Prop} (hgd : o.guard = none) (ty : TypeId) (x y : Operand) (ho : o.op = .store ty x y)
    (cells : Array Value) (t : TypeId) (old : Array Value) (hx : a.eval x = .pointer (some ⟨w0.heap.size, 0, none⟩)) (hy : a.eval y = .agg cells)
    (hw : w = w0.alloc (.cells old t)) (hi : (P.info? ty).map (·.size) = some cells.size)
    (hold : old.size = cells.size) (h1 : cells.all (·.oneCell') = true)
    (h : wpList P ops Q rest (a.put o.dst undef) (w0.alloc (.cells cells t))) : wpList P ops Q (o :: rest) a w := by
  subst hw
  refine wpList_store_row hgd ty x y ho w0.heap.size cells hx hy t old (heap_alloc_last _ _) hi hold h1 ?_
  rw [World.setRow_alloc_new]
  exact h
end

def vals (l : List Nat) : Array Value := (l.map fun n : Nat => Value.int .u32 (n : Int)).toArray
def KS : List Nat := [0x428a2f98, 0x71374491, 0xb5c0fbcf, 0xe9b5dba5, 0x3956c25b, 0x59f111f1, 0x923f82a4, 0xab1c5ed5, 0xd807aa98, 0x12835b01, 0x243185be, 0x550c7dc3, 0x72be5d74, 0x80deb1fe, 0x9bdc06a7, 0xc19bf174, 0xe49b69c1, 0xefbe4786, 0x0fc19dc6, 0x240ca1cc, 0x2de92c6f, 0x4a7484aa, 0x5cb0a9dc, 0x76f988da, 0x983e5152, 0xa831c66d, 0xb00327c8, 0xbf597fc7, 0xc6e00bf3, 0xd5a79147, 0x06ca6351, 0x14292967, 0x27b70a85, 0x2e1b2138, 0x4d2c6dfc, 0x53380d13, 0x650a7354, 0x766a0abb, 0x81c2c92e, 0x92722c85, 0xa2bfe8a1, 0xa81a664b, 0xc24b8b70, 0xc76c51a3, 0xd192e819, 0xd6990624, 0xf40e3585, 0x106aa070, 0x19a4c116, 0x1e376c08, 0x2748774c, 0x34b0bcb5, 0x391c0cb3, 0x4ed8aa4a, 0x5b9cca4f, 0x682e6ff3, 0x748f82ee, 0x78a5636f, 0x84c87814, 0x8cc70208, 0x90befffa, 0xa4506ceb, 0xbef9a3f7, 0xc67178f2]
def KA : Array Value := (KS.map fun n : Nat => Value.int .u32 (n : Int)).toArray
def HS : List Nat := [0x6a09e667, 0xbb67ae85, 0x3c6ef372, 0xa54ff53a, 0x510e527f, 0x9b05688c, 0x1f83d9ab, 0x5be0cd19]
def HA : Array Value := (HS.map fun n : Nat => Value.int .u32 (n : Int)).toArray

set_option maxRecDepth 100000 in
theorem const_any (w : World) :
    Calls Try.prog 95 #[] w fun e w' => e = .returned (.agg KA) ∧ Gr w w' := by
  go_enter Try.func95, Try.ntmps95
  go_wp2_with (first
    | refine wpList_build_to rfl _ _ rfl KA (by kernel_rfl) ?_
    | refine wpList_store_new (w0 := w) rfl _ _ _ rfl KA _ _ rfl rfl rfl (by kernel_rfl) (by kernel_rfl) (by kernel_rfl) ?_)
  refine bodyPost_ret (results_cell_row Try.results95 _ _ w.heap.size _ KA (0, 0) _ rfl (heap_alloc_last _ _) Try.underlying173 rfl (by kernel_rfl)) rfl ?_
  exact ⟨rfl, (Fr.refl _ _).alloc _⟩
theorem begin_any (w : World) :
    Calls Try.prog 89 #[] w fun e w' => e = .returned (.agg HA) ∧ Gr w w' := by
  go_enter Try.func89, Try.ntmps89
  go_wp2_with (first
    | refine wpList_build_to rfl _ _ rfl HA (by kernel_rfl) ?_
    | refine wpList_store_new (w0 := w) rfl _ _ _ rfl HA _ _ rfl rfl rfl (by kernel_rfl) (by kernel_rfl) (by kernel_rfl) ?_)
  refine bodyPost_ret (results_cell_row Try.results89 _ _ w.heap.size _ HA (0, 0) _ rfl (heap_alloc_last _ _) Try.underlying162 rfl (by kernel_rfl)) rfl ?_
  exact ⟨rfl, (Fr.refl _ _).alloc _⟩
end Sha
end Go.Proofs.Ytlodbhlidgepfaa

namespace Go.Proofs.Ytlodbhlidgepfaa
open Go.RowKit

/-- a function with a body is entered -/
theorem callFunc_entersH {P : Program} {f : FuncId} {fn : Func} (hf : P.funcs[f]? = some fn) (hn : (fn.name == "runtime.NumGoroutine") = false) (hb : fn.body.isNone = false) (args : Array Value) (w : World) :
    (callFunc f args).run P w = .ok (.enter f args) w := by
  unfold callFunc program
  simp only [Sem.run_bind]
  show (Sem.run P (match P.funcs[f]? with | none => _ | some fn => _) w) = _
  rw [hf]
  simp only [hn, hb]
  rfl

namespace Sha
abbrev B := BitVec 8
/-- words, as the program holds them -/
def arr (l : List U) : Array Value := (l.map V).toArray
/-- bytes -/
abbrev C (x : B) : Value := .int .u8 (x.toNat : Int)
def brr (l : List B) : Array Value := (l.map C).toArray

theorem arr_size (l : List U) : (arr l).size = l.length := by simp [arr]
theorem brr_size (l : List B) : (brr l).size = l.length := by simp [brr]
theorem arr_get (l : List U) (i : Nat) : (arr l)[i]? = (l[i]?).map V := by simp [arr]
theorem brr_get (l : List B) (i : Nat) : (brr l)[i]? = (l[i]?).map C := by simp [brr]
theorem arr_set (l : List U) (i : Nat) (x : U) : (arr l).setIfInBounds i (V x) = arr (l.set i x) := by
  unfold arr; rw [List.map_set]; simp
theorem brr_set (l : List B) (i : Nat) (x : B) : (brr l).setIfInBounds i (C x) = brr (l.set i x) := by
  unfold brr; rw [List.map_set]; simp
theorem arr_one (l : List U) : (arr l).all (·.oneCell') = true := by
  simp [arr, Value.oneCell']
theorem brr_one (l : List B) : (brr l).all (·.oneCell') = true := by
  simp [brr, Value.oneCell']

def KU : List U := KS.map (BitVec.ofNat 32)
def HU : List U := HS.map (BitVec.ofNat 32)
theorem KA_eq : KA = arr KU := by kernel_rfl
theorem HA_eq : HA = arr HU := by kernel_rfl

/-- four bytes make a word -/
def word (a b c d : B) : U := (a.setWidth 32) <<< 24 ||| (b.setWidth 32) <<< 16 ||| (c.setWidth 32) <<< 8 ||| d.setWidth 32
def sg0 (x : U) : U := rr x 7 ^^^ rr x 18 ^^^ x >>> 3
def sg1 (x : U) : U := rr x 17 ^^^ rr x 19 ^^^ x >>> 10
def bg0 (x : U) : U := rr x 2 ^^^ rr x 13 ^^^ rr x 22
def bg1 (x : U) : U := rr x 6 ^^^ rr x 11 ^^^ rr x 25

abbrev gt (l : List U) (i : Nat) : U := l.getD i 0
/-- the first sixteen words of a block, of which i are laid -/
def lay (b : List B) (i : Nat) : U := word (b.getD (4 * i) 0) (b.getD (4 * i + 1) 0) (b.getD (4 * i + 2) 0) (b.getD (4 * i + 3) 0)
def ext (W : List U) (j : Nat) : U := gt W j + sg0 (gt W (j + 1)) + gt W (j + 9) + sg1 (gt W (j + 14))
def W0 (b : List B) : Nat → List U
  | 0 => List.replicate 64 0
  | i + 1 => (W0 b i).set i (lay b i)
def W1 (W : List U) : Nat → List U
  | 0 => W
  | j + 1 => (W1 W j).set (j + 16) (ext (W1 W j) j)
theorem W0_len (b : List B) : ∀ i, (W0 b i).length = 64
  | 0 => by simp [W0]
  | i + 1 => by rw [W0, List.length_set, W0_len]
theorem W1_len (W : List U) (h : W.length = 64) : ∀ i, (W1 W i).length = 64
  | 0 => h
  | i + 1 => by rw [W1, List.length_set, W1_len W h]

/-- a round -/
def rnd (s : List U) (k w : U) : List U :=
  let t1 := gt s 7 + bg1 (gt s 4) + (gt s 6 ^^^ (gt s 4 &&& (gt s 5 ^^^ gt s 6))) + k + w
  let t2 := bg0 (gt s 0) + ((gt s 0 &&& gt s 1) ^^^ (gt s 0 &&& gt s 2) ^^^ (gt s 1 &&& gt s 2))
  [t1 + t2, gt s 0, gt s 1, gt s 2, gt s 3 + t1, gt s 4, gt s 5, gt s 6]
def rnds (W : List U) (s : List U) : Nat → List U
  | 0 => s
  | i + 1 => rnd (rnds W s i) (gt KU i) (gt W i)
theorem rnds_len (W s : List U) (h : s.length = 8) : ∀ i, (rnds W s i).length = 8
  | 0 => h
  | i + 1 => rfl
def addTo (h v : List U) : Nat → List U
  | 0 => h
  | i + 1 => (addTo h v i).set i (gt (addTo h v i) i + gt v i)
theorem addTo_len (h v : List U) (hh : h.length = 8) : ∀ i, (addTo h v i).length = 8
  | 0 => hh
  | i + 1 => by rw [addTo, List.length_set, addTo_len h v hh]
/-- a block is pressed into eight words -/
def press (h : List U) (b : List B) : List U := addTo h (rnds (W1 (W0 b 16) 48) h 64) 8

theorem gt_get {l : List U} {i : Nat} (h : i < l.length) : l[i]? = some (gt l i) := by simp [gt, h]
end Sha
end Go.Proofs.Ytlodbhlidgepfaa

namespace Go.Proofs.Ytlodbhlidgepfaa
open Go.RowKit
namespace Sha

theorem press_len (h : List U) (b : List B) (hh : h.length = 8) : (press h b).length = 8 := addTo_len _ _ hh _

/-- k blocks of l go in -/
def eat (h : List U) (l : List B) : Nat → List U
  | 0 => h
  | k + 1 => press (eat h l k) ((l.drop (64 * k)).take 64)
theorem eat_len (h : List U) (l : List B) (hh : h.length = 8) : ∀ k, (eat h l k).length = 8
  | 0 => hh
  | k + 1 => press_len _ _ (eat_len h l hh k)
theorem eat_app (h : List U) (l m : List B) : ∀ k, 64 * k ≤ l.length → eat h (l ++ m) k = eat h l k
  | 0, _ => rfl
  | k + 1, hk => by
    rw [eat, eat, eat_app h l m k (by omega), List.drop_append_of_le_length (by omega), List.take_append_of_le_length (by rw [List.length_drop]; omega)]
theorem eat_add (h : List U) (l : List B) (a : Nat) : ∀ k, eat h l (a + k) = eat (eat h l a) (l.drop (64 * a)) k
  | 0 => rfl
  | k + 1 => by
    rw [← Nat.add_assoc, eat, eat, eat_add h l a k, List.drop_drop]
    congr 3
    omega

/-- the state behind all these bytes, and what is left over -/
def stt (l : List B) : List U := eat HU l (l.length / 64)
def rem (l : List B) : List B := l.drop (64 * (l.length / 64))
theorem stt_len (l : List B) : (stt l).length = 8 := eat_len _ _ rfl _
theorem rem_len (l : List B) : (rem l).length < 64 := by unfold rem; rw [List.length_drop]; omega
theorem take_len (l xs : List B) : (l ++ xs).length / 64 = l.length / 64 + (rem l ++ xs).length / 64 := by
  unfold rem; rw [List.length_append, List.length_append, List.length_drop]; omega
theorem take_stt (l xs : List B) : eat (stt l) (rem l ++ xs) ((rem l ++ xs).length / 64) = stt (l ++ xs) := by
  have e : (l ++ xs).drop (64 * (l.length / 64)) = rem l ++ xs := by rw [List.drop_append_of_le_length (by omega)]; rfl
  have h1 : stt (l ++ xs) = eat HU (l ++ xs) (l.length / 64 + (rem l ++ xs).length / 64) := by rw [← take_len]; rfl
  rw [h1, eat_add, eat_app HU l xs _ (by omega), e]
  rfl
theorem take_rem (l xs : List B) : (rem l ++ xs).drop (64 * ((rem l ++ xs).length / 64)) = rem (l ++ xs) := by
  have e : (l ++ xs).drop (64 * (l.length / 64)) = rem l ++ xs := by rw [List.drop_append_of_le_length (by omega)]; rfl
  have h1 : rem (l ++ xs) = (l ++ xs).drop (64 * (l.length / 64 + (rem l ++ xs).length / 64)) := by rw [← take_len]; rfl
  rw [h1, Nat.mul_add, ← List.drop_drop, e]
theorem stt_nil : stt [] = HU := rfl
theorem rem_nil : rem [] = [] := rfl

/-- what stands behind n bytes: i of the eight last are laid -/
def psize (n : Nat) : Nat := (64 - (n + 9) % 64) % 64 + 9
def pby (n i : Nat) : B := BitVec.ofNat 8 (8 * n / 2 ^ (8 * i))
def padI (n : Nat) : Nat → List B
  | 0 => (List.replicate (psize n) 0).set 0 128#8
  | i + 1 => (padI n i).set (psize n - 1 - i) (pby n i)
theorem padI_len (n : Nat) : ∀ i, (padI n i).length = psize n
  | 0 => by simp [padI]
  | i + 1 => by rw [padI, List.length_set, padI_len]
def pad (n : Nat) : List B := padI n 8
theorem pad_len (n : Nat) : (pad n).length = psize n := padI_len n 8
theorem psize_mod (n : Nat) : (n + psize n) % 64 = 0 ∧ 9 ≤ psize n ∧ psize n ≤ 72 := by unfold psize; omega
theorem padI_get (n : Nat) : ∀ i, i ≤ 8 → ∀ j, j < psize n → (padI n i)[j]? = some (if psize n - 1 - j < i then pby n (psize n - 1 - j) else if j = 0 then 128#8 else 0#8)
  | 0, _, j, hj => by
    rw [padI, List.getElem?_set, List.length_replicate]
    by_cases h : 0 = j
    · subst h; simp; omega
    · rw [if_neg h, if_neg (by omega), if_neg (fun e => h e.symm)]; simp [hj]
  | i + 1, hi, j, hj => by
    have ih := padI_get n i (by omega) j hj
    have hp := psize_mod n
    rw [padI, List.getElem?_set, padI_len]
    by_cases h : psize n - 1 - i = j
    · rw [if_pos h, if_pos (by omega), if_pos (by omega)]
      congr 2; omega
    · rw [if_neg h, ih]
      congr 1
      by_cases h2 : psize n - 1 - j < i
      · rw [if_pos h2, if_pos (by omega)]
      · rw [if_neg h2]; exact (if_neg (by omega)).symm
/-- the same as a list that grows -/
theorem pad_eq (n : Nat) : pad n = 128#8 :: List.replicate (psize n - 9) 0#8 ++ [pby n 7, pby n 6, pby n 5, pby n 4, pby n 3, pby n 2, pby n 1, pby n 0] := by
  have hp := psize_mod n
  apply List.ext_getElem?
  intro j
  by_cases hj : j < psize n
  · rw [pad, padI_get n 8 (by omega) j hj]
    by_cases h0 : j = 0
    · subst h0; rw [if_neg (by omega), if_pos rfl]; rfl
    · by_cases h1 : j < psize n - 8
      · rw [if_neg (by omega), if_neg h0, List.getElem?_append_left (by simp; omega)]
        obtain ⟨k, rfl⟩ : ∃ k, j = k + 1 := ⟨j - 1, by omega⟩
        rw [List.getElem?_cons_succ, List.getElem?_replicate, if_pos (by omega)]
      · rw [if_pos (by omega), List.getElem?_append_right (by simp; omega)]
        obtain ⟨k, hk, hk8⟩ : ∃ k, psize n - 1 - j = k ∧ k < 8 := ⟨_, rfl, by omega⟩
        have e : j - (128#8 :: List.replicate (psize n - 9) 0#8).length = 7 - k := by simp; omega
        rw [hk, e]
        match k, hk8 with
        | 0, _ | 1, _ | 2, _ | 3, _ | 4, _ | 5, _ | 6, _ | 7, _ => rfl
  · rw [List.getElem?_eq_none (by rw [pad_len]; omega), List.getElem?_eq_none (by simp; omega)]

/-- the digest's bytes: of i words they are laid -/
def byt (x : U) (s : Nat) : B := (x >>> s).setWidth 8
def digI (h : List U) : Nat → List B
  | 0 => List.replicate 32 0
  | i + 1 => ((((digI h i).set (4 * i) (byt (gt h i) 24)).set (4 * i + 1) (byt (gt h i) 16)).set (4 * i + 2) (byt (gt h i) 8)).set (4 * i + 3) (byt (gt h i) 0)
theorem digI_len (h : List U) : ∀ i, (digI h i).length = 32
  | 0 => by simp [digI]
  | i + 1 => by simp [digI, digI_len h i]
theorem digI_get (h : List U) : ∀ i, i ≤ 8 → ∀ j, j < 32 → (digI h i)[j]? = some (if j < 4 * i then byt (gt h (j / 4)) (24 - 8 * (j % 4)) else 0)
  | 0, _, j, hj => by rw [digI, List.getElem?_replicate, if_pos hj, if_neg (by omega)]
  | i + 1, hi, j, hj => by
    have ih := digI_get h i (by omega) j hj
    rw [digI]
    simp only [List.getElem?_set, List.length_set, digI_len]
    by_cases h3 : 4 * i + 3 = j
    · rw [if_pos h3, if_pos (by omega), if_pos (by omega)]
      have e1 : j / 4 = i := by omega
      have e2 : 24 - 8 * (j % 4) = 0 := by omega
      rw [e1, e2]
    · rw [if_neg h3]
      by_cases h2 : 4 * i + 2 = j
      · rw [if_pos h2, if_pos (by omega), if_pos (by omega)]
        have e1 : j / 4 = i := by omega
        have e2 : 24 - 8 * (j % 4) = 8 := by omega
        rw [e1, e2]
      · rw [if_neg h2]
        by_cases h1 : 4 * i + 1 = j
        · rw [if_pos h1, if_pos (by omega), if_pos (by omega)]
          have e1 : j / 4 = i := by omega
          have e2 : 24 - 8 * (j % 4) = 16 := by omega
          rw [e1, e2]
        · rw [if_neg h1]
          by_cases h0 : 4 * i = j
          · rw [if_pos h0, if_pos (by omega), if_pos (by omega)]
            have e1 : j / 4 = i := by omega
            have e2 : 24 - 8 * (j % 4) = 24 := by omega
            rw [e1, e2]
          · rw [if_neg h0, ih]
            congr 1
            by_cases h4 : j < 4 * i
            · rw [if_pos h4, if_pos (by omega)]
            · rw [if_neg h4, if_neg (by omega)]
def dig (h : List U) : List B := digI h 8
theorem dig_len (h : List U) : (dig h).length = 32 := digI_len h 8
/-- the sum of bytes -/
def sum (l : List B) : List B := dig (stt (l ++ pad l.length))
theorem sum_len (l : List B) : (sum l).length = 32 := dig_len _
theorem dig_get (h : List U) (j : Nat) (hj : j < 32) : (dig h)[j]? = some (byt (gt h (j / 4)) (24 - 8 * (j % 4))) := by
  rw [dig, digI_get h 8 (by omega) j hj, if_pos (by omega)]
end Sha
end Go.Proofs.Ytlodbhlidgepfaa

namespace Go.Proofs.Ytlodbhlidgepfaa
open Go.RowKit
namespace Sha

abbrev T8 : TypeId := 162
abbrev T64 : TypeId := 173
abbrev TB : TypeId := 167

/-- the variables of Press -/
structure PW (w wr : World) (p2 p3 p4 p5 p7 : Nat) (h : List U) (b : List B) (r : Array Value) (W : List U) : Prop where
  gr : Gr w wr
  b2 : Blk wr p2 T8 (arr h)
  b3 : Blk wr p3 TB (brr b)
  b4 : Blk wr p4 T8 r
  b5 : Blk wr p5 T64 KA
  b7 : Blk wr p7 T64 (arr W)
  o : w.heap.size ≤ p2 ∧ p2 < p3 ∧ p3 < p4 ∧ p4 < p5 ∧ p5 < p7

theorem blk_new (w : World) (t : TypeId) (cs : Array Value) (n : Nat) (h : w.heap.size = n) : Blk (w.alloc (.cells cs t)) n t cs := by subst h; exact Blk.new w t cs
theorem bcell {wr : World} {g i : Nat} {t : TypeId} {l : List B} (h : Blk wr g t (brr l)) (hi : i < l.length) : wr.cell? ⟨g, i, none⟩ = some (C (l.getD i 0)) := by
  rw [h.cell, brr_get, List.getD_eq_getElem?_getD, List.getElem?_eq_getElem hi]; rfl
theorem wcell {wr : World} {g i : Nat} {t : TypeId} {l : List U} (h : Blk wr g t (arr l)) (hi : i < l.length) : wr.cell? ⟨g, i, none⟩ = some (V (gt l i)) := by
  rw [h.cell, arr_get, gt_get hi]; rfl
theorem word_bits (a b c d : B) : bits .or .u32 (bits .or .u32 (bits .or .u32 ((a.toNat : Int) * 16777216) ((b.toNat : Int) * 65536)) ((c.toNat : Int) * 256)) (d.toNat : Int) = ((word a b c d).toNat : Int) := by
  have e (x : B) (k m : Nat) (hk : k ≤ 24) (hm : 2 ^ k = m) : (x.toNat : Int) * (m : Int) = (((x.setWidth 32) <<< k).toNat : Int) := by
    subst hm
    have hx := x.isLt
    rw [BitVec.toNat_shiftLeft, Nat.shiftLeft_eq, BitVec.toNat_setWidth, Nat.mod_eq_of_lt (by omega : x.toNat < 2 ^ 32)]
    have : x.toNat * 2 ^ k < 2 ^ 32 := by
      have h1 : 2 ^ k ≤ 2 ^ 24 := Nat.pow_le_pow_right (by omega) hk
      have h2 : x.toNat * 2 ^ k ≤ 255 * 2 ^ 24 := Nat.mul_le_mul (by omega) h1
      omega
    rw [Nat.mod_eq_of_lt this]
    simp
  have e0 : (d.toNat : Int) = ((d.setWidth 32).toNat : Int) := by
    rw [BitVec.toNat_setWidth, Nat.mod_eq_of_lt (by have := d.isLt; omega)]
  have e1 : (a.toNat : Int) * 16777216 = _ := e a 24 16777216 (by omega) (by decide)
  have e2 : (b.toNat : Int) * 65536 = _ := e b 16 65536 (by omega) (by decide)
  have e3 : (c.toNat : Int) * 256 = _ := e c 8 256 (by omega) (by decide)
  rw [e1, e2, e3, e0, bits_or, bits_or, bits_or]
  rfl
theorem shr_lit (x : U) (n m : Nat) (h : 2 ^ n = m) : (x.toNat : Int) / (m : Int) = ((x >>> n).toNat : Int) := by
  subst h; rw [← shr_w]; simp
theorem sg0_bits (x : U) : bits .xor .u32 (bits .xor .u32 ((rr x 7).toNat : Int) ((rr x 18).toNat : Int)) ((x.toNat : Int) / 8) = ((sg0 x).toNat : Int) := by
  have e : (x.toNat : Int) / 8 = _ := shr_lit x 3 8 (by decide)
  rw [e, bits_xor, bits_xor]; rfl
theorem sg1_bits (x : U) : bits .xor .u32 (bits .xor .u32 ((rr x 17).toNat : Int) ((rr x 19).toNat : Int)) ((x.toNat : Int) / 1024) = ((sg1 x).toNat : Int) := by
  have e : (x.toNat : Int) / 1024 = _ := shr_lit x 10 1024 (by decide)
  rw [e, bits_xor, bits_xor]; rfl
theorem add_of {x : Int} {a b : U} (h : x % 4294967296 = (a.toNat : Int)) : (x + (b.toNat : Int)) % 4294967296 = ((a + b).toNat : Int) := by
  rw [Int.add_emod, h, ← add_w]; omega
theorem add4 (a b c d : U) : ((a.toNat : Int) + (b.toNat : Int) + (c.toNat : Int) + (d.toNat : Int)) % 4294967296 = ((a + b + c + d).toNat : Int) :=
  add_of (add_of (add_w a b))

theorem t1_bits (v7 e v6 v5 k w : U) : (((v7.toNat : Int) + bits .xor .u32 (bits .xor .u32 ((rr e 6).toNat : Int) ((rr e 11).toNat : Int)) ((rr e 25).toNat : Int) + bits .xor .u32 (v6.toNat : Int) (bits .and .u32 (e.toNat : Int) (bits .xor .u32 (v5.toNat : Int) (v6.toNat : Int))) + (k.toNat : Int)) % 4294967296 + (w.toNat : Int)) % 4294967296 =
    ((v7 + bg1 e + (v6 ^^^ (e &&& (v5 ^^^ v6))) + k + w).toNat : Int) := by
  simp only [bits_xor, bits_and]
  rw [add4, add_w]
  rfl
theorem t2_bits (a b c : U) : (bits .xor .u32 (bits .xor .u32 ((rr a 2).toNat : Int) ((rr a 13).toNat : Int)) ((rr a 22).toNat : Int) + bits .xor .u32 (bits .xor .u32 (bits .and .u32 (a.toNat : Int) (b.toNat : Int)) (bits .and .u32 (a.toNat : Int) (c.toNat : Int))) (bits .and .u32 (b.toNat : Int) (c.toNat : Int))) % 4294967296 =
    ((bg0 a + ((a &&& b) ^^^ (a &&& c) ^^^ (b &&& c))).toNat : Int) := by
  simp only [bits_xor, bits_and]
  rw [add_w]
  rfl
theorem setRow_heap_ne (w : World) (g i : Nat) (cs : Array Value) (h : i ≠ g) : (w.setRow g cs).heap[i]? = w.heap[i]? := by
  unfold World.setRow
  simp [Array.getElem?_modify, Ne.symm h]
theorem fr_setRow {w w' : World} {S : Nat → Prop} (h : Fr w w' S) {g : Nat} (hp : g < w.heap.size → S g) (cs : Array Value) : Fr w (w'.setRow g cs) S :=
  h.trans (T := fun k => k = g) ⟨rfl, rfl, rfl, by simp [World.setRow], fun k hk hn => setRow_heap_ne _ _ _ _ hn⟩
    (fun i hi e => by subst e; exact hp hi)
theorem blk_setRow {w : World} {g : Nat} {t : TypeId} {cs : Array Value} (h : Blk w g t cs) (cs' : Array Value) : Blk (w.setRow g cs') g t cs' := setRow_heap w g cs cs' t (0, 0) h
theorem blk_setRow_ne {w : World} {g g' : Nat} {t : TypeId} {cs : Array Value} (h : Blk w g t cs) (hne : g ≠ g') (cs' : Array Value) : Blk (w.setRow g' cs') g t cs := (setRow_heap_ne w g' g cs' hne).trans h
theorem PW.set7 {w wr : World} {p2 p3 p4 p5 p7 : Nat} {h : List U} {b : List B} {r : Array Value} {W : List U} (H : PW w wr p2 p3 p4 p5 p7 h b r W) (i : Nat) (x : U) :
    PW w (wr.setCell ⟨p7, i, none⟩ (V x)).drew p2 p3 p4 p5 p7 h b r (W.set i x) := by
  obtain ⟨hg, b2, b3, b4, b5, b7, o1, o2, o3, o4, o5⟩ := H
  refine ⟨(hg.setCell (by simp; omega) _).drew, (b2.far (by simp; omega) _).drew, (b3.far (by simp; omega) _).drew, (b4.far (by simp; omega) _).drew, (b5.far (by simp; omega) _).drew, ?_, o1, o2, o3, o4, o5⟩
  have := b7.set_ i (V x)
  rw [arr_set] at this
  exact this.drew

theorem PW.drewN {w wr : World} {p2 p3 p4 p5 p7 : Nat} {h : List U} {b : List B} {r : Array Value} {W : List U} (H : PW w wr p2 p3 p4 p5 p7 h b r W) (n : Nat) :
    PW w (wr.drewN n) p2 p3 p4 p5 p7 h b r W := ⟨H.gr.drewN n, H.b2, H.b3, H.b4, H.b5, H.b7, H.o⟩

structure PV (w wr : World) (p2 p3 p4 p5 p7 p12 : Nat) (h : List U) (b : List B) (r : Array Value) (W v : List U) : Prop where
  b : PW w wr p2 p3 p4 p5 p7 h b r W
  b12 : Blk wr p12 T8 (arr v)
  o : p7 < p12
theorem PV.drewN {w wr : World} {p2 p3 p4 p5 p7 p12 : Nat} {h : List U} {b : List B} {r : Array Value} {W v : List U} (H : PV w wr p2 p3 p4 p5 p7 p12 h b r W v) (n : Nat) :
    PV w (wr.drewN n) p2 p3 p4 p5 p7 p12 h b r W v := ⟨H.b.drewN n, H.b12, H.o⟩
theorem PV.drew {w wr : World} {p2 p3 p4 p5 p7 p12 : Nat} {h : List U} {b : List B} {r : Array Value} {W v : List U} (H : PV w wr p2 p3 p4 p5 p7 p12 h b r W v) :
    PV w wr.drew p2 p3 p4 p5 p7 p12 h b r W v := ⟨⟨H.b.gr.drew, H.b.b2, H.b.b3, H.b.b4, H.b.b5, H.b.b7, H.b.o⟩, H.b12, H.o⟩
theorem PV.setRow12 {w wr : World} {p2 p3 p4 p5 p7 p12 : Nat} {h : List U} {b : List B} {r : Array Value} {W v : List U} (H : PV w wr p2 p3 p4 p5 p7 p12 h b r W v) (v' : List U) :
    PV w (wr.setRow p12 (arr v')) p2 p3 p4 p5 p7 p12 h b r W v' := by
  obtain ⟨⟨hg, b2, b3, b4, b5, b7, o1, o2, o3, o4, o5⟩, b12, o6⟩ := H
  exact ⟨⟨fr_setRow hg (by omega) _, blk_setRow_ne b2 (by omega) _, blk_setRow_ne b3 (by omega) _, blk_setRow_ne b4 (by omega) _, blk_setRow_ne b5 (by omega) _, blk_setRow_ne b7 (by omega) _, o1, o2, o3, o4, o5⟩, blk_setRow b12 _, o6⟩
theorem PV.set2 {w wr : World} {p2 p3 p4 p5 p7 p12 : Nat} {h : List U} {b : List B} {r : Array Value} {W v : List U} (H : PV w wr p2 p3 p4 p5 p7 p12 h b r W v) (i : Nat) (x : U) :
    PV w (wr.setCell ⟨p2, i, none⟩ (V x)).drew p2 p3 p4 p5 p7 p12 (h.set i x) b r W v := by
  obtain ⟨⟨hg, b2, b3, b4, b5, b7, o1, o2, o3, o4, o5⟩, b12, o6⟩ := H
  refine ⟨⟨(hg.setCell (by simp; omega) _).drew, ?_, (b3.far (by simp; omega) _).drew, (b4.far (by simp; omega) _).drew, (b5.far (by simp; omega) _).drew, (b7.far (by simp; omega) _).drew, o1, o2, o3, o4, o5⟩, (b12.far (by simp; omega) _).drew, o6⟩
  have := b2.set_ i (V x)
  rw [arr_set] at this
  exact this.drew

set_option maxHeartbeats 1600000 in
set_option maxRecDepth 100000 in
theorem press_any (h : List U) (b : List B) (hh : h.length = 8) (hb : b.length = 64) (w : World) :
    Calls Try.prog 90 #[.agg (arr h), .agg (brr b)] w fun e w' => e = .returned (.agg (arr (press h b))) ∧ Gr w w' := by
  have Hh := Lib.hid hh
  have Hb := Lib.hid hb
  clear hh hb
  go_enter Try.func90, Try.ntmps90
  go_upto_block 0 with (first
    | (go_at_call 95; refine (const_any _).mono ?_; rintro e w1 ⟨rfl, hg1⟩; have HG1 := Lib.hid hg1; clear hg1)
    | refine wpList_store_new (w0 := w1) rfl _ _ _ rfl KA _ _ rfl rfl rfl (by kernel_rfl) (by kernel_rfl) (by kernel_rfl) ?_)
  go_cut [2, 3, 4, 5, 6, 7] (fun s2 s3 s4 s5 s6 s7 wc => ∃ p2 p3 p4 p5 p7 : Nat, s2 = .pointer (some ⟨p2, 0, none⟩) ∧ s3 = .pointer (some ⟨p3, 0, none⟩) ∧ s4 = .pointer (some ⟨p4, 0, none⟩) ∧ s5 = .pointer (some ⟨p5, 0, none⟩) ∧
    s6 = .func (.func 96) #[] #[] ∧ s7 = .pointer (some ⟨p7, 0, none⟩) ∧ ∃ r, Hid (r.size = 8 ∧ PW w wc p2 p3 p4 p5 p7 h b r (W0 b 16)))
  case first =>
    go_wp2_with fail
    go_loopg [20] 17 (fun m s20 wr => ∃ (i : Nat), s20 = .int .i64 i ∧ Hid (i ≤ 16 ∧ 16 - i < m) ∧ Hid (PW w wr w.heap.size (w.heap.size + 1) (w.heap.size + 1 + 1) w1.heap.size (w1.heap.size + 1) h b (arr (List.replicate 8 0)) (W0 b i)))
    case atStart =>
      refine ⟨0, rfl, ⟨by omega, by omega⟩, ?_⟩
      have hs := HG1.out.size
      simp only [World.alloc, Array.size_push] at hs
      refine ⟨((((((Fr.refl w _).alloc _).alloc _).alloc _).trans HG1.out (fun _ _ h => h)).alloc _).alloc _, ?_, ?_, ?_, ?_, ?_, Nat.le_refl _, by omega, by omega, by omega, by omega⟩
      · exact ((((Blk.new w T8 (arr h)).alloc _).alloc _).fr HG1.out (fun h => h)).alloc _ |>.alloc _
      · exact (((blk_new (w.alloc (.cells (arr h) T8)) TB (brr b) (w.heap.size + 1) (by simp)).alloc _).fr HG1.out (fun h => h)).alloc _ |>.alloc _
      · exact ((blk_new ((w.alloc (.cells (arr h) T8)).alloc (.cells (brr b) TB)) T8 _ (w.heap.size + 1 + 1) (by simp)).fr HG1.out (fun h => h)).alloc _ |>.alloc _
      · exact (Blk.new w1 T64 KA).alloc _
      · exact blk_new (w1.alloc (.cells KA T64)) T64 _ _ (by simp)
    case round =>
      obtain ⟨i, rfl, HI, HP⟩ := hrel
      by_cases hi : i < 16
      · have hi1 : (i : Int) < 16 := by omega
        obtain ⟨wr0, hwr⟩ : ∃ x : World, x = wr := ⟨_, rfl⟩
        have q0 := bcell HP.out.b3 (i := 4 * i) (by rw [Hb.out]; omega)
        have q1 := bcell HP.out.b3 (i := 4 * i + 1) (by rw [Hb.out]; omega)
        have q2 := bcell HP.out.b3 (i := 4 * i + 2) (by rw [Hb.out]; omega)
        have q3 := bcell HP.out.b3 (i := 4 * i + 3) (by rw [Hb.out]; omega)
        have q4 := wcell HP.out.b7 (i := i) (by rw [W0_len]; omega)
        have q5 := HP.out.b7.frozen i
        have n1 : w1.heap.size + 1 ≠ w.heap.size + 1 := by have := HP.out.o; omega
        go_upto_region 7 with (fail)
        go_region
        go_wp2_with fail
        go_roundg (gk - 1)
        case measure => have := HI.out; omega
        case rel =>
          refine ⟨i + 1, by go_num, ⟨by omega, by have := HI.out; omega⟩, ?_⟩
          rw [word_bits]
          exact HP.out.set7 i (lay b i)
      · obtain rfl : i = 16 := by have := HI.out; omega
        go_wp2_with fail
        go_meet
        exact ⟨_, _, _, _, _, rfl, rfl, rfl, rfl, rfl, rfl, _, rfl, HP.out⟩
  case rest =>
  obtain ⟨p2, p3, p4, p5, p7, rfl, rfl, rfl, rfl, rfl, rfl, r, HP⟩ := hcut
  clear HG1
  have hcf := fun args w => callFunc_entersH Try.func96 (by rfl) (by rfl) args w
  have Ht := fun (x : U) w => turn_any x 7 (by decide) (by decide) w
  go_upto_block 2 with (fail)
  go_cut [9] (fun s9 wx => Hid (r.size = 8 ∧ PW w wx p2 p3 p4 p5 p7 h b r (W1 (W0 b 16) 48)))
  case first =>
    go_wp2_with fail
    go_loopg [9] 49 (fun m s9 wr => ∃ (j : Nat), s9 = .int .i64 ((j : Int) + 16) ∧ Hid (j ≤ 48 ∧ 48 - j < m) ∧ Hid (PW w wr p2 p3 p4 p5 p7 h b r (W1 (W0 b 16) j)))
    case atStart =>
      refine ⟨0, rfl, ⟨by omega, by omega⟩, HP.out.2⟩
    case round =>
      obtain ⟨j, rfl, HI, HQ⟩ := hrel
      by_cases hj : j < 48
      · have hj1 : (j : Int) + 16 < 64 := by omega
        have hl : (W1 (W0 b 16) j).length = 64 := W1_len _ (W0_len _ _) _
        have q0 := wcell HQ.out.b7 (i := j) (by rw [hl]; omega)
        have q1 := wcell HQ.out.b7 (i := j + 1) (by rw [hl]; omega)
        have q2 := wcell HQ.out.b7 (i := j + 9) (by rw [hl]; omega)
        have q3 := wcell HQ.out.b7 (i := j + 14) (by rw [hl]; omega)
        have q4 := wcell HQ.out.b7 (i := j + 16) (by rw [hl]; omega)
        have q5 := HQ.out.b7.frozen (j + 16)
        have Hl := Lib.hid hl
        clear hl
        go_upto_region 12 with (fail)
        go_quiet ((exact Calls.quiet_of_same (turn_any _ _ (by decide) (by decide) _)))
        generalize hw2 : World.drewN wr nq = w2
        have HQ2 := Lib.hid (show PW w w2 p2 p3 p4 p5 p7 h b r (W1 (W0 b 16) j) by rw [← hw2]; exact HQ.out.drewN _)
        clear q0 q1 q2 q3 q4 q5 HQ hw2
        have q0 := wcell HQ2.out.b7 (i := j) (by rw [Hl.out]; omega)
        have q2 := wcell HQ2.out.b7 (i := j + 9) (by rw [Hl.out]; omega)
        have q3 := wcell HQ2.out.b7 (i := j + 14) (by rw [Hl.out]; omega)
        have q4 := wcell HQ2.out.b7 (i := j + 16) (by rw [Hl.out]; omega)
        have q5 := HQ2.out.b7.frozen (j + 16)
        go_wp2_with fail
        go_quiet ((exact Calls.quiet_of_same (turn_any _ _ (by decide) (by decide) _)))
        rw [sg0_bits, sg1_bits]
        generalize hw3 : World.drewN w2 nq = w3
        have HQ3 := Lib.hid (show PW w w3 p2 p3 p4 p5 p7 h b r (W1 (W0 b 16) j) by rw [← hw3]; exact HQ2.out.drewN _)
        clear q0 q2 q3 q4 q5 HQ2 hw3
        have q0 := wcell HQ3.out.b7 (i := j) (by rw [Hl.out]; omega)
        have q2 := wcell HQ3.out.b7 (i := j + 9) (by rw [Hl.out]; omega)
        have q4 := wcell HQ3.out.b7 (i := j + 16) (by rw [Hl.out]; omega)
        have q5 := HQ3.out.b7.frozen (j + 16)
        go_upto_region 14 with (fail)
        go_region
        go_wp2_with fail
        go_roundg (gk - 1)
        case measure => have := HI.out; omega
        case rel =>
          refine ⟨j + 1, by go_num, ⟨by omega, by have := HI.out; omega⟩, ?_⟩
          rw [add4]
          exact HQ3.out.set7 (j + 16) (ext (W1 (W0 b 16) j) j)
      · obtain rfl : j = 48 := by have := HI.out; omega
        go_wp2_with fail
        go_meet
        exact ⟨HP.out.1, HQ.out⟩
  case rest =>
  have HP' := Lib.hid hcut
  clear HP hcut
  have hl : (W1 (W0 b 16) 48).length = 64 := W1_len _ (W0_len _ _) _
  have Hl := Lib.hid hl
  clear hl
  generalize hW : W1 (W0 b 16) 48 = W at Hl HP' ⊢
  have HW := Lib.hid hW
  clear hW
  go_upto_block 4 with (first
    | refine wpList_load_row rfl _ _ rfl p2 rfl T8 (arr h) (0, 0) _ HP'.out.2.b2 Try.underlying162 rfl (by rw [arr_size, Hh.out]; kernel_rfl) ?_
    | refine wpList_store_new (w0 := wc) rfl _ _ _ rfl (arr h) _ _ rfl rfl rfl (by rw [arr_size, Hh.out]; kernel_rfl) (by rw [arr_size, Hh.out]; rfl) (arr_one _) ?_)
  go_cut [12] (fun s12 wx => ∃ p12 : Nat, s12 = .pointer (some ⟨p12, 0, none⟩) ∧ Hid (r.size = 8 ∧ PV w wx p2 p3 p4 p5 p7 p12 h b r W (rnds W h 64)))
  case first =>
    have H0 := Lib.hid (show PV w (wc.alloc (.cells (arr h) T8)) p2 p3 p4 p5 p7 wc.heap.size h b r W h from by
      have H := HP'.out.2
      exact ⟨⟨H.gr.alloc _, H.b2.alloc _, H.b3.alloc _, H.b4.alloc _, H.b5.alloc _, H.b7.alloc _, H.o⟩, Blk.new _ _ _, H.b7.lt⟩)
    generalize wc.heap.size = p12 at H0 ⊢
    generalize wc.alloc (.cells (arr h) T8) = wb at H0 ⊢
    go_wp2_with fail
    go_loopg [113] 65 (fun m s113 wr => ∃ (i : Nat), s113 = .int .i64 i ∧ Hid (i ≤ 64 ∧ 64 - i < m) ∧ Hid (PV w wr p2 p3 p4 p5 p7 p12 h b r W (rnds W h i)))
    case atStart =>
      refine ⟨0, rfl, ⟨by omega, by omega⟩, H0.out⟩
    case round =>
      obtain ⟨i, rfl, HI, HQ⟩ := hrel
      by_cases hi : i < 64
      · have hi1 : (i : Int) < 64 := by omega
        have hsl : (rnds W h i).length = 8 := rnds_len W h Hh.out i
        generalize hs : rnds W h i = s at hsl HQ
        have Hs := Lib.hid hs
        have Hsl := Lib.hid hsl
        clear hs hsl
        have q0 := wcell HQ.out.b12 (i := 0) (by rw [Hsl.out]; omega)
        have q4 := wcell HQ.out.b12 (i := 4) (by rw [Hsl.out]; omega)
        go_upto_region 19 with (fail)
        go_region
        generalize hw2 : World.drew wr = w2
        have HQ2 := Lib.hid (show PV w w2 p2 p3 p4 p5 p7 p12 h b r W s by rw [← hw2]; exact HQ.out.drew)
        clear q0 q4 HQ hw2
        have q5 := wcell HQ2.out.b12 (i := 5) (by rw [Hsl.out]; omega)
        have q6 := wcell HQ2.out.b12 (i := 6) (by rw [Hsl.out]; omega)
        have q7 := wcell HQ2.out.b12 (i := 7) (by rw [Hsl.out]; omega)
        have qk := wcell (l := KU) (KA_eq ▸ HQ2.out.b.b5) (i := i) (by exact hi)
        have qw := wcell HQ2.out.b.b7 (i := i) (by rw [Hl.out]; exact hi)
        go_wp2_with fail
        go_quiet ((exact Calls.quiet_of_same (turn_any _ _ (by decide) (by decide) _)))
        generalize hw3 : World.drewN w2 nq = w3
        have HQ3 := Lib.hid (show PV w w3 p2 p3 p4 p5 p7 p12 h b r W s by rw [← hw3]; exact HQ2.out.drewN _)
        clear q5 q6 q7 qk qw HQ2 hw3
        have q1 := wcell HQ3.out.b12 (i := 1) (by rw [Hsl.out]; omega)
        have q2 := wcell HQ3.out.b12 (i := 2) (by rw [Hsl.out]; omega)
        go_wp2_with fail
        go_quiet ((exact Calls.quiet_of_same (turn_any _ _ (by decide) (by decide) _)))
        generalize hw4 : World.drewN w3 nq = w4
        have HQ4 := Lib.hid (show PV w w4 p2 p3 p4 p5 p7 p12 h b r W s by rw [← hw4]; exact HQ3.out.drewN _)
        clear q1 q2 HQ3 hw4
        rw [t1_bits, t2_bits]
        have hr : ∃ t1 t2, t1 = gt s 7 + bg1 (gt s 4) + (gt s 6 ^^^ (gt s 4 &&& (gt s 5 ^^^ gt s 6))) + gt KU i + gt W i ∧ t2 = bg0 (gt s 0) + ((gt s 0 &&& gt s 1) ^^^ (gt s 0 &&& gt s 2) ^^^ (gt s 1 &&& gt s 2)) := ⟨_, _, rfl, rfl⟩
        obtain ⟨t1, t2, ht1, ht2⟩ := hr
        rw [show s[7]?.getD 0#32 + bg1 (s[4]?.getD 0#32) + (s[6]?.getD 0#32 ^^^ (s[4]?.getD 0#32 &&& (s[5]?.getD 0#32 ^^^ s[6]?.getD 0#32))) + KU[i]?.getD 0#32 + W[i]?.getD 0#32 = t1 from ht1.symm,
          show bg0 (s[0]?.getD 0#32) + ((s[0]?.getD 0#32 &&& s[1]?.getD 0#32) ^^^ (s[0]?.getD 0#32 &&& s[2]?.getD 0#32) ^^^ (s[1]?.getD 0#32 &&& s[2]?.getD 0#32)) = t2 from ht2.symm]
        have HT := Lib.hid (And.intro ht1 ht2)
        clear ht1 ht2
        have q0 := wcell HQ4.out.b12 (i := 0) (by rw [Hsl.out]; omega)
        have q1 := wcell HQ4.out.b12 (i := 1) (by rw [Hsl.out]; omega)
        have q2 := wcell HQ4.out.b12 (i := 2) (by rw [Hsl.out]; omega)
        have q3 := wcell HQ4.out.b12 (i := 3) (by rw [Hsl.out]; omega)
        have q4 := wcell HQ4.out.b12 (i := 4) (by rw [Hsl.out]; omega)
        have q5 := wcell HQ4.out.b12 (i := 5) (by rw [Hsl.out]; omega)
        have q6 := wcell HQ4.out.b12 (i := 6) (by rw [Hsl.out]; omega)
        have Hrn := Lib.hid (show arr (rnd s (gt KU i) (gt W i)) = #[.int .u32 (((t1.toNat : Int) + (t2.toNat : Int)) % 4294967296), V (s[0]?.getD 0#32), V (s[1]?.getD 0#32), V (s[2]?.getD 0#32), .int .u32 (((s[3]?.getD 0#32).toNat + (t1.toNat : Int)) % 4294967296),
            V (s[4]?.getD 0#32), V (s[5]?.getD 0#32), V (s[6]?.getD 0#32)] from by
          rw [add_w, add_w, HT.out.1, HT.out.2]; rfl)
        go_wp2_with (refine wpList_store_row rfl _ _ _ rfl p12 (arr (rnd s (gt KU i) (gt W i))) rfl (by rw [Hrn.out]; rfl) T8 (arr s) HQ4.out.b12 (by kernel_rfl) (by rw [arr_size, Hsl.out]; rfl) (arr_one _) ?_)
        go_roundg (gk - 1)
        case measure => have := HI.out; omega
        case rel =>
          refine ⟨i + 1, by go_num, ⟨by omega, by have := HI.out; omega⟩, ?_⟩
          rw [rnds, Hs.out]
          exact HQ4.out.setRow12 _
      · obtain rfl : i = 64 := by have := HI.out; omega
        go_wp2_with fail
        go_meet
        exact ⟨_, rfl, HP'.out.1, HQ.out⟩
  case rest =>
  obtain ⟨p12, rfl, HV⟩ := hcut
  clear HP'
  have Hv := Lib.hid (rnds_len W h Hh.out 64)
  generalize hv : rnds W h 64 = v at HV Hv
  have HVe := Lib.hid hv
  clear hv
  go_upto_block 6 with (fail)
  go_cut [18] (fun s18 wx => Hid (r.size = 8 ∧ PV w wx p2 p3 p4 p5 p7 p12 (addTo h v 8) b r W v))
  case first =>
    go_wp2_with fail
    go_loopg [201] 9 (fun m s201 wr => ∃ (i : Nat), s201 = .int .i64 i ∧ Hid (i ≤ 8 ∧ 8 - i < m) ∧ Hid (PV w wr p2 p3 p4 p5 p7 p12 (addTo h v i) b r W v))
    case atStart => exact ⟨0, rfl, ⟨by omega, by omega⟩, HV.out.2⟩
    case round =>
      obtain ⟨i, rfl, HI, HQ⟩ := hrel
      by_cases hi : i < 8
      · have hi1 : (i : Int) < 8 := by omega
        have Hal := Lib.hid (addTo_len h v Hh.out i)
        generalize ha : addTo h v i = a at HQ Hal
        have Ha := Lib.hid ha
        clear ha
        have q0 := wcell HQ.out.b.b2 (i := i) (by rw [Hal.out]; omega)
        have q1 := wcell HQ.out.b12 (i := i) (by rw [Hv.out]; omega)
        have q2 := HQ.out.b.b2.frozen i
        have n1 : p2 ≠ p12 := by have := HQ.out.b.o; have := HQ.out.o; omega
        go_upto_region 27 with (fail)
        go_region
        go_wp2_with fail
        go_roundg (gk - 1)
        case measure => have := HI.out; omega
        case rel =>
          refine ⟨i + 1, by go_num, ⟨by omega, by have := HI.out; omega⟩, ?_⟩
          rw [add_w, addTo, Ha.out]
          exact HQ.out.set2 i (gt a i + gt v i)
      · obtain rfl : i = 8 := by have := HI.out; omega
        go_wp2_with fail
        go_meet
        exact ⟨HV.out.1, HQ.out⟩
  case rest =>
  have HR := Lib.hid hcut
  clear hcut HV
  have Hal := Lib.hid (addTo_len h v Hh.out 8)
  have Hpr := Lib.hid (show press h b = addTo h v 8 by unfold press; rw [HW.out, HVe.out])
  generalize addTo h v 8 = a at HR Hal Hpr
  go_wp2_with (first
    | refine wpList_load_row rfl _ _ rfl p2 rfl T8 (arr a) (0, 0) _ HR.out.2.b.b2 Try.underlying162 rfl (by rw [arr_size, Hal.out]; kernel_rfl) ?_
    | refine wpList_store_row rfl _ _ _ rfl p4 (arr a) rfl rfl T8 r HR.out.2.b.b4 (by rw [arr_size, Hal.out]; kernel_rfl) (by rw [arr_size, Hal.out, HR.out.1]) (arr_one _) ?_)
  refine bodyPost_ret (results_cell_row Try.results90 _ _ p4 T8 (arr a) (0, 0) _ rfl (blk_setRow HR.out.2.b.b4 _) Try.underlying162 rfl (by rw [arr_size, Hal.out]; kernel_rfl)) rfl ?_
  rw [Hpr.out]
  exact ⟨rfl, fr_setRow HR.out.2.b.gr (fun h => by have := HR.out.2.b.o; omega) _⟩
end Sha
end Go.Proofs.Ytlodbhlidgepfaa

namespace Go.Proofs.Ytlodbhlidgepfaa
open Go.RowKit
namespace Sha

/-- the variables of the reference's Press -/
structure PR (w wr : World) (p2 p3 p4 p7 : Nat) (h : List U) (b : List B) (r : Array Value) (W : List U) : Prop where
  gr : Gr w wr
  b2 : Blk wr p2 T8 (arr h)
  b3 : Blk wr p3 TB (brr b)
  b4 : Blk wr p4 T8 r
  b7 : Blk wr p7 T64 (arr W)
  o : w.heap.size ≤ p2 ∧ p2 < p3 ∧ p3 < p4 ∧ p4 < p7
section
variable {w wr wx : World} {p2 p3 p4 p7 p12 : Nat} {h : List U} {b : List B} {r : Array Value} {W v : List U}
theorem PR.set7 (H : PR w wr p2 p3 p4 p7 h b r W) (i : Nat) (x : U) :
    PR w (wr.setCell ⟨p7, i, none⟩ (V x)).drew p2 p3 p4 p7 h b r (W.set i x) := by
  obtain ⟨hg, b2, b3, b4, b7, o1, o2, o3, o4⟩ := H
  refine ⟨(hg.setCell (by simp; omega) _).drew, (b2.far (by simp; omega) _).drew, (b3.far (by simp; omega) _).drew, (b4.far (by simp; omega) _).drew, ?_, o1, o2, o3, o4⟩
  have := b7.set_ i (V x)
  rw [arr_set] at this
  exact this.drew
theorem PR.gr' (H : PR w wr p2 p3 p4 p7 h b r W) (hg : Gr wr wx) : PR w wx p2 p3 p4 p7 h b r W :=
  ⟨H.gr.trans hg (fun _ _ h => h), H.b2.fr hg (fun h => h), H.b3.fr hg (fun h => h), H.b4.fr hg (fun h => h), H.b7.fr hg (fun h => h), H.o⟩
theorem PR.drew (H : PR w wr p2 p3 p4 p7 h b r W) : PR w wr.drew p2 p3 p4 p7 h b r W := H.gr' ((Fr.refl _ _).drew)

structure PQ (w wr : World) (p2 p3 p4 p7 p12 : Nat) (h : List U) (b : List B) (r : Array Value) (W v : List U) : Prop where
  b : PR w wr p2 p3 p4 p7 h b r W
  b12 : Blk wr p12 T8 (arr v)
  o : p7 < p12
theorem PQ.gr' (H : PQ w wr p2 p3 p4 p7 p12 h b r W v) (hg : Gr wr wx) : PQ w wx p2 p3 p4 p7 p12 h b r W v := ⟨H.b.gr' hg, H.b12.fr hg (fun h => h), H.o⟩
theorem PQ.drew (H : PQ w wr p2 p3 p4 p7 p12 h b r W v) : PQ w wr.drew p2 p3 p4 p7 p12 h b r W v := H.gr' ((Fr.refl _ _).drew)
theorem PQ.setRow12 (H : PQ w wr p2 p3 p4 p7 p12 h b r W v) (v' : List U) : PQ w (wr.setRow p12 (arr v')) p2 p3 p4 p7 p12 h b r W v' := by
  obtain ⟨⟨hg, b2, b3, b4, b7, o1, o2, o3, o4⟩, b12, o6⟩ := H
  exact ⟨⟨fr_setRow hg (by omega) _, blk_setRow_ne b2 (by omega) _, blk_setRow_ne b3 (by omega) _, blk_setRow_ne b4 (by omega) _, blk_setRow_ne b7 (by omega) _, o1, o2, o3, o4⟩, blk_setRow b12 _, o6⟩
theorem PQ.set2 (H : PQ w wr p2 p3 p4 p7 p12 h b r W v) (i : Nat) (x : U) :
    PQ w (wr.setCell ⟨p2, i, none⟩ (V x)).drew p2 p3 p4 p7 p12 (h.set i x) b r W v := by
  obtain ⟨⟨hg, b2, b3, b4, b7, o1, o2, o3, o4⟩, b12, o6⟩ := H
  refine ⟨⟨(hg.setCell (by simp; omega) _).drew, ?_, (b3.far (by simp; omega) _).drew, (b4.far (by simp; omega) _).drew, (b7.far (by simp; omega) _).drew, o1, o2, o3, o4⟩, (b12.far (by simp; omega) _).drew, o6⟩
  have := b2.set_ i (V x)
  rw [arr_set] at this
  exact this.drew
end

/-- the table, by n steps -/
def W2 (b : List B) (n : Nat) : List U := if n ≤ 16 then W0 b n else W1 (W0 b 16) (n - 16)
theorem W2_len (b : List B) (n : Nat) : (W2 b n).length = 64 := by
  unfold W2; split
  · exact W0_len _ _
  · exact W1_len _ (W0_len _ _) _
theorem W2_lo (b : List B) (n : Nat) (h : n < 16) : W2 b (n + 1) = (W2 b n).set n (lay b n) := by
  unfold W2; rw [if_pos (by omega), if_pos (by omega)]; rfl
theorem W2_hi (b : List B) (j : Nat) : W2 b (j + 16 + 1) = (W2 b (j + 16)).set (j + 16) (ext (W2 b (j + 16)) j) := by
  have e1 : W2 b (j + 16 + 1) = W1 (W0 b 16) (j + 1) := by unfold W2; rw [if_neg (by omega)]; congr 1
  have e2 : W2 b (j + 16) = W1 (W0 b 16) j := by
    unfold W2
    split
    · have : j = 0 := by omega
      subst this; rfl
    · congr 1
  rw [e1, e2]; rfl

theorem ext_ref (W : List U) (j : Nat) : gt W j + gt W (j + 9) + sg0 (gt W (j + 1)) + sg1 (gt W (j + 14)) = ext W j := by
  unfold ext
  rw [BitVec.add_assoc (gt W j), BitVec.add_comm (gt W (j + 9)), ← BitVec.add_assoc]

theorem ch_eq (e f g : U) : (e &&& f ||| ~~~e &&& g) = g ^^^ (e &&& (f ^^^ g)) := by
  apply BitVec.eq_of_getLsbD_eq
  intro i hi
  simp only [BitVec.getLsbD_or, BitVec.getLsbD_and, BitVec.getLsbD_xor, BitVec.getLsbD_not, hi, decide_true, Bool.true_and]
  cases e.getLsbD i <;> cases f.getLsbD i <;> cases g.getLsbD i <;> rfl
theorem maj_eq (a b c : U) : (a &&& b ||| a &&& c ||| b &&& c) = (a &&& b) ^^^ (a &&& c) ^^^ (b &&& c) := by
  apply BitVec.eq_of_getLsbD_eq
  intro i hi
  simp only [BitVec.getLsbD_or, BitVec.getLsbD_and, BitVec.getLsbD_xor]
  cases a.getLsbD i <;> cases b.getLsbD i <;> cases c.getLsbD i <;> rfl

theorem bits_not (e : U) : bits .xor .u32 IntKind.u32.max (e.toNat : Int) = ((~~~e).toNat : Int) := by
  have h1 : IntKind.u32.max = ((BitVec.allOnes 32).toNat : Int) := by decide
  rw [h1, bits_xor, BitVec.allOnes_xor]
theorem wrap_add (a b : U) : IntKind.u32.wrap ((a.toNat : Int) + (b.toNat : Int)) = ((a + b).toNat : Int) := by rw [wrap32, add_w]
theorem r1_bits (v7 e f g k w : U) : IntKind.u32.wrap (IntKind.u32.wrap (IntKind.u32.wrap (IntKind.u32.wrap ((v7.toNat : Int) + bits .xor .u32 (bits .xor .u32 ((rr e 6).toNat : Int) ((rr e 11).toNat : Int)) ((rr e 25).toNat : Int)) +
      bits .or .u32 (bits .and .u32 (e.toNat : Int) (f.toNat : Int)) (bits .and .u32 (bits .xor .u32 IntKind.u32.max (e.toNat : Int)) (g.toNat : Int))) + (k.toNat : Int)) + (w.toNat : Int)) =
    ((v7 + bg1 e + (g ^^^ (e &&& (f ^^^ g))) + k + w).toNat : Int) := by
  rw [bits_not]
  simp only [bits_xor, bits_and, bits_or, wrap_add, ch_eq]
  rfl
theorem r2_bits (a b c : U) : (bits .xor .u32 (bits .xor .u32 ((rr a 2).toNat : Int) ((rr a 13).toNat : Int)) ((rr a 22).toNat : Int) + bits .or .u32 (bits .or .u32 (bits .and .u32 (a.toNat : Int) (b.toNat : Int)) (bits .and .u32 (a.toNat : Int) (c.toNat : Int))) (bits .and .u32 (b.toNat : Int) (c.toNat : Int))) % 4294967296 =
    ((bg0 a + ((a &&& b) ^^^ (a &&& c) ^^^ (b &&& c))).toNat : Int) := by
  simp only [bits_xor, bits_and, bits_or]
  rw [add_w, maj_eq]
  rfl
end Sha
end Go.Proofs.Ytlodbhlidgepfaa

namespace Go.Proofs.Ytlodbhlidgepfaa
open Go.RowKit
namespace Sha
abbrev TU8 : TypeId := 5
abbrev TS8 : TypeId := 32
abbrev TH : TypeId := 165
abbrev TD : TypeId := 114
/-- a byte's cells -/
def eb (x : B) : List Value := [C x]
theorem info_b : (Try.prog.info? TU8).map (fun i => (i.zero, i.size, i.bytes)) = some (some (.int .u8 0), 1, 1) := by kernel_rfl

theorem bytes_eq (l : List B) : l.flatMap eb = l.map C := by induction l with
  | nil => rfl
  | cons x r ih => rw [List.flatMap_cons, ih]; rfl
/-- a block of bytes is a row -/
theorem own_blk {w : World} {g base : Nat} {l : List B} (h : Blk w g TU8 (brr l)) (hb : base ≤ g) (hm : l.length ≤ maxLen) : w.ownsRow base TU8 1 (.slice (some ⟨g, 0, none⟩) l.length l.length) l.length (l.flatMap eb) := by
  refine ⟨by simp [bytes_eq], .inr ⟨g, l.length, brr l, rfl, hb, h, Nat.le_refl _, hm, by simp [brr], ?_⟩⟩
  rw [bytes_eq, Nat.mul_one]
  simp only [brr]
  rw [List.take_of_length_le (by simp)]

theorem pby_val (n i : Nat) : (8 * (n : Int)) / 2 ^ (8 * i) % 256 = ((pby n i).toNat : Int) := by
  unfold pby
  rw [BitVec.toNat_ofNat]
  simp

set_option maxHeartbeats 800000 in
theorem behind_any (n : Nat) (hn : n ≤ 1099511627776) (w : World) :
    Calls Try.prog 92 #[.int .i64 n] w fun e w' => ∃ g, e = .returned (.slice (some ⟨g, 0, none⟩) (psize n) (psize n)) ∧ w.heap.size ≤ g ∧ Blk w' g TU8 (brr (pad n)) ∧ Gr w w' := by
  obtain ⟨i0, hi0, hz0, hz1, hz2⟩ := info_parts info_b
  have hn' : (n : Int) ≤ 1099511627776 := by omega
  have hps := psize_mod n
  have hps1 : -(((n : Int) + 9) % 64) % 64 + 9 = ((psize n : Nat) : Int) := by unfold psize; omega
  have Hps1 := Lib.hid hps1
  have hmk := fun w => run_make (P := Try.prog) w TS8 TU8 i0 (.int .u8 0) Try.underlying32 hi0 hz0 .i64 .i64 (psize n : Nat) (psize n : Nat) (by omega) (by omega) (by rw [hz2]; omega) (by omega)
  have hz : madeCells (Value.int .u8 0).cells (((psize n : Nat) : Int).toNat * i0.size) = brr (List.replicate (psize n) 0) := by
    rw [hz1]
    simp [madeCells, brr, Value.cells]
    apply Array.ext_getElem?
    intro j
    simp only [Array.getElem?_map, Array.getElem?_range, Array.getElem?_replicate]
    split
    · simp [Nat.mod_one]
    · rfl
  rw [hz] at hmk
  simp only [Int.toNat_natCast] at hmk
  clear hps1 hz hz0 hz1 hz2 hi0
  have Hpad0 := Lib.hid (show (List.replicate (psize n) (0 : B)).set 0 128#8 = padI n 0 from rfl)
  have Hpads := Lib.hid (show ∀ i, (padI n i).set (psize n - 1 - i) (pby n i) = padI n (i + 1) from fun _ => rfl)
  have Hpl := Lib.hid (padI_len n)
  have Hpad : Hid (pad n = padI n 8) := Lib.hid rfl
  generalize psize n = s at hps Hps1 hmk Hpad0 Hpads Hpl ⊢
  obtain ⟨hs1, hs2, hs3⟩ := hps
  clear hs1
  have hs4 : (0 : Int) < s := by omega
  have hs5 : (s : Int) ≤ 72 := by omega
  have hs6 : (9 : Int) ≤ s := by omega
  go_enter Try.func92, Try.ntmps92
  go_upto_region 2 with (fail)
  rw [Hps1.out]
  go_upto_region 3 with (fail)
  have HB0 := Lib.hid (Blk.new w TU8 (brr (List.replicate s 0)))
  have HG0 := Lib.hid ((Fr.refl w NoneS).alloc (.cells (brr (List.replicate s 0)) TU8))
  generalize hg : w.heap.size = g at HB0 ⊢
  generalize World.alloc w _ = w1 at HB0 HG0 ⊢
  have Hg := Lib.hid (show w.heap.size ≤ g by rw [hg]; exact Nat.le_refl _)
  clear hg
  have q0 : w1.cell? ⟨g, 0, none⟩ = some (C 0) := by
    rw [HB0.out.cell, brr_get, List.getElem?_replicate, if_pos (by omega)]; rfl
  have q1 := HB0.out.frozen 0
  go_upto_block 0 with (fail)
  have HB1 := Lib.hid (show Blk (w1.setCell ⟨g, 0, none⟩ (.int .u8 128)) g TU8 (brr (padI n 0)) from by
    have h := HB0.out.set_ 0 (C 128#8)
    rw [brr_set, Hpad0.out] at h
    exact h)
  have HG1 := Lib.hid (HG0.out.setCell (p := ⟨g, 0, none⟩) (by have := Hg.out; simp; omega) (.int .u8 128))
  generalize World.setCell w1 _ _ = w2 at HB1 HG1 ⊢
  clear q0 q1 HB0 HG0
  go_wp2_with fail
  go_loopg [16] 9 (fun m s16 wr => ∃ (i : Nat), s16 = .int .i64 i ∧ Hid (i ≤ 8 ∧ 8 - i < m) ∧ Hid (Blk wr g TU8 (brr (padI n i)) ∧ Gr w wr))
  case atStart => exact ⟨0, rfl, ⟨by omega, by omega⟩, HB1.out, HG1.out⟩
  case round =>
    obtain ⟨i, rfl, HI, HP⟩ := hrel
    by_cases hi : i < 8
    · have hi1 : (i : Int) < 8 := by omega
      have q0 := bcell HP.out.1 (i := s - 1 - i) (by rw [Hpl.out]; omega)
      have q1 := HP.out.1.frozen (s - 1 - i)
      have u1 : (s : Int) - 1 - (i : Int) = ((s - 1 - i : Nat) : Int) := by omega
      have u2 : ((s - 1 - i : Nat) : Int) < s := by omega
      go_wp2_with fail
      go_roundg (gk - 1)
      case measure => have := HI.out; omega
      case rel =>
        refine ⟨i + 1, by go_num, ⟨by omega, by have := HI.out; omega⟩, ?_⟩
        rw [pby_val]
        refine ⟨?_, HP.out.2.setCell (p := ⟨g, s - 1 - i, none⟩) (by have := Hg.out; simp; omega) _⟩
        have h := HP.out.1.set_ (s - 1 - i) (C (pby n i))
        rw [brr_set, Hpads.out] at h
        exact h
    · obtain rfl : i = 8 := by have := HI.out; omega
      go_wp2_with fail
      go_ret
      refine ⟨_, rfl, Hg.out, ?_, HP.out.2⟩
      rw [Hpad.out]
      exact HP.out.1

/-- a hash's cells -/
def hcs (st : List U) (lv : Value) (n : Nat) : Array Value := (Value.bool true :: st.map V ++ [lv, .int .i64 (n : Int)]).toArray
/-- a hash of these words, this left-over, so many bytes -/
structure HB (w : World) (base p : Nat) (st : List U) (lv : Value) (n : Nat) (rest : List B) : Prop where
  bs : base ≤ p
  blk : Blk w p TH (hcs st lv n)
  own : w.ownsRow base TU8 1 lv rest.length (rest.flatMap eb)
  len : st.length = 8
  n0 : n < 2 ^ 60
section
variable {w w' : World} {base p n : Nat} {st : List U} {lv : Value} {rest : List B}
theorem HB.c0 (H : HB w base p st lv n rest) : w.cell? ⟨p, 0, none⟩ = some (.bool true) := by rw [H.blk.cell]; simp [hcs]
theorem HB.c9 (H : HB w base p st lv n rest) : w.cell? ⟨p, 9, none⟩ = some lv := by
  rw [H.blk.cell]; have := H.len; simp [hcs, this]
theorem HB.c10 (H : HB w base p st lv n rest) : w.cell? ⟨p, 10, none⟩ = some (.int .i64 (n : Int)) := by
  rw [H.blk.cell]; have := H.len; simp [hcs, this]
theorem HB.ne (H : HB w base p st lv n rest) : lv.ownBlock ≠ some p := own_blk_ne H.own H.blk (by decide)
theorem HB.gr' (H : HB w base p st lv n rest) (hg : Gr w w') : HB w' base p st lv n rest :=
  ⟨H.bs, H.blk.fr hg (fun h => h), hg.owns H.own (fun _ _ h => h), H.len, H.n0⟩
theorem HB.range (H : HB w base p st lv n rest) : w.rangeAt p 1 (st.map V) := by
  intro j v hj
  rw [H.blk.cell]
  have hl : j < st.length := by have := (List.getElem?_eq_some_iff.1 hj).1; simpa using this
  unfold hcs
  rw [List.getElem?_toArray, Nat.add_comm, List.cons_append, List.getElem?_cons_succ, List.getElem?_append_left (by simpa using hl)]
  exact hj
end

theorem new_any (w : World) :
    Calls Try.prog 78 #[] w fun e w' => ∃ p, e = .returned (.pointer (some ⟨p, 0, none⟩)) ∧ HB w' w.heap.size p HU (.slice none 0 0) 0 [] ∧ Gr w w' := by
  go_enter Try.func78, Try.ntmps78
  go_wp2_with (first
    | (go_at_call 89; refine (begin_any _).mono ?_; rintro e w1 ⟨rfl, hg1⟩; have HG1 := Lib.hid hg1; clear hg1)
    | refine wpList_build_to rfl _ _ rfl (hcs HU (.slice none 0 0) 0) (by kernel_rfl) ?_)
  go_ret
  exact ⟨_, rfl, ⟨HG1.out.size, Blk.new _ _ _, World.ownsRow_nil _ _ _ _, rfl, by decide⟩, HG1.out.alloc _⟩

theorem eb_one : ∀ x : B, ∀ u ∈ eb x, u.oneCell' = true := by intro x u hu; simp [eb] at hu; subst hu; rfl
theorem hcs_size (st : List U) (lv : Value) (n : Nat) (h : st.length = 8) : (hcs st lv n).size = 11 := by simp [hcs, h]
theorem hcs_one (st : List U) (lv : Value) (n : Nat) (h : lv.oneCell' = true) : (hcs st lv n).all (·.oneCell') = true := by
  simp [hcs, Value.oneCell', h]
  cases lv <;> first | rfl | simp_all [Value.oneCell']
theorem own_one {w : World} {base n : Nat} {lv : Value} {xs : List Value} (h : w.ownsRow base TU8 1 lv n xs) : lv.oneCell' = true := by
  rcases h.2 with ⟨rfl, _⟩ | ⟨g, cap, cur, rfl, _⟩ <;> rfl
theorem hcs_set9 (st : List U) (lv lv' : Value) (n : Nat) (h : st.length = 8) : (hcs st lv n).setIfInBounds 9 lv' = hcs st lv' n := by
  unfold hcs
  rw [List.setIfInBounds_toArray]
  congr 1
  rw [List.set_append_right _ _ (by simp [h])]
  simp [h]
theorem hcs_set10 (st : List U) (lv : Value) (n m : Nat) (h : st.length = 8) : (hcs st lv n).setIfInBounds 10 (.int .i64 (m : Int)) = hcs st lv m := by
  unfold hcs
  rw [List.setIfInBounds_toArray]
  congr 1
  rw [List.set_append_right _ _ (by simp [h])]
  simp [h]

theorem own_form {w : World} {base n : Nat} {lv : Value} {xs : List Value} (h : w.ownsRow base TU8 1 lv n xs) : ∃ A cap, lv = .slice A n cap := by
  rcases h.2 with ⟨rfl, rfl⟩ | ⟨g, cap, cur, rfl, _⟩
  · exact ⟨_, _, rfl⟩
  · exact ⟨_, _, rfl⟩
theorem hcs_9 {w : World} {q n : Nat} {st : List U} {lv : Value} (h : Blk w q TH (hcs st lv n)) (hl : st.length = 8) : w.cell? ⟨q, 9, none⟩ = some lv := by rw [h.cell]; simp [hcs, hl]
theorem hcs_10 {w : World} {q n : Nat} {st : List U} {lv : Value} (h : Blk w q TH (hcs st lv n)) (hl : st.length = 8) : w.cell? ⟨q, 10, none⟩ = some (.int .i64 (n : Int)) := by rw [h.cell]; simp [hcs, hl]
theorem nil_own (k : Nat) : ¬ (Value.slice none 0 0).ownBlock = some k := by simp [Value.ownBlock]

set_option maxRecDepth 100000 in
theorem copy_any {w : World} {base p n : Nat} {st : List U} {lv : Value} {rest : List B} (H : HB w base p st lv n rest) (hr : rest.length ≤ 4194304) :
    Calls Try.prog 91 #[.pointer (some ⟨p, 0, none⟩)] w fun e w' => ∃ q lv', e = .returned (.pointer (some ⟨q, 0, none⟩)) ∧ HB w' w.heap.size q st lv' n rest ∧ Gr w w' := by
  obtain ⟨i0, hi0, hz0, hz1, hz2⟩ := info_parts info_b
  have c0 := H.c0
  have H' := Lib.hid H
  have Hr := Lib.hid hr
  clear H hr
  go_enter Try.func91, Try.ntmps91
  go_upto_region 4 with (first
    | refine wpList_load_row rfl _ _ rfl p rfl TH (hcs st lv n) (0, 0) _ H'.out.blk Try.underlying165 rfl (by rw [hcs_size _ _ _ H'.out.len]; kernel_rfl) ?_
    | refine wpList_store_new (w0 := w) rfl _ _ _ rfl (hcs st lv n) _ _ rfl rfl rfl (by rw [hcs_size _ _ _ H'.out.len]; kernel_rfl) (by rw [hcs_size _ _ _ H'.out.len]; rfl) (hcs_one _ _ _ (own_one H'.out.own)) ?_)
  have HB1 := Lib.hid (Blk.new w TH (hcs st lv n))
  have HG1 := Lib.hid ((Fr.refl w NoneS).alloc (.cells (hcs st lv n) TH))
  have HS := Lib.hid (H'.out.gr' HG1.out)
  generalize hq : w.heap.size = q at HB1 ⊢
  generalize World.alloc w _ = w1 at HB1 HG1 HS ⊢
  have Hq := Lib.hid hq
  clear hq c0
  have c9 := HS.out.c9
  have HO := Lib.hid (SL.of_own (enc := eb) HS.out.own rfl)
  go_wp2_with (at_builtin; refine wpList_append_sl _ eb rfl (.const (.slice none 0 0)) (.tmp 19) TS8 rfl q TU8 i0 (.int .u8 0) 1 1 Try.underlying32 hi0 hz0 hz1 hz2 rfl (by omega) (.slice none 0 0) 0 [] rfl (World.ownsRow_nil _ _ _ _) lv rest rfl HO.out (fun _ => rfl) eb_one (by have := Hr.out; unfold maxLen; omega) (by have := Hr.out; omega) (by rw [← Hq.out]; exact HG1.out.size) ?_
               intro v2 w2 hown2 hg2 hat2
               rw [Nat.zero_add, List.nil_append] at hown2
               obtain ⟨A2, cap2, rfl⟩ := own_form hown2
               have HO2 := Lib.hid hown2
               have HG2 := Lib.hid (show Gr w1 w2 from hg2.mono (fun k _ h => nil_own k h))
               have HB2 := Lib.hid (HB1.out.fr HG2.out (fun h => h))
               have q9 := hcs_9 HB2.out HS.out.len
               have qf := HB2.out.frozen 9
               clear hown2 hg2 hat2)
  go_ret
  refine ⟨q, .slice A2 rest.length cap2, rfl, ⟨by rw [Hq.out]; exact Nat.le_refl _, ?_, ?_, HS.out.len, HS.out.n0⟩, (HG1.out.trans HG2.out (fun _ _ h => h)).setCell (by simp; have := Hq.out; omega) _⟩
  · have h := HB2.out.set_ 9 (.slice A2 rest.length cap2)
    rw [hcs_set9 _ _ _ _ HS.out.len] at h
    exact h
  · rw [Hq.out]
    refine (((Fr.refl w2 (fun k => k = q)).setCell (p := ⟨q, 9, none⟩) (fun _ => rfl) (.slice A2 rest.length cap2))).owns HO2.out (fun k hk hkq => ?_)
    subst hkq
    exact own_blk_ne HO2.out HB2.out (by decide) hk
end Sha
end Go.Proofs.Ytlodbhlidgepfaa

namespace Go.Proofs.Ytlodbhlidgepfaa
open Go.RowKit
/-- as SL.fr; of an empty slice nothing is asked -/
theorem SL.fr' {α : Type} {enc : α → List Value} {w w' : World} {v : Value} {xs : List α} {S : Nat → Prop} (h : SL enc w v xs) (hf : Fr w w' S) (hn : 0 < xs.length → ∀ k, v.ownBlock = some k → ¬ S k) : SL enc w' v xs := by
  obtain ⟨A, cap, rfl, hc, hr⟩ := h
  refine ⟨A, cap, rfl, hc, fun hl => ?_⟩
  obtain ⟨b, off, rfl, hb, hcell⟩ := hr hl
  exact ⟨b, off, rfl, Nat.lt_of_lt_of_le hb hf.size, fun i u hu => (hf.cell (p := ⟨b, off + i, none⟩) hb (hn hl b rfl)).trans (hcell i u hu)⟩
theorem SL.lt {α : Type} {enc : α → List Value} {w : World} {v : Value} {xs : List α} (h : SL enc w v xs) (h0 : 0 < xs.length) : ∀ k, v.ownBlock = some k → k < w.heap.size := by
  obtain ⟨A, cap, rfl, hc, hr⟩ := h
  obtain ⟨b, off, rfl, hb, _⟩ := hr h0
  intro k hk
  have : b = k := by simpa [Value.ownBlock] using hk
  omega
namespace Sha

/-- 64 bytes of a slice -/
theorem sl_range {w : World} {A : Option Addr} {n cap : Nat} {l : List B} (h : SL eb w (.slice A n cap) l) (k : Nat) (h0 : 0 < k) (hk : k ≤ l.length) : ∃ b off, A = some ⟨b, off, none⟩ ∧ b < w.heap.size ∧ w.rangeAt b off ((l.take k).map C) := by
  obtain ⟨A', cap', he, hc, hr⟩ := h
  obtain ⟨rfl, rfl, rfl⟩ : A = A' ∧ n = l.length ∧ cap = cap' := by simpa using he
  obtain ⟨b, off, rfl, hb, hcell⟩ := hr (by omega)
  refine ⟨b, off, rfl, hb, fun j v hj => hcell j v ?_⟩
  rw [bytes_eq]
  rw [List.map_take, List.getElem?_take] at hj
  split at hj
  · exact hj
  · cases hj

theorem list8 {α : Type} {l : List α} (h : l.length = 8) : ∃ a b c d e f g i, l = [a, b, c, d, e, f, g, i] := by
  match l, h with
  | [a, b, c, d, e, f, g, i], _ => exact ⟨a, b, c, d, e, f, g, i, rfl⟩
theorem arr8 {l : List U} (h : l.length = 8) : arr l = #[V (gt l 0), V (gt l 1), V (gt l 2), V (gt l 3), V (gt l 4), V (gt l 5), V (gt l 6), V (gt l 7)] := by
  obtain ⟨a, b, c, d, e, f, g, i, rfl⟩ := list8 h
  rfl
theorem hcs8 {st q : List U} (lv : Value) (n : Nat) (h : st.length = 8) (hq : q.length = 8) : (((((((((hcs st lv n).setIfInBounds 1 (V (gt q 0))).setIfInBounds 2 (V (gt q 1))).setIfInBounds 3 (V (gt q 2))).setIfInBounds 4 (V (gt q 3))).setIfInBounds 5 (V (gt q 4))).setIfInBounds 6 (V (gt q 5))).setIfInBounds 7 (V (gt q 6))).setIfInBounds 8 (V (gt q 7))) = hcs q lv n := by
  obtain ⟨a, b, c, d, e, f, g, i, rfl⟩ := list8 h
  obtain ⟨a', b', c', d', e', f', g', i', rfl⟩ := list8 hq
  simp [hcs, gt]
theorem hcs_st {w : World} {p n : Nat} {st q : List U} {lv : Value} (H : Blk w p TH (hcs st lv n)) (h : st.length = 8) (hq : q.length = 8) : Blk ((((((((w.setCell ⟨p, 1, none⟩ (V (gt q 0))).setCell ⟨p, 2, none⟩ (V (gt q 1))).setCell ⟨p, 3, none⟩ (V (gt q 2))).setCell ⟨p, 4, none⟩ (V (gt q 3))).setCell ⟨p, 5, none⟩ (V (gt q 4))).setCell ⟨p, 6, none⟩ (V (gt q 5))).setCell ⟨p, 7, none⟩ (V (gt q 6))).setCell ⟨p, 8, none⟩ (V (gt q 7))) p TH (hcs q lv n) := by
  have := (((((((H.set_ 1 (V (gt q 0))).set_ 2 (V (gt q 1))).set_ 3 (V (gt q 2))).set_ 4 (V (gt q 3))).set_ 5 (V (gt q 4))).set_ 6 (V (gt q 5))).set_ 7 (V (gt q 6))).set_ 8 (V (gt q 7))
  rw [hcs8 lv n h hq] at this
  exact this
theorem fr_st {w w' : World} {p : Nat} {q : List U} {S : Nat → Prop} (H : Fr w' w S) (hp : S p) : Fr w' ((((((((w.setCell ⟨p, 1, none⟩ (V (gt q 0))).setCell ⟨p, 2, none⟩ (V (gt q 1))).setCell ⟨p, 3, none⟩ (V (gt q 2))).setCell ⟨p, 4, none⟩ (V (gt q 3))).setCell ⟨p, 5, none⟩ (V (gt q 4))).setCell ⟨p, 6, none⟩ (V (gt q 5))).setCell ⟨p, 7, none⟩ (V (gt q 6))).setCell ⟨p, 8, none⟩ (V (gt q 7))) S :=
  (((((((H.setCell (p := ⟨p, 1, none⟩) (fun _ => hp) (V (gt q 0))).setCell (p := ⟨p, 2, none⟩) (fun _ => hp) (V (gt q 1))).setCell (p := ⟨p, 3, none⟩) (fun _ => hp) (V (gt q 2))).setCell (p := ⟨p, 4, none⟩) (fun _ => hp) (V (gt q 3))).setCell (p := ⟨p, 5, none⟩) (fun _ => hp) (V (gt q 4))).setCell (p := ⟨p, 6, none⟩) (fun _ => hp) (V (gt q 5))).setCell (p := ⟨p, 7, none⟩) (fun _ => hp) (V (gt q 6))).setCell (p := ⟨p, 8, none⟩) (fun _ => hp) (V (gt q 7))
theorem hcs_cell {w : World} {p n : Nat} {st : List U} {lv : Value} (H : Blk w p TH (hcs st lv n)) (h : st.length = 8) (k : Nat) (hk : k < 8) : w.cell? ⟨p, k + 1, none⟩ = some (V (gt st k)) := by
  rw [H.cell]
  obtain ⟨a, b, c, d, e, f, g, i, rfl⟩ := list8 h
  match k, hk with
  | 0, _ | 1, _ | 2, _ | 3, _ | 4, _ | 5, _ | 6, _ | 7, _ => rfl

/-- what a call of take may change -/
def TS (p : Nat) (lv : Value) : Nat → Prop := fun k => k = p ∨ lv.ownBlock = some k


open Classical in
noncomputable def row64 (w : World) (b o : Nat) : Option (Array Value) :=
  if h : ∃ cs : List Value, cs.length = 64 ∧ w.rangeAt b o cs then some h.choose.toArray else none
open Classical in
theorem row64_of {w : World} {b o : Nat} {cs : List Value} (hl : cs.length = 64) (h : w.rangeAt b o cs) : row64 w b o = some cs.toArray := by
  have hx : ∃ cs : List Value, cs.length = 64 ∧ w.rangeAt b o cs := ⟨cs, hl, h⟩
  unfold row64
  rw [dif_pos hx]
  have h1 := hx.choose_spec
  congr 2
  apply List.ext_getElem (by rw [h1.1, hl])
  intro i hi hi'
  have a := h1.2 i _ (List.getElem?_eq_getElem hi)
  have b := h i _ (List.getElem?_eq_getElem hi')
  rw [a] at b
  injection b
open Classical in
theorem row64_some {w : World} {b o : Nat} {a : Array Value} (h : row64 w b o = some a) : a.size = 64 ∧ w.rangeAt b o a.toList := by
  unfold row64 at h
  split at h
  · rename_i hx
    injection h with h
    have h1 := hx.choose_spec
    rw [← h]
    exact ⟨by simpa using h1.1, by simpa using h1.2⟩
  · cases h
noncomputable def oldLoad (w : World) (b o : Nat) : Result Value := (Instr.loadAt TB (.pointer (some ⟨b, o, none⟩))).run Try.prog w
theorem loadAt_row (w : World) (b o : Nat) : (Instr.loadAt TB (.pointer (some ⟨b, o, none⟩))).run Try.prog w = match row64 w b o with | some a => .ok (.agg a) w | none => oldLoad w b o := by
  split
  · rename_i a h
    obtain ⟨h1, h2⟩ := row64_some h
    have := run_loadAt_mid w b o TB a.toList _ h2 Try.underlying167 rfl (by rw [Array.length_toList, h1]; kernel_rfl)
    simpa using this
  · rfl
noncomputable def oldLoadV (w : World) (b o : Nat) : Result Value := (loadVar TB ⟨b, o, none⟩).run Try.prog w
theorem loadVar_row (w : World) (b o : Nat) : (loadVar TB ⟨b, o, none⟩).run Try.prog w = match row64 w b o with | some a => .ok (.agg a) w | none => oldLoadV w b o := by
  split
  · rename_i a h
    obtain ⟨h1, h2⟩ := row64_some h
    have := run_loadVar_mid w b o TB a.toList _ h2 Try.underlying167 rfl (by rw [Array.length_toList, h1]; kernel_rfl)
    simpa using this
  · rfl
noncomputable def oldLoadC (w : World) (b o : Nat) : Result (Array Value) := (loadCellsFrom ⟨b, o, none⟩ 0 64 #[]).run Try.prog w
theorem loadCells_row (w : World) (b o : Nat) : (loadCellsFrom ⟨b, o, none⟩ 0 64 #[]).run Try.prog w = match row64 w b o with | some a => .ok a w | none => oldLoadC w b o := by
  split
  · rename_i a h
    obtain ⟨h1, h2⟩ := row64_some h
    have := run_loadCells_list (P := Try.prog) w ⟨b, o, none⟩ a.toList (fun j v hv => by rw [Addr.add_mid]; exact h2 j v hv)
    rw [Array.length_toList, h1] at this
    simpa [loadCells] using this
  · rfl
attribute [local go_sem ↓] loadAt_row loadVar_row loadCells_row

/-- the state in the midst of take's loop -/
def LI (w wx : World) (p : Nat) (st : List U) (S : Value) (N : Nat) (d : List B) (lv : Value) : Prop :=
  Blk wx p TH (hcs st S N) ∧ SL eb wx S d ∧ S.ownBlock ≠ some p ∧ Fr w wx (TS p lv)

set_option maxHeartbeats 1600000 in
set_option maxRecDepth 100000 in
theorem take_any {w : World} {base p n : Nat} {st : List U} {lv : Value} {rest xs : List B} (H : HB w base p st lv n rest) (v : Value) (hs : SL eb w v xs) (hv : 0 < xs.length → v.ownBlock ≠ some p) (hr : rest.length ≤ 64) (hx : xs.length ≤ 4194304) (hn : n ≤ 4194304) (hb : base ≤ w.heap.size) :
    Calls Try.prog 79 #[.pointer (some ⟨p, 0, none⟩), v] w fun e w' => e = .returned (.tuple #[]) ∧ ∃ lv',
      HB w' base p (eat st (rest ++ xs) ((rest ++ xs).length / 64)) lv' (n + xs.length) ((rest ++ xs).drop (64 * ((rest ++ xs).length / 64))) ∧ Fr w w' (TS p lv) ∧ (∀ k, lv'.ownBlock = some k → w.heap.size ≤ k) := by
  obtain ⟨i0, hi0, hz0, hz1, hz2⟩ := info_parts info_b
  obtain ⟨A, cap, rfl, hnc⟩ := hs.len
  have c10 := H.c10
  have f10 := H.blk.frozen 10
  have HS := Lib.hid hs
  have H' := Lib.hid H
  have Hr := Lib.hid hr
  have Hx := Lib.hid hx
  have Hv := Lib.hid hv
  have hx' : (xs.length : Int) ≤ 4194304 := by omega
  have hn' : (n : Int) ≤ 4194304 := by omega
  have Hb := Lib.hid hb
  clear H hr hx hs hn hnc hb hv
  go_enter Try.func79, Try.ntmps79
  go_upto_region 1 with (fail)
  have HB1 := Lib.hid (show HB (w.setCell ⟨p, 10, none⟩ (.int .i64 ((n : Int) + (xs.length : Int)))) base p st lv (n + xs.length) rest from by
    have h := H'.out.blk.set_ 10 (.int .i64 ((n + xs.length : Nat) : Int))
    rw [hcs_set10 _ _ _ _ H'.out.len] at h
    rw [show (n : Int) + (xs.length : Int) = ((n + xs.length : Nat) : Int) by omega]
    refine ⟨H'.out.bs, h, ?_, H'.out.len, by omega⟩
    refine ((Fr.refl w (fun k => k = p)).setCell (p := ⟨p, 10, none⟩) (fun _ => rfl) _).owns H'.out.own (fun k hk hkq => ?_)
    subst hkq
    exact H'.out.ne hk)
  have HF1 := Lib.hid ((Fr.refl w (TS p lv)).setCell (p := ⟨p, 10, none⟩) (fun _ => Or.inl rfl) (.int .i64 ((n : Int) + (xs.length : Int))))
  have HS1 := Lib.hid (HS.out.fr' ((Fr.refl w (fun k => k = p)).setCell (p := ⟨p, 10, none⟩) (fun _ => rfl) (.int .i64 ((n : Int) + (xs.length : Int)))) (fun h0 k hk hkp => by subst hkp; exact Hv.out h0 hk))
  generalize World.setCell w _ _ = w1 at HB1 HF1 HS1 ⊢
  clear c10 f10
  have c9 := HB1.out.c9
  have hmax : rest.length + xs.length ≤ maxLen := by have := Hr.out; have := Hx.out; unfold maxLen; omega
  have hbyt : (rest.length + xs.length) * 1 ≤ 140737488355328 := by have := Hr.out; have := Hx.out; omega
  have Hmax := Lib.hid (And.intro hmax hbyt)
  clear hmax hbyt
  go_upto_block 0 with (
    at_builtin
    refine wpList_append_sl _ eb rfl (.tmp 17) (.tmp 18) TS8 rfl base TU8 i0 (.int .u8 0) 1 1 Try.underlying32 hi0 hz0 hz1 hz2 rfl (by omega) lv rest.length _ rfl HB1.out.own _ xs rfl HS1.out (fun _ => rfl) eb_one Hmax.out.1 Hmax.out.2 (Nat.le_trans Hb.out HF1.out.size) ?_
    intro v2 w2 hown2 hg2 hat2
    rw [← List.flatMap_append] at hown2
    obtain ⟨A2, cap2, rfl⟩ := own_form hown2
    have HO2 := Lib.hid hown2
    have HG2 := Lib.hid hg2
    have HB2 := Lib.hid (HB1.out.blk.fr hg2 (fun h => HB1.out.ne h))
    have q9 := hcs_9 HB2.out HB1.out.len
    have qf := HB2.out.frozen 9
    clear hown2 hg2 hat2)
  have HN2 := Lib.hid (own_blk_ne HO2.out HB2.out (by decide))
  have HB3 := Lib.hid (show Blk (w2.setCell ⟨p, 9, none⟩ (.slice A2 (rest.length + xs.length) cap2)) p TH (hcs st (.slice A2 (rest.length + xs.length) cap2) (n + xs.length)) from by
    have h := HB2.out.set_ 9 (.slice A2 (rest.length + xs.length) cap2)
    rw [hcs_set9 _ _ _ _ HB1.out.len] at h
    exact h)
  have HS3 := Lib.hid ((SL.of_own (enc := eb) HO2.out (List.length_append).symm).fr ((Fr.refl w2 (fun k => k = p)).setCell (p := ⟨p, 9, none⟩) (fun _ => rfl) (.slice A2 (rest.length + xs.length) cap2)) (fun k hk hkp => by subst hkp; exact HN2.out hk))
  have HF3 := Lib.hid ((HF1.out.trans (HG2.out.mono (T := TS p lv) (fun k _ h => Or.inr h)) (fun _ _ h => h)).setCell (p := ⟨p, 9, none⟩) (fun _ => Or.inl rfl) (.slice A2 (rest.length + xs.length) cap2))
  have Hlen := Lib.hid H'.out.len
  have Hll := Lib.hid (show (rest ++ xs).length ≤ 4194304 + 64 by rw [List.length_append]; have := Hr.out; have := Hx.out; omega)
  have Hnn := Lib.hid HB1.out.n0
  have Hbs := Lib.hid H'.out.bs
  have Hfin := Lib.hid (show ∀ k, k = n + xs.length → k < 2 ^ 60 from fun k hk => by rw [hk]; exact Hnn.out)
  generalize hN : n + xs.length = N at HB3 Hnn
  have HN := Lib.hid hN
  have HL := Lib.hid (show (rest ++ xs).length = rest.length + xs.length from List.length_append)
  generalize hL : rest ++ xs = l at HB3 HS3 HF3 Hll HN2 HL ⊢
  generalize rest.length + xs.length = ll at HB3 HS3 HF3 HN2 HL ⊢
  obtain rfl : l.length = ll := HL.out
  clear HL
  generalize World.setCell w2 _ _ = w3 at HB3 HS3 HF3 ⊢
  have HLx := Lib.hid hL
  clear hN hL HB2 q9 qf HO2 HG2 HS1 HB1 HF1 HS c9 Hmax
  go_wp2_with fail
  go_loopg [] (l.length / 64 + 1) (fun m wr => ∃ (k : Nat) (S : Value), Hid (k ≤ l.length / 64 ∧ l.length / 64 - k < m) ∧ Hid (Blk wr p TH (hcs (eat st l k) S N) ∧ SL eb wr S (l.drop (64 * k)) ∧ S.ownBlock ≠ some p ∧ Fr w wr (TS p lv)))
  case atStart => exact ⟨0, _, ⟨Nat.zero_le _, by omega⟩, HB3.out, HS3.out, HN2.out, HF3.out⟩
  case round =>
    obtain ⟨k, S, HI, HP⟩ := hrel
    clear HB3 HS3 HN2 HF3
    obtain ⟨d, hd⟩ : ∃ d, d = l.drop (64 * k) := ⟨_, rfl⟩
    have Hd := Lib.hid hd
    have hdl : d.length = l.length - 64 * k := by rw [hd, List.length_drop]
    rw [← hd] at HP
    have Hst := Lib.hid (eat_len st l Hlen.out k)
    obtain ⟨A, c, rfl, hdc⟩ := HP.out.2.1.len
    have q9 := hcs_9 HP.out.1 Hst.out
    by_cases hk : k < l.length / 64
    · have hd64 : 64 ≤ d.length := by omega
      have hd64' : (64 : Int) ≤ d.length := by omega
      obtain ⟨b, off, rfl, hbw, hrg⟩ := sl_range HP.out.2.1 64 (by omega) hd64
      obtain ⟨stk, hstk⟩ : ∃ x, x = eat st l k := ⟨_, rfl⟩
      rw [← hstk] at HP Hst
      have Hstk := Lib.hid hstk
      obtain ⟨cs, hcs'⟩ : ∃ cs, cs = (d.take 64).map C := ⟨_, rfl⟩
      rw [← hcs'] at hrg
      have hi : (Try.prog.info? TB).map (·.size) = some cs.length := by rw [hcs', List.length_map, List.length_take, Nat.min_eq_left hd64]; kernel_rfl
      have hu := Try.underlying167
      have hl64 : cs.length = 64 := by rw [hcs', List.length_map, List.length_take, Nat.min_eq_left hd64]
      have hone : ∀ v ∈ cs, v.oneCell' = true := by intro v hv; rw [hcs'] at hv; obtain ⟨x, _, rfl⟩ := List.mem_map.1 hv; rfl
      obtain ⟨s0, s1, s2, s3, s4, s5, s6, s7, hss⟩ := list8 Hst.out
      obtain ⟨t0, t1, t2, t3, t4, t5, t6, t7, hts⟩ := list8 (press_len stk (d.take 64) Hst.out)
      have HLI := Lib.hid (show LI w wr p stk (.slice (some ⟨b, off, none⟩) d.length c) N d lv from HP.out)
      have key : ∀ wx, LI w wx p stk (.slice (some ⟨b, off, none⟩) d.length c) N d lv → Hid (LI w wx p stk (.slice (some ⟨b, off, none⟩) d.length c) N d lv) ∧ wx.cell? ⟨p, 1, none⟩ = some (V s0) ∧ wx.cell? ⟨p, 2, none⟩ = some (V s1) ∧ wx.cell? ⟨p, 3, none⟩ = some (V s2) ∧ wx.cell? ⟨p, 4, none⟩ = some (V s3) ∧ wx.cell? ⟨p, 5, none⟩ = some (V s4) ∧ wx.cell? ⟨p, 6, none⟩ = some (V s5) ∧ wx.cell? ⟨p, 7, none⟩ = some (V s6) ∧ wx.cell? ⟨p, 8, none⟩ = some (V s7) ∧ wx.frozen? ⟨p, 1, none⟩ = false ∧ wx.frozen? ⟨p, 2, none⟩ = false ∧ wx.frozen? ⟨p, 3, none⟩ = false ∧ wx.frozen? ⟨p, 4, none⟩ = false ∧ wx.frozen? ⟨p, 5, none⟩ = false ∧ wx.frozen? ⟨p, 6, none⟩ = false ∧ wx.frozen? ⟨p, 7, none⟩ = false ∧ wx.frozen? ⟨p, 8, none⟩ = false ∧ wx.cell? ⟨p, 9, none⟩ = some (.slice (some ⟨b, off, none⟩) d.length c) ∧ wx.rangeAt b off cs := by
        intro wx hx
        obtain ⟨b', off', he, _, hrx⟩ := sl_range hx.2.1 64 (by omega) hd64
        obtain ⟨rfl, rfl⟩ : b = b' ∧ off = off' := by simpa using he
        rw [← hcs'] at hrx
        have hc (k : Nat) (hk : k < 8) := hcs_cell hx.1 Hst.out k hk
        rw [hss] at hc
        exact ⟨hx, hc 0 (by omega), hc 1 (by omega), hc 2 (by omega), hc 3 (by omega), hc 4 (by omega), hc 5 (by omega), hc 6 (by omega), hc 7 (by omega), hx.1.frozen 1, hx.1.frozen 2, hx.1.frozen 3, hx.1.frozen 4, hx.1.frozen 5, hx.1.frozen 6, hx.1.frozen 7, hx.1.frozen 8,
          hcs_9 hx.1 Hst.out, hrx⟩
      have Hc := Lib.hid (fun (wx : World) (hx : LI w wx p stk (.slice (some ⟨b, off, none⟩) d.length c) N d lv) =>
        (press_any stk (d.take 64) Hst.out (by rw [List.length_take]; omega) wx).mono (R' := fun e w' => e = .returned (.agg #[V t0, V t1, V t2, V t3, V t4, V t5, V t6, V t7]) ∧
            (Hid (LI w w' p stk (.slice (some ⟨b, off, none⟩) d.length c) N d lv) ∧ w'.cell? ⟨p, 1, none⟩ = some (V s0) ∧ w'.cell? ⟨p, 2, none⟩ = some (V s1) ∧ w'.cell? ⟨p, 3, none⟩ = some (V s2) ∧ w'.cell? ⟨p, 4, none⟩ = some (V s3) ∧ w'.cell? ⟨p, 5, none⟩ = some (V s4) ∧ w'.cell? ⟨p, 6, none⟩ = some (V s5) ∧ w'.cell? ⟨p, 7, none⟩ = some (V s6) ∧ w'.cell? ⟨p, 8, none⟩ = some (V s7) ∧ w'.frozen? ⟨p, 1, none⟩ = false ∧ w'.frozen? ⟨p, 2, none⟩ = false ∧ w'.frozen? ⟨p, 3, none⟩ = false ∧ w'.frozen? ⟨p, 4, none⟩ = false ∧ w'.frozen? ⟨p, 5, none⟩ = false ∧ w'.frozen? ⟨p, 6, none⟩ = false ∧ w'.frozen? ⟨p, 7, none⟩ = false ∧ w'.frozen? ⟨p, 8, none⟩ = false ∧ w'.cell? ⟨p, 9, none⟩ = some (.slice (some ⟨b, off, none⟩) d.length c) ∧ w'.rangeAt b off cs)) (fun e w' hh => by
          obtain ⟨rfl, hg⟩ := hh
          refine ⟨by rw [hts]; rfl, key w' ?_⟩
          exact ⟨hx.1.fr hg (fun h => h), hx.2.1.gr hg, hx.2.2.1, hx.2.2.2.trans hg (fun _ _ h => h.elim)⟩))
      have e1 : arr stk = #[V s0, V s1, V s2, V s3, V s4, V s5, V s6, V s7] := by rw [hss]; rfl
      have e2 : brr (d.take 64) = cs.toArray := by rw [hcs']; rfl
      rw [e1, e2] at Hc
      have HLId := Lib.hid (show LI w wr.drew p stk (.slice (some ⟨b, off, none⟩) d.length c) N d lv from ⟨HLI.out.1.drew, HLI.out.2.1.drew, HLI.out.2.2.1, HLI.out.2.2.2.drew⟩)
      have Hk0 := Lib.hid (key wr.drew ⟨HLI.out.1.drew, HLI.out.2.1.drew, HLI.out.2.2.1, HLI.out.2.2.2.drew⟩)
      have hsl64 : ∀ w, (Instr.slice TS8 (.slice (some ⟨b, off, none⟩) d.length c) none (some (.int .i64 64)) none).run Try.prog w = .ok (.slice (some ⟨b, off, none⟩) 64 c) w :=
        fun w => run_slice_to TS8 TU8 i0 Try.underlying32 hi0 (some ⟨b, off, none⟩) d.length c 64 (by omega) w
      have harr : ∀ w, (Instr.arrayAt TB (.slice (some ⟨b, off, none⟩) 64 c)).run Try.prog w = .ok (.pointer (some ⟨b, off, none⟩)) w := by
        intro w; simp [Instr.arrayAt, run_underlying hu]
      have Hts := Lib.hid hts
      have Hd64 := Lib.hid hd64
      have HZ1 := Lib.hid hz1
      have HK := Lib.hid hk
      clear e1 e2 hss hts hstk hcs' key hd hdl hrg hbw hdc hk hd64 hz0 hz1 hz2
      go_upto_region 3 with (fail)
      obtain ⟨_, r1, r2, r3, r4, r5, r6, r7, r8, f1, f2, f3, f4, f5, f6, f7, f8, r9, rrg⟩ := Hk0.out
      have hrow := row64_of hl64 rrg
      clear rrg hi hone q9
      go_cut [0] (fun s0' wx => s0' = .pointer (some ⟨p, 0, none⟩) ∧ Hid (LI w wx p (press stk (d.take 64)) (.slice (some ⟨b, off, none⟩) d.length c) N d lv))
      case first =>
       go_region_law (first | (go_simp; go_at_call 90; refine (Hc.out _ HLId.out).mono ?_; rintro e w' ⟨rfl, hX, r1, r2, r3, r4, r5, r6, r7, r8, f1, f2, f3, f4, f5, f6, f7, f8, r9, rrg⟩))
       all_goals go_wp2_with fail
       all_goals go_meet
       all_goals
        refine ⟨rfl, ?_⟩
        rw [Hts.out]
        exact ⟨hcs_st (q := [t0, t1, t2, t3, t4, t5, t6, t7]) hX.out.1 Hst.out rfl, hX.out.2.1.fr (fr_st (q := [t0, t1, t2, t3, t4, t5, t6, t7]) (Fr.refl _ (fun k => k = p)) rfl) (fun k hk hkp => by subst hkp; exact hX.out.2.2.1 hk), hX.out.2.2.1, fr_st (q := [t0, t1, t2, t3, t4, t5, t6, t7]) hX.out.2.2.2 (Or.inl rfl)⟩
      case rest =>
      obtain ⟨rfl, HL⟩ := hcut
      clear r1 r2 r3 r4 r5 r6 r7 r8 f1 f2 f3 f4 f5 f6 f7 f8 r9 hrow Hk0 HLId HLI Hc hsl64 harr HP
      have Hpl := Lib.hid (press_len stk (d.take 64) Hst.out)
      have q9 := hcs_9 HL.out.1 Hpl.out
      have qf := HL.out.1.frozen 9
      obtain ⟨S', hrun, hsl, hob⟩ := slice_from_ex (P := Try.prog) eb TS8 TU8 i0 1 Try.underlying32 hi0 HZ1.out (fun _ => rfl) (some ⟨b, off, none⟩) d.length c 64 Hd64.out
      obtain ⟨A', c', rfl, _⟩ := (hsl wc _ HL.out.2.1).len
      have HS' := Lib.hid (hsl wc _ HL.out.2.1)
      have Hob := Lib.hid hob
      clear hsl hob
      have hrun' : ∀ w, (Instr.slice TS8 (.slice (some ⟨b, off, none⟩) d.length c) (some (.int .i64 64)) none none).run Try.prog w = .ok (.slice A' (d.drop 64).length c') w := hrun
      clear hrun
      have Hlen' := Lib.hid (List.length_drop (i := 64) (l := d))
      generalize (d.drop 64).length = dl at hrun' HS' Hob Hlen'
      go_wp2_with fail
      go_roundg (gk - 1)
      case measure => have := HI.out; omega
      case rel =>
        refine ⟨k + 1, .slice A' dl c', ⟨by have := HK.out; omega, by have := HI.out; have := HK.out; omega⟩, ?_⟩
        have e1 : l.drop (64 * (k + 1)) = d.drop 64 := by rw [Hd.out, List.drop_drop]; congr 1
        have e2 : eat st l (k + 1) = press stk (d.take 64) := by rw [eat, Hstk.out, Hd.out]
        rw [e1, e2]
        have hne : Value.ownBlock (.slice A' dl c') ≠ some p := by rw [Hob.out]; exact HL.out.2.2.1
        refine ⟨?_, ?_, hne, HL.out.2.2.2.setCell (p := ⟨p, 9, none⟩) (fun _ => Or.inl rfl) _⟩
        · have h := HL.out.1.set_ 9 (.slice A' dl c')
          rw [hcs_set9 _ _ _ _ Hpl.out] at h
          exact h
        · exact HS'.out.fr ((Fr.refl wc (fun k => k = p)).setCell (p := ⟨p, 9, none⟩) (fun _ => rfl) _) (fun k hk hkp => by subst hkp; exact hne hk)
    · obtain rfl : k = l.length / 64 := by have := HI.out; omega
      have hlt : (d.length : Int) < 64 := by omega
      have hdl64 : d.length ≤ 64 := by omega
      have Hdl := Lib.hid hdl64
      have Hdd := Lib.hid hd
      clear hd hdl hk hdl64
      go_wp2_with (
        at_builtin
        refine wpList_append_sl _ eb rfl (.const (.slice none 0 0)) (.tmp 55) TS8 rfl w.heap.size TU8 i0 (.int .u8 0) 1 1 Try.underlying32 hi0 hz0 hz1 hz2 rfl (by omega) (.slice none 0 0) 0 [] rfl (World.ownsRow_nil _ _ _ _) _ d rfl HP.out.2.1 (fun _ => rfl) eb_one (by have := Hdl.out; unfold maxLen; omega) (by have := Hdl.out; omega) HP.out.2.2.2.size ?_
        intro v5 w5 hown5 hg5 hat5
        rw [Nat.zero_add, List.nil_append] at hown5
        obtain ⟨A5, cap5, rfl⟩ := own_form hown5
        have HO5 := Lib.hid hown5
        have HG5 := Lib.hid (show Gr wr w5 from hg5.mono (fun k _ h => nil_own k h))
        have HB5 := Lib.hid (HP.out.1.fr HG5.out (fun h => h))
        have q9' := hcs_9 HB5.out Hst.out
        have qf' := HB5.out.frozen 9
        clear hown5 hg5 hat5)
      go_end0
      refine ⟨rfl, .slice A5 d.length cap5, ?_, ?_, fun k hk => (HO5.out.lt k hk).1⟩
      · rw [HN.out, HLx.out, ← Hdd.out]
        refine ⟨Hbs.out, ?_, own_base ?_ Hb.out, Hst.out, Hnn.out⟩
        · have h := HB5.out.set_ 9 (.slice A5 d.length cap5)
          rw [hcs_set9 _ _ _ _ Hst.out] at h
          exact h
        · exact ((Fr.refl w5 (fun k => k = p)).setCell (p := ⟨p, 9, none⟩) (fun _ => rfl) _).owns HO5.out (fun k hk hkp => by subst hkp; exact own_blk_ne HO5.out HB5.out (by decide) hk)
      · exact (HP.out.2.2.2.trans HG5.out (fun _ _ h => h.elim)).setCell (p := ⟨p, 9, none⟩) (fun _ => Or.inl rfl) _
end Sha
end Go.Proofs.Ytlodbhlidgepfaa

namespace Go.Proofs.Ytlodbhlidgepfaa
open Go.RowKit
namespace Sha

/-- a hash that all these bytes came to -/
def HSt (w : World) (base p : Nat) (lv : Value) (all : List B) : Prop := HB w base p (stt all) lv all.length (rem all)

theorem by24 (x : U) : (x.toNat : Int) / 16777216 % 256 = ((byt x 24).toNat : Int) := by
  unfold byt; rw [BitVec.toNat_setWidth, BitVec.toNat_ushiftRight, Nat.shiftRight_eq_div_pow]; simp
theorem by24' (x : U) : (x.toNat : Int) / 16777216 = ((byt x 24).toNat : Int) := by
  rw [← by24]; have := x.isLt; omega
theorem by16 (x : U) : (x.toNat : Int) / 65536 % 256 = ((byt x 16).toNat : Int) := by
  unfold byt; rw [BitVec.toNat_setWidth, BitVec.toNat_ushiftRight, Nat.shiftRight_eq_div_pow]; simp
theorem by8 (x : U) : (x.toNat : Int) / 256 % 256 = ((byt x 8).toNat : Int) := by
  unfold byt; rw [BitVec.toNat_setWidth, BitVec.toNat_ushiftRight, Nat.shiftRight_eq_div_pow]; simp
theorem by0 (x : U) : (x.toNat : Int) % 256 = ((byt x 0).toNat : Int) := by
  unfold byt; rw [BitVec.toNat_setWidth, BitVec.toNat_ushiftRight, Nat.shiftRight_eq_div_pow]; simp

theorem index_arr (l : List U) (i : Nat) (h : i < 8) (hl : l.length = 8) (w : World) :
    (Instr.index T8 (.agg (l.map V).toArray) (.int .i64 (i : Int))).run Try.prog w = .ok (V (gt l i)) w := by
  obtain ⟨j0, hj0, hz0, hz1, hz2⟩ := info_parts (show (Try.prog.info? 66).map (fun i => (i.zero, i.size, i.bytes)) = some (some (.int .u32 0), 1, 4) by kernel_rfl)
  have h1 : (i : Int) < 8 := by omega
  have h2 : l[i]? = some (gt l i) := gt_get (by omega)
  generalize gt l i = x at h2 ⊢
  simp [Instr.index, run_underlying Try.underlying162, part, asIntOf, go_sem, sizeOf, typeInfo, hj0, hz1, h1, isAgg, run_underlying Try.underlying66, List.getElem?_map, h2]
  intro h3; omega

set_option maxHeartbeats 1600000 in
set_option maxRecDepth 100000 in
theorem hsum_any {w : World} {base p : Nat} {lv : Value} {all : List B} (H : HSt w base p lv all) (hn : all.length ≤ 4194304) :
    Calls Try.prog 80 #[.pointer (some ⟨p, 0, none⟩)] w fun e w' => e = .returned (.agg (brr (sum all))) ∧ Gr w w' := by
  have c0 := H.c0
  have c10 := H.c10
  have hp : p < w.heap.size := H.blk.lt
  have H' := Lib.hid H
  have Hn := Lib.hid hn
  have hn' : (all.length : Int) ≤ 4194304 := by omega
  have Hrl := Lib.hid (rem_len all)
  have HG0 := Lib.hid ((Fr.refl w NoneS).alloc (.cells (brr (List.replicate 32 (0 : B))) TD))
  have H1 := Lib.hid (H'.out.gr' HG0.out)
  have hcp := Lib.hid (copy_any H1.out (by have := Hrl.out; omega))
  clear H hn
  go_enter Try.func80, Try.ntmps80
  go_upto_region 3 with (fail)
  change Code.wp _ _ _ _ (w.alloc (.cells (brr (List.replicate 32 (0 : B))) TD))
  have HB2 := Lib.hid (Blk.new w TD (brr (List.replicate 32 (0 : B))))
  generalize hp2 : w.heap.size = p2 at HB2 ⊢
  have Hp2 := Lib.hid (show w.heap.size ≤ p2 by rw [hp2]; exact Nat.le_refl _)
  clear hp2
  generalize World.alloc w _ = w1 at HB2 HG0 H1 hcp ⊢
  clear c0 c10 hp
  go_upto_region 4 with (go_at_call 91; refine hcp.out.mono ?_; rintro e w2 ⟨q, lv2, rfl, hq2, hg2⟩; have HQ2 := Lib.hid hq2; have HG2 := Lib.hid hg2; clear hq2 hg2)
  have H2 := Lib.hid (H1.out.gr' HG2.out)
  have c10 := H2.out.c10
  have hbh := Lib.hid (behind_any all.length (by have := Hn.out; omega) w2)
  have htk := Lib.hid (fun (w3 : World) (g : Nat) (hg : w2.heap.size ≤ g) (hb : Blk w3 g TU8 (brr (pad all.length))) (h23 : Gr w2 w3) =>
    take_any (H := HQ2.out.gr' h23) (.slice (some ⟨g, 0, none⟩) (psize all.length) (psize all.length)) (xs := pad all.length)
      (by have h := SL.of_own (enc := eb) (own_blk hb (Nat.zero_le g) (by rw [pad_len]; have := psize_mod all.length; unfold maxLen; omega)) rfl; rw [pad_len] at h; exact h)
      (fun _ => by have := HQ2.out.blk.lt; simp [Value.ownBlock]; omega) (by have := Hrl.out; omega) (by rw [pad_len]; have := psize_mod all.length; omega) Hn.out (by have h1 := HG2.out.size; have h2 := h23.size; omega))
  go_upto_region 5 with (first
    | (go_at_call 92; refine hbh.out.mono ?_; rintro e w3 ⟨g, rfl, hg3, hb3, hgr3⟩; have HG3 := Lib.hid hgr3; have HT := Lib.hid (htk.out w3 g hg3 hb3 hgr3); clear hg3 hb3 hgr3)
    | (go_at_call 79; refine HT.out.mono ?_; rintro e w4 ⟨rfl, lv4, hh4, hf4, ho4⟩; have HH4 := Lib.hid hh4; have HF4 := Lib.hid hf4; clear hh4 hf4 ho4))
  have HG4 := Lib.hid (show Gr w w4 from ((HG0.out.trans HG2.out (fun _ _ h => h)).trans HG3.out (fun _ _ h => h)).trans HF4.out (fun k hk hs => by
    have h0 := HG0.out.size
    rcases hs with rfl | hs
    · have := HQ2.out.bs; omega
    · have := (HQ2.out.own.lt k hs).1; omega))
  have HB4 := Lib.hid (show Blk w4 p2 TD (brr (List.replicate 32 (0 : B))) from ((HB2.out.fr HG2.out (fun h => h)).fr HG3.out (fun h => h)).fr HF4.out (fun hs => by
    have h0 := HB2.out.lt
    rcases hs with hs | hs
    · have := HQ2.out.bs; omega
    · have := (HQ2.out.own.lt p2 hs).1; omega))
  have HH := Lib.hid (show HB w4 _ q (stt (all ++ pad all.length)) lv4 _ _ by have h := HH4.out; rw [take_stt] at h; exact h)
  have Hsum := Lib.hid (show sum all = dig (stt (all ++ pad all.length)) from rfl)
  have Hsl := Lib.hid (stt_len (all ++ pad all.length))
  have hrg := HH.out.range
  generalize stt (all ++ pad all.length) = hs at HH Hsum Hsl hrg
  clear HH4 HF4 HT htk hbh c10 H2 hcp HB2 HQ2
  have HBd := Lib.hid (Blk.new w4 TD (brr (List.replicate 32 (0 : B))))
  have HBq := Lib.hid (HH.out.blk.alloc (.cells (brr (List.replicate 32 (0 : B))) TD))
  have HBr := Lib.hid (HB4.out.alloc (.cells (brr (List.replicate 32 (0 : B))) TD))
  have HGw := Lib.hid (HG4.out.alloc (.cells (brr (List.replicate 32 (0 : B))) TD))
  have HRq := Lib.hid (show (w4.alloc (.cells (brr (List.replicate 32 (0 : B))) TD)).rangeAt q 1 (hs.map V) from fun j v hj => by
    have h := hrg j v hj
    have hb := HH.out.blk.lt
    rw [← h]
    exact ((Fr.refl w4 NoneS).alloc (.cells (brr (List.replicate 32 (0 : B))) TD)).cell hb (fun h => h))
  have Hp4 := Lib.hid (show p2 < w4.heap.size from HB4.out.lt)
  have Hw4 := Lib.hid (show w.heap.size ≤ w4.heap.size from HG4.out.size)
  go_upto_region 6 with (fail)
  change Code.wp _ _ _ _ (w4.alloc (.cells (brr (List.replicate 32 (0 : B))) TD))
  generalize w4.heap.size = p4 at HBd Hp4 Hw4 ⊢
  generalize World.alloc w4 _ = w5 at HBd HBq HBr HGw HRq ⊢
  go_upto_block 0 with (refine wpList_load_mid rfl T8 _ rfl q 1 rfl (hs.map V) _ HRq.out Try.underlying162 rfl (by rw [List.length_map, Hsl.out]; kernel_rfl) ?_)
  go_cut [] (fun wx => Hid (Blk wx p4 TD (brr (digI hs 8)) ∧ Blk wx p2 TD (brr (List.replicate 32 (0 : B))) ∧ Gr w wx))
  case first =>
    go_wp2_with fail
    go_loopg [30] 9 (fun m s30 wr => ∃ (i : Nat), s30 = .int .i64 i ∧ Hid (i ≤ 8 ∧ 8 - i < m) ∧ Hid (Blk wr p4 TD (brr (digI hs i)) ∧ Blk wr p2 TD (brr (List.replicate 32 (0 : B))) ∧ Gr w wr))
    case atStart => exact ⟨0, rfl, ⟨by omega, by omega⟩, HBd.out, HBr.out, HGw.out⟩
    case round =>
      obtain ⟨i, rfl, HI, HP⟩ := hrel
      by_cases hi : i < 8
      · have hi1 : (i : Int) < 8 := by omega
        have Hdl := Lib.hid (digI_len hs i)
        have q0 := bcell HP.out.1 (i := 4 * i) (by rw [Hdl.out]; omega)
        have q1 := bcell HP.out.1 (i := 4 * i + 1) (by rw [Hdl.out]; omega)
        have q2 := bcell HP.out.1 (i := 4 * i + 2) (by rw [Hdl.out]; omega)
        have q3 := bcell HP.out.1 (i := 4 * i + 3) (by rw [Hdl.out]; omega)
        have f0 := HP.out.1.frozen (4 * i)
        have f1 := HP.out.1.frozen (4 * i + 1)
        have f2 := HP.out.1.frozen (4 * i + 2)
        have f3 := HP.out.1.frozen (4 * i + 3)
        have hx := index_arr hs i hi Hsl.out
        go_wp2_with fail
        go_roundg (gk - 1)
        case measure => have := HI.out; omega
        case rel =>
          refine ⟨i + 1, by go_num, ⟨by omega, by have := HI.out; omega⟩, ?_⟩
          rw [by24', by16, by8, by0]
          have h := (((HP.out.1.set_ (4 * i) (C (byt (gt hs i) 24))).set_ (4 * i + 1) (C (byt (gt hs i) 16))).set_ (4 * i + 2) (C (byt (gt hs i) 8))).set_ (4 * i + 3) (C (byt (gt hs i) 0))
          rw [brr_set, brr_set, brr_set, brr_set] at h
          have hne : p2 ≠ p4 := by have := Hp4.out; omega
          refine ⟨h, (((HP.out.2.1.far (p := ⟨p4, 4 * i, none⟩) hne _).far (p := ⟨p4, 4 * i + 1, none⟩) hne _).far (p := ⟨p4, 4 * i + 2, none⟩) hne _).far (p := ⟨p4, 4 * i + 3, none⟩) hne _, ?_⟩
          have hge : ∀ k, k < w.heap.size → ¬ (p4 = k) := fun k hk => by have := Hw4.out; omega
          exact (((HP.out.2.2.setCell (p := ⟨p4, 4 * i, none⟩) (fun h => hge _ h rfl) _).setCell (p := ⟨p4, 4 * i + 1, none⟩) (fun h => hge _ h rfl) _).setCell (p := ⟨p4, 4 * i + 2, none⟩) (fun h => hge _ h rfl) _).setCell (p := ⟨p4, 4 * i + 3, none⟩) (fun h => hge _ h rfl) _
      · obtain rfl : i = 8 := by have := HI.out; omega
        go_wp2_with fail
        go_meet
        exact HP
  case rest =>
  have HR := Lib.hid hcut
  clear hcut
  have Hdl := Lib.hid (dig_len hs)
  have Hdd := Lib.hid (show digI hs 8 = dig hs from rfl)
  rw [Hdd.out, ← Hsum.out] at HR
  rw [← Hsum.out] at Hdl
  go_wp2_with (first
    | refine wpList_load_row rfl _ _ rfl p4 rfl TD (brr (sum all)) (0, 0) _ HR.out.out.1 Try.underlying114 rfl (by rw [brr_size, Hdl.out]; kernel_rfl) ?_
    | refine wpList_store_row rfl _ _ _ rfl p2 (brr (sum all)) rfl rfl TD _ HR.out.out.2.1 (by rw [brr_size, Hdl.out]; kernel_rfl) (by rw [brr_size, brr_size, Hdl.out]; rfl) (brr_one _) ?_)
  refine bodyPost_ret (results_cell_row Try.results80 _ _ p2 TD (brr (sum all)) (0, 0) _ rfl (blk_setRow HR.out.out.2.1 _) Try.underlying114 rfl (by rw [brr_size, Hdl.out]; kernel_rfl)) rfl ?_
  exact ⟨rfl, fr_setRow HR.out.out.2.2 (fun h => by have := Hp2.out; omega) _⟩
end Sha
end Go.Proofs.Ytlodbhlidgepfaa

namespace Go.Proofs.Ytlodbhlidgepfaa
open Go.RowKit
namespace Sha

set_option maxHeartbeats 1600000 in
set_option maxRecDepth 100000 in
theorem sum_any (v : Value) (all : List B) (w : World) (hs : SL eb w v all) (hn : all.length ≤ 4194304) :
    Calls Try.prog 58 #[v] w fun e w' => e = .returned (.agg (brr (sum all))) ∧ Gr w w' := by
  have HS := Lib.hid hs
  have Hn := Lib.hid hn
  clear hs hn
  obtain ⟨A, cap, rfl, _⟩ := HS.out.len
  have HG0 := Lib.hid ((Fr.refl w NoneS).alloc (.cells (brr (List.replicate 32 (0 : B))) TD))
  go_enter Try.func58, Try.ntmps58
  go_upto_region 1 with (fail)
  change Code.wp _ _ _ _ (w.alloc (.cells (brr (List.replicate 32 (0 : B))) TD))
  have HB2 := Lib.hid (Blk.new w TD (brr (List.replicate 32 (0 : B))))
  generalize hp2 : w.heap.size = p2 at HB2 ⊢
  have Hp2 := Lib.hid (show w.heap.size ≤ p2 by rw [hp2]; exact Nat.le_refl _)
  clear hp2
  generalize World.alloc w _ = w1 at HB2 HG0 ⊢
  go_upto_region 2 with (go_at_call 78; refine (new_any _).mono ?_; rintro e w2 ⟨p, rfl, hh2, hg2⟩; have HH2 := Lib.hid hh2; have HG2 := Lib.hid hg2; clear hh2 hg2)
  have HT := Lib.hid (take_any (H := HH2.out) _ ((HS.out.gr HG0.out).gr HG2.out) (fun h0 h => by have h1 := HS.out.lt h0 _ h; have h2 := HH2.out.bs; have h3 := HG0.out.size; omega) (by simp) Hn.out (by omega) HG2.out.size)
  go_upto_region 3 with (go_at_call 79; refine HT.out.mono ?_; rintro e w3 ⟨rfl, lv3, hh3, hf3, ho3⟩; have HH3 := Lib.hid hh3; have HF3 := Lib.hid hf3; clear hh3 hf3 ho3)
  have HG3 := Lib.hid (show Gr w1 w3 from HG2.out.trans HF3.out (fun k hk hs => by
    rcases hs with rfl | hs
    · have := HH2.out.bs; omega
    · simp [Value.ownBlock] at hs))
  have HB3 := Lib.hid (HB2.out.fr HG3.out (fun h => h))
  have HX := Lib.hid (show HSt w3 w1.heap.size p lv3 all from by
    have h := HH3.out
    have e1 := take_stt [] all
    have e2 := take_rem [] all
    rw [rem_nil, stt_nil] at e1
    rw [rem_nil] at e2
    rw [e1, e2, List.nil_append, Nat.zero_add] at h
    exact h)
  have HSm := Lib.hid (hsum_any HX.out Hn.out)
  have Hdl := Lib.hid (sum_len all)
  go_wp2_with (first
    | (go_at_call 80; refine HSm.out.mono ?_; rintro e w4 ⟨rfl, hg4⟩; have HG4 := Lib.hid hg4; have HB4 := Lib.hid (HB3.out.fr hg4 (fun h => h)); clear hg4)
    | refine wpList_store_row rfl _ _ _ rfl p2 (brr (sum all)) rfl rfl TD _ HB4.out (by rw [brr_size, Hdl.out]; kernel_rfl) (by rw [brr_size, brr_size, Hdl.out]; rfl) (brr_one _) ?_)
  refine bodyPost_ret (results_cell_row Try.results58 _ _ p2 TD (brr (sum all)) (0, 0) _ rfl (blk_setRow HB4.out _) Try.underlying114 rfl (by rw [brr_size, Hdl.out]; kernel_rfl)) rfl ?_
  exact ⟨rfl, fr_setRow ((HG0.out.trans HG3.out (fun _ _ h => h)).trans HG4.out (fun _ _ h => h)) (fun h => by have := Hp2.out; omega) _⟩
end Sha
end Go.Proofs.Ytlodbhlidgepfaa
