/- sha: words, and the small functions. -/
import Derived.Test.YtmjpghaggnpdbaaFrame
import Derived.Test.YtmjpghaggnpdbaaLib
import Derived.BigQuiet
import Derived.BigRegion
import Derived.Deep.QuietTactic
import Derived.Deep.LoopGhost
import Derived.Deep.DeepCutAuto
import Derived.Deep.CutBlock
import Derived.Deep.WholeRow
set_option linter.unusedVariables false
set_option linter.unusedSimpArgs false
namespace Go.Proofs.Ytmjpghaggnpdbaa
open Go.RowKit

namespace Sha
abbrev U := BitVec 32
/-- a word as the program holds it -/
abbrev V (x : U) : Value := .int .u32 (x.toNat : Int)

theorem wrap32 (n : Int) : IntKind.u32.wrap n = n % 4294967296 := by simp [IntKind.wrap, IntKind.bits, IntKind.signed]
theorem ofInt_toNat (a : U) : BitVec.ofInt 32 (a.toNat : Int) = a := by
  apply BitVec.eq_of_toNat_eq
  rw [BitVec.toNat_ofInt]
  have := a.isLt
  omega
theorem bits_or (a b : U) : bits .or .u32 (a.toNat : Int) (b.toNat : Int) = ((a ||| b).toNat : Int) := by
  show IntKind.u32.wrap ((BitVec.ofInt 32 _ ||| BitVec.ofInt 32 _).toNat : Int) = _
  rw [ofInt_toNat, ofInt_toNat, wrap32]
  have := (a ||| b).isLt
  omega
theorem bits_and (a b : U) : bits .and .u32 (a.toNat : Int) (b.toNat : Int) = ((a &&& b).toNat : Int) := by
  show IntKind.u32.wrap ((BitVec.ofInt 32 _ &&& BitVec.ofInt 32 _).toNat : Int) = _
  rw [ofInt_toNat, ofInt_toNat, wrap32]
  have := (a &&& b).isLt
  omega
theorem bits_xor (a b : U) : bits .xor .u32 (a.toNat : Int) (b.toNat : Int) = ((a ^^^ b).toNat : Int) := by
  show IntKind.u32.wrap ((BitVec.ofInt 32 _ ^^^ BitVec.ofInt 32 _).toNat : Int) = _
  rw [ofInt_toNat, ofInt_toNat, wrap32]
  have := (a ^^^ b).isLt
  omega
theorem add_w (a b : U) : ((a.toNat : Int) + (b.toNat : Int)) % 4294967296 = ((a + b).toNat : Int) := by
  rw [BitVec.toNat_add]; omega
theorem shr_w (a : U) (n : Nat) : (a.toNat : Int) / 2 ^ n = ((a >>> n).toNat : Int) := by
  rw [BitVec.toNat_ushiftRight, Nat.shiftRight_eq_div_pow]; simp
theorem shl_w (a : U) (n : Nat) : (a.toNat : Int) * 2 ^ n % 4294967296 = ((a <<< n).toNat : Int) := by
  rw [BitVec.toNat_shiftLeft, Nat.shiftLeft_eq]; simp

/-- a word turned right -/
def rr (x : U) (n : Nat) : U := x >>> n ||| x <<< (32 - n)

theorem rot_any (x : U) (k : Int) (s : Nat) (hk : bits .and .u64 (IntKind.u64.wrap k) 31 = (s : Int)) (h0 : 0 < s) (h1 : s < 32) (w : World) :
    Calls Try.prog 72 #[V x, .int .i64 k] w fun e w' => e = .returned (V (rr x (32 - s))) ∧ w' = w := by
  have h2 : ((s : Int)).toNat = s := rfl
  have h3 : IntKind.u64.wrap (32 - (s : Int)) = ((32 - s : Nat) : Int) := by simp [IntKind.wrap, IntKind.bits, IntKind.signed]; omega
  have h4 : (((32 - s : Nat) : Int)).toNat = 32 - s := rfl
  have h5 : (0 : Int) ≤ s := by omega
  have h6 : (s : Int) ≤ 32 := by omega
  have h7 : (0 : Int) ≤ ((32 - s : Nat) : Int) := by omega
  have h8 : ((32 - s : Nat) : Int) ≤ 32 := by omega
  go_enter Try.func72, Try.ntmps72
  go_wp2
  go_ret
  refine ⟨?_, rfl⟩
  rw [shl_w, shr_w, bits_or]
  have : 32 - (32 - s) = s := by omega
  unfold rr
  rw [this, BitVec.or_comm]
  rfl
theorem turn_ref (x : U) (n : Nat) (h0 : 0 < n) (h1 : n < 32) (w : World) :
    Calls Try.prog 66 #[V x, .int .i64 n] w fun e w' => e = .returned (V (rr x n)) ∧ w' = w := by
  have a1 : IntKind.u64.wrap (n : Int) = (n : Int) := by simp [IntKind.wrap, IntKind.bits, IntKind.signed]; omega
  have a2 : wrap64 (32 - (n : Int)) = ((32 - n : Nat) : Int) := by unfold wrap64; omega
  have a3 : IntKind.u64.wrap ((32 - n : Nat) : Int) = ((32 - n : Nat) : Int) := by simp [IntKind.wrap, IntKind.bits, IntKind.signed]; omega
  have a4 : min n 32 = n := by omega
  have a5 : min (32 - n) 32 = 32 - n := by omega
  go_enter Try.func66, Try.ntmps66
  go_wp2
  go_ret
  refine ⟨?_, rfl⟩
  unfold rr
  simp only [Int.toNat_natCast, a4, a5]
  rw [shl_w, shr_w, bits_or]
  rfl
theorem turn_any (x : U) (n : Nat) (h0 : 0 < n) (h1 : n < 32) (w : World) :
    Calls Try.prog 71 #[V x, .int .i64 n] w fun e w' => e = .returned (V (rr x n)) ∧ w' = w := by
  have a1 : bits .and .u64 (IntKind.u64.wrap (-(n : Int))) 31 = ((32 - n : Nat) : Int) := by
    have : ∀ n : Fin 32, 0 < n.val → bits .and .u64 (IntKind.u64.wrap (-(n.val : Int))) 31 = ((32 - n.val : Nat) : Int) := by decide +kernel
    exact this ⟨n, h1⟩ h0
  have H := Lib.hid (fun w => rot_any x _ _ a1 (by omega) (by omega) w)
  have e : 32 - (32 - n) = n := by omega
  rw [e] at H
  clear a1 e
  go_enter Try.func71, Try.ntmps71
  go_wp2_with (go_at_call 72; refine (H.out _).mono ?_; rintro e w' ⟨rfl, rfl⟩)
  go_ret
  exact ⟨rfl, rfl⟩

/-! ### the tables -/
section
variable {P : Program}
theorem wpList_build_to {ops : Array Oper} {rest : List Oper} {o : Oper} {a : Act} {w : World} {Q : Exit → Act → World → Prop} (hg : o.guard = none) (t : TypeId) (parts : Array (Nat × Operand)) (ho : o.op = .build t parts)
    (cells : Array Value) (hf : P.built t (parts.map fun (i, x) => (i, a.eval x)).toList = some cells)
    (h : wpList P ops Q rest (a.put o.dst (.agg cells)) w) : wpList P ops Q (o :: rest) a w :=
  wpList_build hg t parts ho (by rw [hf]; rfl) (by rw [hf]; exact h)
theorem wpList_store_new {ops : Array Oper} {rest : List Oper} {o : Oper} {a : Act} {w w0 : World} {Q : Exit → Act → World → Prop} (hgd : o.guard = none) (ty : TypeId) (x y : Operand) (ho : o.op = .store ty x y)
    (cells : Array Value) (t : TypeId) (old : Array Value) (hx : a.eval x = .pointer (some ⟨w0.heap.size, 0, none⟩)) (hy : a.eval y = .agg cells)
    (hw : w = w0.alloc (.cells old t)) (hi : (P.info? ty).map (·.size) = some cells.size)
    (hold : old.size = cells.size) (h1 : cells.all (·.oneCell') = true)
    (h : wpList P ops Q rest (a.put o.dst undef) (w0.alloc (.cells cells t))) : wpList P ops Q (o :: rest) a w := by
  subst hw
  refine wpList_store_row hgd ty x y ho w0.heap.size cells hx hy t old (heap_alloc_last _ _) hi hold h1 ?_
  rw [World.setRow_alloc_new]
  exact h
end

def vals (l : List Nat) : Array Value := (l.map fun n : Nat => Value.int .u32 (n : Int)).toArray
def KS : List Nat := [0x428a2f98, 0x71374491, 0xb5c0fbcf, 0xe9b5dba5, 0x3956c25b, 0x59f111f1, 0x923f82a4, 0xab1c5ed5, 0xd807aa98, 0x12835b01, 0x243185be, 0x550c7dc3, 0x72be5d74, 0x80deb1fe, 0x9bdc06a7, 0xc19bf174, 0xe49b69c1, 0xefbe4786, 0x0fc19dc6, 0x240ca1cc, 0x2de92c6f, 0x4a7484aa, 0x5cb0a9dc, 0x76f988da, 0x983e5152, 0xa831c66d, 0xb00327c8, 0xbf597fc7, 0xc6e00bf3, 0xd5a79147, 0x06ca6351, 0x14292967, 0x27b70a85, 0x2e1b2138, 0x4d2c6dfc, 0x53380d13, 0x650a7354, 0x766a0abb, 0x81c2c92e, 0x92722c85, 0xa2bfe8a1, 0xa81a664b, 0xc24b8b70, 0xc76c51a3, 0xd192e819, 0xd6990624, 0xf40e3585, 0x106aa070, 0x19a4c116, 0x1e376c08, 0x2748774c, 0x34b0bcb5, 0x391c0cb3, 0x4ed8aa4a, 0x5b9cca4f, 0x682e6ff3, 0x748f82ee, 0x78a5636f, 0x84c87814, 0x8cc70208, 0x90befffa, 0xa4506ceb, 0xbef9a3f7, 0xc67178f2]
def KA : Array Value := (KS.map fun n : Nat => Value.int .u32 (n : Int)).toArray
def HS : List Nat := [0x6a09e667, 0xbb67ae85, 0x3c6ef372, 0xa54ff53a, 0x510e527f, 0x9b05688c, 0x1f83d9ab, 0x5be0cd19]
def HA : Array Value := (HS.map fun n : Nat => Value.int .u32 (n : Int)).toArray

set_option maxRecDepth 100000 in
theorem const_any (w : World) :
    Calls Try.prog 70 #[] w fun e w' => e = .returned (.agg KA) ∧ Gr w w' := by
  go_enter Try.func70, Try.ntmps70
  go_wp2_with (first
    | refine wpList_build_to rfl _ _ rfl KA (by kernel_rfl) ?_
    | refine wpList_store_new (w0 := w) rfl _ _ _ rfl KA _ _ rfl rfl rfl (by kernel_rfl) (by kernel_rfl) (by kernel_rfl) ?_)
  refine bodyPost_ret (results_cell_row Try.results70 _ _ w.heap.size _ KA (0, 0) _ rfl (heap_alloc_last _ _) Try.underlying107 rfl (by kernel_rfl)) rfl ?_
  exact ⟨rfl, (Fr.refl _ _).alloc _⟩
theorem begin_any (w : World) :
    Calls Try.prog 62 #[] w fun e w' => e = .returned (.agg HA) ∧ Gr w w' := by
  go_enter Try.func62, Try.ntmps62
  go_wp2_with (first
    | refine wpList_build_to rfl _ _ rfl HA (by kernel_rfl) ?_
    | refine wpList_store_new (w0 := w) rfl _ _ _ rfl HA _ _ rfl rfl rfl (by kernel_rfl) (by kernel_rfl) (by kernel_rfl) ?_)
  refine bodyPost_ret (results_cell_row Try.results62 _ _ w.heap.size _ HA (0, 0) _ rfl (heap_alloc_last _ _) Try.underlying86 rfl (by kernel_rfl)) rfl ?_
  exact ⟨rfl, (Fr.refl _ _).alloc _⟩
theorem rbegin_any (w : World) :
    Calls Try.prog 55 #[] w fun e w' => e = .returned (.agg HA) ∧ Gr w w' := by
  go_enter Try.func55, Try.ntmps55
  go_wp2_with (first
    | refine wpList_build_to rfl _ _ rfl HA (by kernel_rfl) ?_
    | refine wpList_store_new (w0 := w) rfl _ _ _ rfl HA _ _ rfl rfl rfl (by kernel_rfl) (by kernel_rfl) (by kernel_rfl) ?_)
  refine bodyPost_ret (results_cell_row Try.results55 _ _ w.heap.size _ HA (0, 0) _ rfl (heap_alloc_last _ _) Try.underlying86 rfl (by kernel_rfl)) rfl ?_
  exact ⟨rfl, (Fr.refl _ _).alloc _⟩
set_option maxRecDepth 100000 in
theorem rconst_any (i : Nat) (k : Nat) (hi : i < 64) (hk : KA[i]? = some (.int .u32 (k : Int))) (w : World) :
    Calls Try.prog 67 #[.int .i64 i] w fun e w' => e = .returned (.int .u32 k) ∧ Gr w w' := by
  have hi' : (i : Int) < 64 := by omega
  go_enter Try.func67, Try.ntmps67
  go_wp2_with (first
    | refine wpList_build_to rfl _ _ rfl KA (by kernel_rfl) ?_
    | refine wpList_store_new (w0 := w) rfl _ _ _ rfl KA _ _ rfl rfl rfl (by kernel_rfl) (by kernel_rfl) (by kernel_rfl) ?_)
  go_ret
  exact ⟨rfl, (Fr.refl _ _).alloc _⟩
end Sha
end Go.Proofs.Ytmjpghaggnpdbaa
