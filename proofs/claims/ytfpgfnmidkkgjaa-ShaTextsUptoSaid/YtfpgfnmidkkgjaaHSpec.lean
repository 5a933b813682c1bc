/- sha: what Press answers, in plain Lean. -/
import Derived.Test.YtfpgfnmidkkgjaaHWa
set_option linter.unusedVariables false
set_option linter.unusedSimpArgs false
namespace Go.Proofs.Ytfpgfnmidkkgjaa
open Go.RowKit

/-- a function with a body is entered -/
theorem callFunc_enters {P : Program} {f : FuncId} {fn : Func} (hf : P.funcs[f]? = some fn) (hn : (fn.name == "runtime.NumGoroutine") = false) (hb : fn.body.isNone = false) (args : Array Value) (w : World) :
    (callFunc f args).run P w = .ok (.enter f args) w := by
  unfold callFunc program
  simp only [Sem.run_bind]
  show (Sem.run P (match P.funcs[f]? with | none => _ | some fn => _) w) = _
  rw [hf]
  simp only [hn, hb]
  rfl

namespace Sha
abbrev B := BitVec 8
/-- words, as the program holds them -/
def arr (l : List U) : Array Value := (l.map V).toArray
/-- bytes -/
abbrev C (x : B) : Value := .int .u8 (x.toNat : Int)
def brr (l : List B) : Array Value := (l.map C).toArray

theorem arr_size (l : List U) : (arr l).size = l.length := by simp [arr]
theorem brr_size (l : List B) : (brr l).size = l.length := by simp [brr]
theorem arr_get (l : List U) (i : Nat) : (arr l)[i]? = (l[i]?).map V := by simp [arr]
theorem brr_get (l : List B) (i : Nat) : (brr l)[i]? = (l[i]?).map C := by simp [brr]
theorem arr_set (l : List U) (i : Nat) (x : U) : (arr l).setIfInBounds i (V x) = arr (l.set i x) := by
  unfold arr; rw [List.map_set]; simp
theorem brr_set (l : List B) (i : Nat) (x : B) : (brr l).setIfInBounds i (C x) = brr (l.set i x) := by
  unfold brr; rw [List.map_set]; simp
theorem arr_one (l : List U) : (arr l).all (·.oneCell') = true := by
  simp [arr, Value.oneCell']
theorem brr_one (l : List B) : (brr l).all (·.oneCell') = true := by
  simp [brr, Value.oneCell']

def KU : List U := KS.map (BitVec.ofNat 32)
def HU : List U := HS.map (BitVec.ofNat 32)
theorem KA_eq : KA = arr KU := by kernel_rfl
theorem HA_eq : HA = arr HU := by kernel_rfl

/-- four bytes make a word -/
def word (a b c d : B) : U := (a.setWidth 32) <<< 24 ||| (b.setWidth 32) <<< 16 ||| (c.setWidth 32) <<< 8 ||| d.setWidth 32
def sg0 (x : U) : U := rr x 7 ^^^ rr x 18 ^^^ x >>> 3
def sg1 (x : U) : U := rr x 17 ^^^ rr x 19 ^^^ x >>> 10
def bg0 (x : U) : U := rr x 2 ^^^ rr x 13 ^^^ rr x 22
def bg1 (x : U) : U := rr x 6 ^^^ rr x 11 ^^^ rr x 25

abbrev gt (l : List U) (i : Nat) : U := l.getD i 0
/-- the first sixteen words of a block, of which i are laid -/
def lay (b : List B) (i : Nat) : U := word (b.getD (4 * i) 0) (b.getD (4 * i + 1) 0) (b.getD (4 * i + 2) 0) (b.getD (4 * i + 3) 0)
def ext (W : List U) (j : Nat) : U := gt W j + sg0 (gt W (j + 1)) + gt W (j + 9) + sg1 (gt W (j + 14))
def W0 (b : List B) : Nat → List U
  | 0 => List.replicate 64 0
  | i + 1 => (W0 b i).set i (lay b i)
def W1 (W : List U) : Nat → List U
  | 0 => W
  | j + 1 => (W1 W j).set (j + 16) (ext (W1 W j) j)
theorem W0_len (b : List B) : ∀ i, (W0 b i).length = 64
  | 0 => by simp [W0]
  | i + 1 => by rw [W0, List.length_set, W0_len]
theorem W1_len (W : List U) (h : W.length = 64) : ∀ i, (W1 W i).length = 64
  | 0 => h
  | i + 1 => by rw [W1, List.length_set, W1_len W h]

/-- a round -/
def rnd (s : List U) (k w : U) : List U :=
  let t1 := gt s 7 + bg1 (gt s 4) + (gt s 6 ^^^ (gt s 4 &&& (gt s 5 ^^^ gt s 6))) + k + w
  let t2 := bg0 (gt s 0) + ((gt s 0 &&& gt s 1) ^^^ (gt s 0 &&& gt s 2) ^^^ (gt s 1 &&& gt s 2))
  [t1 + t2, gt s 0, gt s 1, gt s 2, gt s 3 + t1, gt s 4, gt s 5, gt s 6]
def rnds (W : List U) (s : List U) : Nat → List U
  | 0 => s
  | i + 1 => rnd (rnds W s i) (gt KU i) (gt W i)
theorem rnds_len (W s : List U) (h : s.length = 8) : ∀ i, (rnds W s i).length = 8
  | 0 => h
  | i + 1 => rfl
def addTo (h v : List U) : Nat → List U
  | 0 => h
  | i + 1 => (addTo h v i).set i (gt (addTo h v i) i + gt v i)
theorem addTo_len (h v : List U) (hh : h.length = 8) : ∀ i, (addTo h v i).length = 8
  | 0 => hh
  | i + 1 => by rw [addTo, List.length_set, addTo_len h v hh]
/-- a block is pressed into eight words -/
def press (h : List U) (b : List B) : List U := addTo h (rnds (W1 (W0 b 16) 48) h 64) 8

theorem gt_get {l : List U} {i : Nat} (h : i < l.length) : l[i]? = some (gt l i) := by simp [gt, h]
end Sha
end Go.Proofs.Ytfpgfnmidkkgjaa
