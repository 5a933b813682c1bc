/- bpe: the bytes of tokens, each kept when it is found: Decode's inner function. bpe: Decode. -/
import Derived.Test.YtlodbhlidgepfaaVGe
import Derived.Test.YtlodbhlidgepfaaEWb
import Derived.Deep.RegionWith
import Derived.Laws.EntriesVeiled
set_option linter.unusedVariables false
set_option linter.unusedSimpArgs false
namespace Go.Proofs.Ytlodbhlidgepfaa
open Go.RowKit
open Voc
namespace Bpe
abbrev TU8 : TypeId := 5
abbrev TSB : TypeId := 32
abbrev TSS : TypeId := 53
abbrev TFn : TypeId := 168
/-- a row of bytes of one's own -/
structure OB (w : World) (B : Nat) (v : Value) (l : List Int) : Prop where
  own : w.ownsRow B TU8 1 v l.length (l.flatMap encB)
  spare : SpareT IsB w v
theorem OB.nil (w : World) (B : Nat) : OB w B (.slice none 0 0) [] := ⟨World.ownsRow_nil _ _ _ _, SpareT.nil _ _⟩
theorem OB.sl {w : World} {B : Nat} {v : Value} {l : List Int} (h : OB w B v l) : SL encB w v l := SL.of_own (enc := encB) h.own rfl
theorem OB.fr {w w' : World} {B : Nat} {v : Value} {l : List Int} {S : Nat → Prop} (h : OB w B v l) (hf : Fr w w' S) (hn : ∀ k, v.ownBlock = some k → ¬ S k) : OB w' B v l := ⟨hf.owns h.own hn, h.spare.own h.own hf hn⟩
theorem OB.gr {w w' : World} {B : Nat} {v : Value} {l : List Int} (h : OB w B v l) (hf : Gr w w') : OB w' B v l := h.fr hf (fun _ _ h => h)
theorem OB.base {w : World} {B B' : Nat} {v : Value} {l : List Int} (h : OB w B v l) (hb : B' ≤ B) : OB w B' v l := ⟨own_base h.own hb, h.spare⟩
/-- a new block of one byte -/
theorem own_byte (w : World) (B : Nat) (hB : B ≤ w.heap.size) (c : Int) : (w.alloc (.cells #[.int .u8 c] TU8)).ownsRow B TU8 1 (.slice (some ⟨w.heap.size, 0, none⟩) 1 1) [c].length ([c].flatMap encB) :=
  ⟨by simp [encB], Or.inr ⟨w.heap.size, 1, #[.int .u8 c], rfl, hB, Blk.new w TU8 _, Nat.le_refl _, by unfold maxLen; decide, rfl, by simp [encB]⟩⟩
abbrev nilS : Value := .slice none 0 0
def Ext (vals vals' : List Value) : Prop := ∀ (i : Nat) (v : Value), vals[i]? = some v → v ≠ nilS → vals'[i]? = some v
theorem Ext.refl (vals : List Value) : Ext vals vals := fun _ _ h _ => h
theorem Ext.trans {a b c : List Value} (h : Ext a b) (k : Ext b c) : Ext a c := fun i v h1 h2 => k i v (h i v h1 h2) h2
section
variable {W0 w w' : World} {ga b10 b2 b11 : Nat} {sv : Value} {xs : List Pc} {vals : List Value}
theorem equalIn_nil (w : World) (d : Nat) (a : Option Addr) (l c : Nat) : (Op.equalIn (d + 1) TSB (.slice a l c) (.slice none 0 0)).run Try.prog w = .ok a.isNone w := by
  cases a <;> simp [Op.equalIn, run_underlying Try.underlying32]
theorem eql_nil (w : World) (a : Option Addr) (l c : Nat) : (binOp .eql TSB (.slice a l c) (.slice none 0 0)).run Try.prog w = .ok (.bool a.isNone) w := by
  simp only [binOp]
  simp [Op.equal, Op.maxDepth, equalIn_nil w 9999 a l c]
/-- what is new lies in new memory -/
def Nw (w : World) (vals vals' : List Value) : Prop := ∀ (i : Nat) (u : Value), vals'[i]? = some u → vals[i]? = some u ∨ ∀ k, u.ownBlock = some k → w.heap.size ≤ k
theorem Nw.refl (w : World) (vals : List Value) : Nw w vals vals := fun _ _ h => Or.inl h
theorem Nw.trans {w w1 : World} {a b c : List Value} (h : Nw w a b) (k : Nw w1 b c) (hs : w.heap.size ≤ w1.heap.size) : Nw w a c := fun i u hu => by
  rcases k i u hu with h1 | h1
  · exact h i u h1
  · exact Or.inr (fun g hg => Nat.le_trans hs (h1 g hg))
theorem Nw.put {w : World} {a b : List Value} (h : Nw w a b) (x : Nat) (v : Value) (hv : ∀ k, v.ownBlock = some k → w.heap.size ≤ k) : Nw w a (b.set x v) := fun i u hu => by
  rw [List.getElem?_set] at hu
  split at hu
  · split at hu
    · injection hu with hu; subst hu; exact Or.inr hv
    · cases hu
  · exact h i u hu
end
end Bpe
end Go.Proofs.Ytlodbhlidgepfaa

namespace Go.Proofs.Ytlodbhlidgepfaa
open Go.RowKit
open Voc
namespace Bpe
/-- is a token no piece? -/
def badX (xs : List Pc) (x : Int) : Bool := decide (x < 0) || decide ((xs.length : Int) ≤ x)
def flatE (xs : List Pc) (l : List Int) : List Int := l.flatMap (expE xs)
def decE (xs : List Pc) (l : List Int) : List Int × Int := if (checkE xs).1 ≠ 0 then ([], 11) else if l.any (badX xs) = true then ([], 2) else if 4096 < (flatE xs l).length then ([], 3) else (flatE xs l, 0)
theorem flatE_take (xs : List Pc) (l : List Int) {k : Nat} (hk : k < l.length) : flatE xs (l.take (k + 1)) = flatE xs (l.take k) ++ expE xs (l[k]) := by
  unfold flatE
  rw [List.take_succ_eq_append_getElem hk, List.flatMap_append]
  simp
theorem flatE_le (xs : List Pc) (l : List Int) (k : Nat) : (flatE xs (l.take k)).length ≤ (flatE xs l).length := by
  have h : flatE xs l = flatE xs (l.take k) ++ flatE xs (l.drop k) := by
    unfold flatE
    rw [← List.flatMap_append, List.take_append_drop]
  rw [h, List.length_append]; omega
theorem info_sb : (Try.prog.info? TSB).map (fun i => (i.zero, i.size, i.bytes)) = some (some nilS, 1, 24) := by kernel_rfl
theorem made_s (i0 : TypeInfo) (hz1 : i0.size = 1) (s : Nat) : madeCells nilS.cells (((s : Nat) : Int).toNat * i0.size) = (List.replicate s nilS).toArray := by
  rw [hz1]
  simp [madeCells, Value.cells]
  apply Array.ext_getElem?
  intro j
  simp only [Array.getElem?_map, Array.getElem?_range, Array.getElem?_replicate]
  split
  · simp [Nat.mod_one]
  · rfl
/-- the rows that are kept lie apart from the one that grows -/
def Dj (vals : List Value) (v : Value) : Prop := ∀ (i : Nat) (u : Value) (g : Nat), vals[i]? = some u → u.ownBlock = some g → v.ownBlock ≠ some g
end Bpe
end Go.Proofs.Ytlodbhlidgepfaa
