/- The heap of the queue, as plain functions on lists. -/
import Derived.Test.YtildhlneldoffaaLib
set_option linter.unusedVariables false
set_option linter.unusedSimpArgs false
namespace Go.Proofs.Ytildhlneldoffaa
open Go.RowKit
namespace QP
variable {α β : Type}

/-- is an entry ahead of another one? -/
def ahead (lt : α → α → Bool) (a b : α × Nat) : Bool := lt a.1 b.1 || (!lt b.1 a.1 && decide (a.2 < b.2))
def aheadAt (lt : α → α → Bool) (l : List (α × Nat)) (i j : Nat) : Bool :=
  match l[i]?, l[j]? with
  | some a, some b => ahead lt a b
  | _, _ => false
def swp (l : List β) (i j : Nat) : List β :=
  match l[i]?, l[j]? with
  | some x, some y => (l.set i y).set j x
  | _, _ => l
/-- up from place i -/
def up (lt : α → α → Bool) : Nat → List (α × Nat) → Nat → List (α × Nat)
  | 0, l, _ => l
  | f + 1, l, i => if 0 < i ∧ aheadAt lt l i ((i - 1) / 2) = true then up lt f (swp l i ((i - 1) / 2)) ((i - 1) / 2) else l
def push (lt : α → α → Bool) (l : List (α × Nat)) (e : α × Nat) : List (α × Nat) := up lt l.length (l ++ [e]) l.length
/-- the least of three places -/
def least1 (lt : α → α → Bool) (l : List (α × Nat)) (i : Nat) : Nat := if 2 * i + 1 < l.length ∧ aheadAt lt l (2 * i + 1) i = true then 2 * i + 1 else i
def least2 (lt : α → α → Bool) (l : List (α × Nat)) (i : Nat) : Nat := if 2 * i + 2 < l.length ∧ aheadAt lt l (2 * i + 2) (least1 lt l i) = true then 2 * i + 2 else least1 lt l i
/-- down from place i -/
def down (lt : α → α → Bool) : Nat → List (α × Nat) → Nat → List (α × Nat)
  | 0, l, _ => l
  | f + 1, l, i => if least2 lt l i = i then l else down lt f (swp l i (least2 lt l i)) (least2 lt l i)
def pop (lt : α → α → Bool) (l : List (α × Nat)) : List (α × Nat) :=
  match l.getLast? with
  | some e => down lt l.length ((l.set 0 e).dropLast) 0
  | none => []

theorem length_swp (l : List β) (i j : Nat) : (swp l i j).length = l.length := by
  unfold swp; split <;> simp
theorem up_stop (lt : α → α → Bool) (f : Nat) (l : List (α × Nat)) (i : Nat) (h : ¬ (0 < i ∧ aheadAt lt l i ((i - 1) / 2) = true)) : up lt f l i = l := by
  cases f with
  | zero => rfl
  | succ f => simp only [up]; rw [if_neg h]
theorem up_go (lt : α → α → Bool) (f : Nat) (l : List (α × Nat)) (i : Nat) (h : 0 < i ∧ aheadAt lt l i ((i - 1) / 2) = true) (hf : 1 ≤ f) :
    up lt f l i = up lt (f - 1) (swp l i ((i - 1) / 2)) ((i - 1) / 2) := by
  obtain ⟨g, rfl⟩ : ∃ g, f = g + 1 := ⟨f - 1, by omega⟩
  simp only [up, Nat.add_sub_cancel]; rw [if_pos h]
theorem down_stop (lt : α → α → Bool) (f : Nat) (l : List (α × Nat)) (i : Nat) (h : least2 lt l i = i) : down lt f l i = l := by
  cases f with
  | zero => rfl
  | succ f => simp only [down]; rw [if_pos h]
theorem down_go (lt : α → α → Bool) (f : Nat) (l : List (α × Nat)) (i : Nat) (h : least2 lt l i ≠ i) (hf : 1 ≤ f) :
    down lt f l i = down lt (f - 1) (swp l i (least2 lt l i)) (least2 lt l i) := by
  obtain ⟨g, rfl⟩ : ∃ g, f = g + 1 := ⟨f - 1, by omega⟩
  simp only [down, Nat.add_sub_cancel]; rw [if_neg h]
theorem length_up (lt : α → α → Bool) : ∀ (f : Nat) (l : List (α × Nat)) (i : Nat), (up lt f l i).length = l.length
  | 0, _, _ => rfl
  | f + 1, l, i => by unfold up; split <;> simp [length_up lt f, length_swp]
theorem length_down (lt : α → α → Bool) : ∀ (f : Nat) (l : List (α × Nat)) (i : Nat), (down lt f l i).length = l.length
  | 0, _, _ => rfl
  | f + 1, l, i => by unfold down; split <;> simp [length_down lt f, length_swp]
theorem length_push (lt : α → α → Bool) (l : List (α × Nat)) (e : α × Nat) : (push lt l e).length = l.length + 1 := by simp [push, length_up]
theorem length_pop (lt : α → α → Bool) (l : List (α × Nat)) : (pop lt l).length = l.length - 1 := by
  unfold pop
  split
  · simp [length_down]
  · rename_i h
    have : l = [] := by simpa using h
    subst this; rfl

theorem least1_lt (lt : α → α → Bool) (l : List (α × Nat)) (i : Nat) (h : i < l.length) : least1 lt l i < l.length := by
  unfold least1; split
  · rename_i h'; exact h'.1
  · exact h
theorem least2_lt (lt : α → α → Bool) (l : List (α × Nat)) (i : Nat) (h : i < l.length) : least2 lt l i < l.length := by
  unfold least2; split
  · rename_i h'; exact h'.1
  · exact least1_lt lt l i h
theorem least1_ge (lt : α → α → Bool) (l : List (α × Nat)) (i : Nat) : i ≤ least1 lt l i := by
  unfold least1; split <;> omega
theorem least2_ge (lt : α → α → Bool) (l : List (α × Nat)) (i : Nat) : i ≤ least2 lt l i := by
  unfold least2; split
  · omega
  · exact least1_ge lt l i

/-- the cells of entries -/
def cells (enc : α → List Value) (l : List (α × Nat)) : List Value := l.flatMap fun e => enc e.1 ++ [.int .i64 e.2]
end QP

/-- WHAT A QUEUE IS IN MEMORY: block qb holds the order, the slice, the next number; the slice owns the entries' cells. -/
structure QR {α : Type} (enc : α → List Value) (s : Nat) (ET QT : TypeId) (w : World) (B qb : Nat) (fv hv : Value) (l : List (α × Nat)) (next : Nat) : Prop where
  base : B ≤ qb
  blk : Blk w qb QT #[fv, hv, .int .i64 next]
  own : w.ownsRow B ET (s + 1) hv l.length (QP.cells enc l)
  ne : hv.ownBlock ≠ some qb

/-- the blocks of a queue -/
def QS (qb : Nat) (hv : Value) : Nat → Prop := fun k => k = qb ∨ hv.ownBlock = some k

namespace QR
variable {α : Type} {enc : α → List Value} {s : Nat} {ET QT : TypeId} {w w' : World} {B qb : Nat} {fv hv : Value} {l : List (α × Nat)} {next : Nat} {S : Nat → Prop}
theorem fr (h : QR enc s ET QT w B qb fv hv l next) (hf : Fr w w' S) (hn : ∀ k, QS qb hv k → ¬ S k) : QR enc s ET QT w' B qb fv hv l next :=
  ⟨h.base, h.blk.fr hf (hn _ (.inl rfl)), hf.owns h.own (fun k hk => hn _ (.inr hk)), h.ne⟩
theorem gr (h : QR enc s ET QT w B qb fv hv l next) (hf : Gr w w') : QR enc s ET QT w' B qb fv hv l next := h.fr hf (fun _ _ h => h)
theorem cell0 (h : QR enc s ET QT w B qb fv hv l next) : w.cell? ⟨qb, 0, none⟩ = some fv := by rw [h.blk.cell]; rfl
theorem cell1 (h : QR enc s ET QT w B qb fv hv l next) : w.cell? ⟨qb, 1, none⟩ = some hv := by rw [h.blk.cell]; rfl
theorem cell2 (h : QR enc s ET QT w B qb fv hv l next) : w.cell? ⟨qb, 2, none⟩ = some (.int .i64 next) := by rw [h.blk.cell]; rfl
theorem frozen (h : QR enc s ET QT w B qb fv hv l next) (i : Nat) : w.frozen? ⟨qb, i, none⟩ = false := h.blk.frozen i
theorem form (h : QR enc s ET QT w B qb fv hv l next) (hl : 0 < l.length) : ∃ hb cap, hv = .slice (some ⟨hb, 0, none⟩) l.length cap ∧ B ≤ hb ∧ hb < w.heap.size ∧ hb ≠ qb ∧ l.length ≤ cap ∧ cap ≤ maxLen := by
  rcases h.own.2 with ⟨_, h0⟩ | ⟨g, cap, cur, hv', hb, hg, hc, hm, _⟩
  · omega
  · subst hv'
    refine ⟨g, cap, rfl, hb, ?_, fun e => h.ne (by rw [e]; rfl), hc, hm⟩
    rcases Nat.lt_or_ge g w.heap.size with hlt | hge
    · exact hlt
    · rw [Array.getElem?_eq_none hge] at hg; cases hg
theorem entry {hb cap : Nat} (h : QR enc s ET QT w B qb fv (.slice (some ⟨hb, 0, none⟩) l.length cap) l next) (henc : ∀ x, (enc x).length = s) {i : Nat} (hi : i < l.length) (j : Nat) (hj : j < s + 1) :
    w.cell? ⟨hb, i * (s + 1) + j, none⟩ = (enc l[i].1 ++ [Value.int .i64 l[i].2])[j]? := by
  rw [h.own.cellAt _ (by have := Nat.mul_le_mul_right (s + 1) (show i + 1 ≤ l.length from hi); rw [Nat.add_mul] at this; omega), QP.cells,
    get_flatMap (fun e : α × Nat => enc e.1 ++ [Value.int .i64 e.2]) (s + 1) (fun x => by simp [henc]) l i j hj, List.getElem?_eq_getElem hi]
  rfl
theorem froz {hb cap : Nat} (h : QR enc s ET QT w B qb fv (.slice (some ⟨hb, 0, none⟩) l.length cap) l next) (m : Nat) : w.frozen? ⟨hb, m, none⟩ = false := h.own.frozenAt m
end QR
end Go.Proofs.Ytildhlneldoffaa
