/- The heap of the queue, as plain functions on lists. Sorting by the queue's heap, as plain functions. The queue's heap sorts: stably, as insertion behind all that are not behind. Plain lists; no program. More on sorting: a stable sort is told by its classes. Plain lists. -/
import Derived.Test.YtlodbhlidgepfaaLib
set_option linter.unusedVariables false
set_option linter.unusedSimpArgs false
namespace Go.Proofs.Ytlodbhlidgepfaa
open Go.RowKit
namespace QP
variable {α β : Type}

/-- is an entry ahead of another one? -/
def ahead (lt : α → α → Bool) (a b : α × Nat) : Bool := lt a.1 b.1 || (!lt b.1 a.1 && decide (a.2 < b.2))
def aheadAt (lt : α → α → Bool) (l : List (α × Nat)) (i j : Nat) : Bool :=
  match l[i]?, l[j]? with
  | some a, some b => ahead lt a b
  | _, _ => false
def swp (l : List β) (i j : Nat) : List β :=
  match l[i]?, l[j]? with
  | some x, some y => (l.set i y).set j x
  | _, _ => l
/-- up from place i -/
def up (lt : α → α → Bool) : Nat → List (α × Nat) → Nat → List (α × Nat)
  | 0, l, _ => l
  | f + 1, l, i => if 0 < i ∧ aheadAt lt l i ((i - 1) / 2) = true then up lt f (swp l i ((i - 1) / 2)) ((i - 1) / 2) else l
def push (lt : α → α → Bool) (l : List (α × Nat)) (e : α × Nat) : List (α × Nat) := up lt l.length (l ++ [e]) l.length
/-- the least of three places -/
def least1 (lt : α → α → Bool) (l : List (α × Nat)) (i : Nat) : Nat := if 2 * i + 1 < l.length ∧ aheadAt lt l (2 * i + 1) i = true then 2 * i + 1 else i
def least2 (lt : α → α → Bool) (l : List (α × Nat)) (i : Nat) : Nat := if 2 * i + 2 < l.length ∧ aheadAt lt l (2 * i + 2) (least1 lt l i) = true then 2 * i + 2 else least1 lt l i
/-- down from place i -/
def down (lt : α → α → Bool) : Nat → List (α × Nat) → Nat → List (α × Nat)
  | 0, l, _ => l
  | f + 1, l, i => if least2 lt l i = i then l else down lt f (swp l i (least2 lt l i)) (least2 lt l i)
def pop (lt : α → α → Bool) (l : List (α × Nat)) : List (α × Nat) :=
  match l.getLast? with
  | some e => down lt l.length ((l.set 0 e).dropLast) 0
  | none => []

theorem length_swp (l : List β) (i j : Nat) : (swp l i j).length = l.length := by
  unfold swp; split <;> simp
theorem up_stop (lt : α → α → Bool) (f : Nat) (l : List (α × Nat)) (i : Nat) (h : ¬ (0 < i ∧ aheadAt lt l i ((i - 1) / 2) = true)) : up lt f l i = l := by
  cases f with
  | zero => rfl
  | succ f => simp only [up]; rw [if_neg h]
theorem up_go (lt : α → α → Bool) (f : Nat) (l : List (α × Nat)) (i : Nat) (h : 0 < i ∧ aheadAt lt l i ((i - 1) / 2) = true) (hf : 1 ≤ f) :
    up lt f l i = up lt (f - 1) (swp l i ((i - 1) / 2)) ((i - 1) / 2) := by
  obtain ⟨g, rfl⟩ : ∃ g, f = g + 1 := ⟨f - 1, by omega⟩
  simp only [up, Nat.add_sub_cancel]; rw [if_pos h]
theorem down_stop (lt : α → α → Bool) (f : Nat) (l : List (α × Nat)) (i : Nat) (h : least2 lt l i = i) : down lt f l i = l := by
  cases f with
  | zero => rfl
  | succ f => simp only [down]; rw [if_pos h]
theorem down_go (lt : α → α → Bool) (f : Nat) (l : List (α × Nat)) (i : Nat) (h : least2 lt l i ≠ i) (hf : 1 ≤ f) :
    down lt f l i = down lt (f - 1) (swp l i (least2 lt l i)) (least2 lt l i) := by
  obtain ⟨g, rfl⟩ : ∃ g, f = g + 1 := ⟨f - 1, by omega⟩
  simp only [down, Nat.add_sub_cancel]; rw [if_neg h]
theorem length_up (lt : α → α → Bool) : ∀ (f : Nat) (l : List (α × Nat)) (i : Nat), (up lt f l i).length = l.length
  | 0, _, _ => rfl
  | f + 1, l, i => by unfold up; split <;> simp [length_up lt f, length_swp]
theorem length_down (lt : α → α → Bool) : ∀ (f : Nat) (l : List (α × Nat)) (i : Nat), (down lt f l i).length = l.length
  | 0, _, _ => rfl
  | f + 1, l, i => by unfold down; split <;> simp [length_down lt f, length_swp]
theorem length_push (lt : α → α → Bool) (l : List (α × Nat)) (e : α × Nat) : (push lt l e).length = l.length + 1 := by simp [push, length_up]
theorem length_pop (lt : α → α → Bool) (l : List (α × Nat)) : (pop lt l).length = l.length - 1 := by
  unfold pop
  split
  · simp [length_down]
  · rename_i h
    have : l = [] := by simpa using h
    subst this; rfl

theorem least1_lt (lt : α → α → Bool) (l : List (α × Nat)) (i : Nat) (h : i < l.length) : least1 lt l i < l.length := by
  unfold least1; split
  · rename_i h'; exact h'.1
  · exact h
theorem least2_lt (lt : α → α → Bool) (l : List (α × Nat)) (i : Nat) (h : i < l.length) : least2 lt l i < l.length := by
  unfold least2; split
  · rename_i h'; exact h'.1
  · exact least1_lt lt l i h
theorem least1_ge (lt : α → α → Bool) (l : List (α × Nat)) (i : Nat) : i ≤ least1 lt l i := by
  unfold least1; split <;> omega
theorem least2_ge (lt : α → α → Bool) (l : List (α × Nat)) (i : Nat) : i ≤ least2 lt l i := by
  unfold least2; split
  · omega
  · exact least1_ge lt l i

/-- the cells of entries -/
def cells (enc : α → List Value) (l : List (α × Nat)) : List Value := l.flatMap fun e => enc e.1 ++ [.int .i64 e.2]
end QP

/-- WHAT A QUEUE IS IN MEMORY: block qb holds the order, the slice, the next number; the slice owns the entries' cells. -/
structure QR {α : Type} (enc : α → List Value) (s : Nat) (ET QT : TypeId) (w : World) (B qb : Nat) (fv hv : Value) (l : List (α × Nat)) (next : Nat) : Prop where
  base : B ≤ qb
  blk : Blk w qb QT #[fv, hv, .int .i64 next]
  own : w.ownsRow B ET (s + 1) hv l.length (QP.cells enc l)
  ne : hv.ownBlock ≠ some qb

/-- the blocks of a queue -/
def QS (qb : Nat) (hv : Value) : Nat → Prop := fun k => k = qb ∨ hv.ownBlock = some k

namespace QR
variable {α : Type} {enc : α → List Value} {s : Nat} {ET QT : TypeId} {w w' : World} {B qb : Nat} {fv hv : Value} {l : List (α × Nat)} {next : Nat} {S : Nat → Prop}
theorem fr (h : QR enc s ET QT w B qb fv hv l next) (hf : Fr w w' S) (hn : ∀ k, QS qb hv k → ¬ S k) : QR enc s ET QT w' B qb fv hv l next :=
  ⟨h.base, h.blk.fr hf (hn _ (.inl rfl)), hf.owns h.own (fun k hk => hn _ (.inr hk)), h.ne⟩
theorem gr (h : QR enc s ET QT w B qb fv hv l next) (hf : Gr w w') : QR enc s ET QT w' B qb fv hv l next := h.fr hf (fun _ _ h => h)
theorem cell0 (h : QR enc s ET QT w B qb fv hv l next) : w.cell? ⟨qb, 0, none⟩ = some fv := by rw [h.blk.cell]; rfl
theorem cell1 (h : QR enc s ET QT w B qb fv hv l next) : w.cell? ⟨qb, 1, none⟩ = some hv := by rw [h.blk.cell]; rfl
theorem cell2 (h : QR enc s ET QT w B qb fv hv l next) : w.cell? ⟨qb, 2, none⟩ = some (.int .i64 next) := by rw [h.blk.cell]; rfl
theorem frozen (h : QR enc s ET QT w B qb fv hv l next) (i : Nat) : w.frozen? ⟨qb, i, none⟩ = false := h.blk.frozen i
theorem form (h : QR enc s ET QT w B qb fv hv l next) (hl : 0 < l.length) : ∃ hb cap, hv = .slice (some ⟨hb, 0, none⟩) l.length cap ∧ B ≤ hb ∧ hb < w.heap.size ∧ hb ≠ qb ∧ l.length ≤ cap ∧ cap ≤ maxLen := by
  rcases h.own.2 with ⟨_, h0⟩ | ⟨g, cap, cur, hv', hb, hg, hc, hm, _⟩
  · omega
  · subst hv'
    refine ⟨g, cap, rfl, hb, ?_, fun e => h.ne (by rw [e]; rfl), hc, hm⟩
    rcases Nat.lt_or_ge g w.heap.size with hlt | hge
    · exact hlt
    · rw [Array.getElem?_eq_none hge] at hg; cases hg
theorem entry {hb cap : Nat} (h : QR enc s ET QT w B qb fv (.slice (some ⟨hb, 0, none⟩) l.length cap) l next) (henc : ∀ x, (enc x).length = s) {i : Nat} (hi : i < l.length) (j : Nat) (hj : j < s + 1) :
    w.cell? ⟨hb, i * (s + 1) + j, none⟩ = (enc l[i].1 ++ [Value.int .i64 l[i].2])[j]? := by
  rw [h.own.cellAt _ (by have := Nat.mul_le_mul_right (s + 1) (show i + 1 ≤ l.length from hi); rw [Nat.add_mul] at this; omega), QP.cells,
    get_flatMap (fun e : α × Nat => enc e.1 ++ [Value.int .i64 e.2]) (s + 1) (fun x => by simp [henc]) l i j hj, List.getElem?_eq_getElem hi]
  rfl
theorem froz {hb cap : Nat} (h : QR enc s ET QT w B qb fv (.slice (some ⟨hb, 0, none⟩) l.length cap) l next) (m : Nat) : w.frozen? ⟨hb, m, none⟩ = false := h.own.frozenAt m
end QR
end Go.Proofs.Ytlodbhlidgepfaa

namespace Go.Proofs.Ytlodbhlidgepfaa
namespace QP
variable {α : Type}

/-- all are pushed -/
def fill (lt : α → α → Bool) : List α → List (α × Nat) → Nat → List (α × Nat)
  | [], l, _ => l
  | x :: xs, l, n => fill lt xs (push lt l (x, n)) (n + 1)
/-- all are popped -/
def drain (lt : α → α → Bool) : Nat → List (α × Nat) → List α
  | 0, _ => []
  | f + 1, l => match l with
    | [] => []
    | e :: r => e.1 :: drain lt f (pop lt (e :: r))
def sorted (lt : α → α → Bool) (xs : List α) : List α := drain lt xs.length (fill lt xs [] 0)
theorem length_fill (lt : α → α → Bool) : ∀ (xs : List α) (l : List (α × Nat)) (n : Nat), (fill lt xs l n).length = l.length + xs.length
  | [], _, _ => rfl
  | x :: xs, l, n => by rw [fill, length_fill lt xs, length_push, List.length_cons]; omega
theorem length_drain (lt : α → α → Bool) : ∀ (f : Nat) (l : List (α × Nat)), l.length ≤ f → (drain lt f l).length = l.length
  | 0, l, h => by simp at h; subst h; rfl
  | f + 1, [], h => rfl
  | f + 1, e :: r, h => by
    have := length_pop lt (e :: r)
    simp only [List.length_cons] at this h
    rw [drain, List.length_cons, length_drain lt f _ (by omega), this, List.length_cons]; omega
theorem length_sorted (lt : α → α → Bool) (xs : List α) : (sorted lt xs).length = xs.length := by
  unfold sorted; rw [length_drain lt _ _ (by rw [length_fill]; simp), length_fill]; simp
theorem fill_snoc (lt : α → α → Bool) : ∀ (xs : List α) (x : α) (l : List (α × Nat)) (n : Nat), fill lt (xs ++ [x]) l n = push lt (fill lt xs l n) (x, n + xs.length)
  | [], _, _, _ => rfl
  | y :: xs, x, l, n => by rw [List.cons_append, fill, fill, fill_snoc lt xs, List.length_cons, show n + 1 + xs.length = n + (xs.length + 1) by omega]

/-- what Pop tells -/
def hd (d : α) (l : List (α × Nat)) : α := match l with
  | [] => d
  | e :: _ => e.1
theorem drain_succ (lt : α → α → Bool) (d : α) (l : List (α × Nat)) (h : l ≠ []) : drain lt l.length l = hd d l :: drain lt (pop lt l).length (pop lt l) := by
  cases l with
  | nil => exact absurd rfl h
  | cons e r => rw [List.length_cons, drain, length_pop]; rfl
end QP
end Go.Proofs.Ytlodbhlidgepfaa

namespace Go.Proofs.Ytlodbhlidgepfaa
namespace QP
variable {α β : Type}

/-- a strict weak order -/
structure SWO (lt : α → α → Bool) : Prop where
  asymm : ∀ a b, lt a b = true → lt b a = false
  cotrans : ∀ a b c, lt a c = true → lt a b = true ∨ lt b c = true

theorem SWO.irrefl {lt : α → α → Bool} (h : SWO lt) (a : α) : lt a a = false := by
  cases e : lt a a with
  | false => rfl
  | true => rw [h.asymm a a e] at e; exact e.symm
/-- not less is transitive -/
theorem SWO.le_trans {lt : α → α → Bool} (h : SWO lt) {a b c : α} (h1 : lt b a = false) (h2 : lt c b = false) : lt c a = false := by
  cases e : lt c a with
  | false => rfl
  | true => rcases h.cotrans c b a e with h' | h' <;> simp_all
theorem SWO.of_key {κ : Type} (f : α → κ) (lt' : κ → κ → Bool) (h : SWO lt') : SWO (fun a b => lt' (f a) (f b)) :=
  ⟨fun a b => h.asymm _ _, fun a b c => h.cotrans _ _ _⟩
theorem swo_int : SWO (fun a b : Int => decide (a < b)) :=
  ⟨fun a b h => by simp at h ⊢; omega, fun a b c h => by simp at h ⊢; omega⟩

theorem swo_ahead {lt : α → α → Bool} (h : SWO lt) : SWO (ahead lt) := by
  constructor
  · intro a b hab
    unfold ahead at *
    cases e1 : lt a.1 b.1 with
    | true => rw [h.asymm _ _ e1]; simp
    | false =>
      rw [e1] at hab
      cases e2 : lt b.1 a.1 with
      | true => rw [e2] at hab; simp at hab
      | false =>
        rw [e2] at hab
        simp at hab ⊢
        omega
  · intro a b c hac
    unfold ahead at *
    cases e1 : lt a.1 c.1 with
    | true =>
      rcases h.cotrans a.1 b.1 c.1 e1 with h' | h'
      · left; rw [h']; simp
      · right; rw [h']; simp
    | false =>
      rw [e1] at hac
      cases e2 : lt c.1 a.1 with
      | true => rw [e2] at hac; simp at hac
      | false =>
        rw [e2] at hac
        simp at hac
        cases e3 : lt a.1 b.1 with
        | true => left; simp
        | false =>
          cases e4 : lt b.1 c.1 with
          | true => right; simp
          | false =>
            have e5 : lt b.1 a.1 = false := by
              cases e : lt b.1 a.1 with
              | false => rfl
              | true => rcases h.cotrans _ c.1 _ e with h' | h' <;> simp_all
            have e6 : lt c.1 b.1 = false := by
              cases e : lt c.1 b.1 with
              | false => rfl
              | true => rcases h.cotrans _ a.1 _ e with h' | h' <;> simp_all
            rw [e5, e6]
            simp
            omega

theorem get_swp (l : List β) (i j k : Nat) (hi : i < l.length) (hj : j < l.length) : (swp l i j)[k]? = if k = j then l[i]? else if k = i then l[j]? else l[k]? := by
  unfold swp
  rw [List.getElem?_eq_getElem hi, List.getElem?_eq_getElem hj]
  simp only []
  by_cases h1 : k = j
  · subst h1
    rw [if_pos rfl, List.getElem?_set_self (by rw [List.length_set]; exact hj)]
  · rw [if_neg h1, List.getElem?_set_ne (Ne.symm h1)]
    by_cases h2 : k = i
    · subst h2
      rw [if_pos rfl, List.getElem?_set_self hi]
    · rw [if_neg h2, List.getElem?_set_ne (Ne.symm h2)]
theorem swp_perm (l : List β) (i j : Nat) (hi : i < l.length) (hj : j < l.length) : (swp l i j).Perm l := by
  unfold swp
  rw [List.getElem?_eq_getElem hi, List.getElem?_eq_getElem hj]
  exact List.set_set_perm hi hj

/-- what stands at i is not behind what stands at j -/
def LE (lt : α → α → Bool) (l : List (α × Nat)) (i j : Nat) : Prop := ∀ a b, l[i]? = some a → l[j]? = some b → ahead lt b a = false
section
variable {lt : α → α → Bool} {l l' : List (α × Nat)} {i j k : Nat}
theorem LE.congr {i' j' : Nat} (h : LE lt l i j) (h1 : l'[i']? = l[i]?) (h2 : l'[j']? = l[j]?) : LE lt l' i' j' := fun a b ha hb => h a b (by rw [← h1]; exact ha) (by rw [← h2]; exact hb)
theorem LE.trans (hs : SWO lt) (h1 : LE lt l i j) (h2 : LE lt l j k) (hj : j < l.length) : LE lt l i k := fun a c ha hc =>
  (swo_ahead hs).le_trans (h1 a _ ha (List.getElem?_eq_getElem hj)) (h2 _ c (List.getElem?_eq_getElem hj) hc)
theorem LE.refl (hs : SWO lt) : LE lt l i i := fun a b ha hb => by
  rw [ha] at hb; injection hb with hb; subst hb; exact (swo_ahead hs).irrefl a
theorem LE.of_false (h : aheadAt lt l i j = false) : LE lt l j i := fun a b ha hb => by
  unfold aheadAt at h; rw [ha, hb] at h; exact h
theorem LE.of_true (hs : SWO lt) (h : aheadAt lt l i j = true) : LE lt l i j := fun a b ha hb => by
  unfold aheadAt at h; rw [ha, hb] at h; exact (swo_ahead hs).asymm _ _ h
theorem LE.out (h : l.length ≤ j) : LE lt l i j := fun a b ha hb => by rw [List.getElem?_eq_none h] at hb; cases hb

def Heap (lt : α → α → Bool) (l : List (α × Nat)) : Prop := ∀ j, 0 < j → LE lt l ((j - 1) / 2) j
def UpInv (lt : α → α → Bool) (l : List (α × Nat)) (i : Nat) : Prop :=
  (∀ j, 0 < j → j ≠ i → LE lt l ((j - 1) / 2) j) ∧ (∀ j, 0 < j → (j - 1) / 2 = i → 0 < i → LE lt l ((i - 1) / 2) j)

theorem up_heap (hs : SWO lt) : ∀ (f : Nat) (l : List (α × Nat)) (i : Nat), i ≤ f → i < l.length → UpInv lt l i → Heap lt (up lt f l i)
  | 0, l, i, hf, hi, h => by
    obtain rfl : i = 0 := by omega
    exact fun j hj => h.1 j hj (by omega)
  | f + 1, l, i, hf, hi, h => by
    unfold up
    split
    · rename_i hc
      obtain ⟨h0, ha⟩ := hc
      have hp : (i - 1) / 2 < i := by omega
      generalize hpe : (i - 1) / 2 = p at *
      have hpl : p < l.length := by omega
      refine up_heap hs f _ p (by omega) (by rw [length_swp]; exact hpl) ?_
      have g := fun k => get_swp l i p k hi hpl
      constructor
      · intro j hj hjp
        by_cases hji : j = i
        · subst hji
          rw [hpe]
          exact (LE.of_true hs ha).congr (by rw [g, if_pos rfl]) (by rw [g, if_neg (by omega), if_pos rfl])
        · by_cases h1 : (j - 1) / 2 = p
          · rw [h1]
            have e1 : LE lt l p j := by have := h.1 j hj hji; rw [h1] at this; exact this
            exact ((LE.of_true hs ha).trans hs e1 hpl).congr (by rw [g, if_pos rfl]) (by rw [g, if_neg hjp, if_neg hji])
          · by_cases h2 : (j - 1) / 2 = i
            · rw [h2]
              have := h.2 j hj h2 h0
              rw [hpe] at this
              exact this.congr (by rw [g, if_neg (by omega), if_pos rfl]) (by rw [g, if_neg hjp, if_neg hji])
            · exact (h.1 j hj hji).congr (by rw [g, if_neg h1, if_neg h2]) (by rw [g, if_neg hjp, if_neg hji])
      · intro j hj h1 hp0
        have e2 : LE lt l ((p - 1) / 2) p := h.1 p hp0 (by omega)
        by_cases hji : j = i
        · subst hji
          exact e2.congr (by rw [g, if_neg (by omega), if_neg (by omega)]) (by rw [g, if_neg (by omega), if_pos rfl])
        · have e1 : LE lt l p j := by have := h.1 j hj hji; rw [h1] at this; exact this
          exact (e2.trans hs e1 hpl).congr (by rw [g, if_neg (by omega), if_neg (by omega)]) (by rw [g, if_neg (by omega), if_neg hji])
    · rename_i hc
      intro j hj
      by_cases hji : j = i
      · subst hji
        have : aheadAt lt l j ((j - 1) / 2) = false := by
          cases e : aheadAt lt l j ((j - 1) / 2) with
          | false => rfl
          | true => exact absurd ⟨hj, e⟩ hc
        exact LE.of_false this
      · exact h.1 j hj hji

theorem push_heap (hs : SWO lt) (h : Heap lt l) (e : α × Nat) : Heap lt (push lt l e) := by
  refine up_heap hs _ _ _ (Nat.le_refl _) (by simp) ⟨fun j hj hne => ?_, fun j hj h1 h0 => LE.out (by simp; omega)⟩
  by_cases hjl : j < l.length
  · exact (h j hj).congr (List.getElem?_append_left (by omega)) (List.getElem?_append_left hjl)
  · exact LE.out (by simp; omega)

theorem up_perm : ∀ (f : Nat) (l : List (α × Nat)) (i : Nat), i < l.length → (up lt f l i).Perm l
  | 0, l, i, hi => List.Perm.refl _
  | f + 1, l, i, hi => by
    unfold up
    split
    · exact (up_perm f _ _ (by rw [length_swp]; omega)).trans (swp_perm l i _ hi (by omega))
    · exact List.Perm.refl _
theorem push_perm (l : List (α × Nat)) (e : α × Nat) : (push lt l e).Perm (l ++ [e]) := up_perm _ _ _ (by simp)

def DownInv (lt : α → α → Bool) (l : List (α × Nat)) (i : Nat) : Prop :=
  (∀ j, 0 < j → (j - 1) / 2 ≠ i → LE lt l ((j - 1) / 2) j) ∧ (∀ j, 0 < j → (j - 1) / 2 = i → 0 < i → LE lt l ((i - 1) / 2) j)

theorem least2_spec (hs : SWO lt) (l : List (α × Nat)) (i : Nat) (hi : i < l.length) :
    (least2 lt l i = i ∨ least2 lt l i = 2 * i + 1 ∨ least2 lt l i = 2 * i + 2) ∧ LE lt l (least2 lt l i) i ∧ LE lt l (least2 lt l i) (2 * i + 1) ∧ LE lt l (least2 lt l i) (2 * i + 2) := by
  have h1 : (least1 lt l i = i ∨ least1 lt l i = 2 * i + 1) ∧ LE lt l (least1 lt l i) i ∧ LE lt l (least1 lt l i) (2 * i + 1) := by
    unfold least1
    split
    · rename_i hc
      exact ⟨.inr rfl, LE.of_true hs hc.2, LE.refl hs⟩
    · rename_i hc
      refine ⟨.inl rfl, LE.refl hs, ?_⟩
      by_cases hb : 2 * i + 1 < l.length
      · refine LE.of_false ?_
        cases e : aheadAt lt l (2 * i + 1) i with
        | false => rfl
        | true => exact absurd ⟨hb, e⟩ hc
      · exact LE.out (by omega)
  have hq := least1_lt lt l i hi
  unfold least2
  split
  · rename_i hc
    have e := LE.of_true hs hc.2
    exact ⟨.inr (.inr rfl), e.trans hs h1.2.1 hq, e.trans hs h1.2.2 hq, LE.refl hs⟩
  · rename_i hc
    refine ⟨?_, h1.2.1, h1.2.2, ?_⟩
    · rcases h1.1 with h | h
      · exact .inl h
      · exact .inr (.inl h)
    · by_cases hb : 2 * i + 2 < l.length
      · refine LE.of_false ?_
        cases e : aheadAt lt l (2 * i + 2) (least1 lt l i) with
        | false => rfl
        | true => exact absurd ⟨hb, e⟩ hc
      · exact LE.out (by omega)

theorem least2_self (l : List (α × Nat)) (i : Nat) (hi : l.length ≤ i) : least2 lt l i = i := by
  unfold least2 least1
  rw [if_neg (by intro h; omega), if_neg (by intro h; omega)]

theorem down_heap (hs : SWO lt) : ∀ (f : Nat) (l : List (α × Nat)) (i : Nat), l.length - i ≤ f → DownInv lt l i → Heap lt (down lt f l i)
  | 0, l, i, hf, h => fun j hj => by
    by_cases h1 : (j - 1) / 2 = i
    · exact LE.out (l := l) (by omega)
    · exact h.1 j hj h1
  | f + 1, l, i, hf, h => by
    unfold down
    by_cases hi : i < l.length
    · obtain ⟨hc, ei, e1, e2⟩ := least2_spec hs l i hi
      have hpl := least2_lt lt l i hi
      generalize hpe : least2 lt l i = p at *
      have child : ∀ j, 0 < j → (j - 1) / 2 = i → LE lt l p j := fun j hj hji => by
        rcases (show j = 2 * i + 1 ∨ j = 2 * i + 2 by omega) with rfl | rfl
        · exact e1
        · exact e2
      split
      · rename_i hpi
        intro j hj
        by_cases h1 : (j - 1) / 2 = i
        · rw [h1]; have := child j hj h1; rw [hpi] at this; exact this
        · exact h.1 j hj h1
      · rename_i hpi
        refine down_heap hs f _ p (by rw [length_swp]; omega) ?_
        have g := fun k => get_swp l i p k hi hpl
        have hpp : (p - 1) / 2 = i := by omega
        constructor
        · intro j hj hjp
          by_cases h1 : (j - 1) / 2 = i
          · rw [h1]
            by_cases hj2 : j = p
            · subst hj2
              exact ei.congr (by rw [g, if_neg (Ne.symm hpi), if_pos rfl]) (by rw [g, if_pos rfl])
            · exact (child j hj h1).congr (by rw [g, if_neg (Ne.symm hpi), if_pos rfl]) (by rw [g, if_neg hj2, if_neg (by omega)])
          · by_cases hj3 : j = i
            · subst hj3
              exact (h.2 p (by omega) hpp hj).congr (by rw [g, if_neg (by omega), if_neg (by omega)]) (by rw [g, if_neg (Ne.symm hpi), if_pos rfl])
            · exact (h.1 j hj h1).congr (by rw [g, if_neg hjp, if_neg h1]) (by rw [g, if_neg (by omega), if_neg hj3])
        · intro j hj h1 hp0
          rw [hpp]
          have := h.1 j hj (by omega)
          rw [h1] at this
          exact this.congr (by rw [g, if_neg (Ne.symm hpi), if_pos rfl]) (by rw [g, if_neg (by omega), if_neg (by omega)])
    · have hself := least2_self (lt := lt) l i (by omega)
      rw [if_pos hself]
      intro j hj
      by_cases h1 : (j - 1) / 2 = i
      · exact LE.out (l := l) (by omega)
      · exact h.1 j hj h1

theorem down_perm : ∀ (f : Nat) (l : List (α × Nat)) (i : Nat), (down lt f l i).Perm l
  | 0, l, i => List.Perm.refl _
  | f + 1, l, i => by
    unfold down
    split
    · exact List.Perm.refl _
    · rename_i hne
      by_cases hi : i < l.length
      · exact (down_perm f _ _).trans (swp_perm l i _ hi (least2_lt lt l i hi))
      · exact absurd (least2_self l i (by omega)) hne

theorem pop_heap (hs : SWO lt) (h : Heap lt l) : Heap lt (pop lt l) := by
  unfold pop
  split
  · rename_i e he
    refine down_heap hs _ _ _ (by simp) ⟨fun j hj h1 => ?_, fun j hj h1 h0 => by omega⟩
    have hg : ∀ k, 0 < k → k < l.length - 1 → ((l.set 0 e).dropLast)[k]? = l[k]? := fun k hk hk2 => by
      rw [List.getElem?_dropLast, List.length_set, if_pos hk2, List.getElem?_set_ne (by omega)]
    by_cases hb : j < l.length - 1
    · exact (h j hj).congr (hg _ (by omega) (by omega)) (hg j hj hb)
    · exact LE.out (by simp; omega)
  · intro j hj; exact LE.out (by simp)

theorem pop_perm (e : α × Nat) (r : List (α × Nat)) : (pop lt (e :: r)).Perm r := by
  unfold pop
  cases hr : (e :: r).getLast? with
  | none => simp at hr
  | some z =>
    simp only []
    refine (down_perm _ _ _).trans ?_
    cases r with
    | nil => exact List.Perm.refl _
    | cons b r' =>
      have hz : (b :: r').getLast? = some z := by rw [← hr]; rfl
      have e1 : ((e :: b :: r').set 0 z).dropLast = z :: (b :: r').dropLast := rfl
      rw [e1]
      have e2 : (b :: r') = (b :: r').dropLast ++ [z] := by
        obtain ⟨ys, hy⟩ := List.getLast?_eq_some_iff.1 hz
        rw [hy]; simp
      exact (List.perm_append_comm (l₁ := [z]) (l₂ := (b :: r').dropLast)).trans (by rw [← e2])

theorem heap_root (hs : SWO lt) (h : Heap lt l) : ∀ j, j < l.length → LE lt l 0 j := by
  intro j
  induction j using Nat.strongRecOn with
  | _ j ih =>
    intro hj
    by_cases h0 : j = 0
    · subst h0; exact LE.refl hs
    · exact (ih ((j - 1) / 2) (by omega) (by omega)).trans hs (h j (by omega)) (by omega)

/-- the entries in the order in which they are popped -/
def drainE (lt : α → α → Bool) : Nat → List (α × Nat) → List (α × Nat)
  | 0, _ => []
  | f + 1, l => match l with
    | [] => []
    | e :: r => e :: drainE lt f (pop lt (e :: r))
theorem drain_map : ∀ (f : Nat) (l : List (α × Nat)), drain lt f l = (drainE lt f l).map (·.1)
  | 0, _ => rfl
  | f + 1, [] => rfl
  | f + 1, e :: r => by rw [drain, drainE, List.map_cons, drain_map f]
theorem drainE_perm : ∀ (f : Nat) (l : List (α × Nat)), l.length ≤ f → (drainE lt f l).Perm l
  | 0, l, h => by simp at h; subst h; exact List.Perm.refl _
  | f + 1, [], h => List.Perm.refl _
  | f + 1, e :: r, h => by
    have hp := length_pop lt (e :: r)
    simp only [List.length_cons] at h hp
    exact ((drainE_perm f _ (by omega)).trans (pop_perm e r)).cons e

def le (lt : α → α → Bool) (a b : α × Nat) : Prop := ahead lt b a = false
theorem drainE_sorted (hs : SWO lt) : ∀ (f : Nat) (l : List (α × Nat)), l.length ≤ f → Heap lt l → (drainE lt f l).Pairwise (le lt)
  | 0, l, h, hh => List.Pairwise.nil
  | f + 1, [], h, hh => List.Pairwise.nil
  | f + 1, e :: r, h, hh => by
    have hp := length_pop lt (e :: r)
    simp only [List.length_cons] at h hp
    refine List.Pairwise.cons ?_ (drainE_sorted hs f _ (by omega) (pop_heap hs hh))
    intro b hb
    have hb' := ((drainE_perm f _ (by omega)).trans (pop_perm e r)).mem_iff.1 hb
    obtain ⟨j, hj, rfl⟩ := List.getElem_of_mem hb'
    exact heap_root hs hh (j + 1) (by simp; omega) e _ rfl (by rw [List.getElem?_cons_succ]; exact List.getElem?_eq_getElem hj)

theorem fill_heap (hs : SWO lt) : ∀ (xs : List α) (l : List (α × Nat)) (n : Nat), Heap lt l → Heap lt (fill lt xs l n)
  | [], _, _, h => h
  | x :: xs, l, n, h => fill_heap hs xs _ _ (push_heap hs h _)
theorem fill_perm : ∀ (xs : List α) (l : List (α × Nat)) (n : Nat), (fill lt xs l n).Perm (l ++ xs.zipIdx n)
  | [], l, n => by simp [fill]
  | x :: xs, l, n => by
    rw [fill, List.zipIdx_cons]
    refine (fill_perm xs _ _).trans ?_
    have := ((push_perm (lt := lt) l (x, n)).append_right (xs.zipIdx (n + 1)))
    simpa using this
end

/-- THE DOCUMENT's ORDER: one more stands behind all that are not behind it -/
def ins (lt : α → α → Bool) (l : List α) (x : α) : List α := l.takeWhile (fun y => !lt x y) ++ x :: l.dropWhile (fun y => !lt x y)
def insE (lt : α → α → Bool) (l : List (α × Nat)) (e : α × Nat) : List (α × Nat) := l.takeWhile (fun y => !lt e.1 y.1) ++ e :: l.dropWhile (fun y => !lt e.1 y.1)
def isort (lt : α → α → Bool) (xs : List α) : List α := xs.foldl (ins lt) []

section
variable {lt : α → α → Bool}
theorem insE_map (l : List (α × Nat)) (e : α × Nat) : (insE lt l e).map (·.1) = ins lt (l.map (·.1)) e.1 := by
  unfold insE ins
  rw [List.map_append, List.map_cons, List.takeWhile_map, List.dropWhile_map]
  rfl
theorem insE_perm (l : List (α × Nat)) (e : α × Nat) : (insE lt l e).Perm (l ++ [e]) := by
  unfold insE
  have h : l = l.takeWhile (fun y => !lt e.1 y.1) ++ l.dropWhile (fun y => !lt e.1 y.1) := List.takeWhile_append_dropWhile.symm
  refine List.perm_middle.trans ?_
  rw [← h]
  exact (List.perm_append_singleton e l).symm

theorem insE_sorted (hs : SWO lt) (l : List (α × Nat)) (e : α × Nat) (h : l.Pairwise (le lt)) (ht : ∀ y ∈ l, y.2 < e.2) : (insE lt l e).Pairwise (le lt) := by
  unfold insE
  have hl : l = l.takeWhile (fun y => !lt e.1 y.1) ++ l.dropWhile (fun y => !lt e.1 y.1) := List.takeWhile_append_dropWhile.symm
  have hp := h
  rw [hl, List.pairwise_append] at hp
  have hmem : ∀ y ∈ l.takeWhile (fun y => !lt e.1 y.1), lt e.1 y.1 = false ∧ y ∈ l := fun y hy => by
    have h1 := List.all_takeWhile (p := fun y : α × Nat => !lt e.1 y.1) (l := l)
    rw [List.all_eq_true] at h1
    exact ⟨by simpa using h1 y hy, (List.takeWhile_sublist _).subset hy⟩
  have hdrop : ∀ z ∈ l.dropWhile (fun y => !lt e.1 y.1), le lt e z := by
    cases hd : l.dropWhile (fun y => !lt e.1 y.1) with
    | nil => intro z hz; cases hz
    | cons d ds =>
      have hd1 : lt e.1 d.1 = true := by
        have := List.head?_dropWhile_not (fun y : α × Nat => !lt e.1 y.1) l
        rw [hd] at this
        simpa using this
      have hed : le lt e d := by
        unfold le ahead
        rw [hs.asymm _ _ hd1, hd1]; rfl
      intro z hz
      rcases List.mem_cons.1 hz with rfl | hz'
      · exact hed
      · have h2 := hp.2.1
        rw [hd, List.pairwise_cons] at h2
        exact (swo_ahead hs).le_trans hed (h2.1 z hz')
  rw [List.pairwise_append]
  refine ⟨hp.1, List.pairwise_cons.2 ⟨hdrop, hp.2.1⟩, fun y hy z hz => ?_⟩
  rcases List.mem_cons.1 hz with rfl | hz'
  · obtain ⟨h1, h2⟩ := hmem y hy
    have := ht y h2
    unfold le ahead
    rw [h1]
    simp; omega
  · exact hp.2.2 y hy z hz'

theorem isortE : ∀ (xs : List α) (hs : SWO lt) (l : List (α × Nat)) (n : Nat), l.Pairwise (le lt) → (∀ y ∈ l, y.2 < n) →
    ∃ l' : List (α × Nat), l'.Pairwise (le lt) ∧ l'.Perm (l ++ xs.zipIdx n) ∧ xs.foldl (ins lt) (l.map (·.1)) = l'.map (·.1)
  | [], hs, l, n, h, ht => ⟨l, h, by simp, rfl⟩
  | x :: xs, hs, l, n, h, ht => by
    have h1 := insE_sorted hs l (x, n) h ht
    have hp := insE_perm (lt := lt) l (x, n)
    obtain ⟨l', h2, h3, h4⟩ := isortE xs hs (insE lt l (x, n)) (n + 1) h1 (fun y hy => by
      have := hp.mem_iff.1 hy
      rcases List.mem_append.1 this with h' | h'
      · have := ht y h'; omega
      · simp at h'; subst h'; simp)
    refine ⟨l', h2, h3.trans ?_, ?_⟩
    · have := hp.append_right (xs.zipIdx (n + 1))
      rw [List.zipIdx_cons]
      simpa using this
    · rw [insE_map] at h4
      exact h4

theorem zipIdx_turn (xs : List α) (a b : α × Nat) (ha : a ∈ xs.zipIdx) (hb : b ∈ xs.zipIdx) (h : a.2 = b.2) : a = b := by
  obtain ⟨x, i⟩ := a
  obtain ⟨y, j⟩ := b
  simp only at h
  subst h
  have h1 := List.mem_zipIdx_iff_getElem?.1 ha
  have h2 := List.mem_zipIdx_iff_getElem?.1 hb
  rw [h1] at h2
  injection h2 with h2
  have h3 : x = y := h2
  rw [h3]

theorem le_antisymm_turn (a b : α × Nat) (h1 : le lt a b) (h2 : le lt b a) : a.2 = b.2 := by
  unfold le ahead at h1 h2
  cases e1 : lt a.1 b.1 with
  | true => rw [e1] at h2; simp at h2
  | false =>
    cases e2 : lt b.1 a.1 with
    | true => rw [e2] at h1; simp at h1
    | false => rw [e1, e2] at h1 h2; simp at h1 h2; omega

/-- THE LAW: the heap sorts as the document says. -/
theorem sorted_isort (hs : SWO lt) (xs : List α) : sorted lt xs = isort lt xs := by
  have hh : Heap lt (fill lt xs [] 0) := fill_heap hs xs [] 0 (fun j hj => LE.out (by simp))
  have hp : (fill lt xs [] 0).Perm (xs.zipIdx) := by have := fill_perm (lt := lt) xs [] 0; simpa using this
  have hlen : (fill lt xs [] 0).length ≤ xs.length := by rw [length_fill]; simp
  obtain ⟨l', h2, h3, h4⟩ := isortE xs hs [] 0 List.Pairwise.nil (fun y hy => by cases hy)
  rw [List.nil_append] at h3
  have e : drainE lt xs.length (fill lt xs [] 0) = l' := by
    refine List.Perm.eq_of_pairwise (le := le lt) (fun a b ha hb h1 h2 => ?_) (drainE_sorted hs _ _ hlen hh) h2 (((drainE_perm _ _ hlen).trans hp).trans h3.symm)
    exact zipIdx_turn xs a b (((drainE_perm _ _ hlen).trans hp).mem_iff.1 ha) (h3.mem_iff.1 hb) (le_antisymm_turn a b h1 h2)
  unfold sorted isort
  rw [drain_map, e]
  exact h4.symm
end
end QP
end Go.Proofs.Ytlodbhlidgepfaa

namespace Go.Proofs.Ytlodbhlidgepfaa
namespace QP
variable {α : Type} {lt : α → α → Bool}

def eqv (lt : α → α → Bool) (a b : α) : Bool := !lt a b && !lt b a
theorem eqv_iff (a b : α) : eqv lt a b = true ↔ lt a b = false ∧ lt b a = false := by simp [eqv]

theorem sorted_unique (hs : SWO lt) : ∀ (l1 l2 : List α), l1.Pairwise (fun a b => lt b a = false) → l2.Pairwise (fun a b => lt b a = false) →
    (∀ z, l1.filter (eqv lt z) = l2.filter (eqv lt z)) → l1 = l2
  | [], [], _, _, _ => rfl
  | [], b :: t2, _, _, h => by
    have := h b
    rw [List.filter_nil, List.filter_cons_of_pos (by rw [eqv_iff]; exact ⟨hs.irrefl b, hs.irrefl b⟩)] at this
    cases this
  | a :: t1, [], _, _, h => by
    have := h a
    rw [List.filter_nil, List.filter_cons_of_pos (by rw [eqv_iff]; exact ⟨hs.irrefl a, hs.irrefl a⟩)] at this
    cases this
  | a :: t1, b :: t2, h1, h2, h => by
    have ha : eqv lt a a = true := by rw [eqv_iff]; exact ⟨hs.irrefl a, hs.irrefl a⟩
    have hb : eqv lt b b = true := by rw [eqv_iff]; exact ⟨hs.irrefl b, hs.irrefl b⟩
    have hab : a = b := by
      cases e : eqv lt a b with
      | true =>
        have := h a
        rw [List.filter_cons_of_pos ha, List.filter_cons_of_pos e] at this
        injection this
      | false =>
        exfalso
        have m1 : a ∈ (b :: t2).filter (eqv lt a) := by rw [← h a]; exact List.mem_filter.2 ⟨List.mem_cons_self .., ha⟩
        have m2 : b ∈ (a :: t1).filter (eqv lt b) := by rw [h b]; exact List.mem_filter.2 ⟨List.mem_cons_self .., hb⟩
        have e1 : lt a b = false := by
          rcases List.mem_cons.1 (List.mem_filter.1 m1).1 with h' | h'
          · rw [h']; exact hs.irrefl b
          · exact (List.pairwise_cons.1 h2).1 a h'
        have e2 : lt b a = false := by
          rcases List.mem_cons.1 (List.mem_filter.1 m2).1 with h' | h'
          · rw [h']; exact hs.irrefl a
          · exact (List.pairwise_cons.1 h1).1 b h'
        rw [(eqv_iff (lt := lt) a b).2 ⟨e1, e2⟩] at e
        cases e
    subst hab
    rw [sorted_unique hs t1 t2 (List.pairwise_cons.1 h1).2 (List.pairwise_cons.1 h2).2 (fun z => by
      have := h z
      by_cases e : eqv lt z a = true
      · rw [List.filter_cons_of_pos e, List.filter_cons_of_pos e] at this
        injection this
      · rw [List.filter_cons_of_neg e, List.filter_cons_of_neg e] at this
        exact this)]

theorem drop_above (hs : SWO lt) (x : α) : ∀ (l : List α), l.Pairwise (fun a b => lt b a = false) → ∀ y ∈ l.dropWhile (fun y => !lt x y), lt x y = true
  | [], _, y, hy => by cases hy
  | a :: t, h, y, hy => by
    by_cases e : lt x a = true
    · rw [List.dropWhile_cons_of_neg (by simp [e])] at hy
      rcases List.mem_cons.1 hy with rfl | hy'
      · exact e
      · have h2 := (List.pairwise_cons.1 h).1 y hy'
        rcases hs.cotrans x y a e with h3 | h3
        · exact h3
        · rw [h2] at h3; cases h3
    · rw [List.dropWhile_cons_of_pos (by simp at e; simp [e])] at hy
      exact drop_above hs x t (List.pairwise_cons.1 h).2 y hy

theorem mem_takeWhile {p : α → Bool} : ∀ {l : List α} {y : α}, y ∈ l.takeWhile p → p y = true
  | a :: t, y, h => by
    by_cases e : p a = true
    · rw [List.takeWhile_cons_of_pos e] at h
      rcases List.mem_cons.1 h with rfl | h'
      · exact e
      · exact mem_takeWhile h'
    · rw [List.takeWhile_cons_of_neg e] at h
      cases h

theorem ins_sorted (hs : SWO lt) (l : List α) (x : α) (h : l.Pairwise (fun a b => lt b a = false)) : (ins lt l x).Pairwise (fun a b => lt b a = false) := by
  unfold ins
  have hl : l = l.takeWhile (fun y => !lt x y) ++ l.dropWhile (fun y => !lt x y) := List.takeWhile_append_dropWhile.symm
  have hp := h
  rw [hl, List.pairwise_append] at hp
  rw [List.pairwise_append]
  refine ⟨hp.1, List.pairwise_cons.2 ⟨fun y hy => hs.asymm _ _ (drop_above hs x l h y hy), hp.2.1⟩, fun y hy z hz => ?_⟩
  rcases List.mem_cons.1 hz with rfl | hz'
  · have := mem_takeWhile hy
    simpa using this
  · exact hp.2.2 y hy z hz'

theorem ins_filter (hs : SWO lt) (l : List α) (x z : α) (h : l.Pairwise (fun a b => lt b a = false)) : (ins lt l x).filter (eqv lt z) = (l ++ [x]).filter (eqv lt z) := by
  unfold ins
  have hl : l.filter (eqv lt z) = (l.takeWhile (fun y => !lt x y)).filter (eqv lt z) ++ (l.dropWhile (fun y => !lt x y)).filter (eqv lt z) := by rw [← List.filter_append, List.takeWhile_append_dropWhile]
  rw [List.filter_append, List.filter_append, hl]
  by_cases e : eqv lt z x = true
  · have e0 : (l.dropWhile (fun y => !lt x y)).filter (eqv lt z) = [] := by
      rw [List.filter_eq_nil_iff]
      intro y hy hzy
      have h1 := drop_above hs x l h y hy
      rw [eqv_iff] at e hzy
      rcases hs.cotrans x z y h1 with h2 | h2
      · rw [e.2] at h2; cases h2
      · rw [hzy.1] at h2; cases h2
    rw [List.filter_cons_of_pos e, e0]; simp [e]
  · rw [List.filter_cons_of_neg e]
    have : List.filter (eqv lt z) [x] = [] := by simp at e; simp [e]
    rw [this, List.append_nil]

theorem foldl_ins_sorted (hs : SWO lt) : ∀ (xs l : List α), l.Pairwise (fun a b => lt b a = false) → (xs.foldl (ins lt) l).Pairwise (fun a b => lt b a = false) ∧ ∀ z, (xs.foldl (ins lt) l).filter (eqv lt z) = (l ++ xs).filter (eqv lt z)
  | [], l, h => ⟨h, fun z => by simp⟩
  | x :: xs, l, h => by
    obtain ⟨h1, h2⟩ := foldl_ins_sorted hs xs (ins lt l x) (ins_sorted hs l x h)
    refine ⟨h1, fun z => ?_⟩
    rw [List.foldl_cons, h2 z, List.filter_append, ins_filter hs l x z h, ← List.filter_append]
    simp
theorem isort_sorted (hs : SWO lt) (xs : List α) : (isort lt xs).Pairwise (fun a b => lt b a = false) := (foldl_ins_sorted hs xs [] List.Pairwise.nil).1
theorem isort_filter (hs : SWO lt) (xs : List α) (z : α) : (isort lt xs).filter (eqv lt z) = xs.filter (eqv lt z) := (foldl_ins_sorted hs xs [] List.Pairwise.nil).2 z

/-- two lists that are sorted, and then sorted together -/
theorem isort_both (hs : SWO lt) (a b : List α) : isort lt (isort lt a ++ isort lt b) = isort lt (a ++ b) :=
  sorted_unique hs _ _ (isort_sorted hs _) (isort_sorted hs _) (fun z => by
    rw [isort_filter hs, isort_filter hs, List.filter_append, List.filter_append, isort_filter hs, isort_filter hs])

/-- the queue's own law: what is in it, in order -/
structure QInv (lt : α → α → Bool) (l : List (α × Nat)) (n : Nat) : Prop where
  heap : Heap lt l
  turns : ∀ e ∈ l, e.2 < n
  uniq : ∀ a b, a ∈ l → b ∈ l → a.2 = b.2 → a = b

theorem QInv.nil : QInv lt [] 0 := ⟨fun j hj => LE.out (by simp), fun e h => (by cases h), fun a b h => (by cases h)⟩
theorem QInv.push (hs : SWO lt) {l : List (α × Nat)} {n : Nat} (h : QInv lt l n) (x : α) : QInv lt (QP.push lt l (x, n)) (n + 1) := by
  have hm : ∀ e, e ∈ QP.push lt l (x, n) → e ∈ l ∨ e = (x, n) := fun e he => by
    have := (push_perm (lt := lt) l (x, n)).mem_iff.1 he
    simpa using this
  refine ⟨push_heap hs h.heap _, fun e he => ?_, fun a b ha hb hab => ?_⟩
  · rcases hm e he with h' | h'
    · have := h.turns e h'; omega
    · subst h'; simp
  · rcases hm a ha with h1 | h1 <;> rcases hm b hb with h2 | h2
    · exact h.uniq a b h1 h2 hab
    · have := h.turns a h1; subst h2; simp at hab; omega
    · have := h.turns b h2; subst h1; simp at hab; omega
    · rw [h1, h2]
theorem QInv.pop (hs : SWO lt) {l : List (α × Nat)} {n : Nat} (h : QInv lt l n) : QInv lt (QP.pop lt l) n := by
  have hm : ∀ e, e ∈ QP.pop lt l → e ∈ l := fun e he => by
    cases l with
    | nil => simp [QP.pop] at he
    | cons z r => exact List.mem_cons_of_mem _ ((pop_perm z r).mem_iff.1 he)
  exact ⟨pop_heap hs h.heap, fun e he => h.turns e (hm e he), fun a b ha hb => h.uniq a b (hm a ha) (hm b hb)⟩

theorem drain_push (hs : SWO lt) {l : List (α × Nat)} {n : Nat} (h : QInv lt l n) (x : α) : drain lt (push lt l (x, n)).length (push lt l (x, n)) = ins lt (drain lt l.length l) x := by
  have hp := h.push hs x
  rw [drain_map, drain_map, ← insE_map (lt := lt) (drainE lt l.length l) (x, n)]
  congr 1
  have p1 : (drainE lt l.length l).Perm l := drainE_perm _ _ (Nat.le_refl _)
  have p2 : (insE lt (drainE lt l.length l) (x, n)).Perm (l ++ [(x, n)]) := (insE_perm _ _).trans (p1.append_right _)
  have p3 : (drainE lt (push lt l (x, n)).length (push lt l (x, n))).Perm (l ++ [(x, n)]) := (drainE_perm _ _ (Nat.le_refl _)).trans (push_perm _ _)
  refine List.Perm.eq_of_pairwise (le := le lt) (fun a b ha hb h1 h2 => ?_) (drainE_sorted hs _ _ (Nat.le_refl _) hp.heap)
    (insE_sorted hs _ _ (drainE_sorted hs _ _ (Nat.le_refl _) h.heap) (fun y hy => h.turns y (p1.mem_iff.1 hy))) (p3.trans p2.symm)
  have q := push_perm (lt := lt) l (x, n)
  exact hp.uniq a b (q.mem_iff.2 (p3.mem_iff.1 ha)) (q.mem_iff.2 (p2.mem_iff.1 hb)) (le_antisymm_turn a b h1 h2)
theorem drain_pop (d : α) (l : List (α × Nat)) (h : l ≠ []) : drain lt l.length l = hd d l :: drain lt (pop lt l).length (pop lt l) := drain_succ lt d l h
theorem drain_length (l : List (α × Nat)) : (drain lt l.length l).length = l.length := length_drain lt _ _ (Nat.le_refl _)
end QP
end Go.Proofs.Ytlodbhlidgepfaa
