/- Frames of worlds: which blocks may have changed; rows of chunks. Words of this seat, no program. -/
import Derived.Below
import Derived.Laws.OwnMore
import Derived.Deep.AppendLies
import Derived.Deep.Draws
import Derived.Lib.Hide
import Derived.WalkSmall
import Derived.WalkKit
set_option linter.unusedVariables false
set_option linter.unusedSimpArgs false
namespace Go.Proofs.Ytmjpghaggnpdbaa
open Go.RowKit

/-- From w to w' only blocks in S may have changed; new blocks may have come. -/
structure Fr (w w' : World) (S : Nat → Prop) : Prop where
  os : w'.os = w.os
  tape : w'.tape = w.tape
  output : w'.output = w.output
  size : w.heap.size ≤ w'.heap.size
  block : ∀ k, k < w.heap.size → ¬ S k → w'.heap[k]? = w.heap[k]?

def NoneS : Nat → Prop := fun _ => False
/-- nothing that was there has changed -/
abbrev Gr (w w' : World) : Prop := Fr w w' NoneS

section
variable {w w1 w2 w' : World} {S T : Nat → Prop}
theorem Fr.refl (w : World) (S : Nat → Prop) : Fr w w S := ⟨rfl, rfl, rfl, Nat.le_refl _, fun _ _ _ => rfl⟩
theorem Fr.mono (h : Fr w w' S) (hs : ∀ k, k < w.heap.size → S k → T k) : Fr w w' T :=
  ⟨h.os, h.tape, h.output, h.size, fun k hk hn => h.block k hk fun hs' => hn (hs k hk hs')⟩
theorem Fr.trans (h : Fr w w1 S) (k : Fr w1 w2 T) (ht : ∀ i, i < w.heap.size → T i → S i) : Fr w w2 S :=
  ⟨k.os.trans h.os, k.tape.trans h.tape, k.output.trans h.output, Nat.le_trans h.size k.size,
    fun i hi hn => (k.block i (Nat.lt_of_lt_of_le hi h.size) fun h' => hn (ht i hi h')).trans (h.block i hi hn)⟩
theorem Fr.drew (h : Fr w w' S) : Fr w w'.drew S := ⟨h.os, h.tape, h.output, h.size, h.block⟩
theorem Fr.drewN (h : Fr w w' S) (n : Nat) : Fr w (w'.drewN n) S := ⟨h.os, h.tape, h.output, h.size, h.block⟩
theorem Fr.alloc (h : Fr w w' S) (o : Obj) : Fr w (w'.alloc o) S :=
  h.trans (T := NoneS) ⟨rfl, rfl, rfl, by simp, fun k hk _ => Below.heap_alloc _ _ _ hk⟩ (fun _ _ h => h.elim)
theorem Fr.setCell (h : Fr w w' S) {p : Addr} (hp : p.block < w.heap.size → S p.block) (u : Value) : Fr w (w'.setCell p u) S :=
  h.trans (T := fun k => k = p.block) ⟨rfl, rfl, rfl, by simp [World.setCell], fun k hk hn => Below.heap_setCell _ _ _ _ hn⟩
    (fun i hi e => by subst e; exact hp hi)
theorem Fr.grown {row : Option Nat} (h : Fr w w' S) (hg : w'.grownBy w1 row) (hr : ∀ k, row = some k → k < w.heap.size → S k) : Fr w w1 S :=
  h.trans (T := fun k => row = some k) ⟨hg.os, hg.tape, hg.output, hg.size, fun k hk hn => hg.block k hk (fun e => hn e.symm)⟩
    (fun i hi e => hr i e hi)
theorem Fr.of_below {B : Nat} (h : Below B w w') (hB : w.heap.size ≤ B) : Gr w w' := ⟨h.os, h.tape, h.output, h.size, fun k hk _ => h.block k (by omega)⟩
theorem Fr.below (h : Fr w w' S) {B : Nat} (hB : B ≤ w.heap.size) (hs : ∀ k, k < B → ¬ S k) : Below B w w' :=
  ⟨h.os, h.tape, h.output, h.size, fun k hk => h.block k (by omega) (hs k hk)⟩
theorem Gr.below (h : Gr w w') : Below w.heap.size w w' := Fr.below h (Nat.le_refl _) (fun _ _ h => h)
theorem Fr.cell (h : Fr w w' S) {p : Addr} (hp : p.block < w.heap.size) (hn : ¬ S p.block) : w'.cell? p = w.cell? p := World.cell?_of_block (h.block _ hp hn)
theorem Fr.frozen (h : Fr w w' S) {p : Addr} (hp : p.block < w.heap.size) (hn : ¬ S p.block) : w'.frozen? p = w.frozen? p := World.frozen?_of_block (h.block _ hp hn)
theorem Fr.owns (h : Fr w w' S) {base : Nat} {e : TypeId} {size : Nat} {v : Value} {n : Nat} {xs : List Value} (ho : w.ownsRow base e size v n xs)
    (hn : ∀ k, v.ownBlock = some k → ¬ S k) : w'.ownsRow base e size v n xs := by
  refine ⟨ho.1, ?_⟩
  rcases ho.2 with hn' | ⟨g, cap, cur, rfl, hb, hgg, rest⟩
  · exact .inl hn'
  · refine .inr ⟨g, cap, cur, rfl, hb, ?_, rest⟩
    rw [h.block g (Array.getElem?_eq_some_iff.1 hgg).1 (hn g rfl)]
    exact hgg
theorem Gr.mono (h : Gr w w') (S : Nat → Prop) : Fr w w' S := Fr.mono h (fun _ _ h => h.elim)
end

/-- a block that is just these cells, none frozen -/
def Blk (w : World) (g : Nat) (t : TypeId) (cs : Array Value) : Prop := w.heap[g]? = some (.cells cs t (0, 0))

section
variable {w w' : World} {g : Nat} {t : TypeId} {cs : Array Value} {S : Nat → Prop}
theorem Blk.lt (h : Blk w g t cs) : g < w.heap.size := by
  rcases Nat.lt_or_ge g w.heap.size with hlt | hge
  · exact hlt
  · unfold Blk at h; rw [Array.getElem?_eq_none hge] at h; cases h
theorem Blk.cell (h : Blk w g t cs) (i : Nat) : w.cell? ⟨g, i, none⟩ = cs[i]? := cell_of_row w g i cs t (0, 0) h
theorem Blk.frozen (h : Blk w g t cs) (i : Nat) : w.frozen? ⟨g, i, none⟩ = false := by
  unfold Blk at h
  simp [World.frozen?, h]
theorem Blk.new (w : World) (t : TypeId) (cs : Array Value) : Blk (w.alloc (.cells cs t)) w.heap.size t cs := heap_alloc_new w _
theorem Blk.drew (h : Blk w g t cs) : Blk w.drew g t cs := h
theorem Blk.drewN (h : Blk w g t cs) (n : Nat) : Blk (w.drewN n) g t cs := h
theorem Blk.alloc (h : Blk w g t cs) (o : Obj) : Blk (w.alloc o) g t cs := (Below.heap_alloc w o g h.lt).trans h
theorem Blk.set_ (h : Blk w g t cs) (i : Nat) (u : Value) : Blk (w.setCell ⟨g, i, none⟩ u) g t (cs.setIfInBounds i u) := by
  unfold Blk at h ⊢
  simp [World.setCell, Array.getElem?_modify, h]
theorem Blk.far (h : Blk w g t cs) {p : Addr} (hp : g ≠ p.block) (u : Value) : Blk (w.setCell p u) g t cs := (Below.heap_setCell w p u g hp).trans h
theorem Blk.fr (h : Blk w g t cs) (hf : Fr w w' S) (hg : ¬ S g) : Blk w' g t cs := (hf.block g h.lt hg).trans h
theorem Blk.ne_ {g' : Nat} {t' : TypeId} {cs' : Array Value} (h : Blk w g t cs) (h' : Blk w g' t' cs') (hne : t ≠ t') : g ≠ g' := by
  rintro rfl
  unfold Blk at h h'
  rw [h] at h'
  injection h' with h'
  injection h' with _ ht
  exact hne ht
theorem own_blk_ne {base : Nat} {e : TypeId} {size n : Nat} {v : Value} {xs : List Value} (h : w.ownsRow base e size v n xs) (hg : Blk w g t cs) (hne : e ≠ t) : v.ownBlock ≠ some g := by
  rcases h.2 with ⟨rfl, _⟩ | ⟨g', cap, cur, rfl, _, hh, _⟩
  · simp [Value.ownBlock]
  · intro he
    have : g' = g := by simpa [Value.ownBlock] using he
    subst this
    exact Blk.ne_ (t := e) hh hg hne rfl
end

/-! ### rows of chunks -/
section
variable {α β : Type}
theorem len_flatMap (f : α → List β) (s : Nat) (hf : ∀ x, (f x).length = s) : ∀ l : List α, (l.flatMap f).length = l.length * s
  | [] => by simp
  | x :: l => by rw [List.flatMap_cons, List.length_append, hf, len_flatMap f s hf l, List.length_cons, Nat.add_mul]; omega

theorem get_flatMap (f : α → List β) (s : Nat) (hf : ∀ x, (f x).length = s) : ∀ (l : List α) (i j : Nat), j < s → (l.flatMap f)[i * s + j]? = (l[i]?).bind fun x => (f x)[j]?
  | [], i, j, _ => by simp
  | x :: l, 0, j, hj => by rw [List.flatMap_cons, Nat.zero_mul, Nat.zero_add, List.getElem?_append_left (by rw [hf]; exact hj)]; rfl
  | x :: l, i + 1, j, hj => by
    rw [List.flatMap_cons, List.getElem?_append_right (by rw [hf, Nat.add_mul]; omega), hf]
    have : (i + 1) * s + j - s = i * s + j := by rw [Nat.add_mul]; omega
    rw [this, get_flatMap f s hf l i j hj]
    rfl

theorem get_flatMap' (f : α → List β) (s : Nat) (hs : 0 < s) (hf : ∀ x, (f x).length = s) (l : List α) (m : Nat) : (l.flatMap f)[m]? = (l[m / s]?).bind fun x => (f x)[m % s]? := by
  have := get_flatMap f s hf l (m / s) (m % s) (Nat.mod_lt _ hs)
  rw [Nat.div_add_mod' m s] at this
  exact this

/-- one chunk is put anew -/
theorem set_flatMap (f : α → List β) (s : Nat) (hs : 0 < s) (hf : ∀ x, (f x).length = s) (l : List α) (i : Nat) (y : α) (xs : List β)
    (hl : xs.length = (l.flatMap f).length) (hin : ∀ j, j < s → i < l.length → xs[i * s + j]? = (f y)[j]?) (hout : ∀ m, m / s ≠ i → xs[m]? = (l.flatMap f)[m]?) :
    xs = (l.set i y).flatMap f := by
  apply List.ext_getElem?
  intro m
  by_cases hm : m / s = i
  · by_cases hi : i < l.length
    · have h1 := hin (m % s) (Nat.mod_lt _ hs) hi
      have h2 : i * s + m % s = m := by rw [← hm]; exact Nat.div_add_mod' m s
      rw [h2] at h1
      rw [h1, get_flatMap' f s hs hf, hm, List.getElem?_set_self hi]
      rfl
    · have h0 : l.length * s ≤ m := by
        have h2 : m / s * s + m % s = m := Nat.div_add_mod' m s
        have : l.length * s ≤ i * s := Nat.mul_le_mul_right _ (by omega)
        rw [hm] at h2
        omega
      rw [List.getElem?_eq_none (by rw [hl, len_flatMap f s hf]; exact h0), List.getElem?_eq_none (by rw [len_flatMap f s hf, List.length_set]; exact h0)]
  · rw [hout m hm, get_flatMap' f s hs hf, get_flatMap' f s hs hf, List.getElem?_set_ne (Ne.symm hm)]
end

end Go.Proofs.Ytmjpghaggnpdbaa
