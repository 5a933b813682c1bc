/- Frames of worlds: which blocks may have changed; rows of chunks. Words of this seat, no program. Slices that are read. append of a slice that is read, onto a row of the call's own. No program. The spare room of a row of the call's own: what its cells are. No program. -/
import Derived.Below
import Derived.Laws.OwnMore
import Derived.Deep.AppendLies
import Derived.Deep.Draws
import Derived.Lib.Hide
import Derived.WalkSmall
import Derived.WalkKit
import Derived.Maps.AppendAt
import Derived.RegionTactic
set_option linter.unusedVariables false
set_option linter.unusedSimpArgs false
namespace Go.Proofs.Ytlodbhlidgepfaa
open Go.RowKit

/-- From w to w' only blocks in S may have changed; new blocks may have come. -/
structure Fr (w w' : World) (S : Nat → Prop) : Prop where
  os : w'.os = w.os
  tape : w'.tape = w.tape
  output : w'.output = w.output
  size : w.heap.size ≤ w'.heap.size
  block : ∀ k, k < w.heap.size → ¬ S k → w'.heap[k]? = w.heap[k]?

def NoneS : Nat → Prop := fun _ => False
/-- nothing that was there has changed -/
abbrev Gr (w w' : World) : Prop := Fr w w' NoneS

section
variable {w w1 w2 w' : World} {S T : Nat → Prop}
theorem Fr.refl (w : World) (S : Nat → Prop) : Fr w w S := ⟨rfl, rfl, rfl, Nat.le_refl _, fun _ _ _ => rfl⟩
theorem Fr.mono (h : Fr w w' S) (hs : ∀ k, k < w.heap.size → S k → T k) : Fr w w' T :=
  ⟨h.os, h.tape, h.output, h.size, fun k hk hn => h.block k hk fun hs' => hn (hs k hk hs')⟩
theorem Fr.trans (h : Fr w w1 S) (k : Fr w1 w2 T) (ht : ∀ i, i < w.heap.size → T i → S i) : Fr w w2 S :=
  ⟨k.os.trans h.os, k.tape.trans h.tape, k.output.trans h.output, Nat.le_trans h.size k.size,
    fun i hi hn => (k.block i (Nat.lt_of_lt_of_le hi h.size) fun h' => hn (ht i hi h')).trans (h.block i hi hn)⟩
theorem Fr.drew (h : Fr w w' S) : Fr w w'.drew S := ⟨h.os, h.tape, h.output, h.size, h.block⟩
theorem Fr.drewN (h : Fr w w' S) (n : Nat) : Fr w (w'.drewN n) S := ⟨h.os, h.tape, h.output, h.size, h.block⟩
theorem Fr.alloc (h : Fr w w' S) (o : Obj) : Fr w (w'.alloc o) S :=
  h.trans (T := NoneS) ⟨rfl, rfl, rfl, by simp, fun k hk _ => Below.heap_alloc _ _ _ hk⟩ (fun _ _ h => h.elim)
theorem Fr.setCell (h : Fr w w' S) {p : Addr} (hp : p.block < w.heap.size → S p.block) (u : Value) : Fr w (w'.setCell p u) S :=
  h.trans (T := fun k => k = p.block) ⟨rfl, rfl, rfl, by simp [World.setCell], fun k hk hn => Below.heap_setCell _ _ _ _ hn⟩
    (fun i hi e => by subst e; exact hp hi)
theorem Fr.grown {row : Option Nat} (h : Fr w w' S) (hg : w'.grownBy w1 row) (hr : ∀ k, row = some k → k < w.heap.size → S k) : Fr w w1 S :=
  h.trans (T := fun k => row = some k) ⟨hg.os, hg.tape, hg.output, hg.size, fun k hk hn => hg.block k hk (fun e => hn e.symm)⟩
    (fun i hi e => hr i e hi)
theorem Fr.of_below {B : Nat} (h : Below B w w') (hB : w.heap.size ≤ B) : Gr w w' := ⟨h.os, h.tape, h.output, h.size, fun k hk _ => h.block k (by omega)⟩
theorem Fr.below (h : Fr w w' S) {B : Nat} (hB : B ≤ w.heap.size) (hs : ∀ k, k < B → ¬ S k) : Below B w w' :=
  ⟨h.os, h.tape, h.output, h.size, fun k hk => h.block k (by omega) (hs k hk)⟩
theorem Gr.below (h : Gr w w') : Below w.heap.size w w' := Fr.below h (Nat.le_refl _) (fun _ _ h => h)
theorem Fr.cell (h : Fr w w' S) {p : Addr} (hp : p.block < w.heap.size) (hn : ¬ S p.block) : w'.cell? p = w.cell? p := World.cell?_of_block (h.block _ hp hn)
theorem Fr.frozen (h : Fr w w' S) {p : Addr} (hp : p.block < w.heap.size) (hn : ¬ S p.block) : w'.frozen? p = w.frozen? p := World.frozen?_of_block (h.block _ hp hn)
theorem Fr.owns (h : Fr w w' S) {base : Nat} {e : TypeId} {size : Nat} {v : Value} {n : Nat} {xs : List Value} (ho : w.ownsRow base e size v n xs)
    (hn : ∀ k, v.ownBlock = some k → ¬ S k) : w'.ownsRow base e size v n xs := by
  refine ⟨ho.1, ?_⟩
  rcases ho.2 with hn' | ⟨g, cap, cur, rfl, hb, hgg, rest⟩
  · exact .inl hn'
  · refine .inr ⟨g, cap, cur, rfl, hb, ?_, rest⟩
    rw [h.block g (Array.getElem?_eq_some_iff.1 hgg).1 (hn g rfl)]
    exact hgg
theorem Gr.mono (h : Gr w w') (S : Nat → Prop) : Fr w w' S := Fr.mono h (fun _ _ h => h.elim)
end

/-- a block that is just these cells, none frozen -/
def Blk (w : World) (g : Nat) (t : TypeId) (cs : Array Value) : Prop := w.heap[g]? = some (.cells cs t (0, 0))

section
variable {w w' : World} {g : Nat} {t : TypeId} {cs : Array Value} {S : Nat → Prop}
theorem Blk.lt (h : Blk w g t cs) : g < w.heap.size := by
  rcases Nat.lt_or_ge g w.heap.size with hlt | hge
  · exact hlt
  · unfold Blk at h; rw [Array.getElem?_eq_none hge] at h; cases h
theorem Blk.cell (h : Blk w g t cs) (i : Nat) : w.cell? ⟨g, i, none⟩ = cs[i]? := cell_of_row w g i cs t (0, 0) h
theorem Blk.frozen (h : Blk w g t cs) (i : Nat) : w.frozen? ⟨g, i, none⟩ = false := by
  unfold Blk at h
  simp [World.frozen?, h]
theorem Blk.new (w : World) (t : TypeId) (cs : Array Value) : Blk (w.alloc (.cells cs t)) w.heap.size t cs := heap_alloc_new w _
theorem Blk.drew (h : Blk w g t cs) : Blk w.drew g t cs := h
theorem Blk.drewN (h : Blk w g t cs) (n : Nat) : Blk (w.drewN n) g t cs := h
theorem Blk.alloc (h : Blk w g t cs) (o : Obj) : Blk (w.alloc o) g t cs := (Below.heap_alloc w o g h.lt).trans h
theorem Blk.set_ (h : Blk w g t cs) (i : Nat) (u : Value) : Blk (w.setCell ⟨g, i, none⟩ u) g t (cs.setIfInBounds i u) := by
  unfold Blk at h ⊢
  simp [World.setCell, Array.getElem?_modify, h]
theorem Blk.far (h : Blk w g t cs) {p : Addr} (hp : g ≠ p.block) (u : Value) : Blk (w.setCell p u) g t cs := (Below.heap_setCell w p u g hp).trans h
theorem Blk.fr (h : Blk w g t cs) (hf : Fr w w' S) (hg : ¬ S g) : Blk w' g t cs := (hf.block g h.lt hg).trans h
theorem Blk.ne_ {g' : Nat} {t' : TypeId} {cs' : Array Value} (h : Blk w g t cs) (h' : Blk w g' t' cs') (hne : t ≠ t') : g ≠ g' := by
  rintro rfl
  unfold Blk at h h'
  rw [h] at h'
  injection h' with h'
  injection h' with _ ht
  exact hne ht
theorem own_blk_ne {base : Nat} {e : TypeId} {size n : Nat} {v : Value} {xs : List Value} (h : w.ownsRow base e size v n xs) (hg : Blk w g t cs) (hne : e ≠ t) : v.ownBlock ≠ some g := by
  rcases h.2 with ⟨rfl, _⟩ | ⟨g', cap, cur, rfl, _, hh, _⟩
  · simp [Value.ownBlock]
  · intro he
    have : g' = g := by simpa [Value.ownBlock] using he
    subst this
    exact Blk.ne_ (t := e) hh hg hne rfl
end

/-! ### rows of chunks -/
section
variable {α β : Type}
theorem len_flatMap (f : α → List β) (s : Nat) (hf : ∀ x, (f x).length = s) : ∀ l : List α, (l.flatMap f).length = l.length * s
  | [] => by simp
  | x :: l => by rw [List.flatMap_cons, List.length_append, hf, len_flatMap f s hf l, List.length_cons, Nat.add_mul]; omega

theorem get_flatMap (f : α → List β) (s : Nat) (hf : ∀ x, (f x).length = s) : ∀ (l : List α) (i j : Nat), j < s → (l.flatMap f)[i * s + j]? = (l[i]?).bind fun x => (f x)[j]?
  | [], i, j, _ => by simp
  | x :: l, 0, j, hj => by rw [List.flatMap_cons, Nat.zero_mul, Nat.zero_add, List.getElem?_append_left (by rw [hf]; exact hj)]; rfl
  | x :: l, i + 1, j, hj => by
    rw [List.flatMap_cons, List.getElem?_append_right (by rw [hf, Nat.add_mul]; omega), hf]
    have : (i + 1) * s + j - s = i * s + j := by rw [Nat.add_mul]; omega
    rw [this, get_flatMap f s hf l i j hj]
    rfl

theorem get_flatMap' (f : α → List β) (s : Nat) (hs : 0 < s) (hf : ∀ x, (f x).length = s) (l : List α) (m : Nat) : (l.flatMap f)[m]? = (l[m / s]?).bind fun x => (f x)[m % s]? := by
  have := get_flatMap f s hf l (m / s) (m % s) (Nat.mod_lt _ hs)
  rw [Nat.div_add_mod' m s] at this
  exact this

/-- one chunk is put anew -/
theorem set_flatMap (f : α → List β) (s : Nat) (hs : 0 < s) (hf : ∀ x, (f x).length = s) (l : List α) (i : Nat) (y : α) (xs : List β)
    (hl : xs.length = (l.flatMap f).length) (hin : ∀ j, j < s → i < l.length → xs[i * s + j]? = (f y)[j]?) (hout : ∀ m, m / s ≠ i → xs[m]? = (l.flatMap f)[m]?) :
    xs = (l.set i y).flatMap f := by
  apply List.ext_getElem?
  intro m
  by_cases hm : m / s = i
  · by_cases hi : i < l.length
    · have h1 := hin (m % s) (Nat.mod_lt _ hs) hi
      have h2 : i * s + m % s = m := by rw [← hm]; exact Nat.div_add_mod' m s
      rw [h2] at h1
      rw [h1, get_flatMap' f s hs hf, hm, List.getElem?_set_self hi]
      rfl
    · have h0 : l.length * s ≤ m := by
        have h2 : m / s * s + m % s = m := Nat.div_add_mod' m s
        have : l.length * s ≤ i * s := Nat.mul_le_mul_right _ (by omega)
        rw [hm] at h2
        omega
      rw [List.getElem?_eq_none (by rw [hl, len_flatMap f s hf]; exact h0), List.getElem?_eq_none (by rw [len_flatMap f s hf, List.length_set]; exact h0)]
  · rw [hout m hm, get_flatMap' f s hs hf, get_flatMap' f s hs hf, List.getElem?_set_ne (Ne.symm hm)]
end

end Go.Proofs.Ytlodbhlidgepfaa

namespace Go.Proofs.Ytlodbhlidgepfaa
open Go.RowKit

/-! ### a slice that is read -/
/-- the slice value v reads as the list xs, each element by its cells -/
def SL {α : Type} (enc : α → List Value) (w : World) (v : Value) (xs : List α) : Prop :=
  ∃ A cap, v = .slice A xs.length cap ∧ xs.length ≤ cap ∧ (0 < xs.length → ∃ b off, A = some ⟨b, off, none⟩ ∧ b < w.heap.size ∧ ∀ i u, (xs.flatMap enc)[i]? = some u → w.cell? ⟨b, off + i, none⟩ = some u)

namespace SL
variable {α : Type} {enc : α → List Value} {w w' : World} {v : Value} {xs : List α} {S : Nat → Prop}
theorem nil (w : World) : SL enc w (.slice none 0 0) [] := ⟨none, 0, rfl, Nat.le_refl _, fun h => absurd h (by simp)⟩
theorem fr (h : SL enc w v xs) (hf : Fr w w' S) (hn : ∀ k, v.ownBlock = some k → ¬ S k) : SL enc w' v xs := by
  obtain ⟨A, cap, rfl, hc, hr⟩ := h
  refine ⟨A, cap, rfl, hc, fun hl => ?_⟩
  obtain ⟨b, off, rfl, hb, hcell⟩ := hr hl
  exact ⟨b, off, rfl, Nat.lt_of_lt_of_le hb hf.size, fun i u hu => (hf.cell (p := ⟨b, off + i, none⟩) hb (hn b rfl)).trans (hcell i u hu)⟩
theorem gr (h : SL enc w v xs) (hf : Gr w w') : SL enc w' v xs := h.fr hf (fun _ _ h => h)
theorem drew (h : SL enc w v xs) : SL enc w.drew v xs := h
theorem drewN (h : SL enc w v xs) (n : Nat) : SL enc (w.drewN n) v xs := h
theorem of_own {base : Nat} {e : TypeId} {s n : Nat} (h : w.ownsRow base e s v n (xs.flatMap enc)) (hn : n = xs.length) : SL enc w v xs := by
  subst hn
  rcases h.2 with ⟨rfl, h0⟩ | ⟨g, cap, cur, rfl, hb, hg, hnc, hcm, hcs, htake⟩
  · have : xs = [] := List.eq_nil_of_length_eq_zero h0
    subst this; exact nil w
  · refine ⟨_, cap, rfl, hnc, fun _ => ⟨g, 0, rfl, ?_, fun i u hu => ?_⟩⟩
    · rcases Nat.lt_or_ge g w.heap.size with hlt | hge
      · exact hlt
      · rw [Array.getElem?_eq_none hge] at hg; cases hg
    · have hi := (List.getElem?_eq_some_iff.1 hu).1
      have := h.cellAt (g := g) (cap := cap) i (by rw [← h.1]; exact hi)
      rw [Nat.zero_add, this]; exact hu
/-- element k's cell j -/
theorem at_ (h : SL enc w v xs) {s : Nat} (hs : ∀ x, (enc x).length = s) {A : Option Addr} {n cap : Nat} (hv : v = .slice A n cap) {k : Nat} (hk : k < xs.length) :
    ∃ b off, A = some ⟨b, off, none⟩ ∧ b < w.heap.size ∧ ∀ j, j < s → w.cell? ⟨b, off + (k * s + j), none⟩ = (enc xs[k])[j]? := by
  obtain ⟨A', cap', rfl, hc, hr⟩ := h
  obtain ⟨rfl, _, _⟩ : A' = A ∧ xs.length = n ∧ cap' = cap := by simpa using hv
  obtain ⟨b, off, rfl, hb, hcell⟩ := hr (by omega)
  refine ⟨b, off, rfl, hb, fun j hj => ?_⟩
  have h1 := get_flatMap enc s hs xs k j hj
  rw [List.getElem?_eq_getElem hk] at h1
  have hj' : j < (enc xs[k]).length := by rw [hs]; exact hj
  have h2 : (enc xs[k])[j]? = some ((enc xs[k])[j]'hj') := List.getElem?_eq_getElem hj'
  rw [h2]
  exact hcell _ _ (h1.trans h2)
end SL

theorem gr_keep' {w0 w w' : World} {s n : Nat} {e : TypeId} {v : Value} {xs : List Value} (hg : Gr w0 w) (ho : w.ownsRow w0.heap.size e s v n xs) (hf : Fr w w' (fun k => v.ownBlock = some k)) : Gr w0 w' :=
  hg.trans hf (fun i hi hv => by have := (ho.lt i hv).1; omega)
theorem own_base {w : World} {b b' : Nat} {e : TypeId} {s n : Nat} {v : Value} {x : List Value} (h : w.ownsRow b e s v n x) (hb : b' ≤ b) : w.ownsRow b' e s v n x := by
  refine ⟨h.1, ?_⟩
  rcases h.2 with h' | ⟨g, cap, cur, hv, hg, r⟩
  · exact .inl h'
  · exact .inr ⟨g, cap, cur, hv, Nat.le_trans hb hg, r⟩
/-- rows of different element types lie in different blocks -/
theorem own_own_ne {w : World} {b1 b2 : Nat} {e1 e2 : TypeId} {s1 s2 n1 n2 : Nat} {v1 v2 : Value} {x1 x2 : List Value} (h1 : w.ownsRow b1 e1 s1 v1 n1 x1) (h2 : w.ownsRow b2 e2 s2 v2 n2 x2) (hne : e1 ≠ e2) :
    ∀ k, v1.ownBlock = some k → v2.ownBlock ≠ some k := by
  intro k hk
  rcases h1.2 with ⟨rfl, _⟩ | ⟨g, cap, cur, rfl, _, hh, _⟩
  · simp [Value.ownBlock] at hk
  · have : g = k := by simpa [Value.ownBlock] using hk
    subst this
    exact own_blk_ne h2 hh (Ne.symm hne)

end Go.Proofs.Ytlodbhlidgepfaa

namespace Go.Proofs.Ytlodbhlidgepfaa
open Go.RowKit

theorem addr_add (b off j : Nat) : (⟨b, off, none⟩ : Addr).add j = ⟨b, off + j, none⟩ := by
  unfold Addr.add; split
  · rename_i h; subst h; rfl
  · rfl

section
variable {P : Program} (w : World)
theorem run_append_sl {α : Type} (enc : α → List Value) (base : Nat) (t ty e : TypeId) (i : TypeInfo) (z : Value) (size bytes : Nat) (ht : P.underlying t = some (.slice e)) (hi : P.info? e = some i) (hz : i.zero = some z)
    (hsize : i.size = size) (hby : i.bytes = bytes) (hzs : z.cells.size = size) (hsz : 0 < size)
    (v : Value) (n : Nat) (xs : List Value) (hown : w.ownsRow base e size v n xs)
    (sv : Value) (news : List α) (hs : SL enc w sv news) (henc : ∀ x, (enc x).length = size) (h1 : ∀ x, ∀ u ∈ enc x, u.oneCell' = true)
    (h63 : n + news.length ≤ maxLen) (hbytes : (n + news.length) * bytes ≤ 140737488355328) (hbase : base ≤ w.heap.size) :
    ∃ v' w', (Builtin.append_ #[t, t] ty #[v, sv]).run P w = .ok v' w' ∧ w'.ownsRow base e size v' (n + news.length) (xs ++ news.flatMap enc) ∧ Fr w w' (fun k => v.ownBlock = some k) ∧
      (v'.ownBlock = v.ownBlock ∨ v'.ownBlock = some w.heap.size) := by
  obtain ⟨A, cap, rfl, hc, hr⟩ := hs
  cases A with
  | none =>
    have hn : news = [] := by
      cases news with
      | nil => rfl
      | cons x r => obtain ⟨b, off, h, _⟩ := hr (by simp); cases h
    subst hn
    refine ⟨v, w, ?_, by simpa using hown, Fr.refl _ _, .inl rfl⟩
    rcases hown.2 with ⟨rfl, rfl⟩ | ⟨g, cap', cur, rfl, _, _, hnc, _⟩
    · simp [Builtin.append_, run_underlying ht, sizeOf, typeInfo, hi, Builtin.lenOf, Builtin.firstCells]
    · simp [Builtin.append_, run_underlying ht, sizeOf, typeInfo, hi, Builtin.lenOf, Builtin.firstCells, hnc, storeCells]
  | some ad =>
    have hcells : ∀ j u, (news.flatMap enc)[j]? = some u → w.cell? (ad.add j) = some u := by
      intro j u hu
      have hl : 0 < news.length := by
        cases news with
        | nil => simp at hu
        | cons x r => simp
      obtain ⟨b, off, h, _, hcell⟩ := hr hl
      injection h with h
      subst h
      rw [addr_add]
      exact hcell j u hu
    obtain ⟨v', w', hrun, h2, h3, _, h5⟩ := run_append_own_at (P := P) w base t ty e i z size bytes ht hi hz hsize hby hzs hsz v n xs hown ad news.length cap (news.flatMap enc) (len_flatMap enc size henc news) hcells
      (fun u hu => by obtain ⟨x, _, hx⟩ := List.mem_flatMap.1 hu; exact h1 x u hx) h63 hbytes hbase
    exact ⟨v', w', hrun, h2, ⟨h3.os, h3.tape, h3.output, h3.size, fun k hk hn => h3.block k hk (fun e => hn e.symm)⟩, h5⟩

theorem wp_append_sl {α : Type} (enc : α → List Value) {o : Oper} {a : Act} {K : Act → World → Prop} {Q : Exit → Act → World → Prop} (s x : Operand) (t : TypeId)
    (ho : o.op = .call { callee := .builtin .append, args := #[s, x], argTypes := #[t, t] })
    (base : Nat) (e : TypeId) (i : TypeInfo) (z : Value) (size bytes : Nat) (ht : P.underlying t = some (.slice e)) (hi : P.info? e = some i) (hz : i.zero = some z)
    (hsize : i.size = size) (hby : i.bytes = bytes) (hzs : z.cells.size = size) (hsz : 0 < size)
    (v : Value) (n : Nat) (xs : List Value) (hsv : a.eval s = v) (hown : w.ownsRow base e size v n xs)
    (sv : Value) (news : List α) (hxv : a.eval x = sv) (hs : SL enc w sv news) (henc : ∀ x, (enc x).length = size) (h1 : ∀ x, ∀ u ∈ enc x, u.oneCell' = true)
    (h63 : n + news.length ≤ maxLen) (hbytes : (n + news.length) * bytes ≤ 140737488355328) (hbase : base ≤ w.heap.size)
    (h : ∀ v' w', w'.ownsRow base e size v' (n + news.length) (xs ++ news.flatMap enc) → Fr w w' (fun k => v.ownBlock = some k) → (v'.ownBlock = v.ownBlock ∨ v'.ownBlock = some w.heap.size) → K (a.put o.dst v') w') : o.wp P a w K Q := by
  obtain ⟨v', w', hrun, h2, h3, h4⟩ := run_append_sl (P := P) w enc base t o.type e i z size bytes ht hi hz hsize hby hzs hsz v n xs hown sv news hs henc h1 h63 hbytes hbase
  unfold Oper.wp execOp
  simp only [ho, resolve, invoke, builtin, Sem.run_bind, Sem.run_pure, Result.andThen_ok, List.map_toArray, List.map_cons, List.map_nil, hsv, hxv, hrun]
  exact h v' w' h2 h3 h4

/-- at the list of a plain region's operations -/
theorem wpList_append_sl {α : Type} (enc : α → List Value) {ops : Array Oper} {rest : List Oper} {o : Oper} {a : Act} {Q : Exit → Act → World → Prop} (hgd : o.guard = none) (s x : Operand) (t : TypeId)
    (ho : o.op = .call { callee := .builtin .append, args := #[s, x], argTypes := #[t, t] })
    (base : Nat) (e : TypeId) (i : TypeInfo) (z : Value) (size bytes : Nat) (ht : P.underlying t = some (.slice e)) (hi : P.info? e = some i) (hz : i.zero = some z)
    (hsize : i.size = size) (hby : i.bytes = bytes) (hzs : z.cells.size = size) (hsz : 0 < size)
    (v : Value) (n : Nat) (xs : List Value) (hsv : a.eval s = v) (hown : w.ownsRow base e size v n xs)
    (sv : Value) (news : List α) (hxv : a.eval x = sv) (hs : SL enc w sv news) (henc : ∀ x, (enc x).length = size) (h1 : ∀ x, ∀ u ∈ enc x, u.oneCell' = true)
    (h63 : n + news.length ≤ maxLen) (hbytes : (n + news.length) * bytes ≤ 140737488355328) (hbase : base ≤ w.heap.size)
    (h : ∀ v' w', w'.ownsRow base e size v' (n + news.length) (xs ++ news.flatMap enc) → Fr w w' (fun k => v.ownBlock = some k) → (v'.ownBlock = v.ownBlock ∨ v'.ownBlock = some w.heap.size) → wpList P ops Q rest (a.put o.dst v') w') :
    wpList P ops Q (o :: rest) a w :=
  wpList_plain hgd fun _ hK => wp_append_sl w enc s x t ho base e i z size bytes ht hi hz hsize hby hzs hsz v n xs hsv hown sv news hxv hs henc h1 h63 hbytes hbase fun v' w' h2 h3 h4 => hK _ _ (h v' w' h2 h3 h4)

/-- at a step of a region that draws -/
theorem step_append_sl {α : Type} (enc : α → List Value) {ops : Array Oper} {o : Oper} {a : Act} {K : Act → World → Prop} {Q : Exit → Act → World → Prop} {E : Prop} (hgd : o.guard = none) (s x : Operand) (t : TypeId)
    (ho : o.op = .call { callee := .builtin .append, args := #[s, x], argTypes := #[t, t] })
    (base : Nat) (e : TypeId) (i : TypeInfo) (z : Value) (size bytes : Nat) (ht : P.underlying t = some (.slice e)) (hi : P.info? e = some i) (hz : i.zero = some z)
    (hsize : i.size = size) (hby : i.bytes = bytes) (hzs : z.cells.size = size) (hsz : 0 < size)
    (v : Value) (n : Nat) (xs : List Value) (hsv : a.eval s = v) (hown : w.ownsRow base e size v n xs)
    (sv : Value) (news : List α) (hxv : a.eval x = sv) (hs : SL enc w sv news) (henc : ∀ x, (enc x).length = size) (h1 : ∀ x, ∀ u ∈ enc x, u.oneCell' = true)
    (h63 : n + news.length ≤ maxLen) (hbytes : (n + news.length) * bytes ≤ 140737488355328) (hbase : base ≤ w.heap.size)
    (h : ∀ v' w', w'.ownsRow base e size v' (n + news.length) (xs ++ news.flatMap enc) → Fr w w' (fun k => v.ownBlock = some k) → (v'.ownBlock = v.ownBlock ∨ v'.ownBlock = some w.heap.size) → K (a.put o.dst v') w') :
    if Region.wanted o (yielded ops a.tmps) = true then Oper.wp P o a w K Q else E := by
  have hw : Region.wanted o (yielded ops a.tmps) = true := by simp [Region.wanted, hgd]
  rw [if_pos hw]
  exact wp_append_sl w enc s x t ho base e i z size bytes ht hi hz hsize hby hzs hsz v n xs hsv hown sv news hxv hs henc h1 h63 hbytes hbase h
end

/-! ### cuts of a slice that is read -/
namespace SL
variable {α : Type} {enc : α → List Value} {w : World} {xs : List α}
theorem take {A : Option Addr} {n cap k : Nat} (h : SL enc w (.slice A n cap) xs) (hk : k ≤ xs.length) : SL enc w (.slice A k cap) (xs.take k) := by
  obtain ⟨A', cap', hv, hc, hr⟩ := h
  obtain ⟨rfl, _, rfl⟩ : A = A' ∧ n = xs.length ∧ cap = cap' := by simpa using hv
  have hl : (xs.take k).length = k := by rw [List.length_take, Nat.min_eq_left hk]
  refine ⟨A, cap, by rw [hl], by omega, fun h0 => ?_⟩
  obtain ⟨b, off, e, hb, hcell⟩ := hr (by omega)
  refine ⟨b, off, e, hb, fun i u hu => hcell i u ?_⟩
  have : xs.flatMap enc = (xs.take k).flatMap enc ++ (xs.drop k).flatMap enc := by rw [← List.flatMap_append, List.take_append_drop]
  rw [this, List.getElem?_append_left (List.getElem?_eq_some_iff.1 hu).1]
  exact hu
/-- the slice from element k on -/
theorem drop {b off n cap k s : Nat} (h : SL enc w (.slice (some ⟨b, off, none⟩) n cap) xs) (hs : ∀ x, (enc x).length = s) (hk : k ≤ xs.length) :
    SL enc w (.slice (some ⟨b, off + k * s, none⟩) (n - k) (cap - k)) (xs.drop k) := by
  obtain ⟨A', cap', hv, hc, hr⟩ := h
  obtain ⟨rfl, rfl, rfl⟩ : some ⟨b, off, none⟩ = A' ∧ n = xs.length ∧ cap = cap' := by simpa using hv
  refine ⟨_, cap - k, by rw [List.length_drop], by rw [List.length_drop]; omega, fun h0 => ?_⟩
  rw [List.length_drop] at h0
  obtain ⟨b', off', e, hb, hcell⟩ := hr (by omega)
  obtain ⟨rfl, rfl⟩ : b = b' ∧ off = off' := by simpa using e
  refine ⟨b, off + k * s, rfl, hb, fun i u hu => ?_⟩
  rw [Nat.add_assoc]
  refine hcell _ u ?_
  have e1 : xs.flatMap enc = (xs.take k).flatMap enc ++ (xs.drop k).flatMap enc := by rw [← List.flatMap_append, List.take_append_drop]
  have e2 : ((xs.take k).flatMap enc).length = k * s := by rw [len_flatMap enc s hs, List.length_take, Nat.min_eq_left hk]
  rw [e1, List.getElem?_append_right (by rw [e2]; omega), e2, Nat.add_sub_cancel_left]
  exact hu
theorem empty (w : World) (A : Option Addr) (cap : Nat) : SL enc w (.slice A 0 cap) [] := ⟨A, cap, rfl, Nat.zero_le _, fun h => absurd h (by simp)⟩
/-- two readings of one slice -/
theorem len {v : Value} (h : SL enc w v xs) : ∃ A cap, v = .slice A xs.length cap ∧ xs.length ≤ cap := by
  obtain ⟨A, cap, hv, hc, _⟩ := h
  exact ⟨A, cap, hv, hc⟩
end SL

/-- 'x[:k]' -/
theorem run_slice_to {P : Program} (t e : TypeId) (i : TypeInfo) (ht : P.underlying t = some (.slice e)) (hi : P.info? e = some i) (A : Option Addr) (n cap k : Nat) (hk : k ≤ cap) (w : World) :
    (Instr.slice t (.slice A n cap) none (some (.int .i64 (k : Int))) none).run P w = .ok (.slice A k cap) w := by
  have e1 : (if cap = 0 then A else A.map (fun x => x.add (0 * i.size))) = A := by
    split
    · rfl
    · cases A <;> simp [Addr.add]
  have h1 : (0 : Int) ≤ k ∧ (k : Int) ≤ cap := by omega
  simp [Instr.slice, Instr.sliceBounds, run_underlying ht, sizeOf, typeInfo, hi, go_sem, h1]
  try (cases A <;> simp [Addr.add])
/-- 'x[k:]' -/
theorem run_slice_from {P : Program} (t e : TypeId) (i : TypeInfo) (size : Nat) (ht : P.underlying t = some (.slice e)) (hi : P.info? e = some i) (hsz : i.size = size) (A : Option Addr) (n cap k : Nat) (hk : k ≤ n) (w : World) :
    (Instr.slice t (.slice A n cap) (some (.int .i64 (k : Int))) none none).run P w = .ok (.slice (if cap = k then A else A.map (fun x => x.add (k * size))) (n - k) (cap - k)) w := by
  have h1 : (0 : Int) ≤ k ∧ (k : Int) ≤ n := by omega
  simp [Instr.slice, Instr.sliceBounds, run_underlying ht, sizeOf, typeInfo, hi, go_sem, h1, hsz]
theorem SL.from_ {α : Type} {enc : α → List Value} {w : World} {xs : List α} {A : Option Addr} {n cap k s : Nat} (h : SL enc w (.slice A n cap) xs) (hs : ∀ x, (enc x).length = s) (hk : k ≤ n) :
    SL enc w (.slice (if cap = k then A else A.map (fun x => x.add (k * s))) (n - k) (cap - k)) (xs.drop k) := by
  obtain ⟨A', cap', hv, hc, hr⟩ := h
  obtain ⟨rfl, rfl, rfl⟩ : A = A' ∧ n = xs.length ∧ cap = cap' := by simpa using hv
  by_cases h0 : k < xs.length
  · obtain ⟨b, off, rfl, hb, hcell⟩ := hr (by omega)
    rw [if_neg (by omega)]
    have := SL.drop (b := b) (off := off) (n := xs.length) (cap := cap) (k := k) (s := s) ⟨_, cap, rfl, hc, fun _ => ⟨b, off, rfl, hb, hcell⟩⟩ hs hk
    simpa [addr_add] using this
  · have e : xs.drop k = [] := List.drop_eq_nil_of_le (by omega)
    rw [e]
    have e2 : xs.length - k = 0 := by omega
    rw [e2]
    exact SL.empty _ _ _

/-- 'x[k:]', the value behind a letter -/
theorem slice_from_ex {P : Program} {α : Type} (enc : α → List Value) (t e : TypeId) (i : TypeInfo) (size : Nat) (ht : P.underlying t = some (.slice e)) (hi : P.info? e = some i) (hsz : i.size = size) (hs : ∀ x, (enc x).length = size) (A : Option Addr) (n cap k : Nat) (hk : k ≤ n) :
    ∃ S, (∀ w, (Instr.slice t (.slice A n cap) (some (.int .i64 (k : Int))) none none).run P w = .ok S w) ∧ (∀ w (xs : List α), SL enc w (.slice A n cap) xs → SL enc w S (xs.drop k)) ∧ (S.ownBlock = Value.ownBlock (.slice A n cap)) :=
  ⟨_, fun w => run_slice_from t e i size ht hi hsz A n cap k hk w, fun w xs h => h.from_ hs hk, by
    cases A with
    | none => simp [Value.ownBlock]
    | some a => by_cases h : cap = k <;> simp [Value.ownBlock, h, Addr.add] <;> split <;> rfl⟩

/-- only draws -/
def Dr (w w' : World) : Prop := ∃ n, w' = w.drewN n
theorem Dr.refl (w : World) : Dr w w := ⟨0, rfl⟩
theorem Dr.drewN {w w' : World} (h : Dr w w') (n : Nat) : Dr w (w'.drewN n) := by obtain ⟨m, rfl⟩ := h; exact ⟨m + n, World.drewN_drewN ..⟩
theorem Dr.drew {w w' : World} (h : Dr w w') : Dr w w'.drew := h.drewN 1
theorem Dr.gr {w w' : World} (h : Dr w w') : Gr w w' := by obtain ⟨m, rfl⟩ := h; exact (Fr.refl w _).drewN m
theorem Dr.trans {a b c : World} (h : Dr a b) (k : Dr b c) : Dr a c := by obtain ⟨m, rfl⟩ := k; exact h.drewN m
end Go.Proofs.Ytlodbhlidgepfaa

namespace Go.Proofs.Ytlodbhlidgepfaa
open Go.RowKit

/-- every cell of v's block, the spare ones too, is a T -/
def SpareT (T : Value → Prop) (w : World) (v : Value) : Prop := ∀ g cs t fr, v.ownBlock = some g → w.heap[g]? = some (.cells cs t fr) → ∀ u ∈ cs.toList, T u
theorem SpareT.nil (T : Value → Prop) (w : World) : SpareT T w (.slice none 0 0) := fun g cs t fr h => by simp [Value.ownBlock] at h
theorem SpareT.fr {T : Value → Prop} {w w' : World} {v : Value} {S : Nat → Prop} (h : SpareT T w v) (hf : Fr w w' S) (hn : ∀ k, v.ownBlock = some k → k < w.heap.size ∧ ¬ S k) : SpareT T w' v :=
  fun g cs t fr hg hc => by
    obtain ⟨h1, h2⟩ := hn g hg
    exact h g cs t fr hg (by rw [← hf.block g h1 h2]; exact hc)
theorem SpareT.own {T : Value → Prop} {w w' : World} {v : Value} {S : Nat → Prop} {b s n : Nat} {e : TypeId} {xs : List Value} (h : SpareT T w v) (ho : w.ownsRow b e s v n xs) (hf : Fr w w' S) (hn : ∀ k, v.ownBlock = some k → ¬ S k) : SpareT T w' v :=
  h.fr hf (fun k hk => ⟨(ho.lt k hk).2, hn k hk⟩)
theorem mem_zeroCells {z : Array Value} {n : Nat} {u : Value} (h : u ∈ (Builtin.zeroCells z n).toList) : u ∈ z.toList := by
  unfold Builtin.zeroCells at h
  rw [Array.mem_toList_iff, Array.mem_map] at h
  obtain ⟨k, hk, rfl⟩ := h
  rw [Array.mem_range] at hk
  have hz : 0 < z.size := by
    rcases Nat.eq_zero_or_pos z.size with h0 | h0
    · rw [h0] at hk; omega
    · exact h0
  have hlt := Nat.mod_lt k hz
  rw [getElem!_pos z _ hlt]
  exact Array.mem_toList_iff.2 (Array.getElem_mem hlt)

section
variable {P : Program} (w : World)
theorem append_spare {α : Type} (enc : α → List Value) (base : Nat) (t ty e : TypeId) (i : TypeInfo) (z : Value) (size bytes : Nat) (ht : P.underlying t = some (.slice e)) (hi : P.info? e = some i) (hz : i.zero = some z)
    (hsize : i.size = size) (hby : i.bytes = bytes) (hzs : z.cells.size = size) (hsz : 0 < size)
    (v : Value) (n : Nat) (xs : List Value) (hown : w.ownsRow base e size v n xs)
    (sv : Value) (news : List α) (hs : SL enc w sv news) (henc : ∀ x, (enc x).length = size) (h1 : ∀ x, ∀ u ∈ enc x, u.oneCell' = true)
    (h63 : n + news.length ≤ maxLen) (hbytes : (n + news.length) * bytes ≤ 140737488355328) :
    ∃ v' w', (Builtin.append_ #[t, t] ty #[v, sv]).run P w = .ok v' w' ∧ ∀ T : Value → Prop, (∀ u ∈ z.cells.toList, T u) → (∀ u ∈ news.flatMap enc, T u) → SpareT T w v → SpareT T w' v' := by
  obtain ⟨A, cap, rfl, hc, hr⟩ := hs
  have hnl : (news.flatMap enc).length = news.length * size := len_flatMap enc size henc news
  have hsmall : n + news.length ≤ 9223372036854775807 := by simp only [maxLen] at h63; omega
  cases A with
  | none =>
    have hn : news = [] := by
      cases news with
      | nil => rfl
      | cons x r => obtain ⟨b, off, h, _⟩ := hr (by simp); cases h
    subst hn
    refine ⟨v, w, ?_, fun T _ _ h => h⟩
    rcases hown.2 with ⟨rfl, rfl⟩ | ⟨g, cap', cur, rfl, _, _, hnc, _⟩
    · simp [Builtin.append_, run_underlying ht, sizeOf, typeInfo, hi, Builtin.lenOf, Builtin.firstCells]
    · simp [Builtin.append_, run_underlying ht, sizeOf, typeInfo, hi, Builtin.lenOf, Builtin.firstCells, hnc, storeCells]
  | some ad =>
    have hcells : ∀ j u, (news.flatMap enc)[j]? = some u → w.cell? (ad.add j) = some u := by
      intro j u hu
      have hl : 0 < news.length := by
        cases news with
        | nil => simp at hu
        | cons x r => simp
      obtain ⟨b, off, h, _, hcell⟩ := hr hl
      injection h with h
      subst h
      rw [addr_add]
      exact hcell j u hu
    have h1' : ∀ u ∈ news.flatMap enc, u.oneCell' = true := fun u hu => by obtain ⟨x, _, hx⟩ := List.mem_flatMap.1 hu; exact h1 x u hx
    generalize hL : news.flatMap enc = L at *
    generalize hm : news.length = m at *
    subst hsize
    subst hby
    have newblk : ∀ (T : Value → Prop) (cs : Array Value) (k : Nat), (∀ u ∈ cs.toList, T u) → (∀ u ∈ z.cells.toList, T u) → ∀ (ll cc : Nat),
        SpareT T (w.drew.alloc (.cells (cs ++ Builtin.zeroCells z.cells k) e)) (.slice (some ⟨w.heap.size, 0, none⟩) ll cc) := by
      intro T cs k h1 h2 ll cc g cs' t' fr hg hc u hu
      have : g = w.heap.size := by simpa [Value.ownBlock] using hg.symm
      subst this
      have e1 : (w.drew.alloc (.cells (cs ++ Builtin.zeroCells z.cells k) e)).heap[w.heap.size]? = some (.cells (cs ++ Builtin.zeroCells z.cells k) e) := heap_alloc_new w.drew _
      rw [e1] at hc
      injection hc with hc
      injection hc with hc _ _
      subst hc
      rw [Array.toList_append, List.mem_append] at hu
      rcases hu with hu | hu
      · exact h1 u hu
      · exact h2 u (mem_zeroCells hu)
    rcases hown.2 with ⟨rfl, rfl⟩ | ⟨g, cp, cur, rfl, hbg, hg, hnc, hcm, hcs, htake⟩
    · by_cases hm0 : m = 0
      · subst hm0
        have hLn : L = [] := List.eq_nil_of_length_eq_zero (by rw [hnl]; simp)
        refine ⟨.slice none 0 0, w, ?_, fun T _ _ h => h⟩
        simp [Builtin.append_, run_underlying ht, sizeOf, typeInfo, hi, Builtin.lenOf, Builtin.firstCells, loadCells, loadCellsFrom]
      · have hr' := run_append_nil (P := P) w t ty e i z ht hi hz ad m cap L hnl hcells (by omega) (by omega) (by have hb := hbytes; simp only [Nat.zero_add] at hb; omega)
        exact ⟨_, _, hr', fun T h2 h3 _ => newblk T L.toArray _ (by simpa using h3) h2 _ _⟩
    · have hlen : L.length = m * i.size := hnl
      by_cases hroom : n + m ≤ cp
      · have hfit : n * i.size + L.length ≤ cur.size := by rw [hlen, hcs, ← Nat.add_mul]; exact Nat.mul_le_mul_right _ hroom
        have hr' := run_append_room (P := P) w t ty e i ht hi g n cp cur hg ad m cap L hlen hcells h1' hroom hfit
        refine ⟨_, _, hr', fun T h2 h3 h4 g' cs' t' fr hg' hc' u hu => ?_⟩
        have : g' = g := by simpa [Value.ownBlock] using hg'.symm
        subst this
        have e1 := setRow_heap w g' cur ((cur.toList.take (n * i.size) ++ L ++ cur.toList.drop (n * i.size + L.length)).toArray) e (0, 0) hg
        rw [e1] at hc'
        injection hc' with hc'
        injection hc' with hc' _ _
        subst hc'
        have hold : ∀ u ∈ cur.toList, T u := h4 g' cur e (0, 0) rfl hg
        simp only [List.mem_append] at hu
        rcases hu with (hu | hu) | hu
        · exact hold u (List.mem_of_mem_take hu)
        · exact h3 u hu
        · exact hold u (List.mem_of_mem_drop hu)
      · have holds : ∀ j u, xs[j]? = some u → w.cell? ((⟨g, 0, none⟩ : Addr).add j) = some u := hown.cells (g := g) rfl
        have hr' := run_append_grow (P := P) w t ty e i z ht hi hz ⟨g, 0, none⟩ n cp xs hown.1 holds ad m cap L hlen hcells (by omega) (by omega) (growslice_fits (by omega) hbytes)
        refine ⟨_, _, hr', fun T h2 h3 h4 => newblk T (xs.toArray ++ L.toArray) _ (fun u hu => ?_) h2 _ _⟩
        simp only [Array.toList_append, List.mem_append] at hu
        rcases hu with hu | hu
        · refine h4 g cur e (0, 0) rfl hg u ?_
          rw [← htake] at hu
          exact List.mem_of_mem_take hu
        · exact h3 u hu

theorem wp_append_st {α : Type} (enc : α → List Value) {o : Oper} {a : Act} {K : Act → World → Prop} {Q : Exit → Act → World → Prop} (s x : Operand) (t : TypeId)
    (ho : o.op = .call { callee := .builtin .append, args := #[s, x], argTypes := #[t, t] })
    (base : Nat) (e : TypeId) (i : TypeInfo) (z : Value) (size bytes : Nat) (ht : P.underlying t = some (.slice e)) (hi : P.info? e = some i) (hz : i.zero = some z)
    (hsize : i.size = size) (hby : i.bytes = bytes) (hzs : z.cells.size = size) (hsz : 0 < size)
    (v : Value) (n : Nat) (xs : List Value) (hsv : a.eval s = v) (hown : w.ownsRow base e size v n xs)
    (sv : Value) (news : List α) (hxv : a.eval x = sv) (hs : SL enc w sv news) (henc : ∀ x, (enc x).length = size) (h1 : ∀ x, ∀ u ∈ enc x, u.oneCell' = true)
    (h63 : n + news.length ≤ maxLen) (hbytes : (n + news.length) * bytes ≤ 140737488355328) (hbase : base ≤ w.heap.size)
    (h : ∀ v' w', w'.ownsRow base e size v' (n + news.length) (xs ++ news.flatMap enc) → Fr w w' (fun k => v.ownBlock = some k) → (v'.ownBlock = v.ownBlock ∨ v'.ownBlock = some w.heap.size) →
      (∀ T : Value → Prop, (∀ u ∈ z.cells.toList, T u) → (∀ u ∈ news.flatMap enc, T u) → SpareT T w v → SpareT T w' v') → K (a.put o.dst v') w') : o.wp P a w K Q := by
  obtain ⟨v', w', hrun, h2, h3, h4⟩ := run_append_sl (P := P) w enc base t o.type e i z size bytes ht hi hz hsize hby hzs hsz v n xs hown sv news hs henc h1 h63 hbytes hbase
  obtain ⟨v2, w2, hrun2, h5⟩ := append_spare (P := P) w enc base t o.type e i z size bytes ht hi hz hsize hby hzs hsz v n xs hown sv news hs henc h1 h63 hbytes
  rw [hrun] at hrun2
  injection hrun2 with e1 e2
  subst e1
  subst e2
  unfold Oper.wp execOp
  simp only [ho, resolve, invoke, builtin, Sem.run_bind, Sem.run_pure, Result.andThen_ok, List.map_toArray, List.map_cons, List.map_nil, hsv, hxv, hrun]
  exact h v' w' h2 h3 h4 h5

theorem wpList_append_st {α : Type} (enc : α → List Value) {ops : Array Oper} {rest : List Oper} {o : Oper} {a : Act} {Q : Exit → Act → World → Prop} (hgd : o.guard = none) (s x : Operand) (t : TypeId)
    (ho : o.op = .call { callee := .builtin .append, args := #[s, x], argTypes := #[t, t] })
    (base : Nat) (e : TypeId) (i : TypeInfo) (z : Value) (size bytes : Nat) (ht : P.underlying t = some (.slice e)) (hi : P.info? e = some i) (hz : i.zero = some z)
    (hsize : i.size = size) (hby : i.bytes = bytes) (hzs : z.cells.size = size) (hsz : 0 < size)
    (v : Value) (n : Nat) (xs : List Value) (hsv : a.eval s = v) (hown : w.ownsRow base e size v n xs)
    (sv : Value) (news : List α) (hxv : a.eval x = sv) (hs : SL enc w sv news) (henc : ∀ x, (enc x).length = size) (h1 : ∀ x, ∀ u ∈ enc x, u.oneCell' = true)
    (h63 : n + news.length ≤ maxLen) (hbytes : (n + news.length) * bytes ≤ 140737488355328) (hbase : base ≤ w.heap.size)
    (h : ∀ v' w', w'.ownsRow base e size v' (n + news.length) (xs ++ news.flatMap enc) → Fr w w' (fun k => v.ownBlock = some k) → (v'.ownBlock = v.ownBlock ∨ v'.ownBlock = some w.heap.size) →
      (∀ T : Value → Prop, (∀ u ∈ z.cells.toList, T u) → (∀ u ∈ news.flatMap enc, T u) → SpareT T w v → SpareT T w' v') → wpList P ops Q rest (a.put o.dst v') w') :
    wpList P ops Q (o :: rest) a w :=
  wpList_plain hgd fun _ hK => wp_append_st w enc s x t ho base e i z size bytes ht hi hz hsize hby hzs hsz v n xs hsv hown sv news hxv hs henc h1 h63 hbytes hbase fun v' w' h2 h3 h4 h5 => hK _ _ (h v' w' h2 h3 h4 h5)
end

/-- a new block of one element reads as a slice -/
theorem sl_one {α : Type} {enc : α → List Value} (w : World) (x : α) (cs : Array Value) (hcs : cs.toList = enc x) (t : TypeId) : SL enc (w.alloc (.cells cs t)) (.slice (some ⟨w.heap.size, 0, none⟩) 1 1) [x] := by
  refine ⟨_, 1, rfl, by simp, fun _ => ⟨w.heap.size, 0, rfl, by simp, fun i u hu => ?_⟩⟩
  rw [Nat.zero_add, World.cell?_alloc_new, ← Array.getElem?_toList, hcs]
  simpa using hu
end Go.Proofs.Ytlodbhlidgepfaa
