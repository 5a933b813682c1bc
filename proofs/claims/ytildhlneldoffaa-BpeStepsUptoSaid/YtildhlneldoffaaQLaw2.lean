/- More on sorting: a stable sort is told by its classes. Plain lists. -/
import Derived.Test.YtildhlneldoffaaQLaw
set_option linter.unusedVariables false
set_option linter.unusedSimpArgs false
namespace Go.Proofs.Ytildhlneldoffaa
namespace QP
variable {α : Type} {lt : α → α → Bool}

def eqv (lt : α → α → Bool) (a b : α) : Bool := !lt a b && !lt b a
theorem eqv_iff (a b : α) : eqv lt a b = true ↔ lt a b = false ∧ lt b a = false := by simp [eqv]

theorem sorted_unique (hs : SWO lt) : ∀ (l1 l2 : List α), l1.Pairwise (fun a b => lt b a = false) → l2.Pairwise (fun a b => lt b a = false) →
    (∀ z, l1.filter (eqv lt z) = l2.filter (eqv lt z)) → l1 = l2
  | [], [], _, _, _ => rfl
  | [], b :: t2, _, _, h => by
    have := h b
    rw [List.filter_nil, List.filter_cons_of_pos (by rw [eqv_iff]; exact ⟨hs.irrefl b, hs.irrefl b⟩)] at this
    cases this
  | a :: t1, [], _, _, h => by
    have := h a
    rw [List.filter_nil, List.filter_cons_of_pos (by rw [eqv_iff]; exact ⟨hs.irrefl a, hs.irrefl a⟩)] at this
    cases this
  | a :: t1, b :: t2, h1, h2, h => by
    have ha : eqv lt a a = true := by rw [eqv_iff]; exact ⟨hs.irrefl a, hs.irrefl a⟩
    have hb : eqv lt b b = true := by rw [eqv_iff]; exact ⟨hs.irrefl b, hs.irrefl b⟩
    have hab : a = b := by
      cases e : eqv lt a b with
      | true =>
        have := h a
        rw [List.filter_cons_of_pos ha, List.filter_cons_of_pos e] at this
        injection this
      | false =>
        exfalso
        have m1 : a ∈ (b :: t2).filter (eqv lt a) := by rw [← h a]; exact List.mem_filter.2 ⟨List.mem_cons_self .., ha⟩
        have m2 : b ∈ (a :: t1).filter (eqv lt b) := by rw [h b]; exact List.mem_filter.2 ⟨List.mem_cons_self .., hb⟩
        have e1 : lt a b = false := by
          rcases List.mem_cons.1 (List.mem_filter.1 m1).1 with h' | h'
          · rw [h']; exact hs.irrefl b
          · exact (List.pairwise_cons.1 h2).1 a h'
        have e2 : lt b a = false := by
          rcases List.mem_cons.1 (List.mem_filter.1 m2).1 with h' | h'
          · rw [h']; exact hs.irrefl a
          · exact (List.pairwise_cons.1 h1).1 b h'
        rw [(eqv_iff (lt := lt) a b).2 ⟨e1, e2⟩] at e
        cases e
    subst hab
    rw [sorted_unique hs t1 t2 (List.pairwise_cons.1 h1).2 (List.pairwise_cons.1 h2).2 (fun z => by
      have := h z
      by_cases e : eqv lt z a = true
      · rw [List.filter_cons_of_pos e, List.filter_cons_of_pos e] at this
        injection this
      · rw [List.filter_cons_of_neg e, List.filter_cons_of_neg e] at this
        exact this)]

theorem drop_above (hs : SWO lt) (x : α) : ∀ (l : List α), l.Pairwise (fun a b => lt b a = false) → ∀ y ∈ l.dropWhile (fun y => !lt x y), lt x y = true
  | [], _, y, hy => by cases hy
  | a :: t, h, y, hy => by
    by_cases e : lt x a = true
    · rw [List.dropWhile_cons_of_neg (by simp [e])] at hy
      rcases List.mem_cons.1 hy with rfl | hy'
      · exact e
      · have h2 := (List.pairwise_cons.1 h).1 y hy'
        rcases hs.cotrans x y a e with h3 | h3
        · exact h3
        · rw [h2] at h3; cases h3
    · rw [List.dropWhile_cons_of_pos (by simp at e; simp [e])] at hy
      exact drop_above hs x t (List.pairwise_cons.1 h).2 y hy

theorem mem_takeWhile {p : α → Bool} : ∀ {l : List α} {y : α}, y ∈ l.takeWhile p → p y = true
  | a :: t, y, h => by
    by_cases e : p a = true
    · rw [List.takeWhile_cons_of_pos e] at h
      rcases List.mem_cons.1 h with rfl | h'
      · exact e
      · exact mem_takeWhile h'
    · rw [List.takeWhile_cons_of_neg e] at h
      cases h

theorem ins_sorted (hs : SWO lt) (l : List α) (x : α) (h : l.Pairwise (fun a b => lt b a = false)) : (ins lt l x).Pairwise (fun a b => lt b a = false) := by
  unfold ins
  have hl : l = l.takeWhile (fun y => !lt x y) ++ l.dropWhile (fun y => !lt x y) := List.takeWhile_append_dropWhile.symm
  have hp := h
  rw [hl, List.pairwise_append] at hp
  rw [List.pairwise_append]
  refine ⟨hp.1, List.pairwise_cons.2 ⟨fun y hy => hs.asymm _ _ (drop_above hs x l h y hy), hp.2.1⟩, fun y hy z hz => ?_⟩
  rcases List.mem_cons.1 hz with rfl | hz'
  · have := mem_takeWhile hy
    simpa using this
  · exact hp.2.2 y hy z hz'

theorem ins_filter (hs : SWO lt) (l : List α) (x z : α) (h : l.Pairwise (fun a b => lt b a = false)) : (ins lt l x).filter (eqv lt z) = (l ++ [x]).filter (eqv lt z) := by
  unfold ins
  have hl : l.filter (eqv lt z) = (l.takeWhile (fun y => !lt x y)).filter (eqv lt z) ++ (l.dropWhile (fun y => !lt x y)).filter (eqv lt z) := by rw [← List.filter_append, List.takeWhile_append_dropWhile]
  rw [List.filter_append, List.filter_append, hl]
  by_cases e : eqv lt z x = true
  · have e0 : (l.dropWhile (fun y => !lt x y)).filter (eqv lt z) = [] := by
      rw [List.filter_eq_nil_iff]
      intro y hy hzy
      have h1 := drop_above hs x l h y hy
      rw [eqv_iff] at e hzy
      rcases hs.cotrans x z y h1 with h2 | h2
      · rw [e.2] at h2; cases h2
      · rw [hzy.1] at h2; cases h2
    rw [List.filter_cons_of_pos e, e0]; simp [e]
  · rw [List.filter_cons_of_neg e]
    have : List.filter (eqv lt z) [x] = [] := by simp at e; simp [e]
    rw [this, List.append_nil]

theorem foldl_ins_sorted (hs : SWO lt) : ∀ (xs l : List α), l.Pairwise (fun a b => lt b a = false) → (xs.foldl (ins lt) l).Pairwise (fun a b => lt b a = false) ∧ ∀ z, (xs.foldl (ins lt) l).filter (eqv lt z) = (l ++ xs).filter (eqv lt z)
  | [], l, h => ⟨h, fun z => by simp⟩
  | x :: xs, l, h => by
    obtain ⟨h1, h2⟩ := foldl_ins_sorted hs xs (ins lt l x) (ins_sorted hs l x h)
    refine ⟨h1, fun z => ?_⟩
    rw [List.foldl_cons, h2 z, List.filter_append, ins_filter hs l x z h, ← List.filter_append]
    simp
theorem isort_sorted (hs : SWO lt) (xs : List α) : (isort lt xs).Pairwise (fun a b => lt b a = false) := (foldl_ins_sorted hs xs [] List.Pairwise.nil).1
theorem isort_filter (hs : SWO lt) (xs : List α) (z : α) : (isort lt xs).filter (eqv lt z) = xs.filter (eqv lt z) := (foldl_ins_sorted hs xs [] List.Pairwise.nil).2 z

/-- two lists that are sorted, and then sorted together -/
theorem isort_both (hs : SWO lt) (a b : List α) : isort lt (isort lt a ++ isort lt b) = isort lt (a ++ b) :=
  sorted_unique hs _ _ (isort_sorted hs _) (isort_sorted hs _) (fun z => by
    rw [isort_filter hs, isort_filter hs, List.filter_append, List.filter_append, isort_filter hs, isort_filter hs])

/-- the queue's own law: what is in it, in order -/
structure QInv (lt : α → α → Bool) (l : List (α × Nat)) (n : Nat) : Prop where
  heap : Heap lt l
  turns : ∀ e ∈ l, e.2 < n
  uniq : ∀ a b, a ∈ l → b ∈ l → a.2 = b.2 → a = b

theorem QInv.nil : QInv lt [] 0 := ⟨fun j hj => LE.out (by simp), fun e h => (by cases h), fun a b h => (by cases h)⟩
theorem QInv.push (hs : SWO lt) {l : List (α × Nat)} {n : Nat} (h : QInv lt l n) (x : α) : QInv lt (QP.push lt l (x, n)) (n + 1) := by
  have hm : ∀ e, e ∈ QP.push lt l (x, n) → e ∈ l ∨ e = (x, n) := fun e he => by
    have := (push_perm (lt := lt) l (x, n)).mem_iff.1 he
    simpa using this
  refine ⟨push_heap hs h.heap _, fun e he => ?_, fun a b ha hb hab => ?_⟩
  · rcases hm e he with h' | h'
    · have := h.turns e h'; omega
    · subst h'; simp
  · rcases hm a ha with h1 | h1 <;> rcases hm b hb with h2 | h2
    · exact h.uniq a b h1 h2 hab
    · have := h.turns a h1; subst h2; simp at hab; omega
    · have := h.turns b h2; subst h1; simp at hab; omega
    · rw [h1, h2]
theorem QInv.pop (hs : SWO lt) {l : List (α × Nat)} {n : Nat} (h : QInv lt l n) : QInv lt (QP.pop lt l) n := by
  have hm : ∀ e, e ∈ QP.pop lt l → e ∈ l := fun e he => by
    cases l with
    | nil => simp [QP.pop] at he
    | cons z r => exact List.mem_cons_of_mem _ ((pop_perm z r).mem_iff.1 he)
  exact ⟨pop_heap hs h.heap, fun e he => h.turns e (hm e he), fun a b ha hb => h.uniq a b (hm a ha) (hm b hb)⟩

theorem drain_push (hs : SWO lt) {l : List (α × Nat)} {n : Nat} (h : QInv lt l n) (x : α) : drain lt (push lt l (x, n)).length (push lt l (x, n)) = ins lt (drain lt l.length l) x := by
  have hp := h.push hs x
  rw [drain_map, drain_map, ← insE_map (lt := lt) (drainE lt l.length l) (x, n)]
  congr 1
  have p1 : (drainE lt l.length l).Perm l := drainE_perm _ _ (Nat.le_refl _)
  have p2 : (insE lt (drainE lt l.length l) (x, n)).Perm (l ++ [(x, n)]) := (insE_perm _ _).trans (p1.append_right _)
  have p3 : (drainE lt (push lt l (x, n)).length (push lt l (x, n))).Perm (l ++ [(x, n)]) := (drainE_perm _ _ (Nat.le_refl _)).trans (push_perm _ _)
  refine List.Perm.eq_of_pairwise (le := le lt) (fun a b ha hb h1 h2 => ?_) (drainE_sorted hs _ _ (Nat.le_refl _) hp.heap)
    (insE_sorted hs _ _ (drainE_sorted hs _ _ (Nat.le_refl _) h.heap) (fun y hy => h.turns y (p1.mem_iff.1 hy))) (p3.trans p2.symm)
  have q := push_perm (lt := lt) l (x, n)
  exact hp.uniq a b (q.mem_iff.2 (p3.mem_iff.1 ha)) (q.mem_iff.2 (p2.mem_iff.1 hb)) (le_antisymm_turn a b h1 h2)
theorem drain_pop (d : α) (l : List (α × Nat)) (h : l ≠ []) : drain lt l.length l = hd d l :: drain lt (pop lt l).length (pop lt l) := drain_succ lt d l h
theorem drain_length (l : List (α × Nat)) : (drain lt l.length l).length = l.length := length_drain lt _ _ (Nat.le_refl _)
end QP
end Go.Proofs.Ytildhlneldoffaa
