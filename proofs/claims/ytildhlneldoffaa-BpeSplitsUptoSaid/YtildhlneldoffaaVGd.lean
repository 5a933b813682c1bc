/- vocab: what a right Vocab holds, in plain Lean. -/
import Derived.Test.YtildhlneldoffaaVPe
set_option linter.unusedVariables false
set_option linter.unusedSimpArgs false
namespace Go.Proofs.Ytildhlneldoffaa
open Go.RowKit
namespace Voc
theorem nodup_len : ∀ (n : Nat) (l : List Nat), l.Nodup → (∀ x ∈ l, x < n) → l.length ≤ n
  | 0, l, _, h => by
    cases l with
    | nil => simp
    | cons x r => exact absurd (h x (by simp)) (by omega)
  | n + 1, l, hn, h => by
    have h1 := nodup_len n (l.erase n) (hn.erase n) (fun x hx => by
      have h2 := (List.Nodup.mem_erase_iff hn).1 hx
      have h3 := h x h2.2
      have h4 := h2.1
      omega)
    rw [List.length_erase] at h1
    split at h1 <;> omega
structure Inv (ps : List Pc) : Prop where
  form : ∀ q ∈ ps, (q.j = false → q.l = 0 ∧ q.r = 0 ∧ q.k = 0) ∧ (q.j = true → q.b = 0)
  one : ∀ (i j : Nat) (p q : Pc), i < j → ps[i]? = some p → ps[j]? = some q → p.j = q.j → (q.j = false → p.b ≠ q.b) ∧ (q.j = true → ¬ (p.l = q.l ∧ p.r = q.r) ∧ p.k ≠ q.k)
theorem Inv.nil : Inv [] := ⟨fun q h => (by cases h), fun i j p q _ h => by simp at h⟩
theorem Inv.snoc {ps : List Pc} {sz : List Nat} {q : Pc} (H : Inv ps) (h : stepE ps sz q = 0) : Inv (ps ++ [q]) := by
  have hq : (q.j = false → (q.l = 0 ∧ q.r = 0 ∧ q.k = 0) ∧ ps.any (sameB q) = false) ∧ (q.j = true → q.b = 0 ∧ ps.any (sameP q) = false ∧ ps.any (sameK q) = false) := by
    unfold stepE at h
    refine ⟨fun hj => ?_, fun hj => ?_⟩
    · rw [if_pos hj] at h
      split at h
      · cases h
      · rename_i h1
        split at h
        · cases h
        · rename_i h2
          exact ⟨by simpa using h1, by simpa using h2⟩
    · rw [if_neg (by simp [hj])] at h
      split at h
      · cases h
      · rename_i h1
        split at h
        · cases h
        · split at h
          · cases h
          · split at h
            · cases h
            · rename_i h2
              rw [Bool.or_eq_true, not_or] at h2
              exact ⟨by simpa using h1, by simpa using h2.1, by simpa using h2.2⟩
  refine ⟨fun x hx => ?_, fun i j p x hij hi hj he => ?_⟩
  · rcases List.mem_append.1 hx with h' | h'
    · exact H.form x h'
    · simp at h'
      subst h'
      exact ⟨fun h => (hq.1 h).1, fun h => (hq.2 h).1⟩
  · rcases Nat.lt_or_ge j ps.length with hlt | hge
    · rw [List.getElem?_append_left (by omega)] at hi
      rw [List.getElem?_append_left hlt] at hj
      exact H.one i j p x hij hi hj he
    · have hj' : j = ps.length := by
        have := (List.getElem?_eq_some_iff.1 hj).1
        simp at this
        omega
      subst hj'
      rw [List.getElem?_append_right (Nat.le_refl _), Nat.sub_self] at hj
      simp at hj
      subst hj
      rw [List.getElem?_append_left hij] at hi
      have hm := List.mem_of_getElem? hi
      refine ⟨fun h0 e => ?_, fun h1 => ⟨fun e => ?_, fun e => ?_⟩⟩
      · have := List.any_eq_false.1 (hq.1 h0).2 p hm
        simp [sameB, he, h0, e] at this
      · have := List.any_eq_false.1 (hq.2 h1).2.1 p hm
        simp [sameP, he, h1, e] at this
      · have := List.any_eq_false.1 (hq.2 h1).2.2 p hm
        simp [sameK, he, h1, e] at this
theorem Inv.all : ∀ (r ps : List Pc) (sz : List Nat), Inv ps → badF ps sz r = none → Inv (ps ++ r)
  | [], ps, sz, h, _ => by rw [List.append_nil]; exact h
  | q :: r, ps, sz, h, hb => by
    simp only [badF] at hb
    split at hb
    · rename_i h0
      have := Inv.all r _ _ (h.snoc h0) hb
      rw [List.append_assoc] at this
      exact this
    · cases hb
theorem szF_le : ∀ (r ps : List Pc) (sz : List Nat), (∀ s ∈ sz, s ≤ 256) → badF ps sz r = none → ∀ s ∈ szF sz r, s ≤ 256
  | [], ps, sz, h, _ => h
  | q :: r, ps, sz, h, hb => by
    simp only [badF] at hb
    split at hb
    · rename_i h0
      refine szF_le r _ _ (fun s hs => ?_) hb
      rcases List.mem_append.1 hs with h' | h'
      · exact h s h'
      · simp at h'; subst h'; exact stepS_le h0
    · cases hb
/-- a right Vocab -/
structure Good (xs : List Pc) : Prop where
  len : xs.length ≤ 4096
  ok : Ok xs (szF [] xs)
  inv : Inv xs
  le : ∀ s ∈ szF [] xs, s ≤ 256
  many : 256 ≤ (be xs).length
theorem badF_ne : ∀ (r ps : List Pc) (sz : List Nat) (y : Int × Nat), badF ps sz r = some y → y.1 ≠ 0 := by
  intro r
  induction r with
  | nil => intro ps sz y h; cases h
  | cons q r ih =>
    intro ps sz y h
    simp only [badF] at h
    split at h
    · exact ih _ _ _ h
    · rename_i h0; injection h with h; subst h; exact h0
theorem good_of {xs : List Pc} (h : (checkE xs).1 = 0) : Good xs := by
  obtain ⟨⟨E, a⟩, he⟩ : ∃ y, checkE xs = y := ⟨_, rfl⟩
  rw [he] at h
  simp only at h
  subst h
  obtain ⟨h4, hok⟩ := ok_of_check he
  unfold checkE at he
  rw [if_neg (by omega)] at he
  cases hb : badF [] [] xs with
  | some x => rw [hb] at he; simp only at he; exact absurd (by rw [he]) (badF_ne _ _ _ _ hb)
  | none =>
    rw [hb] at he
    simp only at he
    split at he
    · cases he
    · rename_i hm
      exact ⟨h4, hok, Inv.all xs [] [] Inv.nil hb, szF_le _ _ _ (fun s h => by cases h) hb, by omega⟩
/-- the byte values -/
def bl (xs : List Pc) : List Nat := (xs.filter fun q => !q.j).map fun q => q.b.toNat
theorem bl_len (ps : List Pc) : (be ps).length = (bl ps).length := by
  have h : ∀ (ps : List Pc) (n : Nat), ((ps.zipIdx n).filterMap fun x => if x.1.j then none else some ((.int .u8 x.1.b, .int .i64 (x.2 : Nat)) : Value × Value)).length = (bl ps).length := by
    intro ps
    induction ps with
    | nil => intro n; rfl
    | cons q ps ih =>
      intro n
      have h := ih (n + 1)
      unfold bl at h ⊢
      rw [List.zipIdx_cons, List.filterMap_cons, List.filter_cons]
      cases hj : q.j <;> simp [hj] at h ⊢ <;> exact h
  exact h ps 0
theorem u8_in {x : Int} (h : (Lit.int .u8 x).wf = true) : 0 ≤ x ∧ x < 256 := by
  simp [Lit.wf, IntKind.min, IntKind.max, IntKind.signed, IntKind.bits] at h
  omega
theorem bl_nodup {xs : List Pc} (H : Inv xs) (hw : ∀ q ∈ xs, wfP q) : (bl xs).Nodup := by
  unfold bl
  rw [List.Nodup, List.pairwise_map]
  have h1 : xs.Pairwise (fun p q => p.j = false → q.j = false → p.b.toNat ≠ q.b.toNat) := by
    rw [List.pairwise_iff_getElem]
    intro i j hi hj hij h1 h2 he
    have h := (H.one i j _ _ hij (List.getElem?_eq_getElem hi) (List.getElem?_eq_getElem hj) (h1.trans h2.symm)).1 h2
    have a := u8_in (hw _ (List.getElem_mem hi)).1
    have b := u8_in (hw _ (List.getElem_mem hj)).1
    omega
  refine List.Pairwise.imp_of_mem (R := fun p q => p.j = false → q.j = false → p.b.toNat ≠ q.b.toNat) ?_ (h1.sublist List.filter_sublist)
  intro p q hp hq h
  exact h (by simpa using (List.mem_filter.1 hp).2) (by simpa using (List.mem_filter.1 hq).2)
theorem Good.byte {xs : List Pc} (H : Good xs) (hw : ∀ q ∈ xs, wfP q) (c : Int) (h0 : 0 ≤ c) (h1 : c < 256) : ∃ (i : Nat) (q : Pc), xs[i]? = some q ∧ q.j = false ∧ q.b = c := by
  have hn := bl_nodup H.inv hw
  have hl := H.many
  rw [bl_len] at hl
  have hm : c.toNat ∈ bl xs := by
    apply Decidable.byContradiction
    intro hm
    have := nodup_len 256 (c.toNat :: bl xs) (List.nodup_cons.2 ⟨hm, hn⟩) (fun x hx => by
      rcases List.mem_cons.1 hx with e | e
      · omega
      · unfold bl at e
        obtain ⟨q, hq, rfl⟩ := List.mem_map.1 e
        have a := u8_in (hw q (List.mem_filter.1 hq).1).1
        omega)
    rw [List.length_cons] at this
    omega
  unfold bl at hm
  obtain ⟨q, hq, he⟩ := List.mem_map.1 hm
  obtain ⟨hq1, hq2⟩ := List.mem_filter.1 hq
  obtain ⟨i, hi⟩ := List.getElem?_of_mem hq1
  have a := u8_in (hw q hq1).1
  exact ⟨i, q, hi, by simpa using hq2, by omega⟩
end Voc
end Go.Proofs.Ytildhlneldoffaa
