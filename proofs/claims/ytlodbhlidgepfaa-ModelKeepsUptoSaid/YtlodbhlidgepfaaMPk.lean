/- model: what Do keeps, in plain Lean. -/
import Derived.Test.YtlodbhlidgepfaaMPl
set_option linter.unusedVariables false
set_option linter.unusedSimpArgs false
namespace Go.Proofs.Ytlodbhlidgepfaa
open Go.RowKit
open Voc Leb Crc Bpe
namespace Mod
theorem ok_iff {nx : Int} {ds : List Dc} : okTo nx ds ds.length ↔ (∀ d ∈ ds, 1 ≤ d.id ∧ d.id < nx ∧ d.b.length ≤ 4096) ∧ ds.Pairwise (fun a b => a.id < b.id) := by
  constructor
  · intro h
    refine ⟨fun d hd => ?_, ?_⟩
    · obtain ⟨i, hi, rfl⟩ := List.getElem_of_mem hd
      have := ok_parts (h i hi)
      rw [getD_get _ _ _ hi] at this
      exact ⟨this.1, this.2.1, this.2.2.2⟩
    · rw [List.pairwise_iff_getElem]
      intro i j hi hj hij
      have := rising h i j hij hj
      rw [getD_get _ _ _ hi, getD_get _ _ _ hj] at this
      exact this
  · intro ⟨h1, h2⟩ i hi
    refine ok_of ?_
    have := h1 _ (List.getElem_mem hi)
    rw [getD_get _ _ _ hi]
    refine ⟨this.1, this.2.1, ?_, this.2.2⟩
    rcases Nat.eq_zero_or_pos i with h0 | h0
    · exact Or.inl h0
    · refine Or.inr ?_
      rw [getD_get _ _ _ (by omega : i - 1 < ds.length)]
      exact (List.pairwise_iff_getElem.1 h2) (i - 1) i (by omega) hi (by omega)
theorem ing_may {s : St} {b : List Int} (h : mayB s = true) : mayB (ingE s b).1 = true := by
  unfold ingE
  split
  · exact h
  · rename_i h4
    split
    · exact h
    · rename_i h5
      obtain ⟨h1, h2, h3⟩ := may_parts h
      obtain ⟨h6, h7⟩ := ok_iff.1 h2
      refine may_of (by simp only; omega) (ok_iff.2 ⟨fun d hd => ?_, ?_⟩) h3
      · rcases List.mem_append.1 hd with hd | hd
        · have := h6 d hd; simp only; omega
        · simp at hd; subst hd; simp only; omega
      · refine List.pairwise_append.2 ⟨h7, List.pairwise_singleton _ _, fun a ha c hc => ?_⟩
        simp at hc; subst hc
        exact (h6 a ha).2.1
theorem mig_may {s : St} {b : List Int} (hb : Leb.Bs b) (h : mayB s = true) : mayB (migE s b).1 = true := by
  unfold migE
  split
  · exact h
  · rename_i hr
    obtain ⟨h1, h2, h3⟩ := may_parts h
    exact may_of h1 h2 (read_file hb (by simpa using hr)).1
theorem del_may {s : St} {K : Nat} (h : mayB s = true) : mayB ⟨s.docs.eraseIdx K, s.next, s.voc⟩ = true := by
  obtain ⟨h1, h2, h3⟩ := may_parts h
  obtain ⟨h6, h7⟩ := ok_iff.1 h2
  exact may_of h1 (ok_iff.2 ⟨fun d hd => h6 d (List.mem_of_mem_eraseIdx hd), h7.sublist (List.eraseIdx_sublist _ _)⟩) h3
theorem do_may {s : St} {d : Dd} (hb : Leb.Bs d.b) (h : mayB s = true) : mayB (doE s d).1 = true := by
  unfold doE
  repeat' split
  all_goals first
    | exact h
    | exact ing_may h
    | exact mig_may hb h
    | exact del_may h
theorem do_next (s : St) (d : Dd) : s.next ≤ (doE s d).1.next := by
  unfold doE ingE migE
  repeat' split
  all_goals first | exact Int.le_refl _ | (simp only; omega)
theorem do_still {s : St} {d : Dd} (h : (decide (d.k = 1 ∨ d.k = 2 ∨ d.k = 7 ∨ d.k = 9) && dmayE d) = false) : (doE s d).1 = s := by
  unfold doE
  split
  · rfl
  · rename_i h0
    have hd : dmayE d = true := by
      cases hd : dmayE d with
      | true => rfl
      | false => exact absurd (Or.inr hd) h0
    rw [hd, Bool.and_true] at h
    have hk := of_decide_eq_false h
    rw [if_neg (by omega)]
    split
    · rfl
    · rw [if_neg (by omega), if_neg (by omega)]
      repeat' split
      all_goals rfl
theorem ing_err {s : St} {b : List Int} (h : (ingE s b).2.e ≠ 0) : (ingE s b).1 = s := by
  by_cases h4 : 4096 < b.length
  · simp [ingE, h4]
  · by_cases h5 : 4294967295 < s.next
    · simp [ingE, h4, h5]
    · exact absurd (by simp [ingE, h4, h5, an0]) h
theorem mig_err {s : St} {b : List Int} (h : (migE s b).2.e ≠ 0) : (migE s b).1 = s := by
  by_cases h4 : (Vf.readE b).2.2 = 0
  · exact absurd (by simp [migE, h4, an0]) h
  · simp [migE, h4]
theorem do_err {s : St} {d : Dd} (h : (doE s d).2.e ≠ 0) : (doE s d).1 = s := by
  unfold doE at h ⊢
  by_cases h0 : mayB s = false ∨ dmayE d = false
  · rw [if_pos h0]
  rw [if_neg h0] at h ⊢
  by_cases k1 : d.k = 1
  · rw [if_pos k1] at h ⊢; exact ing_err h
  rw [if_neg k1] at h ⊢
  by_cases c : (d.k = 2 ∨ d.k = 3 ∨ d.k = 4) ∧ hasE s.docs d.id = false
  · rw [if_pos c]
  rw [if_neg c] at h ⊢
  by_cases k9 : d.k = 9
  · rw [if_pos k9] at h ⊢; exact mig_err h
  rw [if_neg k9] at h ⊢
  by_cases k2 : d.k = 2
  · rw [if_pos k2] at h; exact absurd rfl h
  rw [if_neg k2]
  repeat' split
  all_goals rfl
/-- by an Id, where Ids rise -/
theorem erase_filter {ds : List Dc} {id : Int} (hp : ds.Pairwise (fun a b => a.id < b.id)) : ∀ {k : Nat} (hk : k < ds.length), ds[k].id = id → ds.eraseIdx k = ds.filter (fun d => decide (d.id ≠ id)) := by
  induction ds with
  | nil => intro k hk; exact absurd hk (by simp)
  | cons x r ih =>
    intro k hk he
    obtain ⟨h1, h2⟩ := List.pairwise_cons.1 hp
    cases k with
    | zero =>
      simp at he
      rw [List.eraseIdx_cons_zero, List.filter_cons, if_neg (by simp [he])]
      symm
      rw [List.filter_eq_self]
      intro d hd
      have := h1 d hd
      exact decide_eq_true (by omega)
    | succ k =>
      have hk' : k < r.length := by simpa using hk
      have he' : r[k].id = id := by simpa using he
      have := h1 r[k] (List.getElem_mem hk')
      rw [List.eraseIdx_cons_succ, List.filter_cons, if_pos (decide_eq_true (by omega)), ih h2 hk' he']
theorem do_ing {s : St} {d : Dd} (hk : d.k = 1) (h : (doE s d).2.e = 0) : (doE s d).1.docs = s.docs ++ [⟨(doE s d).2.id, d.b⟩] ∧ (doE s d).2.id = (doE s d).1.next - 1 := by
  unfold doE at h ⊢
  by_cases h0 : mayB s = false ∨ dmayE d = false
  · rw [if_pos h0] at h; cases h
  rw [if_neg h0, if_pos hk] at h ⊢
  by_cases h4 : 4096 < d.b.length
  · simp [ingE, h4] at h
  · by_cases h5 : 4294967295 < s.next
    · simp [ingE, h4, h5] at h
    · simp [ingE, h4, h5]
theorem do_del {s : St} {d : Dd} (hm : mayB s = true) (hk : d.k = 2) (h : (doE s d).2.e = 0) : (doE s d).1.docs = s.docs.filter (fun x => decide (x.id ≠ d.id)) := by
  have hp := (ok_iff.1 (may_parts hm).2.1).2
  unfold doE at h ⊢
  by_cases h0 : mayB s = false ∨ dmayE d = false
  · rw [if_pos h0] at h; cases h
  rw [if_neg h0, if_neg (by omega)] at h ⊢
  cases hh : hasE s.docs d.id with
  | false => rw [if_pos ⟨by omega, hh⟩] at h; cases h
  | true =>
    rw [if_neg (by simp), if_neg (by omega), if_pos hk]
    obtain ⟨h1, h2⟩ := has_lt hh
    rw [getD_get _ _ _ h1] at h2
    exact erase_filter hp h1 h2
theorem do_other {s : St} {d : Dd} (h1 : ¬ (d.k = 1 ∧ (doE s d).2.e = 0)) (h2 : ¬ (d.k = 2 ∧ (doE s d).2.e = 0)) : (doE s d).1.docs = s.docs := by
  by_cases he : (doE s d).2.e = 0
  · have k1 : d.k ≠ 1 := fun h => h1 ⟨h, he⟩
    have k2 : d.k ≠ 2 := fun h => h2 ⟨h, he⟩
    unfold doE migE
    repeat' split
    all_goals first
      | rfl
      | (exfalso; omega)
  · rw [do_err he]
theorem at_id {ds : List Dc} (hp : ds.Pairwise (fun a b => a.id < b.id)) {i : Nat} (hi : i < ds.length) : atE ds ds[i].id = i := by
  refine at_of (Nat.le_of_lt hi) (fun j hj => ?_) (fun _ => ?_)
  · rw [getD_get _ _ _ (by omega)]
    exact (List.pairwise_iff_getElem.1 hp) j i (by omega) hi hj
  · rw [getD_get _ _ _ hi]; exact Int.le_refl _
theorem do_get {s : St} (hm : mayB s = true) {i : Nat} (hi : i < s.docs.length) : doE s ⟨3, s.docs[i].id, 0, []⟩ = (s, { an0 with b := s.docs[i].b }) := by
  have hp := (ok_iff.1 (may_parts hm).2.1).2
  have ha := at_id hp hi
  have hd : dmayE ⟨3, s.docs[i].id, 0, []⟩ = true := by simp [dmayE]
  have hh : hasE s.docs s.docs[i].id = true := has_yes (by rw [ha]; exact hi) (by rw [ha, getD_get _ _ _ hi])
  unfold doE
  rw [if_neg (by rw [hm, hd]; decide), if_neg (by show ¬ (3 : Int) = 1; decide), if_neg (by simp only; rw [hh]; simp), if_neg (by show ¬ (3 : Int) = 9; decide), if_neg (by show ¬ (3 : Int) = 2; decide), if_pos rfl]
  simp only
  rw [ha, getD_get _ _ _ hi]
end Mod
end Go.Proofs.Ytlodbhlidgepfaa
