/- vocab: what pieces stand for, in plain Lean; rows of bytes and of numbers. -/
import Derived.Test.YtildhlneldoffaaVTe
set_option linter.unusedVariables false
set_option linter.unusedSimpArgs false
namespace Go.Proofs.Ytildhlneldoffaa
open Go.RowKit
namespace Voc
def encI (x : Int) : List Value := [.int .i64 x]
def encB (x : Int) : List Value := [.int .u8 x]
theorem encB_one : ∀ x : Int, ∀ u ∈ encB x, u.oneCell' = true := by intro x u hu; simp [encB] at hu; subst hu; rfl
theorem info_u8 : (Try.prog.info? 5).map (fun i => (i.zero, i.size, i.bytes)) = some (some (.int .u8 0), 1, 1) := by kernel_rfl
/-- the bytes that piece n stands for -/
def expB (xs : List Pc) : Nat → Int → List Int
  | 0, _ => []
  | f + 1, n => match xs[n.toNat]? with
    | none => []
    | some q => if q.j then expB xs f q.l ++ expB xs f q.r else [q.b]
/-- joins look back -/
def Back (xs : List Pc) : Prop := ∀ (i : Nat) (q : Pc), xs[i]? = some q → q.j = true → (0 ≤ q.l ∧ q.l < i) ∧ (0 ≤ q.r ∧ q.r < i)
def IsB (u : Value) : Prop := ∃ x : Int, u = .int .u8 x
theorem encB_isB (l : List Int) : ∀ u ∈ l.flatMap encB, IsB u := by
  intro u hu
  obtain ⟨x, _, hx⟩ := List.mem_flatMap.1 hu
  simp [encB] at hx
  exact ⟨_, hx⟩
/-- the size of piece n -/
def sizeE (xs : List Pc) (n : Int) : Int × Int := if (checkE xs).1 ≠ 0 then (0, 11) else if n < 0 ∨ (xs.length : Int) ≤ n then (0, 2) else ((szAt (szF [] xs) n : Nat), 0)
theorem expB_more {xs : List Pc} (hb : Back xs) : ∀ (f g n : Nat), n < f → n < g → expB xs f n = expB xs g n := by
  intro f
  induction f with
  | zero => intro g n h; omega
  | succ f ih =>
    intro g n h1 h2
    cases g with
    | zero => omega
    | succ g =>
      simp only [expB, Int.toNat_natCast]
      cases hq : xs[n]? with
      | none => rfl
      | some q =>
        simp only
        cases hj : q.j with
        | false => rfl
        | true =>
          obtain ⟨⟨a, b⟩, c, d⟩ := hb n q hq hj
          obtain ⟨i, hi⟩ : ∃ i : Nat, q.l = i := ⟨q.l.toNat, by omega⟩
          obtain ⟨j, hj'⟩ : ∃ j : Nat, q.r = j := ⟨q.r.toNat, by omega⟩
          simp only [if_true]
          rw [hi, hj', ih g i (by omega) (by omega), ih g j (by omega) (by omega)]

/-- the walk along the pieces, right so far -/
structure Ok (ps : List Pc) (sz : List Nat) : Prop where
  back : Back ps
  len : sz.length = ps.length
  size : ∀ i, i < ps.length → szAt sz (i : Int) = (expB ps (i + 1) i).length
theorem expB_app {ps : List Pc} (hb : Back ps) (q : Pc) : ∀ (f n : Nat), n < f → n < ps.length → expB (ps ++ [q]) f n = expB ps f n := by
  intro f
  induction f with
  | zero => intro n h; omega
  | succ f ih =>
    intro n h1 h2
    simp only [expB, Int.toNat_natCast]
    rw [List.getElem?_append_left h2]
    cases hq : ps[n]? with
    | none => rfl
    | some x =>
      simp only
      cases hj : x.j with
      | false => rfl
      | true =>
        obtain ⟨⟨a, b⟩, c, d⟩ := hb n x hq hj
        obtain ⟨i, hi⟩ : ∃ i : Nat, x.l = i := ⟨x.l.toNat, by omega⟩
        obtain ⟨j, hj'⟩ : ∃ j : Nat, x.r = j := ⟨x.r.toNat, by omega⟩
        simp only [if_true]
        rw [hi, hj', ih i (by omega) (by omega), ih j (by omega) (by omega)]
theorem Ok.nil : Ok [] [] := ⟨fun i q h => by simp at h, rfl, fun i h => by simp at h⟩
theorem Ok.snoc {ps : List Pc} {sz : List Nat} (h : Ok ps sz) {q : Pc} (h0 : stepE ps sz q = 0) : Ok (ps ++ [q]) (sz ++ [stepS sz q]) := by
  have hq : q.j = true → (0 ≤ q.l ∧ q.l < ps.length) ∧ (0 ≤ q.r ∧ q.r < ps.length) := by
    intro hj
    unfold stepE at h0
    rw [if_neg (by simp [hj])] at h0
    split at h0
    · omega
    · split at h0
      · omega
      · omega
  have hbk : Back (ps ++ [q]) := by
    intro i x hx hj
    rcases Nat.lt_trichotomy i ps.length with hi | hi | hi
    · rw [List.getElem?_append_left hi] at hx
      exact h.back i x hx hj
    · subst hi
      rw [List.getElem?_append_right (Nat.le_refl _), Nat.sub_self] at hx
      simp at hx
      subst hx
      exact hq hj
    · rw [List.getElem?_eq_none (by simp; omega)] at hx; cases hx
  refine ⟨hbk, by simp [h.len], fun i hi => ?_⟩
  rw [List.length_append, List.length_singleton] at hi
  rcases Nat.lt_or_ge i ps.length with hlt | hge
  · rw [expB_app h.back q _ _ (by omega) hlt, ← h.size i hlt]
    unfold szAt
    rw [Int.toNat_natCast, List.getD_eq_getElem?_getD, List.getD_eq_getElem?_getD, List.getElem?_append_left (by rw [h.len]; exact hlt)]
  · obtain rfl : i = ps.length := by omega
    have e1 : szAt (sz ++ [stepS sz q]) (ps.length : Int) = stepS sz q := by
      unfold szAt
      rw [Int.toNat_natCast, List.getD_eq_getElem?_getD, List.getElem?_append_right (by rw [h.len]; omega), h.len, Nat.sub_self]; rfl
    rw [e1]
    simp only [expB, Int.toNat_natCast]
    rw [List.getElem?_append_right (Nat.le_refl _), Nat.sub_self]
    simp only [List.getElem?_cons_zero]
    unfold stepS
    cases hj : q.j with
    | false => simp
    | true =>
      obtain ⟨⟨a, b⟩, c, d⟩ := hq hj
      obtain ⟨i, hi⟩ : ∃ i : Nat, q.l = i := ⟨q.l.toNat, by omega⟩
      obtain ⟨j, hj'⟩ : ∃ j : Nat, q.r = j := ⟨q.r.toNat, by omega⟩
      simp only [if_true]
      rw [if_neg (by decide), hi, hj', List.length_append, h.size i (by omega), h.size j (by omega)]
      rw [expB_app h.back q _ _ (by omega) (by omega), expB_app h.back q _ _ (by omega) (by omega)]
      rw [expB_more h.back ps.length (i + 1) i (by omega) (by omega), expB_more h.back ps.length (j + 1) j (by omega) (by omega)]
theorem Ok.all {ps : List Pc} {sz : List Nat} (h : Ok ps sz) : ∀ (r : List Pc), badF ps sz r = none → Ok (ps ++ r) (szF sz r) := by
  intro r
  induction r generalizing ps sz with
  | nil => intro _; rw [List.append_nil]; exact h
  | cons q r ih =>
    intro hb
    simp only [badF] at hb
    split at hb
    · rename_i h0
      have := ih (h.snoc h0) hb
      rw [List.append_assoc] at this
      exact this
    · cases hb
theorem ok_of_check {xs : List Pc} {a : Nat} (h : checkE xs = (0, a)) : xs.length ≤ 4096 ∧ Ok xs (szF [] xs) := by
  unfold checkE at h
  split at h
  · cases h
  · rename_i h4
    refine ⟨by omega, ?_⟩
    cases hb : badF [] [] xs with
    | none => exact Ok.nil.all xs hb
    | some x =>
      rw [hb] at h
      simp only at h
      exfalso
      have : ∀ (r ps : List Pc) (sz : List Nat) (y : Int × Nat), badF ps sz r = some y → y.1 ≠ 0 := by
        intro r
        induction r with
        | nil => intro ps sz y h; cases h
        | cons q r ih =>
          intro ps sz y h
          simp only [badF] at h
          split at h
          · exact ih _ _ _ h
          · rename_i h0; injection h with h; subst h; exact h0
      exact this xs [] [] x hb (by rw [h])
def expE (xs : List Pc) (n : Int) : List Int := if (sizeE xs n).2 = 0 then expB xs (n.toNat + 1) n else []
theorem size_ok {xs : List Pc} {n : Int} (h : (sizeE xs n).2 = 0) : Ok xs (szF [] xs) ∧ xs.length ≤ 4096 ∧ 0 ≤ n ∧ n < xs.length ∧ (sizeE xs n).1 = (expE xs n).length := by
  have hE : expE xs n = expB xs (n.toNat + 1) n := by unfold expE; rw [if_pos h]
  rw [hE]
  unfold sizeE at h ⊢
  split at h
  · cases h
  · rename_i h1
    split at h
    · cases h
    · rename_i h2
      rw [if_neg h1, if_neg h2]
      have hc : checkE xs = (0, (checkE xs).2) := by
        have : (checkE xs).1 = 0 := by simpa using h1
        rw [← this]
      obtain ⟨h4, hok⟩ := ok_of_check hc
      refine ⟨hok, h4, by omega, by omega, ?_⟩
      obtain ⟨i, rfl⟩ : ∃ i : Nat, n = i := ⟨n.toNat, by omega⟩
      have := hok.size i (by omega)
      simp only [Int.toNat_natCast]
      rw [this]
end Voc
end Go.Proofs.Ytildhlneldoffaa
