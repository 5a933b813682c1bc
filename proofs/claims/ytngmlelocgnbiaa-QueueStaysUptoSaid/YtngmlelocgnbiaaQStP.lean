/- QueueStays: what goes out, in plain Lean. -/
import Derived.Test.YtngmlelocgnbiaaQLaw2
set_option linter.unusedVariables false
set_option linter.unusedSimpArgs false
namespace Go.Proofs.Ytngmlelocgnbiaa
namespace QP
abbrev E := (Int × Int) × Nat
def ltA (a b : Int × Int) : Bool := decide (a.1 < b.1)
theorem swo_ltA : SWO ltA := SWO.of_key (fun a : Int × Int => a.1) (fun a b => decide (a < b)) swo_int
def xsA (l : List Int) (k : Nat) : List (Int × Int) := (List.range k).map fun i => (l.getD i 0, (i : Int))
theorem xsA_len (l : List Int) (k : Nat) : (xsA l k).length = k := by simp [xsA]
theorem xsA_succ (l : List Int) (k : Nat) : xsA l (k + 1) = xsA l k ++ [(l.getD k 0, (k : Int))] := by simp [xsA, List.range_succ]
def hp (l : List Int) (k : Nat) : List E := fill ltA (xsA l k) [] 0
theorem hp_succ (l : List Int) (k : Nat) : hp l (k + 1) = push ltA (hp l k) ((l.getD k 0, (k : Int)), k) := by
  unfold hp; rw [xsA_succ, fill_snoc, xsA_len, Nat.zero_add]
theorem hp_len (l : List Int) (k : Nat) : (hp l k).length = k := by unfold hp; rw [length_fill, xsA_len]; simp
def dr (l : List Int) (n : Nat) : List E := drainE ltA n (hp l n)
theorem dr_perm (l : List Int) (n : Nat) : (dr l n).Perm (xsA l n).zipIdx := by
  refine (drainE_perm _ _ (by rw [hp_len]; exact Nat.le_refl _)).trans ?_
  have := fill_perm (lt := ltA) (xsA l n) [] 0
  rw [List.nil_append] at this
  exact this
theorem dr_len (l : List Int) (n : Nat) : (dr l n).length = n := by rw [(dr_perm l n).length_eq]; simp [xsA]
theorem dr_sorted (l : List Int) (n : Nat) : (dr l n).Pairwise (le ltA) :=
  drainE_sorted swo_ltA _ _ (by rw [hp_len]; exact Nat.le_refl _) (fill_heap swo_ltA _ _ _ (fun j hj => LE.out (by simp)))
theorem dr_at (l : List Int) (n k : Nat) (hk : k < n) : ∃ t, t < n ∧ (dr l n)[k]? = some ((l.getD t 0, (t : Int)), t) := by
  have hk' : k < (dr l n).length := by rw [dr_len]; exact hk
  have hm := (dr_perm l n).mem_iff.1 (List.getElem_mem hk')
  rw [List.getElem?_eq_getElem hk']
  generalize (dr l n)[k] = e at hm
  obtain ⟨x, t⟩ := e
  have h := List.mem_zipIdx_iff_getElem?.1 hm
  simp only at h
  have ht : t < n := by have := (List.getElem?_eq_some_iff.1 h).1; rw [xsA_len] at this; exact this
  refine ⟨t, ht, ?_⟩
  unfold xsA at h
  rw [List.getElem?_map, List.getElem?_range ht] at h
  simp at h
  rw [← h]; simp
theorem dr_next (l : List Int) (n k : Nat) (a b : Int × Int) (s t : Nat) (h1 : (dr l n)[k]? = some (a, s)) (h2 : (dr l n)[k + 1]? = some (b, t)) : a.1 < b.1 ∨ (a.1 = b.1 ∧ s ≤ t) := by
  obtain ⟨k1, e1⟩ := List.getElem?_eq_some_iff.1 h1
  obtain ⟨k2, e2⟩ := List.getElem?_eq_some_iff.1 h2
  have h := List.pairwise_iff_getElem.1 (dr_sorted l n) k (k + 1) k1 k2 (by omega)
  rw [e1, e2] at h
  unfold le ahead ltA at h
  simp at h
  omega
theorem dr_turns (l : List Int) (n : Nat) : ((dr l n).map (·.2)).Perm (List.range n) := by
  have h := (dr_perm l n).map (·.2)
  have e : (xsA l n).zipIdx.map (·.2) = List.range n := by
    rw [List.zipIdx_map_snd, xsA_len, List.range_eq_range']
  rw [e] at h
  exact h
/-- behind k pops -/
def hk (l : List Int) (n : Nat) : Nat → List E
  | 0 => hp l n
  | k + 1 => pop ltA (hk l n k)
theorem hk_len (l : List Int) (n : Nat) : ∀ k, (hk l n k).length = n - k
  | 0 => hp_len l n
  | k + 1 => by rw [hk, length_pop, hk_len l n k]; omega
theorem hk_drain (l : List Int) (n : Nat) : ∀ k, k ≤ n → drainE ltA (n - k) (hk l n k) = (dr l n).drop k
  | 0, _ => rfl
  | k + 1, h => by
    have ih := hk_drain l n k (by omega)
    have hl := hk_len l n k
    obtain ⟨m, hm⟩ : ∃ m, n - k = m + 1 := ⟨n - k - 1, by omega⟩
    have hm' : n - (k + 1) = m := by omega
    rw [hm'] 
    rw [hm] at ih hl
    rw [hk]
    cases he : hk l n k with
    | nil => rw [he] at hl; simp at hl
    | cons e r =>
      rw [he, drainE] at ih
      have e2 : (dr l n).drop (k + 1) = ((dr l n).drop k).drop 1 := by rw [List.drop_drop]
      rw [e2, ← ih]; rfl
theorem hk_head (l : List Int) (n k : Nat) (h : k < n) : (hk l n k)[0]? = (dr l n)[k]? := by
  have h1 := hk_drain l n k (by omega)
  have hl := hk_len l n k
  obtain ⟨m, hm⟩ : ∃ m, n - k = m + 1 := ⟨n - k - 1, by omega⟩
  rw [hm] at h1 hl
  cases he : hk l n k with
  | nil => rw [he] at hl; simp at hl
  | cons e r =>
    rw [he, drainE] at h1
    have h2 : ((dr l n).drop k)[0]? = some e := by rw [← h1]; rfl
    rw [List.getElem?_drop, Nat.add_zero] at h2
    rw [h2]; rfl
/-- how often a turn came among the first k -/
def cnt (l : List Int) (n k j : Nat) : Nat := (((dr l n).take k).map (·.2)).count j
theorem cnt_zero (l : List Int) (n j : Nat) : cnt l n 0 j = 0 := rfl
theorem cnt_succ (l : List Int) (n k j t : Nat) (x : Int × Int) (h : (dr l n)[k]? = some (x, t)) : cnt l n (k + 1) j = cnt l n k j + if t = j then 1 else 0 := by
  obtain ⟨k1, e1⟩ := List.getElem?_eq_some_iff.1 h
  unfold cnt
  rw [List.take_succ_eq_append_getElem k1, e1, List.map_append, List.count_append]
  simp [List.count_singleton]
theorem cnt_end (l : List Int) (n j : Nat) (h : j < n) : cnt l n n j = 1 := by
  unfold cnt
  rw [List.take_of_length_le (by rw [dr_len]; exact Nat.le_refl _), (dr_turns l n).count_eq]
  have h1 : ∀ m, j < m → (List.range m).count j = 1 := by
    intro m
    induction m with
    | zero => intro h; omega
    | succ m ih =>
      intro hm
      rw [List.range_succ, List.count_append]
      by_cases e : j = m
      · subst e
        rw [List.count_eq_zero.2 (by simp)]; simp
      · rw [ih (by omega)]
        have : List.count j [m] = 0 := by simp [List.count_singleton]; omega
        rw [this]
  exact h1 n h
theorem cnt_le (l : List Int) (n k j : Nat) : cnt l n k j ≤ n := by
  unfold cnt
  refine Nat.le_trans List.count_le_length ?_
  rw [List.length_map, List.length_take, dr_len]; omega
def cl (l : List Int) (n k : Nat) : Array Value := ((List.range n).map fun j => Value.int .i64 (cnt l n k j : Nat)).toArray
theorem cl_get (l : List Int) (n k j : Nat) (h : j < n) : (cl l n k)[j]? = some (.int .i64 (cnt l n k j : Nat)) := by simp [cl, List.getElem?_range, h]
theorem cl_zero (l : List Int) (n : Nat) : cl l n 0 = (List.replicate n (Value.int .i64 0)).toArray := by
  unfold cl; congr 1
  apply List.ext_getElem?
  intro j
  by_cases h : j < n
  · simp [List.getElem?_range, h, cnt_zero, List.getElem?_replicate]
  · rw [List.getElem?_eq_none (by simp; omega), List.getElem?_eq_none (by simp; omega)]
theorem cl_succ (l : List Int) (n k t : Nat) (x : Int × Int) (h : (dr l n)[k]? = some (x, t)) (ht : t < n) : (cl l n k).setIfInBounds t (.int .i64 ((cnt l n k t : Nat) + 1 : Int)) = cl l n (k + 1) := by
  apply Array.ext_getElem?
  intro j
  by_cases hj : j < n
  · rw [cl_get _ _ _ _ hj, cnt_succ l n k j t x h, Array.getElem?_setIfInBounds]
    by_cases e : t = j
    · subst e; rw [if_pos rfl, if_pos (by simp [cl]; exact ht), if_pos rfl]; rfl
    · rw [if_neg e, if_neg e, cl_get _ _ _ _ hj]; rfl
  · rw [Array.getElem?_eq_none (by simp [cl]; omega), Array.getElem?_eq_none (by simp [cl]; omega)]
end QP
end Go.Proofs.Ytngmlelocgnbiaa
