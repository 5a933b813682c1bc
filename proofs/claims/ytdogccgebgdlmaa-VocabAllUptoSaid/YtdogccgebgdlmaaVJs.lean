/- vocab: the joins sorted by a merge sort, in plain Lean. -/
import Derived.Test.YtdogccgebgdlmaaVJp
import Derived.Test.YtdogccgebgdlmaaVSo
set_option linter.unusedVariables false
set_option linter.unusedSimpArgs false
namespace Go.Proofs.Ytdogccgebgdlmaa
open Go.RowKit Go.Shelf Go.Lib Go.Sort
namespace Voc
/-- a join -/
abbrev Jn (xs : List Pc) := {i : Nat // isJ xs i = true}
def cfJ (xs : List Pc) (x y : Jn xs) : Int := if rk xs x.1 < rk xs y.1 then -1 else 1
theorem ltJ (xs : List Pc) (x y : Jn xs) : ltOf (cfJ xs) x y = decide (rk xs x.1 < rk xs y.1) := by
  unfold ltOf cfJ
  by_cases h : rk xs x.1 < rk xs y.1 <;> simp [h]
theorem swoJ (xs : List Pc) : SWO (ltOf (cfJ xs)) where
  irrefl x := by rw [ltJ]; simp
  trans x y z h1 h2 := by rw [ltJ] at *; simp at *; omega
  ntrans x y z h1 h2 := by rw [ltJ] at *; simp at *; omega
theorem totJ {xs : List Pc} (H : Inv xs) (x y : Jn xs) (h1 : ltOf (cfJ xs) x y = false) (h2 : ltOf (cfJ xs) y x = false) : x = y := by
  rw [ltJ] at *
  simp at *
  exact Subtype.ext (rk_inj H x.2 y.2 (by omega))
theorem jl_nodup (xs : List Pc) (n : Nat) : (jl xs n).Nodup := List.nodup_range.sublist List.filter_sublist
theorem sort_joins {xs : List Pc} (H : Inv xs) (d : List (Jn xs)) (hp : (d.map (·.1)).Perm (jl xs xs.length)) : ((d.mergeSort fun x y => !(ltOf (cfJ xs)) y x).map (·.1)) = joinsF xs := by
  have hm := List.mergeSort_perm d (fun x y => !(ltOf (cfJ xs)) y x)
  have hp' := (hm.map (fun x : Jn xs => x.1)).trans hp
  refine asc_joins H ?_ hp'
  have hnd : ((d.mergeSort fun x y => !(ltOf (cfJ xs)) y x).map (fun x : Jn xs => x.1)).Nodup := hp'.nodup_iff.2 (jl_nodup xs _)
  have hsrt := List.pairwise_mergeSort (le := fun x y : Jn xs => !(ltOf (cfJ xs)) y x) (fun a b c h1 h2 => by
    simp only [ltJ, Bool.not_eq_true', decide_eq_false_iff_not] at *; omega) (fun a b => by
    simp only [ltJ, Bool.or_eq_true, Bool.not_eq_true', decide_eq_false_iff_not]; omega) d
  unfold Asc
  rw [List.pairwise_map]
  rw [List.Nodup, List.pairwise_map] at hnd
  refine (hsrt.and hnd).imp ?_
  rintro a b ⟨h1, h2⟩
  rw [ltJ] at h1
  have h1' : rk xs a.1 ≤ rk xs b.1 := by simpa using h1
  rcases Int.lt_or_eq_of_le h1' with h | h
  · exact h
  · exact absurd (rk_inj H a.2 b.2 h) h2
/-- the indices of a row all of which came -/
def olist (xs : List Pc) (seen : List Nat) : List Nat := seen.map fun i => (jl xs xs.length).getD i 0
theorem olist_perm {xs : List Pc} {seen : List Nat} (h1 : ∀ i, i < (jl xs xs.length).length → i ∈ seen) (h2 : seen.Nodup) (h3 : ∀ i ∈ seen, i < (jl xs xs.length).length) : (olist xs seen).Perm (jl xs xs.length) := by
  have hp : seen.Perm (List.range (jl xs xs.length).length) := by
    rw [List.perm_ext_iff_of_nodup h2 List.nodup_range]
    intro i
    rw [List.mem_range]
    exact ⟨h3 i, h1 i⟩
  unfold olist
  refine (hp.map _).trans ?_
  have : (List.range (jl xs xs.length).length).map (fun i => (jl xs xs.length).getD i 0) = jl xs xs.length := by
    apply List.ext_getElem?
    intro i
    rw [List.getElem?_map]
    by_cases hi : i < (jl xs xs.length).length
    · rw [List.getElem?_range hi, Option.map_some, List.getD_eq_getElem?_getD, List.getElem?_eq_getElem hi]; rfl
    · rw [List.getElem?_eq_none (by simp; omega), List.getElem?_eq_none (by omega)]; rfl
  rw [this]
end Voc
end Go.Proofs.Ytdogccgebgdlmaa
