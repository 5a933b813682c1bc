/- vocab: Plain. the reference's Plain. -/
import Derived.Test.YtlodbhlidgepfaaVTa
import Derived.Laws.MakeOwn
import Derived.Test.YtlodbhlidgepfaaLib
set_option linter.unusedVariables false
set_option linter.unusedSimpArgs false
namespace Go.Proofs.Ytlodbhlidgepfaa
open Go.RowKit
namespace Voc
def pk (k i : Nat) : Pc := ⟨false, if i < k then (i : Int) else 0, 0, 0, 0⟩
def pls (k : Nat) : List Pc := (List.range 256).map (pk k)
def pcells (k : Nat) : Array Value := ((pls k).flatMap encP).toArray
theorem pls_len (k : Nat) : (pls k).length = 256 := by simp [pls]
theorem pcells_size (k : Nat) : (pcells k).size = 1280 := by
  unfold pcells
  rw [List.size_toArray, len_flatMap encP 5 (fun _ => rfl), pls_len]
theorem pls_set {k : Nat} (hk : k < 256) : (pls k).set k ⟨false, k, 0, 0, 0⟩ = pls (k + 1) := by
  apply List.ext_getElem?
  intro m
  rw [List.getElem?_set]
  by_cases hm : m < 256
  · have e1 : (pls (k + 1))[m]? = some (pk (k + 1) m) := by unfold pls; rw [List.getElem?_map, List.getElem?_range hm]; rfl
    have e0 : (pls k)[m]? = some (pk k m) := by unfold pls; rw [List.getElem?_map, List.getElem?_range hm]; rfl
    rw [e1, e0, pls_len]
    by_cases he : k = m
    · subst he; simp [pk, hk]
    · rw [if_neg he]
      have : (m < k + 1) ↔ (m < k) := by omega
      simp [pk, this]
  · rw [List.getElem?_eq_none (l := pls (k + 1)) (by rw [pls_len]; omega), List.getElem?_eq_none (l := pls k) (by rw [pls_len]; omega)]
    split
    · rename_i he; subst he; rw [pls_len, if_neg hm]
    · rfl
theorem pcells_set {k : Nat} (hk : k < 256) : (pcells k).setIfInBounds (k * 5 + 1) (.int .u8 (k : Int)) = pcells (k + 1) := by
  unfold pcells
  rw [List.setIfInBounds_toArray, ← pls_set hk]
  congr 1
  have hl : ((pls k).flatMap encP).length = 1280 := by rw [len_flatMap encP 5 (fun _ => rfl), pls_len]
  apply set_flatMap encP 5 (by omega) (fun _ => rfl)
  · simp
  · intro j hj hi
    rw [List.getElem?_set, hl]
    by_cases h1 : k * 5 + 1 = k * 5 + j
    · have : j = 1 := by omega
      subst this
      rw [if_pos rfl, if_pos (by omega)]; rfl
    · rw [if_neg h1, get_flatMap encP 5 (fun _ => rfl) _ _ _ hj]
      have e0 : (pls k)[k]? = some (pk k k) := by unfold pls; rw [List.getElem?_map, List.getElem?_range hk]; rfl
      rw [e0]
      have hj' : j = 0 ∨ j = 2 ∨ j = 3 ∨ j = 4 := by omega
      rcases hj' with rfl | rfl | rfl | rfl <;> simp [encP, pk]
  · intro m hm
    rw [List.getElem?_set, if_neg (by intro h; omega)]
theorem info_pc : (Try.prog.info? TPc).map (fun i => (i.zero, i.size, i.bytes)) = some (some (.agg #[.bool false, .int .u8 0, .int .i64 0, .int .i64 0, .int .u32 0]), 5, 32) := by kernel_rfl
theorem made_pc : madeCells (Value.agg #[.bool false, .int .u8 0, .int .i64 0, .int .i64 0, .int .u32 0]).cells 1280 = pcells 0 := by
  apply Array.ext'
  apply List.ext_getElem?
  intro m
  have hl : ((pls 0).flatMap encP).length = 1280 := by rw [len_flatMap encP 5 (fun _ => rfl), pls_len]
  by_cases hm : m < 1280
  · have h5 : m % 5 < 5 := Nat.mod_lt _ (by omega)
    have hd : m / 5 < 256 := by omega
    have e0 : (pls 0)[m / 5]? = some (pk 0 (m / 5)) := by unfold pls; rw [List.getElem?_map, List.getElem?_range hd]; rfl
    unfold pcells
    rw [List.toList_toArray, get_flatMap' encP 5 (by omega) (fun _ => rfl), e0]
    simp only [madeCells, Array.toList_map, Array.toList_range, List.getElem?_map, List.getElem?_range hm, Option.map_some, Option.bind_some]
    have h6 : m % 5 = 0 ∨ m % 5 = 1 ∨ m % 5 = 2 ∨ m % 5 = 3 ∨ m % 5 = 4 := by omega
    rcases h6 with h | h | h | h | h <;> (have : (Value.agg #[.bool false, .int .u8 0, .int .i64 0, .int .i64 0, .int .u32 0]).cells.size = 5 := rfl) <;> rw [this, h] <;> rfl
  · rw [List.getElem?_eq_none (by rw [Array.length_toList, size_madeCells]; omega), List.getElem?_eq_none (by unfold pcells; rw [List.toList_toArray, hl]; omega)]
end Voc
end Go.Proofs.Ytlodbhlidgepfaa

namespace Go.Proofs.Ytlodbhlidgepfaa
open Go.RowKit
namespace Voc
theorem pls_at {k : Nat} (hk : k < 256) : (pls 256).take (k + 1) = (pls 256).take k ++ [⟨false, (k : Int), 0, 0, 0⟩] := by
  rw [List.take_succ_eq_append_getElem (by rw [pls_len]; exact hk)]
  congr 2
  unfold pls
  rw [List.getElem_map, List.getElem_range]
  unfold pk
  rw [if_pos hk]
end Voc
end Go.Proofs.Ytlodbhlidgepfaa
