/- What slices.SortFunc leaves of a row of the call's own. No program. -/
import Derived.Test.YtdogccgebgdlmaaLib
import Derived.Shelf.SlSortCmp.Insertion1
set_option linter.unusedVariables false
set_option linter.unusedSimpArgs false
namespace Go.Proofs.Ytdogccgebgdlmaa
open Go.RowKit Go.Shelf Go.Lib Go.Sort

section
variable {α : Type} [Inhabited α] {enc : α → Value} {w : World} {base g n cap : Nat} {e : TypeId}
theorem own_block {s : Nat} {xs : List Value} (ho : w.ownsRow base e s (.slice (some ⟨g, 0, none⟩) n cap) n xs) : ∃ cur, w.heap[g]? = some (.cells cur e (0, 0)) ∧ base ≤ g ∧ n ≤ cap ∧ cap ≤ maxLen ∧ cur.size = cap * s ∧ cur.toList.take (n * s) = xs := by
  rcases ho.2 with ⟨h, _⟩ | ⟨g', cap', cur, h, h1, h2, h3, h4, h5, h6⟩
  · cases h
  · injection h with h7 h8 h9
    injection h7 with h7
    injection h7 with h7
    subst h7 h9
    exact ⟨cur, h2, h1, h3, h4, h5, h6⟩
theorem own_holds {d : Array α} (ho : w.ownsRow base e 1 (.slice (some ⟨g, 0, none⟩) d.size cap) d.size (d.toList.map enc)) : Holds enc w g 0 d := by
  obtain ⟨cur, hg, hb, hc, hm, hs, ht⟩ := own_block ho
  intro j hj
  refine ⟨?_, ?_⟩
  · rw [cell_of_row w g _ cur e (0, 0) hg]
    have h1 : (cur.toList.take (d.size * 1))[j]? = (d.toList.map enc)[j]? := by rw [ht]
    rw [List.getElem?_take_of_lt (by omega)] at h1
    rw [Nat.zero_add, ← Array.getElem?_toList, h1, List.getElem?_map, Array.getElem?_toList, Array.getElem?_eq_getElem hj, getElem!_pos d j hj]
    rfl
  · simp [World.frozen?, hg]
theorem sort_world {d d' : Array α} (ho : w.ownsRow base e 1 (.slice (some ⟨g, 0, none⟩) d.size cap) d.size (d.toList.map enc)) (hs : d'.size = d.size) (m : Nat) (os : Array Obj) :
    (sortWorld enc w g 0 m d' os).ownsRow base e 1 (.slice (some ⟨g, 0, none⟩) d.size cap) d.size (d'.toList.map enc) ∧ Fr w (sortWorld enc w g 0 m d' os) (fun k => k = g) ∧
      ∀ T : Value → Prop, (∀ x, T (enc x)) → SpareT T w (.slice (some ⟨g, 0, none⟩) d.size cap) → SpareT T (sortWorld enc w g 0 m d' os) (.slice (some ⟨g, 0, none⟩) d.size cap) := by
  obtain ⟨cur, hg, hb, hc, hm, hsz, ht⟩ := own_block ho
  have hlt : g < w.heap.size := (Array.getElem?_eq_some_iff.1 hg).1
  have hg' : (sortWorld enc w g 0 m d' os).heap[g]? = some (.cells (putCells enc 0 d' cur) e (0, 0)) := by
    unfold sortWorld
    rw [heap_grow_old _ _ (by simp [putRow, mapBlock, Sort.ahead]; exact hlt)]
    simp only [putRow, mapBlock, Sort.ahead]
    rw [Array.getElem?_modify, if_pos rfl, hg]
    rfl
  have hput : ∀ k, (putCells enc 0 d' cur)[k]? = if k < d.size then (d'.toList.map enc)[k]? else cur[k]? := by
    intro k
    unfold putCells
    rw [Array.getElem?_mapIdx]
    by_cases hk : k < d.size
    · have h1 : k < cur.size := by omega
      rw [if_pos hk, Array.getElem?_eq_getElem h1, Option.map_some, if_pos ⟨by omega, by omega⟩, List.getElem?_map, Array.getElem?_toList, Array.getElem?_eq_getElem (by omega), Nat.sub_zero, getElem!_pos d' k (by omega)]
      rfl
    · rw [if_neg hk]
      cases hk' : cur[k]? with
      | none => rfl
      | some u => rw [Option.map_some, if_neg (by omega)]
  have hsz' : (putCells enc 0 d' cur).size = cur.size := by unfold putCells; rw [Array.size_mapIdx]
  refine ⟨⟨by simp [hs], .inr ⟨g, cap, _, rfl, hb, hg', hc, hm, by rw [hsz']; exact hsz, ?_⟩⟩, ⟨rfl, rfl, rfl, by simp [sortWorld, grow, putRow, mapBlock, Sort.ahead], fun k hk hn => ?_⟩, fun T hT h => ?_⟩
  · apply List.ext_getElem?
    intro k
    by_cases hk : k < d.size
    · rw [List.getElem?_take_of_lt (by omega), Array.getElem?_toList, hput, if_pos hk]
    · rw [List.getElem?_eq_none (by simp; omega), List.getElem?_eq_none (by simp; omega)]
  · unfold sortWorld
    rw [heap_grow_old _ _ (by simp [putRow, mapBlock, Sort.ahead]; exact hk)]
    simp only [putRow, mapBlock, Sort.ahead]
    rw [Array.getElem?_modify, if_neg (fun h => hn h.symm)]
  · intro g' cs t fr hg1 hc1 u hu
    have : g = g' := by simpa [Value.ownBlock] using hg1
    subst this
    rw [hg'] at hc1
    injection hc1 with hc1
    injection hc1 with hc1
    subst hc1
    obtain ⟨k, hk, rfl⟩ := List.getElem_of_mem hu
    have h1 := hput k
    rw [← Array.getElem?_toList, List.getElem?_eq_getElem hk] at h1
    by_cases hk' : k < d.size
    · rw [if_pos hk', List.getElem?_map] at h1
      cases hx : d'.toList[k]? with
      | none => rw [hx] at h1; cases h1
      | some x => rw [hx] at h1; injection h1 with h1; rw [h1]; exact hT x
    · rw [if_neg hk'] at h1
      exact h g cur e (0, 0) rfl hg _ (by rw [← Array.getElem?_toList] at h1; exact List.mem_of_getElem? h1.symm)
end
end Go.Proofs.Ytdogccgebgdlmaa
