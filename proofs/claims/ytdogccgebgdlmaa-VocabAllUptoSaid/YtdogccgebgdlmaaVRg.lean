/- Ranging over a map whose entries are known. No program. -/
import Derived.Test.YtdogccgebgdlmaaVPlain
import Derived.Maps.RangeRun
set_option linter.unusedVariables false
set_option linter.unusedSimpArgs false
namespace Go.Proofs.Ytdogccgebgdlmaa
open Go.RowKit Go.MapKept Go.ChangeMaps
/-- the iterator r over map b: these indices have come -/
def IT (w : World) (r b n : Nat) (seen : List Nat) : Prop := ∃ c0, n ≤ c0 ∧ w.heap[r]? = some (.mapIter (some b) n seen.toArray c0)
theorem ents_born {l : List (Value × Value)} : (ents l).toList.map (·.born) = List.range l.length := by
  unfold ents
  rw [List.map_map, show ((fun x : MapEntry => x.born) ∘ fun x : (Value × Value) × Nat => ({ key := x.1.1, val := x.1.2, born := x.2 } : MapEntry)) = Prod.snd from rfl, List.zipIdx_map_snd, List.range_eq_range']
theorem ents_of {l : List (Value × Value)} {e : MapEntry} (h : e ∈ (ents l).toList) : e.born < l.length ∧ l[e.born]? = some (e.key, e.val) := by
  obtain ⟨i, hi, rfl⟩ := List.getElem_of_mem h
  have h1 := ents_get l i
  rw [List.getElem?_eq_getElem hi] at h1
  cases hl : l[i]? with
  | none => rw [hl] at h1; cases h1
  | some x =>
    rw [hl] at h1
    injection h1 with h1
    rw [h1]
    exact ⟨(List.getElem?_eq_some_iff.1 hl).1, hl⟩
theorem setB_same {w : World} {r : Nat} {o' : Obj} (h : w.heap[r]? = some o') (o : Obj) : (setBlock w r o).heap[r]? = some o := by
  have hlt : r < w.heap.size := (Array.getElem?_eq_some_iff.1 h).1
  simp [setBlock, hlt]
theorem setB_other (w : World) (r : Nat) (o : Obj) {i : Nat} (h : i ≠ r) : (setBlock w r o).heap[i]? = w.heap[i]? := by
  simp only [setBlock]
  rw [Array.getElem?_setIfInBounds]
  rw [if_neg (Ne.symm h)]
theorem IT.next {P : Program} {w : World} {r b : Nat} {l : List (Value × Value)} {seen : List Nat} (hi : IT w r b l.length seen) (hm : MB w b l) (ty : TypeId) (hne : r ≠ b) :
    ((∀ i, i < l.length → i ∈ seen) ∧ (Instr.next (.pointer (some ⟨r, 0, none⟩)) false ty).run P w = .ok (.tuple #[.bool false]) w) ∨
    ∃ i k v w', i ∉ seen ∧ l[i]? = some (k, v) ∧ (Instr.next (.pointer (some ⟨r, 0, none⟩)) false ty).run P w = .ok (.tuple #[.bool true, k, v]) w' ∧ IT w' r b l.length (seen ++ [i]) ∧ Fr w w' (fun j => j = r) ∧ (Instr.entry (.pointer (some ⟨r, 0, none⟩))).run P w' = .ok (.tuple #[k, v]) w' := by
  obtain ⟨c0, hc, hr⟩ := hi
  rcases run_next_at (P := P) w ty r b l.length c0 seen.toArray (ents l) l.length hr hm (fun x hx => (ents_of hx).1) hc with ⟨h0, hrun⟩ | ⟨e, he, w1, hw, hrun⟩
  · refine .inl ⟨fun i hi => ?_, hrun⟩
    have hem : leftOf (ents l) seen.toArray = #[] := Array.eq_empty_of_size_eq_zero h0
    unfold leftOf at hem
    rw [Array.filter_eq_empty_iff] at hem
    have hg : (ents l).toList[i]? = some ⟨(l[i]'hi).1, (l[i]'hi).2, i⟩ := by rw [ents_get, List.getElem?_eq_getElem hi]; rfl
    have := hem _ (Array.mem_toList_iff.1 (List.mem_of_getElem? hg))
    simpa using this
  · have he' : e ∈ (ents l).toList ∧ e.born ∉ seen := by
      unfold leftOf at he
      rw [Array.mem_toList_iff, Array.mem_filter] at he
      exact ⟨Array.mem_toList_iff.2 he.1, by simpa using he.2⟩
    obtain ⟨hlt, hget⟩ := ents_of he'.1
    have hr1 : w1.heap[r]? = some (.mapIter (some b) l.length seen.toArray c0) := by rcases hw with rfl | rfl <;> exact hr
    have hm1 : MB w1 b l := by rcases hw with rfl | rfl <;> exact hm
    have hf1 : Fr w w1 (fun j => j = r) := by
      rcases hw with rfl | rfl
      · exact Fr.refl _ _
      · exact (Fr.refl _ _).drew
    have hset : (setBlock w1 r (.mapIter (some b) l.length (seen.toArray.push e.born) l.length)).heap[r]? = some (.mapIter (some b) l.length (seen.toArray.push e.born) l.length) := setB_same hr1 _
    have hmb : MB (setBlock w1 r (.mapIter (some b) l.length (seen.toArray.push e.born) l.length)) b l := (setB_other _ _ _ (Ne.symm hne)).trans hm1
    refine .inr ⟨e.born, e.key, e.val, _, he'.2, hget, hrun, ⟨l.length, Nat.le_refl _, ?_⟩, hf1.trans (T := fun j => j = r) ⟨rfl, rfl, rfl, by simp [setBlock], fun k hk hn => setB_other _ _ _ hn⟩ (fun _ _ h => h), ?_⟩
    · rw [hset]; simp
    · exact run_entry_at _ r b l.length seen.toArray (ents l) l.length e hset hmb he'.1 (by rw [ents_born]; exact List.nodup_range)
end Go.Proofs.Ytdogccgebgdlmaa
