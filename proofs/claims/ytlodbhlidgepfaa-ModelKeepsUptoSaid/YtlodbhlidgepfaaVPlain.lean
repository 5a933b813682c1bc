/- Maps of the call's own whose entries are known one by one. No program. vocab: what is wrong with a piece, in plain Lean. -/
import Derived.Test.YtlodbhlidgepfaaLib
import Derived.Maps.Own
import Derived.Maps.OwnSet
import Derived.WideKeyPair
import Derived.WideKeyEntry
set_option linter.unusedVariables false
set_option linter.unusedSimpArgs false
namespace Go.Proofs.Ytlodbhlidgepfaa
open Go.RowKit Go.MapKept Go.ChangeMaps

/-- the entries of a map into which these keys came, one behind the other, each once -/
def ents (l : List (Value × Value)) : Array MapEntry := (l.zipIdx.map fun x => ({ key := x.1.1, val := x.1.2, born := x.2 } : MapEntry)).toArray
theorem ents_size (l : List (Value × Value)) : (ents l).size = l.length := by simp [ents]
theorem ents_push (l : List (Value × Value)) (k v : Value) : (ents l).push ⟨k, v, l.length⟩ = ents (l ++ [(k, v)]) := by
  unfold ents
  rw [List.zipIdx_append]
  simp
theorem ents_get (l : List (Value × Value)) (i : Nat) : (ents l).toList[i]? = (l[i]?).map fun x => ({ key := x.1, val := x.2, born := i } : MapEntry) := by
  simp [ents, List.getElem?_zipIdx]
  cases l[i]? <;> rfl
theorem ents_mem {l : List (Value × Value)} {e : MapEntry} (h : e ∈ (ents l).toList) : (e.key, e.val) ∈ l := by
  obtain ⟨i, hi, rfl⟩ := List.getElem_of_mem h
  have h1 := ents_get l i
  rw [List.getElem?_eq_getElem hi] at h1
  cases hl : l[i]? with
  | none => rw [hl] at h1; cases h1
  | some x => rw [hl] at h1; injection h1 with h1; rw [h1]; exact List.mem_of_getElem? hl
theorem ents_has {l : List (Value × Value)} {k v : Value} (h : (k, v) ∈ l) : ∃ e ∈ (ents l).toList, e.key = k := by
  obtain ⟨i, hi, e⟩ := List.getElem_of_mem h
  have h1 := ents_get l i
  rw [List.getElem?_eq_getElem hi, e] at h1
  exact ⟨_, List.mem_of_getElem? h1, rfl⟩

/-- a block that is this map -/
def MB (w : World) (b : Nat) (l : List (Value × Value)) : Prop := w.heap[b]? = some (.map (ents l) l.length)

section
variable {w w' : World} {b : Nat} {l : List (Value × Value)} {S : Nat → Prop} {P : Program}
theorem MB.lt (h : MB w b l) : b < w.heap.size := by
  rcases Nat.lt_or_ge b w.heap.size with hlt | hge
  · exact hlt
  · unfold MB at h; rw [Array.getElem?_eq_none hge] at h; cases h
theorem MB.new (w : World) : MB (w.alloc (.map #[] 0)) w.heap.size [] := heap_alloc_new w _
theorem MB.fr (h : MB w b l) (hf : Fr w w' S) (hg : ¬ S b) : MB w' b l := (hf.block b h.lt hg).trans h
theorem MB.ne (h : MB w b l) {g : Nat} {t : TypeId} {cs : Array Value} (hb : Blk w g t cs) : b ≠ g := by
  rintro rfl
  unfold MB at h; unfold Blk at hb
  rw [h] at hb; cases hb
/-- the block turns -/
theorem MB.turn (h : MB w b l) (l' : List (Value × Value)) : MB (setBlock w b (.map (ents l') l'.length)) b l' := heap_setBlock_same h _
theorem MB.frame (h : MB w b l) (o : Obj) : Fr w (setBlock w b o) (fun k => k = b) :=
  ⟨rfl, rfl, rfl, by simp [setBlock], fun k _ hk => heap_setBlock_other h o hk⟩

variable {t k e : TypeId}
theorem MB.keys {kt : TypeId} (hk : ∀ x ∈ l, ∃ lx, keyOf P kt x.1 = some lx) : ∀ e ∈ (ents l).toList, ∃ lx, keyOf P kt e.key = some lx :=
  fun e he => hk _ (ents_mem he)
theorem MB.look_no (h : MB w b l) (K : Maps.Keyed P k) (ht : P.underlying t = some (.map k e)) {z : Value} (hz : (zeroValue e).run P w = .ok z w) (hks : ∀ x ∈ l, ∃ lx, keyOf P k x.1 = some lx)
    {key : Value} {kl : Lit} (hkey : keyOf P k key = some kl) (hno : ∀ x ∈ l, x.1 ≠ key) : (Instr.lookup t (.map (some b)) key true).run P w = .ok (.tuple #[z, .bool false]) w := by
  rcases K.find w hkey (ents l).toList (MB.keys hks) with ⟨h1, h2⟩ | ⟨j, e0, h1, h2, h3⟩
  · simp [Instr.lookup, run_underlying ht, MapKept.run_getObj_map h, K.check w _ hkey, h1, hz, Result.andThen]
  · exact absurd h3 (hno _ (ents_mem (List.mem_of_getElem? h2)))
theorem MB.look_yes (h : MB w b l) (K : Maps.Keyed P k) (ht : P.underlying t = some (.map k e)) (hks : ∀ x ∈ l, ∃ lx, keyOf P k x.1 = some lx)
    {key v : Value} {kl : Lit} (hkey : keyOf P k key = some kl) (hin : (key, v) ∈ l) : ∃ v', (key, v') ∈ l ∧ (Instr.lookup t (.map (some b)) key true).run P w = .ok (.tuple #[v', .bool true]) w := by
  rcases K.find w hkey (ents l).toList (MB.keys hks) with ⟨h1, h2⟩ | ⟨j, e0, h1, h2, h3⟩
  · obtain ⟨e0, he, hk⟩ := ents_has hin
    exact absurd hk (h2 e0 he)
  · refine ⟨e0.val, ?_, ?_⟩
    · rw [← h3]; exact ents_mem (List.mem_of_getElem? h2)
    · simp [Instr.lookup, run_underlying ht, MapKept.run_getObj_map h, K.check w _ hkey, h1, Result.andThen]
theorem MB.update (h : MB w b l) (K : Maps.Keyed P k) (ht : P.underlying t = some (.map k e)) (hks : ∀ x ∈ l, ∃ lx, keyOf P k x.1 = some lx)
    {key v : Value} {kl : Lit} (hkey : keyOf P k key = some kl) (hno : ∀ x ∈ l, x.1 ≠ key) :
    (Instr.mapUpdate t (.map (some b)) key v).run P w = .ok () (setBlock w b (.map (ents (l ++ [(key, v)])) (l ++ [(key, v)]).length)) := by
  rcases K.find w hkey (ents l).toList (MB.keys hks) with ⟨h1, h2⟩ | ⟨j, e0, h1, h2, h3⟩
  · simp [Instr.mapUpdate, run_underlying ht, MapKept.run_getObj_map h, K.check w _ hkey, h1, MapKept.run_setObj_map _ h, Result.andThen, setBlock, ents_push]
  · exact absurd h3 (hno _ (ents_mem (List.mem_of_getElem? h2)))
theorem MB.entry (h : MB w b l) (K : Maps.Keyed P k) (ht : P.underlying t = some (.map k e)) {z : Value} (hz : (zeroValue e).run P w = .ok z w) (hks : ∀ x ∈ l, ∃ lx, keyOf P k x.1 = some lx)
    {key : Value} {kl : Lit} (hkey : keyOf P k key = some kl) (hno : ∀ x ∈ l, x.1 ≠ key) :
    (Instr.mapEntry t (.map (some b)) key).run P w = .ok (.tuple #[z, .int .i64 (l.length : Int)]) (setBlock w b (.map (ents (l ++ [(key, z)])) (l ++ [(key, z)]).length)) := by
  rcases K.find w hkey (ents l).toList (MB.keys hks) with ⟨h1, h2⟩ | ⟨j, e0, h1, h2, h3⟩
  · simp [Instr.mapEntry, run_underlying ht, MapKept.run_getObj_map h, K.check w _ hkey, h1, hz, MapKept.run_setObj_map _ h, Result.andThen, setBlock, ents_push, goInt]
  · exact absurd h3 (hno _ (ents_mem (List.mem_of_getElem? h2)))
theorem ents_modify (l : List (Value × Value)) (key z v : Value) : (ents (l ++ [(key, z)])).modify l.length (fun e => { e with val := v }) = ents (l ++ [(key, v)]) := by
  rw [← ents_push, ← ents_push]
  apply Array.ext'
  rw [Array.toList_modify, Array.toList_push, Array.toList_push]
  have : l.length = (ents l).toList.length := by simp [ents]
  rw [this, WideElems.modify_last]
theorem MB.store {key z v : Value} (h : MB w b (l ++ [(key, z)])) : (Instr.entryStore t (.map (some b)) (.int .i64 (l.length : Int)) v).run P w = .ok () (setBlock w b (.map (ents (l ++ [(key, v)])) (l ++ [(key, v)]).length)) := by
  have hidx : (ents (l ++ [(key, z)])).findIdx? (fun e => ((e.born : Nat) : Int) == ((l.length : Nat) : Int)) = some l.length := by
    rw [WideElems.findIdx_arr]
    have hn : ((ents (l ++ [(key, z)])).toList.map (·.born)).Nodup := by
      have : (ents (l ++ [(key, z)])).toList.map (·.born) = List.range (l ++ [(key, z)]).length := by
        unfold ents
        rw [List.map_map, show ((fun x : MapEntry => x.born) ∘ fun x : (Value × Value) × Nat => ({ key := x.1.1, val := x.1.2, born := x.2 } : MapEntry)) = Prod.snd from rfl, List.zipIdx_map_snd, List.range_eq_range']
      rw [this]; exact List.nodup_range
    have hg := ents_get (l ++ [(key, z)]) l.length
    rw [List.getElem?_append_right (Nat.le_refl _), Nat.sub_self] at hg
    exact WideElems.findIdx_born (e0 := ⟨key, z, l.length⟩) hn hg
  have hmod := ents_modify l key z v
  have hl : (l ++ [(key, z)]).length = (l ++ [(key, v)]).length := by simp
  unfold MB at h
  rw [hl] at h
  simp [Instr.entryStore, MapKept.run_getObj_map h, asInt, asIntOf, hidx, hmod, MapKept.run_setObj_map _ h, Result.andThen, setBlock]
theorem MB.len {t k e : TypeId} {w : World} {b : Nat} {l : List (Value × Value)} {P : Program} (h : MB w b l) (ht : P.underlying t = some (.map k e)) (ty : TypeId) : (Builtin.len_ #[t] ty #[.map (some b)]).run P w = .ok (.int .i64 (l.length : Int)) w := by
  simp [Builtin.len_, run_underlying ht, MapKept.run_getObj_map h, goInt, Result.andThen, ents_size]
end
end Go.Proofs.Ytlodbhlidgepfaa

namespace Go.Proofs.Ytlodbhlidgepfaa
open Go.RowKit
namespace Voc

/-- a piece -/
structure Pc where
  j : Bool
  b : Int
  l : Int
  r : Int
  k : Int
deriving DecidableEq
def encP (p : Pc) : List Value := [.bool p.j, .int .u8 p.b, .int .i64 p.l, .int .i64 p.r, .int .u32 p.k]
def wfP (p : Pc) : Prop := (Lit.int .u8 p.b).wf = true ∧ (Lit.int .i64 p.l).wf = true ∧ (Lit.int .i64 p.r).wf = true ∧ (Lit.int .u32 p.k).wf = true
theorem encP_len (p : Pc) : (encP p).length = 5 := rfl

def szAt (sz : List Nat) (i : Int) : Nat := sz.getD i.toNat 0
/-- are they bytes of one value? joins of one pair or of one rank? -/
def sameB (p q : Pc) : Bool := !q.j && q.b == p.b
def sameP (p q : Pc) : Bool := q.j && (q.l == p.l && q.r == p.r)
def sameK (p q : Pc) : Bool := q.j && q.k == p.k
/-- what is wrong with a piece behind others -/
def stepE (ps : List Pc) (sz : List Nat) (p : Pc) : Int :=
  if p.j = false then
    if ¬ (p.l = 0 ∧ p.r = 0 ∧ p.k = 0) then 5 else if ps.any (sameB p) then 8 else 0
  else if p.b ≠ 0 then 5
  else if p.l < 0 ∨ (ps.length : Int) ≤ p.l ∨ p.r < 0 ∨ (ps.length : Int) ≤ p.r then 2
  else if 256 < szAt sz p.l + szAt sz p.r then 3
  else if ps.any (sameP p) || ps.any (sameK p) then 8 else 0
def stepS (sz : List Nat) (p : Pc) : Nat := if p.j = false then 1 else szAt sz p.l + szAt sz p.r

/-- the entries of the three maps -/
def be (ps : List Pc) : List (Value × Value) := ps.zipIdx.filterMap fun x => if x.1.j then none else some (.int .u8 x.1.b, .int .i64 (x.2 : Nat))
def pe (ps : List Pc) : List (Value × Value) := ps.zipIdx.filterMap fun x => if x.1.j then some (.agg #[.int .i64 x.1.l, .int .i64 x.1.r], .int .i64 (x.2 : Nat)) else none
def re (ps : List Pc) : List (Value × Value) := ps.zipIdx.filterMap fun x => if x.1.j then some (.int .u32 x.1.k, .int .i64 (x.2 : Nat)) else none
theorem be_snoc (ps : List Pc) (q : Pc) : be (ps ++ [q]) = be ps ++ (if q.j then [] else [(.int .u8 q.b, .int .i64 (ps.length : Nat))]) := by
  unfold be; rw [List.zipIdx_append, List.filterMap_append]; cases h : q.j <;> simp [h]
theorem pe_snoc (ps : List Pc) (q : Pc) : pe (ps ++ [q]) = pe ps ++ (if q.j then [(.agg #[.int .i64 q.l, .int .i64 q.r], .int .i64 (ps.length : Nat))] else []) := by
  unfold pe; rw [List.zipIdx_append, List.filterMap_append]; cases h : q.j <;> simp [h]
theorem re_snoc (ps : List Pc) (q : Pc) : re (ps ++ [q]) = re ps ++ (if q.j then [(.int .u32 q.k, .int .i64 (ps.length : Nat))] else []) := by
  unfold re; rw [List.zipIdx_append, List.filterMap_append]; cases h : q.j <;> simp [h]
theorem mem_be {ps : List Pc} {x : Value × Value} (h : x ∈ be ps) : ∃ q i, ps[i]? = some q ∧ q.j = false ∧ x = (.int .u8 q.b, .int .i64 (i : Nat)) := by
  obtain ⟨⟨q, i⟩, hm, he⟩ := List.mem_filterMap.1 h
  have hi := List.mem_zipIdx_iff_getElem?.1 hm
  simp only at hi he
  cases hj : q.j <;> rw [hj] at he <;> simp at he
  exact ⟨q, i, hi, hj, he.symm⟩
theorem mem_pe {ps : List Pc} {x : Value × Value} (h : x ∈ pe ps) : ∃ q i, ps[i]? = some q ∧ q.j = true ∧ x = (.agg #[.int .i64 q.l, .int .i64 q.r], .int .i64 (i : Nat)) := by
  obtain ⟨⟨q, i⟩, hm, he⟩ := List.mem_filterMap.1 h
  have hi := List.mem_zipIdx_iff_getElem?.1 hm
  simp only at hi he
  cases hj : q.j <;> rw [hj] at he <;> simp at he
  exact ⟨q, i, hi, hj, he.symm⟩
theorem mem_re {ps : List Pc} {x : Value × Value} (h : x ∈ re ps) : ∃ q i, ps[i]? = some q ∧ q.j = true ∧ x = (.int .u32 q.k, .int .i64 (i : Nat)) := by
  obtain ⟨⟨q, i⟩, hm, he⟩ := List.mem_filterMap.1 h
  have hi := List.mem_zipIdx_iff_getElem?.1 hm
  simp only at hi he
  cases hj : q.j <;> rw [hj] at he <;> simp at he
  exact ⟨q, i, hi, hj, he.symm⟩
theorem in_be {ps : List Pc} {q : Pc} {i : Nat} (h : ps[i]? = some q) (hj : q.j = false) : ((.int .u8 q.b, .int .i64 (i : Nat)) : Value × Value) ∈ be ps :=
  List.mem_filterMap.2 ⟨(q, i), List.mem_zipIdx_iff_getElem?.2 h, by simp [hj]⟩
theorem in_pe {ps : List Pc} {q : Pc} {i : Nat} (h : ps[i]? = some q) (hj : q.j = true) : ((.agg #[.int .i64 q.l, .int .i64 q.r], .int .i64 (i : Nat)) : Value × Value) ∈ pe ps :=
  List.mem_filterMap.2 ⟨(q, i), List.mem_zipIdx_iff_getElem?.2 h, by simp [hj]⟩
theorem in_re {ps : List Pc} {q : Pc} {i : Nat} (h : ps[i]? = some q) (hj : q.j = true) : ((.int .u32 q.k, .int .i64 (i : Nat)) : Value × Value) ∈ re ps :=
  List.mem_filterMap.2 ⟨(q, i), List.mem_zipIdx_iff_getElem?.2 h, by simp [hj]⟩
theorem be_no {ps : List Pc} {p : Pc} (h : ps.any (sameB p) = false) : ∀ x ∈ be ps, x.1 ≠ .int .u8 p.b := by
  intro x hx e
  obtain ⟨q, i, hi, hj, rfl⟩ := mem_be hx
  have h1 := List.any_eq_false.1 h q (List.mem_of_getElem? hi)
  injection e with _ e
  simp [sameB, hj, e] at h1
theorem be_yes {ps : List Pc} {p : Pc} (h : ps.any (sameB p) = true) : ∃ v, ((.int .u8 p.b, v) : Value × Value) ∈ be ps := by
  obtain ⟨q, hq, hs⟩ := List.any_eq_true.1 h
  obtain ⟨i, hi⟩ := List.getElem?_of_mem hq
  simp [sameB] at hs
  exact ⟨_, hs.2 ▸ in_be hi hs.1⟩
theorem pe_no {ps : List Pc} {p : Pc} (h : ps.any (sameP p) = false) : ∀ x ∈ pe ps, x.1 ≠ .agg #[.int .i64 p.l, .int .i64 p.r] := by
  intro x hx e
  obtain ⟨q, i, hi, hj, rfl⟩ := mem_pe hx
  have h1 := List.any_eq_false.1 h q (List.mem_of_getElem? hi)
  simp at e
  simp [sameP, hj, e] at h1
theorem pe_yes {ps : List Pc} {p : Pc} (h : ps.any (sameP p) = true) : ∃ v, ((.agg #[.int .i64 p.l, .int .i64 p.r], v) : Value × Value) ∈ pe ps := by
  obtain ⟨q, hq, hs⟩ := List.any_eq_true.1 h
  obtain ⟨i, hi⟩ := List.getElem?_of_mem hq
  simp [sameP] at hs
  exact ⟨_, by have := in_pe hi hs.1; rw [hs.2.1, hs.2.2] at this; exact this⟩
theorem re_no {ps : List Pc} {p : Pc} (h : ps.any (sameK p) = false) : ∀ x ∈ re ps, x.1 ≠ .int .u32 p.k := by
  intro x hx e
  obtain ⟨q, i, hi, hj, rfl⟩ := mem_re hx
  have h1 := List.any_eq_false.1 h q (List.mem_of_getElem? hi)
  injection e with _ e
  simp [sameK, hj, e] at h1
theorem re_yes {ps : List Pc} {p : Pc} (h : ps.any (sameK p) = true) : ∃ v, ((.int .u32 p.k, v) : Value × Value) ∈ re ps := by
  obtain ⟨q, hq, hs⟩ := List.any_eq_true.1 h
  obtain ⟨i, hi⟩ := List.getElem?_of_mem hq
  simp [sameK] at hs
  exact ⟨_, by have := in_re hi hs.1; rw [hs.2] at this; exact this⟩
end Voc
end Go.Proofs.Ytlodbhlidgepfaa
