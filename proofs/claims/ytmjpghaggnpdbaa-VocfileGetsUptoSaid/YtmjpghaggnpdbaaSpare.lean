/- The spare room of a row of the call's own: what its cells are. No program. -/
import Derived.Test.YtmjpghaggnpdbaaApp
set_option linter.unusedVariables false
set_option linter.unusedSimpArgs false
namespace Go.Proofs.Ytmjpghaggnpdbaa
open Go.RowKit

/-- every cell of v's block, the spare ones too, is a T -/
def SpareT (T : Value → Prop) (w : World) (v : Value) : Prop := ∀ g cs t fr, v.ownBlock = some g → w.heap[g]? = some (.cells cs t fr) → ∀ u ∈ cs.toList, T u
theorem SpareT.nil (T : Value → Prop) (w : World) : SpareT T w (.slice none 0 0) := fun g cs t fr h => by simp [Value.ownBlock] at h
theorem SpareT.fr {T : Value → Prop} {w w' : World} {v : Value} {S : Nat → Prop} (h : SpareT T w v) (hf : Fr w w' S) (hn : ∀ k, v.ownBlock = some k → k < w.heap.size ∧ ¬ S k) : SpareT T w' v :=
  fun g cs t fr hg hc => by
    obtain ⟨h1, h2⟩ := hn g hg
    exact h g cs t fr hg (by rw [← hf.block g h1 h2]; exact hc)
theorem SpareT.own {T : Value → Prop} {w w' : World} {v : Value} {S : Nat → Prop} {b s n : Nat} {e : TypeId} {xs : List Value} (h : SpareT T w v) (ho : w.ownsRow b e s v n xs) (hf : Fr w w' S) (hn : ∀ k, v.ownBlock = some k → ¬ S k) : SpareT T w' v :=
  h.fr hf (fun k hk => ⟨(ho.lt k hk).2, hn k hk⟩)
theorem mem_zeroCells {z : Array Value} {n : Nat} {u : Value} (h : u ∈ (Builtin.zeroCells z n).toList) : u ∈ z.toList := by
  unfold Builtin.zeroCells at h
  rw [Array.mem_toList_iff, Array.mem_map] at h
  obtain ⟨k, hk, rfl⟩ := h
  rw [Array.mem_range] at hk
  have hz : 0 < z.size := by
    rcases Nat.eq_zero_or_pos z.size with h0 | h0
    · rw [h0] at hk; omega
    · exact h0
  have hlt := Nat.mod_lt k hz
  rw [getElem!_pos z _ hlt]
  exact Array.mem_toList_iff.2 (Array.getElem_mem hlt)

section
variable {P : Program} (w : World)
theorem append_spare {α : Type} (enc : α → List Value) (base : Nat) (t ty e : TypeId) (i : TypeInfo) (z : Value) (size bytes : Nat) (ht : P.underlying t = some (.slice e)) (hi : P.info? e = some i) (hz : i.zero = some z)
    (hsize : i.size = size) (hby : i.bytes = bytes) (hzs : z.cells.size = size) (hsz : 0 < size)
    (v : Value) (n : Nat) (xs : List Value) (hown : w.ownsRow base e size v n xs)
    (sv : Value) (news : List α) (hs : SL enc w sv news) (henc : ∀ x, (enc x).length = size) (h1 : ∀ x, ∀ u ∈ enc x, u.oneCell' = true)
    (h63 : n + news.length ≤ maxLen) (hbytes : (n + news.length) * bytes ≤ 140737488355328) :
    ∃ v' w', (Builtin.append_ #[t, t] ty #[v, sv]).run P w = .ok v' w' ∧ ∀ T : Value → Prop, (∀ u ∈ z.cells.toList, T u) → (∀ u ∈ news.flatMap enc, T u) → SpareT T w v → SpareT T w' v' := by
  obtain ⟨A, cap, rfl, hc, hr⟩ := hs
  have hnl : (news.flatMap enc).length = news.length * size := len_flatMap enc size henc news
  have hsmall : n + news.length ≤ 9223372036854775807 := by simp only [maxLen] at h63; omega
  cases A with
  | none =>
    have hn : news = [] := by
      cases news with
      | nil => rfl
      | cons x r => obtain ⟨b, off, h, _⟩ := hr (by simp); cases h
    subst hn
    refine ⟨v, w, ?_, fun T _ _ h => h⟩
    rcases hown.2 with ⟨rfl, rfl⟩ | ⟨g, cap', cur, rfl, _, _, hnc, _⟩
    · simp [Builtin.append_, run_underlying ht, sizeOf, typeInfo, hi, Builtin.lenOf, Builtin.firstCells]
    · simp [Builtin.append_, run_underlying ht, sizeOf, typeInfo, hi, Builtin.lenOf, Builtin.firstCells, hnc, storeCells]
  | some ad =>
    have hcells : ∀ j u, (news.flatMap enc)[j]? = some u → w.cell? (ad.add j) = some u := by
      intro j u hu
      have hl : 0 < news.length := by
        cases news with
        | nil => simp at hu
        | cons x r => simp
      obtain ⟨b, off, h, _, hcell⟩ := hr hl
      injection h with h
      subst h
      rw [addr_add]
      exact hcell j u hu
    have h1' : ∀ u ∈ news.flatMap enc, u.oneCell' = true := fun u hu => by obtain ⟨x, _, hx⟩ := List.mem_flatMap.1 hu; exact h1 x u hx
    generalize hL : news.flatMap enc = L at *
    generalize hm : news.length = m at *
    subst hsize
    subst hby
    have newblk : ∀ (T : Value → Prop) (cs : Array Value) (k : Nat), (∀ u ∈ cs.toList, T u) → (∀ u ∈ z.cells.toList, T u) → ∀ (ll cc : Nat),
        SpareT T (w.drew.alloc (.cells (cs ++ Builtin.zeroCells z.cells k) e)) (.slice (some ⟨w.heap.size, 0, none⟩) ll cc) := by
      intro T cs k h1 h2 ll cc g cs' t' fr hg hc u hu
      have : g = w.heap.size := by simpa [Value.ownBlock] using hg.symm
      subst this
      have e1 : (w.drew.alloc (.cells (cs ++ Builtin.zeroCells z.cells k) e)).heap[w.heap.size]? = some (.cells (cs ++ Builtin.zeroCells z.cells k) e) := heap_alloc_new w.drew _
      rw [e1] at hc
      injection hc with hc
      injection hc with hc _ _
      subst hc
      rw [Array.toList_append, List.mem_append] at hu
      rcases hu with hu | hu
      · exact h1 u hu
      · exact h2 u (mem_zeroCells hu)
    rcases hown.2 with ⟨rfl, rfl⟩ | ⟨g, cp, cur, rfl, hbg, hg, hnc, hcm, hcs, htake⟩
    · by_cases hm0 : m = 0
      · subst hm0
        have hLn : L = [] := List.eq_nil_of_length_eq_zero (by rw [hnl]; simp)
        refine ⟨.slice none 0 0, w, ?_, fun T _ _ h => h⟩
        simp [Builtin.append_, run_underlying ht, sizeOf, typeInfo, hi, Builtin.lenOf, Builtin.firstCells, loadCells, loadCellsFrom]
      · have hr' := run_append_nil (P := P) w t ty e i z ht hi hz ad m cap L hnl hcells (by omega) (by omega) (by have hb := hbytes; simp only [Nat.zero_add] at hb; omega)
        exact ⟨_, _, hr', fun T h2 h3 _ => newblk T L.toArray _ (by simpa using h3) h2 _ _⟩
    · have hlen : L.length = m * i.size := hnl
      by_cases hroom : n + m ≤ cp
      · have hfit : n * i.size + L.length ≤ cur.size := by rw [hlen, hcs, ← Nat.add_mul]; exact Nat.mul_le_mul_right _ hroom
        have hr' := run_append_room (P := P) w t ty e i ht hi g n cp cur hg ad m cap L hlen hcells h1' hroom hfit
        refine ⟨_, _, hr', fun T h2 h3 h4 g' cs' t' fr hg' hc' u hu => ?_⟩
        have : g' = g := by simpa [Value.ownBlock] using hg'.symm
        subst this
        have e1 := setRow_heap w g' cur ((cur.toList.take (n * i.size) ++ L ++ cur.toList.drop (n * i.size + L.length)).toArray) e (0, 0) hg
        rw [e1] at hc'
        injection hc' with hc'
        injection hc' with hc' _ _
        subst hc'
        have hold : ∀ u ∈ cur.toList, T u := h4 g' cur e (0, 0) rfl hg
        simp only [List.mem_append] at hu
        rcases hu with (hu | hu) | hu
        · exact hold u (List.mem_of_mem_take hu)
        · exact h3 u hu
        · exact hold u (List.mem_of_mem_drop hu)
      · have holds : ∀ j u, xs[j]? = some u → w.cell? ((⟨g, 0, none⟩ : Addr).add j) = some u := hown.cells (g := g) rfl
        have hr' := run_append_grow (P := P) w t ty e i z ht hi hz ⟨g, 0, none⟩ n cp xs hown.1 holds ad m cap L hlen hcells (by omega) (by omega) (growslice_fits (by omega) hbytes)
        refine ⟨_, _, hr', fun T h2 h3 h4 => newblk T (xs.toArray ++ L.toArray) _ (fun u hu => ?_) h2 _ _⟩
        simp only [Array.toList_append, List.mem_append] at hu
        rcases hu with hu | hu
        · refine h4 g cur e (0, 0) rfl hg u ?_
          rw [← htake] at hu
          exact List.mem_of_mem_take hu
        · exact h3 u hu

theorem wp_append_st {α : Type} (enc : α → List Value) {o : Oper} {a : Act} {K : Act → World → Prop} {Q : Exit → Act → World → Prop} (s x : Operand) (t : TypeId)
    (ho : o.op = .call { callee := .builtin .append, args := #[s, x], argTypes := #[t, t] })
    (base : Nat) (e : TypeId) (i : TypeInfo) (z : Value) (size bytes : Nat) (ht : P.underlying t = some (.slice e)) (hi : P.info? e = some i) (hz : i.zero = some z)
    (hsize : i.size = size) (hby : i.bytes = bytes) (hzs : z.cells.size = size) (hsz : 0 < size)
    (v : Value) (n : Nat) (xs : List Value) (hsv : a.eval s = v) (hown : w.ownsRow base e size v n xs)
    (sv : Value) (news : List α) (hxv : a.eval x = sv) (hs : SL enc w sv news) (henc : ∀ x, (enc x).length = size) (h1 : ∀ x, ∀ u ∈ enc x, u.oneCell' = true)
    (h63 : n + news.length ≤ maxLen) (hbytes : (n + news.length) * bytes ≤ 140737488355328) (hbase : base ≤ w.heap.size)
    (h : ∀ v' w', w'.ownsRow base e size v' (n + news.length) (xs ++ news.flatMap enc) → Fr w w' (fun k => v.ownBlock = some k) → (v'.ownBlock = v.ownBlock ∨ v'.ownBlock = some w.heap.size) →
      (∀ T : Value → Prop, (∀ u ∈ z.cells.toList, T u) → (∀ u ∈ news.flatMap enc, T u) → SpareT T w v → SpareT T w' v') → K (a.put o.dst v') w') : o.wp P a w K Q := by
  obtain ⟨v', w', hrun, h2, h3, h4⟩ := run_append_sl (P := P) w enc base t o.type e i z size bytes ht hi hz hsize hby hzs hsz v n xs hown sv news hs henc h1 h63 hbytes hbase
  obtain ⟨v2, w2, hrun2, h5⟩ := append_spare (P := P) w enc base t o.type e i z size bytes ht hi hz hsize hby hzs hsz v n xs hown sv news hs henc h1 h63 hbytes
  rw [hrun] at hrun2
  injection hrun2 with e1 e2
  subst e1
  subst e2
  unfold Oper.wp execOp
  simp only [ho, resolve, invoke, builtin, Sem.run_bind, Sem.run_pure, Result.andThen_ok, List.map_toArray, List.map_cons, List.map_nil, hsv, hxv, hrun]
  exact h v' w' h2 h3 h4 h5

theorem wpList_append_st {α : Type} (enc : α → List Value) {ops : Array Oper} {rest : List Oper} {o : Oper} {a : Act} {Q : Exit → Act → World → Prop} (hgd : o.guard = none) (s x : Operand) (t : TypeId)
    (ho : o.op = .call { callee := .builtin .append, args := #[s, x], argTypes := #[t, t] })
    (base : Nat) (e : TypeId) (i : TypeInfo) (z : Value) (size bytes : Nat) (ht : P.underlying t = some (.slice e)) (hi : P.info? e = some i) (hz : i.zero = some z)
    (hsize : i.size = size) (hby : i.bytes = bytes) (hzs : z.cells.size = size) (hsz : 0 < size)
    (v : Value) (n : Nat) (xs : List Value) (hsv : a.eval s = v) (hown : w.ownsRow base e size v n xs)
    (sv : Value) (news : List α) (hxv : a.eval x = sv) (hs : SL enc w sv news) (henc : ∀ x, (enc x).length = size) (h1 : ∀ x, ∀ u ∈ enc x, u.oneCell' = true)
    (h63 : n + news.length ≤ maxLen) (hbytes : (n + news.length) * bytes ≤ 140737488355328) (hbase : base ≤ w.heap.size)
    (h : ∀ v' w', w'.ownsRow base e size v' (n + news.length) (xs ++ news.flatMap enc) → Fr w w' (fun k => v.ownBlock = some k) → (v'.ownBlock = v.ownBlock ∨ v'.ownBlock = some w.heap.size) →
      (∀ T : Value → Prop, (∀ u ∈ z.cells.toList, T u) → (∀ u ∈ news.flatMap enc, T u) → SpareT T w v → SpareT T w' v') → wpList P ops Q rest (a.put o.dst v') w') :
    wpList P ops Q (o :: rest) a w :=
  wpList_plain hgd fun _ hK => wp_append_st w enc s x t ho base e i z size bytes ht hi hz hsize hby hzs hsz v n xs hsv hown sv news hxv hs henc h1 h63 hbytes hbase fun v' w' h2 h3 h4 h5 => hK _ _ (h v' w' h2 h3 h4 h5)
end

/-- a new block of one element reads as a slice -/
theorem sl_one {α : Type} {enc : α → List Value} (w : World) (x : α) (cs : Array Value) (hcs : cs.toList = enc x) (t : TypeId) : SL enc (w.alloc (.cells cs t)) (.slice (some ⟨w.heap.size, 0, none⟩) 1 1) [x] := by
  refine ⟨_, 1, rfl, by simp, fun _ => ⟨w.heap.size, 0, rfl, by simp, fun i u hu => ?_⟩⟩
  rw [Nat.zero_add, World.cell?_alloc_new, ← Array.getElem?_toList, hcs]
  simpa using hu
end Go.Proofs.Ytmjpghaggnpdbaa
