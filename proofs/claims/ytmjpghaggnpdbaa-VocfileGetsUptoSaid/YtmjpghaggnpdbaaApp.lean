/- append of a slice that is read, onto a row of the call's own. No program. -/
import Derived.Test.YtmjpghaggnpdbaaSl
import Derived.Maps.AppendAt
import Derived.Deep.AppendLies
import Derived.RegionTactic
set_option linter.unusedVariables false
set_option linter.unusedSimpArgs false
namespace Go.Proofs.Ytmjpghaggnpdbaa
open Go.RowKit

theorem addr_add (b off j : Nat) : (⟨b, off, none⟩ : Addr).add j = ⟨b, off + j, none⟩ := by
  unfold Addr.add; split
  · rename_i h; subst h; rfl
  · rfl

section
variable {P : Program} (w : World)
theorem run_append_sl {α : Type} (enc : α → List Value) (base : Nat) (t ty e : TypeId) (i : TypeInfo) (z : Value) (size bytes : Nat) (ht : P.underlying t = some (.slice e)) (hi : P.info? e = some i) (hz : i.zero = some z)
    (hsize : i.size = size) (hby : i.bytes = bytes) (hzs : z.cells.size = size) (hsz : 0 < size)
    (v : Value) (n : Nat) (xs : List Value) (hown : w.ownsRow base e size v n xs)
    (sv : Value) (news : List α) (hs : SL enc w sv news) (henc : ∀ x, (enc x).length = size) (h1 : ∀ x, ∀ u ∈ enc x, u.oneCell' = true)
    (h63 : n + news.length ≤ maxLen) (hbytes : (n + news.length) * bytes ≤ 140737488355328) (hbase : base ≤ w.heap.size) :
    ∃ v' w', (Builtin.append_ #[t, t] ty #[v, sv]).run P w = .ok v' w' ∧ w'.ownsRow base e size v' (n + news.length) (xs ++ news.flatMap enc) ∧ Fr w w' (fun k => v.ownBlock = some k) ∧
      (v'.ownBlock = v.ownBlock ∨ v'.ownBlock = some w.heap.size) := by
  obtain ⟨A, cap, rfl, hc, hr⟩ := hs
  cases A with
  | none =>
    have hn : news = [] := by
      cases news with
      | nil => rfl
      | cons x r => obtain ⟨b, off, h, _⟩ := hr (by simp); cases h
    subst hn
    refine ⟨v, w, ?_, by simpa using hown, Fr.refl _ _, .inl rfl⟩
    rcases hown.2 with ⟨rfl, rfl⟩ | ⟨g, cap', cur, rfl, _, _, hnc, _⟩
    · simp [Builtin.append_, run_underlying ht, sizeOf, typeInfo, hi, Builtin.lenOf, Builtin.firstCells]
    · simp [Builtin.append_, run_underlying ht, sizeOf, typeInfo, hi, Builtin.lenOf, Builtin.firstCells, hnc, storeCells]
  | some ad =>
    have hcells : ∀ j u, (news.flatMap enc)[j]? = some u → w.cell? (ad.add j) = some u := by
      intro j u hu
      have hl : 0 < news.length := by
        cases news with
        | nil => simp at hu
        | cons x r => simp
      obtain ⟨b, off, h, _, hcell⟩ := hr hl
      injection h with h
      subst h
      rw [addr_add]
      exact hcell j u hu
    obtain ⟨v', w', hrun, h2, h3, _, h5⟩ := run_append_own_at (P := P) w base t ty e i z size bytes ht hi hz hsize hby hzs hsz v n xs hown ad news.length cap (news.flatMap enc) (len_flatMap enc size henc news) hcells
      (fun u hu => by obtain ⟨x, _, hx⟩ := List.mem_flatMap.1 hu; exact h1 x u hx) h63 hbytes hbase
    exact ⟨v', w', hrun, h2, ⟨h3.os, h3.tape, h3.output, h3.size, fun k hk hn => h3.block k hk (fun e => hn e.symm)⟩, h5⟩

theorem wp_append_sl {α : Type} (enc : α → List Value) {o : Oper} {a : Act} {K : Act → World → Prop} {Q : Exit → Act → World → Prop} (s x : Operand) (t : TypeId)
    (ho : o.op = .call { callee := .builtin .append, args := #[s, x], argTypes := #[t, t] })
    (base : Nat) (e : TypeId) (i : TypeInfo) (z : Value) (size bytes : Nat) (ht : P.underlying t = some (.slice e)) (hi : P.info? e = some i) (hz : i.zero = some z)
    (hsize : i.size = size) (hby : i.bytes = bytes) (hzs : z.cells.size = size) (hsz : 0 < size)
    (v : Value) (n : Nat) (xs : List Value) (hsv : a.eval s = v) (hown : w.ownsRow base e size v n xs)
    (sv : Value) (news : List α) (hxv : a.eval x = sv) (hs : SL enc w sv news) (henc : ∀ x, (enc x).length = size) (h1 : ∀ x, ∀ u ∈ enc x, u.oneCell' = true)
    (h63 : n + news.length ≤ maxLen) (hbytes : (n + news.length) * bytes ≤ 140737488355328) (hbase : base ≤ w.heap.size)
    (h : ∀ v' w', w'.ownsRow base e size v' (n + news.length) (xs ++ news.flatMap enc) → Fr w w' (fun k => v.ownBlock = some k) → (v'.ownBlock = v.ownBlock ∨ v'.ownBlock = some w.heap.size) → K (a.put o.dst v') w') : o.wp P a w K Q := by
  obtain ⟨v', w', hrun, h2, h3, h4⟩ := run_append_sl (P := P) w enc base t o.type e i z size bytes ht hi hz hsize hby hzs hsz v n xs hown sv news hs henc h1 h63 hbytes hbase
  unfold Oper.wp execOp
  simp only [ho, resolve, invoke, builtin, Sem.run_bind, Sem.run_pure, Result.andThen_ok, List.map_toArray, List.map_cons, List.map_nil, hsv, hxv, hrun]
  exact h v' w' h2 h3 h4

/-- at the list of a plain region's operations -/
theorem wpList_append_sl {α : Type} (enc : α → List Value) {ops : Array Oper} {rest : List Oper} {o : Oper} {a : Act} {Q : Exit → Act → World → Prop} (hgd : o.guard = none) (s x : Operand) (t : TypeId)
    (ho : o.op = .call { callee := .builtin .append, args := #[s, x], argTypes := #[t, t] })
    (base : Nat) (e : TypeId) (i : TypeInfo) (z : Value) (size bytes : Nat) (ht : P.underlying t = some (.slice e)) (hi : P.info? e = some i) (hz : i.zero = some z)
    (hsize : i.size = size) (hby : i.bytes = bytes) (hzs : z.cells.size = size) (hsz : 0 < size)
    (v : Value) (n : Nat) (xs : List Value) (hsv : a.eval s = v) (hown : w.ownsRow base e size v n xs)
    (sv : Value) (news : List α) (hxv : a.eval x = sv) (hs : SL enc w sv news) (henc : ∀ x, (enc x).length = size) (h1 : ∀ x, ∀ u ∈ enc x, u.oneCell' = true)
    (h63 : n + news.length ≤ maxLen) (hbytes : (n + news.length) * bytes ≤ 140737488355328) (hbase : base ≤ w.heap.size)
    (h : ∀ v' w', w'.ownsRow base e size v' (n + news.length) (xs ++ news.flatMap enc) → Fr w w' (fun k => v.ownBlock = some k) → (v'.ownBlock = v.ownBlock ∨ v'.ownBlock = some w.heap.size) → wpList P ops Q rest (a.put o.dst v') w') :
    wpList P ops Q (o :: rest) a w :=
  wpList_plain hgd fun _ hK => wp_append_sl w enc s x t ho base e i z size bytes ht hi hz hsize hby hzs hsz v n xs hsv hown sv news hxv hs henc h1 h63 hbytes hbase fun v' w' h2 h3 h4 => hK _ _ (h v' w' h2 h3 h4)

/-- at a step of a region that draws -/
theorem step_append_sl {α : Type} (enc : α → List Value) {ops : Array Oper} {o : Oper} {a : Act} {K : Act → World → Prop} {Q : Exit → Act → World → Prop} {E : Prop} (hgd : o.guard = none) (s x : Operand) (t : TypeId)
    (ho : o.op = .call { callee := .builtin .append, args := #[s, x], argTypes := #[t, t] })
    (base : Nat) (e : TypeId) (i : TypeInfo) (z : Value) (size bytes : Nat) (ht : P.underlying t = some (.slice e)) (hi : P.info? e = some i) (hz : i.zero = some z)
    (hsize : i.size = size) (hby : i.bytes = bytes) (hzs : z.cells.size = size) (hsz : 0 < size)
    (v : Value) (n : Nat) (xs : List Value) (hsv : a.eval s = v) (hown : w.ownsRow base e size v n xs)
    (sv : Value) (news : List α) (hxv : a.eval x = sv) (hs : SL enc w sv news) (henc : ∀ x, (enc x).length = size) (h1 : ∀ x, ∀ u ∈ enc x, u.oneCell' = true)
    (h63 : n + news.length ≤ maxLen) (hbytes : (n + news.length) * bytes ≤ 140737488355328) (hbase : base ≤ w.heap.size)
    (h : ∀ v' w', w'.ownsRow base e size v' (n + news.length) (xs ++ news.flatMap enc) → Fr w w' (fun k => v.ownBlock = some k) → (v'.ownBlock = v.ownBlock ∨ v'.ownBlock = some w.heap.size) → K (a.put o.dst v') w') :
    if Region.wanted o (yielded ops a.tmps) = true then Oper.wp P o a w K Q else E := by
  have hw : Region.wanted o (yielded ops a.tmps) = true := by simp [Region.wanted, hgd]
  rw [if_pos hw]
  exact wp_append_sl w enc s x t ho base e i z size bytes ht hi hz hsize hby hzs hsz v n xs hsv hown sv news hxv hs henc h1 h63 hbytes hbase h
end

/-! ### cuts of a slice that is read -/
namespace SL
variable {α : Type} {enc : α → List Value} {w : World} {xs : List α}
theorem take {A : Option Addr} {n cap k : Nat} (h : SL enc w (.slice A n cap) xs) (hk : k ≤ xs.length) : SL enc w (.slice A k cap) (xs.take k) := by
  obtain ⟨A', cap', hv, hc, hr⟩ := h
  obtain ⟨rfl, _, rfl⟩ : A = A' ∧ n = xs.length ∧ cap = cap' := by simpa using hv
  have hl : (xs.take k).length = k := by rw [List.length_take, Nat.min_eq_left hk]
  refine ⟨A, cap, by rw [hl], by omega, fun h0 => ?_⟩
  obtain ⟨b, off, e, hb, hcell⟩ := hr (by omega)
  refine ⟨b, off, e, hb, fun i u hu => hcell i u ?_⟩
  have : xs.flatMap enc = (xs.take k).flatMap enc ++ (xs.drop k).flatMap enc := by rw [← List.flatMap_append, List.take_append_drop]
  rw [this, List.getElem?_append_left (List.getElem?_eq_some_iff.1 hu).1]
  exact hu
/-- the slice from element k on -/
theorem drop {b off n cap k s : Nat} (h : SL enc w (.slice (some ⟨b, off, none⟩) n cap) xs) (hs : ∀ x, (enc x).length = s) (hk : k ≤ xs.length) :
    SL enc w (.slice (some ⟨b, off + k * s, none⟩) (n - k) (cap - k)) (xs.drop k) := by
  obtain ⟨A', cap', hv, hc, hr⟩ := h
  obtain ⟨rfl, rfl, rfl⟩ : some ⟨b, off, none⟩ = A' ∧ n = xs.length ∧ cap = cap' := by simpa using hv
  refine ⟨_, cap - k, by rw [List.length_drop], by rw [List.length_drop]; omega, fun h0 => ?_⟩
  rw [List.length_drop] at h0
  obtain ⟨b', off', e, hb, hcell⟩ := hr (by omega)
  obtain ⟨rfl, rfl⟩ : b = b' ∧ off = off' := by simpa using e
  refine ⟨b, off + k * s, rfl, hb, fun i u hu => ?_⟩
  rw [Nat.add_assoc]
  refine hcell _ u ?_
  have e1 : xs.flatMap enc = (xs.take k).flatMap enc ++ (xs.drop k).flatMap enc := by rw [← List.flatMap_append, List.take_append_drop]
  have e2 : ((xs.take k).flatMap enc).length = k * s := by rw [len_flatMap enc s hs, List.length_take, Nat.min_eq_left hk]
  rw [e1, List.getElem?_append_right (by rw [e2]; omega), e2, Nat.add_sub_cancel_left]
  exact hu
theorem empty (w : World) (A : Option Addr) (cap : Nat) : SL enc w (.slice A 0 cap) [] := ⟨A, cap, rfl, Nat.zero_le _, fun h => absurd h (by simp)⟩
/-- two readings of one slice -/
theorem len {v : Value} (h : SL enc w v xs) : ∃ A cap, v = .slice A xs.length cap ∧ xs.length ≤ cap := by
  obtain ⟨A, cap, hv, hc, _⟩ := h
  exact ⟨A, cap, hv, hc⟩
end SL

/-- 'x[:k]' -/
theorem run_slice_to {P : Program} (t e : TypeId) (i : TypeInfo) (ht : P.underlying t = some (.slice e)) (hi : P.info? e = some i) (A : Option Addr) (n cap k : Nat) (hk : k ≤ cap) (w : World) :
    (Instr.slice t (.slice A n cap) none (some (.int .i64 (k : Int))) none).run P w = .ok (.slice A k cap) w := by
  have e1 : (if cap = 0 then A else A.map (fun x => x.add (0 * i.size))) = A := by
    split
    · rfl
    · cases A <;> simp [Addr.add]
  have h1 : (0 : Int) ≤ k ∧ (k : Int) ≤ cap := by omega
  simp [Instr.slice, Instr.sliceBounds, run_underlying ht, sizeOf, typeInfo, hi, go_sem, h1]
  try (cases A <;> simp [Addr.add])
/-- 'x[k:]' -/
theorem run_slice_from {P : Program} (t e : TypeId) (i : TypeInfo) (size : Nat) (ht : P.underlying t = some (.slice e)) (hi : P.info? e = some i) (hsz : i.size = size) (A : Option Addr) (n cap k : Nat) (hk : k ≤ n) (w : World) :
    (Instr.slice t (.slice A n cap) (some (.int .i64 (k : Int))) none none).run P w = .ok (.slice (if cap = k then A else A.map (fun x => x.add (k * size))) (n - k) (cap - k)) w := by
  have h1 : (0 : Int) ≤ k ∧ (k : Int) ≤ n := by omega
  simp [Instr.slice, Instr.sliceBounds, run_underlying ht, sizeOf, typeInfo, hi, go_sem, h1, hsz]
theorem SL.from_ {α : Type} {enc : α → List Value} {w : World} {xs : List α} {A : Option Addr} {n cap k s : Nat} (h : SL enc w (.slice A n cap) xs) (hs : ∀ x, (enc x).length = s) (hk : k ≤ n) :
    SL enc w (.slice (if cap = k then A else A.map (fun x => x.add (k * s))) (n - k) (cap - k)) (xs.drop k) := by
  obtain ⟨A', cap', hv, hc, hr⟩ := h
  obtain ⟨rfl, rfl, rfl⟩ : A = A' ∧ n = xs.length ∧ cap = cap' := by simpa using hv
  by_cases h0 : k < xs.length
  · obtain ⟨b, off, rfl, hb, hcell⟩ := hr (by omega)
    rw [if_neg (by omega)]
    have := SL.drop (b := b) (off := off) (n := xs.length) (cap := cap) (k := k) (s := s) ⟨_, cap, rfl, hc, fun _ => ⟨b, off, rfl, hb, hcell⟩⟩ hs hk
    simpa [addr_add] using this
  · have e : xs.drop k = [] := List.drop_eq_nil_of_le (by omega)
    rw [e]
    have e2 : xs.length - k = 0 := by omega
    rw [e2]
    exact SL.empty _ _ _

/-- 'x[k:]', the value behind a letter -/
theorem slice_from_ex {P : Program} {α : Type} (enc : α → List Value) (t e : TypeId) (i : TypeInfo) (size : Nat) (ht : P.underlying t = some (.slice e)) (hi : P.info? e = some i) (hsz : i.size = size) (hs : ∀ x, (enc x).length = size) (A : Option Addr) (n cap k : Nat) (hk : k ≤ n) :
    ∃ S, (∀ w, (Instr.slice t (.slice A n cap) (some (.int .i64 (k : Int))) none none).run P w = .ok S w) ∧ (∀ w (xs : List α), SL enc w (.slice A n cap) xs → SL enc w S (xs.drop k)) ∧ (S.ownBlock = Value.ownBlock (.slice A n cap)) :=
  ⟨_, fun w => run_slice_from t e i size ht hi hsz A n cap k hk w, fun w xs h => h.from_ hs hk, by
    cases A with
    | none => simp [Value.ownBlock]
    | some a => by_cases h : cap = k <;> simp [Value.ownBlock, h, Addr.add] <;> split <;> rfl⟩

/-- only draws -/
def Dr (w w' : World) : Prop := ∃ n, w' = w.drewN n
theorem Dr.refl (w : World) : Dr w w := ⟨0, rfl⟩
theorem Dr.drewN {w w' : World} (h : Dr w w') (n : Nat) : Dr w (w'.drewN n) := by obtain ⟨m, rfl⟩ := h; exact ⟨m + n, World.drewN_drewN ..⟩
theorem Dr.drew {w w' : World} (h : Dr w w') : Dr w w'.drew := h.drewN 1
theorem Dr.gr {w w' : World} (h : Dr w w') : Gr w w' := by obtain ⟨m, rfl⟩ := h; exact (Fr.refl w _).drewN m
theorem Dr.trans {a b c : World} (h : Dr a b) (k : Dr b c) : Dr a c := by obtain ⟨m, rfl⟩ := k; exact h.drewN m
end Go.Proofs.Ytmjpghaggnpdbaa
