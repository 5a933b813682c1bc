/- vocab: what is seen, in memory; take of a byte. Steps at a map's operations in a region that draws; takes laid by a word. No program. vocab: take of a byte. vocab: take of a join. vocab: look, and Check. vocab: Check. vocab: what pieces stand for, in plain Lean; rows of bytes and of numbers. vocab: what a right Vocab holds, in plain Lean. vocab: which token a byte is, which join two tokens have, in plain Lean. -/
import Derived.Test.YtlodbhlidgepfaaVPlain
import Derived.Test.YtlodbhlidgepfaaLib
import Derived.Test.YtlodbhlidgepfaaRows
import Derived.BigQuiet
import Derived.BigRegion
import Derived.Deep.QuietTactic
import Derived.Deep.LoopGhost
import Derived.Deep.DeepCutAuto
import Derived.Deep.CutBlock
import Derived.Deep.WholeRow
import Derived.Deep.RegionHeld3
import Derived.Laws.StructEq
import Derived.WideMake
import Derived.OwnWalk
set_option linter.unusedVariables false
set_option linter.unusedSimpArgs false
namespace Go.Proofs.Ytlodbhlidgepfaa
open Go.RowKit
namespace Voc
abbrev TPc : TypeId := 68
abbrev TSn : TypeId := 132
abbrev MT1 : TypeId := 129
abbrev MT2 : TypeId := 116
abbrev MT3 : TypeId := 130
def encN (n : Nat) : List Value := [.int .i64 (n : Int)]
theorem encN_one : ∀ x : Nat, ∀ u ∈ encN x, u.oneCell' = true := by intro x u hu; simp [encN] at hu; subst hu; rfl
theorem info_int : (Try.prog.info? 3).map (fun i => (i.zero, i.size, i.bytes)) = some (some (.int .i64 0), 1, 8) := by kernel_rfl
theorem K1 : Maps.Keyed Try.prog 5 := Maps.int_keyed Try.underlying5
theorem K3 : Maps.Keyed Try.prog 66 := Maps.int_keyed Try.underlying66
theorem A2 : WideMaps.ArrKey Try.prog 120 3 2 := ⟨Try.underlying120, by kernel_rfl, by kernel_rfl, by kernel_rfl⟩
theorem K2 : Maps.Keyed Try.prog 120 := Maps.Keyed.of_law A2.law
theorem zeroI (w : World) : (zeroValue 3).run Try.prog w = .ok (.int .i64 0) w := by kernel_rfl
theorem tsz : ∃ m, Try.prog.types.size = m + 1 := ⟨Try.prog.types.size - 1, by kernel_rfl⟩

/-- what is seen: block p, three maps, the sizes -/
structure SN (w : World) (base p : Nat) (ps : List Pc) (sz : List Nat) (sv : Value) (b1 b2 b3 : Nat) : Prop where
  bs : base ≤ p ∧ base ≤ b1 ∧ base ≤ b2 ∧ base ≤ b3
  blk : Blk w p TSn #[sv, .map (some b1), .map (some b2), .map (some b3)]
  own : w.ownsRow base 3 1 sv ps.length (sz.flatMap encN)
  m1 : MB w b1 (be ps)
  m2 : MB w b2 (pe ps)
  m3 : MB w b3 (re ps)
  ne : b1 ≠ b2 ∧ b1 ≠ b3 ∧ b2 ≠ b3
  len : sz.length = ps.length
def SS (p b1 b2 b3 : Nat) (sv : Value) : Nat → Prop := fun k => k = p ∨ k = b1 ∨ k = b2 ∨ k = b3 ∨ sv.ownBlock = some k
section
variable {w w' : World} {base p b1 b2 b3 : Nat} {ps : List Pc} {sz : List Nat} {sv : Value}
theorem SN.gr (H : SN w base p ps sz sv b1 b2 b3) (hg : Gr w w') : SN w' base p ps sz sv b1 b2 b3 :=
  ⟨H.bs, H.blk.fr hg (fun h => h), hg.owns H.own (fun _ _ h => h), H.m1.fr hg (fun h => h), H.m2.fr hg (fun h => h), H.m3.fr hg (fun h => h), H.ne, H.len⟩
theorem own_map {g : Nat} {l : List (Value × Value)} {base n : Nat} {e : TypeId} {s : Nat} {v : Value} {xs : List Value} (h : w.ownsRow base e s v n xs) (hm : MB w g l) : v.ownBlock ≠ some g := by
  rcases h.2 with ⟨rfl, _⟩ | ⟨g', cap, cur, rfl, _, hh, _⟩
  · simp [Value.ownBlock]
  · intro he
    have : g' = g := by simpa [Value.ownBlock] using he
    subst this
    unfold MB at hm
    rw [hh] at hm; cases hm
/-- all keys are keys -/
theorem keys1 (h : ∀ q ∈ ps, wfP q) : ∀ x ∈ be ps, ∃ lx, keyOf Try.prog 5 x.1 = some lx := by
  intro x hx
  obtain ⟨q, i, hi, _, rfl⟩ := mem_be hx
  exact ⟨_, Maps.keyOf_int_mk Try.underlying5 (h q (List.mem_of_getElem? hi)).1⟩
theorem keys2 (h : ∀ q ∈ ps, wfP q) : ∀ x ∈ pe ps, ∃ lx, keyOf Try.prog 120 x.1 = some lx := by
  intro x hx
  obtain ⟨q, i, hi, _, rfl⟩ := mem_pe hx
  have hw := h q (List.mem_of_getElem? hi)
  exact ⟨_, WideMaps.keyOf_pair A2 Try.underlying3 tsz hw.2.1 hw.2.2.1⟩
theorem keys3 (h : ∀ q ∈ ps, wfP q) : ∀ x ∈ re ps, ∃ lx, keyOf Try.prog 66 x.1 = some lx := by
  intro x hx
  obtain ⟨q, i, hi, _, rfl⟩ := mem_re hx
  exact ⟨_, Maps.keyOf_int_mk Try.underlying66 (h q (List.mem_of_getElem? hi)).2.2.2⟩
end
theorem neq_piece (b l r k : Int) (w : World) : (binOp .neq TPc (.agg #[.bool false, .int .u8 b, .int .i64 l, .int .i64 r, .int .u32 k]) (.agg #[.bool false, .int .u8 b, .int .i64 0, .int .i64 0, .int .u32 0])).run Try.prog w = .ok (.bool (!(l == 0 && (r == 0 && k == 0)))) w := by
  rw [run_neq_struct]
  by_cases h1 : l = 0 <;> by_cases h2 : r = 0 <;> by_cases h3 : k = 0 <;> (try subst h1) <;> (try subst h2) <;> (try subst h3) <;> simp [go_sem, *]
end Voc
end Go.Proofs.Ytlodbhlidgepfaa

namespace Go.Proofs.Ytlodbhlidgepfaa
open Go.RowKit

section
variable {P : Program} {ops : Array Oper} {o : Oper} {a : Act} {w : World} {K : Act → World → Prop} {Q : Exit → Act → World → Prop} {E : Prop}
theorem step_lookup (hg : o.guard = none) (m x : Operand) (t : TypeId) (hop : o.op = .lookup t m x true) (M X : Value) (hm : a.eval m = M) (hx : a.eval x = X) (v : Value) (w' : World)
    (hrun : (Instr.lookup t M X true).run P w = .ok v w') (hK : K (a.put o.dst v) w') : if Region.wanted o (yielded ops a.tmps) = true then Oper.wp P o a w K Q else E := by
  have hw : Region.wanted o (yielded ops a.tmps) = true := by simp [Region.wanted, hg]
  rw [if_pos hw]
  unfold Oper.wp
  simp [execOp, hop, hm, hx, hrun, Result.andThen]
  exact hK
theorem step_mapUpdate (hg : o.guard = none) (m x y : Operand) (t : TypeId) (hop : o.op = .mapUpdate t m x y) (M X Y : Value) (hm : a.eval m = M) (hx : a.eval x = X) (hy : a.eval y = Y) (w' : World)
    (hrun : (Instr.mapUpdate t M X Y).run P w = .ok () w') (hK : K (a.put o.dst undef) w') : if Region.wanted o (yielded ops a.tmps) = true then Oper.wp P o a w K Q else E := by
  have hw : Region.wanted o (yielded ops a.tmps) = true := by simp [Region.wanted, hg]
  rw [if_pos hw]
  unfold Oper.wp
  simp [execOp, hop, hm, hx, hy, hrun, Result.andThen]
  exact hK
theorem step_mapEntry (hg : o.guard = none) (m x : Operand) (t : TypeId) (hop : o.op = .mapEntry t m x) (M X : Value) (hm : a.eval m = M) (hx : a.eval x = X) (v : Value) (w' : World)
    (hrun : (Instr.mapEntry t M X).run P w = .ok v w') (hK : K (a.put o.dst v) w') : if Region.wanted o (yielded ops a.tmps) = true then Oper.wp P o a w K Q else E := by
  have hw : Region.wanted o (yielded ops a.tmps) = true := by simp [Region.wanted, hg]
  rw [if_pos hw]
  unfold Oper.wp
  simp [execOp, hop, hm, hx, hrun, Result.andThen]
  exact hK
theorem step_entryStore (hg : o.guard = none) (m x y : Operand) (t : TypeId) (hop : o.op = .entryStore t m x y) (M X Y : Value) (hm : a.eval m = M) (hx : a.eval x = X) (hy : a.eval y = Y) (w' : World)
    (hrun : (Instr.entryStore t M X Y).run P w = .ok () w') (hK : K (a.put o.dst undef) w') : if Region.wanted o (yielded ops a.tmps) = true then Oper.wp P o a w K Q else E := by
  have hw : Region.wanted o (yielded ops a.tmps) = true := by simp [Region.wanted, hg]
  rw [if_pos hw]
  unfold Oper.wp
  simp [execOp, hop, hm, hx, hy, hrun, Result.andThen]
  exact hK
end

theorem Fr.drew0 {w w' : World} {S : Nat → Prop} (h : Fr w.drew w' S) : Fr w w' S := ⟨h.os, h.tape.trans rfl, h.output, h.size, h.block⟩
end Go.Proofs.Ytlodbhlidgepfaa

namespace Go.Proofs.Ytlodbhlidgepfaa
open Go.RowKit
namespace Voc
theorem SN.cells {w : World} {base p b1 b2 b3 : Nat} {ps : List Pc} {sz : List Nat} {sv : Value} (H : SN w base p ps sz sv b1 b2 b3) :
    w.cell? ⟨p, 0, none⟩ = some sv ∧ w.cell? ⟨p, 1, none⟩ = some (.map (some b1)) ∧ w.cell? ⟨p, 2, none⟩ = some (.map (some b2)) ∧ w.cell? ⟨p, 3, none⟩ = some (.map (some b3)) := by
  refine ⟨?_, ?_, ?_, ?_⟩ <;> rw [H.blk.cell] <;> rfl

theorem own_formN {w : World} {base n s : Nat} {e : TypeId} {lv : Value} {xs : List Value} (h : w.ownsRow base e s lv n xs) : ∃ A cap, lv = .slice A n cap := by
  rcases h.2 with ⟨rfl, rfl⟩ | ⟨g, cap, cur, rfl, _⟩
  · exact ⟨_, _, rfl⟩
  · exact ⟨_, _, rfl⟩
theorem TSn_int : (3 : TypeId) ≠ TSn := by decide
/-- a piece more: the maps know it, the sizes are longer -/
theorem SN.push {w w2 w3 : World} {base p b1 b2 b3 : Nat} {ps : List Pc} {sz : List Nat} {sv sv' : Value} (H : SN w base p ps sz sv b1 b2 b3) (q : Pc) (n : Nat)
    (h12 : Fr w w2 (fun k => k = b1 ∨ k = b2 ∨ k = b3)) (m1 : MB w2 b1 (be (ps ++ [q]))) (m2 : MB w2 b2 (pe (ps ++ [q]))) (m3 : MB w2 b3 (re (ps ++ [q])))
    (h23 : Fr w2 w3 (fun k => sv.ownBlock = some k)) (own3 : w3.ownsRow base 3 1 sv' (ps.length + 1) ((sz ++ [n]).flatMap encN)) :
    SN (w3.setCell ⟨p, 0, none⟩ sv') base p (ps ++ [q]) (sz ++ [n]) sv' b1 b2 b3 ∧ Fr w (w3.setCell ⟨p, 0, none⟩ sv') (SS p b1 b2 b3 sv) := by
  have n1 := H.m1.ne H.blk
  have n2 := H.m2.ne H.blk
  have n3 := H.m3.ne H.blk
  have o1 := own_map H.own H.m1
  have o2 := own_map H.own H.m2
  have o3 := own_map H.own H.m3
  have hB2 : Blk w2 p TSn _ := H.blk.fr h12 (by rintro (rfl | rfl | rfl) <;> contradiction)
  have hB3 : Blk w3 p TSn _ := hB2.fr h23 (own_blk_ne H.own H.blk TSn_int)
  have h34 : Fr w3 (w3.setCell ⟨p, 0, none⟩ sv') (fun k => k = p) := (Fr.refl w3 (fun k => k = p)).setCell (p := ⟨p, 0, none⟩) (fun _ => rfl) sv'
  refine ⟨⟨H.bs, hB3.set_ 0 sv', ?_, (m1.fr h23 o1).fr h34 n1, (m2.fr h23 o2).fr h34 n2, (m3.fr h23 o3).fr h34 n3, H.ne, by simp [H.len]⟩, ?_⟩
  · rw [List.length_append, List.length_singleton]
    exact h34.owns own3 (fun k hk e => own_blk_ne own3 hB3 TSn_int (e ▸ hk))
  · refine ((h12.mono (T := SS p b1 b2 b3 sv) ?_).trans h23 ?_).trans h34 ?_
    · rintro k _ (rfl | rfl | rfl)
      · exact .inr (.inl rfl)
      · exact .inr (.inr (.inl rfl))
      · exact .inr (.inr (.inr (.inl rfl)))
    · exact fun k _ h => .inr (.inr (.inr (.inr h)))
    · exact fun k _ h => .inl h
set_option maxRecDepth 20000 in
theorem take_byte {w : World} {base p b1 b2 b3 : Nat} {ps : List Pc} {sz : List Nat} {sv : Value} (b l r k : Int) (H : SN w base p ps sz sv b1 b2 b3) (hps : ∀ q ∈ ps, wfP q) (hq : wfP ⟨false, b, l, r, k⟩) (hn : ps.length < 4096) (hb : base ≤ w.heap.size) (E : Int) (hE : stepE ps sz ⟨false, b, l, r, k⟩ = E) :
    Calls Try.prog 62 #[.pointer (some ⟨p, 0, none⟩), .int .i64 (ps.length : Int), .agg (encP ⟨false, b, l, r, k⟩).toArray] w fun e w' => e = .returned (.int .i64 E) ∧
      ((E ≠ 0 ∧ Gr w w') ∨ (E = 0 ∧ Fr w w' (SS p b1 b2 b3 sv) ∧ ∃ sv', SN w' base p (ps ++ [⟨false, b, l, r, k⟩]) (sz ++ [1]) sv' b1 b2 b3)) := by
  have HS := Lib.hid H
  have Hq := Lib.hid hq
  have Hps := Lib.hid hps
  have Hn := Lib.hid (And.intro hn hb)
  have HE := Lib.hid hE
  clear H hps hq hn hb hE
  simp only [encP]
  go_enter Try.func62, Try.ntmps62
  go_upto_region 2 with (fail)
  have HB := Lib.hid (Blk.new w TPc #[.bool false, .int .u8 b, .int .i64 l, .int .i64 r, .int .u32 k])
  have HG := Lib.hid ((Fr.refl w NoneS).alloc (.cells #[.bool false, .int .u8 b, .int .i64 l, .int .i64 r, .int .u32 k] TPc))
  have HS1 := Lib.hid (HS.out.gr HG.out)
  generalize w.heap.size = q5 at HB ⊢
  generalize World.alloc w _ = w1 at HB HG HS1 ⊢
  have f0 : w1.cell? ⟨q5, 0, none⟩ = some (.bool false) := by rw [HB.out.cell]; rfl
  have f1 : w1.cell? ⟨q5, 1, none⟩ = some (.int .u8 b) := by rw [HB.out.cell]; rfl
  have f2 : w1.cell? ⟨q5, 2, none⟩ = some (.int .i64 l) := by rw [HB.out.cell]; rfl
  have f3 : w1.cell? ⟨q5, 3, none⟩ = some (.int .i64 r) := by rw [HB.out.cell]; rfl
  have f4 : w1.cell? ⟨q5, 4, none⟩ = some (.int .u32 k) := by rw [HB.out.cell]; rfl
  by_cases hz : l = 0 ∧ r = 0 ∧ k = 0
  case neg =>
    have e5 : E = 5 := by rw [← HE.out]; simp only [stepE, if_true]; rw [if_pos hz]
    clear HE
    have hz' := Lib.hid hz
    clear hz
    have He5 := Lib.hid e5
    clear e5
    go_wp2_with fail
    all_goals first
      | (go_ret; exact ⟨by rw [He5.out]; rfl, .inl ⟨by rw [He5.out]; decide, HG.out⟩⟩)
      | (exfalso; exact hz'.out ⟨by assumption, by assumption, by assumption⟩)
  obtain ⟨rfl, rfl, rfl⟩ := hz
  have ex : E = if ps.any (sameB ⟨false, b, 0, 0, 0⟩) then 8 else 0 := by rw [← HE.out]; simp [stepE]
  have Hex := Lib.hid ex
  clear ex HE
  go_upto_region 4 with (fail)
  clear f2 f3 f4
  obtain ⟨c0, c1, c2, c3⟩ := HS1.out.cells
  have kb := Lib.hid (Maps.keyOf_int_mk Try.underlying5 Hq.out.1)
  have HL : ∃ v' bb, bb = ps.any (sameB ⟨false, b, 0, 0, 0⟩) ∧ (Instr.lookup MT1 (.map (some b1)) (.int .u8 b) true).run Try.prog w1.drew = .ok (.tuple #[v', .bool bb]) w1.drew := by
    have hm : MB w1.drew b1 (be ps) := HS1.out.m1
    cases hb : ps.any (sameB ⟨false, b, 0, 0, 0⟩) with
    | false => exact ⟨_, _, rfl, hm.look_no K1 Try.underlying129 (zeroI _) (keys1 Hps.out) kb.out (be_no (p := ⟨false, b, 0, 0, 0⟩) hb)⟩
    | true =>
      obtain ⟨v, hv⟩ := be_yes (p := ⟨false, b, 0, 0, 0⟩) hb
      obtain ⟨v', _, h⟩ := hm.look_yes K1 Try.underlying129 (keys1 Hps.out) kb.out hv
      exact ⟨v', _, rfl, h⟩
  obtain ⟨v', bb, hbb, hl⟩ := HL
  have Hl := Lib.hid hl
  have Hbb := Lib.hid hbb
  clear hl hbb
  refine wp_region_held_drew (S := fun wx => wx.cell? ⟨p, 1, none⟩ = some (.map (some b1)) ∧ wx.cell? ⟨q5, 1, none⟩ = some (.int .u8 b)) (by kernel_rfl) ⟨c1, f1⟩ (fun hHeld => ?_)
  refine wpAnyH_take (i := 0) (v := (.pointer (some ⟨p, 0, none⟩))) rfl (by kernel_rfl) (by kernel_rfl) (by kernel_rfl) (fun _ _ _ h => h) (Or.inl ⟨by kernel_rfl, ?_⟩) (by with_reducible assumption) ?_
  focus (intro w hSw; (try dsimp only at hSw); go_simp)
  try simp only [Act.put, List.getElem_toArray, List.getElem_cons_succ, List.getElem_cons_zero, List.setIfInBounds_toArray, List.set_cons_zero, List.set_cons_succ]
  refine wpAnyH_take (i := 1) (v := (.pointer (some ⟨p, 0, none⟩))) rfl (by kernel_rfl) (by kernel_rfl) (by kernel_rfl) (fun _ _ _ h => h) (Or.inl ⟨by kernel_rfl, ?_⟩) (by with_reducible assumption) ?_
  focus (intro w hSw; (try dsimp only at hSw); go_simp)
  try simp only [Act.put, List.getElem_toArray, List.getElem_cons_succ, List.getElem_cons_zero, List.setIfInBounds_toArray, List.set_cons_zero, List.set_cons_succ]
  refine wpAnyH_take (i := 2) (v := (.pointer (some ⟨p, 1, none⟩))) rfl (by kernel_rfl) (by kernel_rfl) (by kernel_rfl) (fun _ _ _ h => h) (Or.inl ⟨by kernel_rfl, ?_⟩) (by with_reducible assumption) ?_
  focus (intro w hSw; (try dsimp only at hSw); go_simp)
  try simp only [Act.put, List.getElem_toArray, List.getElem_cons_succ, List.getElem_cons_zero, List.setIfInBounds_toArray, List.set_cons_zero, List.set_cons_succ]
  refine wpAnyH_take (i := 3) (v := (.map (some b1))) rfl (by kernel_rfl) (by kernel_rfl) (by kernel_rfl) (fun _ _ _ h => h) (Or.inl ⟨by kernel_rfl, ?_⟩) (by with_reducible assumption) ?_
  focus (intro w hSw; (try dsimp only at hSw); go_simp)
  try simp only [Act.put, List.getElem_toArray, List.getElem_cons_succ, List.getElem_cons_zero, List.setIfInBounds_toArray, List.set_cons_zero, List.set_cons_succ]
  refine wpAnyH_take (i := 4) (v := (.pointer (some ⟨q5, 1, none⟩))) rfl (by kernel_rfl) (by kernel_rfl) (by kernel_rfl) (fun _ _ _ h => h) (Or.inl ⟨by kernel_rfl, ?_⟩) (by with_reducible assumption) ?_
  focus (intro w hSw; (try dsimp only at hSw); go_simp)
  try simp only [Act.put, List.getElem_toArray, List.getElem_cons_succ, List.getElem_cons_zero, List.setIfInBounds_toArray, List.set_cons_zero, List.set_cons_succ]
  refine wpAnyH_take (i := 5) (v := (.int .u8 b)) rfl (by kernel_rfl) (by kernel_rfl) (by kernel_rfl) (fun _ _ _ h => h) (Or.inl ⟨by kernel_rfl, ?_⟩) (by with_reducible assumption) ?_
  focus (intro w hSw; (try dsimp only at hSw); go_simp)
  try simp only [Act.put, List.getElem_toArray, List.getElem_cons_succ, List.getElem_cons_zero, List.setIfInBounds_toArray, List.set_cons_zero, List.set_cons_succ]
  refine wpAnyH_ready (rs := [6]) (by kernel_rfl) (by simp) ?_
  refine AllReadyH.cons rfl ?_ AllReadyH.nil
  intro K hK
  refine step_lookup (by rfl) (.tmp 27) (.tmp 29) MT1 (by rfl) (.map (some b1)) (.int .u8 b) (by rfl) (by rfl) _ _ Hl.out ?_
  refine hK.out _ _ hHeld (fun _ => ?_)
  clear hK K
  try simp only [Act.put, List.getElem_toArray, List.getElem_cons_succ, List.getElem_cons_zero, List.setIfInBounds_toArray, List.set_cons_zero, List.set_cons_succ]
  refine wpAnyH_take (i := 7) (v := (.tuple #[v', .bool bb])) rfl (by kernel_rfl) (by kernel_rfl) (by kernel_rfl) (fun _ _ _ h => h) (Or.inl ⟨by kernel_rfl, ?_⟩) (by with_reducible assumption) ?_
  focus (intro w hSw; (try dsimp only at hSw); go_simp)
  try simp only [Act.put, List.getElem_toArray, List.getElem_cons_succ, List.getElem_cons_zero, List.setIfInBounds_toArray, List.set_cons_zero, List.set_cons_succ]
  refine wpAnyH_take (i := 8) (v := v') rfl (by kernel_rfl) (by kernel_rfl) (by kernel_rfl) (fun _ _ _ h => h) (Or.inl ⟨by kernel_rfl, ?_⟩) (by with_reducible assumption) ?_
  focus (intro w hSw; (try dsimp only at hSw); go_simp)
  try simp only [Act.put, List.getElem_toArray, List.getElem_cons_succ, List.getElem_cons_zero, List.setIfInBounds_toArray, List.set_cons_zero, List.set_cons_succ]
  refine wpAnyH_take (i := 9) (v := (.bool bb)) rfl (by kernel_rfl) (by kernel_rfl) (by kernel_rfl) (fun _ _ _ h => h) (Or.inl ⟨by kernel_rfl, ?_⟩) (by with_reducible assumption) ?_
  focus (intro w hSw; (try dsimp only at hSw); go_simp)
  try simp only [Act.put, List.getElem_toArray, List.getElem_cons_succ, List.getElem_cons_zero, List.setIfInBounds_toArray, List.set_cons_zero, List.set_cons_succ]
  refine wpAnyH_take (i := 10) (v := v') rfl (by kernel_rfl) (by kernel_rfl) (by kernel_rfl) (fun _ _ _ h => h) (Or.inl ⟨by kernel_rfl, ?_⟩) (by with_reducible assumption) ?_
  focus (intro w hSw; (try dsimp only at hSw); go_simp)
  try simp only [Act.put, List.getElem_toArray, List.getElem_cons_succ, List.getElem_cons_zero, List.setIfInBounds_toArray, List.set_cons_zero, List.set_cons_succ]
  refine wpAnyH_take (i := 11) (v := (.bool bb)) rfl (by kernel_rfl) (by kernel_rfl) (by kernel_rfl) (fun _ _ _ h => h) (Or.inl ⟨by kernel_rfl, ?_⟩) (by with_reducible assumption) ?_
  focus (intro w hSw; (try dsimp only at hSw); go_simp)
  try simp only [Act.put, List.getElem_toArray, List.getElem_cons_succ, List.getElem_cons_zero, List.setIfInBounds_toArray, List.set_cons_zero, List.set_cons_succ]
  refine wpAnyH_done (by kernel_rfl) ?_ _
  clear hHeld
  cases bb with
  | true =>
    go_wp2_with fail
    go_ret
    have e8 : E = 8 := by rw [Hex.out, ← Hbb.out]; rfl
    exact ⟨by rw [e8]; rfl, .inl ⟨by rw [e8]; decide, HG.out.drew⟩⟩
  | false =>
    have e0 : E = 0 := by rw [Hex.out, ← Hbb.out]; rfl
    have He := Lib.hid e0
    clear e0
    go_upto_region 7 with (fail)
    have HU : ∃ w2, (Instr.mapUpdate MT1 (.map (some b1)) (.int .u8 b) (.int .i64 (ps.length : Int))).run Try.prog w1.drew.drew = .ok () w2 ∧ MB w2 b1 (be (ps ++ [⟨false, b, 0, 0, 0⟩])) ∧ Fr w1 w2 (fun k => k = b1) := by
      have hm : MB w1.drew.drew b1 (be ps) := HS1.out.m1
      refine ⟨_, hm.update K1 Try.underlying129 (keys1 Hps.out) kb.out (be_no (p := ⟨false, b, 0, 0, 0⟩) Hbb.out.symm), ?_, (hm.frame _).drew0.drew0⟩
      rw [be_snoc]
      exact hm.turn _
    obtain ⟨w2, hu, hm2, hf2⟩ := HU
    have Hu := Lib.hid hu
    have Hm2 := Lib.hid hm2
    have Hf2 := Lib.hid hf2
    have Hne := Lib.hid (And.intro (HS1.out.m1.ne HS1.out.blk) (HS1.out.m1.ne HB.out))
    clear hu hm2 hf2
    have d1 : w2.cell? ⟨p, 1, none⟩ = some (.map (some b1)) := (Hf2.out.cell (p := ⟨p, 1, none⟩) HS1.out.blk.lt (fun h => Hne.out.1 h.symm)).trans c1
    have d5 : w2.cell? ⟨q5, 1, none⟩ = some (.int .u8 b) := (Hf2.out.cell (p := ⟨q5, 1, none⟩) HB.out.lt (fun h => Hne.out.2 h.symm)).trans f1
    refine wp_region_held_drew (S := fun wx => wx.cell? ⟨p, 1, none⟩ = some (.map (some b1)) ∧ wx.cell? ⟨q5, 1, none⟩ = some (.int .u8 b)) (by kernel_rfl) ⟨c1, f1⟩ (fun hHeld => ?_)
    refine wpAnyH_take (i := 0) (v := (.pointer (some ⟨p, 0, none⟩))) rfl (by kernel_rfl) (by kernel_rfl) (by kernel_rfl) (fun _ _ _ h => h) (Or.inl ⟨by kernel_rfl, ?_⟩) (by with_reducible assumption) ?_
    focus (intro w hSw; (try dsimp only at hSw); go_simp)
    try simp only [Act.put, List.getElem_toArray, List.getElem_cons_succ, List.getElem_cons_zero, List.setIfInBounds_toArray, List.set_cons_zero, List.set_cons_succ]
    refine wpAnyH_take (i := 1) (v := (.pointer (some ⟨p, 0, none⟩))) rfl (by kernel_rfl) (by kernel_rfl) (by kernel_rfl) (fun _ _ _ h => h) (Or.inl ⟨by kernel_rfl, ?_⟩) (by with_reducible assumption) ?_
    focus (intro w hSw; (try dsimp only at hSw); go_simp)
    try simp only [Act.put, List.getElem_toArray, List.getElem_cons_succ, List.getElem_cons_zero, List.setIfInBounds_toArray, List.set_cons_zero, List.set_cons_succ]
    refine wpAnyH_take (i := 2) (v := (.pointer (some ⟨p, 1, none⟩))) rfl (by kernel_rfl) (by kernel_rfl) (by kernel_rfl) (fun _ _ _ h => h) (Or.inl ⟨by kernel_rfl, ?_⟩) (by with_reducible assumption) ?_
    focus (intro w hSw; (try dsimp only at hSw); go_simp)
    try simp only [Act.put, List.getElem_toArray, List.getElem_cons_succ, List.getElem_cons_zero, List.setIfInBounds_toArray, List.set_cons_zero, List.set_cons_succ]
    refine wpAnyH_take (i := 3) (v := (.map (some b1))) rfl (by kernel_rfl) (by kernel_rfl) (by kernel_rfl) (fun _ _ _ h => h) (Or.inl ⟨by kernel_rfl, ?_⟩) (by with_reducible assumption) ?_
    focus (intro w hSw; (try dsimp only at hSw); go_simp)
    try simp only [Act.put, List.getElem_toArray, List.getElem_cons_succ, List.getElem_cons_zero, List.setIfInBounds_toArray, List.set_cons_zero, List.set_cons_succ]
    refine wpAnyH_take (i := 4) (v := (.pointer (some ⟨q5, 1, none⟩))) rfl (by kernel_rfl) (by kernel_rfl) (by kernel_rfl) (fun _ _ _ h => h) (Or.inl ⟨by kernel_rfl, ?_⟩) (by with_reducible assumption) ?_
    focus (intro w hSw; (try dsimp only at hSw); go_simp)
    try simp only [Act.put, List.getElem_toArray, List.getElem_cons_succ, List.getElem_cons_zero, List.setIfInBounds_toArray, List.set_cons_zero, List.set_cons_succ]
    refine wpAnyH_take (i := 5) (v := (.int .u8 b)) rfl (by kernel_rfl) (by kernel_rfl) (by kernel_rfl) (fun _ _ _ h => h) (Or.inl ⟨by kernel_rfl, ?_⟩) (by with_reducible assumption) ?_
    focus (intro w hSw; (try dsimp only at hSw); go_simp)
    try simp only [Act.put, List.getElem_toArray, List.getElem_cons_succ, List.getElem_cons_zero, List.setIfInBounds_toArray, List.set_cons_zero, List.set_cons_succ]
    refine wpAnyH_take (i := 6) (v := (.int .i64 (ps.length : Int))) rfl (by kernel_rfl) (by kernel_rfl) (by kernel_rfl) (fun _ _ _ h => h) (Or.inl ⟨by kernel_rfl, ?_⟩) (by with_reducible assumption) ?_
    focus (intro w hSw; (try dsimp only at hSw); go_simp)
    try simp only [Act.put, List.getElem_toArray, List.getElem_cons_succ, List.getElem_cons_zero, List.setIfInBounds_toArray, List.set_cons_zero, List.set_cons_succ]
    refine wpAnyH_ready (rs := [7]) (by kernel_rfl) (by simp) ?_
    refine AllReadyH.cons rfl ?_ AllReadyH.nil
    intro K hK
    refine step_mapUpdate (by rfl) (.tmp 37) (.tmp 39) (.tmp 40) MT1 (by rfl) (.map (some b1)) (.int .u8 b) (.int .i64 (ps.length : Int)) (by rfl) (by rfl) (by rfl) _ Hu.out ?_
    refine hK.out _ _ ⟨d1, d5⟩ (fun _ => ?_)
    clear hK K hHeld
    try simp only [Act.put, List.getElem_toArray, List.getElem_cons_succ, List.getElem_cons_zero, List.setIfInBounds_toArray, List.set_cons_zero, List.set_cons_succ]
    refine wpAnyH_done (by kernel_rfl) ?_ _
    clear d1 d5 f0 f1 c0 c1 c2 c3
    have HO2 := Lib.hid (Hf2.out.owns HS1.out.own (fun k hk e => own_map HS1.out.own HS1.out.m1 (e ▸ hk)))
    have HB2 := Lib.hid (HS1.out.blk.fr Hf2.out (fun h => Hne.out.1 h.symm))
    have c0 : w2.cell? ⟨p, 0, none⟩ = some sv := by rw [HB2.out.cell]; rfl
    obtain ⟨i0, hi0, hz0, hz1, hz2⟩ := info_parts info_int
    have Hsz := Lib.hid (Nat.le_trans Hn.out.2 (Nat.le_trans HG.out.size Hf2.out.size))
    go_wp2_with (
      at_builtin
      go_loud (refine wpList_append_sl _ encN rfl (.tmp 45) (.tmp 46) 60 rfl base 3 i0 (.int .i64 0) 1 8 Try.underlying60 hi0 hz0 hz1 hz2 rfl (by decide) sv ps.length _ rfl (HO2.out.alloc _) (.slice (some ⟨w2.heap.size, 0, none⟩) 1 1) [1] rfl (sl_one (enc := encN) w2 1 #[.int .i64 1] rfl 3) (fun _ => rfl) encN_one (by have := Hn.out.1; simp only [maxLen, List.length_singleton]; omega) (by have := Hn.out.1; simp only [List.length_singleton]; omega) (by have := Hsz.out; simp; omega) ?_)
      intro v3 w3 hown3 hg3 hat3
      rw [← List.flatMap_append] at hown3
      obtain ⟨A3, cap3, rfl⟩ := own_formN hown3
      have HP := Lib.hid (HS1.out.push (w2 := w2) (w3 := w3) (sv' := .slice A3 (ps.length + 1) cap3) ⟨false, b, 0, 0, 0⟩ 1 (Hf2.out.mono (fun k _ h => .inl h)) Hm2.out
        (by rw [pe_snoc, if_neg (by simp), List.append_nil]; exact HS1.out.m2.fr Hf2.out (fun e => HS1.out.ne.1 e.symm))
        (by rw [re_snoc, if_neg (by simp), List.append_nil]; exact HS1.out.m3.fr Hf2.out (fun e => HS1.out.ne.2.1 e.symm))
        (((Fr.refl w2 _).alloc _).trans hg3 (fun _ _ h => h)) hown3)
      have HB3 := Lib.hid (HB2.out.fr (((Fr.refl w2 _).alloc _).trans hg3 (fun _ _ h => h)) (own_blk_ne HO2.out HB2.out TSn_int))
      have c3 : w3.cell? ⟨p, 0, none⟩ = some sv := by rw [HB3.out.cell]; rfl
      have g3 := HB3.out.frozen 0
      clear hown3 hg3 hat3)
    go_ret
    exact ⟨by rw [He.out]; rfl, .inr ⟨He.out, (Gr.mono HG.out _).trans HP.out.2 (fun _ _ h => h), _, HP.out.1⟩⟩
end Voc
end Go.Proofs.Ytlodbhlidgepfaa

namespace Go.Proofs.Ytlodbhlidgepfaa
open Go.RowKit
namespace Voc
theorem ra {a b : Nat} (ha : a ≤ 256) (hb : b ≤ 256) : IntKind.i64.wrap ((a : Int) + (b : Int)) = (a : Int) + (b : Int) := IntWalk.i64_in _ ⟨by omega, by omega⟩
theorem szAt_le {sz : List Nat} (h : ∀ s ∈ sz, s ≤ 256) (i : Int) : szAt sz i ≤ 256 := by
  unfold szAt
  rw [List.getD_eq_getElem?_getD]
  cases hh : sz[i.toNat]? with
  | none => exact Nat.zero_le _
  | some x => exact h x (List.mem_of_getElem? hh)
/-- where the sizes lie -/
theorem SN.sizes {w : World} {base p b1 b2 b3 : Nat} {ps : List Pc} {sz : List Nat} {sv : Value} (H : SN w base p ps sz sv b1 b2 b3) {i : Nat} (hi : i < ps.length) :
    ∃ g cap, sv = .slice (some ⟨g, 0, none⟩) ps.length cap ∧ ∀ m, m < ps.length → w.cell? ⟨g, m, none⟩ = some (.int .i64 (szAt sz (m : Int))) := by
  have hO := H.own
  rcases hO.2 with ⟨rfl, h0⟩ | ⟨g, cap, cur, rfl, _, _, _, _, _, _⟩
  · omega
  · refine ⟨g, cap, rfl, fun m hm => ?_⟩
    rw [hO.cellAt (g := g) (cap := cap) m (by omega)]
    have h1 := get_flatMap' encN 1 (by omega) (fun _ => rfl) sz m
    rw [h1, Nat.div_one, Nat.mod_one]
    have hm' : m < sz.length := by rw [H.len]; exact hm
    rw [List.getElem?_eq_getElem hm']
    simp [encN, szAt, hm']

theorem or_no {a b : Bool} (h : ¬ (a || b) = true) : a = false ∧ b = false := by cases a <;> cases b <;> simp_all
set_option maxHeartbeats 4000000 in
set_option maxRecDepth 20000 in
theorem take_join {w : World} {base p b1 b2 b3 : Nat} {ps : List Pc} {sz : List Nat} {sv : Value} (b l r k : Int) (H : SN w base p ps sz sv b1 b2 b3) (hps : ∀ q ∈ ps, wfP q) (hq : wfP ⟨true, b, l, r, k⟩) (hs : ∀ s ∈ sz, s ≤ 256) (hn : ps.length < 4096) (hb : base ≤ w.heap.size) (E : Int) (hE : stepE ps sz ⟨true, b, l, r, k⟩ = E) :
    Calls Try.prog 62 #[.pointer (some ⟨p, 0, none⟩), .int .i64 (ps.length : Int), .agg (encP ⟨true, b, l, r, k⟩).toArray] w fun e w' => e = .returned (.int .i64 E) ∧
      ((E ≠ 0 ∧ Gr w w') ∨ (E = 0 ∧ Fr w w' (SS p b1 b2 b3 sv) ∧ ∃ sv', SN w' base p (ps ++ [⟨true, b, l, r, k⟩]) (sz ++ [szAt sz l + szAt sz r]) sv' b1 b2 b3)) := by
  have HS := Lib.hid H
  have Hq := Lib.hid hq
  have Hps := Lib.hid hps
  have Hn := Lib.hid (And.intro hn hb)
  have HE := Lib.hid hE
  have Hsz := Lib.hid hs
  clear H hps hq hn hb hE hs
  simp only [encP]
  go_enter Try.func62, Try.ntmps62
  go_upto_region 1 with (fail)
  have HB := Lib.hid (Blk.new w TPc #[.bool true, .int .u8 b, .int .i64 l, .int .i64 r, .int .u32 k])
  have HG := Lib.hid ((Fr.refl w NoneS).alloc (.cells #[.bool true, .int .u8 b, .int .i64 l, .int .i64 r, .int .u32 k] TPc))
  have HS1 := Lib.hid (HS.out.gr HG.out)
  generalize w.heap.size = q5 at HB ⊢
  generalize World.alloc w _ = w1 at HB HG HS1 ⊢
  have f0 : w1.cell? ⟨q5, 0, none⟩ = some (.bool true) := by rw [HB.out.cell]; rfl
  have f1 : w1.cell? ⟨q5, 1, none⟩ = some (.int .u8 b) := by rw [HB.out.cell]; rfl
  have f2 : w1.cell? ⟨q5, 2, none⟩ = some (.int .i64 l) := by rw [HB.out.cell]; rfl
  have f3 : w1.cell? ⟨q5, 3, none⟩ = some (.int .i64 r) := by rw [HB.out.cell]; rfl
  have f4 : w1.cell? ⟨q5, 4, none⟩ = some (.int .u32 k) := by rw [HB.out.cell]; rfl
  by_cases hz : b = 0
  case neg =>
    have e5 : E = 5 := by rw [← HE.out]; simp [stepE, hz]
    have He5 := Lib.hid e5
    clear e5 HE
    go_wp2_with fail
    go_ret
    exact ⟨by rw [He5.out]; rfl, .inl ⟨by rw [He5.out]; decide, HG.out⟩⟩
  subst hz
  by_cases hr : l < 0 ∨ (ps.length : Int) ≤ l ∨ r < 0 ∨ (ps.length : Int) ≤ r
  case pos =>
    have e2 : E = 2 := by
      rw [← HE.out]
      simp only [stepE]
      rw [if_neg (by decide), if_neg (by decide), if_pos hr]
    have He := Lib.hid e2
    have Hr := Lib.hid hr
    clear e2 HE hr
    go_wp2_with fail
    all_goals first
      | (go_ret; exact ⟨by rw [He.out]; rfl, .inl ⟨by rw [He.out]; decide, HG.out⟩⟩)
      | (exfalso; have := Hr.out; omega)
  obtain ⟨i, rfl⟩ : ∃ i : Nat, l = i := ⟨l.toNat, by omega⟩
  obtain ⟨j, rfl⟩ : ∃ j : Nat, r = j := ⟨r.toNat, by omega⟩
  have hi : i < ps.length := by omega
  have hj : j < ps.length := by omega
  have e1 : E = if 256 < szAt sz i + szAt sz j then 3 else if ps.any (sameP ⟨true, 0, i, j, k⟩) || ps.any (sameK ⟨true, 0, i, j, k⟩) then 8 else 0 := by
    rw [← HE.out]
    simp only [stepE]
    rw [if_neg (by decide), if_neg (by decide), if_neg hr]
  have HE1 := Lib.hid e1
  clear HE e1 hr
  have hx : ¬ ((ps.length : Int) ≤ (i : Int)) := by omega
  have hy : ¬ ((ps.length : Int) ≤ (j : Int)) := by omega
  have hx0 : ¬ ((i : Int) < 0) := by omega
  have hy0 : ¬ ((j : Int) < 0) := by omega
  go_upto_region 14 with (fail)
  obtain ⟨g, cap, hsv, hsc⟩ := HS1.out.sizes hi
  obtain ⟨c0, c1, c2, c3⟩ := HS1.out.cells
  have sa := hsc i hi
  have sb := hsc j hj
  have Hij := Lib.hid (And.intro hi hj)
  have Haw := Lib.hid (ra (szAt_le Hsz.out (i : Int)) (szAt_le Hsz.out (j : Int)))
  clear hsc
  generalize hA : szAt sz (i : Int) = A at HE1 sa Haw ⊢
  generalize hB : szAt sz (j : Int) = B at HE1 sb Haw ⊢
  have HAB := Lib.hid (And.intro hA hB)
  clear hA hB
  have c0' : w1.cell? ⟨p, 0, none⟩ = some (.slice (some ⟨g, 0, none⟩) ps.length cap) := by rw [c0, hsv]
  have haw := Haw.out
  refine wp_region_held_drew (S := fun wx => wx.cell? ⟨p, 0, none⟩ = some (.slice (some ⟨g, 0, none⟩) ps.length cap) ∧ wx.cell? ⟨q5, 2, none⟩ = some (.int .i64 (i : Int)) ∧ wx.cell? ⟨q5, 3, none⟩ = some (.int .i64 (j : Int)) ∧ wx.cell? ⟨g, i, none⟩ = some (.int .i64 (A : Int)) ∧ wx.cell? ⟨g, j, none⟩ = some (.int .i64 (B : Int))) (by kernel_rfl) ⟨c0', f2, f3, sa, sb⟩ (fun hHeld => ?_)
  refine wpAnyH_take (i := 0) (v := (.pointer (some ⟨p, 0, none⟩))) rfl (by kernel_rfl) (by kernel_rfl) (by kernel_rfl) (fun _ _ _ h => h) (Or.inl ⟨by kernel_rfl, ?_⟩) (by with_reducible assumption) ?_
  focus (intro w hSw; (try dsimp only at hSw); go_simp)
  try simp only [Act.put, List.getElem_toArray, List.getElem_cons_succ, List.getElem_cons_zero, List.setIfInBounds_toArray, List.set_cons_zero, List.set_cons_succ]
  refine wpAnyH_take (i := 1) (v := (.pointer (some ⟨p, 0, none⟩))) rfl (by kernel_rfl) (by kernel_rfl) (by kernel_rfl) (fun _ _ _ h => h) (Or.inl ⟨by kernel_rfl, ?_⟩) (by with_reducible assumption) ?_
  focus (intro w hSw; (try dsimp only at hSw); go_simp)
  try simp only [Act.put, List.getElem_toArray, List.getElem_cons_succ, List.getElem_cons_zero, List.setIfInBounds_toArray, List.set_cons_zero, List.set_cons_succ]
  refine wpAnyH_take (i := 2) (v := (.pointer (some ⟨p, 0, none⟩))) rfl (by kernel_rfl) (by kernel_rfl) (by kernel_rfl) (fun _ _ _ h => h) (Or.inl ⟨by kernel_rfl, ?_⟩) (by with_reducible assumption) ?_
  focus (intro w hSw; (try dsimp only at hSw); go_simp)
  try simp only [Act.put, List.getElem_toArray, List.getElem_cons_succ, List.getElem_cons_zero, List.setIfInBounds_toArray, List.set_cons_zero, List.set_cons_succ]
  refine wpAnyH_take (i := 3) (v := (.slice (some ⟨g, 0, none⟩) ps.length cap)) rfl (by kernel_rfl) (by kernel_rfl) (by kernel_rfl) (fun _ _ _ h => h) (Or.inl ⟨by kernel_rfl, ?_⟩) (by with_reducible assumption) ?_
  focus (intro w hSw; (try dsimp only at hSw); go_simp)
  try simp only [Act.put, List.getElem_toArray, List.getElem_cons_succ, List.getElem_cons_zero, List.setIfInBounds_toArray, List.set_cons_zero, List.set_cons_succ]
  refine wpAnyH_take (i := 4) (v := (.pointer (some ⟨q5, 2, none⟩))) rfl (by kernel_rfl) (by kernel_rfl) (by kernel_rfl) (fun _ _ _ h => h) (Or.inl ⟨by kernel_rfl, ?_⟩) (by with_reducible assumption) ?_
  focus (intro w hSw; (try dsimp only at hSw); go_simp)
  try simp only [Act.put, List.getElem_toArray, List.getElem_cons_succ, List.getElem_cons_zero, List.setIfInBounds_toArray, List.set_cons_zero, List.set_cons_succ]
  refine wpAnyH_take (i := 5) (v := (.int .i64 (i : Int))) rfl (by kernel_rfl) (by kernel_rfl) (by kernel_rfl) (fun _ _ _ h => h) (Or.inl ⟨by kernel_rfl, ?_⟩) (by with_reducible assumption) ?_
  focus (intro w hSw; (try dsimp only at hSw); go_simp)
  try simp only [Act.put, List.getElem_toArray, List.getElem_cons_succ, List.getElem_cons_zero, List.setIfInBounds_toArray, List.set_cons_zero, List.set_cons_succ]
  refine wpAnyH_take (i := 6) (v := (.pointer (some ⟨g, i, none⟩))) rfl (by kernel_rfl) (by kernel_rfl) (by kernel_rfl) (fun _ _ _ h => h) (Or.inl ⟨by kernel_rfl, ?_⟩) (by with_reducible assumption) ?_
  focus (intro w hSw; (try dsimp only at hSw); go_simp)
  try simp only [Act.put, List.getElem_toArray, List.getElem_cons_succ, List.getElem_cons_zero, List.setIfInBounds_toArray, List.set_cons_zero, List.set_cons_succ]
  refine wpAnyH_take (i := 7) (v := (.int .i64 (A : Int))) rfl (by kernel_rfl) (by kernel_rfl) (by kernel_rfl) (fun _ _ _ h => h) (Or.inl ⟨by kernel_rfl, ?_⟩) (by with_reducible assumption) ?_
  focus (intro w hSw; (try dsimp only at hSw); go_simp)
  try simp only [Act.put, List.getElem_toArray, List.getElem_cons_succ, List.getElem_cons_zero, List.setIfInBounds_toArray, List.set_cons_zero, List.set_cons_succ]
  refine wpAnyH_take (i := 8) (v := (.pointer (some ⟨p, 0, none⟩))) rfl (by kernel_rfl) (by kernel_rfl) (by kernel_rfl) (fun _ _ _ h => h) (Or.inl ⟨by kernel_rfl, ?_⟩) (by with_reducible assumption) ?_
  focus (intro w hSw; (try dsimp only at hSw); go_simp)
  try simp only [Act.put, List.getElem_toArray, List.getElem_cons_succ, List.getElem_cons_zero, List.setIfInBounds_toArray, List.set_cons_zero, List.set_cons_succ]
  refine wpAnyH_take (i := 9) (v := (.pointer (some ⟨p, 0, none⟩))) rfl (by kernel_rfl) (by kernel_rfl) (by kernel_rfl) (fun _ _ _ h => h) (Or.inl ⟨by kernel_rfl, ?_⟩) (by with_reducible assumption) ?_
  focus (intro w hSw; (try dsimp only at hSw); go_simp)
  try simp only [Act.put, List.getElem_toArray, List.getElem_cons_succ, List.getElem_cons_zero, List.setIfInBounds_toArray, List.set_cons_zero, List.set_cons_succ]
  refine wpAnyH_take (i := 10) (v := (.pointer (some ⟨p, 0, none⟩))) rfl (by kernel_rfl) (by kernel_rfl) (by kernel_rfl) (fun _ _ _ h => h) (Or.inl ⟨by kernel_rfl, ?_⟩) (by with_reducible assumption) ?_
  focus (intro w hSw; (try dsimp only at hSw); go_simp)
  try simp only [Act.put, List.getElem_toArray, List.getElem_cons_succ, List.getElem_cons_zero, List.setIfInBounds_toArray, List.set_cons_zero, List.set_cons_succ]
  refine wpAnyH_take (i := 11) (v := (.slice (some ⟨g, 0, none⟩) ps.length cap)) rfl (by kernel_rfl) (by kernel_rfl) (by kernel_rfl) (fun _ _ _ h => h) (Or.inl ⟨by kernel_rfl, ?_⟩) (by with_reducible assumption) ?_
  focus (intro w hSw; (try dsimp only at hSw); go_simp)
  try simp only [Act.put, List.getElem_toArray, List.getElem_cons_succ, List.getElem_cons_zero, List.setIfInBounds_toArray, List.set_cons_zero, List.set_cons_succ]
  refine wpAnyH_take (i := 12) (v := (.pointer (some ⟨q5, 3, none⟩))) rfl (by kernel_rfl) (by kernel_rfl) (by kernel_rfl) (fun _ _ _ h => h) (Or.inl ⟨by kernel_rfl, ?_⟩) (by with_reducible assumption) ?_
  focus (intro w hSw; (try dsimp only at hSw); go_simp)
  try simp only [Act.put, List.getElem_toArray, List.getElem_cons_succ, List.getElem_cons_zero, List.setIfInBounds_toArray, List.set_cons_zero, List.set_cons_succ]
  refine wpAnyH_take (i := 13) (v := (.int .i64 (j : Int))) rfl (by kernel_rfl) (by kernel_rfl) (by kernel_rfl) (fun _ _ _ h => h) (Or.inl ⟨by kernel_rfl, ?_⟩) (by with_reducible assumption) ?_
  focus (intro w hSw; (try dsimp only at hSw); go_simp)
  try simp only [Act.put, List.getElem_toArray, List.getElem_cons_succ, List.getElem_cons_zero, List.setIfInBounds_toArray, List.set_cons_zero, List.set_cons_succ]
  refine wpAnyH_take (i := 14) (v := (.pointer (some ⟨g, j, none⟩))) rfl (by kernel_rfl) (by kernel_rfl) (by kernel_rfl) (fun _ _ _ h => h) (Or.inl ⟨by kernel_rfl, ?_⟩) (by with_reducible assumption) ?_
  focus (intro w hSw; (try dsimp only at hSw); go_simp)
  try simp only [Act.put, List.getElem_toArray, List.getElem_cons_succ, List.getElem_cons_zero, List.setIfInBounds_toArray, List.set_cons_zero, List.set_cons_succ]
  refine wpAnyH_take (i := 15) (v := (.int .i64 (B : Int))) rfl (by kernel_rfl) (by kernel_rfl) (by kernel_rfl) (fun _ _ _ h => h) (Or.inl ⟨by kernel_rfl, ?_⟩) (by with_reducible assumption) ?_
  focus (intro w hSw; (try dsimp only at hSw); go_simp)
  try simp only [Act.put, List.getElem_toArray, List.getElem_cons_succ, List.getElem_cons_zero, List.setIfInBounds_toArray, List.set_cons_zero, List.set_cons_succ]
  refine wpAnyH_take (i := 16) (v := (.int .i64 ((A : Int) + (B : Int)))) rfl (by kernel_rfl) (by kernel_rfl) (by kernel_rfl) (fun _ _ _ h => h) (Or.inl ⟨by kernel_rfl, ?_⟩) (by with_reducible assumption) ?_
  focus (intro w hSw; (try dsimp only at hSw); go_simp)
  try simp only [Act.put, List.getElem_toArray, List.getElem_cons_succ, List.getElem_cons_zero, List.setIfInBounds_toArray, List.set_cons_zero, List.set_cons_succ]
  refine wpAnyH_take (i := 17) (v := (.int .i64 ((A : Int) + (B : Int)))) rfl (by kernel_rfl) (by kernel_rfl) (by kernel_rfl) (fun _ _ _ h => h) (Or.inl ⟨by kernel_rfl, ?_⟩) (by with_reducible assumption) ?_
  focus (intro w hSw; (try dsimp only at hSw); go_simp)
  try simp only [Act.put, List.getElem_toArray, List.getElem_cons_succ, List.getElem_cons_zero, List.setIfInBounds_toArray, List.set_cons_zero, List.set_cons_succ]
  refine wpAnyH_done (by kernel_rfl) ?_ _
  have Hsv := Lib.hid hsv
  clear hHeld c0' sa sb haw hsv hi hj hx hy hx0 hy0
  by_cases h3 : 256 < A + B
  case pos =>
    have h3' : (256 : Int) < (A : Int) + (B : Int) := by omega
    have e3 : E = 3 := by rw [HE1.out, if_pos h3]
    have He := Lib.hid e3
    clear e3 h3
    go_wp2_with fail
    go_ret
    exact ⟨by rw [He.out]; rfl, .inl ⟨by rw [He.out]; decide, HG.out.drew⟩⟩
  have h3' : ¬ (256 : Int) < (A : Int) + (B : Int) := by omega
  have e1 : E = if ps.any (sameP ⟨true, 0, i, j, k⟩) || ps.any (sameK ⟨true, 0, i, j, k⟩) then 8 else 0 := by rw [HE1.out, if_neg h3]
  have HE := Lib.hid e1
  clear HE1 e1 h3
  go_upto_region 18 with (fail)
  clear c0 c1 c2 c3 f0 f1 f2 f3 f4
  have HB10 := Lib.hid (Blk.new w1 120 #[.int .i64 (i : Int), .int .i64 (j : Int)])
  have HG2 := Lib.hid ((Fr.refl w1 NoneS).alloc (.cells #[.int .i64 (i : Int), .int .i64 (j : Int)] 120))
  have HS2 := Lib.hid (HS1.out.gr HG2.out)
  have HB5 := Lib.hid (HB.out.fr HG2.out (fun h => h))
  generalize w1.heap.size = q10 at HB10 ⊢
  generalize World.alloc w1 _ = w2 at HB10 HG2 HS2 HB5 ⊢
  have HG' := Lib.hid (HG.out.trans HG2.out (fun _ _ h => h))
  obtain ⟨c0, c1, c2, c3⟩ := HS2.out.cells
  have f4 : w2.cell? ⟨q5, 4, none⟩ = some (.int .u32 k) := by rw [HB5.out.cell]; rfl
  have g0 : w2.cell? ⟨q10, 0, none⟩ = some (.int .i64 (i : Int)) := by rw [HB10.out.cell]; rfl
  have g1 : w2.cell? ⟨q10, 1, none⟩ = some (.int .i64 (j : Int)) := by rw [HB10.out.cell]; rfl
  have k2 := Lib.hid (WideMaps.keyOf_pair A2 Try.underlying3 tsz Hq.out.2.1 Hq.out.2.2.1)
  have k3 := Lib.hid (Maps.keyOf_int_mk Try.underlying66 Hq.out.2.2.2)
  have HL2 : ∃ v' bb, bb = ps.any (sameP ⟨true, 0, i, j, k⟩) ∧ (Instr.lookup MT2 (.map (some b2)) (.agg #[.int .i64 (i : Int), .int .i64 (j : Int)]) true).run Try.prog w2.drew.drew = .ok (.tuple #[v', .bool bb]) w2.drew.drew := by
    have hm : MB w2.drew.drew b2 (pe ps) := HS2.out.m2
    cases hb : ps.any (sameP ⟨true, 0, i, j, k⟩) with
    | false => exact ⟨_, _, rfl, hm.look_no K2 Try.underlying116 (zeroI _) (keys2 Hps.out) k2.out (pe_no (p := ⟨true, 0, i, j, k⟩) hb)⟩
    | true =>
      obtain ⟨v, hv⟩ := pe_yes (p := ⟨true, 0, i, j, k⟩) hb
      obtain ⟨v', _, h⟩ := hm.look_yes K2 Try.underlying116 (keys2 Hps.out) k2.out hv
      exact ⟨v', _, rfl, h⟩
  have HL3 : ∃ v' bb, bb = ps.any (sameK ⟨true, 0, i, j, k⟩) ∧ (Instr.lookup MT3 (.map (some b3)) (.int .u32 k) true).run Try.prog w2.drew.drew.drew = .ok (.tuple #[v', .bool bb]) w2.drew.drew.drew := by
    have hm : MB w2.drew.drew.drew b3 (re ps) := HS2.out.m3
    cases hb : ps.any (sameK ⟨true, 0, i, j, k⟩) with
    | false => exact ⟨_, _, rfl, hm.look_no K3 Try.underlying130 (zeroI _) (keys3 Hps.out) k3.out (re_no (p := ⟨true, 0, i, j, k⟩) hb)⟩
    | true =>
      obtain ⟨v, hv⟩ := re_yes (p := ⟨true, 0, i, j, k⟩) hb
      obtain ⟨v', _, h⟩ := hm.look_yes K3 Try.underlying130 (keys3 Hps.out) k3.out hv
      exact ⟨v', _, rfl, h⟩
  obtain ⟨v2, bb2, hbb2, hl2⟩ := HL2
  obtain ⟨v3, bb3, hbb3, hl3⟩ := HL3
  have Hl2 := Lib.hid hl2
  have Hl3 := Lib.hid hl3
  have Hbb := Lib.hid (And.intro hbb2 hbb3)
  clear hl2 hl3 hbb2 hbb3
  refine wp_region_held_drew (S := fun wx => wx.cell? ⟨p, 2, none⟩ = some (.map (some b2)) ∧ wx.cell? ⟨q10, 0, none⟩ = some (.int .i64 (i : Int)) ∧ wx.cell? ⟨q10, 1, none⟩ = some (.int .i64 (j : Int))) (by kernel_rfl) ⟨c2, g0, g1⟩ (fun hHeld => ?_)
  refine wpAnyH_take (i := 0) (v := (.pointer (some ⟨p, 0, none⟩))) rfl (by kernel_rfl) (by kernel_rfl) (by kernel_rfl) (fun _ _ _ h => h) (Or.inl ⟨by kernel_rfl, ?_⟩) (by with_reducible assumption) ?_
  focus (intro w hSw; (try dsimp only at hSw); go_simp)
  try simp only [Act.put, List.getElem_toArray, List.getElem_cons_succ, List.getElem_cons_zero, List.setIfInBounds_toArray, List.set_cons_zero, List.set_cons_succ]
  refine wpAnyH_take (i := 1) (v := (.pointer (some ⟨p, 0, none⟩))) rfl (by kernel_rfl) (by kernel_rfl) (by kernel_rfl) (fun _ _ _ h => h) (Or.inl ⟨by kernel_rfl, ?_⟩) (by with_reducible assumption) ?_
  focus (intro w hSw; (try dsimp only at hSw); go_simp)
  try simp only [Act.put, List.getElem_toArray, List.getElem_cons_succ, List.getElem_cons_zero, List.setIfInBounds_toArray, List.set_cons_zero, List.set_cons_succ]
  refine wpAnyH_take (i := 2) (v := (.pointer (some ⟨p, 2, none⟩))) rfl (by kernel_rfl) (by kernel_rfl) (by kernel_rfl) (fun _ _ _ h => h) (Or.inl ⟨by kernel_rfl, ?_⟩) (by with_reducible assumption) ?_
  focus (intro w hSw; (try dsimp only at hSw); go_simp)
  try simp only [Act.put, List.getElem_toArray, List.getElem_cons_succ, List.getElem_cons_zero, List.setIfInBounds_toArray, List.set_cons_zero, List.set_cons_succ]
  refine wpAnyH_take (i := 3) (v := (.map (some b2))) rfl (by kernel_rfl) (by kernel_rfl) (by kernel_rfl) (fun _ _ _ h => h) (Or.inl ⟨by kernel_rfl, ?_⟩) (by with_reducible assumption) ?_
  focus (intro w hSw; (try dsimp only at hSw); go_simp)
  try simp only [Act.put, List.getElem_toArray, List.getElem_cons_succ, List.getElem_cons_zero, List.setIfInBounds_toArray, List.set_cons_zero, List.set_cons_succ]
  refine wpAnyH_take (i := 4) (v := (.agg #[.int .i64 (i : Int), .int .i64 (j : Int)])) rfl (by kernel_rfl) (by kernel_rfl) (by kernel_rfl) (fun _ _ _ h => h) (Or.inl ⟨by kernel_rfl, ?_⟩) (by with_reducible assumption) ?_
  focus (intro w hSw; (try dsimp only at hSw); go_simp)
  try simp only [Act.put, List.getElem_toArray, List.getElem_cons_succ, List.getElem_cons_zero, List.setIfInBounds_toArray, List.set_cons_zero, List.set_cons_succ]
  refine wpAnyH_ready (rs := [5]) (by kernel_rfl) (by simp) ?_
  refine AllReadyH.cons rfl ?_ AllReadyH.nil
  intro K hK
  refine step_lookup (by rfl) (.tmp 101) (.tmp 102) MT2 (by rfl) (.map (some b2)) (.agg #[.int .i64 (i : Int), .int .i64 (j : Int)]) (by rfl) (by rfl) _ _ Hl2.out ?_
  refine hK.out _ _ hHeld (fun _ => ?_)
  clear hK K
  try simp only [Act.put, List.getElem_toArray, List.getElem_cons_succ, List.getElem_cons_zero, List.setIfInBounds_toArray, List.set_cons_zero, List.set_cons_succ]
  refine wpAnyH_take (i := 6) (v := (.tuple #[v2, .bool bb2])) rfl (by kernel_rfl) (by kernel_rfl) (by kernel_rfl) (fun _ _ _ h => h) (Or.inl ⟨by kernel_rfl, ?_⟩) (by with_reducible assumption) ?_
  focus (intro w hSw; (try dsimp only at hSw); go_simp)
  try simp only [Act.put, List.getElem_toArray, List.getElem_cons_succ, List.getElem_cons_zero, List.setIfInBounds_toArray, List.set_cons_zero, List.set_cons_succ]
  refine wpAnyH_take (i := 7) (v := (v2)) rfl (by kernel_rfl) (by kernel_rfl) (by kernel_rfl) (fun _ _ _ h => h) (Or.inl ⟨by kernel_rfl, ?_⟩) (by with_reducible assumption) ?_
  focus (intro w hSw; (try dsimp only at hSw); go_simp)
  try simp only [Act.put, List.getElem_toArray, List.getElem_cons_succ, List.getElem_cons_zero, List.setIfInBounds_toArray, List.set_cons_zero, List.set_cons_succ]
  refine wpAnyH_take (i := 8) (v := (.bool bb2)) rfl (by kernel_rfl) (by kernel_rfl) (by kernel_rfl) (fun _ _ _ h => h) (Or.inl ⟨by kernel_rfl, ?_⟩) (by with_reducible assumption) ?_
  focus (intro w hSw; (try dsimp only at hSw); go_simp)
  try simp only [Act.put, List.getElem_toArray, List.getElem_cons_succ, List.getElem_cons_zero, List.setIfInBounds_toArray, List.set_cons_zero, List.set_cons_succ]
  refine wpAnyH_take (i := 9) (v := (v2)) rfl (by kernel_rfl) (by kernel_rfl) (by kernel_rfl) (fun _ _ _ h => h) (Or.inl ⟨by kernel_rfl, ?_⟩) (by with_reducible assumption) ?_
  focus (intro w hSw; (try dsimp only at hSw); go_simp)
  try simp only [Act.put, List.getElem_toArray, List.getElem_cons_succ, List.getElem_cons_zero, List.setIfInBounds_toArray, List.set_cons_zero, List.set_cons_succ]
  refine wpAnyH_take (i := 10) (v := (.bool bb2)) rfl (by kernel_rfl) (by kernel_rfl) (by kernel_rfl) (fun _ _ _ h => h) (Or.inl ⟨by kernel_rfl, ?_⟩) (by with_reducible assumption) ?_
  focus (intro w hSw; (try dsimp only at hSw); go_simp)
  try simp only [Act.put, List.getElem_toArray, List.getElem_cons_succ, List.getElem_cons_zero, List.setIfInBounds_toArray, List.set_cons_zero, List.set_cons_succ]
  refine wpAnyH_done (by kernel_rfl) ?_ _
  clear hHeld
  go_upto_region 19 with (fail)
  refine wp_region_held_drew (S := fun wx => wx.cell? ⟨p, 3, none⟩ = some (.map (some b3)) ∧ wx.cell? ⟨q5, 4, none⟩ = some (.int .u32 k)) (by kernel_rfl) ⟨c3, f4⟩ (fun hHeld => ?_)
  refine wpAnyH_take (i := 0) (v := (.pointer (some ⟨p, 0, none⟩))) rfl (by kernel_rfl) (by kernel_rfl) (by kernel_rfl) (fun _ _ _ h => h) (Or.inl ⟨by kernel_rfl, ?_⟩) (by with_reducible assumption) ?_
  focus (intro w hSw; (try dsimp only at hSw); go_simp)
  try simp only [Act.put, List.getElem_toArray, List.getElem_cons_succ, List.getElem_cons_zero, List.setIfInBounds_toArray, List.set_cons_zero, List.set_cons_succ]
  refine wpAnyH_take (i := 1) (v := (.pointer (some ⟨p, 0, none⟩))) rfl (by kernel_rfl) (by kernel_rfl) (by kernel_rfl) (fun _ _ _ h => h) (Or.inl ⟨by kernel_rfl, ?_⟩) (by with_reducible assumption) ?_
  focus (intro w hSw; (try dsimp only at hSw); go_simp)
  try simp only [Act.put, List.getElem_toArray, List.getElem_cons_succ, List.getElem_cons_zero, List.setIfInBounds_toArray, List.set_cons_zero, List.set_cons_succ]
  refine wpAnyH_take (i := 2) (v := (.pointer (some ⟨p, 3, none⟩))) rfl (by kernel_rfl) (by kernel_rfl) (by kernel_rfl) (fun _ _ _ h => h) (Or.inl ⟨by kernel_rfl, ?_⟩) (by with_reducible assumption) ?_
  focus (intro w hSw; (try dsimp only at hSw); go_simp)
  try simp only [Act.put, List.getElem_toArray, List.getElem_cons_succ, List.getElem_cons_zero, List.setIfInBounds_toArray, List.set_cons_zero, List.set_cons_succ]
  refine wpAnyH_take (i := 3) (v := (.map (some b3))) rfl (by kernel_rfl) (by kernel_rfl) (by kernel_rfl) (fun _ _ _ h => h) (Or.inl ⟨by kernel_rfl, ?_⟩) (by with_reducible assumption) ?_
  focus (intro w hSw; (try dsimp only at hSw); go_simp)
  try simp only [Act.put, List.getElem_toArray, List.getElem_cons_succ, List.getElem_cons_zero, List.setIfInBounds_toArray, List.set_cons_zero, List.set_cons_succ]
  refine wpAnyH_take (i := 4) (v := (.pointer (some ⟨q5, 4, none⟩))) rfl (by kernel_rfl) (by kernel_rfl) (by kernel_rfl) (fun _ _ _ h => h) (Or.inl ⟨by kernel_rfl, ?_⟩) (by with_reducible assumption) ?_
  focus (intro w hSw; (try dsimp only at hSw); go_simp)
  try simp only [Act.put, List.getElem_toArray, List.getElem_cons_succ, List.getElem_cons_zero, List.setIfInBounds_toArray, List.set_cons_zero, List.set_cons_succ]
  refine wpAnyH_take (i := 5) (v := (.int .u32 k)) rfl (by kernel_rfl) (by kernel_rfl) (by kernel_rfl) (fun _ _ _ h => h) (Or.inl ⟨by kernel_rfl, ?_⟩) (by with_reducible assumption) ?_
  focus (intro w hSw; (try dsimp only at hSw); go_simp)
  try simp only [Act.put, List.getElem_toArray, List.getElem_cons_succ, List.getElem_cons_zero, List.setIfInBounds_toArray, List.set_cons_zero, List.set_cons_succ]
  refine wpAnyH_ready (rs := [6]) (by kernel_rfl) (by simp) ?_
  refine AllReadyH.cons rfl ?_ AllReadyH.nil
  intro K hK
  refine step_lookup (by rfl) (.tmp 110) (.tmp 112) MT3 (by rfl) (.map (some b3)) (.int .u32 k) (by rfl) (by rfl) _ _ Hl3.out ?_
  refine hK.out _ _ hHeld (fun _ => ?_)
  clear hK K
  try simp only [Act.put, List.getElem_toArray, List.getElem_cons_succ, List.getElem_cons_zero, List.setIfInBounds_toArray, List.set_cons_zero, List.set_cons_succ]
  refine wpAnyH_take (i := 7) (v := (.tuple #[v3, .bool bb3])) rfl (by kernel_rfl) (by kernel_rfl) (by kernel_rfl) (fun _ _ _ h => h) (Or.inl ⟨by kernel_rfl, ?_⟩) (by with_reducible assumption) ?_
  focus (intro w hSw; (try dsimp only at hSw); go_simp)
  try simp only [Act.put, List.getElem_toArray, List.getElem_cons_succ, List.getElem_cons_zero, List.setIfInBounds_toArray, List.set_cons_zero, List.set_cons_succ]
  refine wpAnyH_take (i := 8) (v := (v3)) rfl (by kernel_rfl) (by kernel_rfl) (by kernel_rfl) (fun _ _ _ h => h) (Or.inl ⟨by kernel_rfl, ?_⟩) (by with_reducible assumption) ?_
  focus (intro w hSw; (try dsimp only at hSw); go_simp)
  try simp only [Act.put, List.getElem_toArray, List.getElem_cons_succ, List.getElem_cons_zero, List.setIfInBounds_toArray, List.set_cons_zero, List.set_cons_succ]
  refine wpAnyH_take (i := 9) (v := (.bool bb3)) rfl (by kernel_rfl) (by kernel_rfl) (by kernel_rfl) (fun _ _ _ h => h) (Or.inl ⟨by kernel_rfl, ?_⟩) (by with_reducible assumption) ?_
  focus (intro w hSw; (try dsimp only at hSw); go_simp)
  try simp only [Act.put, List.getElem_toArray, List.getElem_cons_succ, List.getElem_cons_zero, List.setIfInBounds_toArray, List.set_cons_zero, List.set_cons_succ]
  refine wpAnyH_take (i := 10) (v := (v3)) rfl (by kernel_rfl) (by kernel_rfl) (by kernel_rfl) (fun _ _ _ h => h) (Or.inl ⟨by kernel_rfl, ?_⟩) (by with_reducible assumption) ?_
  focus (intro w hSw; (try dsimp only at hSw); go_simp)
  try simp only [Act.put, List.getElem_toArray, List.getElem_cons_succ, List.getElem_cons_zero, List.setIfInBounds_toArray, List.set_cons_zero, List.set_cons_succ]
  refine wpAnyH_take (i := 11) (v := (.bool bb3)) rfl (by kernel_rfl) (by kernel_rfl) (by kernel_rfl) (fun _ _ _ h => h) (Or.inl ⟨by kernel_rfl, ?_⟩) (by with_reducible assumption) ?_
  focus (intro w hSw; (try dsimp only at hSw); go_simp)
  try simp only [Act.put, List.getElem_toArray, List.getElem_cons_succ, List.getElem_cons_zero, List.setIfInBounds_toArray, List.set_cons_zero, List.set_cons_succ]
  refine wpAnyH_done (by kernel_rfl) ?_ _
  clear hHeld Hl2 Hl3
  obtain ⟨hbb2, hbb3⟩ := Hbb.out
  by_cases h8 : (bb2 || bb3) = true
  case pos =>
    have e8 : E = 8 := by rw [HE.out, ← hbb2, ← hbb3, if_pos h8]
    have He := Lib.hid e8
    clear HE e8 hbb2 hbb3 Hbb
    cases bb2 <;> cases bb3 <;> first
      | (exfalso; simp at h8; done)
      | (clear h8
         go_wp2_with fail
         go_ret
         exact ⟨by rw [He.out]; rfl, .inl ⟨by rw [He.out]; decide, HG'.out.drew.drew.drew⟩⟩)
  obtain ⟨rfl, rfl⟩ : bb2 = false ∧ bb3 = false := or_no h8
  have e0 : E = 0 := by rw [HE.out, ← hbb2, ← hbb3]; rfl
  have He := Lib.hid e0
  clear HE e0 hbb2 hbb3 h8
  go_upto_region 22 with (fail)
  refine wp_region_held_drew (S := fun wx => wx.cell? ⟨p, 2, none⟩ = some (.map (some b2)) ∧ wx.cell? ⟨p, 3, none⟩ = some (.map (some b3)) ∧ wx.cell? ⟨q5, 4, none⟩ = some (.int .u32 k) ∧ wx.cell? ⟨q10, 0, none⟩ = some (.int .i64 (i : Int)) ∧ wx.cell? ⟨q10, 1, none⟩ = some (.int .i64 (j : Int))) (by kernel_rfl) ⟨c2, c3, f4, g0, g1⟩ (fun hHeld => ?_)
  refine wpAnyH_take (i := 0) (v := (.pointer (some ⟨p, 0, none⟩))) rfl (by kernel_rfl) (by kernel_rfl) (by kernel_rfl) (fun _ _ _ h => h) (Or.inl ⟨by kernel_rfl, ?_⟩) (by with_reducible assumption) ?_
  focus (intro w hSw; (try dsimp only at hSw); go_simp)
  try simp only [Act.put, List.getElem_toArray, List.getElem_cons_succ, List.getElem_cons_zero, List.setIfInBounds_toArray, List.set_cons_zero, List.set_cons_succ]
  refine wpAnyH_take (i := 1) (v := (.pointer (some ⟨p, 0, none⟩))) rfl (by kernel_rfl) (by kernel_rfl) (by kernel_rfl) (fun _ _ _ h => h) (Or.inl ⟨by kernel_rfl, ?_⟩) (by with_reducible assumption) ?_
  focus (intro w hSw; (try dsimp only at hSw); go_simp)
  try simp only [Act.put, List.getElem_toArray, List.getElem_cons_succ, List.getElem_cons_zero, List.setIfInBounds_toArray, List.set_cons_zero, List.set_cons_succ]
  refine wpAnyH_take (i := 2) (v := (.pointer (some ⟨p, 2, none⟩))) rfl (by kernel_rfl) (by kernel_rfl) (by kernel_rfl) (fun _ _ _ h => h) (Or.inl ⟨by kernel_rfl, ?_⟩) (by with_reducible assumption) ?_
  focus (intro w hSw; (try dsimp only at hSw); go_simp)
  try simp only [Act.put, List.getElem_toArray, List.getElem_cons_succ, List.getElem_cons_zero, List.setIfInBounds_toArray, List.set_cons_zero, List.set_cons_succ]
  refine wpAnyH_take (i := 3) (v := (.map (some b2))) rfl (by kernel_rfl) (by kernel_rfl) (by kernel_rfl) (fun _ _ _ h => h) (Or.inl ⟨by kernel_rfl, ?_⟩) (by with_reducible assumption) ?_
  focus (intro w hSw; (try dsimp only at hSw); go_simp)
  try simp only [Act.put, List.getElem_toArray, List.getElem_cons_succ, List.getElem_cons_zero, List.setIfInBounds_toArray, List.set_cons_zero, List.set_cons_succ]
  refine wpAnyH_take (i := 4) (v := (.agg #[.int .i64 (i : Int), .int .i64 (j : Int)])) rfl (by kernel_rfl) (by kernel_rfl) (by kernel_rfl) (fun _ _ _ h => h) (Or.inl ⟨by kernel_rfl, ?_⟩) (by with_reducible assumption) ?_
  focus (intro w hSw; (try dsimp only at hSw); go_simp)
  try simp only [Act.put, List.getElem_toArray, List.getElem_cons_succ, List.getElem_cons_zero, List.setIfInBounds_toArray, List.set_cons_zero, List.set_cons_succ]
  refine wpAnyH_take (i := 5) (v := (.pointer (some ⟨p, 0, none⟩))) rfl (by kernel_rfl) (by kernel_rfl) (by kernel_rfl) (fun _ _ _ h => h) (Or.inl ⟨by kernel_rfl, ?_⟩) (by with_reducible assumption) ?_
  focus (intro w hSw; (try dsimp only at hSw); go_simp)
  try simp only [Act.put, List.getElem_toArray, List.getElem_cons_succ, List.getElem_cons_zero, List.setIfInBounds_toArray, List.set_cons_zero, List.set_cons_succ]
  refine wpAnyH_take (i := 6) (v := (.pointer (some ⟨p, 0, none⟩))) rfl (by kernel_rfl) (by kernel_rfl) (by kernel_rfl) (fun _ _ _ h => h) (Or.inl ⟨by kernel_rfl, ?_⟩) (by with_reducible assumption) ?_
  focus (intro w hSw; (try dsimp only at hSw); go_simp)
  try simp only [Act.put, List.getElem_toArray, List.getElem_cons_succ, List.getElem_cons_zero, List.setIfInBounds_toArray, List.set_cons_zero, List.set_cons_succ]
  refine wpAnyH_take (i := 7) (v := (.pointer (some ⟨p, 3, none⟩))) rfl (by kernel_rfl) (by kernel_rfl) (by kernel_rfl) (fun _ _ _ h => h) (Or.inl ⟨by kernel_rfl, ?_⟩) (by with_reducible assumption) ?_
  focus (intro w hSw; (try dsimp only at hSw); go_simp)
  try simp only [Act.put, List.getElem_toArray, List.getElem_cons_succ, List.getElem_cons_zero, List.setIfInBounds_toArray, List.set_cons_zero, List.set_cons_succ]
  refine wpAnyH_take (i := 8) (v := (.map (some b3))) rfl (by kernel_rfl) (by kernel_rfl) (by kernel_rfl) (fun _ _ _ h => h) (Or.inl ⟨by kernel_rfl, ?_⟩) (by with_reducible assumption) ?_
  focus (intro w hSw; (try dsimp only at hSw); go_simp)
  try simp only [Act.put, List.getElem_toArray, List.getElem_cons_succ, List.getElem_cons_zero, List.setIfInBounds_toArray, List.set_cons_zero, List.set_cons_succ]
  refine wpAnyH_take (i := 9) (v := (.pointer (some ⟨q5, 4, none⟩))) rfl (by kernel_rfl) (by kernel_rfl) (by kernel_rfl) (fun _ _ _ h => h) (Or.inl ⟨by kernel_rfl, ?_⟩) (by with_reducible assumption) ?_
  focus (intro w hSw; (try dsimp only at hSw); go_simp)
  try simp only [Act.put, List.getElem_toArray, List.getElem_cons_succ, List.getElem_cons_zero, List.setIfInBounds_toArray, List.set_cons_zero, List.set_cons_succ]
  refine wpAnyH_take (i := 10) (v := (.int .u32 k)) rfl (by kernel_rfl) (by kernel_rfl) (by kernel_rfl) (fun _ _ _ h => h) (Or.inl ⟨by kernel_rfl, ?_⟩) (by with_reducible assumption) ?_
  focus (intro w hSw; (try dsimp only at hSw); go_simp)
  try simp only [Act.put, List.getElem_toArray, List.getElem_cons_succ, List.getElem_cons_zero, List.setIfInBounds_toArray, List.set_cons_zero, List.set_cons_succ]
  refine wpAnyH_take (i := 11) (v := (.int .i64 (ps.length : Int))) rfl (by kernel_rfl) (by kernel_rfl) (by kernel_rfl) (fun _ _ _ h => h) (Or.inl ⟨by kernel_rfl, ?_⟩) (by with_reducible assumption) ?_
  focus (intro w hSw; (try dsimp only at hSw); go_simp)
  try simp only [Act.put, List.getElem_toArray, List.getElem_cons_succ, List.getElem_cons_zero, List.setIfInBounds_toArray, List.set_cons_zero, List.set_cons_succ]
  refine wpAnyH_take (i := 12) (v := (.int .i64 (ps.length : Int))) rfl (by kernel_rfl) (by kernel_rfl) (by kernel_rfl) (fun _ _ _ h => h) (Or.inl ⟨by kernel_rfl, ?_⟩) (by with_reducible assumption) ?_
  focus (intro w hSw; (try dsimp only at hSw); go_simp)
  try simp only [Act.put, List.getElem_toArray, List.getElem_cons_succ, List.getElem_cons_zero, List.setIfInBounds_toArray, List.set_cons_zero, List.set_cons_succ]
  have HE2 : ∃ w3, (Instr.mapEntry MT2 (.map (some b2)) (.agg #[.int .i64 (i : Int), .int .i64 (j : Int)])).run Try.prog w2.drew.drew.drew.drew = .ok (.tuple #[.int .i64 0, .int .i64 ((pe ps).length : Int)]) w3 ∧ MB w3 b2 (pe ps ++ [(.agg #[.int .i64 (i : Int), .int .i64 (j : Int)], .int .i64 0)]) ∧ Fr w2 w3 (fun k => k = b2) := by
    have hm : MB w2.drew.drew.drew.drew b2 (pe ps) := HS2.out.m2
    exact ⟨_, hm.entry K2 Try.underlying116 (zeroI _) (keys2 Hps.out) k2.out (pe_no (p := ⟨true, 0, i, j, k⟩) Hbb.out.1.symm), hm.turn _, (hm.frame _).drew0.drew0.drew0.drew0⟩
  obtain ⟨w3, he2, hm2, hf2⟩ := HE2
  have He2 := Lib.hid he2
  have Hm2 := Lib.hid hm2
  have Hf2 := Lib.hid hf2
  have Hp2 := Lib.hid (And.intro (HS2.out.m2.ne HS2.out.blk) (And.intro (HS2.out.m2.ne HB5.out) (HS2.out.m2.ne HB10.out)))
  have Hp3 := Lib.hid (And.intro (HS2.out.m3.ne HS2.out.blk) (And.intro (HS2.out.m3.ne HB5.out) (HS2.out.m3.ne HB10.out)))
  clear he2 hm2 hf2
  have key := Lib.hid (show ∀ wx, Fr w2 wx (fun k => k = b2 ∨ k = b3) → (wx.cell? ⟨p, 2, none⟩ = some (.map (some b2)) ∧ wx.cell? ⟨p, 3, none⟩ = some (.map (some b3)) ∧ wx.cell? ⟨q5, 4, none⟩ = some (.int .u32 k) ∧ wx.cell? ⟨q10, 0, none⟩ = some (.int .i64 (i : Int)) ∧ wx.cell? ⟨q10, 1, none⟩ = some (.int .i64 (j : Int))) from fun wx hx =>
    ⟨(hx.cell (p := ⟨p, 2, none⟩) HS2.out.blk.lt (fun h => h.elim (fun e => Hp2.out.1 e.symm) (fun e => Hp3.out.1 e.symm))).trans c2,
     (hx.cell (p := ⟨p, 3, none⟩) HS2.out.blk.lt (fun h => h.elim (fun e => Hp2.out.1 e.symm) (fun e => Hp3.out.1 e.symm))).trans c3,
     (hx.cell (p := ⟨q5, 4, none⟩) HB5.out.lt (fun h => h.elim (fun e => Hp2.out.2.1 e.symm) (fun e => Hp3.out.2.1 e.symm))).trans f4,
     (hx.cell (p := ⟨q10, 0, none⟩) HB10.out.lt (fun h => h.elim (fun e => Hp2.out.2.2 e.symm) (fun e => Hp3.out.2.2 e.symm))).trans g0,
     (hx.cell (p := ⟨q10, 1, none⟩) HB10.out.lt (fun h => h.elim (fun e => Hp2.out.2.2 e.symm) (fun e => Hp3.out.2.2 e.symm))).trans g1⟩)
  have Hk3 := Lib.hid (key.out w3 (Hf2.out.mono (fun _ _ h => .inl h)))
  refine wpAnyH_ready (rs := [13]) (by kernel_rfl) (by simp) ?_
  refine AllReadyH.cons rfl ?_ AllReadyH.nil
  intro K hK
  refine step_mapEntry (by rfl) (.tmp 123) (.tmp 124) MT2 (by rfl) (.map (some b2)) (.agg #[.int .i64 (i : Int), .int .i64 (j : Int)]) (by rfl) (by rfl) _ _ He2.out ?_
  refine hK.out _ _ Hk3.out (fun hHeld => ?_)
  clear hK K
  try simp only [Act.put, List.getElem_toArray, List.getElem_cons_succ, List.getElem_cons_zero, List.setIfInBounds_toArray, List.set_cons_zero, List.set_cons_succ]
  refine wpAnyH_take (i := 14) (v := (.int .i64 ((pe ps).length : Int))) rfl (by kernel_rfl) (by kernel_rfl) (by kernel_rfl) (fun _ _ _ h => h) (Or.inl ⟨by kernel_rfl, ?_⟩) (by with_reducible assumption) ?_
  focus (intro w hSw; (try dsimp only at hSw); go_simp)
  try simp only [Act.put, List.getElem_toArray, List.getElem_cons_succ, List.getElem_cons_zero, List.setIfInBounds_toArray, List.set_cons_zero, List.set_cons_succ]
  have HE3 : ∃ w4, (Instr.entryStore MT2 (.map (some b2)) (.int .i64 ((pe ps).length : Int)) (.int .i64 (ps.length : Int))).run Try.prog w3 = .ok () w4 ∧ MB w4 b2 (pe (ps ++ [⟨true, 0, i, j, k⟩])) ∧ Fr w2 w4 (fun k => k = b2) := by
    refine ⟨_, Hm2.out.store, ?_, Hf2.out.trans (Hm2.out.frame _) (fun _ _ h => h)⟩
    rw [pe_snoc, if_pos rfl]
    exact Hm2.out.turn _
  obtain ⟨w4, he4, hm4, hf4⟩ := HE3
  have HE5 : ∃ w5, (Instr.mapEntry MT3 (.map (some b3)) (.int .u32 k)).run Try.prog w4 = .ok (.tuple #[.int .i64 0, .int .i64 ((re ps).length : Int)]) w5 ∧ MB w5 b3 (re ps ++ [(.int .u32 k, .int .i64 0)]) ∧ Fr w4 w5 (fun k => k = b3) := by
    have hm : MB w4 b3 (re ps) := HS2.out.m3.fr hf4 (fun e => HS2.out.ne.2.2 e.symm)
    exact ⟨_, hm.entry K3 Try.underlying130 (zeroI _) (keys3 Hps.out) k3.out (re_no (p := ⟨true, 0, i, j, k⟩) Hbb.out.2.symm), hm.turn _, hm.frame _⟩
  obtain ⟨w5, he5, hm5, hf5⟩ := HE5
  have HE6 : ∃ w6, (Instr.entryStore MT3 (.map (some b3)) (.int .i64 ((re ps).length : Int)) (.int .i64 (ps.length : Int))).run Try.prog w5 = .ok () w6 ∧ MB w6 b3 (re (ps ++ [⟨true, 0, i, j, k⟩])) ∧ Fr w4 w6 (fun k => k = b3) := by
    refine ⟨_, hm5.store, ?_, hf5.trans (hm5.frame _) (fun _ _ h => h)⟩
    rw [re_snoc, if_pos rfl]
    exact hm5.turn _
  obtain ⟨w6, he6, hm6, hf6⟩ := HE6
  have He4 := Lib.hid he4
  have He5 := Lib.hid he5
  have He6 := Lib.hid he6
  have Hf26 := Lib.hid (show Fr w2 w6 (fun k => k = b1 ∨ k = b2 ∨ k = b3) from (hf4.mono (fun _ _ h => .inr (.inl h))).trans hf6 (fun _ _ h => .inr (.inr h)))
  have Hk4 := Lib.hid (key.out w4 (hf4.mono (fun _ _ h => .inl h)))
  have Hk5 := Lib.hid (key.out w5 ((hf4.mono (fun _ _ h => .inl h)).trans hf5 (fun _ _ h => .inr h)))
  have Hk6 := Lib.hid (key.out w6 ((hf4.mono (fun _ _ h => .inl h)).trans hf6 (fun _ _ h => .inr h)))
  have Hm46 := Lib.hid (show MB w6 b2 (pe (ps ++ [⟨true, 0, i, j, k⟩])) from hm4.fr hf6 (fun e => HS2.out.ne.2.2 e))
  have Hm66 := Lib.hid hm6
  have Hm16 := Lib.hid (show MB w6 b1 (be (ps ++ [⟨true, 0, i, j, k⟩])) from by
    rw [be_snoc, if_pos rfl, List.append_nil]
    exact (HS2.out.m1.fr hf4 (fun e => HS2.out.ne.1 e)).fr hf6 (fun e => HS2.out.ne.2.1 e))
  clear he4 hm4 hf4 he5 hm5 hf5 he6 hm6 hf6
  refine wpAnyH_ready (rs := [15]) (by kernel_rfl) (by simp) ?_
  refine AllReadyH.cons rfl ?_ AllReadyH.nil
  intro K hK
  refine step_entryStore (by rfl) (.tmp 123) (.tmp 134) (.tmp 131) MT2 (by rfl) (.map (some b2)) (.int .i64 ((pe ps).length : Int)) (.int .i64 (ps.length : Int)) (by rfl) (by rfl) (by rfl) _ He4.out ?_
  refine hK.out _ _ Hk4.out (fun hHeld => ?_)
  clear hK K
  try simp only [Act.put, List.getElem_toArray, List.getElem_cons_succ, List.getElem_cons_zero, List.setIfInBounds_toArray, List.set_cons_zero, List.set_cons_succ]
  refine wpAnyH_ready (rs := [16]) (by kernel_rfl) (by simp) ?_
  refine AllReadyH.cons rfl ?_ AllReadyH.nil
  intro K hK
  refine step_mapEntry (by rfl) (.tmp 128) (.tmp 130) MT3 (by rfl) (.map (some b3)) (.int .u32 k) (by rfl) (by rfl) _ _ He5.out ?_
  refine hK.out _ _ Hk5.out (fun hHeld => ?_)
  clear hK K
  try simp only [Act.put, List.getElem_toArray, List.getElem_cons_succ, List.getElem_cons_zero, List.setIfInBounds_toArray, List.set_cons_zero, List.set_cons_succ]
  refine wpAnyH_take (i := 17) (v := (.int .i64 ((re ps).length : Int))) rfl (by kernel_rfl) (by kernel_rfl) (by kernel_rfl) (fun _ _ _ h => h) (Or.inl ⟨by kernel_rfl, ?_⟩) (by with_reducible assumption) ?_
  focus (intro w hSw; (try dsimp only at hSw); go_simp)
  try simp only [Act.put, List.getElem_toArray, List.getElem_cons_succ, List.getElem_cons_zero, List.setIfInBounds_toArray, List.set_cons_zero, List.set_cons_succ]
  refine wpAnyH_ready (rs := [18]) (by kernel_rfl) (by simp) ?_
  refine AllReadyH.cons rfl ?_ AllReadyH.nil
  intro K hK
  refine step_entryStore (by rfl) (.tmp 128) (.tmp 136) (.tmp 132) MT3 (by rfl) (.map (some b3)) (.int .i64 ((re ps).length : Int)) (.int .i64 (ps.length : Int)) (by rfl) (by rfl) (by rfl) _ He6.out ?_
  refine hK.out _ _ Hk6.out (fun hHeld => ?_)
  clear hK K
  try simp only [Act.put, List.getElem_toArray, List.getElem_cons_succ, List.getElem_cons_zero, List.setIfInBounds_toArray, List.set_cons_zero, List.set_cons_succ]
  refine wpAnyH_done (by kernel_rfl) ?_ _
  clear c0 c1 c2 c3 f4 g0 g1
  clear He2 Hm2 Hf2 He4 He5 He6 Hk3 Hk4 Hk5 Hk6 key
  have HO2 := Lib.hid (Hf26.out.owns HS2.out.own (fun k' hk e => e.elim (fun e => own_map HS2.out.own HS2.out.m1 (e ▸ hk)) (fun e => e.elim (fun e => own_map HS2.out.own HS2.out.m2 (e ▸ hk)) (fun e => own_map HS2.out.own HS2.out.m3 (e ▸ hk)))))
  have HB2 := Lib.hid (HS2.out.blk.fr Hf26.out (fun h => h.elim (fun e => HS2.out.m1.ne HS2.out.blk e.symm) (fun h => h.elim (fun e => HS2.out.m2.ne HS2.out.blk e.symm) (fun e => HS2.out.m3.ne HS2.out.blk e.symm))))
  have c0 : w6.cell? ⟨p, 0, none⟩ = some sv := by rw [HB2.out.cell]; rfl
  obtain ⟨i0, hi0, hz0, hz1, hz2⟩ := info_parts info_int
  have Hbs := Lib.hid (Nat.le_trans Hn.out.2 (Nat.le_trans HG'.out.size Hf26.out.size))
  go_wp2_with (
    at_builtin
    go_loud (refine wpList_append_sl _ encN rfl (.tmp 141) (.tmp 143) 60 rfl base 3 i0 (.int .i64 0) 1 8 Try.underlying60 hi0 hz0 hz1 hz2 rfl (by decide) sv ps.length _ rfl (HO2.out.alloc _) (.slice (some ⟨w6.heap.size, 0, none⟩) 1 1) [A + B] rfl (sl_one (enc := encN) w6 (A + B) #[.int .i64 ((A : Int) + (B : Int))] rfl 3) (fun _ => rfl) encN_one (by have := Hn.out.1; simp only [maxLen, List.length_singleton]; omega) (by have := Hn.out.1; simp only [List.length_singleton]; omega) (by have := Hbs.out; simp; omega) ?_)
    intro v7 w7 hown3 hg3 hat3
    rw [← List.flatMap_append] at hown3
    obtain ⟨A3, cap3, rfl⟩ := own_formN hown3
    have HP := Lib.hid (HS2.out.push (w2 := w6) (w3 := w7) (sv' := .slice A3 (ps.length + 1) cap3) ⟨true, 0, i, j, k⟩ (A + B) Hf26.out Hm16.out Hm46.out Hm66.out
      (((Fr.refl w6 _).alloc _).trans hg3 (fun _ _ h => h)) hown3)
    have HB3 := Lib.hid (HB2.out.fr (((Fr.refl w6 _).alloc _).trans hg3 (fun _ _ h => h)) (own_blk_ne HO2.out HB2.out TSn_int))
    have c3 : w7.cell? ⟨p, 0, none⟩ = some sv := by rw [HB3.out.cell]; rfl
    have g3 := HB3.out.frozen 0
    clear hown3 hg3 hat3)
  go_ret
  exact ⟨by rw [He.out]; rfl, .inr ⟨He.out, (Gr.mono HG'.out _).trans HP.out.2 (fun _ _ h => h), _, by rw [HAB.out.1, HAB.out.2]; exact HP.out.1⟩⟩
end Voc
end Go.Proofs.Ytlodbhlidgepfaa

namespace Go.Proofs.Ytlodbhlidgepfaa
open Go.RowKit
namespace Voc
/-- what is the first wrong thing; how many bytes the pieces stand for -/
def badF : List Pc → List Nat → List Pc → Option (Int × Nat)
  | _, _, [] => none
  | ps, sz, q :: r => if stepE ps sz q = 0 then badF (ps ++ [q]) (sz ++ [stepS sz q]) r else some (stepE ps sz q, ps.length)
def szF : List Nat → List Pc → List Nat
  | sz, [] => sz
  | sz, q :: r => szF (sz ++ [stepS sz q]) r
def checkE (ps : List Pc) : Int × Nat :=
  if 4096 < ps.length then (3, 0) else match badF [] [] ps with
    | some x => x
    | none => if (be ps).length < 256 then (7, ps.length) else (0, 0)
theorem stepS_le {ps : List Pc} {sz : List Nat} {q : Pc} (h : stepE ps sz q = 0) : stepS sz q ≤ 256 := by
  unfold stepE at h
  unfold stepS
  by_cases hj : q.j = false
  · rw [if_pos hj]; omega
  · rw [if_neg hj] at h ⊢
    by_cases h1 : q.b ≠ 0
    · rw [if_pos h1] at h; omega
    · rw [if_neg h1] at h
      split at h
      · omega
      · split at h
        · omega
        · omega

theorem take_any {w : World} {base p b1 b2 b3 : Nat} {ps : List Pc} {sz : List Nat} {sv : Value} (q : Pc) (H : SN w base p ps sz sv b1 b2 b3) (hps : ∀ q ∈ ps, wfP q) (hq : wfP q) (hs : ∀ s ∈ sz, s ≤ 256) (hn : ps.length < 4096) (hb : base ≤ w.heap.size) :
    Calls Try.prog 62 #[.pointer (some ⟨p, 0, none⟩), .int .i64 (ps.length : Int), .agg (encP q).toArray] w fun e w' => e = .returned (.int .i64 (stepE ps sz q)) ∧
      ((stepE ps sz q ≠ 0 ∧ Gr w w') ∨ (stepE ps sz q = 0 ∧ Fr w w' (SS p b1 b2 b3 sv) ∧ ∃ sv', SN w' base p (ps ++ [q]) (sz ++ [stepS sz q]) sv' b1 b2 b3)) := by
  obtain ⟨j, b, l, r, k⟩ := q
  cases j with
  | false => exact take_byte b l r k H hps hq hn hb _ rfl
  | true => exact take_join b l r k H hps hq hs hn hb _ rfl

theorem wpList_len_at {P : Program} {w : World} {ops : Array Oper} {rest : List Oper} {o : Oper} {a : Act} {Q : Exit → Act → World → Prop} (hgd : o.guard = none) (x : Operand) (t : TypeId)
    (ho : o.op = .call { callee := .builtin .len, args := #[x], argTypes := #[t] }) (M v : Value) (hm : a.eval x = M) (hrun : ∀ ty, (Builtin.len_ #[t] ty #[M]).run P w = .ok v w) (h : wpList P ops Q rest (a.put o.dst v) w) : wpList P ops Q (o :: rest) a w := by
  refine wpList_plain hgd fun _ hK => ?_
  unfold Oper.wp execOp
  simp only [ho, resolve, invoke, builtin, Sem.run_bind, Sem.run_pure, Result.andThen_ok, List.map_toArray, List.map_cons, List.map_nil, hm, hrun]
  exact hK _ _ h

structure LK (w wr : World) (q1 p b1 b2 b3 : Nat) (v sv : Value) (xs : List Pc) (k : Nat) (sz : List Nat) : Prop where
  gr : Gr w wr
  blk : Blk wr q1 27 #[v]
  sn : SN wr (w.heap.size + 1) p (xs.take k) sz sv b1 b2 b3
  bad : badF [] [] xs = badF (xs.take k) sz (xs.drop k)
  szs : szF [] xs = szF sz (xs.drop k)
  le : ∀ s ∈ sz, s ≤ 256

theorem LK.of_gr {w wr wa : World} {q1 p b1 b2 b3 k : Nat} {v sv : Value} {xs : List Pc} {sz : List Nat} (H : LK w wr q1 p b1 b2 b3 v sv xs k sz) (hg : Gr wr wa) : LK w wa q1 p b1 b2 b3 v sv xs k sz :=
  ⟨H.gr.trans hg (fun _ _ h => h), H.blk.fr hg (fun h => h), H.sn.gr hg, H.bad, H.szs, H.le⟩
theorem LK.next {w wa w3 : World} {q1 p b1 b2 b3 k : Nat} {v sv sv' : Value} {xs : List Pc} {sz : List Nat} {q : Pc} (H : LK w wa q1 p b1 b2 b3 v sv xs k sz) (hq : w.heap.size = q1) (h1 : xs.take (k + 1) = xs.take k ++ [q]) (h2 : xs.drop k = q :: xs.drop (k + 1))
    (h0 : stepE (xs.take k) sz q = 0) (hf : Fr wa w3 (SS p b1 b2 b3 sv)) (hs : SN w3 (w.heap.size + 1) p (xs.take k ++ [q]) (sz ++ [stepS sz q]) sv' b1 b2 b3) : LK w w3 q1 p b1 b2 b3 v sv' xs (k + 1) (sz ++ [stepS sz q]) := by
  have hlo : ∀ i, SS p b1 b2 b3 sv i → w.heap.size + 1 ≤ i := by
    rintro i (rfl | rfl | rfl | rfl | h)
    · exact H.sn.bs.1
    · exact H.sn.bs.2.1
    · exact H.sn.bs.2.2.1
    · exact H.sn.bs.2.2.2
    · exact (H.sn.own.lt i h).1
  refine ⟨H.gr.trans hf (fun i hi h => by have := hlo i h; omega), H.blk.fr hf (fun h => by have := hlo _ h; omega), h1 ▸ hs, ?_, ?_, ?_⟩
  · rw [H.bad, h2, h1]; simp [badF, h0]
  · rw [H.szs, h2]; rfl
  · intro s hs'
    rcases List.mem_append.1 hs' with h | h
    · exact H.le s h
    · simp at h; subst h; exact stepS_le h0
theorem LK.stop {w wa : World} {q1 p b1 b2 b3 k : Nat} {v sv : Value} {xs : List Pc} {sz : List Nat} {q : Pc} (H : LK w wa q1 p b1 b2 b3 v sv xs k sz) (hk : k < xs.length) (h4 : ¬ 4096 < xs.length) (h2 : xs.drop k = q :: xs.drop (k + 1))
    (h0 : stepE (xs.take k) sz q ≠ 0) : checkE xs = (stepE (xs.take k) sz q, k) := by
  have : badF [] [] xs = some (stepE (xs.take k) sz q, k) := by
    rw [H.bad, h2]
    simp only [badF, if_neg h0]
    rw [List.length_take, Nat.min_eq_left (by omega)]
  simp only [checkE, if_neg h4, this]
theorem LK.done {w wa : World} {q1 p b1 b2 b3 : Nat} {v sv : Value} {xs : List Pc} {sz : List Nat} (H : LK w wa q1 p b1 b2 b3 v sv xs xs.length sz) (h4 : ¬ 4096 < xs.length) :
    (checkE xs = if (be xs).length < 256 then (7, xs.length) else (0, 0)) ∧ szF [] xs = sz ∧ SN wa (w.heap.size + 1) p xs sz sv b1 b2 b3 := by
  have h1 := H.bad
  have h2 := H.szs
  have h3 := H.sn
  rw [List.drop_length] at h1 h2
  rw [List.take_length] at h3
  refine ⟨?_, h2, h3⟩
  simp only [checkE, if_neg h4, h1, badF]

set_option maxRecDepth 20000 in
set_option maxHeartbeats 4000000 in
theorem look_any {w : World} {v : Value} {xs : List Pc} (HS : SL encP w v xs) (hw : ∀ q ∈ xs, wfP q) (hl : xs.length ≤ 1048576) (E : Int) (at_ : Nat) (hE : checkE xs = (E, at_)) :
    Calls Try.prog 49 #[.agg #[v]] w fun e w' => Gr w w' ∧ ((E ≠ 0 ∧ e = .returned (.tuple #[.pointer none, .int .i64 E, .int .i64 at_])) ∨
      (E = 0 ∧ at_ = 0 ∧ ∃ p, e = .returned (.tuple #[.pointer (some ⟨p, 0, none⟩), .int .i64 0, .int .i64 0]) ∧ ∃ b1 b2 b3 sv, SN w' (w.heap.size + 1) p xs (szF [] xs) sv b1 b2 b3)) := by
  obtain ⟨A, cap, rfl⟩ : ∃ A cap, v = .slice A xs.length cap := by obtain ⟨A, cap, h, _⟩ := HS; exact ⟨A, cap, h⟩
  have HS1 := Lib.hid HS
  clear HS
  have HW := Lib.hid hw
  have HL := Lib.hid hl
  have HE := Lib.hid hE
  clear hw hE hl
  by_cases h4 : 4096 < xs.length
  case pos =>
    have h4' : (4096 : Int) < (xs.length : Int) := by omega
    have he := HE.out
    simp only [checkE, if_pos h4] at he
    injection he with e1 e2
    have He := Lib.hid (And.intro e1 e2)
    clear e1 e2 h4
    go_enter Try.func49, Try.ntmps49
    go_wp2_with fail
    go_ret3
    exact ⟨(Fr.refl w _).alloc _, .inl ⟨by rw [← He.out.1]; decide, by rw [← He.out.1, ← He.out.2]; rfl⟩⟩
  have h4' : ¬ (4096 : Int) < (xs.length : Int) := by omega
  go_enter Try.func49, Try.ntmps49
  clear h4
  have hmk : ∀ (t : TypeId) (w : World), (Instr.makeMap t none).run Try.prog w = .ok (.map (some w.heap.size)) (w.alloc (.map #[] 0)) := fun _ _ => rfl
  go_upto_block 0 with (fail)
  have HP0 := Lib.hid (show LK w (((((w.alloc (.cells #[.slice A xs.length cap] 27)).alloc (.map #[] 0)).alloc (.map #[] 0)).alloc (.map #[] 0)).alloc (.cells #[.slice none 0 0, .map (some (w.heap.size + 1)), .map (some (w.heap.size + 1 + 1)), .map (some (w.heap.size + 1 + 1 + 1))] TSn)) w.heap.size (w.heap.size + 1 + 1 + 1 + 1) (w.heap.size + 1) (w.heap.size + 1 + 1) (w.heap.size + 1 + 1 + 1) (.slice A xs.length cap) (.slice none 0 0) xs 0 [] from by
    generalize hb1 : World.alloc w (.cells #[.slice A xs.length cap] 27) = w1
    have hB := Blk.new w 27 #[.slice A xs.length cap]
    have hG := (Fr.refl w NoneS).alloc (.cells #[.slice A xs.length cap] 27)
    have hs : w1.heap.size = w.heap.size + 1 := by rw [← hb1]; simp
    rw [hb1] at hB hG
    have m1 := MB.new w1
    have m2 := MB.new (w1.alloc (.map #[] 0))
    have m3 := MB.new ((w1.alloc (.map #[] 0)).alloc (.map #[] 0))
    have bp := Blk.new (((w1.alloc (.map #[] 0)).alloc (.map #[] 0)).alloc (.map #[] 0)) TSn #[.slice none 0 0, .map (some (w.heap.size + 1)), .map (some (w.heap.size + 1 + 1)), .map (some (w.heap.size + 1 + 1 + 1))]
    have s2 : (w1.alloc (.map #[] 0)).heap.size = w.heap.size + 1 + 1 := by simp [hs]
    have s3 : ((w1.alloc (.map #[] 0)).alloc (.map #[] 0)).heap.size = w.heap.size + 1 + 1 + 1 := by simp [hs]
    have s4 : (((w1.alloc (.map #[] 0)).alloc (.map #[] 0)).alloc (.map #[] 0)).heap.size = w.heap.size + 1 + 1 + 1 + 1 := by simp [hs]
    rw [hs] at m1
    rw [s2] at m2
    rw [s3] at m3
    rw [s4] at bp
    refine ⟨(((hG.alloc _).alloc _).alloc _).alloc _, ((((hB.alloc _).alloc _).alloc _).alloc _), ⟨⟨by omega, by omega, by omega, by omega⟩, bp, by simpa using World.ownsRow_nil _ _ _ _, ?_, ?_, ?_, ⟨by omega, by omega, by omega⟩, rfl⟩, rfl, rfl, (fun _ h => by cases h)⟩
    · exact m1.fr ((((Fr.refl _ NoneS).alloc _).alloc _).alloc _) (fun h => h)
    · exact m2.fr (((Fr.refl _ NoneS).alloc _).alloc _) (fun h => h)
    · exact m3.fr ((Fr.refl _ NoneS).alloc _) (fun h => h))
  clear hmk
  generalize World.alloc (World.alloc _ _) (.cells #[.slice none 0 0, _, _, _] _) = w5 at HP0 ⊢
  obtain ⟨q1, hq1⟩ : ∃ q, w.heap.size = q := ⟨_, rfl⟩
  rw [hq1] at HP0 ⊢
  obtain ⟨b1, hb1⟩ : ∃ q, q1 + 1 = q := ⟨_, rfl⟩
  rw [hb1] at HP0 ⊢
  obtain ⟨b2, hb2⟩ : ∃ q, b1 + 1 = q := ⟨_, rfl⟩
  rw [hb2] at HP0 ⊢
  obtain ⟨b3, hb3⟩ : ∃ q, b2 + 1 = q := ⟨_, rfl⟩
  rw [hb3] at HP0 ⊢
  obtain ⟨p, hp⟩ : ∃ q, b3 + 1 = q := ⟨_, rfl⟩
  rw [hp] at HP0 ⊢
  have Hq1 := Lib.hid hq1
  clear hq1 hb1 hb2 hb3 hp
  go_wp2_with fail
  go_loopg [21] (xs.length + 1) (fun m s21 wr => ∃ (k : Nat) (sz : List Nat) (sv : Value), s21 = .int .i64 k ∧ Hid (k ≤ xs.length ∧ xs.length - k < m) ∧ Hid (LK w wr q1 p b1 b2 b3 (.slice A xs.length cap) sv xs k sz))
  case atStart => exact ⟨0, [], _, rfl, ⟨Nat.zero_le _, by omega⟩, HP0.out⟩
  case round =>
    obtain ⟨k, sz, sv, rfl, HK, HP⟩ := hrel
    clear HP0
    by_cases hk : k < xs.length
    · obtain ⟨ba, oa, rfl, hba, hcell⟩ := (HS1.out.gr HP.out.gr).at_ (s := 5) (fun _ => rfl) rfl hk
      have d0 := hcell 0 (by omega)
      have d1 := hcell 1 (by omega)
      have d2 := hcell 2 (by omega)
      have d3 := hcell 3 (by omega)
      have d4 := hcell 4 (by omega)
      clear hcell
      simp [encP] at d0 d1 d2 d3 d4
      rw [← Nat.add_assoc] at d1 d2 d3 d4
      have Hk := Lib.hid hk
      have Hb := Lib.hid hba
      have Hxk := Lib.hid (show xs.take (k + 1) = xs.take k ++ [xs[k]'hk] ∧ xs.drop k = xs[k]'hk :: xs.drop (k + 1) from ⟨by rw [List.take_add_one, List.getElem?_eq_getElem hk]; rfl, List.drop_eq_getElem_cons hk⟩)
      have Hwf := Lib.hid (HW.out _ (List.getElem_mem hk))
      clear hba
      generalize xs[k]'hk = q at d0 d1 d2 d3 d4 Hxk Hwf
      obtain ⟨jj, bb, ll, rr, kk⟩ := q
      simp only at d0 d1 d2 d3 d4
      have hki : (k : Int) < xs.length := by omega
      go_upto_region 7 with (fail)
      have HA := Lib.hid (HP.out.of_gr ((Fr.refl wr NoneS).alloc (.cells #[.bool jj, .int .u8 bb, .int .i64 ll, .int .i64 rr, .int .u32 kk] TPc)))
      have HBa := Lib.hid (Blk.new wr TPc #[.bool jj, .int .u8 bb, .int .i64 ll, .int .i64 rr, .int .u32 kk])
      generalize wr.alloc (.cells #[.bool jj, .int .u8 bb, .int .i64 ll, .int .i64 rr, .int .u32 kk] TPc) = wa at HA HBa ⊢
      generalize wr.heap.size = ob at HBa ⊢
      clear d0 d1 d2 d3 d4
      have g0 : wa.cell? ⟨ob, 0, none⟩ = some (.bool jj) := by rw [HBa.out.cell]; rfl
      have g1 : wa.cell? ⟨ob, 1, none⟩ = some (.int .u8 bb) := by rw [HBa.out.cell]; rfl
      have g2 : wa.cell? ⟨ob, 2, none⟩ = some (.int .i64 ll) := by rw [HBa.out.cell]; rfl
      have g3 : wa.cell? ⟨ob, 3, none⟩ = some (.int .i64 rr) := by rw [HBa.out.cell]; rfl
      have g4 : wa.cell? ⟨ob, 4, none⟩ = some (.int .u32 kk) := by rw [HBa.out.cell]; rfl
      have hlk : (xs.take k).length = k := by rw [List.length_take]; omega
      have Ht := take_any ⟨jj, bb, ll, rr, kk⟩ HA.out.sn (fun q hq => HW.out q (List.mem_of_mem_take hq)) Hwf.out HA.out.le (by omega) (by
        have := HA.out.blk.lt; have := Hq1.out; omega)
      rw [hlk] at Ht
      obtain ⟨ev, hev⟩ : ∃ e, e = stepE (xs.take k) sz ⟨jj, bb, ll, rr, kk⟩ := ⟨_, rfl⟩
      rw [← hev] at Ht
      have HT := Lib.hid Ht
      have Hev := Lib.hid hev
      clear Ht hev hlk
      by_cases h0 : ev = 0
      · subst h0
        go_wp2_with (go_at_call 62; refine HT.out.mono ?_; rintro e w3 ⟨rfl, hc⟩; have HC := Lib.hid hc; clear hc)
        have hc := HC.out
        rcases hc with ⟨h, _⟩ | ⟨_, hf, sv', hs⟩
        · exact absurd rfl h
        have HN := Lib.hid (HA.out.next Hq1.out Hxk.out.1 Hxk.out.2 Hev.out.symm hf hs)
        clear hf hs
        go_roundg (gk - 1)
        case measure => have := HK.out; omega
        case rel => exact ⟨k + 1, _, sv', by simp, ⟨by omega, by have := HK.out; omega⟩, HN.out⟩
      · have H0 := Lib.hid h0
        go_wp2_with (go_at_call 62; refine HT.out.mono ?_; rintro e w3 ⟨rfl, hc⟩; have HC := Lib.hid hc; clear hc)
        go_ret3
        have hc := HC.out
        rcases hc with ⟨_, hg⟩ | ⟨h, _⟩
        · have h1 := HA.out.stop Hk.out (by omega) Hxk.out.2 (by rw [← Hev.out]; exact H0.out)
          rw [HE.out, ← Hev.out] at h1
          injection h1 with h1 h2
          exact ⟨HA.out.gr.trans hg (fun _ _ h => h), .inl ⟨by rw [h1]; exact H0.out, by rw [h1, h2]; rfl⟩⟩
        · exact absurd h H0.out
    · obtain rfl : k = xs.length := by have := HK.out; omega
      have HD := Lib.hid (HP.out.done (by omega))
      have hck := HD.out.1
      rw [HE.out] at hck
      have f1 := HP.out.sn.cells.2.1
      have hlen : ∀ ty, (Builtin.len_ #[129] ty #[.map (some b1)]).run Try.prog wr = .ok (.int .i64 ((be xs).length : Int)) wr := fun ty => HD.out.2.2.m1.len Try.underlying129 ty
      have fq : wr.cell? ⟨q1, 0, none⟩ = some (.slice A xs.length cap) := by rw [HP.out.blk.cell]; rfl
      by_cases hb : (be xs).length < 256
      · have hb' : ((be xs).length : Int) < 256 := by omega
        rw [if_pos hb] at hck
        have Hck := Lib.hid hck
        clear hck hb
        go_wp2_with fail
        go_region
        go_wp2_with fail
        go_ret3
        have he := Hck.out
        injection he with h1 h2
        exact ⟨HP.out.gr.drew, .inl ⟨by rw [h1]; decide, by rw [h1, h2]; rfl⟩⟩
      · have hb' : ¬ ((be xs).length : Int) < 256 := by omega
        rw [if_neg hb] at hck
        have Hck := Lib.hid hck
        clear hck hb
        go_wp2_with fail
        go_ret3
        have he := Hck.out
        injection he with h1 h2
        exact ⟨HP.out.gr, .inr ⟨h1, h2, p, rfl, b1, b2, b3, sv, by rw [HD.out.2.1]; exact HD.out.2.2⟩⟩
end Voc
end Go.Proofs.Ytlodbhlidgepfaa

namespace Go.Proofs.Ytlodbhlidgepfaa
open Go.RowKit
namespace Voc
theorem SL.form {α : Type} {enc : α → List Value} {w : World} {v : Value} {xs : List α} (h : SL enc w v xs) : ∃ A cap, v = .slice A xs.length cap := by obtain ⟨A, cap, h, _⟩ := h; exact ⟨A, cap, h⟩
theorem check_any {w : World} {v : Value} {xs : List Pc} (HS : SL encP w v xs) (hw : ∀ q ∈ xs, wfP q) (hl : xs.length ≤ 1048576) :
    Calls Try.prog 27 #[.agg #[v]] w fun e w' => e = .returned (.tuple #[.int .i64 (checkE xs).1, .int .i64 ((checkE xs).2 : Nat)]) ∧ Gr w w' := by
  obtain ⟨⟨E, at_⟩, hE⟩ : ∃ x, checkE xs = x := ⟨_, rfl⟩
  rw [hE]
  simp only
  obtain ⟨A, cap, rfl⟩ := SL.form HS
  have HG := Lib.hid ((Fr.refl w NoneS).alloc (.cells #[.slice A xs.length cap] 27))
  have HL := Lib.hid (look_any (HS.gr HG.out) hw hl E at_ hE)
  clear HS hw hl hE
  go_enter Try.func27, Try.ntmps27
  generalize hx : World.alloc w (.cells #[.slice A xs.length cap] 27) = wa at HG HL
  have f0 : wa.cell? ⟨w.heap.size, 0, none⟩ = some (.slice A xs.length cap) := by rw [← hx]; simp
  have HX := Lib.hid hx
  clear hx
  go_wp2_with (go_at_call 49; rw [HX.out]; refine HL.out.mono ?_; rintro e w3 ⟨hg, ⟨h0, rfl⟩ | ⟨h0, h1, p, rfl, _⟩⟩ <;> have HG3 := Lib.hid hg <;> clear hg)
  all_goals (go_ret2; first | exact ⟨rfl, HG.out.trans HG3.out (fun _ _ h => h)⟩ | (subst h0 h1; exact ⟨rfl, HG.out.trans HG3.out (fun _ _ h => h)⟩))
end Voc
end Go.Proofs.Ytlodbhlidgepfaa

namespace Go.Proofs.Ytlodbhlidgepfaa
open Go.RowKit
namespace Voc
def encI (x : Int) : List Value := [.int .i64 x]
def encB (x : Int) : List Value := [.int .u8 x]
theorem encB_one : ∀ x : Int, ∀ u ∈ encB x, u.oneCell' = true := by intro x u hu; simp [encB] at hu; subst hu; rfl
theorem info_u8 : (Try.prog.info? 5).map (fun i => (i.zero, i.size, i.bytes)) = some (some (.int .u8 0), 1, 1) := by kernel_rfl
/-- the bytes that piece n stands for -/
def expB (xs : List Pc) : Nat → Int → List Int
  | 0, _ => []
  | f + 1, n => match xs[n.toNat]? with
    | none => []
    | some q => if q.j then expB xs f q.l ++ expB xs f q.r else [q.b]
/-- joins look back -/
def Back (xs : List Pc) : Prop := ∀ (i : Nat) (q : Pc), xs[i]? = some q → q.j = true → (0 ≤ q.l ∧ q.l < i) ∧ (0 ≤ q.r ∧ q.r < i)
def IsB (u : Value) : Prop := ∃ x : Int, u = .int .u8 x
theorem encB_isB (l : List Int) : ∀ u ∈ l.flatMap encB, IsB u := by
  intro u hu
  obtain ⟨x, _, hx⟩ := List.mem_flatMap.1 hu
  simp [encB] at hx
  exact ⟨_, hx⟩
/-- the size of piece n -/
def sizeE (xs : List Pc) (n : Int) : Int × Int := if (checkE xs).1 ≠ 0 then (0, 11) else if n < 0 ∨ (xs.length : Int) ≤ n then (0, 2) else ((szAt (szF [] xs) n : Nat), 0)
theorem expB_more {xs : List Pc} (hb : Back xs) : ∀ (f g n : Nat), n < f → n < g → expB xs f n = expB xs g n := by
  intro f
  induction f with
  | zero => intro g n h; omega
  | succ f ih =>
    intro g n h1 h2
    cases g with
    | zero => omega
    | succ g =>
      simp only [expB, Int.toNat_natCast]
      cases hq : xs[n]? with
      | none => rfl
      | some q =>
        simp only
        cases hj : q.j with
        | false => rfl
        | true =>
          obtain ⟨⟨a, b⟩, c, d⟩ := hb n q hq hj
          obtain ⟨i, hi⟩ : ∃ i : Nat, q.l = i := ⟨q.l.toNat, by omega⟩
          obtain ⟨j, hj'⟩ : ∃ j : Nat, q.r = j := ⟨q.r.toNat, by omega⟩
          simp only [if_true]
          rw [hi, hj', ih g i (by omega) (by omega), ih g j (by omega) (by omega)]

/-- the walk along the pieces, right so far -/
structure Ok (ps : List Pc) (sz : List Nat) : Prop where
  back : Back ps
  len : sz.length = ps.length
  size : ∀ i, i < ps.length → szAt sz (i : Int) = (expB ps (i + 1) i).length
theorem expB_app {ps : List Pc} (hb : Back ps) (q : Pc) : ∀ (f n : Nat), n < f → n < ps.length → expB (ps ++ [q]) f n = expB ps f n := by
  intro f
  induction f with
  | zero => intro n h; omega
  | succ f ih =>
    intro n h1 h2
    simp only [expB, Int.toNat_natCast]
    rw [List.getElem?_append_left h2]
    cases hq : ps[n]? with
    | none => rfl
    | some x =>
      simp only
      cases hj : x.j with
      | false => rfl
      | true =>
        obtain ⟨⟨a, b⟩, c, d⟩ := hb n x hq hj
        obtain ⟨i, hi⟩ : ∃ i : Nat, x.l = i := ⟨x.l.toNat, by omega⟩
        obtain ⟨j, hj'⟩ : ∃ j : Nat, x.r = j := ⟨x.r.toNat, by omega⟩
        simp only [if_true]
        rw [hi, hj', ih i (by omega) (by omega), ih j (by omega) (by omega)]
theorem Ok.nil : Ok [] [] := ⟨fun i q h => by simp at h, rfl, fun i h => by simp at h⟩
theorem Ok.snoc {ps : List Pc} {sz : List Nat} (h : Ok ps sz) {q : Pc} (h0 : stepE ps sz q = 0) : Ok (ps ++ [q]) (sz ++ [stepS sz q]) := by
  have hq : q.j = true → (0 ≤ q.l ∧ q.l < ps.length) ∧ (0 ≤ q.r ∧ q.r < ps.length) := by
    intro hj
    unfold stepE at h0
    rw [if_neg (by simp [hj])] at h0
    split at h0
    · omega
    · split at h0
      · omega
      · omega
  have hbk : Back (ps ++ [q]) := by
    intro i x hx hj
    rcases Nat.lt_trichotomy i ps.length with hi | hi | hi
    · rw [List.getElem?_append_left hi] at hx
      exact h.back i x hx hj
    · subst hi
      rw [List.getElem?_append_right (Nat.le_refl _), Nat.sub_self] at hx
      simp at hx
      subst hx
      exact hq hj
    · rw [List.getElem?_eq_none (by simp; omega)] at hx; cases hx
  refine ⟨hbk, by simp [h.len], fun i hi => ?_⟩
  rw [List.length_append, List.length_singleton] at hi
  rcases Nat.lt_or_ge i ps.length with hlt | hge
  · rw [expB_app h.back q _ _ (by omega) hlt, ← h.size i hlt]
    unfold szAt
    rw [Int.toNat_natCast, List.getD_eq_getElem?_getD, List.getD_eq_getElem?_getD, List.getElem?_append_left (by rw [h.len]; exact hlt)]
  · obtain rfl : i = ps.length := by omega
    have e1 : szAt (sz ++ [stepS sz q]) (ps.length : Int) = stepS sz q := by
      unfold szAt
      rw [Int.toNat_natCast, List.getD_eq_getElem?_getD, List.getElem?_append_right (by rw [h.len]; omega), h.len, Nat.sub_self]; rfl
    rw [e1]
    simp only [expB, Int.toNat_natCast]
    rw [List.getElem?_append_right (Nat.le_refl _), Nat.sub_self]
    simp only [List.getElem?_cons_zero]
    unfold stepS
    cases hj : q.j with
    | false => simp
    | true =>
      obtain ⟨⟨a, b⟩, c, d⟩ := hq hj
      obtain ⟨i, hi⟩ : ∃ i : Nat, q.l = i := ⟨q.l.toNat, by omega⟩
      obtain ⟨j, hj'⟩ : ∃ j : Nat, q.r = j := ⟨q.r.toNat, by omega⟩
      simp only [if_true]
      rw [if_neg (by decide), hi, hj', List.length_append, h.size i (by omega), h.size j (by omega)]
      rw [expB_app h.back q _ _ (by omega) (by omega), expB_app h.back q _ _ (by omega) (by omega)]
      rw [expB_more h.back ps.length (i + 1) i (by omega) (by omega), expB_more h.back ps.length (j + 1) j (by omega) (by omega)]
theorem Ok.all {ps : List Pc} {sz : List Nat} (h : Ok ps sz) : ∀ (r : List Pc), badF ps sz r = none → Ok (ps ++ r) (szF sz r) := by
  intro r
  induction r generalizing ps sz with
  | nil => intro _; rw [List.append_nil]; exact h
  | cons q r ih =>
    intro hb
    simp only [badF] at hb
    split at hb
    · rename_i h0
      have := ih (h.snoc h0) hb
      rw [List.append_assoc] at this
      exact this
    · cases hb
theorem ok_of_check {xs : List Pc} {a : Nat} (h : checkE xs = (0, a)) : xs.length ≤ 4096 ∧ Ok xs (szF [] xs) := by
  unfold checkE at h
  split at h
  · cases h
  · rename_i h4
    refine ⟨by omega, ?_⟩
    cases hb : badF [] [] xs with
    | none => exact Ok.nil.all xs hb
    | some x =>
      rw [hb] at h
      simp only at h
      exfalso
      have : ∀ (r ps : List Pc) (sz : List Nat) (y : Int × Nat), badF ps sz r = some y → y.1 ≠ 0 := by
        intro r
        induction r with
        | nil => intro ps sz y h; cases h
        | cons q r ih =>
          intro ps sz y h
          simp only [badF] at h
          split at h
          · exact ih _ _ _ h
          · rename_i h0; injection h with h; subst h; exact h0
      exact this xs [] [] x hb (by rw [h])
def expE (xs : List Pc) (n : Int) : List Int := if (sizeE xs n).2 = 0 then expB xs (n.toNat + 1) n else []
theorem size_ok {xs : List Pc} {n : Int} (h : (sizeE xs n).2 = 0) : Ok xs (szF [] xs) ∧ xs.length ≤ 4096 ∧ 0 ≤ n ∧ n < xs.length ∧ (sizeE xs n).1 = (expE xs n).length := by
  have hE : expE xs n = expB xs (n.toNat + 1) n := by unfold expE; rw [if_pos h]
  rw [hE]
  unfold sizeE at h ⊢
  split at h
  · cases h
  · rename_i h1
    split at h
    · cases h
    · rename_i h2
      rw [if_neg h1, if_neg h2]
      have hc : checkE xs = (0, (checkE xs).2) := by
        have : (checkE xs).1 = 0 := by simpa using h1
        rw [← this]
      obtain ⟨h4, hok⟩ := ok_of_check hc
      refine ⟨hok, h4, by omega, by omega, ?_⟩
      obtain ⟨i, rfl⟩ : ∃ i : Nat, n = i := ⟨n.toNat, by omega⟩
      have := hok.size i (by omega)
      simp only [Int.toNat_natCast]
      rw [this]
end Voc
end Go.Proofs.Ytlodbhlidgepfaa

namespace Go.Proofs.Ytlodbhlidgepfaa
open Go.RowKit
namespace Voc
theorem nodup_len : ∀ (n : Nat) (l : List Nat), l.Nodup → (∀ x ∈ l, x < n) → l.length ≤ n
  | 0, l, _, h => by
    cases l with
    | nil => simp
    | cons x r => exact absurd (h x (by simp)) (by omega)
  | n + 1, l, hn, h => by
    have h1 := nodup_len n (l.erase n) (hn.erase n) (fun x hx => by
      have h2 := (List.Nodup.mem_erase_iff hn).1 hx
      have h3 := h x h2.2
      have h4 := h2.1
      omega)
    rw [List.length_erase] at h1
    split at h1 <;> omega
structure Inv (ps : List Pc) : Prop where
  form : ∀ q ∈ ps, (q.j = false → q.l = 0 ∧ q.r = 0 ∧ q.k = 0) ∧ (q.j = true → q.b = 0)
  one : ∀ (i j : Nat) (p q : Pc), i < j → ps[i]? = some p → ps[j]? = some q → p.j = q.j → (q.j = false → p.b ≠ q.b) ∧ (q.j = true → ¬ (p.l = q.l ∧ p.r = q.r) ∧ p.k ≠ q.k)
theorem Inv.nil : Inv [] := ⟨fun q h => (by cases h), fun i j p q _ h => by simp at h⟩
theorem Inv.snoc {ps : List Pc} {sz : List Nat} {q : Pc} (H : Inv ps) (h : stepE ps sz q = 0) : Inv (ps ++ [q]) := by
  have hq : (q.j = false → (q.l = 0 ∧ q.r = 0 ∧ q.k = 0) ∧ ps.any (sameB q) = false) ∧ (q.j = true → q.b = 0 ∧ ps.any (sameP q) = false ∧ ps.any (sameK q) = false) := by
    unfold stepE at h
    refine ⟨fun hj => ?_, fun hj => ?_⟩
    · rw [if_pos hj] at h
      split at h
      · cases h
      · rename_i h1
        split at h
        · cases h
        · rename_i h2
          exact ⟨by simpa using h1, by simpa using h2⟩
    · rw [if_neg (by simp [hj])] at h
      split at h
      · cases h
      · rename_i h1
        split at h
        · cases h
        · split at h
          · cases h
          · split at h
            · cases h
            · rename_i h2
              rw [Bool.or_eq_true, not_or] at h2
              exact ⟨by simpa using h1, by simpa using h2.1, by simpa using h2.2⟩
  refine ⟨fun x hx => ?_, fun i j p x hij hi hj he => ?_⟩
  · rcases List.mem_append.1 hx with h' | h'
    · exact H.form x h'
    · simp at h'
      subst h'
      exact ⟨fun h => (hq.1 h).1, fun h => (hq.2 h).1⟩
  · rcases Nat.lt_or_ge j ps.length with hlt | hge
    · rw [List.getElem?_append_left (by omega)] at hi
      rw [List.getElem?_append_left hlt] at hj
      exact H.one i j p x hij hi hj he
    · have hj' : j = ps.length := by
        have := (List.getElem?_eq_some_iff.1 hj).1
        simp at this
        omega
      subst hj'
      rw [List.getElem?_append_right (Nat.le_refl _), Nat.sub_self] at hj
      simp at hj
      subst hj
      rw [List.getElem?_append_left hij] at hi
      have hm := List.mem_of_getElem? hi
      refine ⟨fun h0 e => ?_, fun h1 => ⟨fun e => ?_, fun e => ?_⟩⟩
      · have := List.any_eq_false.1 (hq.1 h0).2 p hm
        simp [sameB, he, h0, e] at this
      · have := List.any_eq_false.1 (hq.2 h1).2.1 p hm
        simp [sameP, he, h1, e] at this
      · have := List.any_eq_false.1 (hq.2 h1).2.2 p hm
        simp [sameK, he, h1, e] at this
theorem Inv.all : ∀ (r ps : List Pc) (sz : List Nat), Inv ps → badF ps sz r = none → Inv (ps ++ r)
  | [], ps, sz, h, _ => by rw [List.append_nil]; exact h
  | q :: r, ps, sz, h, hb => by
    simp only [badF] at hb
    split at hb
    · rename_i h0
      have := Inv.all r _ _ (h.snoc h0) hb
      rw [List.append_assoc] at this
      exact this
    · cases hb
theorem szF_le : ∀ (r ps : List Pc) (sz : List Nat), (∀ s ∈ sz, s ≤ 256) → badF ps sz r = none → ∀ s ∈ szF sz r, s ≤ 256
  | [], ps, sz, h, _ => h
  | q :: r, ps, sz, h, hb => by
    simp only [badF] at hb
    split at hb
    · rename_i h0
      refine szF_le r _ _ (fun s hs => ?_) hb
      rcases List.mem_append.1 hs with h' | h'
      · exact h s h'
      · simp at h'; subst h'; exact stepS_le h0
    · cases hb
/-- a right Vocab -/
structure Good (xs : List Pc) : Prop where
  len : xs.length ≤ 4096
  ok : Ok xs (szF [] xs)
  inv : Inv xs
  le : ∀ s ∈ szF [] xs, s ≤ 256
  many : 256 ≤ (be xs).length
theorem badF_ne : ∀ (r ps : List Pc) (sz : List Nat) (y : Int × Nat), badF ps sz r = some y → y.1 ≠ 0 := by
  intro r
  induction r with
  | nil => intro ps sz y h; cases h
  | cons q r ih =>
    intro ps sz y h
    simp only [badF] at h
    split at h
    · exact ih _ _ _ h
    · rename_i h0; injection h with h; subst h; exact h0
theorem good_of {xs : List Pc} (h : (checkE xs).1 = 0) : Good xs := by
  obtain ⟨⟨E, a⟩, he⟩ : ∃ y, checkE xs = y := ⟨_, rfl⟩
  rw [he] at h
  simp only at h
  subst h
  obtain ⟨h4, hok⟩ := ok_of_check he
  unfold checkE at he
  rw [if_neg (by omega)] at he
  cases hb : badF [] [] xs with
  | some x => rw [hb] at he; simp only at he; exact absurd (by rw [he]) (badF_ne _ _ _ _ hb)
  | none =>
    rw [hb] at he
    simp only at he
    split at he
    · cases he
    · rename_i hm
      exact ⟨h4, hok, Inv.all xs [] [] Inv.nil hb, szF_le _ _ _ (fun s h => by cases h) hb, by omega⟩
/-- the byte values -/
def bl (xs : List Pc) : List Nat := (xs.filter fun q => !q.j).map fun q => q.b.toNat
theorem bl_len (ps : List Pc) : (be ps).length = (bl ps).length := by
  have h : ∀ (ps : List Pc) (n : Nat), ((ps.zipIdx n).filterMap fun x => if x.1.j then none else some ((.int .u8 x.1.b, .int .i64 (x.2 : Nat)) : Value × Value)).length = (bl ps).length := by
    intro ps
    induction ps with
    | nil => intro n; rfl
    | cons q ps ih =>
      intro n
      have h := ih (n + 1)
      unfold bl at h ⊢
      rw [List.zipIdx_cons, List.filterMap_cons, List.filter_cons]
      cases hj : q.j <;> simp [hj] at h ⊢ <;> exact h
  exact h ps 0
theorem u8_in {x : Int} (h : (Lit.int .u8 x).wf = true) : 0 ≤ x ∧ x < 256 := by
  simp [Lit.wf, IntKind.min, IntKind.max, IntKind.signed, IntKind.bits] at h
  omega
theorem bl_nodup {xs : List Pc} (H : Inv xs) (hw : ∀ q ∈ xs, wfP q) : (bl xs).Nodup := by
  unfold bl
  rw [List.Nodup, List.pairwise_map]
  have h1 : xs.Pairwise (fun p q => p.j = false → q.j = false → p.b.toNat ≠ q.b.toNat) := by
    rw [List.pairwise_iff_getElem]
    intro i j hi hj hij h1 h2 he
    have h := (H.one i j _ _ hij (List.getElem?_eq_getElem hi) (List.getElem?_eq_getElem hj) (h1.trans h2.symm)).1 h2
    have a := u8_in (hw _ (List.getElem_mem hi)).1
    have b := u8_in (hw _ (List.getElem_mem hj)).1
    omega
  refine List.Pairwise.imp_of_mem (R := fun p q => p.j = false → q.j = false → p.b.toNat ≠ q.b.toNat) ?_ (h1.sublist List.filter_sublist)
  intro p q hp hq h
  exact h (by simpa using (List.mem_filter.1 hp).2) (by simpa using (List.mem_filter.1 hq).2)
theorem Good.byte {xs : List Pc} (H : Good xs) (hw : ∀ q ∈ xs, wfP q) (c : Int) (h0 : 0 ≤ c) (h1 : c < 256) : ∃ (i : Nat) (q : Pc), xs[i]? = some q ∧ q.j = false ∧ q.b = c := by
  have hn := bl_nodup H.inv hw
  have hl := H.many
  rw [bl_len] at hl
  have hm : c.toNat ∈ bl xs := by
    apply Decidable.byContradiction
    intro hm
    have := nodup_len 256 (c.toNat :: bl xs) (List.nodup_cons.2 ⟨hm, hn⟩) (fun x hx => by
      rcases List.mem_cons.1 hx with e | e
      · omega
      · unfold bl at e
        obtain ⟨q, hq, rfl⟩ := List.mem_map.1 e
        have a := u8_in (hw q (List.mem_filter.1 hq).1).1
        omega)
    rw [List.length_cons] at this
    omega
  unfold bl at hm
  obtain ⟨q, hq, he⟩ := List.mem_map.1 hm
  obtain ⟨hq1, hq2⟩ := List.mem_filter.1 hq
  obtain ⟨i, hi⟩ := List.getElem?_of_mem hq1
  have a := u8_in (hw q hq1).1
  exact ⟨i, q, hi, by simpa using hq2, by omega⟩
end Voc
end Go.Proofs.Ytlodbhlidgepfaa

namespace Go.Proofs.Ytlodbhlidgepfaa
open Go.RowKit
namespace Voc
/-- the first piece that is this byte -/
def tokF (c : Int) : List Pc → Nat
  | [] => 0
  | q :: r => if q.j = false ∧ q.b = c then 0 else tokF c r + 1
/-- what Byte answers -/
def byteE (xs : List Pc) (c : Int) : Int × Int := if (checkE xs).1 = 0 then ((tokF c xs : Nat), 0) else (0, 11)
theorem tokF_at {c : Int} : ∀ (xs : List Pc) (i : Nat) (q : Pc), xs[i]? = some q → q.j = false → q.b = c → (∀ k, k < i → ∀ p, xs[k]? = some p → ¬ (p.j = false ∧ p.b = c)) → tokF c xs = i
  | [], i, q, h, _, _, _ => by simp at h
  | p :: r, 0, q, h, hj, hb, _ => by simp at h; subst h; simp [tokF, hj, hb]
  | p :: r, i + 1, q, h, hj, hb, hf => by
    have h0 := hf 0 (by omega) p rfl
    simp only [tokF]
    rw [if_neg h0, tokF_at r i q (by simpa using h) hj hb (fun k hk p' hp' => hf (k + 1) (by omega) p' (by simpa using hp'))]
theorem tokF_good {xs : List Pc} (H : Inv xs) {i : Nat} {q : Pc} {c : Int} (h : xs[i]? = some q) (hj : q.j = false) (hb : q.b = c) : tokF c xs = i :=
  tokF_at xs i q h hj hb (fun k hk p hp h' => (H.one k i p q hk hp h (h'.1.trans hj.symm)).1 hj (h'.2.trans hb.symm))
theorem tokF_lt {c : Int} : ∀ (xs : List Pc) (k : Nat) (q : Pc), k < tokF c xs → xs[k]? = some q → ¬ (q.j = false ∧ q.b = c)
  | [], k, q, h, hq => by simp at hq
  | p :: r, 0, q, h, hq => by
    simp at hq
    subst hq
    intro h'
    simp [tokF, h'.1, h'.2] at h
  | p :: r, k + 1, q, h, hq => by
    simp only [tokF] at h
    split at h
    · omega
    · exact tokF_lt r k q (by omega) (by simpa using hq)
/-- the first join of two tokens -/
def fndF (l r : Int) : List Pc → Option Nat
  | [] => none
  | q :: t => if q.j = true ∧ q.l = l ∧ q.r = r then some 0 else (fndF l r t).map (· + 1)
def fndV (o : Option Nat) : Int := match o with | some i => (i : Int) | none => 0
theorem fndF_some {l r : Int} : ∀ (xs : List Pc) (i : Nat), fndF l r xs = some i → ∃ q, xs[i]? = some q ∧ q.j = true ∧ q.l = l ∧ q.r = r
  | [], i, h => by simp [fndF] at h
  | p :: t, i, h => by
    simp only [fndF] at h
    split at h
    · rename_i h'
      injection h with h
      subst h
      exact ⟨p, rfl, h'⟩
    · cases hf : fndF l r t with
      | none => rw [hf] at h; cases h
      | some k =>
        rw [hf] at h
        injection h with h
        subst h
        obtain ⟨q, h1, h2⟩ := fndF_some t k hf
        exact ⟨q, by simpa using h1, h2⟩
theorem fndF_none {l r : Int} : ∀ (xs : List Pc), fndF l r xs = none → ∀ q ∈ xs, ¬ (q.j = true ∧ q.l = l ∧ q.r = r)
  | [], h, q, hq => by cases hq
  | p :: t, h, q, hq => by
    simp only [fndF] at h
    split at h
    · cases h
    · rename_i h'
      rcases List.mem_cons.1 hq with e | e
      · subst e; exact h'
      · refine fndF_none t ?_ q e
        cases hf : fndF l r t with
        | none => rfl
        | some k => rw [hf] at h; cases h
theorem fndF_lt {l r : Int} : ∀ (xs : List Pc) (k : Nat) (q : Pc), (∀ i, fndF l r xs = some i → k < i) → xs[k]? = some q → ¬ (q.j = true ∧ q.l = l ∧ q.r = r)
  | [], k, q, _, hq => by simp at hq
  | p :: t, 0, q, h, hq => by
    simp at hq
    subst hq
    intro h'
    have := h 0 (by simp [fndF, h'])
    omega
  | p :: t, k + 1, q, h, hq => by
    by_cases h' : p.j = true ∧ p.l = l ∧ p.r = r
    · have := h 0 (by simp [fndF, h'])
      omega
    · refine fndF_lt t k q (fun i hi => ?_) (by simpa using hq)
      have := h (i + 1) (by simp only [fndF]; rw [if_neg h', hi]; rfl)
      omega
theorem fndF_good {xs : List Pc} (H : Inv xs) {i : Nat} {q : Pc} {l r : Int} (h : xs[i]? = some q) (hj : q.j = true) (hl : q.l = l) (hr : q.r = r) : fndF l r xs = some i := by
  cases hf : fndF l r xs with
  | none => exact absurd ⟨hj, hl, hr⟩ (fndF_none xs hf q (List.mem_of_getElem? h))
  | some k =>
    obtain ⟨p, h1, h2, h3, h4⟩ := fndF_some xs k hf
    rcases Nat.lt_trichotomy k i with h' | h' | h'
    · exact absurd ⟨h3.trans hl.symm, h4.trans hr.symm⟩ ((H.one k i p q h' h1 h (h2.trans hj.symm)).2 hj).1
    · rw [h']
    · exact absurd ⟨hl.trans h3.symm, hr.trans h4.symm⟩ ((H.one i k q p h' h h1 (hj.trans h2.symm)).2 h2).1
/-- what Find answers -/
def findE (xs : List Pc) (l r : Int) : Option Nat := if (checkE xs).1 = 0 then fndF l r xs else none
end Voc
end Go.Proofs.Ytlodbhlidgepfaa
