/- vocab: take of a join. -/
import Derived.Test.YtildhlneldoffaaVTb
set_option linter.unusedVariables false
set_option linter.unusedSimpArgs false
namespace Go.Proofs.Ytildhlneldoffaa
open Go.RowKit
namespace Voc
theorem ra {a b : Nat} (ha : a ≤ 256) (hb : b ≤ 256) : IntKind.i64.wrap ((a : Int) + (b : Int)) = (a : Int) + (b : Int) := IntWalk.i64_in _ ⟨by omega, by omega⟩
theorem szAt_le {sz : List Nat} (h : ∀ s ∈ sz, s ≤ 256) (i : Int) : szAt sz i ≤ 256 := by
  unfold szAt
  rw [List.getD_eq_getElem?_getD]
  cases hh : sz[i.toNat]? with
  | none => exact Nat.zero_le _
  | some x => exact h x (List.mem_of_getElem? hh)
/-- where the sizes lie -/
theorem SN.sizes {w : World} {base p b1 b2 b3 : Nat} {ps : List Pc} {sz : List Nat} {sv : Value} (H : SN w base p ps sz sv b1 b2 b3) {i : Nat} (hi : i < ps.length) :
    ∃ g cap, sv = .slice (some ⟨g, 0, none⟩) ps.length cap ∧ ∀ m, m < ps.length → w.cell? ⟨g, m, none⟩ = some (.int .i64 (szAt sz (m : Int))) := by
  have hO := H.own
  rcases hO.2 with ⟨rfl, h0⟩ | ⟨g, cap, cur, rfl, _, _, _, _, _, _⟩
  · omega
  · refine ⟨g, cap, rfl, fun m hm => ?_⟩
    rw [hO.cellAt (g := g) (cap := cap) m (by omega)]
    have h1 := get_flatMap' encN 1 (by omega) (fun _ => rfl) sz m
    rw [h1, Nat.div_one, Nat.mod_one]
    have hm' : m < sz.length := by rw [H.len]; exact hm
    rw [List.getElem?_eq_getElem hm']
    simp [encN, szAt, hm']

theorem or_no {a b : Bool} (h : ¬ (a || b) = true) : a = false ∧ b = false := by cases a <;> cases b <;> simp_all
set_option maxHeartbeats 4000000 in
set_option maxRecDepth 20000 in
theorem take_join {w : World} {base p b1 b2 b3 : Nat} {ps : List Pc} {sz : List Nat} {sv : Value} (b l r k : Int) (H : SN w base p ps sz sv b1 b2 b3) (hps : ∀ q ∈ ps, wfP q) (hq : wfP ⟨true, b, l, r, k⟩) (hs : ∀ s ∈ sz, s ≤ 256) (hn : ps.length < 4096) (hb : base ≤ w.heap.size) (E : Int) (hE : stepE ps sz ⟨true, b, l, r, k⟩ = E) :
    Calls Try.prog 57 #[.pointer (some ⟨p, 0, none⟩), .int .i64 (ps.length : Int), .agg (encP ⟨true, b, l, r, k⟩).toArray] w fun e w' => e = .returned (.int .i64 E) ∧
      ((E ≠ 0 ∧ Gr w w') ∨ (E = 0 ∧ Fr w w' (SS p b1 b2 b3 sv) ∧ ∃ sv', SN w' base p (ps ++ [⟨true, b, l, r, k⟩]) (sz ++ [szAt sz l + szAt sz r]) sv' b1 b2 b3)) := by
  have HS := Lib.hid H
  have Hq := Lib.hid hq
  have Hps := Lib.hid hps
  have Hn := Lib.hid (And.intro hn hb)
  have HE := Lib.hid hE
  have Hsz := Lib.hid hs
  clear H hps hq hn hb hE hs
  simp only [encP]
  go_enter Try.func57, Try.ntmps57
  go_upto_region 1 with (fail)
  have HB := Lib.hid (Blk.new w TPc #[.bool true, .int .u8 b, .int .i64 l, .int .i64 r, .int .u32 k])
  have HG := Lib.hid ((Fr.refl w NoneS).alloc (.cells #[.bool true, .int .u8 b, .int .i64 l, .int .i64 r, .int .u32 k] TPc))
  have HS1 := Lib.hid (HS.out.gr HG.out)
  generalize w.heap.size = q5 at HB ⊢
  generalize World.alloc w _ = w1 at HB HG HS1 ⊢
  have f0 : w1.cell? ⟨q5, 0, none⟩ = some (.bool true) := by rw [HB.out.cell]; rfl
  have f1 : w1.cell? ⟨q5, 1, none⟩ = some (.int .u8 b) := by rw [HB.out.cell]; rfl
  have f2 : w1.cell? ⟨q5, 2, none⟩ = some (.int .i64 l) := by rw [HB.out.cell]; rfl
  have f3 : w1.cell? ⟨q5, 3, none⟩ = some (.int .i64 r) := by rw [HB.out.cell]; rfl
  have f4 : w1.cell? ⟨q5, 4, none⟩ = some (.int .u32 k) := by rw [HB.out.cell]; rfl
  by_cases hz : b = 0
  case neg =>
    have e5 : E = 5 := by rw [← HE.out]; simp [stepE, hz]
    have He5 := Lib.hid e5
    clear e5 HE
    go_wp2_with fail
    go_ret
    exact ⟨by rw [He5.out]; rfl, .inl ⟨by rw [He5.out]; decide, HG.out⟩⟩
  subst hz
  by_cases hr : l < 0 ∨ (ps.length : Int) ≤ l ∨ r < 0 ∨ (ps.length : Int) ≤ r
  case pos =>
    have e2 : E = 2 := by
      rw [← HE.out]
      simp only [stepE]
      rw [if_neg (by decide), if_neg (by decide), if_pos hr]
    have He := Lib.hid e2
    have Hr := Lib.hid hr
    clear e2 HE hr
    go_wp2_with fail
    all_goals first
      | (go_ret; exact ⟨by rw [He.out]; rfl, .inl ⟨by rw [He.out]; decide, HG.out⟩⟩)
      | (exfalso; have := Hr.out; omega)
  obtain ⟨i, rfl⟩ : ∃ i : Nat, l = i := ⟨l.toNat, by omega⟩
  obtain ⟨j, rfl⟩ : ∃ j : Nat, r = j := ⟨r.toNat, by omega⟩
  have hi : i < ps.length := by omega
  have hj : j < ps.length := by omega
  have e1 : E = if 256 < szAt sz i + szAt sz j then 3 else if ps.any (sameP ⟨true, 0, i, j, k⟩) || ps.any (sameK ⟨true, 0, i, j, k⟩) then 8 else 0 := by
    rw [← HE.out]
    simp only [stepE]
    rw [if_neg (by decide), if_neg (by decide), if_neg hr]
  have HE1 := Lib.hid e1
  clear HE e1 hr
  have hx : ¬ ((ps.length : Int) ≤ (i : Int)) := by omega
  have hy : ¬ ((ps.length : Int) ≤ (j : Int)) := by omega
  have hx0 : ¬ ((i : Int) < 0) := by omega
  have hy0 : ¬ ((j : Int) < 0) := by omega
  go_upto_region 14 with (fail)
  obtain ⟨g, cap, hsv, hsc⟩ := HS1.out.sizes hi
  obtain ⟨c0, c1, c2, c3⟩ := HS1.out.cells
  have sa := hsc i hi
  have sb := hsc j hj
  have Hij := Lib.hid (And.intro hi hj)
  have Haw := Lib.hid (ra (szAt_le Hsz.out (i : Int)) (szAt_le Hsz.out (j : Int)))
  clear hsc
  generalize hA : szAt sz (i : Int) = A at HE1 sa Haw ⊢
  generalize hB : szAt sz (j : Int) = B at HE1 sb Haw ⊢
  have HAB := Lib.hid (And.intro hA hB)
  clear hA hB
  have c0' : w1.cell? ⟨p, 0, none⟩ = some (.slice (some ⟨g, 0, none⟩) ps.length cap) := by rw [c0, hsv]
  have haw := Haw.out
  refine wp_region_held_drew (S := fun wx => wx.cell? ⟨p, 0, none⟩ = some (.slice (some ⟨g, 0, none⟩) ps.length cap) ∧ wx.cell? ⟨q5, 2, none⟩ = some (.int .i64 (i : Int)) ∧ wx.cell? ⟨q5, 3, none⟩ = some (.int .i64 (j : Int)) ∧ wx.cell? ⟨g, i, none⟩ = some (.int .i64 (A : Int)) ∧ wx.cell? ⟨g, j, none⟩ = some (.int .i64 (B : Int))) (by kernel_rfl) ⟨c0', f2, f3, sa, sb⟩ (fun hHeld => ?_)
  refine wpAnyH_take (i := 0) (v := (.pointer (some ⟨p, 0, none⟩))) rfl (by kernel_rfl) (by kernel_rfl) (by kernel_rfl) (fun _ _ _ h => h) (Or.inl ⟨by kernel_rfl, ?_⟩) (by with_reducible assumption) ?_
  focus (intro w hSw; (try dsimp only at hSw); go_simp)
  try simp only [Act.put, List.getElem_toArray, List.getElem_cons_succ, List.getElem_cons_zero, List.setIfInBounds_toArray, List.set_cons_zero, List.set_cons_succ]
  refine wpAnyH_take (i := 1) (v := (.pointer (some ⟨p, 0, none⟩))) rfl (by kernel_rfl) (by kernel_rfl) (by kernel_rfl) (fun _ _ _ h => h) (Or.inl ⟨by kernel_rfl, ?_⟩) (by with_reducible assumption) ?_
  focus (intro w hSw; (try dsimp only at hSw); go_simp)
  try simp only [Act.put, List.getElem_toArray, List.getElem_cons_succ, List.getElem_cons_zero, List.setIfInBounds_toArray, List.set_cons_zero, List.set_cons_succ]
  refine wpAnyH_take (i := 2) (v := (.pointer (some ⟨p, 0, none⟩))) rfl (by kernel_rfl) (by kernel_rfl) (by kernel_rfl) (fun _ _ _ h => h) (Or.inl ⟨by kernel_rfl, ?_⟩) (by with_reducible assumption) ?_
  focus (intro w hSw; (try dsimp only at hSw); go_simp)
  try simp only [Act.put, List.getElem_toArray, List.getElem_cons_succ, List.getElem_cons_zero, List.setIfInBounds_toArray, List.set_cons_zero, List.set_cons_succ]
  refine wpAnyH_take (i := 3) (v := (.slice (some ⟨g, 0, none⟩) ps.length cap)) rfl (by kernel_rfl) (by kernel_rfl) (by kernel_rfl) (fun _ _ _ h => h) (Or.inl ⟨by kernel_rfl, ?_⟩) (by with_reducible assumption) ?_
  focus (intro w hSw; (try dsimp only at hSw); go_simp)
  try simp only [Act.put, List.getElem_toArray, List.getElem_cons_succ, List.getElem_cons_zero, List.setIfInBounds_toArray, List.set_cons_zero, List.set_cons_succ]
  refine wpAnyH_take (i := 4) (v := (.pointer (some ⟨q5, 2, none⟩))) rfl (by kernel_rfl) (by kernel_rfl) (by kernel_rfl) (fun _ _ _ h => h) (Or.inl ⟨by kernel_rfl, ?_⟩) (by with_reducible assumption) ?_
  focus (intro w hSw; (try dsimp only at hSw); go_simp)
  try simp only [Act.put, List.getElem_toArray, List.getElem_cons_succ, List.getElem_cons_zero, List.setIfInBounds_toArray, List.set_cons_zero, List.set_cons_succ]
  refine wpAnyH_take (i := 5) (v := (.int .i64 (i : Int))) rfl (by kernel_rfl) (by kernel_rfl) (by kernel_rfl) (fun _ _ _ h => h) (Or.inl ⟨by kernel_rfl, ?_⟩) (by with_reducible assumption) ?_
  focus (intro w hSw; (try dsimp only at hSw); go_simp)
  try simp only [Act.put, List.getElem_toArray, List.getElem_cons_succ, List.getElem_cons_zero, List.setIfInBounds_toArray, List.set_cons_zero, List.set_cons_succ]
  refine wpAnyH_take (i := 6) (v := (.pointer (some ⟨g, i, none⟩))) rfl (by kernel_rfl) (by kernel_rfl) (by kernel_rfl) (fun _ _ _ h => h) (Or.inl ⟨by kernel_rfl, ?_⟩) (by with_reducible assumption) ?_
  focus (intro w hSw; (try dsimp only at hSw); go_simp)
  try simp only [Act.put, List.getElem_toArray, List.getElem_cons_succ, List.getElem_cons_zero, List.setIfInBounds_toArray, List.set_cons_zero, List.set_cons_succ]
  refine wpAnyH_take (i := 7) (v := (.int .i64 (A : Int))) rfl (by kernel_rfl) (by kernel_rfl) (by kernel_rfl) (fun _ _ _ h => h) (Or.inl ⟨by kernel_rfl, ?_⟩) (by with_reducible assumption) ?_
  focus (intro w hSw; (try dsimp only at hSw); go_simp)
  try simp only [Act.put, List.getElem_toArray, List.getElem_cons_succ, List.getElem_cons_zero, List.setIfInBounds_toArray, List.set_cons_zero, List.set_cons_succ]
  refine wpAnyH_take (i := 8) (v := (.pointer (some ⟨p, 0, none⟩))) rfl (by kernel_rfl) (by kernel_rfl) (by kernel_rfl) (fun _ _ _ h => h) (Or.inl ⟨by kernel_rfl, ?_⟩) (by with_reducible assumption) ?_
  focus (intro w hSw; (try dsimp only at hSw); go_simp)
  try simp only [Act.put, List.getElem_toArray, List.getElem_cons_succ, List.getElem_cons_zero, List.setIfInBounds_toArray, List.set_cons_zero, List.set_cons_succ]
  refine wpAnyH_take (i := 9) (v := (.pointer (some ⟨p, 0, none⟩))) rfl (by kernel_rfl) (by kernel_rfl) (by kernel_rfl) (fun _ _ _ h => h) (Or.inl ⟨by kernel_rfl, ?_⟩) (by with_reducible assumption) ?_
  focus (intro w hSw; (try dsimp only at hSw); go_simp)
  try simp only [Act.put, List.getElem_toArray, List.getElem_cons_succ, List.getElem_cons_zero, List.setIfInBounds_toArray, List.set_cons_zero, List.set_cons_succ]
  refine wpAnyH_take (i := 10) (v := (.pointer (some ⟨p, 0, none⟩))) rfl (by kernel_rfl) (by kernel_rfl) (by kernel_rfl) (fun _ _ _ h => h) (Or.inl ⟨by kernel_rfl, ?_⟩) (by with_reducible assumption) ?_
  focus (intro w hSw; (try dsimp only at hSw); go_simp)
  try simp only [Act.put, List.getElem_toArray, List.getElem_cons_succ, List.getElem_cons_zero, List.setIfInBounds_toArray, List.set_cons_zero, List.set_cons_succ]
  refine wpAnyH_take (i := 11) (v := (.slice (some ⟨g, 0, none⟩) ps.length cap)) rfl (by kernel_rfl) (by kernel_rfl) (by kernel_rfl) (fun _ _ _ h => h) (Or.inl ⟨by kernel_rfl, ?_⟩) (by with_reducible assumption) ?_
  focus (intro w hSw; (try dsimp only at hSw); go_simp)
  try simp only [Act.put, List.getElem_toArray, List.getElem_cons_succ, List.getElem_cons_zero, List.setIfInBounds_toArray, List.set_cons_zero, List.set_cons_succ]
  refine wpAnyH_take (i := 12) (v := (.pointer (some ⟨q5, 3, none⟩))) rfl (by kernel_rfl) (by kernel_rfl) (by kernel_rfl) (fun _ _ _ h => h) (Or.inl ⟨by kernel_rfl, ?_⟩) (by with_reducible assumption) ?_
  focus (intro w hSw; (try dsimp only at hSw); go_simp)
  try simp only [Act.put, List.getElem_toArray, List.getElem_cons_succ, List.getElem_cons_zero, List.setIfInBounds_toArray, List.set_cons_zero, List.set_cons_succ]
  refine wpAnyH_take (i := 13) (v := (.int .i64 (j : Int))) rfl (by kernel_rfl) (by kernel_rfl) (by kernel_rfl) (fun _ _ _ h => h) (Or.inl ⟨by kernel_rfl, ?_⟩) (by with_reducible assumption) ?_
  focus (intro w hSw; (try dsimp only at hSw); go_simp)
  try simp only [Act.put, List.getElem_toArray, List.getElem_cons_succ, List.getElem_cons_zero, List.setIfInBounds_toArray, List.set_cons_zero, List.set_cons_succ]
  refine wpAnyH_take (i := 14) (v := (.pointer (some ⟨g, j, none⟩))) rfl (by kernel_rfl) (by kernel_rfl) (by kernel_rfl) (fun _ _ _ h => h) (Or.inl ⟨by kernel_rfl, ?_⟩) (by with_reducible assumption) ?_
  focus (intro w hSw; (try dsimp only at hSw); go_simp)
  try simp only [Act.put, List.getElem_toArray, List.getElem_cons_succ, List.getElem_cons_zero, List.setIfInBounds_toArray, List.set_cons_zero, List.set_cons_succ]
  refine wpAnyH_take (i := 15) (v := (.int .i64 (B : Int))) rfl (by kernel_rfl) (by kernel_rfl) (by kernel_rfl) (fun _ _ _ h => h) (Or.inl ⟨by kernel_rfl, ?_⟩) (by with_reducible assumption) ?_
  focus (intro w hSw; (try dsimp only at hSw); go_simp)
  try simp only [Act.put, List.getElem_toArray, List.getElem_cons_succ, List.getElem_cons_zero, List.setIfInBounds_toArray, List.set_cons_zero, List.set_cons_succ]
  refine wpAnyH_take (i := 16) (v := (.int .i64 ((A : Int) + (B : Int)))) rfl (by kernel_rfl) (by kernel_rfl) (by kernel_rfl) (fun _ _ _ h => h) (Or.inl ⟨by kernel_rfl, ?_⟩) (by with_reducible assumption) ?_
  focus (intro w hSw; (try dsimp only at hSw); go_simp)
  try simp only [Act.put, List.getElem_toArray, List.getElem_cons_succ, List.getElem_cons_zero, List.setIfInBounds_toArray, List.set_cons_zero, List.set_cons_succ]
  refine wpAnyH_take (i := 17) (v := (.int .i64 ((A : Int) + (B : Int)))) rfl (by kernel_rfl) (by kernel_rfl) (by kernel_rfl) (fun _ _ _ h => h) (Or.inl ⟨by kernel_rfl, ?_⟩) (by with_reducible assumption) ?_
  focus (intro w hSw; (try dsimp only at hSw); go_simp)
  try simp only [Act.put, List.getElem_toArray, List.getElem_cons_succ, List.getElem_cons_zero, List.setIfInBounds_toArray, List.set_cons_zero, List.set_cons_succ]
  refine wpAnyH_done (by kernel_rfl) ?_ _
  have Hsv := Lib.hid hsv
  clear hHeld c0' sa sb haw hsv hi hj hx hy hx0 hy0
  by_cases h3 : 256 < A + B
  case pos =>
    have h3' : (256 : Int) < (A : Int) + (B : Int) := by omega
    have e3 : E = 3 := by rw [HE1.out, if_pos h3]
    have He := Lib.hid e3
    clear e3 h3
    go_wp2_with fail
    go_ret
    exact ⟨by rw [He.out]; rfl, .inl ⟨by rw [He.out]; decide, HG.out.drew⟩⟩
  have h3' : ¬ (256 : Int) < (A : Int) + (B : Int) := by omega
  have e1 : E = if ps.any (sameP ⟨true, 0, i, j, k⟩) || ps.any (sameK ⟨true, 0, i, j, k⟩) then 8 else 0 := by rw [HE1.out, if_neg h3]
  have HE := Lib.hid e1
  clear HE1 e1 h3
  go_upto_region 18 with (fail)
  clear c0 c1 c2 c3 f0 f1 f2 f3 f4
  have HB10 := Lib.hid (Blk.new w1 87 #[.int .i64 (i : Int), .int .i64 (j : Int)])
  have HG2 := Lib.hid ((Fr.refl w1 NoneS).alloc (.cells #[.int .i64 (i : Int), .int .i64 (j : Int)] 87))
  have HS2 := Lib.hid (HS1.out.gr HG2.out)
  have HB5 := Lib.hid (HB.out.fr HG2.out (fun h => h))
  generalize w1.heap.size = q10 at HB10 ⊢
  generalize World.alloc w1 _ = w2 at HB10 HG2 HS2 HB5 ⊢
  have HG' := Lib.hid (HG.out.trans HG2.out (fun _ _ h => h))
  obtain ⟨c0, c1, c2, c3⟩ := HS2.out.cells
  have f4 : w2.cell? ⟨q5, 4, none⟩ = some (.int .u32 k) := by rw [HB5.out.cell]; rfl
  have g0 : w2.cell? ⟨q10, 0, none⟩ = some (.int .i64 (i : Int)) := by rw [HB10.out.cell]; rfl
  have g1 : w2.cell? ⟨q10, 1, none⟩ = some (.int .i64 (j : Int)) := by rw [HB10.out.cell]; rfl
  have k2 := Lib.hid (WideMaps.keyOf_pair A2 Try.underlying3 tsz Hq.out.2.1 Hq.out.2.2.1)
  have k3 := Lib.hid (Maps.keyOf_int_mk Try.underlying38 Hq.out.2.2.2)
  have HL2 : ∃ v' bb, bb = ps.any (sameP ⟨true, 0, i, j, k⟩) ∧ (Instr.lookup MT2 (.map (some b2)) (.agg #[.int .i64 (i : Int), .int .i64 (j : Int)]) true).run Try.prog w2.drew.drew = .ok (.tuple #[v', .bool bb]) w2.drew.drew := by
    have hm : MB w2.drew.drew b2 (pe ps) := HS2.out.m2
    cases hb : ps.any (sameP ⟨true, 0, i, j, k⟩) with
    | false => exact ⟨_, _, rfl, hm.look_no K2 Try.underlying84 (zeroI _) (keys2 Hps.out) k2.out (pe_no (p := ⟨true, 0, i, j, k⟩) hb)⟩
    | true =>
      obtain ⟨v, hv⟩ := pe_yes (p := ⟨true, 0, i, j, k⟩) hb
      obtain ⟨v', _, h⟩ := hm.look_yes K2 Try.underlying84 (keys2 Hps.out) k2.out hv
      exact ⟨v', _, rfl, h⟩
  have HL3 : ∃ v' bb, bb = ps.any (sameK ⟨true, 0, i, j, k⟩) ∧ (Instr.lookup MT3 (.map (some b3)) (.int .u32 k) true).run Try.prog w2.drew.drew.drew = .ok (.tuple #[v', .bool bb]) w2.drew.drew.drew := by
    have hm : MB w2.drew.drew.drew b3 (re ps) := HS2.out.m3
    cases hb : ps.any (sameK ⟨true, 0, i, j, k⟩) with
    | false => exact ⟨_, _, rfl, hm.look_no K3 Try.underlying106 (zeroI _) (keys3 Hps.out) k3.out (re_no (p := ⟨true, 0, i, j, k⟩) hb)⟩
    | true =>
      obtain ⟨v, hv⟩ := re_yes (p := ⟨true, 0, i, j, k⟩) hb
      obtain ⟨v', _, h⟩ := hm.look_yes K3 Try.underlying106 (keys3 Hps.out) k3.out hv
      exact ⟨v', _, rfl, h⟩
  obtain ⟨v2, bb2, hbb2, hl2⟩ := HL2
  obtain ⟨v3, bb3, hbb3, hl3⟩ := HL3
  have Hl2 := Lib.hid hl2
  have Hl3 := Lib.hid hl3
  have Hbb := Lib.hid (And.intro hbb2 hbb3)
  clear hl2 hl3 hbb2 hbb3
  refine wp_region_held_drew (S := fun wx => wx.cell? ⟨p, 2, none⟩ = some (.map (some b2)) ∧ wx.cell? ⟨q10, 0, none⟩ = some (.int .i64 (i : Int)) ∧ wx.cell? ⟨q10, 1, none⟩ = some (.int .i64 (j : Int))) (by kernel_rfl) ⟨c2, g0, g1⟩ (fun hHeld => ?_)
  refine wpAnyH_take (i := 0) (v := (.pointer (some ⟨p, 0, none⟩))) rfl (by kernel_rfl) (by kernel_rfl) (by kernel_rfl) (fun _ _ _ h => h) (Or.inl ⟨by kernel_rfl, ?_⟩) (by with_reducible assumption) ?_
  focus (intro w hSw; (try dsimp only at hSw); go_simp)
  try simp only [Act.put, List.getElem_toArray, List.getElem_cons_succ, List.getElem_cons_zero, List.setIfInBounds_toArray, List.set_cons_zero, List.set_cons_succ]
  refine wpAnyH_take (i := 1) (v := (.pointer (some ⟨p, 0, none⟩))) rfl (by kernel_rfl) (by kernel_rfl) (by kernel_rfl) (fun _ _ _ h => h) (Or.inl ⟨by kernel_rfl, ?_⟩) (by with_reducible assumption) ?_
  focus (intro w hSw; (try dsimp only at hSw); go_simp)
  try simp only [Act.put, List.getElem_toArray, List.getElem_cons_succ, List.getElem_cons_zero, List.setIfInBounds_toArray, List.set_cons_zero, List.set_cons_succ]
  refine wpAnyH_take (i := 2) (v := (.pointer (some ⟨p, 2, none⟩))) rfl (by kernel_rfl) (by kernel_rfl) (by kernel_rfl) (fun _ _ _ h => h) (Or.inl ⟨by kernel_rfl, ?_⟩) (by with_reducible assumption) ?_
  focus (intro w hSw; (try dsimp only at hSw); go_simp)
  try simp only [Act.put, List.getElem_toArray, List.getElem_cons_succ, List.getElem_cons_zero, List.setIfInBounds_toArray, List.set_cons_zero, List.set_cons_succ]
  refine wpAnyH_take (i := 3) (v := (.map (some b2))) rfl (by kernel_rfl) (by kernel_rfl) (by kernel_rfl) (fun _ _ _ h => h) (Or.inl ⟨by kernel_rfl, ?_⟩) (by with_reducible assumption) ?_
  focus (intro w hSw; (try dsimp only at hSw); go_simp)
  try simp only [Act.put, List.getElem_toArray, List.getElem_cons_succ, List.getElem_cons_zero, List.setIfInBounds_toArray, List.set_cons_zero, List.set_cons_succ]
  refine wpAnyH_take (i := 4) (v := (.agg #[.int .i64 (i : Int), .int .i64 (j : Int)])) rfl (by kernel_rfl) (by kernel_rfl) (by kernel_rfl) (fun _ _ _ h => h) (Or.inl ⟨by kernel_rfl, ?_⟩) (by with_reducible assumption) ?_
  focus (intro w hSw; (try dsimp only at hSw); go_simp)
  try simp only [Act.put, List.getElem_toArray, List.getElem_cons_succ, List.getElem_cons_zero, List.setIfInBounds_toArray, List.set_cons_zero, List.set_cons_succ]
  refine wpAnyH_ready (rs := [5]) (by kernel_rfl) (by simp) ?_
  refine AllReadyH.cons rfl ?_ AllReadyH.nil
  intro K hK
  refine step_lookup (by rfl) (.tmp 101) (.tmp 102) MT2 (by rfl) (.map (some b2)) (.agg #[.int .i64 (i : Int), .int .i64 (j : Int)]) (by rfl) (by rfl) _ _ Hl2.out ?_
  refine hK.out _ _ hHeld (fun _ => ?_)
  clear hK K
  try simp only [Act.put, List.getElem_toArray, List.getElem_cons_succ, List.getElem_cons_zero, List.setIfInBounds_toArray, List.set_cons_zero, List.set_cons_succ]
  refine wpAnyH_take (i := 6) (v := (.tuple #[v2, .bool bb2])) rfl (by kernel_rfl) (by kernel_rfl) (by kernel_rfl) (fun _ _ _ h => h) (Or.inl ⟨by kernel_rfl, ?_⟩) (by with_reducible assumption) ?_
  focus (intro w hSw; (try dsimp only at hSw); go_simp)
  try simp only [Act.put, List.getElem_toArray, List.getElem_cons_succ, List.getElem_cons_zero, List.setIfInBounds_toArray, List.set_cons_zero, List.set_cons_succ]
  refine wpAnyH_take (i := 7) (v := (v2)) rfl (by kernel_rfl) (by kernel_rfl) (by kernel_rfl) (fun _ _ _ h => h) (Or.inl ⟨by kernel_rfl, ?_⟩) (by with_reducible assumption) ?_
  focus (intro w hSw; (try dsimp only at hSw); go_simp)
  try simp only [Act.put, List.getElem_toArray, List.getElem_cons_succ, List.getElem_cons_zero, List.setIfInBounds_toArray, List.set_cons_zero, List.set_cons_succ]
  refine wpAnyH_take (i := 8) (v := (.bool bb2)) rfl (by kernel_rfl) (by kernel_rfl) (by kernel_rfl) (fun _ _ _ h => h) (Or.inl ⟨by kernel_rfl, ?_⟩) (by with_reducible assumption) ?_
  focus (intro w hSw; (try dsimp only at hSw); go_simp)
  try simp only [Act.put, List.getElem_toArray, List.getElem_cons_succ, List.getElem_cons_zero, List.setIfInBounds_toArray, List.set_cons_zero, List.set_cons_succ]
  refine wpAnyH_take (i := 9) (v := (v2)) rfl (by kernel_rfl) (by kernel_rfl) (by kernel_rfl) (fun _ _ _ h => h) (Or.inl ⟨by kernel_rfl, ?_⟩) (by with_reducible assumption) ?_
  focus (intro w hSw; (try dsimp only at hSw); go_simp)
  try simp only [Act.put, List.getElem_toArray, List.getElem_cons_succ, List.getElem_cons_zero, List.setIfInBounds_toArray, List.set_cons_zero, List.set_cons_succ]
  refine wpAnyH_take (i := 10) (v := (.bool bb2)) rfl (by kernel_rfl) (by kernel_rfl) (by kernel_rfl) (fun _ _ _ h => h) (Or.inl ⟨by kernel_rfl, ?_⟩) (by with_reducible assumption) ?_
  focus (intro w hSw; (try dsimp only at hSw); go_simp)
  try simp only [Act.put, List.getElem_toArray, List.getElem_cons_succ, List.getElem_cons_zero, List.setIfInBounds_toArray, List.set_cons_zero, List.set_cons_succ]
  refine wpAnyH_done (by kernel_rfl) ?_ _
  clear hHeld
  go_upto_region 19 with (fail)
  refine wp_region_held_drew (S := fun wx => wx.cell? ⟨p, 3, none⟩ = some (.map (some b3)) ∧ wx.cell? ⟨q5, 4, none⟩ = some (.int .u32 k)) (by kernel_rfl) ⟨c3, f4⟩ (fun hHeld => ?_)
  refine wpAnyH_take (i := 0) (v := (.pointer (some ⟨p, 0, none⟩))) rfl (by kernel_rfl) (by kernel_rfl) (by kernel_rfl) (fun _ _ _ h => h) (Or.inl ⟨by kernel_rfl, ?_⟩) (by with_reducible assumption) ?_
  focus (intro w hSw; (try dsimp only at hSw); go_simp)
  try simp only [Act.put, List.getElem_toArray, List.getElem_cons_succ, List.getElem_cons_zero, List.setIfInBounds_toArray, List.set_cons_zero, List.set_cons_succ]
  refine wpAnyH_take (i := 1) (v := (.pointer (some ⟨p, 0, none⟩))) rfl (by kernel_rfl) (by kernel_rfl) (by kernel_rfl) (fun _ _ _ h => h) (Or.inl ⟨by kernel_rfl, ?_⟩) (by with_reducible assumption) ?_
  focus (intro w hSw; (try dsimp only at hSw); go_simp)
  try simp only [Act.put, List.getElem_toArray, List.getElem_cons_succ, List.getElem_cons_zero, List.setIfInBounds_toArray, List.set_cons_zero, List.set_cons_succ]
  refine wpAnyH_take (i := 2) (v := (.pointer (some ⟨p, 3, none⟩))) rfl (by kernel_rfl) (by kernel_rfl) (by kernel_rfl) (fun _ _ _ h => h) (Or.inl ⟨by kernel_rfl, ?_⟩) (by with_reducible assumption) ?_
  focus (intro w hSw; (try dsimp only at hSw); go_simp)
  try simp only [Act.put, List.getElem_toArray, List.getElem_cons_succ, List.getElem_cons_zero, List.setIfInBounds_toArray, List.set_cons_zero, List.set_cons_succ]
  refine wpAnyH_take (i := 3) (v := (.map (some b3))) rfl (by kernel_rfl) (by kernel_rfl) (by kernel_rfl) (fun _ _ _ h => h) (Or.inl ⟨by kernel_rfl, ?_⟩) (by with_reducible assumption) ?_
  focus (intro w hSw; (try dsimp only at hSw); go_simp)
  try simp only [Act.put, List.getElem_toArray, List.getElem_cons_succ, List.getElem_cons_zero, List.setIfInBounds_toArray, List.set_cons_zero, List.set_cons_succ]
  refine wpAnyH_take (i := 4) (v := (.pointer (some ⟨q5, 4, none⟩))) rfl (by kernel_rfl) (by kernel_rfl) (by kernel_rfl) (fun _ _ _ h => h) (Or.inl ⟨by kernel_rfl, ?_⟩) (by with_reducible assumption) ?_
  focus (intro w hSw; (try dsimp only at hSw); go_simp)
  try simp only [Act.put, List.getElem_toArray, List.getElem_cons_succ, List.getElem_cons_zero, List.setIfInBounds_toArray, List.set_cons_zero, List.set_cons_succ]
  refine wpAnyH_take (i := 5) (v := (.int .u32 k)) rfl (by kernel_rfl) (by kernel_rfl) (by kernel_rfl) (fun _ _ _ h => h) (Or.inl ⟨by kernel_rfl, ?_⟩) (by with_reducible assumption) ?_
  focus (intro w hSw; (try dsimp only at hSw); go_simp)
  try simp only [Act.put, List.getElem_toArray, List.getElem_cons_succ, List.getElem_cons_zero, List.setIfInBounds_toArray, List.set_cons_zero, List.set_cons_succ]
  refine wpAnyH_ready (rs := [6]) (by kernel_rfl) (by simp) ?_
  refine AllReadyH.cons rfl ?_ AllReadyH.nil
  intro K hK
  refine step_lookup (by rfl) (.tmp 110) (.tmp 112) MT3 (by rfl) (.map (some b3)) (.int .u32 k) (by rfl) (by rfl) _ _ Hl3.out ?_
  refine hK.out _ _ hHeld (fun _ => ?_)
  clear hK K
  try simp only [Act.put, List.getElem_toArray, List.getElem_cons_succ, List.getElem_cons_zero, List.setIfInBounds_toArray, List.set_cons_zero, List.set_cons_succ]
  refine wpAnyH_take (i := 7) (v := (.tuple #[v3, .bool bb3])) rfl (by kernel_rfl) (by kernel_rfl) (by kernel_rfl) (fun _ _ _ h => h) (Or.inl ⟨by kernel_rfl, ?_⟩) (by with_reducible assumption) ?_
  focus (intro w hSw; (try dsimp only at hSw); go_simp)
  try simp only [Act.put, List.getElem_toArray, List.getElem_cons_succ, List.getElem_cons_zero, List.setIfInBounds_toArray, List.set_cons_zero, List.set_cons_succ]
  refine wpAnyH_take (i := 8) (v := (v3)) rfl (by kernel_rfl) (by kernel_rfl) (by kernel_rfl) (fun _ _ _ h => h) (Or.inl ⟨by kernel_rfl, ?_⟩) (by with_reducible assumption) ?_
  focus (intro w hSw; (try dsimp only at hSw); go_simp)
  try simp only [Act.put, List.getElem_toArray, List.getElem_cons_succ, List.getElem_cons_zero, List.setIfInBounds_toArray, List.set_cons_zero, List.set_cons_succ]
  refine wpAnyH_take (i := 9) (v := (.bool bb3)) rfl (by kernel_rfl) (by kernel_rfl) (by kernel_rfl) (fun _ _ _ h => h) (Or.inl ⟨by kernel_rfl, ?_⟩) (by with_reducible assumption) ?_
  focus (intro w hSw; (try dsimp only at hSw); go_simp)
  try simp only [Act.put, List.getElem_toArray, List.getElem_cons_succ, List.getElem_cons_zero, List.setIfInBounds_toArray, List.set_cons_zero, List.set_cons_succ]
  refine wpAnyH_take (i := 10) (v := (v3)) rfl (by kernel_rfl) (by kernel_rfl) (by kernel_rfl) (fun _ _ _ h => h) (Or.inl ⟨by kernel_rfl, ?_⟩) (by with_reducible assumption) ?_
  focus (intro w hSw; (try dsimp only at hSw); go_simp)
  try simp only [Act.put, List.getElem_toArray, List.getElem_cons_succ, List.getElem_cons_zero, List.setIfInBounds_toArray, List.set_cons_zero, List.set_cons_succ]
  refine wpAnyH_take (i := 11) (v := (.bool bb3)) rfl (by kernel_rfl) (by kernel_rfl) (by kernel_rfl) (fun _ _ _ h => h) (Or.inl ⟨by kernel_rfl, ?_⟩) (by with_reducible assumption) ?_
  focus (intro w hSw; (try dsimp only at hSw); go_simp)
  try simp only [Act.put, List.getElem_toArray, List.getElem_cons_succ, List.getElem_cons_zero, List.setIfInBounds_toArray, List.set_cons_zero, List.set_cons_succ]
  refine wpAnyH_done (by kernel_rfl) ?_ _
  clear hHeld Hl2 Hl3
  obtain ⟨hbb2, hbb3⟩ := Hbb.out
  by_cases h8 : (bb2 || bb3) = true
  case pos =>
    have e8 : E = 8 := by rw [HE.out, ← hbb2, ← hbb3, if_pos h8]
    have He := Lib.hid e8
    clear HE e8 hbb2 hbb3 Hbb
    cases bb2 <;> cases bb3 <;> first
      | (exfalso; simp at h8; done)
      | (clear h8
         go_wp2_with fail
         go_ret
         exact ⟨by rw [He.out]; rfl, .inl ⟨by rw [He.out]; decide, HG'.out.drew.drew.drew⟩⟩)
  obtain ⟨rfl, rfl⟩ : bb2 = false ∧ bb3 = false := or_no h8
  have e0 : E = 0 := by rw [HE.out, ← hbb2, ← hbb3]; rfl
  have He := Lib.hid e0
  clear HE e0 hbb2 hbb3 h8
  go_upto_region 22 with (fail)
  refine wp_region_held_drew (S := fun wx => wx.cell? ⟨p, 2, none⟩ = some (.map (some b2)) ∧ wx.cell? ⟨p, 3, none⟩ = some (.map (some b3)) ∧ wx.cell? ⟨q5, 4, none⟩ = some (.int .u32 k) ∧ wx.cell? ⟨q10, 0, none⟩ = some (.int .i64 (i : Int)) ∧ wx.cell? ⟨q10, 1, none⟩ = some (.int .i64 (j : Int))) (by kernel_rfl) ⟨c2, c3, f4, g0, g1⟩ (fun hHeld => ?_)
  refine wpAnyH_take (i := 0) (v := (.pointer (some ⟨p, 0, none⟩))) rfl (by kernel_rfl) (by kernel_rfl) (by kernel_rfl) (fun _ _ _ h => h) (Or.inl ⟨by kernel_rfl, ?_⟩) (by with_reducible assumption) ?_
  focus (intro w hSw; (try dsimp only at hSw); go_simp)
  try simp only [Act.put, List.getElem_toArray, List.getElem_cons_succ, List.getElem_cons_zero, List.setIfInBounds_toArray, List.set_cons_zero, List.set_cons_succ]
  refine wpAnyH_take (i := 1) (v := (.pointer (some ⟨p, 0, none⟩))) rfl (by kernel_rfl) (by kernel_rfl) (by kernel_rfl) (fun _ _ _ h => h) (Or.inl ⟨by kernel_rfl, ?_⟩) (by with_reducible assumption) ?_
  focus (intro w hSw; (try dsimp only at hSw); go_simp)
  try simp only [Act.put, List.getElem_toArray, List.getElem_cons_succ, List.getElem_cons_zero, List.setIfInBounds_toArray, List.set_cons_zero, List.set_cons_succ]
  refine wpAnyH_take (i := 2) (v := (.pointer (some ⟨p, 2, none⟩))) rfl (by kernel_rfl) (by kernel_rfl) (by kernel_rfl) (fun _ _ _ h => h) (Or.inl ⟨by kernel_rfl, ?_⟩) (by with_reducible assumption) ?_
  focus (intro w hSw; (try dsimp only at hSw); go_simp)
  try simp only [Act.put, List.getElem_toArray, List.getElem_cons_succ, List.getElem_cons_zero, List.setIfInBounds_toArray, List.set_cons_zero, List.set_cons_succ]
  refine wpAnyH_take (i := 3) (v := (.map (some b2))) rfl (by kernel_rfl) (by kernel_rfl) (by kernel_rfl) (fun _ _ _ h => h) (Or.inl ⟨by kernel_rfl, ?_⟩) (by with_reducible assumption) ?_
  focus (intro w hSw; (try dsimp only at hSw); go_simp)
  try simp only [Act.put, List.getElem_toArray, List.getElem_cons_succ, List.getElem_cons_zero, List.setIfInBounds_toArray, List.set_cons_zero, List.set_cons_succ]
  refine wpAnyH_take (i := 4) (v := (.agg #[.int .i64 (i : Int), .int .i64 (j : Int)])) rfl (by kernel_rfl) (by kernel_rfl) (by kernel_rfl) (fun _ _ _ h => h) (Or.inl ⟨by kernel_rfl, ?_⟩) (by with_reducible assumption) ?_
  focus (intro w hSw; (try dsimp only at hSw); go_simp)
  try simp only [Act.put, List.getElem_toArray, List.getElem_cons_succ, List.getElem_cons_zero, List.setIfInBounds_toArray, List.set_cons_zero, List.set_cons_succ]
  refine wpAnyH_take (i := 5) (v := (.pointer (some ⟨p, 0, none⟩))) rfl (by kernel_rfl) (by kernel_rfl) (by kernel_rfl) (fun _ _ _ h => h) (Or.inl ⟨by kernel_rfl, ?_⟩) (by with_reducible assumption) ?_
  focus (intro w hSw; (try dsimp only at hSw); go_simp)
  try simp only [Act.put, List.getElem_toArray, List.getElem_cons_succ, List.getElem_cons_zero, List.setIfInBounds_toArray, List.set_cons_zero, List.set_cons_succ]
  refine wpAnyH_take (i := 6) (v := (.pointer (some ⟨p, 0, none⟩))) rfl (by kernel_rfl) (by kernel_rfl) (by kernel_rfl) (fun _ _ _ h => h) (Or.inl ⟨by kernel_rfl, ?_⟩) (by with_reducible assumption) ?_
  focus (intro w hSw; (try dsimp only at hSw); go_simp)
  try simp only [Act.put, List.getElem_toArray, List.getElem_cons_succ, List.getElem_cons_zero, List.setIfInBounds_toArray, List.set_cons_zero, List.set_cons_succ]
  refine wpAnyH_take (i := 7) (v := (.pointer (some ⟨p, 3, none⟩))) rfl (by kernel_rfl) (by kernel_rfl) (by kernel_rfl) (fun _ _ _ h => h) (Or.inl ⟨by kernel_rfl, ?_⟩) (by with_reducible assumption) ?_
  focus (intro w hSw; (try dsimp only at hSw); go_simp)
  try simp only [Act.put, List.getElem_toArray, List.getElem_cons_succ, List.getElem_cons_zero, List.setIfInBounds_toArray, List.set_cons_zero, List.set_cons_succ]
  refine wpAnyH_take (i := 8) (v := (.map (some b3))) rfl (by kernel_rfl) (by kernel_rfl) (by kernel_rfl) (fun _ _ _ h => h) (Or.inl ⟨by kernel_rfl, ?_⟩) (by with_reducible assumption) ?_
  focus (intro w hSw; (try dsimp only at hSw); go_simp)
  try simp only [Act.put, List.getElem_toArray, List.getElem_cons_succ, List.getElem_cons_zero, List.setIfInBounds_toArray, List.set_cons_zero, List.set_cons_succ]
  refine wpAnyH_take (i := 9) (v := (.pointer (some ⟨q5, 4, none⟩))) rfl (by kernel_rfl) (by kernel_rfl) (by kernel_rfl) (fun _ _ _ h => h) (Or.inl ⟨by kernel_rfl, ?_⟩) (by with_reducible assumption) ?_
  focus (intro w hSw; (try dsimp only at hSw); go_simp)
  try simp only [Act.put, List.getElem_toArray, List.getElem_cons_succ, List.getElem_cons_zero, List.setIfInBounds_toArray, List.set_cons_zero, List.set_cons_succ]
  refine wpAnyH_take (i := 10) (v := (.int .u32 k)) rfl (by kernel_rfl) (by kernel_rfl) (by kernel_rfl) (fun _ _ _ h => h) (Or.inl ⟨by kernel_rfl, ?_⟩) (by with_reducible assumption) ?_
  focus (intro w hSw; (try dsimp only at hSw); go_simp)
  try simp only [Act.put, List.getElem_toArray, List.getElem_cons_succ, List.getElem_cons_zero, List.setIfInBounds_toArray, List.set_cons_zero, List.set_cons_succ]
  refine wpAnyH_take (i := 11) (v := (.int .i64 (ps.length : Int))) rfl (by kernel_rfl) (by kernel_rfl) (by kernel_rfl) (fun _ _ _ h => h) (Or.inl ⟨by kernel_rfl, ?_⟩) (by with_reducible assumption) ?_
  focus (intro w hSw; (try dsimp only at hSw); go_simp)
  try simp only [Act.put, List.getElem_toArray, List.getElem_cons_succ, List.getElem_cons_zero, List.setIfInBounds_toArray, List.set_cons_zero, List.set_cons_succ]
  refine wpAnyH_take (i := 12) (v := (.int .i64 (ps.length : Int))) rfl (by kernel_rfl) (by kernel_rfl) (by kernel_rfl) (fun _ _ _ h => h) (Or.inl ⟨by kernel_rfl, ?_⟩) (by with_reducible assumption) ?_
  focus (intro w hSw; (try dsimp only at hSw); go_simp)
  try simp only [Act.put, List.getElem_toArray, List.getElem_cons_succ, List.getElem_cons_zero, List.setIfInBounds_toArray, List.set_cons_zero, List.set_cons_succ]
  have HE2 : ∃ w3, (Instr.mapEntry MT2 (.map (some b2)) (.agg #[.int .i64 (i : Int), .int .i64 (j : Int)])).run Try.prog w2.drew.drew.drew.drew = .ok (.tuple #[.int .i64 0, .int .i64 ((pe ps).length : Int)]) w3 ∧ MB w3 b2 (pe ps ++ [(.agg #[.int .i64 (i : Int), .int .i64 (j : Int)], .int .i64 0)]) ∧ Fr w2 w3 (fun k => k = b2) := by
    have hm : MB w2.drew.drew.drew.drew b2 (pe ps) := HS2.out.m2
    exact ⟨_, hm.entry K2 Try.underlying84 (zeroI _) (keys2 Hps.out) k2.out (pe_no (p := ⟨true, 0, i, j, k⟩) Hbb.out.1.symm), hm.turn _, (hm.frame _).drew0.drew0.drew0.drew0⟩
  obtain ⟨w3, he2, hm2, hf2⟩ := HE2
  have He2 := Lib.hid he2
  have Hm2 := Lib.hid hm2
  have Hf2 := Lib.hid hf2
  have Hp2 := Lib.hid (And.intro (HS2.out.m2.ne HS2.out.blk) (And.intro (HS2.out.m2.ne HB5.out) (HS2.out.m2.ne HB10.out)))
  have Hp3 := Lib.hid (And.intro (HS2.out.m3.ne HS2.out.blk) (And.intro (HS2.out.m3.ne HB5.out) (HS2.out.m3.ne HB10.out)))
  clear he2 hm2 hf2
  have key := Lib.hid (show ∀ wx, Fr w2 wx (fun k => k = b2 ∨ k = b3) → (wx.cell? ⟨p, 2, none⟩ = some (.map (some b2)) ∧ wx.cell? ⟨p, 3, none⟩ = some (.map (some b3)) ∧ wx.cell? ⟨q5, 4, none⟩ = some (.int .u32 k) ∧ wx.cell? ⟨q10, 0, none⟩ = some (.int .i64 (i : Int)) ∧ wx.cell? ⟨q10, 1, none⟩ = some (.int .i64 (j : Int))) from fun wx hx =>
    ⟨(hx.cell (p := ⟨p, 2, none⟩) HS2.out.blk.lt (fun h => h.elim (fun e => Hp2.out.1 e.symm) (fun e => Hp3.out.1 e.symm))).trans c2,
     (hx.cell (p := ⟨p, 3, none⟩) HS2.out.blk.lt (fun h => h.elim (fun e => Hp2.out.1 e.symm) (fun e => Hp3.out.1 e.symm))).trans c3,
     (hx.cell (p := ⟨q5, 4, none⟩) HB5.out.lt (fun h => h.elim (fun e => Hp2.out.2.1 e.symm) (fun e => Hp3.out.2.1 e.symm))).trans f4,
     (hx.cell (p := ⟨q10, 0, none⟩) HB10.out.lt (fun h => h.elim (fun e => Hp2.out.2.2 e.symm) (fun e => Hp3.out.2.2 e.symm))).trans g0,
     (hx.cell (p := ⟨q10, 1, none⟩) HB10.out.lt (fun h => h.elim (fun e => Hp2.out.2.2 e.symm) (fun e => Hp3.out.2.2 e.symm))).trans g1⟩)
  have Hk3 := Lib.hid (key.out w3 (Hf2.out.mono (fun _ _ h => .inl h)))
  refine wpAnyH_ready (rs := [13]) (by kernel_rfl) (by simp) ?_
  refine AllReadyH.cons rfl ?_ AllReadyH.nil
  intro K hK
  refine step_mapEntry (by rfl) (.tmp 123) (.tmp 124) MT2 (by rfl) (.map (some b2)) (.agg #[.int .i64 (i : Int), .int .i64 (j : Int)]) (by rfl) (by rfl) _ _ He2.out ?_
  refine hK.out _ _ Hk3.out (fun hHeld => ?_)
  clear hK K
  try simp only [Act.put, List.getElem_toArray, List.getElem_cons_succ, List.getElem_cons_zero, List.setIfInBounds_toArray, List.set_cons_zero, List.set_cons_succ]
  refine wpAnyH_take (i := 14) (v := (.int .i64 ((pe ps).length : Int))) rfl (by kernel_rfl) (by kernel_rfl) (by kernel_rfl) (fun _ _ _ h => h) (Or.inl ⟨by kernel_rfl, ?_⟩) (by with_reducible assumption) ?_
  focus (intro w hSw; (try dsimp only at hSw); go_simp)
  try simp only [Act.put, List.getElem_toArray, List.getElem_cons_succ, List.getElem_cons_zero, List.setIfInBounds_toArray, List.set_cons_zero, List.set_cons_succ]
  have HE3 : ∃ w4, (Instr.entryStore MT2 (.map (some b2)) (.int .i64 ((pe ps).length : Int)) (.int .i64 (ps.length : Int))).run Try.prog w3 = .ok () w4 ∧ MB w4 b2 (pe (ps ++ [⟨true, 0, i, j, k⟩])) ∧ Fr w2 w4 (fun k => k = b2) := by
    refine ⟨_, Hm2.out.store, ?_, Hf2.out.trans (Hm2.out.frame _) (fun _ _ h => h)⟩
    rw [pe_snoc, if_pos rfl]
    exact Hm2.out.turn _
  obtain ⟨w4, he4, hm4, hf4⟩ := HE3
  have HE5 : ∃ w5, (Instr.mapEntry MT3 (.map (some b3)) (.int .u32 k)).run Try.prog w4 = .ok (.tuple #[.int .i64 0, .int .i64 ((re ps).length : Int)]) w5 ∧ MB w5 b3 (re ps ++ [(.int .u32 k, .int .i64 0)]) ∧ Fr w4 w5 (fun k => k = b3) := by
    have hm : MB w4 b3 (re ps) := HS2.out.m3.fr hf4 (fun e => HS2.out.ne.2.2 e.symm)
    exact ⟨_, hm.entry K3 Try.underlying106 (zeroI _) (keys3 Hps.out) k3.out (re_no (p := ⟨true, 0, i, j, k⟩) Hbb.out.2.symm), hm.turn _, hm.frame _⟩
  obtain ⟨w5, he5, hm5, hf5⟩ := HE5
  have HE6 : ∃ w6, (Instr.entryStore MT3 (.map (some b3)) (.int .i64 ((re ps).length : Int)) (.int .i64 (ps.length : Int))).run Try.prog w5 = .ok () w6 ∧ MB w6 b3 (re (ps ++ [⟨true, 0, i, j, k⟩])) ∧ Fr w4 w6 (fun k => k = b3) := by
    refine ⟨_, hm5.store, ?_, hf5.trans (hm5.frame _) (fun _ _ h => h)⟩
    rw [re_snoc, if_pos rfl]
    exact hm5.turn _
  obtain ⟨w6, he6, hm6, hf6⟩ := HE6
  have He4 := Lib.hid he4
  have He5 := Lib.hid he5
  have He6 := Lib.hid he6
  have Hf26 := Lib.hid (show Fr w2 w6 (fun k => k = b1 ∨ k = b2 ∨ k = b3) from (hf4.mono (fun _ _ h => .inr (.inl h))).trans hf6 (fun _ _ h => .inr (.inr h)))
  have Hk4 := Lib.hid (key.out w4 (hf4.mono (fun _ _ h => .inl h)))
  have Hk5 := Lib.hid (key.out w5 ((hf4.mono (fun _ _ h => .inl h)).trans hf5 (fun _ _ h => .inr h)))
  have Hk6 := Lib.hid (key.out w6 ((hf4.mono (fun _ _ h => .inl h)).trans hf6 (fun _ _ h => .inr h)))
  have Hm46 := Lib.hid (show MB w6 b2 (pe (ps ++ [⟨true, 0, i, j, k⟩])) from hm4.fr hf6 (fun e => HS2.out.ne.2.2 e))
  have Hm66 := Lib.hid hm6
  have Hm16 := Lib.hid (show MB w6 b1 (be (ps ++ [⟨true, 0, i, j, k⟩])) from by
    rw [be_snoc, if_pos rfl, List.append_nil]
    exact (HS2.out.m1.fr hf4 (fun e => HS2.out.ne.1 e)).fr hf6 (fun e => HS2.out.ne.2.1 e))
  clear he4 hm4 hf4 he5 hm5 hf5 he6 hm6 hf6
  refine wpAnyH_ready (rs := [15]) (by kernel_rfl) (by simp) ?_
  refine AllReadyH.cons rfl ?_ AllReadyH.nil
  intro K hK
  refine step_entryStore (by rfl) (.tmp 123) (.tmp 134) (.tmp 131) MT2 (by rfl) (.map (some b2)) (.int .i64 ((pe ps).length : Int)) (.int .i64 (ps.length : Int)) (by rfl) (by rfl) (by rfl) _ He4.out ?_
  refine hK.out _ _ Hk4.out (fun hHeld => ?_)
  clear hK K
  try simp only [Act.put, List.getElem_toArray, List.getElem_cons_succ, List.getElem_cons_zero, List.setIfInBounds_toArray, List.set_cons_zero, List.set_cons_succ]
  refine wpAnyH_ready (rs := [16]) (by kernel_rfl) (by simp) ?_
  refine AllReadyH.cons rfl ?_ AllReadyH.nil
  intro K hK
  refine step_mapEntry (by rfl) (.tmp 128) (.tmp 130) MT3 (by rfl) (.map (some b3)) (.int .u32 k) (by rfl) (by rfl) _ _ He5.out ?_
  refine hK.out _ _ Hk5.out (fun hHeld => ?_)
  clear hK K
  try simp only [Act.put, List.getElem_toArray, List.getElem_cons_succ, List.getElem_cons_zero, List.setIfInBounds_toArray, List.set_cons_zero, List.set_cons_succ]
  refine wpAnyH_take (i := 17) (v := (.int .i64 ((re ps).length : Int))) rfl (by kernel_rfl) (by kernel_rfl) (by kernel_rfl) (fun _ _ _ h => h) (Or.inl ⟨by kernel_rfl, ?_⟩) (by with_reducible assumption) ?_
  focus (intro w hSw; (try dsimp only at hSw); go_simp)
  try simp only [Act.put, List.getElem_toArray, List.getElem_cons_succ, List.getElem_cons_zero, List.setIfInBounds_toArray, List.set_cons_zero, List.set_cons_succ]
  refine wpAnyH_ready (rs := [18]) (by kernel_rfl) (by simp) ?_
  refine AllReadyH.cons rfl ?_ AllReadyH.nil
  intro K hK
  refine step_entryStore (by rfl) (.tmp 128) (.tmp 136) (.tmp 132) MT3 (by rfl) (.map (some b3)) (.int .i64 ((re ps).length : Int)) (.int .i64 (ps.length : Int)) (by rfl) (by rfl) (by rfl) _ He6.out ?_
  refine hK.out _ _ Hk6.out (fun hHeld => ?_)
  clear hK K
  try simp only [Act.put, List.getElem_toArray, List.getElem_cons_succ, List.getElem_cons_zero, List.setIfInBounds_toArray, List.set_cons_zero, List.set_cons_succ]
  refine wpAnyH_done (by kernel_rfl) ?_ _
  clear c0 c1 c2 c3 f4 g0 g1
  clear He2 Hm2 Hf2 He4 He5 He6 Hk3 Hk4 Hk5 Hk6 key
  have HO2 := Lib.hid (Hf26.out.owns HS2.out.own (fun k' hk e => e.elim (fun e => own_map HS2.out.own HS2.out.m1 (e ▸ hk)) (fun e => e.elim (fun e => own_map HS2.out.own HS2.out.m2 (e ▸ hk)) (fun e => own_map HS2.out.own HS2.out.m3 (e ▸ hk)))))
  have HB2 := Lib.hid (HS2.out.blk.fr Hf26.out (fun h => h.elim (fun e => HS2.out.m1.ne HS2.out.blk e.symm) (fun h => h.elim (fun e => HS2.out.m2.ne HS2.out.blk e.symm) (fun e => HS2.out.m3.ne HS2.out.blk e.symm))))
  have c0 : w6.cell? ⟨p, 0, none⟩ = some sv := by rw [HB2.out.cell]; rfl
  obtain ⟨i0, hi0, hz0, hz1, hz2⟩ := info_parts info_int
  have Hbs := Lib.hid (Nat.le_trans Hn.out.2 (Nat.le_trans HG'.out.size Hf26.out.size))
  go_wp2_with (
    at_builtin
    go_loud (refine wpList_append_sl _ encN rfl (.tmp 141) (.tmp 143) 28 rfl base 3 i0 (.int .i64 0) 1 8 Try.underlying28 hi0 hz0 hz1 hz2 rfl (by decide) sv ps.length _ rfl (HO2.out.alloc _) (.slice (some ⟨w6.heap.size, 0, none⟩) 1 1) [A + B] rfl (sl_one (enc := encN) w6 (A + B) #[.int .i64 ((A : Int) + (B : Int))] rfl 3) (fun _ => rfl) encN_one (by have := Hn.out.1; simp only [maxLen, List.length_singleton]; omega) (by have := Hn.out.1; simp only [List.length_singleton]; omega) (by have := Hbs.out; simp; omega) ?_)
    intro v7 w7 hown3 hg3 hat3
    rw [← List.flatMap_append] at hown3
    obtain ⟨A3, cap3, rfl⟩ := own_formN hown3
    have HP := Lib.hid (HS2.out.push (w2 := w6) (w3 := w7) (sv' := .slice A3 (ps.length + 1) cap3) ⟨true, 0, i, j, k⟩ (A + B) Hf26.out Hm16.out Hm46.out Hm66.out
      (((Fr.refl w6 _).alloc _).trans hg3 (fun _ _ h => h)) hown3)
    have HB3 := Lib.hid (HB2.out.fr (((Fr.refl w6 _).alloc _).trans hg3 (fun _ _ h => h)) (own_blk_ne HO2.out HB2.out TSn_int))
    have c3 : w7.cell? ⟨p, 0, none⟩ = some sv := by rw [HB3.out.cell]; rfl
    have g3 := HB3.out.frozen 0
    clear hown3 hg3 hat3)
  go_ret
  exact ⟨by rw [He.out]; rfl, .inr ⟨He.out, (Gr.mono HG'.out _).trans HP.out.2 (fun _ _ h => h), _, by rw [HAB.out.1, HAB.out.2]; exact HP.out.1⟩⟩
end Voc
end Go.Proofs.Ytildhlneldoffaa
