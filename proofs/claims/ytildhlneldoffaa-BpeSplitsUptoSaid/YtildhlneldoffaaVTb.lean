/- vocab: take of a byte. -/
import Derived.Test.YtildhlneldoffaaVTa
import Derived.Test.YtildhlneldoffaaVStep
set_option linter.unusedVariables false
set_option linter.unusedSimpArgs false
namespace Go.Proofs.Ytildhlneldoffaa
open Go.RowKit
namespace Voc
theorem SN.cells {w : World} {base p b1 b2 b3 : Nat} {ps : List Pc} {sz : List Nat} {sv : Value} (H : SN w base p ps sz sv b1 b2 b3) :
    w.cell? ⟨p, 0, none⟩ = some sv ∧ w.cell? ⟨p, 1, none⟩ = some (.map (some b1)) ∧ w.cell? ⟨p, 2, none⟩ = some (.map (some b2)) ∧ w.cell? ⟨p, 3, none⟩ = some (.map (some b3)) := by
  refine ⟨?_, ?_, ?_, ?_⟩ <;> rw [H.blk.cell] <;> rfl

theorem own_formN {w : World} {base n s : Nat} {e : TypeId} {lv : Value} {xs : List Value} (h : w.ownsRow base e s lv n xs) : ∃ A cap, lv = .slice A n cap := by
  rcases h.2 with ⟨rfl, rfl⟩ | ⟨g, cap, cur, rfl, _⟩
  · exact ⟨_, _, rfl⟩
  · exact ⟨_, _, rfl⟩
theorem TSn_int : (3 : TypeId) ≠ TSn := by decide
/-- a piece more: the maps know it, the sizes are longer -/
theorem SN.push {w w2 w3 : World} {base p b1 b2 b3 : Nat} {ps : List Pc} {sz : List Nat} {sv sv' : Value} (H : SN w base p ps sz sv b1 b2 b3) (q : Pc) (n : Nat)
    (h12 : Fr w w2 (fun k => k = b1 ∨ k = b2 ∨ k = b3)) (m1 : MB w2 b1 (be (ps ++ [q]))) (m2 : MB w2 b2 (pe (ps ++ [q]))) (m3 : MB w2 b3 (re (ps ++ [q])))
    (h23 : Fr w2 w3 (fun k => sv.ownBlock = some k)) (own3 : w3.ownsRow base 3 1 sv' (ps.length + 1) ((sz ++ [n]).flatMap encN)) :
    SN (w3.setCell ⟨p, 0, none⟩ sv') base p (ps ++ [q]) (sz ++ [n]) sv' b1 b2 b3 ∧ Fr w (w3.setCell ⟨p, 0, none⟩ sv') (SS p b1 b2 b3 sv) := by
  have n1 := H.m1.ne H.blk
  have n2 := H.m2.ne H.blk
  have n3 := H.m3.ne H.blk
  have o1 := own_map H.own H.m1
  have o2 := own_map H.own H.m2
  have o3 := own_map H.own H.m3
  have hB2 : Blk w2 p TSn _ := H.blk.fr h12 (by rintro (rfl | rfl | rfl) <;> contradiction)
  have hB3 : Blk w3 p TSn _ := hB2.fr h23 (own_blk_ne H.own H.blk TSn_int)
  have h34 : Fr w3 (w3.setCell ⟨p, 0, none⟩ sv') (fun k => k = p) := (Fr.refl w3 (fun k => k = p)).setCell (p := ⟨p, 0, none⟩) (fun _ => rfl) sv'
  refine ⟨⟨H.bs, hB3.set_ 0 sv', ?_, (m1.fr h23 o1).fr h34 n1, (m2.fr h23 o2).fr h34 n2, (m3.fr h23 o3).fr h34 n3, H.ne, by simp [H.len]⟩, ?_⟩
  · rw [List.length_append, List.length_singleton]
    exact h34.owns own3 (fun k hk e => own_blk_ne own3 hB3 TSn_int (e ▸ hk))
  · refine ((h12.mono (T := SS p b1 b2 b3 sv) ?_).trans h23 ?_).trans h34 ?_
    · rintro k _ (rfl | rfl | rfl)
      · exact .inr (.inl rfl)
      · exact .inr (.inr (.inl rfl))
      · exact .inr (.inr (.inr (.inl rfl)))
    · exact fun k _ h => .inr (.inr (.inr (.inr h)))
    · exact fun k _ h => .inl h
set_option maxRecDepth 20000 in
theorem take_byte {w : World} {base p b1 b2 b3 : Nat} {ps : List Pc} {sz : List Nat} {sv : Value} (b l r k : Int) (H : SN w base p ps sz sv b1 b2 b3) (hps : ∀ q ∈ ps, wfP q) (hq : wfP ⟨false, b, l, r, k⟩) (hn : ps.length < 4096) (hb : base ≤ w.heap.size) (E : Int) (hE : stepE ps sz ⟨false, b, l, r, k⟩ = E) :
    Calls Try.prog 57 #[.pointer (some ⟨p, 0, none⟩), .int .i64 (ps.length : Int), .agg (encP ⟨false, b, l, r, k⟩).toArray] w fun e w' => e = .returned (.int .i64 E) ∧
      ((E ≠ 0 ∧ Gr w w') ∨ (E = 0 ∧ Fr w w' (SS p b1 b2 b3 sv) ∧ ∃ sv', SN w' base p (ps ++ [⟨false, b, l, r, k⟩]) (sz ++ [1]) sv' b1 b2 b3)) := by
  have HS := Lib.hid H
  have Hq := Lib.hid hq
  have Hps := Lib.hid hps
  have Hn := Lib.hid (And.intro hn hb)
  have HE := Lib.hid hE
  clear H hps hq hn hb hE
  simp only [encP]
  go_enter Try.func57, Try.ntmps57
  go_upto_region 2 with (fail)
  have HB := Lib.hid (Blk.new w TPc #[.bool false, .int .u8 b, .int .i64 l, .int .i64 r, .int .u32 k])
  have HG := Lib.hid ((Fr.refl w NoneS).alloc (.cells #[.bool false, .int .u8 b, .int .i64 l, .int .i64 r, .int .u32 k] TPc))
  have HS1 := Lib.hid (HS.out.gr HG.out)
  generalize w.heap.size = q5 at HB ⊢
  generalize World.alloc w _ = w1 at HB HG HS1 ⊢
  have f0 : w1.cell? ⟨q5, 0, none⟩ = some (.bool false) := by rw [HB.out.cell]; rfl
  have f1 : w1.cell? ⟨q5, 1, none⟩ = some (.int .u8 b) := by rw [HB.out.cell]; rfl
  have f2 : w1.cell? ⟨q5, 2, none⟩ = some (.int .i64 l) := by rw [HB.out.cell]; rfl
  have f3 : w1.cell? ⟨q5, 3, none⟩ = some (.int .i64 r) := by rw [HB.out.cell]; rfl
  have f4 : w1.cell? ⟨q5, 4, none⟩ = some (.int .u32 k) := by rw [HB.out.cell]; rfl
  by_cases hz : l = 0 ∧ r = 0 ∧ k = 0
  case neg =>
    have e5 : E = 5 := by rw [← HE.out]; simp only [stepE, if_true]; rw [if_pos hz]
    clear HE
    have hz' := Lib.hid hz
    clear hz
    have He5 := Lib.hid e5
    clear e5
    go_wp2_with fail
    all_goals first
      | (go_ret; exact ⟨by rw [He5.out]; rfl, .inl ⟨by rw [He5.out]; decide, HG.out⟩⟩)
      | (exfalso; exact hz'.out ⟨by assumption, by assumption, by assumption⟩)
  obtain ⟨rfl, rfl, rfl⟩ := hz
  have ex : E = if ps.any (sameB ⟨false, b, 0, 0, 0⟩) then 8 else 0 := by rw [← HE.out]; simp [stepE]
  have Hex := Lib.hid ex
  clear ex HE
  go_upto_region 4 with (fail)
  clear f2 f3 f4
  obtain ⟨c0, c1, c2, c3⟩ := HS1.out.cells
  have kb := Lib.hid (Maps.keyOf_int_mk Try.underlying5 Hq.out.1)
  have HL : ∃ v' bb, bb = ps.any (sameB ⟨false, b, 0, 0, 0⟩) ∧ (Instr.lookup MT1 (.map (some b1)) (.int .u8 b) true).run Try.prog w1.drew = .ok (.tuple #[v', .bool bb]) w1.drew := by
    have hm : MB w1.drew b1 (be ps) := HS1.out.m1
    cases hb : ps.any (sameB ⟨false, b, 0, 0, 0⟩) with
    | false => exact ⟨_, _, rfl, hm.look_no K1 Try.underlying105 (zeroI _) (keys1 Hps.out) kb.out (be_no (p := ⟨false, b, 0, 0, 0⟩) hb)⟩
    | true =>
      obtain ⟨v, hv⟩ := be_yes (p := ⟨false, b, 0, 0, 0⟩) hb
      obtain ⟨v', _, h⟩ := hm.look_yes K1 Try.underlying105 (keys1 Hps.out) kb.out hv
      exact ⟨v', _, rfl, h⟩
  obtain ⟨v', bb, hbb, hl⟩ := HL
  have Hl := Lib.hid hl
  have Hbb := Lib.hid hbb
  clear hl hbb
  refine wp_region_held_drew (S := fun wx => wx.cell? ⟨p, 1, none⟩ = some (.map (some b1)) ∧ wx.cell? ⟨q5, 1, none⟩ = some (.int .u8 b)) (by kernel_rfl) ⟨c1, f1⟩ (fun hHeld => ?_)
  refine wpAnyH_take (i := 0) (v := (.pointer (some ⟨p, 0, none⟩))) rfl (by kernel_rfl) (by kernel_rfl) (by kernel_rfl) (fun _ _ _ h => h) (Or.inl ⟨by kernel_rfl, ?_⟩) (by with_reducible assumption) ?_
  focus (intro w hSw; (try dsimp only at hSw); go_simp)
  try simp only [Act.put, List.getElem_toArray, List.getElem_cons_succ, List.getElem_cons_zero, List.setIfInBounds_toArray, List.set_cons_zero, List.set_cons_succ]
  refine wpAnyH_take (i := 1) (v := (.pointer (some ⟨p, 0, none⟩))) rfl (by kernel_rfl) (by kernel_rfl) (by kernel_rfl) (fun _ _ _ h => h) (Or.inl ⟨by kernel_rfl, ?_⟩) (by with_reducible assumption) ?_
  focus (intro w hSw; (try dsimp only at hSw); go_simp)
  try simp only [Act.put, List.getElem_toArray, List.getElem_cons_succ, List.getElem_cons_zero, List.setIfInBounds_toArray, List.set_cons_zero, List.set_cons_succ]
  refine wpAnyH_take (i := 2) (v := (.pointer (some ⟨p, 1, none⟩))) rfl (by kernel_rfl) (by kernel_rfl) (by kernel_rfl) (fun _ _ _ h => h) (Or.inl ⟨by kernel_rfl, ?_⟩) (by with_reducible assumption) ?_
  focus (intro w hSw; (try dsimp only at hSw); go_simp)
  try simp only [Act.put, List.getElem_toArray, List.getElem_cons_succ, List.getElem_cons_zero, List.setIfInBounds_toArray, List.set_cons_zero, List.set_cons_succ]
  refine wpAnyH_take (i := 3) (v := (.map (some b1))) rfl (by kernel_rfl) (by kernel_rfl) (by kernel_rfl) (fun _ _ _ h => h) (Or.inl ⟨by kernel_rfl, ?_⟩) (by with_reducible assumption) ?_
  focus (intro w hSw; (try dsimp only at hSw); go_simp)
  try simp only [Act.put, List.getElem_toArray, List.getElem_cons_succ, List.getElem_cons_zero, List.setIfInBounds_toArray, List.set_cons_zero, List.set_cons_succ]
  refine wpAnyH_take (i := 4) (v := (.pointer (some ⟨q5, 1, none⟩))) rfl (by kernel_rfl) (by kernel_rfl) (by kernel_rfl) (fun _ _ _ h => h) (Or.inl ⟨by kernel_rfl, ?_⟩) (by with_reducible assumption) ?_
  focus (intro w hSw; (try dsimp only at hSw); go_simp)
  try simp only [Act.put, List.getElem_toArray, List.getElem_cons_succ, List.getElem_cons_zero, List.setIfInBounds_toArray, List.set_cons_zero, List.set_cons_succ]
  refine wpAnyH_take (i := 5) (v := (.int .u8 b)) rfl (by kernel_rfl) (by kernel_rfl) (by kernel_rfl) (fun _ _ _ h => h) (Or.inl ⟨by kernel_rfl, ?_⟩) (by with_reducible assumption) ?_
  focus (intro w hSw; (try dsimp only at hSw); go_simp)
  try simp only [Act.put, List.getElem_toArray, List.getElem_cons_succ, List.getElem_cons_zero, List.setIfInBounds_toArray, List.set_cons_zero, List.set_cons_succ]
  refine wpAnyH_ready (rs := [6]) (by kernel_rfl) (by simp) ?_
  refine AllReadyH.cons rfl ?_ AllReadyH.nil
  intro K hK
  refine step_lookup (by rfl) (.tmp 27) (.tmp 29) MT1 (by rfl) (.map (some b1)) (.int .u8 b) (by rfl) (by rfl) _ _ Hl.out ?_
  refine hK.out _ _ hHeld (fun _ => ?_)
  clear hK K
  try simp only [Act.put, List.getElem_toArray, List.getElem_cons_succ, List.getElem_cons_zero, List.setIfInBounds_toArray, List.set_cons_zero, List.set_cons_succ]
  refine wpAnyH_take (i := 7) (v := (.tuple #[v', .bool bb])) rfl (by kernel_rfl) (by kernel_rfl) (by kernel_rfl) (fun _ _ _ h => h) (Or.inl ⟨by kernel_rfl, ?_⟩) (by with_reducible assumption) ?_
  focus (intro w hSw; (try dsimp only at hSw); go_simp)
  try simp only [Act.put, List.getElem_toArray, List.getElem_cons_succ, List.getElem_cons_zero, List.setIfInBounds_toArray, List.set_cons_zero, List.set_cons_succ]
  refine wpAnyH_take (i := 8) (v := v') rfl (by kernel_rfl) (by kernel_rfl) (by kernel_rfl) (fun _ _ _ h => h) (Or.inl ⟨by kernel_rfl, ?_⟩) (by with_reducible assumption) ?_
  focus (intro w hSw; (try dsimp only at hSw); go_simp)
  try simp only [Act.put, List.getElem_toArray, List.getElem_cons_succ, List.getElem_cons_zero, List.setIfInBounds_toArray, List.set_cons_zero, List.set_cons_succ]
  refine wpAnyH_take (i := 9) (v := (.bool bb)) rfl (by kernel_rfl) (by kernel_rfl) (by kernel_rfl) (fun _ _ _ h => h) (Or.inl ⟨by kernel_rfl, ?_⟩) (by with_reducible assumption) ?_
  focus (intro w hSw; (try dsimp only at hSw); go_simp)
  try simp only [Act.put, List.getElem_toArray, List.getElem_cons_succ, List.getElem_cons_zero, List.setIfInBounds_toArray, List.set_cons_zero, List.set_cons_succ]
  refine wpAnyH_take (i := 10) (v := v') rfl (by kernel_rfl) (by kernel_rfl) (by kernel_rfl) (fun _ _ _ h => h) (Or.inl ⟨by kernel_rfl, ?_⟩) (by with_reducible assumption) ?_
  focus (intro w hSw; (try dsimp only at hSw); go_simp)
  try simp only [Act.put, List.getElem_toArray, List.getElem_cons_succ, List.getElem_cons_zero, List.setIfInBounds_toArray, List.set_cons_zero, List.set_cons_succ]
  refine wpAnyH_take (i := 11) (v := (.bool bb)) rfl (by kernel_rfl) (by kernel_rfl) (by kernel_rfl) (fun _ _ _ h => h) (Or.inl ⟨by kernel_rfl, ?_⟩) (by with_reducible assumption) ?_
  focus (intro w hSw; (try dsimp only at hSw); go_simp)
  try simp only [Act.put, List.getElem_toArray, List.getElem_cons_succ, List.getElem_cons_zero, List.setIfInBounds_toArray, List.set_cons_zero, List.set_cons_succ]
  refine wpAnyH_done (by kernel_rfl) ?_ _
  clear hHeld
  cases bb with
  | true =>
    go_wp2_with fail
    go_ret
    have e8 : E = 8 := by rw [Hex.out, ← Hbb.out]; rfl
    exact ⟨by rw [e8]; rfl, .inl ⟨by rw [e8]; decide, HG.out.drew⟩⟩
  | false =>
    have e0 : E = 0 := by rw [Hex.out, ← Hbb.out]; rfl
    have He := Lib.hid e0
    clear e0
    go_upto_region 7 with (fail)
    have HU : ∃ w2, (Instr.mapUpdate MT1 (.map (some b1)) (.int .u8 b) (.int .i64 (ps.length : Int))).run Try.prog w1.drew.drew = .ok () w2 ∧ MB w2 b1 (be (ps ++ [⟨false, b, 0, 0, 0⟩])) ∧ Fr w1 w2 (fun k => k = b1) := by
      have hm : MB w1.drew.drew b1 (be ps) := HS1.out.m1
      refine ⟨_, hm.update K1 Try.underlying105 (keys1 Hps.out) kb.out (be_no (p := ⟨false, b, 0, 0, 0⟩) Hbb.out.symm), ?_, (hm.frame _).drew0.drew0⟩
      rw [be_snoc]
      exact hm.turn _
    obtain ⟨w2, hu, hm2, hf2⟩ := HU
    have Hu := Lib.hid hu
    have Hm2 := Lib.hid hm2
    have Hf2 := Lib.hid hf2
    have Hne := Lib.hid (And.intro (HS1.out.m1.ne HS1.out.blk) (HS1.out.m1.ne HB.out))
    clear hu hm2 hf2
    have d1 : w2.cell? ⟨p, 1, none⟩ = some (.map (some b1)) := (Hf2.out.cell (p := ⟨p, 1, none⟩) HS1.out.blk.lt (fun h => Hne.out.1 h.symm)).trans c1
    have d5 : w2.cell? ⟨q5, 1, none⟩ = some (.int .u8 b) := (Hf2.out.cell (p := ⟨q5, 1, none⟩) HB.out.lt (fun h => Hne.out.2 h.symm)).trans f1
    refine wp_region_held_drew (S := fun wx => wx.cell? ⟨p, 1, none⟩ = some (.map (some b1)) ∧ wx.cell? ⟨q5, 1, none⟩ = some (.int .u8 b)) (by kernel_rfl) ⟨c1, f1⟩ (fun hHeld => ?_)
    refine wpAnyH_take (i := 0) (v := (.pointer (some ⟨p, 0, none⟩))) rfl (by kernel_rfl) (by kernel_rfl) (by kernel_rfl) (fun _ _ _ h => h) (Or.inl ⟨by kernel_rfl, ?_⟩) (by with_reducible assumption) ?_
    focus (intro w hSw; (try dsimp only at hSw); go_simp)
    try simp only [Act.put, List.getElem_toArray, List.getElem_cons_succ, List.getElem_cons_zero, List.setIfInBounds_toArray, List.set_cons_zero, List.set_cons_succ]
    refine wpAnyH_take (i := 1) (v := (.pointer (some ⟨p, 0, none⟩))) rfl (by kernel_rfl) (by kernel_rfl) (by kernel_rfl) (fun _ _ _ h => h) (Or.inl ⟨by kernel_rfl, ?_⟩) (by with_reducible assumption) ?_
    focus (intro w hSw; (try dsimp only at hSw); go_simp)
    try simp only [Act.put, List.getElem_toArray, List.getElem_cons_succ, List.getElem_cons_zero, List.setIfInBounds_toArray, List.set_cons_zero, List.set_cons_succ]
    refine wpAnyH_take (i := 2) (v := (.pointer (some ⟨p, 1, none⟩))) rfl (by kernel_rfl) (by kernel_rfl) (by kernel_rfl) (fun _ _ _ h => h) (Or.inl ⟨by kernel_rfl, ?_⟩) (by with_reducible assumption) ?_
    focus (intro w hSw; (try dsimp only at hSw); go_simp)
    try simp only [Act.put, List.getElem_toArray, List.getElem_cons_succ, List.getElem_cons_zero, List.setIfInBounds_toArray, List.set_cons_zero, List.set_cons_succ]
    refine wpAnyH_take (i := 3) (v := (.map (some b1))) rfl (by kernel_rfl) (by kernel_rfl) (by kernel_rfl) (fun _ _ _ h => h) (Or.inl ⟨by kernel_rfl, ?_⟩) (by with_reducible assumption) ?_
    focus (intro w hSw; (try dsimp only at hSw); go_simp)
    try simp only [Act.put, List.getElem_toArray, List.getElem_cons_succ, List.getElem_cons_zero, List.setIfInBounds_toArray, List.set_cons_zero, List.set_cons_succ]
    refine wpAnyH_take (i := 4) (v := (.pointer (some ⟨q5, 1, none⟩))) rfl (by kernel_rfl) (by kernel_rfl) (by kernel_rfl) (fun _ _ _ h => h) (Or.inl ⟨by kernel_rfl, ?_⟩) (by with_reducible assumption) ?_
    focus (intro w hSw; (try dsimp only at hSw); go_simp)
    try simp only [Act.put, List.getElem_toArray, List.getElem_cons_succ, List.getElem_cons_zero, List.setIfInBounds_toArray, List.set_cons_zero, List.set_cons_succ]
    refine wpAnyH_take (i := 5) (v := (.int .u8 b)) rfl (by kernel_rfl) (by kernel_rfl) (by kernel_rfl) (fun _ _ _ h => h) (Or.inl ⟨by kernel_rfl, ?_⟩) (by with_reducible assumption) ?_
    focus (intro w hSw; (try dsimp only at hSw); go_simp)
    try simp only [Act.put, List.getElem_toArray, List.getElem_cons_succ, List.getElem_cons_zero, List.setIfInBounds_toArray, List.set_cons_zero, List.set_cons_succ]
    refine wpAnyH_take (i := 6) (v := (.int .i64 (ps.length : Int))) rfl (by kernel_rfl) (by kernel_rfl) (by kernel_rfl) (fun _ _ _ h => h) (Or.inl ⟨by kernel_rfl, ?_⟩) (by with_reducible assumption) ?_
    focus (intro w hSw; (try dsimp only at hSw); go_simp)
    try simp only [Act.put, List.getElem_toArray, List.getElem_cons_succ, List.getElem_cons_zero, List.setIfInBounds_toArray, List.set_cons_zero, List.set_cons_succ]
    refine wpAnyH_ready (rs := [7]) (by kernel_rfl) (by simp) ?_
    refine AllReadyH.cons rfl ?_ AllReadyH.nil
    intro K hK
    refine step_mapUpdate (by rfl) (.tmp 37) (.tmp 39) (.tmp 40) MT1 (by rfl) (.map (some b1)) (.int .u8 b) (.int .i64 (ps.length : Int)) (by rfl) (by rfl) (by rfl) _ Hu.out ?_
    refine hK.out _ _ ⟨d1, d5⟩ (fun _ => ?_)
    clear hK K hHeld
    try simp only [Act.put, List.getElem_toArray, List.getElem_cons_succ, List.getElem_cons_zero, List.setIfInBounds_toArray, List.set_cons_zero, List.set_cons_succ]
    refine wpAnyH_done (by kernel_rfl) ?_ _
    clear d1 d5 f0 f1 c0 c1 c2 c3
    have HO2 := Lib.hid (Hf2.out.owns HS1.out.own (fun k hk e => own_map HS1.out.own HS1.out.m1 (e ▸ hk)))
    have HB2 := Lib.hid (HS1.out.blk.fr Hf2.out (fun h => Hne.out.1 h.symm))
    have c0 : w2.cell? ⟨p, 0, none⟩ = some sv := by rw [HB2.out.cell]; rfl
    obtain ⟨i0, hi0, hz0, hz1, hz2⟩ := info_parts info_int
    have Hsz := Lib.hid (Nat.le_trans Hn.out.2 (Nat.le_trans HG.out.size Hf2.out.size))
    go_wp2_with (
      at_builtin
      go_loud (refine wpList_append_sl _ encN rfl (.tmp 45) (.tmp 46) 28 rfl base 3 i0 (.int .i64 0) 1 8 Try.underlying28 hi0 hz0 hz1 hz2 rfl (by decide) sv ps.length _ rfl (HO2.out.alloc _) (.slice (some ⟨w2.heap.size, 0, none⟩) 1 1) [1] rfl (sl_one (enc := encN) w2 1 #[.int .i64 1] rfl 3) (fun _ => rfl) encN_one (by have := Hn.out.1; simp only [maxLen, List.length_singleton]; omega) (by have := Hn.out.1; simp only [List.length_singleton]; omega) (by have := Hsz.out; simp; omega) ?_)
      intro v3 w3 hown3 hg3 hat3
      rw [← List.flatMap_append] at hown3
      obtain ⟨A3, cap3, rfl⟩ := own_formN hown3
      have HP := Lib.hid (HS1.out.push (w2 := w2) (w3 := w3) (sv' := .slice A3 (ps.length + 1) cap3) ⟨false, b, 0, 0, 0⟩ 1 (Hf2.out.mono (fun k _ h => .inl h)) Hm2.out
        (by rw [pe_snoc, if_neg (by simp), List.append_nil]; exact HS1.out.m2.fr Hf2.out (fun e => HS1.out.ne.1 e.symm))
        (by rw [re_snoc, if_neg (by simp), List.append_nil]; exact HS1.out.m3.fr Hf2.out (fun e => HS1.out.ne.2.1 e.symm))
        (((Fr.refl w2 _).alloc _).trans hg3 (fun _ _ h => h)) hown3)
      have HB3 := Lib.hid (HB2.out.fr (((Fr.refl w2 _).alloc _).trans hg3 (fun _ _ h => h)) (own_blk_ne HO2.out HB2.out TSn_int))
      have c3 : w3.cell? ⟨p, 0, none⟩ = some sv := by rw [HB3.out.cell]; rfl
      have g3 := HB3.out.frozen 0
      clear hown3 hg3 hat3)
    go_ret
    exact ⟨by rw [He.out]; rfl, .inr ⟨He.out, (Gr.mono HG.out _).trans HP.out.2 (fun _ _ h => h), _, HP.out.1⟩⟩
end Voc
end Go.Proofs.Ytildhlneldoffaa
