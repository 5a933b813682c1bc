/- the reference's vocab: what is seen; a byte. the reference's vocab: a join. the reference's vocab: Sizes and Check. the reference's vocab: May. -/
import Derived.Test.YtdogccgebgdlmaaVTa
set_option linter.unusedVariables false
set_option linter.unusedSimpArgs false
namespace Go.Proofs.Ytdogccgebgdlmaa
open Go.RowKit
namespace Voc
abbrev TRs : TypeId := 82
def bset (ps : List Pc) : List Bool := (List.range 256).map fun i : Nat => ps.any fun q => !q.j && q.b == (i : Int)
theorem bset_len (ps : List Pc) : (bset ps).length = 256 := by simp [bset]
theorem bset_get (ps : List Pc) {i : Nat} (h : i < 256) : (bset ps)[i]? = some (ps.any fun q => !q.j && q.b == (i : Int)) := by
  unfold bset
  rw [List.getElem?_map, List.getElem?_range h]; rfl
def rcs (sv : Value) (bs : List Bool) (n : Nat) : Array Value := (sv :: (bs.map .bool ++ [.int .i64 (n : Int)])).toArray
theorem rcs_size (sv : Value) (bs : List Bool) (n : Nat) (h : bs.length = 256) : (rcs sv bs n).size = 258 := by simp [rcs, h]
theorem rcs_bit (sv : Value) (bs : List Bool) (n : Nat) (h : bs.length = 256) {i : Nat} (hi : i < 256) : (rcs sv bs n)[1 + i]? = (bs[i]?).map .bool := by
  unfold rcs
  rw [List.getElem?_toArray, Nat.add_comm, List.getElem?_cons_succ, List.getElem?_append_left (by simp; omega), List.getElem?_map]
theorem rcs_num (sv : Value) (bs : List Bool) (n : Nat) (h : bs.length = 256) : (rcs sv bs n)[257]? = some (.int .i64 (n : Int)) := by
  unfold rcs
  rw [List.getElem?_toArray, List.getElem?_cons_succ, List.getElem?_append_right (by simp; omega)]
  simp [h]
theorem rcs_set_bit (sv : Value) (bs : List Bool) (n : Nat) (h : bs.length = 256) {i : Nat} (hi : i < 256) : (rcs sv bs n).setIfInBounds (1 + i) (.bool true) = rcs sv (bs.set i true) n := by
  unfold rcs
  rw [List.setIfInBounds_toArray, Nat.add_comm, List.set_cons_succ, List.set_append_left _ _ (by simp; omega), List.map_set]
theorem rcs_set_num (sv : Value) (bs : List Bool) (n m : Nat) (h : bs.length = 256) : (rcs sv bs n).setIfInBounds 257 (.int .i64 (m : Int)) = rcs sv bs m := by
  unfold rcs
  rw [List.setIfInBounds_toArray, List.set_cons_succ, List.set_append_right _ _ (by simp; omega)]
  simp [h]
theorem rcs_set_own (sv sv' : Value) (bs : List Bool) (n : Nat) : (rcs sv bs n).setIfInBounds 0 sv' = rcs sv' bs n := by
  unfold rcs
  rw [List.setIfInBounds_toArray]; rfl
theorem bset_snoc_join (ps : List Pc) (q : Pc) (h : q.j = true) : bset (ps ++ [q]) = bset ps := by
  unfold bset; simp [h]
theorem bset_snoc_byte (ps : List Pc) (q : Pc) (h : q.j = false) {i : Nat} (hb : q.b = (i : Int)) (hi : i < 256) : bset (ps ++ [q]) = (bset ps).set i true := by
  apply List.ext_getElem?
  intro m
  rw [List.getElem?_set]
  by_cases hm : m < 256
  · rw [bset_get _ hm, bset_len]
    by_cases he : i = m
    · subst he; simp [hi, h, hb]
    · rw [if_neg he, bset_get _ hm, List.any_append]
      have : ¬ ((i : Int) = (m : Int)) := by omega
      simp [h, hb, this]
  · rw [List.getElem?_eq_none (by rw [bset_len]; omega)]
    rw [List.getElem?_eq_none (l := bset ps) (by rw [bset_len]; omega)]
    split
    · rename_i he; subst he; rw [bset_len, if_neg hm]
    · rfl

structure RN (w : World) (base p : Nat) (ps : List Pc) (sz : List Nat) (sv : Value) : Prop where
  bs : base ≤ p
  blk : Blk w p TRs (rcs sv (bset ps) (be ps).length)
  own : w.ownsRow base 3 1 sv ps.length (sz.flatMap encN)
  len : sz.length = ps.length
def RS (p : Nat) (sv : Value) : Nat → Prop := fun k => k = p ∨ sv.ownBlock = some k
theorem RN.gr {w w' : World} {base p : Nat} {ps : List Pc} {sz : List Nat} {sv : Value} (H : RN w base p ps sz sv) (hg : Gr w w') : RN w' base p ps sz sv :=
  ⟨H.bs, H.blk.fr hg (fun h => h), hg.owns H.own (fun _ _ h => h), H.len⟩
theorem RN.c0 {w : World} {base p : Nat} {ps : List Pc} {sz : List Nat} {sv : Value} (H : RN w base p ps sz sv) : w.cell? ⟨p, 0, none⟩ = some sv := by rw [H.blk.cell]; rfl
theorem RN.c257 {w : World} {base p : Nat} {ps : List Pc} {sz : List Nat} {sv : Value} (H : RN w base p ps sz sv) : w.cell? ⟨p, 257, none⟩ = some (.int .i64 ((be ps).length : Int)) := by rw [H.blk.cell, rcs_num _ _ _ (bset_len ps)]
theorem RN.bit {w : World} {base p : Nat} {ps : List Pc} {sz : List Nat} {sv : Value} (H : RN w base p ps sz sv) {i : Nat} (hi : i < 256) : w.cell? ⟨p, 1 + i, none⟩ = some (.bool (ps.any fun q => !q.j && q.b == (i : Int))) := by
  rw [H.blk.cell, rcs_bit _ _ _ (bset_len ps) hi, bset_get _ hi]; rfl
theorem TRs_int : (3 : TypeId) ≠ TRs := by decide

theorem RN.push {w w2 w3 : World} {base p : Nat} {ps : List Pc} {sz : List Nat} {sv sv' : Value} (H : RN w base p ps sz sv) (q : Pc) (n : Nat) (h12 : Fr w w2 (fun k => k = p)) (hb : Blk w2 p TRs (rcs sv (bset (ps ++ [q])) (be (ps ++ [q])).length))
    (h23 : Fr w2 w3 (fun k => sv.ownBlock = some k)) (own3 : w3.ownsRow base 3 1 sv' (ps.length + 1) ((sz ++ [n]).flatMap encN)) :
    RN (w3.setCell ⟨p, 0, none⟩ sv') base p (ps ++ [q]) (sz ++ [n]) sv' ∧ Fr w (w3.setCell ⟨p, 0, none⟩ sv') (RS p sv) := by
  have hB3 : Blk w3 p TRs _ := hb.fr h23 (own_blk_ne H.own H.blk TRs_int)
  have h34 : Fr w3 (w3.setCell ⟨p, 0, none⟩ sv') (fun k => k = p) := (Fr.refl w3 (fun k => k = p)).setCell (p := ⟨p, 0, none⟩) (fun _ => rfl) sv'
  refine ⟨⟨H.bs, ?_, ?_, by simp [H.len]⟩, ((h12.mono (T := RS p sv) (fun k _ h => .inl h)).trans h23 (fun k _ h => .inr h)).trans h34 (fun k _ h => .inl h)⟩
  · have h := hB3.set_ 0 sv'
    rw [rcs_set_own] at h
    exact h
  · rw [List.length_append, List.length_singleton]
    exact h34.owns own3 (fun k hk e => own_blk_ne own3 hB3 TRs_int (e ▸ hk))

set_option maxRecDepth 20000 in
set_option maxHeartbeats 4000000 in
theorem rbyte {w : World} {base p : Nat} {ps : List Pc} {sz : List Nat} {sv : Value} (i : Nat) (l r k : Int) (H : RN w base p ps sz sv) (hi : i < 256) (hn : ps.length < 4096) (hb : base ≤ w.heap.size) (E : Int) (hE : stepE ps sz ⟨false, i, l, r, k⟩ = E) :
    Calls Try.prog 48 #[.pointer (some ⟨p, 0, none⟩), .agg (encP ⟨false, i, l, r, k⟩).toArray] w fun e w' => e = .returned (.int .i64 E) ∧
      ((E ≠ 0 ∧ Gr w w') ∨ (E = 0 ∧ Fr w w' (RS p sv) ∧ ∃ sv', RN w' base p (ps ++ [⟨false, i, l, r, k⟩]) (sz ++ [1]) sv')) := by
  have HS := Lib.hid H
  have Hi := Lib.hid hi
  have Hn := Lib.hid (And.intro hn hb)
  have HE := Lib.hid hE
  clear H hn hb hE
  simp only [encP]
  go_enter Try.func48, Try.ntmps48
  go_upto_region 1 with (fail)
  have HB := Lib.hid (Blk.new w TPc #[.bool false, .int .u8 (i : Int), .int .i64 l, .int .i64 r, .int .u32 k])
  have HG := Lib.hid ((Fr.refl w NoneS).alloc (.cells #[.bool false, .int .u8 (i : Int), .int .i64 l, .int .i64 r, .int .u32 k] TPc))
  have HS1 := Lib.hid (HS.out.gr HG.out)
  generalize w.heap.size = q5 at HB ⊢
  generalize World.alloc w _ = w1 at HB HG HS1 ⊢
  have f1 : w1.cell? ⟨q5, 1, none⟩ = some (.int .u8 (i : Int)) := by rw [HB.out.cell]; rfl
  have f2 : w1.cell? ⟨q5, 2, none⟩ = some (.int .i64 l) := by rw [HB.out.cell]; rfl
  have f3 : w1.cell? ⟨q5, 3, none⟩ = some (.int .i64 r) := by rw [HB.out.cell]; rfl
  have f4 : w1.cell? ⟨q5, 4, none⟩ = some (.int .u32 k) := by rw [HB.out.cell]; rfl
  by_cases hz : l = 0 ∧ r = 0 ∧ k = 0
  case neg =>
    have e5 : E = 5 := by rw [← HE.out]; simp only [stepE, if_true]; rw [if_pos hz]
    clear HE
    have He5 := Lib.hid e5
    clear e5 hi
    by_cases hl : l = 0
    · subst hl
      by_cases hr : r = 0
      · subst hr
        have hk : ¬ k = 0 := fun h => hz ⟨rfl, rfl, h⟩
        clear hz
        go_wp2_with fail
        go_ret
        exact ⟨by rw [He5.out]; rfl, .inl ⟨by rw [He5.out]; decide, HG.out⟩⟩
      · clear hz
        go_wp2_with fail
        go_ret
        exact ⟨by rw [He5.out]; rfl, .inl ⟨by rw [He5.out]; decide, HG.out⟩⟩
    · clear hz
      go_wp2_with fail
      go_ret
      exact ⟨by rw [He5.out]; rfl, .inl ⟨by rw [He5.out]; decide, HG.out⟩⟩
  obtain ⟨rfl, rfl, rfl⟩ := hz
  have ex : E = if ps.any (sameB ⟨false, i, 0, 0, 0⟩) then 8 else 0 := by rw [← HE.out]; simp [stepE]
  have Hex := Lib.hid ex
  clear ex HE
  go_upto_region 3 with (fail)
  clear f2 f3 f4
  have hc := HS1.out.bit hi
  obtain ⟨bb, hbb⟩ : ∃ b, b = ps.any fun q => !q.j && q.b == (i : Int) := ⟨_, rfl⟩
  rw [← hbb] at hc
  have Hbb := Lib.hid (show bb = ps.any (sameB ⟨false, i, 0, 0, 0⟩) from hbb)
  clear hbb
  have hi0 : (0 : Int) ≤ (i : Int) := by omega
  have hi1 : (i : Int) < 256 := by omega
  refine wp_region_held_drew (S := fun wx => wx.cell? ⟨q5, 1, none⟩ = some (.int .u8 (i : Int)) ∧ wx.cell? ⟨p, 1 + i, none⟩ = some (.bool bb)) (by kernel_rfl) ⟨f1, hc⟩ (fun hHeld => ?_)
  refine wpAnyH_take (i := 0) (v := (.pointer (some ⟨p, 0, none⟩))) rfl (by kernel_rfl) (by kernel_rfl) (by kernel_rfl) (fun _ _ _ h => h) (Or.inl ⟨by kernel_rfl, ?_⟩) (by with_reducible assumption) ?_
  focus (intro w hSw; (try dsimp only at hSw); go_simp)
  try simp only [Act.put, List.getElem_toArray, List.getElem_cons_succ, List.getElem_cons_zero, List.setIfInBounds_toArray, List.set_cons_zero, List.set_cons_succ]
  refine wpAnyH_take (i := 1) (v := (.pointer (some ⟨q5, 1, none⟩))) rfl (by kernel_rfl) (by kernel_rfl) (by kernel_rfl) (fun _ _ _ h => h) (Or.inl ⟨by kernel_rfl, ?_⟩) (by with_reducible assumption) ?_
  focus (intro w hSw; (try dsimp only at hSw); go_simp)
  try simp only [Act.put, List.getElem_toArray, List.getElem_cons_succ, List.getElem_cons_zero, List.setIfInBounds_toArray, List.set_cons_zero, List.set_cons_succ]
  refine wpAnyH_take (i := 2) (v := (.int .u8 (i : Int))) rfl (by kernel_rfl) (by kernel_rfl) (by kernel_rfl) (fun _ _ _ h => h) (Or.inl ⟨by kernel_rfl, ?_⟩) (by with_reducible assumption) ?_
  focus (intro w hSw; (try dsimp only at hSw); go_simp)
  try simp only [Act.put, List.getElem_toArray, List.getElem_cons_succ, List.getElem_cons_zero, List.setIfInBounds_toArray, List.set_cons_zero, List.set_cons_succ]
  refine wpAnyH_take (i := 3) (v := (.pointer (some ⟨p, 0, none⟩))) rfl (by kernel_rfl) (by kernel_rfl) (by kernel_rfl) (fun _ _ _ h => h) (Or.inl ⟨by kernel_rfl, ?_⟩) (by with_reducible assumption) ?_
  focus (intro w hSw; (try dsimp only at hSw); go_simp)
  try simp only [Act.put, List.getElem_toArray, List.getElem_cons_succ, List.getElem_cons_zero, List.setIfInBounds_toArray, List.set_cons_zero, List.set_cons_succ]
  refine wpAnyH_take (i := 4) (v := (.pointer (some ⟨p, 1, none⟩))) rfl (by kernel_rfl) (by kernel_rfl) (by kernel_rfl) (fun _ _ _ h => h) (Or.inl ⟨by kernel_rfl, ?_⟩) (by with_reducible assumption) ?_
  focus (intro w hSw; (try dsimp only at hSw); go_simp)
  try simp only [Act.put, List.getElem_toArray, List.getElem_cons_succ, List.getElem_cons_zero, List.setIfInBounds_toArray, List.set_cons_zero, List.set_cons_succ]
  refine wpAnyH_take (i := 5) (v := (.pointer (some ⟨p, 1 + i, none⟩))) rfl (by kernel_rfl) (by kernel_rfl) (by kernel_rfl) (fun _ _ _ h => h) (Or.inl ⟨by kernel_rfl, ?_⟩) (by with_reducible assumption) ?_
  focus (intro w hSw; (try dsimp only at hSw); go_simp)
  try simp only [Act.put, List.getElem_toArray, List.getElem_cons_succ, List.getElem_cons_zero, List.setIfInBounds_toArray, List.set_cons_zero, List.set_cons_succ]
  refine wpAnyH_take (i := 6) (v := (.bool bb)) rfl (by kernel_rfl) (by kernel_rfl) (by kernel_rfl) (fun _ _ _ h => h) (Or.inl ⟨by kernel_rfl, ?_⟩) (by with_reducible assumption) ?_
  focus (intro w hSw; (try dsimp only at hSw); go_simp)
  try simp only [Act.put, List.getElem_toArray, List.getElem_cons_succ, List.getElem_cons_zero, List.setIfInBounds_toArray, List.set_cons_zero, List.set_cons_succ]
  refine wpAnyH_done (by kernel_rfl) ?_ _
  clear hHeld
  cases bb with
  | true =>
    go_wp2_with fail
    go_ret
    have e8 : E = 8 := by rw [Hex.out, ← Hbb.out]; rfl
    exact ⟨by rw [e8]; rfl, .inl ⟨by rw [e8]; decide, HG.out.drew⟩⟩
  | false =>
    have e0 : E = 0 := by rw [Hex.out, ← Hbb.out]; rfl
    have He := Lib.hid e0
    clear e0
    go_upto_region 5 with (fail)
    have g1 := HS1.out.blk.frozen (1 + i)
    have hpq : q5 ≠ p := HB.out.ne_ HS1.out.blk (by decide)
    have hF2 : Fr w1 (w1.setCell ⟨p, 1 + i, none⟩ (.bool true)).drew.drew (fun k => k = p) := ((Fr.refl w1 (fun k => k = p)).setCell (p := ⟨p, 1 + i, none⟩) (fun _ => rfl) (.bool true)).drew.drew
    have hB2 : Blk (w1.setCell ⟨p, 1 + i, none⟩ (.bool true)).drew.drew p TRs (rcs sv (bset (ps ++ [⟨false, i, 0, 0, 0⟩])) (be ps).length) := by
      have h := (HS1.out.blk.set_ (1 + i) (.bool true)).drew.drew
      rw [rcs_set_bit _ _ _ (bset_len ps) Hi.out, ← bset_snoc_byte ps ⟨false, i, 0, 0, 0⟩ rfl rfl Hi.out] at h
      exact h
    have hf1 : (w1.setCell ⟨p, 1 + i, none⟩ (.bool true)).drew.drew.cell? ⟨q5, 1, none⟩ = some (.int .u8 (i : Int)) := (hF2.cell (p := ⟨q5, 1, none⟩) HB.out.lt hpq).trans f1
    have HF2 := Lib.hid hF2
    have HB2 := Lib.hid hB2
    have Hf1 := Lib.hid hf1
    clear hF2 hB2 hf1 hpq
    refine wp_region_held_drew (S := fun wx => wx.cell? ⟨q5, 1, none⟩ = some (.int .u8 (i : Int))) (by kernel_rfl) f1 (fun hHeld => ?_)
    refine wpAnyH_take (i := 0) (v := (.pointer (some ⟨p, 0, none⟩))) rfl (by kernel_rfl) (by kernel_rfl) (by kernel_rfl) (fun _ _ _ h => h) (Or.inl ⟨by kernel_rfl, ?_⟩) (by with_reducible assumption) ?_
    focus (intro w hSw; (try dsimp only at hSw); go_simp)
    try simp only [Act.put, List.getElem_toArray, List.getElem_cons_succ, List.getElem_cons_zero, List.setIfInBounds_toArray, List.set_cons_zero, List.set_cons_succ]
    refine wpAnyH_take (i := 1) (v := (.pointer (some ⟨q5, 1, none⟩))) rfl (by kernel_rfl) (by kernel_rfl) (by kernel_rfl) (fun _ _ _ h => h) (Or.inl ⟨by kernel_rfl, ?_⟩) (by with_reducible assumption) ?_
    focus (intro w hSw; (try dsimp only at hSw); go_simp)
    try simp only [Act.put, List.getElem_toArray, List.getElem_cons_succ, List.getElem_cons_zero, List.setIfInBounds_toArray, List.set_cons_zero, List.set_cons_succ]
    refine wpAnyH_take (i := 2) (v := (.int .u8 (i : Int))) rfl (by kernel_rfl) (by kernel_rfl) (by kernel_rfl) (fun _ _ _ h => h) (Or.inl ⟨by kernel_rfl, ?_⟩) (by with_reducible assumption) ?_
    focus (intro w hSw; (try dsimp only at hSw); go_simp)
    try simp only [Act.put, List.getElem_toArray, List.getElem_cons_succ, List.getElem_cons_zero, List.setIfInBounds_toArray, List.set_cons_zero, List.set_cons_succ]
    refine wpAnyH_take (i := 3) (v := (.pointer (some ⟨p, 0, none⟩))) rfl (by kernel_rfl) (by kernel_rfl) (by kernel_rfl) (fun _ _ _ h => h) (Or.inl ⟨by kernel_rfl, ?_⟩) (by with_reducible assumption) ?_
    focus (intro w hSw; (try dsimp only at hSw); go_simp)
    try simp only [Act.put, List.getElem_toArray, List.getElem_cons_succ, List.getElem_cons_zero, List.setIfInBounds_toArray, List.set_cons_zero, List.set_cons_succ]
    refine wpAnyH_take (i := 4) (v := (.pointer (some ⟨p, 1, none⟩))) rfl (by kernel_rfl) (by kernel_rfl) (by kernel_rfl) (fun _ _ _ h => h) (Or.inl ⟨by kernel_rfl, ?_⟩) (by with_reducible assumption) ?_
    focus (intro w hSw; (try dsimp only at hSw); go_simp)
    try simp only [Act.put, List.getElem_toArray, List.getElem_cons_succ, List.getElem_cons_zero, List.setIfInBounds_toArray, List.set_cons_zero, List.set_cons_succ]
    refine wpAnyH_take (i := 5) (v := (.pointer (some ⟨p, 1 + i, none⟩))) rfl (by kernel_rfl) (by kernel_rfl) (by kernel_rfl) (fun _ _ _ h => h) (Or.inl ⟨by kernel_rfl, ?_⟩) (by with_reducible assumption) ?_
    focus (intro w hSw; (try dsimp only at hSw); go_simp)
    try simp only [Act.put, List.getElem_toArray, List.getElem_cons_succ, List.getElem_cons_zero, List.setIfInBounds_toArray, List.set_cons_zero, List.set_cons_succ]
    refine wpAnyH_ready (rs := [6]) (by kernel_rfl) (by simp) ?_
    refine AllReadyH.cons rfl ?_ AllReadyH.nil
    intro K hK
    go_simp
    refine hK.out _ _ Hf1.out (fun _ => ?_)
    clear hK K hHeld
    try simp only [Act.put, List.getElem_toArray, List.getElem_cons_succ, List.getElem_cons_zero, List.setIfInBounds_toArray, List.set_cons_zero, List.set_cons_succ]
    refine wpAnyH_done (by kernel_rfl) ?_ _
    clear hc g1 f1 Hf1
    have HO2 := Lib.hid (HF2.out.owns HS1.out.own (fun k' hk e => own_blk_ne HS1.out.own HS1.out.blk TRs_int (e ▸ hk)))
    generalize World.drew (World.drew (World.setCell _ _ (.bool true))) = w2 at HF2 HB2 HO2 ⊢
    have hnn : (be ps).length ≤ ps.length := Nat.le_trans (List.length_filterMap_le _ _) (by simp)
    have hwr : IntKind.i64.wrap (((be ps).length : Int) + 1) = ((be ps).length : Int) + 1 := IntWalk.i64_in _ ⟨by omega, by have := Hn.out.1; omega⟩
    have c257 : w2.cell? ⟨p, 257, none⟩ = some (.int .i64 ((be ps).length : Int)) := by rw [HB2.out.cell, rcs_num _ _ _ (bset_len _)]
    have g257 := HB2.out.frozen 257
    go_upto_region 7 with (fail)
    clear c257 g257 hwr
    have hbe : (be (ps ++ [⟨false, (i : Int), 0, 0, 0⟩])).length = (be ps).length + 1 := by rw [be_snoc]; simp
    have HF3 := Lib.hid (show Fr w1 (w2.setCell ⟨p, 257, none⟩ (.int .i64 (((be ps).length : Int) + 1))) (fun k => k = p) from HF2.out.trans ((Fr.refl w2 (fun k => k = p)).setCell (p := ⟨p, 257, none⟩) (fun _ => rfl) _) (fun _ _ h => h))
    have HO3 := Lib.hid (HF3.out.owns HS1.out.own (fun k' hk e => own_blk_ne HS1.out.own HS1.out.blk TRs_int (e ▸ hk)))
    have HB3 := Lib.hid (show Blk (w2.setCell ⟨p, 257, none⟩ (.int .i64 (((be ps).length : Int) + 1))) p TRs (rcs sv (bset (ps ++ [⟨false, i, 0, 0, 0⟩])) (be (ps ++ [⟨false, (i : Int), 0, 0, 0⟩])).length) from by
      have h := HB2.out.set_ 257 (.int .i64 (((be ps).length + 1 : Nat) : Int))
      rw [rcs_set_num _ _ _ _ (bset_len _)] at h
      rw [hbe]
      exact h)
    generalize World.setCell w2 _ _ = w3 at HF3 HO3 HB3 ⊢
    clear HF2 HB2 HO2 hbe hnn
    have c0 : w3.cell? ⟨p, 0, none⟩ = some sv := by rw [HB3.out.cell]; rfl
    obtain ⟨i0, hi0', hz0, hz1, hz2⟩ := info_parts info_int
    have Hbs := Lib.hid (Nat.le_trans Hn.out.2 (Nat.le_trans HG.out.size HF3.out.size))
    go_wp2_with (
      at_builtin
      go_loud (refine wpList_append_sl _ encN rfl (.tmp 42) (.tmp 43) 41 rfl base 3 i0 (.int .i64 0) 1 8 Try.underlying41 hi0' hz0 hz1 hz2 rfl (by decide) sv ps.length _ rfl (HO3.out.alloc _) (.slice (some ⟨w3.heap.size, 0, none⟩) 1 1) [1] rfl (sl_one (enc := encN) w3 1 #[.int .i64 1] rfl 3) (fun _ => rfl) encN_one (by have := Hn.out.1; simp only [maxLen, List.length_singleton]; omega) (by have := Hn.out.1; simp only [List.length_singleton]; omega) (by have := Hbs.out; simp; omega) ?_)
      intro v4 w4 hown3 hg3 hat3
      rw [← List.flatMap_append] at hown3
      obtain ⟨A3, cap3, rfl⟩ := own_formN hown3
      have HP := Lib.hid (HS1.out.push (w2 := w3) (w3 := w4) (sv' := .slice A3 (ps.length + 1) cap3) ⟨false, i, 0, 0, 0⟩ 1 HF3.out HB3.out
        (((Fr.refl w3 _).alloc _).trans hg3 (fun _ _ h => h)) hown3)
      have HB4 := Lib.hid (HB3.out.fr (((Fr.refl w3 _).alloc _).trans hg3 (fun _ _ h => h)) (own_blk_ne HO3.out HB3.out TRs_int))
      have c3 : w4.cell? ⟨p, 0, none⟩ = some sv := by rw [HB4.out.cell]; rfl
      have g3 := HB4.out.frozen 0
      clear hown3 hg3 hat3)
    go_ret
    exact ⟨by rw [He.out]; rfl, .inr ⟨He.out, (Gr.mono HG.out _).trans HP.out.2 (fun _ _ h => h), _, HP.out.1⟩⟩
end Voc
end Go.Proofs.Ytdogccgebgdlmaa

namespace Go.Proofs.Ytdogccgebgdlmaa
open Go.RowKit
namespace Voc
def hit (q x : Pc) : Bool := x.j && ((x.l == q.l && x.r == q.r) || x.k == q.k)
theorem any_hit (q : Pc) : ∀ ps : List Pc, (ps.any (sameP q) || ps.any (sameK q)) = ps.any (hit q)
  | [] => rfl
  | x :: r => by
    have ih := any_hit q r
    simp only [List.any_cons, ← ih]
    simp only [sameP, sameK, hit]
    cases x.j <;> cases (x.l == q.l && x.r == q.r) <;> cases (x.k == q.k) <;> simp
theorem RN.sizes {w : World} {base p : Nat} {ps : List Pc} {sz : List Nat} {sv : Value} (H : RN w base p ps sz sv) {i : Nat} (hi : i < ps.length) :
    ∃ g cap, sv = .slice (some ⟨g, 0, none⟩) ps.length cap ∧ ∀ m, m < ps.length → w.cell? ⟨g, m, none⟩ = some (.int .i64 (szAt sz (m : Int))) := by
  have hO := H.own
  rcases hO.2 with ⟨rfl, h0⟩ | ⟨g, cap, cur, rfl, _, _, _, _, _, _⟩
  · omega
  · refine ⟨g, cap, rfl, fun m hm => ?_⟩
    rw [hO.cellAt (g := g) (cap := cap) m (by omega)]
    have h1 := get_flatMap' encN 1 (by omega) (fun _ => rfl) sz m
    rw [h1, Nat.div_one, Nat.mod_one]
    have hm' : m < sz.length := by rw [H.len]; exact hm
    rw [List.getElem?_eq_getElem hm']
    simp [encN, szAt, hm']

set_option maxRecDepth 20000 in
set_option maxHeartbeats 4000000 in
theorem rjoin {w : World} {base p : Nat} {xs : List Pc} {sz : List Nat} {v sv : Value} (n : Nat) (b l r k : Int) (H : RN w base p (xs.take n) sz sv) (hsl : SL encP w v xs) (hq : xs[n]? = some ⟨true, b, l, r, k⟩) (hs : ∀ s ∈ sz, s ≤ 256) (hn : n < 4096) (hb : base ≤ w.heap.size) (E : Int) (hE : stepE (xs.take n) sz ⟨true, b, l, r, k⟩ = E) :
    Calls Try.prog 47 #[.pointer (some ⟨p, 0, none⟩), .agg #[v], .int .i64 (n : Int)] w fun e w' => e = .returned (.int .i64 E) ∧
      ((E ≠ 0 ∧ Gr w w') ∨ (E = 0 ∧ Fr w w' (RS p sv) ∧ ∃ sv', RN w' base p (xs.take n ++ [⟨true, b, l, r, k⟩]) (sz ++ [szAt sz l + szAt sz r]) sv')) := by
  obtain ⟨A, cap, rfl⟩ : ∃ A cap, v = .slice A xs.length cap := by obtain ⟨A, cap, h, _⟩ := hsl; exact ⟨A, cap, h⟩
  have hnx : n < xs.length := (List.getElem?_eq_some_iff.1 hq).1
  obtain ⟨ba, oa, rfl, hba, hcell⟩ := hsl.at_ (s := 5) (fun _ => rfl) rfl hnx
  have hqq : xs[n]'hnx = ⟨true, b, l, r, k⟩ := (List.getElem?_eq_some_iff.1 hq).2
  have d0 := hcell 0 (by omega)
  have d1 := hcell 1 (by omega)
  have d2 := hcell 2 (by omega)
  have d3 := hcell 3 (by omega)
  have d4 := hcell 4 (by omega)
  clear hcell
  rw [hqq] at d0 d1 d2 d3 d4
  simp [encP] at d0 d1 d2 d3 d4
  rw [← Nat.add_assoc] at d1 d2 d3 d4
  have hki : (n : Int) < xs.length := by omega
  have HS := Lib.hid H
  have HSL := Lib.hid hsl
  have Hn := Lib.hid (And.intro hn (And.intro hb (show (xs.take n).length = n by rw [List.length_take]; omega)))
  have HE := Lib.hid hE
  have Hsz := Lib.hid hs
  have Hba := Lib.hid hba
  have Hnx := Lib.hid hnx
  clear H hn hb hE hs hsl hba hqq hq
  go_enter Try.func47, Try.ntmps47
  go_upto_region 1 with (fail)
  have HB4 := Lib.hid (Blk.new w 24 #[.slice (some ⟨ba, oa, none⟩) xs.length cap])
  have HG4 := Lib.hid ((Fr.refl w NoneS).alloc (.cells #[.slice (some ⟨ba, oa, none⟩) xs.length cap] 24))
  generalize w.heap.size = q4 at HB4 ⊢
  generalize World.alloc w _ = w0 at HB4 HG4 ⊢
  replace d0 := (HG4.out.cell (p := ⟨ba, oa + n * 5, none⟩) Hba.out (fun h => h)).trans d0
  replace d1 := (HG4.out.cell (p := ⟨ba, oa + n * 5 + 1, none⟩) Hba.out (fun h => h)).trans d1
  replace d2 := (HG4.out.cell (p := ⟨ba, oa + n * 5 + 2, none⟩) Hba.out (fun h => h)).trans d2
  replace d3 := (HG4.out.cell (p := ⟨ba, oa + n * 5 + 3, none⟩) Hba.out (fun h => h)).trans d3
  replace d4 := (HG4.out.cell (p := ⟨ba, oa + n * 5 + 4, none⟩) Hba.out (fun h => h)).trans d4
  have e0 : w0.cell? ⟨q4, 0, none⟩ = some (.slice (some ⟨ba, oa, none⟩) xs.length cap) := by rw [HB4.out.cell]; rfl
  go_upto_region 2 with (fail)
  clear d0 d1 d2 d3 d4 e0
  have HB := Lib.hid (Blk.new w0 TPc #[.bool true, .int .u8 b, .int .i64 l, .int .i64 r, .int .u32 k])
  have HGx := Lib.hid ((Fr.refl w0 NoneS).alloc (.cells #[.bool true, .int .u8 b, .int .i64 l, .int .i64 r, .int .u32 k] TPc))
  have HG := Lib.hid (HG4.out.trans HGx.out (fun _ _ h => h))
  have HB4 := Lib.hid (HB4.out.fr HGx.out (fun h => h))
  have HS1 := Lib.hid (HS.out.gr HG.out)
  clear HGx HG4
  generalize w0.heap.size = q7 at HB ⊢
  generalize World.alloc w0 _ = w1 at HB HB4 HG HS1 ⊢
  have e0 : w1.cell? ⟨q4, 0, none⟩ = some (.slice (some ⟨ba, oa, none⟩) xs.length cap) := by rw [HB4.out.cell]; rfl
  have f1 : w1.cell? ⟨q7, 1, none⟩ = some (.int .u8 b) := by rw [HB.out.cell]; rfl
  have f2 : w1.cell? ⟨q7, 2, none⟩ = some (.int .i64 l) := by rw [HB.out.cell]; rfl
  have f3 : w1.cell? ⟨q7, 3, none⟩ = some (.int .i64 r) := by rw [HB.out.cell]; rfl
  have f4 : w1.cell? ⟨q7, 4, none⟩ = some (.int .u32 k) := by rw [HB.out.cell]; rfl
  by_cases hz : b = 0
  case neg =>
    have e5 : E = 5 := by rw [← HE.out]; simp [stepE, hz]
    have He5 := Lib.hid e5
    clear e5 HE
    go_wp2_with fail
    go_ret
    exact ⟨by rw [He5.out]; rfl, .inl ⟨by rw [He5.out]; decide, HG.out⟩⟩
  subst hz
  by_cases hr : l < 0 ∨ (n : Int) ≤ l ∨ r < 0 ∨ (n : Int) ≤ r
  case pos =>
    have e2 : E = 2 := by
      rw [← HE.out]
      simp only [stepE]
      rw [if_neg (by decide), if_neg (by decide), Hn.out.2.2, if_pos hr]
    have He := Lib.hid e2
    have Hr := Lib.hid hr
    clear e2 HE hr
    go_wp2_with fail
    all_goals first
      | (go_ret; exact ⟨by rw [He.out]; rfl, .inl ⟨by rw [He.out]; decide, HG.out⟩⟩)
      | (exfalso; have := Hr.out; omega)
  obtain ⟨i, rfl⟩ : ∃ i : Nat, l = i := ⟨l.toNat, by omega⟩
  obtain ⟨j, rfl⟩ : ∃ j : Nat, r = j := ⟨r.toNat, by omega⟩
  have hi : i < n := by omega
  have hj : j < n := by omega
  have e1 : E = if 256 < szAt sz i + szAt sz j then 3 else if (xs.take n).any (hit ⟨true, 0, i, j, k⟩) then 8 else 0 := by
    rw [← HE.out, ← any_hit]
    simp only [stepE]
    rw [if_neg (by decide), if_neg (by decide), Hn.out.2.2, if_neg hr]
  have HE1 := Lib.hid e1
  clear HE e1 hr
  have hx : ¬ ((n : Int) ≤ (i : Int)) := by omega
  have hy : ¬ ((n : Int) ≤ (j : Int)) := by omega
  have hx0 : ¬ ((i : Int) < 0) := by omega
  have hy0 : ¬ ((j : Int) < 0) := by omega
  go_upto_region 6 with (fail)
  obtain ⟨g, capz, hsv, hsc⟩ := HS1.out.sizes (i := i) (by rw [Hn.out.2.2]; exact hi)
  rw [Hn.out.2.2] at hsv hsc
  have c0 := HS1.out.c0
  have sa := hsc i hi
  have sb := hsc j hj
  have Hij := Lib.hid (And.intro hi hj)
  have Haw := Lib.hid (ra (szAt_le Hsz.out (i : Int)) (szAt_le Hsz.out (j : Int)))
  clear hsc
  generalize hA : szAt sz (i : Int) = A at HE1 sa Haw ⊢
  generalize hB : szAt sz (j : Int) = B at HE1 sb Haw ⊢
  have HAB := Lib.hid (And.intro hA hB)
  clear hA hB
  have c0' : w1.cell? ⟨p, 0, none⟩ = some (.slice (some ⟨g, 0, none⟩) n capz) := by rw [c0, hsv]
  have haw := Haw.out
  refine wp_region_held_drew (S := fun wx => wx.cell? ⟨p, 0, none⟩ = some (.slice (some ⟨g, 0, none⟩) n capz) ∧ wx.cell? ⟨q7, 2, none⟩ = some (.int .i64 (i : Int)) ∧ wx.cell? ⟨q7, 3, none⟩ = some (.int .i64 (j : Int)) ∧ wx.cell? ⟨g, i, none⟩ = some (.int .i64 (A : Int)) ∧ wx.cell? ⟨g, j, none⟩ = some (.int .i64 (B : Int))) (by kernel_rfl) ⟨c0', f2, f3, sa, sb⟩ (fun hHeld => ?_)
  refine wpAnyH_take (i := 0) (v := (.pointer (some ⟨p, 0, none⟩))) rfl (by kernel_rfl) (by kernel_rfl) (by kernel_rfl) (fun _ _ _ h => h) (Or.inl ⟨by kernel_rfl, ?_⟩) (by with_reducible assumption) ?_
  focus (intro w hSw; (try dsimp only at hSw); go_simp)
  try simp only [Act.put, List.getElem_toArray, List.getElem_cons_succ, List.getElem_cons_zero, List.setIfInBounds_toArray, List.set_cons_zero, List.set_cons_succ]
  refine wpAnyH_take (i := 1) (v := (.pointer (some ⟨p, 0, none⟩))) rfl (by kernel_rfl) (by kernel_rfl) (by kernel_rfl) (fun _ _ _ h => h) (Or.inl ⟨by kernel_rfl, ?_⟩) (by with_reducible assumption) ?_
  focus (intro w hSw; (try dsimp only at hSw); go_simp)
  try simp only [Act.put, List.getElem_toArray, List.getElem_cons_succ, List.getElem_cons_zero, List.setIfInBounds_toArray, List.set_cons_zero, List.set_cons_succ]
  refine wpAnyH_take (i := 2) (v := (.pointer (some ⟨p, 0, none⟩))) rfl (by kernel_rfl) (by kernel_rfl) (by kernel_rfl) (fun _ _ _ h => h) (Or.inl ⟨by kernel_rfl, ?_⟩) (by with_reducible assumption) ?_
  focus (intro w hSw; (try dsimp only at hSw); go_simp)
  try simp only [Act.put, List.getElem_toArray, List.getElem_cons_succ, List.getElem_cons_zero, List.setIfInBounds_toArray, List.set_cons_zero, List.set_cons_succ]
  refine wpAnyH_take (i := 3) (v := (.slice (some ⟨g, 0, none⟩) n capz)) rfl (by kernel_rfl) (by kernel_rfl) (by kernel_rfl) (fun _ _ _ h => h) (Or.inl ⟨by kernel_rfl, ?_⟩) (by with_reducible assumption) ?_
  focus (intro w hSw; (try dsimp only at hSw); go_simp)
  try simp only [Act.put, List.getElem_toArray, List.getElem_cons_succ, List.getElem_cons_zero, List.setIfInBounds_toArray, List.set_cons_zero, List.set_cons_succ]
  refine wpAnyH_take (i := 4) (v := (.pointer (some ⟨q7, 2, none⟩))) rfl (by kernel_rfl) (by kernel_rfl) (by kernel_rfl) (fun _ _ _ h => h) (Or.inl ⟨by kernel_rfl, ?_⟩) (by with_reducible assumption) ?_
  focus (intro w hSw; (try dsimp only at hSw); go_simp)
  try simp only [Act.put, List.getElem_toArray, List.getElem_cons_succ, List.getElem_cons_zero, List.setIfInBounds_toArray, List.set_cons_zero, List.set_cons_succ]
  refine wpAnyH_take (i := 5) (v := (.int .i64 (i : Int))) rfl (by kernel_rfl) (by kernel_rfl) (by kernel_rfl) (fun _ _ _ h => h) (Or.inl ⟨by kernel_rfl, ?_⟩) (by with_reducible assumption) ?_
  focus (intro w hSw; (try dsimp only at hSw); go_simp)
  try simp only [Act.put, List.getElem_toArray, List.getElem_cons_succ, List.getElem_cons_zero, List.setIfInBounds_toArray, List.set_cons_zero, List.set_cons_succ]
  refine wpAnyH_take (i := 6) (v := (.pointer (some ⟨g, i, none⟩))) rfl (by kernel_rfl) (by kernel_rfl) (by kernel_rfl) (fun _ _ _ h => h) (Or.inl ⟨by kernel_rfl, ?_⟩) (by with_reducible assumption) ?_
  focus (intro w hSw; (try dsimp only at hSw); go_simp)
  try simp only [Act.put, List.getElem_toArray, List.getElem_cons_succ, List.getElem_cons_zero, List.setIfInBounds_toArray, List.set_cons_zero, List.set_cons_succ]
  refine wpAnyH_take (i := 7) (v := (.int .i64 (A : Int))) rfl (by kernel_rfl) (by kernel_rfl) (by kernel_rfl) (fun _ _ _ h => h) (Or.inl ⟨by kernel_rfl, ?_⟩) (by with_reducible assumption) ?_
  focus (intro w hSw; (try dsimp only at hSw); go_simp)
  try simp only [Act.put, List.getElem_toArray, List.getElem_cons_succ, List.getElem_cons_zero, List.setIfInBounds_toArray, List.set_cons_zero, List.set_cons_succ]
  refine wpAnyH_take (i := 8) (v := (.pointer (some ⟨p, 0, none⟩))) rfl (by kernel_rfl) (by kernel_rfl) (by kernel_rfl) (fun _ _ _ h => h) (Or.inl ⟨by kernel_rfl, ?_⟩) (by with_reducible assumption) ?_
  focus (intro w hSw; (try dsimp only at hSw); go_simp)
  try simp only [Act.put, List.getElem_toArray, List.getElem_cons_succ, List.getElem_cons_zero, List.setIfInBounds_toArray, List.set_cons_zero, List.set_cons_succ]
  refine wpAnyH_take (i := 9) (v := (.pointer (some ⟨p, 0, none⟩))) rfl (by kernel_rfl) (by kernel_rfl) (by kernel_rfl) (fun _ _ _ h => h) (Or.inl ⟨by kernel_rfl, ?_⟩) (by with_reducible assumption) ?_
  focus (intro w hSw; (try dsimp only at hSw); go_simp)
  try simp only [Act.put, List.getElem_toArray, List.getElem_cons_succ, List.getElem_cons_zero, List.setIfInBounds_toArray, List.set_cons_zero, List.set_cons_succ]
  refine wpAnyH_take (i := 10) (v := (.pointer (some ⟨p, 0, none⟩))) rfl (by kernel_rfl) (by kernel_rfl) (by kernel_rfl) (fun _ _ _ h => h) (Or.inl ⟨by kernel_rfl, ?_⟩) (by with_reducible assumption) ?_
  focus (intro w hSw; (try dsimp only at hSw); go_simp)
  try simp only [Act.put, List.getElem_toArray, List.getElem_cons_succ, List.getElem_cons_zero, List.setIfInBounds_toArray, List.set_cons_zero, List.set_cons_succ]
  refine wpAnyH_take (i := 11) (v := (.slice (some ⟨g, 0, none⟩) n capz)) rfl (by kernel_rfl) (by kernel_rfl) (by kernel_rfl) (fun _ _ _ h => h) (Or.inl ⟨by kernel_rfl, ?_⟩) (by with_reducible assumption) ?_
  focus (intro w hSw; (try dsimp only at hSw); go_simp)
  try simp only [Act.put, List.getElem_toArray, List.getElem_cons_succ, List.getElem_cons_zero, List.setIfInBounds_toArray, List.set_cons_zero, List.set_cons_succ]
  refine wpAnyH_take (i := 12) (v := (.pointer (some ⟨q7, 3, none⟩))) rfl (by kernel_rfl) (by kernel_rfl) (by kernel_rfl) (fun _ _ _ h => h) (Or.inl ⟨by kernel_rfl, ?_⟩) (by with_reducible assumption) ?_
  focus (intro w hSw; (try dsimp only at hSw); go_simp)
  try simp only [Act.put, List.getElem_toArray, List.getElem_cons_succ, List.getElem_cons_zero, List.setIfInBounds_toArray, List.set_cons_zero, List.set_cons_succ]
  refine wpAnyH_take (i := 13) (v := (.int .i64 (j : Int))) rfl (by kernel_rfl) (by kernel_rfl) (by kernel_rfl) (fun _ _ _ h => h) (Or.inl ⟨by kernel_rfl, ?_⟩) (by with_reducible assumption) ?_
  focus (intro w hSw; (try dsimp only at hSw); go_simp)
  try simp only [Act.put, List.getElem_toArray, List.getElem_cons_succ, List.getElem_cons_zero, List.setIfInBounds_toArray, List.set_cons_zero, List.set_cons_succ]
  refine wpAnyH_take (i := 14) (v := (.pointer (some ⟨g, j, none⟩))) rfl (by kernel_rfl) (by kernel_rfl) (by kernel_rfl) (fun _ _ _ h => h) (Or.inl ⟨by kernel_rfl, ?_⟩) (by with_reducible assumption) ?_
  focus (intro w hSw; (try dsimp only at hSw); go_simp)
  try simp only [Act.put, List.getElem_toArray, List.getElem_cons_succ, List.getElem_cons_zero, List.setIfInBounds_toArray, List.set_cons_zero, List.set_cons_succ]
  refine wpAnyH_take (i := 15) (v := (.int .i64 (B : Int))) rfl (by kernel_rfl) (by kernel_rfl) (by kernel_rfl) (fun _ _ _ h => h) (Or.inl ⟨by kernel_rfl, ?_⟩) (by with_reducible assumption) ?_
  focus (intro w hSw; (try dsimp only at hSw); go_simp)
  try simp only [Act.put, List.getElem_toArray, List.getElem_cons_succ, List.getElem_cons_zero, List.setIfInBounds_toArray, List.set_cons_zero, List.set_cons_succ]
  refine wpAnyH_take (i := 16) (v := (.int .i64 ((A : Int) + (B : Int)))) rfl (by kernel_rfl) (by kernel_rfl) (by kernel_rfl) (fun _ _ _ h => h) (Or.inl ⟨by kernel_rfl, ?_⟩) (by with_reducible assumption) ?_
  focus (intro w hSw; (try dsimp only at hSw); go_simp)
  try simp only [Act.put, List.getElem_toArray, List.getElem_cons_succ, List.getElem_cons_zero, List.setIfInBounds_toArray, List.set_cons_zero, List.set_cons_succ]
  refine wpAnyH_take (i := 17) (v := (.int .i64 ((A : Int) + (B : Int)))) rfl (by kernel_rfl) (by kernel_rfl) (by kernel_rfl) (fun _ _ _ h => h) (Or.inl ⟨by kernel_rfl, ?_⟩) (by with_reducible assumption) ?_
  focus (intro w hSw; (try dsimp only at hSw); go_simp)
  try simp only [Act.put, List.getElem_toArray, List.getElem_cons_succ, List.getElem_cons_zero, List.setIfInBounds_toArray, List.set_cons_zero, List.set_cons_succ]
  refine wpAnyH_done (by kernel_rfl) ?_ _
  have Hsv := Lib.hid hsv
  clear hHeld c0' sa sb haw hsv hi hj hx hy hx0 hy0 c0
  by_cases h3 : 256 < A + B
  case pos =>
    have h3' : (256 : Int) < (A : Int) + (B : Int) := by omega
    have e3 : E = 3 := by rw [HE1.out, if_pos h3]
    have He := Lib.hid e3
    clear e3 h3
    go_wp2_with fail
    go_ret
    exact ⟨by rw [He.out]; rfl, .inl ⟨by rw [He.out]; decide, HG.out.drew⟩⟩
  have h3' : ¬ (256 : Int) < (A : Int) + (B : Int) := by omega
  have e1 : E = if (xs.take n).any (hit ⟨true, 0, i, j, k⟩) then 8 else 0 := by rw [HE1.out, if_neg h3]
  have HE := Lib.hid e1
  clear HE1 e1 h3
  go_upto_block 0 with (fail)
  have HGd := Lib.hid ((Fr.refl w1 NoneS).drew)
  have HSd := Lib.hid (HS1.out.gr HGd.out)
  go_cut [] (fun wx => Hid (Gr w1 wx ∧ (xs.take n).any (hit ⟨true, 0, i, j, k⟩) = false))
  case first =>
    go_wp2_with fail
    go_loopg [9] (n + 1) (fun m s9 wr => ∃ kk : Nat, s9 = .int .i64 kk ∧ Hid (kk ≤ n ∧ n - kk < m) ∧ Hid (Gr w1 wr ∧ (xs.take kk).any (hit ⟨true, 0, i, j, k⟩) = false))
    case atStart => exact ⟨0, rfl, ⟨Nat.zero_le _, by omega⟩, HGd.out, rfl⟩
    case round =>
      obtain ⟨kk, rfl, HK, HP⟩ := hrel
      have a0 : wr.cell? ⟨q4, 0, none⟩ = some (.slice (some ⟨ba, oa, none⟩) xs.length cap) := (HP.out.1.cell (p := ⟨q4, 0, none⟩) HB4.out.lt (fun h => h)).trans e0
      by_cases hk : kk < n
      · have hkx : kk < xs.length := by have := Hnx.out; omega
        have HSLr := Lib.hid ((HSL.out.gr HG.out).gr HP.out.1)
        obtain ⟨b9, o9, hA9, hb9, hcell⟩ := HSLr.out.at_ (s := 5) (fun _ => rfl) rfl hkx
        injection hA9 with hA9
        injection hA9 with hA9 hO9
        subst hA9 hO9
        have d0 := hcell 0 (by omega)
        have d1 := hcell 1 (by omega)
        have d2 := hcell 2 (by omega)
        have d3 := hcell 3 (by omega)
        have d4 := hcell 4 (by omega)
        clear hcell
        simp [encP] at d0 d1 d2 d3 d4
        rw [← Nat.add_assoc] at d1 d2 d3 d4
        have Hxk := Lib.hid (show xs.take (kk + 1) = xs.take kk ++ [xs[kk]'hkx] from by rw [List.take_add_one, List.getElem?_eq_getElem hkx]; rfl)
        generalize xs[kk]'hkx = q at d0 d1 d2 d3 d4 Hxk
        obtain ⟨jj, bb, ll, rr, rk⟩ := q
        simp only at d0 d1 d2 d3 d4
        have hki' : (kk : Int) < xs.length := by omega
        have hki2 : (kk : Int) < n := by omega
        go_upto_region 13 with (fail)
        have HGa := Lib.hid (HP.out.1.alloc (.cells #[.bool jj, .int .u8 bb, .int .i64 ll, .int .i64 rr, .int .u32 rk] TPc))
        have HBa := Lib.hid (Blk.new wr TPc #[.bool jj, .int .u8 bb, .int .i64 ll, .int .i64 rr, .int .u32 rk])
        generalize wr.alloc (.cells #[.bool jj, .int .u8 bb, .int .i64 ll, .int .i64 rr, .int .u32 rk] TPc) = wa at HGa HBa ⊢
        generalize wr.heap.size = ob at HBa ⊢
        clear d0 d1 d2 d3 d4 a0 e0 f1 f2 f3 f4
        have g0 : wa.cell? ⟨ob, 0, none⟩ = some (.bool jj) := by rw [HBa.out.cell]; rfl
        have g2 : wa.cell? ⟨ob, 2, none⟩ = some (.int .i64 ll) := by rw [HBa.out.cell]; rfl
        have g3 : wa.cell? ⟨ob, 3, none⟩ = some (.int .i64 rr) := by rw [HBa.out.cell]; rfl
        have g4 : wa.cell? ⟨ob, 4, none⟩ = some (.int .u32 rk) := by rw [HBa.out.cell]; rfl
        have HB7 := Lib.hid (HB.out.fr HGa.out (fun h => h))
        have f2 : wa.cell? ⟨q7, 2, none⟩ = some (.int .i64 (i : Int)) := by rw [HB7.out.cell]; rfl
        have f3 : wa.cell? ⟨q7, 3, none⟩ = some (.int .i64 (j : Int)) := by rw [HB7.out.cell]; rfl
        have f4 : wa.cell? ⟨q7, 4, none⟩ = some (.int .u32 k) := by rw [HB7.out.cell]; rfl
        have Hkk := Lib.hid hk
        clear hk hkx hki' hki2 h3'
        by_cases hh : hit ⟨true, 0, i, j, k⟩ ⟨jj, bb, ll, rr, rk⟩ = true
        · have e8 : E = 8 := by
            rw [HE.out, if_pos]
            rw [List.any_eq_true]
            exact ⟨⟨jj, bb, ll, rr, rk⟩, List.mem_of_mem_take (i := kk + 1) (by rw [List.take_take, Nat.min_eq_left (by have := Hkk.out; omega), Hxk.out]; simp), hh⟩
          have He := Lib.hid e8
          have Hh := Lib.hid (show jj = true ∧ ((ll = (i : Int) ∧ rr = (j : Int)) ∨ rk = k) from by simpa [hit] using hh)
          clear e8 hh HE
          obtain ⟨rfl, hor⟩ := Hh.out
          by_cases h1 : ll = (i : Int) <;> by_cases h2 : rr = (j : Int) <;> by_cases h3 : rk = k <;> (try (exfalso; simp [h1, h2, h3] at hor; done)) <;> clear hor Hh <;> (try subst h1) <;> (try subst h2) <;> (try subst h3) <;> (go_wp2_with fail) <;> (go_ret) <;> exact ⟨by rw [He.out]; rfl, .inl ⟨by rw [He.out]; decide, HG.out.trans HGa.out (fun _ _ h => h)⟩⟩
        · have HR := Lib.hid (show (xs.take (kk + 1)).any (hit ⟨true, 0, i, j, k⟩) = false from by
            rw [Hxk.out, List.any_append, HP.out.2]; simp at hh; simp [hh])
          have Hh := Lib.hid (show jj = true → (ll = (i : Int) → ¬ rr = (j : Int)) ∧ ¬ rk = k from by
            intro h; subst h; simpa [hit] using hh)
          clear hh HE
          have hwk : IntKind.i64.wrap ((kk : Int) + 1) = (kk : Int) + 1 := IntWalk.i64_in _ ⟨by omega, by have := Hkk.out; have := Hn.out.1; omega⟩
          have HRel := Lib.hid (show ∃ k' : Nat, Value.int .i64 ((kk : Int) + 1) = Value.int .i64 (k' : Int) ∧ Hid (k' ≤ n ∧ n - k' < gk - 1) ∧ Hid (Gr w1 wa ∧ (xs.take k').any (hit ⟨true, 0, i, j, k⟩) = false) from
            ⟨kk + 1, by simp, ⟨by have := Hkk.out; omega, by have := HK.out; have := Hkk.out; omega⟩, HGa.out, HR.out⟩)
          cases jj with
          | false =>
            clear Hh
            go_wp2_with fail
            go_roundg (gk - 1)
            case measure => have := HK.out; omega
            case rel => exact HRel.out
          | true =>
            obtain ⟨hor, hnk⟩ := Hh.out rfl
            clear Hh
            by_cases h1 : ll = (i : Int)
            · have h2 : ¬ rr = (j : Int) := hor h1
              have H2 := Lib.hid (And.intro h2 hnk)
              clear hor
              subst h1
              have hb2 : (rr == (j : Int)) = false := by rw [beq_eq_false_iff_ne]; exact h2
              have hbk : (rk == k) = false := by rw [beq_eq_false_iff_ne]; exact hnk
              go_wp2_with fail
              all_goals first
                | (exfalso; have := H2.out; omega)
                | (go_roundg (gk - 1); (case measure => have := HK.out; omega); (case rel => exact HRel.out))
            · have H2 := Lib.hid (And.intro h1 hnk)
              clear hor
              have hb2 : (ll == (i : Int)) = false := by rw [beq_eq_false_iff_ne]; exact h1
              have hbk : (rk == k) = false := by rw [beq_eq_false_iff_ne]; exact hnk
              go_wp2_with fail
              all_goals first
                | (exfalso; have := H2.out; omega)
                | (go_roundg (gk - 1); (case measure => have := HK.out; omega); (case rel => exact HRel.out))
      · obtain rfl : kk = n := by have := HK.out; omega
        clear f1 f2 f3 f4 a0 e0 h3'
        go_wp2_with fail
        go_meet
        exact HP.out
  case rest =>
  obtain ⟨hgr, hno⟩ := hcut.out
  have e0' : E = 0 := by rw [HE.out, hno]; rfl
  have He := Lib.hid e0'
  have HP := Lib.hid hgr
  have HG' := Lib.hid (HG.out.trans hgr (fun _ _ h => h))
  have HS2 := Lib.hid (HS1.out.gr hgr)
  clear HE e0' hno hgr hcut e0 f1 f2 f3 f4 h3'
  have c0 := HS2.out.c0
  have HB2 := HS2.out.blk
  obtain ⟨i0, hi0, hz0, hz1, hz2⟩ := info_parts info_int
  have Hbs := Lib.hid (Nat.le_trans Hn.out.2.1 HG'.out.size)
  have HO2 := Lib.hid (show _ from HS2.out.own)
  rw [Hn.out.2.2] at HO2
  go_wp2_with (
    at_builtin
    go_loud (refine wpList_append_sl _ encN rfl (.tmp 95) (.tmp 97) 41 rfl base 3 i0 (.int .i64 0) 1 8 Try.underlying41 hi0 hz0 hz1 hz2 rfl (by decide) sv n _ rfl (HO2.out.alloc _) (.slice (some ⟨_, 0, none⟩) 1 1) [A + B] rfl (sl_one (enc := encN) _ (A + B) #[.int .i64 ((A : Int) + (B : Int))] rfl 3) (fun _ => rfl) encN_one (by have := Hn.out.1; simp only [maxLen, List.length_singleton]; omega) (by have := Hn.out.1; simp only [List.length_singleton]; omega) (by have := Hbs.out; simp; omega) ?_)
    intro v4 w4 hown3 hg3 hat3
    rw [← List.flatMap_append] at hown3
    obtain ⟨A3, cap3, rfl⟩ := own_formN hown3
    have HQ := Lib.hid (HS2.out.push (w3 := w4) (sv' := .slice A3 (n + 1) cap3) ⟨true, 0, i, j, k⟩ (A + B) (Fr.refl _ _)
      (by rw [bset_snoc_join _ _ rfl, be_snoc, if_pos rfl, List.append_nil]; exact HS2.out.blk)
      (((Fr.refl _ _).alloc _).trans hg3 (fun _ _ h => h)) (by rw [Hn.out.2.2]; exact hown3))
    have HB4' := Lib.hid (HS2.out.blk.fr (((Fr.refl _ _).alloc _).trans hg3 (fun _ _ h => h)) (own_blk_ne HS2.out.own HS2.out.blk TRs_int))
    have c3 : w4.cell? ⟨p, 0, none⟩ = some sv := by rw [HB4'.out.cell]; rfl
    have g3 := HB4'.out.frozen 0
    clear hown3 hg3 hat3)
  go_ret
  exact ⟨by rw [He.out]; rfl, .inr ⟨He.out, (Gr.mono HG'.out _).trans HQ.out.2 (fun _ _ h => h), _, by rw [HAB.out.1, HAB.out.2]; exact HQ.out.1⟩⟩
end Voc
end Go.Proofs.Ytdogccgebgdlmaa

namespace Go.Proofs.Ytdogccgebgdlmaa
open Go.RowKit
namespace Voc
theorem wpList_build_to {P : Program} {ops : Array Oper} {rest : List Oper} {o : Oper} {a : Act} {w : World} {Q : Exit → Act → World → Prop} (hg : o.guard = none) (t : TypeId) (parts : Array (Nat × Operand)) (ho : o.op = .build t parts)
    (cells : Array Value) (hf : P.built t (parts.map fun (i, x) => (i, a.eval x)).toList = some cells)
    (h : wpList P ops Q rest (a.put o.dst (.agg cells)) w) : wpList P ops Q (o :: rest) a w :=
  wpList_build hg t parts ho (by rw [hf]; rfl) (by rw [hf]; exact h)
def Z82 : Array Value := rcs (.slice none 0 0) (bset []) (be []).length
structure RK (w wr : World) (q1 p : Nat) (v sv : Value) (xs : List Pc) (k : Nat) (sz : List Nat) : Prop where
  gr : Gr w wr
  blk : Blk wr q1 24 #[v]
  sn : RN wr (w.heap.size + 1) p (xs.take k) sz sv
  bad : badF [] [] xs = badF (xs.take k) sz (xs.drop k)
  szs : szF [] xs = szF sz (xs.drop k)
  le : ∀ s ∈ sz, s ≤ 256
theorem RK.next {w wa w3 : World} {q1 p k : Nat} {v sv sv' : Value} {xs : List Pc} {sz : List Nat} {q : Pc} (H : RK w wa q1 p v sv xs k sz) (hq : w.heap.size = q1) (h1 : xs.take (k + 1) = xs.take k ++ [q]) (h2 : xs.drop k = q :: xs.drop (k + 1))
    (h0 : stepE (xs.take k) sz q = 0) (hf : Fr wa w3 (RS p sv)) (hs : RN w3 (w.heap.size + 1) p (xs.take k ++ [q]) (sz ++ [stepS sz q]) sv') : RK w w3 q1 p v sv' xs (k + 1) (sz ++ [stepS sz q]) := by
  have hlo : ∀ i, RS p sv i → w.heap.size + 1 ≤ i := by
    rintro i (rfl | h)
    · exact H.sn.bs
    · exact (H.sn.own.lt i h).1
  refine ⟨H.gr.trans hf (fun i hi h => by have := hlo i h; omega), H.blk.fr hf (fun h => by have := hlo _ h; omega), h1 ▸ hs, ?_, ?_, ?_⟩
  · rw [H.bad, h2, h1]; simp [badF, h0]
  · rw [H.szs, h2]; rfl
  · intro s hs'
    rcases List.mem_append.1 hs' with h | h
    · exact H.le s h
    · simp at h; subst h; exact stepS_le h0
theorem RK.stop {w wa : World} {q1 p k : Nat} {v sv : Value} {xs : List Pc} {sz : List Nat} {q : Pc} (H : RK w wa q1 p v sv xs k sz) (hk : k < xs.length) (h4 : ¬ 4096 < xs.length) (h2 : xs.drop k = q :: xs.drop (k + 1))
    (h0 : stepE (xs.take k) sz q ≠ 0) : checkE xs = (stepE (xs.take k) sz q, k) := by
  have : badF [] [] xs = some (stepE (xs.take k) sz q, k) := by
    rw [H.bad, h2]
    simp only [badF, if_neg h0]
    rw [List.length_take, Nat.min_eq_left (by omega)]
  simp only [checkE, if_neg h4, this]
theorem RK.done {w wa : World} {q1 p : Nat} {v sv : Value} {xs : List Pc} {sz : List Nat} (H : RK w wa q1 p v sv xs xs.length sz) (h4 : ¬ 4096 < xs.length) :
    (checkE xs = if (be xs).length < 256 then (7, xs.length) else (0, 0)) ∧ szF [] xs = sz ∧ RN wa (w.heap.size + 1) p xs sz sv := by
  have h1 := H.bad
  have h2 := H.szs
  have h3 := H.sn
  rw [List.drop_length] at h1 h2
  rw [List.take_length] at h3
  refine ⟨?_, h2, h3⟩
  simp only [checkE, if_neg h4, h1, badF]

set_option maxRecDepth 20000 in
set_option maxHeartbeats 4000000 in
theorem rsizes_any {w : World} {v : Value} {xs : List Pc} (HS : SL encP w v xs) (hw : ∀ q ∈ xs, wfP q) (hl : xs.length ≤ 1048576) (E : Int) (at_ : Nat) (hE : checkE xs = (E, at_)) :
    Calls Try.prog 37 #[.agg #[v]] w fun e w' => Gr w w' ∧ ((E ≠ 0 ∧ e = .returned (.tuple #[.slice none 0 0, .int .i64 E, .int .i64 at_])) ∨
      (E = 0 ∧ at_ = 0 ∧ ∃ sv, e = .returned (.tuple #[sv, .int .i64 0, .int .i64 0]) ∧ w'.ownsRow (w.heap.size + 1) 3 1 sv xs.length ((szF [] xs).flatMap encN))) := by
  obtain ⟨A, cap, rfl⟩ : ∃ A cap, v = .slice A xs.length cap := by obtain ⟨A, cap, h, _⟩ := HS; exact ⟨A, cap, h⟩
  have HS1 := Lib.hid HS
  have HW := Lib.hid hw
  have HL := Lib.hid hl
  have HE := Lib.hid hE
  clear hw hE hl HS
  by_cases h4 : 4096 < xs.length
  case pos =>
    have h4' : (4096 : Int) < (xs.length : Int) := by omega
    have he := HE.out
    simp only [checkE, if_pos h4] at he
    injection he with e1 e2
    have He := Lib.hid (And.intro e1 e2)
    clear e1 e2 h4
    go_enter Try.func37, Try.ntmps37
    go_wp2_with fail
    go_ret3
    exact ⟨(Fr.refl w _).alloc _, .inl ⟨by rw [← He.out.1]; decide, by rw [← He.out.1, ← He.out.2]; rfl⟩⟩
  have h4' : ¬ (4096 : Int) < (xs.length : Int) := by omega
  go_enter Try.func37, Try.ntmps37
  clear h4
  go_upto_region 4 with (refine wpList_build_to rfl TRs _ rfl Z82 (by kernel_rfl) ?_)
  have HP0 := Lib.hid (show RK w ((w.alloc (.cells #[.slice A xs.length cap] 24)).alloc (.cells Z82 TRs)) w.heap.size (w.heap.size + 1) (.slice A xs.length cap) (.slice none 0 0) xs 0 [] from by
    generalize hb1 : World.alloc w (.cells #[.slice A xs.length cap] 24) = w1
    have hB := Blk.new w 24 #[.slice A xs.length cap]
    have hG := (Fr.refl w NoneS).alloc (.cells #[.slice A xs.length cap] 24)
    have hs : w1.heap.size = w.heap.size + 1 := by rw [← hb1]; simp
    rw [hb1] at hB hG
    have bp := Blk.new w1 TRs Z82
    rw [hs] at bp
    exact ⟨hG.alloc _, hB.alloc _, ⟨Nat.le_refl _, bp, by simpa using World.ownsRow_nil _ _ _ _, rfl⟩, rfl, rfl, (fun _ h => by cases h)⟩)
  generalize World.alloc (World.alloc _ _) (.cells Z82 _) = w5 at HP0 ⊢
  obtain ⟨q1, hq1⟩ : ∃ q, w.heap.size = q := ⟨_, rfl⟩
  rw [hq1] at HP0 ⊢
  obtain ⟨p, hp⟩ : ∃ q, q1 + 1 = q := ⟨_, rfl⟩
  rw [hp] at HP0 ⊢
  have Hq1 := Lib.hid hq1
  clear hq1 hp
  go_wp2_with fail
  go_loopg [6] (xs.length + 1) (fun m s6 wr => ∃ (k : Nat) (sz : List Nat) (sv : Value), s6 = .int .i64 k ∧ Hid (k ≤ xs.length ∧ xs.length - k < m) ∧ Hid (RK w wr q1 p (.slice A xs.length cap) sv xs k sz))
  case atStart => exact ⟨0, [], _, rfl, ⟨Nat.zero_le _, by omega⟩, HP0.out⟩
  case round =>
    obtain ⟨k, sz, sv, rfl, HK, HP⟩ := hrel
    clear HP0
    have fq : wr.cell? ⟨q1, 0, none⟩ = some (.slice A xs.length cap) := by rw [HP.out.blk.cell]; rfl
    by_cases hk : k < xs.length
    · have HSLr := Lib.hid (HS1.out.gr HP.out.gr)
      obtain ⟨ba, oa, hA9, hba, hcell⟩ := HSLr.out.at_ (s := 5) (fun _ => rfl) rfl hk
      subst hA9
      have d0 := hcell 0 (by omega)
      have d1 := hcell 1 (by omega)
      have d2 := hcell 2 (by omega)
      have d3 := hcell 3 (by omega)
      have d4 := hcell 4 (by omega)
      clear hcell
      simp [encP] at d0 d1 d2 d3 d4
      rw [← Nat.add_assoc] at d1 d2 d3 d4
      have Hk := Lib.hid hk
      have Hxk := Lib.hid (show xs.take (k + 1) = xs.take k ++ [xs[k]'hk] ∧ xs.drop k = xs[k]'hk :: xs.drop (k + 1) from ⟨by rw [List.take_add_one, List.getElem?_eq_getElem hk]; rfl, List.drop_eq_getElem_cons hk⟩)
      have Hwf := Lib.hid (HW.out _ (List.getElem_mem hk))
      have Hget := Lib.hid (show xs[k]? = some (xs[k]'hk) from List.getElem?_eq_getElem hk)
      generalize xs[k]'hk = q at d0 d1 d2 d3 d4 Hxk Hwf Hget
      obtain ⟨jj, bb, ll, rr, kk⟩ := q
      simp only at d0 d1 d2 d3 d4
      have hki : (k : Int) < xs.length := by omega
      have hlk : (xs.take k).length = k := by rw [List.length_take]; omega
      have hwk : IntKind.i64.wrap ((k : Int) + 1) = (k : Int) + 1 := IntWalk.i64_in _ ⟨by omega, by omega⟩
      obtain ⟨ev, hev⟩ : ∃ e, e = stepE (xs.take k) sz ⟨jj, bb, ll, rr, kk⟩ := ⟨_, rfl⟩
      have Hev := Lib.hid hev
      have hbs : w.heap.size + 1 ≤ wr.heap.size := by have := HP.out.blk.lt; have := Hq1.out; omega
      have HC : Hid (∀ w' : World, ((ev ≠ 0 ∧ Gr wr w') ∨ (ev = 0 ∧ Fr wr w' (RS p sv) ∧ ∃ sv', RN w' (w.heap.size + 1) p (xs.take k ++ [⟨jj, bb, ll, rr, kk⟩]) (sz ++ [stepS sz ⟨jj, bb, ll, rr, kk⟩]) sv')) →
          (ev ≠ 0 ∧ Gr w w' ∧ E ≠ 0 ∧ E = ev ∧ at_ = k) ∨ (ev = 0 ∧ ∃ k' : Nat, Value.int .i64 ((k : Int) + 1) = Value.int .i64 (k' : Int) ∧ ∃ (sz' : List Nat) (sv' : Value), Hid (k' ≤ xs.length ∧ xs.length - k' < gk - 1) ∧ Hid (RK w w' q1 p (.slice (some ⟨ba, oa, none⟩) xs.length cap) sv' xs k' sz'))) := by
        intro w' h
        rcases h with ⟨h0, hg⟩ | ⟨h0, hf, sv', hs⟩
        · have h1 := HP.out.stop Hk.out (by omega) Hxk.out.2 (by rw [← Hev.out]; exact h0)
          rw [HE.out, ← Hev.out] at h1
          injection h1 with h1 h2
          exact .inl ⟨h0, HP.out.gr.trans hg (fun _ _ h => h), by rw [h1]; exact h0, h1, h2⟩
        · refine .inr ⟨h0, k + 1, by simp, _, sv', ⟨by omega, by have := HK.out; omega⟩, HP.out.next Hq1.out Hxk.out.1 Hxk.out.2 (by rw [← Hev.out]; exact h0) hf hs⟩
      cases jj with
      | false =>
        obtain ⟨bi, rfl⟩ : ∃ i : Nat, bb = i := ⟨bb.toNat, by have h := Hwf.out.1; have h0 : IntKind.u8.min = 0 := rfl; have h1 : IntKind.u8.max = 255 := rfl; simp [Lit.wf] at h; omega⟩
        have Ht := rbyte bi ll rr kk HP.out.sn (by have h := Hwf.out.1; have h0 : IntKind.u8.min = 0 := rfl; have h1 : IntKind.u8.max = 255 := rfl; simp [Lit.wf] at h; omega) (by omega) hbs ev hev.symm
        have HT := Lib.hid Ht
        clear Ht hev hlk hbs
        by_cases h0 : ev = 0
        · subst h0
          go_wp2_with (go_at_call 48; refine HT.out.mono ?_; rintro e w3 ⟨rfl, hc⟩; have HD := Lib.hid (HC.out w3 hc); clear hc)
          rcases HD.out with ⟨h, _⟩ | ⟨_, k', he, sz', sv', h1, h2⟩
          · exact absurd rfl h
          · go_roundg (gk - 1)
            case measure => have := HK.out; omega
            case rel => exact ⟨k', sz', sv', he, h1, h2⟩
        · have H0 := Lib.hid h0
          go_wp2_with (go_at_call 48; refine HT.out.mono ?_; rintro e w3 ⟨rfl, hc⟩; have HD := Lib.hid (HC.out w3 hc); clear hc)
          go_ret3
          rcases HD.out with ⟨_, hg, hE0, hE1, hE2⟩ | ⟨h, _⟩
          · exact ⟨hg, .inl ⟨hE0, by rw [hE1, hE2]; rfl⟩⟩
          · exact absurd h H0.out
      | true =>
        have Ht := rjoin k bb ll rr kk HP.out.sn HSLr.out Hget.out HP.out.le (by omega) hbs ev hev.symm
        have HT := Lib.hid Ht
        clear Ht hev hlk hbs
        by_cases h0 : ev = 0
        · subst h0
          go_wp2_with (go_at_call 47; refine HT.out.mono ?_; rintro e w3 ⟨rfl, hc⟩; have HD := Lib.hid (HC.out w3 hc); clear hc)
          rcases HD.out with ⟨h, _⟩ | ⟨_, k', he, sz', sv', h1, h2⟩
          · exact absurd rfl h
          · go_roundg (gk - 1)
            case measure => have := HK.out; omega
            case rel => exact ⟨k', sz', sv', he, h1, h2⟩
        · have H0 := Lib.hid h0
          go_wp2_with (go_at_call 47; refine HT.out.mono ?_; rintro e w3 ⟨rfl, hc⟩; have HD := Lib.hid (HC.out w3 hc); clear hc)
          go_ret3
          rcases HD.out with ⟨_, hg, hE0, hE1, hE2⟩ | ⟨h, _⟩
          · exact ⟨hg, .inl ⟨hE0, by rw [hE1, hE2]; rfl⟩⟩
          · exact absurd h H0.out
    · obtain rfl : k = xs.length := by have := HK.out; omega
      have HD := Lib.hid (HP.out.done (by omega))
      have hck := HD.out.1
      rw [HE.out] at hck
      have f0 := HD.out.2.2.c0
      have f1 := HD.out.2.2.c257
      by_cases hb : (be xs).length < 256
      · have hb' : ((be xs).length : Int) < 256 := by omega
        rw [if_pos hb] at hck
        have Hck := Lib.hid hck
        clear hck hb
        go_wp2_with fail
        go_region
        go_wp2_with fail
        go_ret3
        have he := Hck.out
        injection he with h1 h2
        exact ⟨HP.out.gr.drew, .inl ⟨by rw [h1]; decide, by rw [h1, h2]; rfl⟩⟩
      · have hb' : ¬ ((be xs).length : Int) < 256 := by omega
        rw [if_neg hb] at hck
        have Hck := Lib.hid hck
        clear hck hb
        go_wp2_with fail
        go_ret3
        have he := Hck.out
        injection he with h1 h2
        exact ⟨HP.out.gr, .inr ⟨h1, h2, sv, rfl, by rw [HD.out.2.1]; exact HD.out.2.2.own⟩⟩
end Voc
end Go.Proofs.Ytdogccgebgdlmaa

namespace Go.Proofs.Ytdogccgebgdlmaa
open Go.RowKit
namespace Voc
theorem may_any {w : World} {v : Value} {xs : List Pc} (HS : SL encP w v xs) (hw : ∀ q ∈ xs, wfP q) (hl : xs.length ≤ 1048576) (b : Bool) (hb : decide ((checkE xs).1 = 0) = b) :
    Calls Try.prog 32 #[.agg #[v]] w fun e w' => e = .returned (.bool b) ∧ Gr w w' := by
  obtain ⟨⟨E, at_⟩, hE⟩ : ∃ x, checkE xs = x := ⟨_, rfl⟩
  rw [hE] at hb
  simp only at hb
  obtain ⟨A, cap, rfl⟩ := SL.form HS
  have HG := Lib.hid ((Fr.refl w NoneS).alloc (.cells #[.slice A xs.length cap] 24))
  have HL := Lib.hid (rsizes_any (HS.gr HG.out) hw hl E at_ hE)
  clear HS hw hl hE
  go_enter Try.func32, Try.ntmps32
  generalize hx : World.alloc w (.cells #[.slice A xs.length cap] 24) = wa at HG HL
  have f0 : wa.cell? ⟨w.heap.size, 0, none⟩ = some (.slice A xs.length cap) := by rw [← hx]; simp
  have HX := Lib.hid hx
  clear hx
  have Hb := Lib.hid hb
  clear hb
  go_wp2_with (go_at_call 37; rw [HX.out]; refine HL.out.mono ?_; rintro e w3 ⟨hg, ⟨h0, rfl⟩ | ⟨h0, h1, p, rfl, _⟩⟩ <;> have HG3 := Lib.hid hg <;> clear hg)
  all_goals (go_ret; refine ⟨?_, HG.out.trans HG3.out (fun _ _ h => h)⟩; have := Hb.out; simp_all)
end Voc
end Go.Proofs.Ytdogccgebgdlmaa
