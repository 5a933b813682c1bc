/- the reference's vocab: what is seen; a byte. -/
import Derived.Test.YtildhlneldoffaaVTd
set_option linter.unusedVariables false
set_option linter.unusedSimpArgs false
namespace Go.Proofs.Ytildhlneldoffaa
open Go.RowKit
namespace Voc
abbrev TRs : TypeId := 101
def bset (ps : List Pc) : List Bool := (List.range 256).map fun i : Nat => ps.any fun q => !q.j && q.b == (i : Int)
theorem bset_len (ps : List Pc) : (bset ps).length = 256 := by simp [bset]
theorem bset_get (ps : List Pc) {i : Nat} (h : i < 256) : (bset ps)[i]? = some (ps.any fun q => !q.j && q.b == (i : Int)) := by
  unfold bset
  rw [List.getElem?_map, List.getElem?_range h]; rfl
def rcs (sv : Value) (bs : List Bool) (n : Nat) : Array Value := (sv :: (bs.map .bool ++ [.int .i64 (n : Int)])).toArray
theorem rcs_size (sv : Value) (bs : List Bool) (n : Nat) (h : bs.length = 256) : (rcs sv bs n).size = 258 := by simp [rcs, h]
theorem rcs_bit (sv : Value) (bs : List Bool) (n : Nat) (h : bs.length = 256) {i : Nat} (hi : i < 256) : (rcs sv bs n)[1 + i]? = (bs[i]?).map .bool := by
  unfold rcs
  rw [List.getElem?_toArray, Nat.add_comm, List.getElem?_cons_succ, List.getElem?_append_left (by simp; omega), List.getElem?_map]
theorem rcs_num (sv : Value) (bs : List Bool) (n : Nat) (h : bs.length = 256) : (rcs sv bs n)[257]? = some (.int .i64 (n : Int)) := by
  unfold rcs
  rw [List.getElem?_toArray, List.getElem?_cons_succ, List.getElem?_append_right (by simp; omega)]
  simp [h]
theorem rcs_set_bit (sv : Value) (bs : List Bool) (n : Nat) (h : bs.length = 256) {i : Nat} (hi : i < 256) : (rcs sv bs n).setIfInBounds (1 + i) (.bool true) = rcs sv (bs.set i true) n := by
  unfold rcs
  rw [List.setIfInBounds_toArray, Nat.add_comm, List.set_cons_succ, List.set_append_left _ _ (by simp; omega), List.map_set]
theorem rcs_set_num (sv : Value) (bs : List Bool) (n m : Nat) (h : bs.length = 256) : (rcs sv bs n).setIfInBounds 257 (.int .i64 (m : Int)) = rcs sv bs m := by
  unfold rcs
  rw [List.setIfInBounds_toArray, List.set_cons_succ, List.set_append_right _ _ (by simp; omega)]
  simp [h]
theorem rcs_set_own (sv sv' : Value) (bs : List Bool) (n : Nat) : (rcs sv bs n).setIfInBounds 0 sv' = rcs sv' bs n := by
  unfold rcs
  rw [List.setIfInBounds_toArray]; rfl
theorem bset_snoc_join (ps : List Pc) (q : Pc) (h : q.j = true) : bset (ps ++ [q]) = bset ps := by
  unfold bset; simp [h]
theorem bset_snoc_byte (ps : List Pc) (q : Pc) (h : q.j = false) {i : Nat} (hb : q.b = (i : Int)) (hi : i < 256) : bset (ps ++ [q]) = (bset ps).set i true := by
  apply List.ext_getElem?
  intro m
  rw [List.getElem?_set]
  by_cases hm : m < 256
  · rw [bset_get _ hm, bset_len]
    by_cases he : i = m
    · subst he; simp [hi, h, hb]
    · rw [if_neg he, bset_get _ hm, List.any_append]
      have : ¬ ((i : Int) = (m : Int)) := by omega
      simp [h, hb, this]
  · rw [List.getElem?_eq_none (by rw [bset_len]; omega)]
    rw [List.getElem?_eq_none (l := bset ps) (by rw [bset_len]; omega)]
    split
    · rename_i he; subst he; rw [bset_len, if_neg hm]
    · rfl

structure RN (w : World) (base p : Nat) (ps : List Pc) (sz : List Nat) (sv : Value) : Prop where
  bs : base ≤ p
  blk : Blk w p TRs (rcs sv (bset ps) (be ps).length)
  own : w.ownsRow base 3 1 sv ps.length (sz.flatMap encN)
  len : sz.length = ps.length
def RS (p : Nat) (sv : Value) : Nat → Prop := fun k => k = p ∨ sv.ownBlock = some k
theorem RN.gr {w w' : World} {base p : Nat} {ps : List Pc} {sz : List Nat} {sv : Value} (H : RN w base p ps sz sv) (hg : Gr w w') : RN w' base p ps sz sv :=
  ⟨H.bs, H.blk.fr hg (fun h => h), hg.owns H.own (fun _ _ h => h), H.len⟩
theorem RN.c0 {w : World} {base p : Nat} {ps : List Pc} {sz : List Nat} {sv : Value} (H : RN w base p ps sz sv) : w.cell? ⟨p, 0, none⟩ = some sv := by rw [H.blk.cell]; rfl
theorem RN.c257 {w : World} {base p : Nat} {ps : List Pc} {sz : List Nat} {sv : Value} (H : RN w base p ps sz sv) : w.cell? ⟨p, 257, none⟩ = some (.int .i64 ((be ps).length : Int)) := by rw [H.blk.cell, rcs_num _ _ _ (bset_len ps)]
theorem RN.bit {w : World} {base p : Nat} {ps : List Pc} {sz : List Nat} {sv : Value} (H : RN w base p ps sz sv) {i : Nat} (hi : i < 256) : w.cell? ⟨p, 1 + i, none⟩ = some (.bool (ps.any fun q => !q.j && q.b == (i : Int))) := by
  rw [H.blk.cell, rcs_bit _ _ _ (bset_len ps) hi, bset_get _ hi]; rfl
theorem TRs_int : (3 : TypeId) ≠ TRs := by decide

theorem RN.push {w w2 w3 : World} {base p : Nat} {ps : List Pc} {sz : List Nat} {sv sv' : Value} (H : RN w base p ps sz sv) (q : Pc) (n : Nat) (h12 : Fr w w2 (fun k => k = p)) (hb : Blk w2 p TRs (rcs sv (bset (ps ++ [q])) (be (ps ++ [q])).length))
    (h23 : Fr w2 w3 (fun k => sv.ownBlock = some k)) (own3 : w3.ownsRow base 3 1 sv' (ps.length + 1) ((sz ++ [n]).flatMap encN)) :
    RN (w3.setCell ⟨p, 0, none⟩ sv') base p (ps ++ [q]) (sz ++ [n]) sv' ∧ Fr w (w3.setCell ⟨p, 0, none⟩ sv') (RS p sv) := by
  have hB3 : Blk w3 p TRs _ := hb.fr h23 (own_blk_ne H.own H.blk TRs_int)
  have h34 : Fr w3 (w3.setCell ⟨p, 0, none⟩ sv') (fun k => k = p) := (Fr.refl w3 (fun k => k = p)).setCell (p := ⟨p, 0, none⟩) (fun _ => rfl) sv'
  refine ⟨⟨H.bs, ?_, ?_, by simp [H.len]⟩, ((h12.mono (T := RS p sv) (fun k _ h => .inl h)).trans h23 (fun k _ h => .inr h)).trans h34 (fun k _ h => .inl h)⟩
  · have h := hB3.set_ 0 sv'
    rw [rcs_set_own] at h
    exact h
  · rw [List.length_append, List.length_singleton]
    exact h34.owns own3 (fun k hk e => own_blk_ne own3 hB3 TRs_int (e ▸ hk))

set_option maxRecDepth 20000 in
set_option maxHeartbeats 4000000 in
theorem rbyte {w : World} {base p : Nat} {ps : List Pc} {sz : List Nat} {sv : Value} (i : Nat) (l r k : Int) (H : RN w base p ps sz sv) (hi : i < 256) (hn : ps.length < 4096) (hb : base ≤ w.heap.size) (E : Int) (hE : stepE ps sz ⟨false, i, l, r, k⟩ = E) :
    Calls Try.prog 54 #[.pointer (some ⟨p, 0, none⟩), .agg (encP ⟨false, i, l, r, k⟩).toArray] w fun e w' => e = .returned (.int .i64 E) ∧
      ((E ≠ 0 ∧ Gr w w') ∨ (E = 0 ∧ Fr w w' (RS p sv) ∧ ∃ sv', RN w' base p (ps ++ [⟨false, i, l, r, k⟩]) (sz ++ [1]) sv')) := by
  have HS := Lib.hid H
  have Hi := Lib.hid hi
  have Hn := Lib.hid (And.intro hn hb)
  have HE := Lib.hid hE
  clear H hn hb hE
  simp only [encP]
  go_enter Try.func54, Try.ntmps54
  go_upto_region 1 with (fail)
  have HB := Lib.hid (Blk.new w TPc #[.bool false, .int .u8 (i : Int), .int .i64 l, .int .i64 r, .int .u32 k])
  have HG := Lib.hid ((Fr.refl w NoneS).alloc (.cells #[.bool false, .int .u8 (i : Int), .int .i64 l, .int .i64 r, .int .u32 k] TPc))
  have HS1 := Lib.hid (HS.out.gr HG.out)
  generalize w.heap.size = q5 at HB ⊢
  generalize World.alloc w _ = w1 at HB HG HS1 ⊢
  have f1 : w1.cell? ⟨q5, 1, none⟩ = some (.int .u8 (i : Int)) := by rw [HB.out.cell]; rfl
  have f2 : w1.cell? ⟨q5, 2, none⟩ = some (.int .i64 l) := by rw [HB.out.cell]; rfl
  have f3 : w1.cell? ⟨q5, 3, none⟩ = some (.int .i64 r) := by rw [HB.out.cell]; rfl
  have f4 : w1.cell? ⟨q5, 4, none⟩ = some (.int .u32 k) := by rw [HB.out.cell]; rfl
  by_cases hz : l = 0 ∧ r = 0 ∧ k = 0
  case neg =>
    have e5 : E = 5 := by rw [← HE.out]; simp only [stepE, if_true]; rw [if_pos hz]
    clear HE
    have He5 := Lib.hid e5
    clear e5 hi
    by_cases hl : l = 0
    · subst hl
      by_cases hr : r = 0
      · subst hr
        have hk : ¬ k = 0 := fun h => hz ⟨rfl, rfl, h⟩
        clear hz
        go_wp2_with fail
        go_ret
        exact ⟨by rw [He5.out]; rfl, .inl ⟨by rw [He5.out]; decide, HG.out⟩⟩
      · clear hz
        go_wp2_with fail
        go_ret
        exact ⟨by rw [He5.out]; rfl, .inl ⟨by rw [He5.out]; decide, HG.out⟩⟩
    · clear hz
      go_wp2_with fail
      go_ret
      exact ⟨by rw [He5.out]; rfl, .inl ⟨by rw [He5.out]; decide, HG.out⟩⟩
  obtain ⟨rfl, rfl, rfl⟩ := hz
  have ex : E = if ps.any (sameB ⟨false, i, 0, 0, 0⟩) then 8 else 0 := by rw [← HE.out]; simp [stepE]
  have Hex := Lib.hid ex
  clear ex HE
  go_upto_region 3 with (fail)
  clear f2 f3 f4
  have hc := HS1.out.bit hi
  obtain ⟨bb, hbb⟩ : ∃ b, b = ps.any fun q => !q.j && q.b == (i : Int) := ⟨_, rfl⟩
  rw [← hbb] at hc
  have Hbb := Lib.hid (show bb = ps.any (sameB ⟨false, i, 0, 0, 0⟩) from hbb)
  clear hbb
  have hi0 : (0 : Int) ≤ (i : Int) := by omega
  have hi1 : (i : Int) < 256 := by omega
  refine wp_region_held_drew (S := fun wx => wx.cell? ⟨q5, 1, none⟩ = some (.int .u8 (i : Int)) ∧ wx.cell? ⟨p, 1 + i, none⟩ = some (.bool bb)) (by kernel_rfl) ⟨f1, hc⟩ (fun hHeld => ?_)
  refine wpAnyH_take (i := 0) (v := (.pointer (some ⟨p, 0, none⟩))) rfl (by kernel_rfl) (by kernel_rfl) (by kernel_rfl) (fun _ _ _ h => h) (Or.inl ⟨by kernel_rfl, ?_⟩) (by with_reducible assumption) ?_
  focus (intro w hSw; (try dsimp only at hSw); go_simp)
  try simp only [Act.put, List.getElem_toArray, List.getElem_cons_succ, List.getElem_cons_zero, List.setIfInBounds_toArray, List.set_cons_zero, List.set_cons_succ]
  refine wpAnyH_take (i := 1) (v := (.pointer (some ⟨q5, 1, none⟩))) rfl (by kernel_rfl) (by kernel_rfl) (by kernel_rfl) (fun _ _ _ h => h) (Or.inl ⟨by kernel_rfl, ?_⟩) (by with_reducible assumption) ?_
  focus (intro w hSw; (try dsimp only at hSw); go_simp)
  try simp only [Act.put, List.getElem_toArray, List.getElem_cons_succ, List.getElem_cons_zero, List.setIfInBounds_toArray, List.set_cons_zero, List.set_cons_succ]
  refine wpAnyH_take (i := 2) (v := (.int .u8 (i : Int))) rfl (by kernel_rfl) (by kernel_rfl) (by kernel_rfl) (fun _ _ _ h => h) (Or.inl ⟨by kernel_rfl, ?_⟩) (by with_reducible assumption) ?_
  focus (intro w hSw; (try dsimp only at hSw); go_simp)
  try simp only [Act.put, List.getElem_toArray, List.getElem_cons_succ, List.getElem_cons_zero, List.setIfInBounds_toArray, List.set_cons_zero, List.set_cons_succ]
  refine wpAnyH_take (i := 3) (v := (.pointer (some ⟨p, 0, none⟩))) rfl (by kernel_rfl) (by kernel_rfl) (by kernel_rfl) (fun _ _ _ h => h) (Or.inl ⟨by kernel_rfl, ?_⟩) (by with_reducible assumption) ?_
  focus (intro w hSw; (try dsimp only at hSw); go_simp)
  try simp only [Act.put, List.getElem_toArray, List.getElem_cons_succ, List.getElem_cons_zero, List.setIfInBounds_toArray, List.set_cons_zero, List.set_cons_succ]
  refine wpAnyH_take (i := 4) (v := (.pointer (some ⟨p, 1, none⟩))) rfl (by kernel_rfl) (by kernel_rfl) (by kernel_rfl) (fun _ _ _ h => h) (Or.inl ⟨by kernel_rfl, ?_⟩) (by with_reducible assumption) ?_
  focus (intro w hSw; (try dsimp only at hSw); go_simp)
  try simp only [Act.put, List.getElem_toArray, List.getElem_cons_succ, List.getElem_cons_zero, List.setIfInBounds_toArray, List.set_cons_zero, List.set_cons_succ]
  refine wpAnyH_take (i := 5) (v := (.pointer (some ⟨p, 1 + i, none⟩))) rfl (by kernel_rfl) (by kernel_rfl) (by kernel_rfl) (fun _ _ _ h => h) (Or.inl ⟨by kernel_rfl, ?_⟩) (by with_reducible assumption) ?_
  focus (intro w hSw; (try dsimp only at hSw); go_simp)
  try simp only [Act.put, List.getElem_toArray, List.getElem_cons_succ, List.getElem_cons_zero, List.setIfInBounds_toArray, List.set_cons_zero, List.set_cons_succ]
  refine wpAnyH_take (i := 6) (v := (.bool bb)) rfl (by kernel_rfl) (by kernel_rfl) (by kernel_rfl) (fun _ _ _ h => h) (Or.inl ⟨by kernel_rfl, ?_⟩) (by with_reducible assumption) ?_
  focus (intro w hSw; (try dsimp only at hSw); go_simp)
  try simp only [Act.put, List.getElem_toArray, List.getElem_cons_succ, List.getElem_cons_zero, List.setIfInBounds_toArray, List.set_cons_zero, List.set_cons_succ]
  refine wpAnyH_done (by kernel_rfl) ?_ _
  clear hHeld
  cases bb with
  | true =>
    go_wp2_with fail
    go_ret
    have e8 : E = 8 := by rw [Hex.out, ← Hbb.out]; rfl
    exact ⟨by rw [e8]; rfl, .inl ⟨by rw [e8]; decide, HG.out.drew⟩⟩
  | false =>
    have e0 : E = 0 := by rw [Hex.out, ← Hbb.out]; rfl
    have He := Lib.hid e0
    clear e0
    go_upto_region 5 with (fail)
    have g1 := HS1.out.blk.frozen (1 + i)
    have hpq : q5 ≠ p := HB.out.ne_ HS1.out.blk (by decide)
    have hF2 : Fr w1 (w1.setCell ⟨p, 1 + i, none⟩ (.bool true)).drew.drew (fun k => k = p) := ((Fr.refl w1 (fun k => k = p)).setCell (p := ⟨p, 1 + i, none⟩) (fun _ => rfl) (.bool true)).drew.drew
    have hB2 : Blk (w1.setCell ⟨p, 1 + i, none⟩ (.bool true)).drew.drew p TRs (rcs sv (bset (ps ++ [⟨false, i, 0, 0, 0⟩])) (be ps).length) := by
      have h := (HS1.out.blk.set_ (1 + i) (.bool true)).drew.drew
      rw [rcs_set_bit _ _ _ (bset_len ps) Hi.out, ← bset_snoc_byte ps ⟨false, i, 0, 0, 0⟩ rfl rfl Hi.out] at h
      exact h
    have hf1 : (w1.setCell ⟨p, 1 + i, none⟩ (.bool true)).drew.drew.cell? ⟨q5, 1, none⟩ = some (.int .u8 (i : Int)) := (hF2.cell (p := ⟨q5, 1, none⟩) HB.out.lt hpq).trans f1
    have HF2 := Lib.hid hF2
    have HB2 := Lib.hid hB2
    have Hf1 := Lib.hid hf1
    clear hF2 hB2 hf1 hpq
    refine wp_region_held_drew (S := fun wx => wx.cell? ⟨q5, 1, none⟩ = some (.int .u8 (i : Int))) (by kernel_rfl) f1 (fun hHeld => ?_)
    refine wpAnyH_take (i := 0) (v := (.pointer (some ⟨p, 0, none⟩))) rfl (by kernel_rfl) (by kernel_rfl) (by kernel_rfl) (fun _ _ _ h => h) (Or.inl ⟨by kernel_rfl, ?_⟩) (by with_reducible assumption) ?_
    focus (intro w hSw; (try dsimp only at hSw); go_simp)
    try simp only [Act.put, List.getElem_toArray, List.getElem_cons_succ, List.getElem_cons_zero, List.setIfInBounds_toArray, List.set_cons_zero, List.set_cons_succ]
    refine wpAnyH_take (i := 1) (v := (.pointer (some ⟨q5, 1, none⟩))) rfl (by kernel_rfl) (by kernel_rfl) (by kernel_rfl) (fun _ _ _ h => h) (Or.inl ⟨by kernel_rfl, ?_⟩) (by with_reducible assumption) ?_
    focus (intro w hSw; (try dsimp only at hSw); go_simp)
    try simp only [Act.put, List.getElem_toArray, List.getElem_cons_succ, List.getElem_cons_zero, List.setIfInBounds_toArray, List.set_cons_zero, List.set_cons_succ]
    refine wpAnyH_take (i := 2) (v := (.int .u8 (i : Int))) rfl (by kernel_rfl) (by kernel_rfl) (by kernel_rfl) (fun _ _ _ h => h) (Or.inl ⟨by kernel_rfl, ?_⟩) (by with_reducible assumption) ?_
    focus (intro w hSw; (try dsimp only at hSw); go_simp)
    try simp only [Act.put, List.getElem_toArray, List.getElem_cons_succ, List.getElem_cons_zero, List.setIfInBounds_toArray, List.set_cons_zero, List.set_cons_succ]
    refine wpAnyH_take (i := 3) (v := (.pointer (some ⟨p, 0, none⟩))) rfl (by kernel_rfl) (by kernel_rfl) (by kernel_rfl) (fun _ _ _ h => h) (Or.inl ⟨by kernel_rfl, ?_⟩) (by with_reducible assumption) ?_
    focus (intro w hSw; (try dsimp only at hSw); go_simp)
    try simp only [Act.put, List.getElem_toArray, List.getElem_cons_succ, List.getElem_cons_zero, List.setIfInBounds_toArray, List.set_cons_zero, List.set_cons_succ]
    refine wpAnyH_take (i := 4) (v := (.pointer (some ⟨p, 1, none⟩))) rfl (by kernel_rfl) (by kernel_rfl) (by kernel_rfl) (fun _ _ _ h => h) (Or.inl ⟨by kernel_rfl, ?_⟩) (by with_reducible assumption) ?_
    focus (intro w hSw; (try dsimp only at hSw); go_simp)
    try simp only [Act.put, List.getElem_toArray, List.getElem_cons_succ, List.getElem_cons_zero, List.setIfInBounds_toArray, List.set_cons_zero, List.set_cons_succ]
    refine wpAnyH_take (i := 5) (v := (.pointer (some ⟨p, 1 + i, none⟩))) rfl (by kernel_rfl) (by kernel_rfl) (by kernel_rfl) (fun _ _ _ h => h) (Or.inl ⟨by kernel_rfl, ?_⟩) (by with_reducible assumption) ?_
    focus (intro w hSw; (try dsimp only at hSw); go_simp)
    try simp only [Act.put, List.getElem_toArray, List.getElem_cons_succ, List.getElem_cons_zero, List.setIfInBounds_toArray, List.set_cons_zero, List.set_cons_succ]
    refine wpAnyH_ready (rs := [6]) (by kernel_rfl) (by simp) ?_
    refine AllReadyH.cons rfl ?_ AllReadyH.nil
    intro K hK
    go_simp
    refine hK.out _ _ Hf1.out (fun _ => ?_)
    clear hK K hHeld
    try simp only [Act.put, List.getElem_toArray, List.getElem_cons_succ, List.getElem_cons_zero, List.setIfInBounds_toArray, List.set_cons_zero, List.set_cons_succ]
    refine wpAnyH_done (by kernel_rfl) ?_ _
    clear hc g1 f1 Hf1
    have HO2 := Lib.hid (HF2.out.owns HS1.out.own (fun k' hk e => own_blk_ne HS1.out.own HS1.out.blk TRs_int (e ▸ hk)))
    generalize World.drew (World.drew (World.setCell _ _ (.bool true))) = w2 at HF2 HB2 HO2 ⊢
    have hnn : (be ps).length ≤ ps.length := Nat.le_trans (List.length_filterMap_le _ _) (by simp)
    have hwr : IntKind.i64.wrap (((be ps).length : Int) + 1) = ((be ps).length : Int) + 1 := IntWalk.i64_in _ ⟨by omega, by have := Hn.out.1; omega⟩
    have c257 : w2.cell? ⟨p, 257, none⟩ = some (.int .i64 ((be ps).length : Int)) := by rw [HB2.out.cell, rcs_num _ _ _ (bset_len _)]
    have g257 := HB2.out.frozen 257
    go_upto_region 7 with (fail)
    clear c257 g257 hwr
    have hbe : (be (ps ++ [⟨false, (i : Int), 0, 0, 0⟩])).length = (be ps).length + 1 := by rw [be_snoc]; simp
    have HF3 := Lib.hid (show Fr w1 (w2.setCell ⟨p, 257, none⟩ (.int .i64 (((be ps).length : Int) + 1))) (fun k => k = p) from HF2.out.trans ((Fr.refl w2 (fun k => k = p)).setCell (p := ⟨p, 257, none⟩) (fun _ => rfl) _) (fun _ _ h => h))
    have HO3 := Lib.hid (HF3.out.owns HS1.out.own (fun k' hk e => own_blk_ne HS1.out.own HS1.out.blk TRs_int (e ▸ hk)))
    have HB3 := Lib.hid (show Blk (w2.setCell ⟨p, 257, none⟩ (.int .i64 (((be ps).length : Int) + 1))) p TRs (rcs sv (bset (ps ++ [⟨false, i, 0, 0, 0⟩])) (be (ps ++ [⟨false, (i : Int), 0, 0, 0⟩])).length) from by
      have h := HB2.out.set_ 257 (.int .i64 (((be ps).length + 1 : Nat) : Int))
      rw [rcs_set_num _ _ _ _ (bset_len _)] at h
      rw [hbe]
      exact h)
    generalize World.setCell w2 _ _ = w3 at HF3 HO3 HB3 ⊢
    clear HF2 HB2 HO2 hbe hnn
    have c0 : w3.cell? ⟨p, 0, none⟩ = some sv := by rw [HB3.out.cell]; rfl
    obtain ⟨i0, hi0', hz0, hz1, hz2⟩ := info_parts info_int
    have Hbs := Lib.hid (Nat.le_trans Hn.out.2 (Nat.le_trans HG.out.size HF3.out.size))
    go_wp2_with (
      at_builtin
      go_loud (refine wpList_append_sl _ encN rfl (.tmp 42) (.tmp 43) 28 rfl base 3 i0 (.int .i64 0) 1 8 Try.underlying28 hi0' hz0 hz1 hz2 rfl (by decide) sv ps.length _ rfl (HO3.out.alloc _) (.slice (some ⟨w3.heap.size, 0, none⟩) 1 1) [1] rfl (sl_one (enc := encN) w3 1 #[.int .i64 1] rfl 3) (fun _ => rfl) encN_one (by have := Hn.out.1; simp only [maxLen, List.length_singleton]; omega) (by have := Hn.out.1; simp only [List.length_singleton]; omega) (by have := Hbs.out; simp; omega) ?_)
      intro v4 w4 hown3 hg3 hat3
      rw [← List.flatMap_append] at hown3
      obtain ⟨A3, cap3, rfl⟩ := own_formN hown3
      have HP := Lib.hid (HS1.out.push (w2 := w3) (w3 := w4) (sv' := .slice A3 (ps.length + 1) cap3) ⟨false, i, 0, 0, 0⟩ 1 HF3.out HB3.out
        (((Fr.refl w3 _).alloc _).trans hg3 (fun _ _ h => h)) hown3)
      have HB4 := Lib.hid (HB3.out.fr (((Fr.refl w3 _).alloc _).trans hg3 (fun _ _ h => h)) (own_blk_ne HO3.out HB3.out TRs_int))
      have c3 : w4.cell? ⟨p, 0, none⟩ = some sv := by rw [HB4.out.cell]; rfl
      have g3 := HB4.out.frozen 0
      clear hown3 hg3 hat3)
    go_ret
    exact ⟨by rw [He.out]; rfl, .inr ⟨He.out, (Gr.mono HG.out _).trans HP.out.2 (fun _ _ h => h), _, HP.out.1⟩⟩
end Voc
end Go.Proofs.Ytildhlneldoffaa
