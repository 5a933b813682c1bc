/- The walk of VocabFresh. -/
import Derived.Test.YtdogccgebgdlmaaVWk
import Derived.Test.YtdogccgebgdlmaaVRd
import Derived.Test.YtdogccgebgdlmaaVGe
import Derived.Test.YtdogccgebgdlmaaFbytes
import Derived.Test.YtdogccgebgdlmaaFjoins
import Derived.Test.YtdogccgebgdlmaaFvoc
import Derived.Test.YtdogccgebgdlmaaFvocq
import Derived.Test.YtdogccgebgdlmaaFspoil
set_option linter.unusedVariables false
set_option linter.unusedSimpArgs false
namespace Go.Proofs.Ytdogccgebgdlmaa
open Go.RowKit
open Voc
set_option maxRecDepth 20000 in
set_option maxHeartbeats 8000000 in
theorem VocabFresh_walk (w : World) (v : Value) (xs : List Pc) (hs : SL encP w v xs) (hw : ∀ x ∈ xs, wfP x) (hl : xs.length ≤ 1048576) (n : Int) (hn : (Lit.int .i64 n).wf = true) :
    Calls Try.prog 5 #[.agg #[v], .int .i64 n] w fun e w' => e = .returned (.bool true) ∧ Gr w w' := by
  have HS := Lib.hid hs
  obtain ⟨A, cap, rfl⟩ := SL.form hs
  have HG := Lib.hid ((Fr.refl w NoneS).alloc (.cells #[.slice A xs.length cap] 24))
  have HB := Lib.hid (Blk.new w 24 #[.slice A xs.length cap])
  have HM := Lib.hid (many_any (HS.out.gr HG.out))
  have HE0 := Lib.hid (fun w' (hg : Gr w w') => copyVocab_any (hs.gr hg) hl)
  have HE1 := Lib.hid (fun w' v' (h : SL encP w' v' xs) => Expand_any n h hw hl (Nat.le_trans (expE_le xs n) (by omega)))
  have HE2 := Lib.hid (fun w' (hg : Gr w w') => rexpand_any n (hs.gr hg) hw hl (Nat.le_trans (expE_le xs n) (by omega)))
  have HE4 := Lib.hid (fun w' v' (h : SL encP w' v' xs) => joins_all h hw hl)
  have HE5 := Lib.hid (fun w' (hg : Gr w w') => rjoins_any (hs.gr hg) hw hl)
  have Hj := Lib.hid (show (jE xs).length ≤ 4194304 by
    unfold jE
    split
    · rw [jI_len]; exact Nat.le_trans (jl_le xs _) (by omega)
    · simp)
  have Hle := Lib.hid (expE_le xs n)
  have Hl := Lib.hid hl
  generalize (sizeE xs n).2 = r2 at HE1 HE2
  generalize expE xs n = bs at HE1 HE2 Hle
  generalize jE xs = js at HE4 HE5 Hj
  clear hs hw hl hn
  go_enter Try.func5, Try.ntmps5
  go_upto_region 1 with (fail)
  generalize World.alloc w _ = w1 at HB HG HM ⊢
  obtain ⟨q, hq⟩ : ∃ q, w.heap.size = q := ⟨_, rfl⟩
  rw [hq] at HB ⊢
  have c0 : w1.cell? ⟨q, 0, none⟩ = some (.slice A xs.length cap) := by rw [HB.out.cell]; rfl
  clear hq
  by_cases h7 : 700 < xs.length
  · rw [decide_eq_true h7] at HM
    go_wp2_with (first
      | (go_at_call 11; refine HM.out.mono ?_; rintro e w2 ⟨rfl, hg⟩; have HG2 := Lib.hid hg; clear hg)
      | (go_at_call 13; refine (works_any w2).mono ?_; rintro e w3 ⟨rfl, hg⟩; have HG3 := Lib.hid hg; clear hg))
    go_ret
    exact ⟨rfl, (HG.out.trans HG2.out (fun _ _ h => h)).trans HG3.out (fun _ _ h => h)⟩
  rw [decide_eq_false h7] at HM
  go_upto_region 3 with (go_at_call 11; refine HM.out.mono ?_; rintro e w2 ⟨rfl, hg⟩; have HG2 := Lib.hid (HG.out.trans hg (fun _ _ h => h)); have HB2 := Lib.hid (HB.out.fr hg (fun h => h)); clear hg)
  have c2 : w2.cell? ⟨q, 0, none⟩ = some (.slice A xs.length cap) := by rw [HB2.out.cell]; rfl
  go_upto_region 4 with (go_at_call 18; refine (HE0.out _ HG2.out).mono ?_; rintro e w3 ⟨so, rfl, ho, hg⟩; have HO3 := Lib.hid ho; have HG3 := Lib.hid (HG2.out.trans hg (fun _ _ h => h)); have HB3 := Lib.hid (HB2.out.fr hg (fun h => h)); obtain ⟨Ao, co, rfl⟩ := own_formN ho; clear hg ho)
  have HP4 := Lib.hid (Blk.new w3 24 #[.slice Ao xs.length co])
  have HG4 := Lib.hid (HG3.out.alloc (.cells #[.slice Ao xs.length co] 24))
  have HB4 := Lib.hid (HB3.out.alloc (.cells #[.slice Ao xs.length co] 24))
  have HS4 := Lib.hid (show SL encP (w3.alloc (.cells #[.slice Ao xs.length co] 24)) (.slice Ao xs.length co) xs from SL.of_own (HO3.out.alloc _) rfl)
  obtain ⟨p, hp⟩ : ∃ p, w3.heap.size = p := ⟨_, rfl⟩
  rw [hp] at HP4 ⊢
  clear hp c0 c2 HE0 HM
  generalize World.alloc w3 _ = w4 at HP4 HG4 HB4 HS4 ⊢
  have c4 : w4.cell? ⟨p, 0, none⟩ = some (.slice Ao xs.length co) := by rw [HP4.out.cell]; rfl
  go_upto_region 5 with (go_at_call 19; refine (HE1.out _ _ HS4.out).mono ?_; rintro e w5 ⟨va, rfl, ho, hg, hsp⟩; have HO5 := Lib.hid ho; have HG5 := Lib.hid hg; have HSp5 := Lib.hid hsp; clear hg ho hsp)
  obtain ⟨Aa, ca, rfl⟩ := own_formN HO5.out
  go_upto_region 6 with (go_at_call 20; refine (spoil_any _ _ _ _ 1 w5 HO5.out HSp5.out).mono ?_; rintro e w6 ⟨rfl, hf⟩; have HG6 := Lib.hid (show Gr w4 w6 from HG5.out.trans hf (fun k hk h => by have := (HO5.out.lt k h).1; omega)); clear hf)
  have HP6 := Lib.hid (HP4.out.fr HG6.out (fun h => h))
  have c6 : w6.cell? ⟨p, 0, none⟩ = some (.slice Ao xs.length co) := by rw [HP6.out.cell]; rfl
  go_upto_region 7 with (go_at_call 21; refine (HE4.out _ _ (HS4.out.gr HG6.out)).mono ?_; rintro e w7 ⟨vj, rfl, ho, hsp, hg⟩; have HO7 := Lib.hid ho; have HG7 := Lib.hid hg; have HSp7 := Lib.hid hsp; clear hg ho hsp)
  obtain ⟨Aj, cj, rfl⟩ := own_formN HO7.out
  go_upto_region 8 with (go_at_call 22; refine (spoilInts_any _ _ _ _ 1 w7 HO7.out HSp7.out).mono ?_; rintro e w8 ⟨rfl, hf⟩; have HG8 := Lib.hid (show Gr w4 w8 from HG6.out.trans (show Gr w6 w8 from HG7.out.trans hf (fun k hk h => by have := (HO7.out.lt k h).1; omega)) (fun _ _ h => h)); clear hf)
  have HP8 := Lib.hid (HP4.out.fr HG8.out (fun h => h))
  have c8 : w8.cell? ⟨p, 0, none⟩ = some (.slice Ao xs.length co) := by rw [HP8.out.cell]; rfl
  go_upto_region 9 with (go_at_call 19; refine (HE1.out _ _ (HS4.out.gr HG8.out)).mono ?_; rintro e w9 ⟨vb, rfl, ho, hg, _⟩; have HO9 := Lib.hid ho; have HG9 := Lib.hid (HG8.out.trans hg (fun _ _ h => h)); clear hg ho)
  obtain ⟨Ab, cb, rfl⟩ := own_formN HO9.out
  have HB9 := Lib.hid (HB4.out.fr HG9.out (fun h => h))
  have c9 : w9.cell? ⟨q, 0, none⟩ = some (.slice A xs.length cap) := by rw [HB9.out.cell]; rfl
  go_upto_region 10 with (go_at_call 23; refine (HE2.out _ (HG4.out.trans HG9.out (fun _ _ h => h))).mono ?_; rintro e wa ⟨vc, rfl, ho, hg⟩; have HOa := Lib.hid ho; have HO9a := Lib.hid (hg.owns HO9.out (fun _ _ h => h)); have HGa := Lib.hid (HG9.out.trans hg (fun _ _ h => h)); clear hg ho)
  obtain ⟨Ac, cc, rfl⟩ := own_formN HOa.out
  have HGw := Lib.hid (HG4.out.trans HGa.out (fun _ _ h => h))
  have HSv := Lib.hid (HS.out.gr HGw.out)
  have HSo := Lib.hid (HS4.out.gr HGa.out)
  have HSb := Lib.hid (show SL encB wa (.slice Ab bs.length cb) bs from SL.of_own HO9a.out rfl)
  have HSc := Lib.hid (show SL encB wa (.slice Ac bs.length cc) bs from SL.of_own HOa.out rfl)
  have HBa := Lib.hid (HB4.out.fr HGa.out (fun h => h))
  have HPa := Lib.hid (HP4.out.fr HGa.out (fun h => h))
  have ca1 : wa.cell? ⟨q, 0, none⟩ = some (.slice A xs.length cap) := by rw [HBa.out.cell]; rfl
  have ca2 : wa.cell? ⟨p, 0, none⟩ = some (.slice Ao xs.length co) := by rw [HPa.out.cell]; rfl
  have Hcs := Lib.hid (show ∀ wx, Gr wa wx → wx.cell? ⟨q, 0, none⟩ = some (.slice A xs.length cap) ∧ wx.cell? ⟨p, 0, none⟩ = some (.slice Ao xs.length co) from fun wx h =>
    ⟨(h.cell (p := ⟨q, 0, none⟩) HBa.out.lt (fun h => h)).trans ca1, (h.cell (p := ⟨p, 0, none⟩) HPa.out.lt (fun h => h)).trans ca2⟩)
  clear c4 c6 c8 c9
  refine wp_region_held_drew (S := fun wx => wx.cell? ⟨q, 0, none⟩ = some (.slice A xs.length cap) ∧ wx.cell? ⟨p, 0, none⟩ = some (.slice Ao xs.length co)) (by kernel_rfl) ⟨ca1, ca2⟩ (fun hHeld => ?_)
  refine wpAnyH_take (i := 0) (v := (.agg #[.slice Ao xs.length co])) rfl (by kernel_rfl) (by kernel_rfl) (by kernel_rfl) (fun _ _ _ h => h) (Or.inl ⟨by kernel_rfl, ?_⟩) (by with_reducible assumption) ?_
  focus (intro w hSw; (try dsimp only at hSw); go_simp)
  try simp only [Act.put, List.getElem_toArray, List.getElem_cons_succ, List.getElem_cons_zero, List.setIfInBounds_toArray, List.set_cons_zero, List.set_cons_succ]
  refine wpAnyH_take (i := 1) (v := (.agg #[.slice A xs.length cap])) rfl (by kernel_rfl) (by kernel_rfl) (by kernel_rfl) (fun _ _ _ h => h) (Or.inl ⟨by kernel_rfl, ?_⟩) (by with_reducible assumption) ?_
  focus (intro w hSw; (try dsimp only at hSw); go_simp)
  try simp only [Act.put, List.getElem_toArray, List.getElem_cons_succ, List.getElem_cons_zero, List.setIfInBounds_toArray, List.set_cons_zero, List.set_cons_succ]
  have HV := Lib.hid (vocab_any HSo.out.drew HSv.out.drew (by have := Hl.out; omega))
  rw [decide_eq_true rfl] at HV
  refine wpAnyH_ready (rs := [2]) (by kernel_rfl) (by simp) ?_
  refine AllReadyH.cons rfl ?_ AllReadyH.nil
  intro K hK
  go_simp
  go_at_call 16
  refine (HV.out).mono ?_
  rintro e wb ⟨rfl, hg⟩
  have HGb := Lib.hid (show Gr wa wb from (Fr.refl wa NoneS).drew.trans hg (fun _ _ h => h))
  clear hg
  refine hK.out _ _ (Hcs.out _ HGb.out) (fun hHeld => ?_)
  clear hK K
  try simp only [Act.put, List.getElem_toArray, List.getElem_cons_succ, List.getElem_cons_zero, List.setIfInBounds_toArray, List.set_cons_zero, List.set_cons_succ]
  refine wpAnyH_take (i := 3) (v := (.bool true)) rfl (by kernel_rfl) (by kernel_rfl) (by kernel_rfl) (fun _ _ _ h => h) (Or.inl ⟨by kernel_rfl, ?_⟩) (by with_reducible assumption) ?_
  focus (intro w hSw; (try dsimp only at hSw); go_simp)
  try simp only [Act.put, List.getElem_toArray, List.getElem_cons_succ, List.getElem_cons_zero, List.setIfInBounds_toArray, List.set_cons_zero, List.set_cons_succ]
  refine wpAnyH_take (i := 4) (v := (.slice Ab bs.length cb)) rfl (by kernel_rfl) (by kernel_rfl) (by kernel_rfl) (fun _ _ _ h => h) (Or.inl ⟨by kernel_rfl, ?_⟩) (by with_reducible assumption) ?_
  focus (intro w hSw; (try dsimp only at hSw); go_simp)
  try simp only [Act.put, List.getElem_toArray, List.getElem_cons_succ, List.getElem_cons_zero, List.setIfInBounds_toArray, List.set_cons_zero, List.set_cons_succ]
  refine wpAnyH_take (i := 5) (v := (.slice Ac bs.length cc)) rfl (by kernel_rfl) (by kernel_rfl) (by kernel_rfl) (fun _ _ _ h => h) (Or.inl ⟨by kernel_rfl, ?_⟩) (by with_reducible assumption) ?_
  focus (intro w hSw; (try dsimp only at hSw); go_simp)
  try simp only [Act.put, List.getElem_toArray, List.getElem_cons_succ, List.getElem_cons_zero, List.setIfInBounds_toArray, List.set_cons_zero, List.set_cons_succ]
  have HV2 := Lib.hid (same_any _ _ bs bs wb (HSb.out.gr HGb.out) (HSc.out.gr HGb.out) (by have := Hle.out; omega))
  rw [decide_eq_true rfl] at HV2
  refine wpAnyH_ready (rs := [6]) (by kernel_rfl) (by simp) ?_
  refine AllReadyH.cons rfl ?_ AllReadyH.nil
  intro K hK
  go_simp
  go_at_call 24
  refine (HV2.out).mono ?_
  rintro e wc ⟨rfl, hg⟩
  have HGc := Lib.hid (show Gr wa wc from HGb.out.trans hg.gr (fun _ _ h => h))
  clear hg
  refine hK.out _ _ (Hcs.out _ HGc.out) (fun hHeld => ?_)
  clear hK K
  try simp only [Act.put, List.getElem_toArray, List.getElem_cons_succ, List.getElem_cons_zero, List.setIfInBounds_toArray, List.set_cons_zero, List.set_cons_succ]
  refine wpAnyH_take (i := 7) (v := (.bool true)) rfl (by kernel_rfl) (by kernel_rfl) (by kernel_rfl) (fun _ _ _ h => h) (Or.inl ⟨by kernel_rfl, ?_⟩) (by with_reducible assumption) ?_
  focus (intro w hSw; (try dsimp only at hSw); go_simp)
  try simp only [Act.put, List.getElem_toArray, List.getElem_cons_succ, List.getElem_cons_zero, List.setIfInBounds_toArray, List.set_cons_zero, List.set_cons_succ]
  refine wpAnyH_take (i := 8) (v := (.bool true)) rfl (by kernel_rfl) (by kernel_rfl) (by kernel_rfl) (fun _ _ _ h => h) (Or.inl ⟨by kernel_rfl, ?_⟩) (by with_reducible assumption) ?_
  focus (intro w hSw; (try dsimp only at hSw); go_simp)
  try simp only [Act.put, List.getElem_toArray, List.getElem_cons_succ, List.getElem_cons_zero, List.setIfInBounds_toArray, List.set_cons_zero, List.set_cons_succ]
  refine wpAnyH_take (i := 9) (v := (.agg #[.slice Ao xs.length co])) rfl (by kernel_rfl) (by kernel_rfl) (by kernel_rfl) (fun _ _ _ h => h) (Or.inl ⟨by kernel_rfl, ?_⟩) (by with_reducible assumption) ?_
  focus (intro w hSw; (try dsimp only at hSw); go_simp)
  try simp only [Act.put, List.getElem_toArray, List.getElem_cons_succ, List.getElem_cons_zero, List.setIfInBounds_toArray, List.set_cons_zero, List.set_cons_succ]
  refine wpAnyH_take (i := 11) (v := (.agg #[.slice A xs.length cap])) rfl (by kernel_rfl) (by kernel_rfl) (by kernel_rfl) (fun _ _ _ h => h) (Or.inl ⟨by kernel_rfl, ?_⟩) (by with_reducible assumption) ?_
  focus (intro w hSw; (try dsimp only at hSw); go_simp)
  try simp only [Act.put, List.getElem_toArray, List.getElem_cons_succ, List.getElem_cons_zero, List.setIfInBounds_toArray, List.set_cons_zero, List.set_cons_succ]
  refine wpAnyH_ready (rs := [10]) (by kernel_rfl) (by simp) ?_
  refine AllReadyH.cons rfl ?_ AllReadyH.nil
  intro K hK
  go_simp
  go_at_call 21
  refine (HE4.out _ _ (HSo.out.gr HGc.out)).mono ?_
  rintro e wd ⟨ja, rfl, ho, _, hg⟩
  have HOd := Lib.hid ho
  have HGd := Lib.hid (show Gr wa wd from HGc.out.trans hg (fun _ _ h => h))
  clear hg ho
  refine hK.out _ _ (Hcs.out _ HGd.out) (fun hHeld => ?_)
  clear hK K
  try simp only [Act.put, List.getElem_toArray, List.getElem_cons_succ, List.getElem_cons_zero, List.setIfInBounds_toArray, List.set_cons_zero, List.set_cons_succ]
  refine wpAnyH_ready (rs := [12]) (by kernel_rfl) (by simp) ?_
  refine AllReadyH.cons rfl ?_ AllReadyH.nil
  intro K hK
  go_simp
  go_at_call 26
  refine (HE5.out _ (HGw.out.trans HGd.out (fun _ _ h => h))).mono ?_
  rintro e we ⟨jb, rfl, ho, hg⟩
  have HOe := Lib.hid ho
  have HOd' := Lib.hid (hg.owns HOd.out (fun _ _ h => h))
  have HGe := Lib.hid (show Gr wa we from HGd.out.trans hg (fun _ _ h => h))
  clear hg ho
  have HSa : SL Voc.encI we ja js := SL.of_own HOd'.out rfl
  have HSb2 : SL Voc.encI we jb js := SL.of_own HOe.out rfl
  have HIn := Lib.hid (Ints_any ja jb js js we HSa HSb2 Hj.out)
  clear HSa HSb2
  rw [decide_eq_true rfl] at HIn
  refine hK.out _ _ (Hcs.out _ HGe.out) (fun hHeld => ?_)
  clear hK K
  try simp only [Act.put, List.getElem_toArray, List.getElem_cons_succ, List.getElem_cons_zero, List.setIfInBounds_toArray, List.set_cons_zero, List.set_cons_succ]
  refine wpAnyH_ready (rs := [13]) (by kernel_rfl) (by simp) ?_
  refine AllReadyH.cons rfl ?_ AllReadyH.nil
  intro K hK
  go_simp
  go_at_call 25
  refine (HIn.out).mono ?_
  rintro e wf ⟨rfl, hg⟩
  have HGf := Lib.hid (show Gr wa wf from HGe.out.trans hg.gr (fun _ _ h => h))
  clear hg
  refine hK.out _ _ (Hcs.out _ HGf.out) (fun hHeld => ?_)
  clear hK K
  try simp only [Act.put, List.getElem_toArray, List.getElem_cons_succ, List.getElem_cons_zero, List.setIfInBounds_toArray, List.set_cons_zero, List.set_cons_succ]
  refine wpAnyH_take (i := 14) (v := (.bool true)) rfl (by kernel_rfl) (by kernel_rfl) (by kernel_rfl) (fun _ _ _ h => h) (Or.inl ⟨by kernel_rfl, ?_⟩) (by with_reducible assumption) ?_
  focus (intro w hSw; (try dsimp only at hSw); go_simp)
  try simp only [Act.put, List.getElem_toArray, List.getElem_cons_succ, List.getElem_cons_zero, List.setIfInBounds_toArray, List.set_cons_zero, List.set_cons_succ]
  refine wpAnyH_take (i := 15) (v := (.bool true)) rfl (by kernel_rfl) (by kernel_rfl) (by kernel_rfl) (fun _ _ _ h => h) (Or.inl ⟨by kernel_rfl, ?_⟩) (by with_reducible assumption) ?_
  focus (intro w hSw; (try dsimp only at hSw); go_simp)
  try simp only [Act.put, List.getElem_toArray, List.getElem_cons_succ, List.getElem_cons_zero, List.setIfInBounds_toArray, List.set_cons_zero, List.set_cons_succ]
  refine wpAnyH_ready (rs := [16]) (by kernel_rfl) (by simp) ?_
  refine AllReadyH.cons rfl ?_ AllReadyH.nil
  intro K hK
  go_simp
  go_at_call 13
  refine (works_any wf).mono ?_
  rintro e wg ⟨rfl, hg⟩
  have HGg := Lib.hid (show Gr wa wg from HGf.out.trans hg (fun _ _ h => h))
  clear hg
  refine hK.out _ _ (Hcs.out _ HGg.out) (fun hHeld => ?_)
  clear hK K
  try simp only [Act.put, List.getElem_toArray, List.getElem_cons_succ, List.getElem_cons_zero, List.setIfInBounds_toArray, List.set_cons_zero, List.set_cons_succ]
  refine wpAnyH_take (i := 17) (v := (.bool true)) rfl (by kernel_rfl) (by kernel_rfl) (by kernel_rfl) (fun _ _ _ h => h) (Or.inl ⟨by kernel_rfl, ?_⟩) (by with_reducible assumption) ?_
  focus (intro w hSw; (try dsimp only at hSw); go_simp)
  try simp only [Act.put, List.getElem_toArray, List.getElem_cons_succ, List.getElem_cons_zero, List.setIfInBounds_toArray, List.set_cons_zero, List.set_cons_succ]
  refine wpAnyH_take (i := 18) (v := (.bool true)) rfl (by kernel_rfl) (by kernel_rfl) (by kernel_rfl) (fun _ _ _ h => h) (Or.inl ⟨by kernel_rfl, ?_⟩) (by with_reducible assumption) ?_
  focus (intro w hSw; (try dsimp only at hSw); go_simp)
  try simp only [Act.put, List.getElem_toArray, List.getElem_cons_succ, List.getElem_cons_zero, List.setIfInBounds_toArray, List.set_cons_zero, List.set_cons_succ]
  refine wpAnyH_done (by kernel_rfl) ?_ _
  go_wp2_with fail
  go_ret
  exact ⟨rfl, HGw.out.trans HGg.out (fun _ _ h => h)⟩
end Go.Proofs.Ytdogccgebgdlmaa
