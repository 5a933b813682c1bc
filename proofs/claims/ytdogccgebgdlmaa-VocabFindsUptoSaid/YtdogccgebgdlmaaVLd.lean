/- The walk of VocabFinds. -/
import Derived.Test.YtdogccgebgdlmaaVWk
import Derived.Test.YtdogccgebgdlmaaFfind
import Derived.Test.YtdogccgebgdlmaaFjoins
import Derived.Test.YtdogccgebgdlmaaVRd
set_option linter.unusedVariables false
set_option linter.unusedSimpArgs false
namespace Go.Proofs.Ytdogccgebgdlmaa
open Go.RowKit
open Voc
set_option maxRecDepth 20000 in
set_option maxHeartbeats 4000000 in
theorem VocabFinds_walk (w : World) (v : Value) (xs : List Pc) (hs : SL encP w v xs) (hw : ∀ x ∈ xs, wfP x) (hl : xs.length ≤ 1048576) (l : Int) (hlw : (Lit.int .i64 l).wf = true) (r : Int) (hrw : (Lit.int .i64 r).wf = true) :
    Calls Try.prog 8 #[.agg #[v], .int .i64 l, .int .i64 r] w fun e w' => e = .returned (.bool true) ∧ Gr w w' := by
  have HS := Lib.hid hs
  obtain ⟨A, cap, rfl⟩ := SL.form hs
  have HG := Lib.hid ((Fr.refl w NoneS).alloc (.cells #[.slice A xs.length cap] 24))
  have HB := Lib.hid (Blk.new w 24 #[.slice A xs.length cap])
  have HM := Lib.hid (many_any (HS.out.gr HG.out))
  obtain ⟨b, hb⟩ : ∃ b, decide ((checkE xs).1 = 0) = b := ⟨_, rfl⟩
  have HE1 := Lib.hid (fun w' (hg : Gr w w') => find_any l r hlw hrw (hs.gr hg) hw hl)
  have HE2 := Lib.hid (fun w' (hg : Gr w w') => rfind_any l r (hs.gr hg) hl)
  have HE3 := Lib.hid (fun w' (hg : Gr w w') => may_any (hs.gr hg) hw hl b hb)
  have HE4 := Lib.hid (fun w' (hg : Gr w w') => joins_all (hs.gr hg) hw hl)
  have HE5 := Lib.hid (fun w' (hg : Gr w w') => rjoins_any (hs.gr hg) hw hl)
  have Hj := Lib.hid (show (jE xs).length ≤ 4194304 by
    unfold jE
    split
    · rw [jI_len]; exact Nat.le_trans (jl_le xs _) (by omega)
    · simp)
  obtain ⟨F, hF⟩ : ∃ F, findE xs l r = F := ⟨_, rfl⟩
  rw [hF] at HE1
  have HT := Lib.hid (show (b = true → fndV (fndF l r xs) = fndV F ∧ (fndF l r xs).isSome = F.isSome) ∧ (b = false → fndV F = 0 ∧ F.isSome = false) from by
    unfold findE at hF
    refine ⟨fun h => ?_, fun h => ?_⟩
    · rw [h] at hb; rw [if_pos (of_decide_eq_true hb)] at hF; rw [hF]; exact ⟨rfl, rfl⟩
    · rw [h] at hb; rw [if_neg (of_decide_eq_false hb)] at hF; rw [← hF]; exact ⟨rfl, rfl⟩)
  generalize fndV (fndF l r xs) = V' at HE2 HT
  generalize (fndF l r xs).isSome = B' at HE2 HT
  clear hF
  generalize fndV F = V at HE1 HT
  generalize F.isSome = B at HE1 HT
  generalize jE xs = js at HE4 HE5 Hj
  clear hs hw hl hlw hrw hb
  go_enter Try.func8, Try.ntmps8
  go_upto_region 1 with (fail)
  generalize World.alloc w _ = w1 at HB HG HM ⊢
  obtain ⟨q, hq⟩ : ∃ q, w.heap.size = q := ⟨_, rfl⟩
  rw [hq] at HB ⊢
  have c0 : w1.cell? ⟨q, 0, none⟩ = some (.slice A xs.length cap) := by rw [HB.out.cell]; rfl
  clear hq
  by_cases h7 : 700 < xs.length
  · rw [decide_eq_true h7] at HM
    go_wp2_with (first
      | (go_at_call 11; refine HM.out.mono ?_; rintro e w2 ⟨rfl, hg⟩; have HG2 := Lib.hid hg; clear hg)
      | (go_at_call 13; refine (works_any w2).mono ?_; rintro e w3 ⟨rfl, hg⟩; have HG3 := Lib.hid hg; clear hg))
    go_ret
    exact ⟨rfl, (HG.out.trans HG2.out (fun _ _ h => h)).trans HG3.out (fun _ _ h => h)⟩
  rw [decide_eq_false h7] at HM
  go_upto_region 3 with (go_at_call 11; refine HM.out.mono ?_; rintro e w2 ⟨rfl, hg⟩; have HG2 := Lib.hid (HG.out.trans hg (fun _ _ h => h)); have HB2 := Lib.hid (HB.out.fr hg (fun h => h)); clear hg)
  have c2 : w2.cell? ⟨q, 0, none⟩ = some (.slice A xs.length cap) := by rw [HB2.out.cell]; rfl
  go_upto_region 4 with (go_at_call 30; refine (HE1.out _ HG2.out).mono ?_; rintro e w3 ⟨rfl, hg⟩; have HG3 := Lib.hid (HG2.out.trans hg (fun _ _ h => h)); have HB3 := Lib.hid (HB2.out.fr hg (fun h => h)); clear hg)
  have c3 : w3.cell? ⟨q, 0, none⟩ = some (.slice A xs.length cap) := by rw [HB3.out.cell]; rfl
  go_upto_region 5 with (go_at_call 31; refine (HE2.out _ HG3.out).mono ?_; rintro e w4 ⟨rfl, hg⟩; have HG4 := Lib.hid (HG3.out.trans hg (fun _ _ h => h)); have HB4 := Lib.hid (HB3.out.fr hg (fun h => h)); clear hg)
  have c4 : w4.cell? ⟨q, 0, none⟩ = some (.slice A xs.length cap) := by rw [HB4.out.cell]; rfl
  go_upto_if 30 with (go_at_call 32; refine (HE3.out _ HG4.out).mono ?_; rintro e w5 ⟨rfl, hg⟩; have HG5 := Lib.hid (HG4.out.trans hg (fun _ _ h => h)); have HB5 := Lib.hid (HB4.out.fr hg (fun h => h)); clear hg)
  go_cut [9, 10] (fun s9 s10 wx => s9 = .int .i64 V ∧ s10 = .bool B ∧ wx = w5)
  case first =>
    cases b with
    | true =>
      obtain ⟨rfl, rfl⟩ := HT.out.1 rfl
      go_wp2_with fail
      go_meet
      exact ⟨rfl, rfl, rfl⟩
    | false =>
      have H0 := Lib.hid (HT.out.2 rfl)
      clear HT
      go_wp2_with fail
      go_meet
      exact ⟨by rw [H0.out.1], by rw [H0.out.2], rfl⟩
  case rest =>
  obtain ⟨rfl, rfl, rfl⟩ := hcut
  go_upto_region 7 with (fail)
  have c5 : wc.cell? ⟨q, 0, none⟩ = some (.slice A xs.length cap) := by rw [HB5.out.cell]; rfl
  refine wp_region_held_drew (S := fun wx => wx.cell? ⟨q, 0, none⟩ = some (.slice A xs.length cap)) (by kernel_rfl) c5 (fun hHeld => ?_)
  refine wpAnyH_take (i := 0) (v := (.int .i64 V)) rfl (by kernel_rfl) (by kernel_rfl) (by kernel_rfl) (fun _ _ _ h => h) (Or.inl ⟨by kernel_rfl, ?_⟩) (by with_reducible assumption) ?_
  focus (intro w hSw; (try dsimp only at hSw); go_simp)
  try simp only [Act.put, List.getElem_toArray, List.getElem_cons_succ, List.getElem_cons_zero, List.setIfInBounds_toArray, List.set_cons_zero, List.set_cons_succ]
  refine wpAnyH_take (i := 1) (v := (.int .i64 V)) rfl (by kernel_rfl) (by kernel_rfl) (by kernel_rfl) (fun _ _ _ h => h) (Or.inl ⟨by kernel_rfl, ?_⟩) (by with_reducible assumption) ?_
  focus (intro w hSw; (try dsimp only at hSw); go_simp)
  try simp only [Act.put, List.getElem_toArray, List.getElem_cons_succ, List.getElem_cons_zero, List.setIfInBounds_toArray, List.set_cons_zero, List.set_cons_succ]
  refine wpAnyH_take (i := 2) (v := (.bool true)) rfl (by kernel_rfl) (by kernel_rfl) (by kernel_rfl) (fun _ _ _ h => h) (Or.inl ⟨by kernel_rfl, ?_⟩) (by with_reducible assumption) ?_
  focus (intro w hSw; (try dsimp only at hSw); go_simp)
  try simp only [Act.put, List.getElem_toArray, List.getElem_cons_succ, List.getElem_cons_zero, List.setIfInBounds_toArray, List.set_cons_zero, List.set_cons_succ]
  refine wpAnyH_take (i := 3) (v := (.bool true)) rfl (by kernel_rfl) (by kernel_rfl) (by kernel_rfl) (fun _ _ _ h => h) (Or.inl ⟨by kernel_rfl, ?_⟩) (by with_reducible assumption) ?_
  focus (intro w hSw; (try dsimp only at hSw); go_simp)
  try simp only [Act.put, List.getElem_toArray, List.getElem_cons_succ, List.getElem_cons_zero, List.setIfInBounds_toArray, List.set_cons_zero, List.set_cons_succ]
  refine wpAnyH_take (i := 4) (v := (.bool B)) rfl (by kernel_rfl) (by kernel_rfl) (by kernel_rfl) (fun _ _ _ h => h) (Or.inl ⟨by kernel_rfl, ?_⟩) (by with_reducible assumption) ?_
  focus (intro w hSw; (try dsimp only at hSw); go_simp)
  try simp only [Act.put, List.getElem_toArray, List.getElem_cons_succ, List.getElem_cons_zero, List.setIfInBounds_toArray, List.set_cons_zero, List.set_cons_succ]
  refine wpAnyH_take (i := 5) (v := (.bool B)) rfl (by kernel_rfl) (by kernel_rfl) (by kernel_rfl) (fun _ _ _ h => h) (Or.inl ⟨by kernel_rfl, ?_⟩) (by with_reducible assumption) ?_
  focus (intro w hSw; (try dsimp only at hSw); go_simp)
  try simp only [Act.put, List.getElem_toArray, List.getElem_cons_succ, List.getElem_cons_zero, List.setIfInBounds_toArray, List.set_cons_zero, List.set_cons_succ]
  refine wpAnyH_take (i := 6) (v := (.bool true)) rfl (by kernel_rfl) (by kernel_rfl) (by kernel_rfl) (fun _ _ _ h => h) (Or.inl ⟨by kernel_rfl, ?_⟩) (by with_reducible assumption) ?_
  focus (intro w hSw; (try dsimp only at hSw); go_simp)
  try simp only [Act.put, List.getElem_toArray, List.getElem_cons_succ, List.getElem_cons_zero, List.setIfInBounds_toArray, List.set_cons_zero, List.set_cons_succ]
  refine wpAnyH_take (i := 7) (v := (.bool true)) rfl (by kernel_rfl) (by kernel_rfl) (by kernel_rfl) (fun _ _ _ h => h) (Or.inl ⟨by kernel_rfl, ?_⟩) (by with_reducible assumption) ?_
  focus (intro w hSw; (try dsimp only at hSw); go_simp)
  try simp only [Act.put, List.getElem_toArray, List.getElem_cons_succ, List.getElem_cons_zero, List.setIfInBounds_toArray, List.set_cons_zero, List.set_cons_succ]
  refine wpAnyH_take (i := 8) (v := (.bool true)) rfl (by kernel_rfl) (by kernel_rfl) (by kernel_rfl) (fun _ _ _ h => h) (Or.inl ⟨by kernel_rfl, ?_⟩) (by with_reducible assumption) ?_
  focus (intro w hSw; (try dsimp only at hSw); go_simp)
  try simp only [Act.put, List.getElem_toArray, List.getElem_cons_succ, List.getElem_cons_zero, List.setIfInBounds_toArray, List.set_cons_zero, List.set_cons_succ]
  refine wpAnyH_take (i := 9) (v := (.agg #[.slice A xs.length cap])) rfl (by kernel_rfl) (by kernel_rfl) (by kernel_rfl) (fun _ _ _ h => h) (Or.inl ⟨by kernel_rfl, ?_⟩) (by with_reducible assumption) ?_
  focus (intro w hSw; (try dsimp only at hSw); go_simp)
  try simp only [Act.put, List.getElem_toArray, List.getElem_cons_succ, List.getElem_cons_zero, List.setIfInBounds_toArray, List.set_cons_zero, List.set_cons_succ]
  refine wpAnyH_take (i := 11) (v := (.agg #[.slice A xs.length cap])) rfl (by kernel_rfl) (by kernel_rfl) (by kernel_rfl) (fun _ _ _ h => h) (Or.inl ⟨by kernel_rfl, ?_⟩) (by with_reducible assumption) ?_
  focus (intro w hSw; (try dsimp only at hSw); go_simp)
  try simp only [Act.put, List.getElem_toArray, List.getElem_cons_succ, List.getElem_cons_zero, List.setIfInBounds_toArray, List.set_cons_zero, List.set_cons_succ]
  refine wpAnyH_ready (rs := [10]) (by kernel_rfl) (by simp) ?_
  refine AllReadyH.cons rfl ?_ AllReadyH.nil
  intro K hK
  go_simp
  go_at_call 21
  refine (HE4.out _ HG5.out.drew).mono ?_
  rintro e w6 ⟨ja, rfl, ho, _, hg⟩
  have HO6 := Lib.hid ho
  have HG6 := Lib.hid (HG5.out.drew.trans hg (fun _ _ h => h))
  have HB6 := Lib.hid (HB5.out.drew.fr hg (fun h => h))
  have c6 : w6.cell? ⟨q, 0, none⟩ = some (.slice A xs.length cap) := by rw [HB6.out.cell]; rfl
  clear ho hg
  refine hK.out _ _ c6 (fun hHeld => ?_)
  clear hK K
  try simp only [Act.put, List.getElem_toArray, List.getElem_cons_succ, List.getElem_cons_zero, List.setIfInBounds_toArray, List.set_cons_zero, List.set_cons_succ]
  refine wpAnyH_ready (rs := [12]) (by kernel_rfl) (by simp) ?_
  refine AllReadyH.cons rfl ?_ AllReadyH.nil
  intro K hK
  go_simp
  go_at_call 26
  refine (HE5.out _ HG6.out).mono ?_
  rintro e w7 ⟨jb, rfl, ho, hg⟩
  have HO7 := Lib.hid ho
  have HO6' := Lib.hid (hg.owns HO6.out (fun _ _ h => h))
  have HG7 := Lib.hid (HG6.out.trans hg (fun _ _ h => h))
  have HB7 := Lib.hid (HB6.out.fr hg (fun h => h))
  have c7 : w7.cell? ⟨q, 0, none⟩ = some (.slice A xs.length cap) := by rw [HB7.out.cell]; rfl
  clear ho hg
  have HSa : SL Voc.encI w7 ja js := SL.of_own HO6'.out rfl
  have HSb : SL Voc.encI w7 jb js := SL.of_own HO7.out rfl
  have HIn := Lib.hid (Ints_any ja jb js js w7 HSa HSb Hj.out)
  clear HSa HSb
  rw [decide_eq_true rfl] at HIn
  refine hK.out _ _ c7 (fun hHeld => ?_)
  clear hK K
  try simp only [Act.put, List.getElem_toArray, List.getElem_cons_succ, List.getElem_cons_zero, List.setIfInBounds_toArray, List.set_cons_zero, List.set_cons_succ]
  refine wpAnyH_ready (rs := [13]) (by kernel_rfl) (by simp) ?_
  refine AllReadyH.cons rfl ?_ AllReadyH.nil
  intro K hK
  go_simp
  go_at_call 25
  refine HIn.out.mono ?_
  rintro e w8 ⟨rfl, hg⟩
  have HG8 := Lib.hid (HG7.out.trans hg.gr (fun _ _ h => h))
  have HB8 := Lib.hid (HB7.out.fr hg.gr (fun h => h))
  have c8 : w8.cell? ⟨q, 0, none⟩ = some (.slice A xs.length cap) := by rw [HB8.out.cell]; rfl
  clear hg
  refine hK.out _ _ c8 (fun hHeld => ?_)
  clear hK K
  try simp only [Act.put, List.getElem_toArray, List.getElem_cons_succ, List.getElem_cons_zero, List.setIfInBounds_toArray, List.set_cons_zero, List.set_cons_succ]
  refine wpAnyH_take (i := 14) (v := (.bool true)) rfl (by kernel_rfl) (by kernel_rfl) (by kernel_rfl) (fun _ _ _ h => h) (Or.inl ⟨by kernel_rfl, ?_⟩) (by with_reducible assumption) ?_
  focus (intro w hSw; (try dsimp only at hSw); go_simp)
  try simp only [Act.put, List.getElem_toArray, List.getElem_cons_succ, List.getElem_cons_zero, List.setIfInBounds_toArray, List.set_cons_zero, List.set_cons_succ]
  refine wpAnyH_take (i := 15) (v := (.bool true)) rfl (by kernel_rfl) (by kernel_rfl) (by kernel_rfl) (fun _ _ _ h => h) (Or.inl ⟨by kernel_rfl, ?_⟩) (by with_reducible assumption) ?_
  focus (intro w hSw; (try dsimp only at hSw); go_simp)
  try simp only [Act.put, List.getElem_toArray, List.getElem_cons_succ, List.getElem_cons_zero, List.setIfInBounds_toArray, List.set_cons_zero, List.set_cons_succ]
  refine wpAnyH_ready (rs := [16]) (by kernel_rfl) (by simp) ?_
  refine AllReadyH.cons rfl ?_ AllReadyH.nil
  intro K hK
  go_simp
  go_at_call 13
  refine (works_any w8).mono ?_
  rintro e w9 ⟨rfl, hg⟩
  have HG9 := Lib.hid (HG8.out.trans hg (fun _ _ h => h))
  have c9 := (hg.cell (p := ⟨q, 0, none⟩) HB8.out.lt (fun h => h)).trans c8
  clear hg
  refine hK.out _ _ c9 (fun hHeld => ?_)
  clear hK K
  try simp only [Act.put, List.getElem_toArray, List.getElem_cons_succ, List.getElem_cons_zero, List.setIfInBounds_toArray, List.set_cons_zero, List.set_cons_succ]
  refine wpAnyH_take (i := 17) (v := (.bool true)) rfl (by kernel_rfl) (by kernel_rfl) (by kernel_rfl) (fun _ _ _ h => h) (Or.inl ⟨by kernel_rfl, ?_⟩) (by with_reducible assumption) ?_
  focus (intro w hSw; (try dsimp only at hSw); go_simp)
  try simp only [Act.put, List.getElem_toArray, List.getElem_cons_succ, List.getElem_cons_zero, List.setIfInBounds_toArray, List.set_cons_zero, List.set_cons_succ]
  refine wpAnyH_take (i := 18) (v := (.bool true)) rfl (by kernel_rfl) (by kernel_rfl) (by kernel_rfl) (fun _ _ _ h => h) (Or.inl ⟨by kernel_rfl, ?_⟩) (by with_reducible assumption) ?_
  focus (intro w hSw; (try dsimp only at hSw); go_simp)
  try simp only [Act.put, List.getElem_toArray, List.getElem_cons_succ, List.getElem_cons_zero, List.setIfInBounds_toArray, List.set_cons_zero, List.set_cons_succ]
  refine wpAnyH_done (by kernel_rfl) ?_ _
  go_wp2_with fail
  go_ret
  exact ⟨rfl, HG9.out⟩
end Go.Proofs.Ytdogccgebgdlmaa
