/- The walk of VocabChecks. -/
import Derived.Test.YtdogccgebgdlmaaVWk
import Derived.Test.YtdogccgebgdlmaaVRd
set_option linter.unusedVariables false
set_option linter.unusedSimpArgs false
namespace Go.Proofs.Ytdogccgebgdlmaa
open Go.RowKit
open Voc
set_option maxRecDepth 20000 in
set_option maxHeartbeats 1600000 in
theorem VocabChecks_walk (w : World) (v : Value) (xs : List Pc) (hs : SL encP w v xs) (hw : ∀ x ∈ xs, wfP x) (hl : xs.length ≤ 1048576) :
    Calls Try.prog 3 #[.agg #[v]] w fun e w' => e = .returned (.bool true) ∧ Gr w w' := by
  have HS := Lib.hid hs
  obtain ⟨A, cap, rfl⟩ := SL.form hs
  have HG := Lib.hid ((Fr.refl w NoneS).alloc (.cells #[.slice A xs.length cap] 24))
  have HB := Lib.hid (Blk.new w 24 #[.slice A xs.length cap])
  have HW := Lib.hid hw
  have Hl := Lib.hid hl
  have HC := Lib.hid (show 4096 < xs.length → (checkE xs).1 = 3 ∧ (checkE xs).2 = 0 from fun h => by unfold checkE; rw [if_pos h]; exact ⟨rfl, rfl⟩)
  obtain ⟨⟨E, at_⟩, hE⟩ : ∃ x, checkE xs = x := ⟨_, rfl⟩
  have HE := Lib.hid hE
  rw [hE] at HC
  clear hs hw hl hE
  go_enter Try.func3, Try.ntmps3
  go_upto_region 1 with (fail)
  generalize World.alloc w _ = w1 at HB HG ⊢
  obtain ⟨q, hq⟩ : ∃ q, w.heap.size = q := ⟨_, rfl⟩
  rw [hq] at HB ⊢
  have c0 : w1.cell? ⟨q, 0, none⟩ = some (.slice A xs.length cap) := by rw [HB.out.cell]; rfl
  clear hq
  have HM := Lib.hid (many_any (HS.out.gr HG.out))
  by_cases h7 : 700 < xs.length
  · rw [decide_eq_true h7] at HM
    have h7' : (700 : Int) < xs.length := by omega
    have HK := Lib.hid (check_any (HS.out.gr HG.out) HW.out Hl.out)
    rw [HE.out] at HK
    go_upto_region 2 with (
      go_at_call 11
      refine HM.out.mono ?_
      rintro e w2 ⟨rfl, hg⟩
      have HG2 := Lib.hid hg
      have HK2 := Lib.hid (check_any ((HS.out.gr HG.out).gr hg) HW.out Hl.out)
      rw [HE.out] at HK2
      have c2 := (hg.cell (p := ⟨q, 0, none⟩) HB.out.lt (fun h => h)).trans c0
      clear hg)
    go_upto_region 3 with (
      go_at_call 12
      refine HK2.out.mono ?_
      rintro e w3 ⟨rfl, hg⟩
      have HG3 := Lib.hid hg
      have c3 := (hg.cell (p := ⟨q, 0, none⟩) (Nat.lt_of_lt_of_le HB.out.lt HG2.out.size) (fun h => h)).trans c2
      clear hg)
    have HG4 := Lib.hid ((HG.out.trans HG2.out (fun _ _ h => h)).trans HG3.out (fun _ _ h => h))
    by_cases h4 : 4096 < xs.length
    · obtain ⟨e1, e2⟩ := HC.out h4
      subst e1 e2
      have h4' : (xs.length : Int) > 4096 := by omega
      have hn4 : decide ((xs.length : Int) ≤ 4096) = false := decide_eq_false (by omega)
      go_wp2_with (go_at_call 13; refine (works_any w3).mono ?_; rintro e w4 ⟨rfl, hg⟩; have HG5 := Lib.hid hg; clear hg)
      go_ret
      exact ⟨rfl, HG4.out.trans HG5.out (fun _ _ h => h)⟩
    · have h4' : (xs.length : Int) ≤ 4096 := by omega
      go_wp2_with (go_at_call 13; refine (works_any w3).mono ?_; rintro e w4 ⟨rfl, hg⟩; have HG5 := Lib.hid hg; clear hg)
      go_ret
      exact ⟨rfl, HG4.out.trans HG5.out (fun _ _ h => h)⟩
  · rw [decide_eq_false h7] at HM
    go_upto_region 4 with (
      go_at_call 11
      refine HM.out.mono ?_
      rintro e w2 ⟨rfl, hg⟩
      have HG2 := Lib.hid hg
      have HK2 := Lib.hid (check_any ((HS.out.gr HG.out).gr hg) HW.out Hl.out)
      rw [HE.out] at HK2
      have c2 := (hg.cell (p := ⟨q, 0, none⟩) HB.out.lt (fun h => h)).trans c0
      clear hg)
    go_upto_region 5 with (
      go_at_call 12
      refine HK2.out.mono ?_
      rintro e w3 ⟨rfl, hg⟩
      have HG3 := Lib.hid hg
      have HK3 := Lib.hid (rcheck_any (((HS.out.gr HG.out).gr HG2.out).gr hg) HW.out Hl.out)
      rw [HE.out] at HK3
      have c3 := (hg.cell (p := ⟨q, 0, none⟩) (Nat.lt_of_lt_of_le HB.out.lt HG2.out.size) (fun h => h)).trans c2
      clear hg)
    go_upto_region 6 with (
      go_at_call 14
      refine HK3.out.mono ?_
      rintro e w4 ⟨rfl, hg⟩
      have HG4 := Lib.hid hg
      clear hg)
    go_wp2_with (go_at_call 13; refine (works_any w4).mono ?_; rintro e w5 ⟨rfl, hg⟩; have HG5 := Lib.hid hg; clear hg)
    go_ret
    exact ⟨rfl, (((HG.out.trans HG2.out (fun _ _ h => h)).trans HG3.out (fun _ _ h => h)).trans HG4.out (fun _ _ h => h)).trans HG5.out (fun _ _ h => h)⟩
end Go.Proofs.Ytdogccgebgdlmaa
