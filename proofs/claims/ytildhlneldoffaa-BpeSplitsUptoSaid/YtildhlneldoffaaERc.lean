/- the reference's step. -/
import Derived.Test.YtildhlneldoffaaERb
set_option linter.unusedVariables false
set_option linter.unusedSimpArgs false
namespace Go.Proofs.Ytildhlneldoffaa
open Go.RowKit
open Voc
namespace Bpe
def wh (o : Option (Nat × Nat)) : Nat := match o with | some (i, _) => i | none => 0
def wi (o : Option (Nat × Nat)) : Nat := match o with | some (_, t) => t | none => 0
theorem scan_lt {xs : List Pc} {l : List Int} {k i t : Nat} (h : scan xs l k = some (i, t)) : t < xs.length := fndAt_lt (scan_some h).2.1
set_option maxRecDepth 20000 in
set_option maxHeartbeats 3200000 in
theorem rstep_any {w : World} {v vl : Value} {xs : List Pc} {l : List Int} (HS : SL encP w v xs) (HV : SL encI w vl l) (hl : xs.length ≤ 1048576) (hll : l.length ≤ 1048576) :
    Calls Try.prog 41 #[.agg #[v], vl] w fun e w' => e = .returned (.tuple #[.int .i64 (wh (stepR xs l)), .int .i64 (wi (stepR xs l)), .bool (stepR xs l).isSome]) ∧ Gr w w' := by
  obtain ⟨A, cap, rfl⟩ := SL.form HS
  obtain ⟨A2, cap2, rfl⟩ := SL.form HV
  have HG := Lib.hid ((Fr.refl w NoneS).alloc (.cells #[.slice A xs.length cap] 24))
  have HB := Lib.hid (Blk.new w 24 #[.slice A xs.length cap])
  have HS0 := Lib.hid HS
  have HV0 := Lib.hid HV
  have HF := Lib.hid (fun wx (hg : Gr w wx) (a b : Int) => rfind_any a b (HS.gr hg) hl)
  have hxi : (xs.length : Int) ≤ 1048576 := by omega
  have hli : (l.length : Int) ≤ 1048576 := by omega
  clear HS HV hl
  obtain ⟨R, hR⟩ : ∃ R, stepR xs l = R := ⟨_, rfl⟩
  rw [hR]
  have HR := Lib.hid hR
  clear hR
  go_enter Try.func41, Try.ntmps41
  go_upto_region 1 with (fail)
  generalize w.heap.size = q1 at HB ⊢
  generalize World.alloc w _ = w1 at HG HB ⊢
  go_wp2_with fail
  go_loopg [7, 8, 9, 10] (l.length + 1) (fun m s7 s8 s9 s10 wr => ∃ (k : Nat) (o : Option (Nat × Nat)), s10 = .int .i64 k ∧ s7 = .int .i64 (wh o) ∧ s8 = .int .i64 (wi o) ∧ s9 = .bool o.isSome ∧ Hid (k ≤ l.length - 1 ∧ l.length - k < m ∧ scan xs l k = o) ∧ Hid (Gr w1 wr))
  case atStart => exact ⟨0, none, rfl, rfl, rfl, rfl, ⟨Nat.zero_le _, by omega, rfl⟩, Fr.refl _ _⟩
  case round =>
    obtain ⟨k, o, rfl, rfl, rfl, rfl, HK, HD⟩ := hrel
    have f0 : wr.cell? ⟨q1, 0, none⟩ = some (.slice A xs.length cap) := by rw [(HB.out.fr HD.out (fun h => h)).cell]; rfl
    have HGr := Lib.hid (HG.out.trans HD.out (fun _ _ h => h))
    by_cases hk : k + 1 < l.length
    · obtain ⟨ba, oa, rfl, hba, hcell⟩ := (HV0.out.gr HGr.out).at_ (s := 1) (fun _ => rfl) rfl (show k < l.length by omega)
      have d0 := hcell 0 (by omega)
      obtain ⟨ba2, oa2, hA2, hba2, hcell2⟩ := (HV0.out.gr HGr.out).at_ (s := 1) (fun _ => rfl) rfl hk
      injection hA2 with hA2
      injection hA2 with e1 e2
      subst e1 e2
      have d1 := hcell2 0 (by omega)
      simp [encI] at d0 d1
      have ex : l[k]'(by omega) = l.getD k 0 := by rw [List.getD_eq_getElem?_getD, List.getElem?_eq_getElem (show k < l.length by omega)]; rfl
      have ey : l[k + 1]'hk = l.getD (k + 1) 0 := by rw [List.getD_eq_getElem?_getD, List.getElem?_eq_getElem hk]; rfl
      rw [ex] at d0
      rw [ey] at d1
      obtain ⟨x, hx⟩ : ∃ x, l.getD k 0 = x := ⟨_, rfl⟩
      obtain ⟨y, hy⟩ : ∃ y, l.getD (k + 1) 0 = y := ⟨_, rfl⟩
      rw [hx] at d0
      rw [hy] at d1
      have Hsc := Lib.hid (show scan xs l (k + 1) = match fndF x y xs with | none => o | some t => better xs o k t from by
        simp only [scan]
        rw [HK.out.2.2]
        unfold fndAt
        rw [hx, hy]; rfl)
      have hki : (k : Int) + 1 < (l.length : Int) := by omega
      have hw1 : IntKind.i64.wrap ((k : Int) + 1) = (k : Int) + 1 := IntWalk.i64_in _ ⟨by omega, by omega⟩
      have hk1 : ((k : Int) + 1).toNat = k + 1 := by omega
      have hk2 : (k : Int) < (l.length : Int) := by omega
      have hk0 : (0 : Int) ≤ (k : Int) + 1 := by omega
      have Hk := Lib.hid hk
      have Hlt := Lib.hid (And.intro (HB.out.fr HD.out (fun h => h)).lt hba)
      have HFx := Lib.hid (HF.out wr.drew (HGr.out.drew) x y)
      clear hcell hcell2 hba hba2 ex ey hx hy hk
      cases hf : fndF x y xs with
      | none =>
        rw [hf] at HFx Hsc
        simp only [fndV, Option.isSome_none] at HFx Hsc
        clear hf
        go_upto_region 5 with (fail)
        go_region_held3 (fun wx => wx.cell? ⟨q1, 0, none⟩ = some (.slice A xs.length cap) ∧ wx.cell? ⟨ba, oa + k, none⟩ = some (.int .i64 x) ∧ wx.cell? ⟨ba, oa + (k + 1), none⟩ = some (.int .i64 y))
          (first | with_reducible exact ⟨f0', d0', d1'⟩ | exact ⟨f0, d0, d1⟩)
          (first | (go_at_call 22
                    refine HFx.out.mono ?_
                    rintro e w5 ⟨rfl, hg⟩
                    have HG5 := Lib.hid (((Fr.refl wr NoneS).drew).trans hg (fun _ _ h => h))
                    have f0' := (HG5.out.cell (p := ⟨q1, 0, none⟩) Hlt.out.1 (fun h => h)).trans f0
                    have d0' := (HG5.out.cell (p := ⟨ba, oa + k, none⟩) Hlt.out.2 (fun h => h)).trans d0
                    have d1' := (HG5.out.cell (p := ⟨ba, oa + (k + 1), none⟩) Hlt.out.2 (fun h => h)).trans d1
                    clear hg))
        clear f0 d0 d1 d0' d1' hw1 hk1 hk0
        have HD5 := Lib.hid (HD.out.trans HG5.out (fun _ _ h => h))
        go_upto_region 6 with (fail)
        go_quiet (fail)
        go_wp2_with fail
        go_roundg (gk - 1)
        case measure => have := HK.out; have := Hk.out; omega
        case rel => exact ⟨k + 1, o, by go_num, rfl, rfl, rfl, ⟨by have := Hk.out; omega, by have := HK.out; have := Hk.out; omega, Hsc.out⟩, HD5.out.drewN _⟩
      | some t =>
        rw [hf] at HFx Hsc
        simp only [fndV, Option.isSome_some] at HFx Hsc
        have Htl := Lib.hid (show t < xs.length from by
          obtain ⟨q, h1, _⟩ := fndF_some xs t hf
          exact (List.getElem?_eq_some_iff.1 h1).1)
        clear hf
        go_upto_region 5 with (fail)
        go_region_held3 (fun wx => wx.cell? ⟨q1, 0, none⟩ = some (.slice A xs.length cap) ∧ wx.cell? ⟨ba, oa + k, none⟩ = some (.int .i64 x) ∧ wx.cell? ⟨ba, oa + (k + 1), none⟩ = some (.int .i64 y))
          (first | with_reducible exact ⟨f0', d0', d1'⟩ | exact ⟨f0, d0, d1⟩)
          (first | (go_at_call 22
                    refine HFx.out.mono ?_
                    rintro e w5 ⟨rfl, hg⟩
                    have HG5 := Lib.hid (((Fr.refl wr NoneS).drew).trans hg (fun _ _ h => h))
                    have f0' := (HG5.out.cell (p := ⟨q1, 0, none⟩) Hlt.out.1 (fun h => h)).trans f0
                    have d0' := (HG5.out.cell (p := ⟨ba, oa + k, none⟩) Hlt.out.2 (fun h => h)).trans d0
                    have d1' := (HG5.out.cell (p := ⟨ba, oa + (k + 1), none⟩) Hlt.out.2 (fun h => h)).trans d1
                    clear hg))
        clear f0 d0 d1 d0' d1' hw1 hk1 hk0
        have HD5 := Lib.hid (HD.out.trans HG5.out (fun _ _ h => h))
        obtain ⟨bv, ov, rfl, hbv, hcv⟩ := (HS0.out.gr (HG.out.trans HD5.out (fun _ _ h => h))).at_ (s := 5) (fun _ => rfl) rfl Htl.out
        have r4 := hcv 4 (by omega)
        have hrk : rk xs t = (xs[t]'Htl.out).k := by unfold rk; rw [List.getElem?_eq_getElem Htl.out]
        simp [encP] at r4
        rw [← hrk, ← Nat.add_assoc] at r4
        have hti : (t : Int) < (xs.length : Int) := by have := Htl.out; omega
        clear hrk hcv
        cases ho : o with
        | none =>
          subst ho
          simp only [better] at Hsc
          clear r4
          go_upto_region 6 with (fail)
          go_quiet (fail)
          go_wp2_with fail
          go_roundg (gk - 1)
          case measure => have := HK.out; have := Hk.out; omega
          case rel => exact ⟨k + 1, some (k, t), by go_num, rfl, rfl, rfl, ⟨by have := Hk.out; omega, by have := HK.out; have := Hk.out; omega, Hsc.out⟩, HD5.out.drewN _⟩
        | some ab =>
          obtain ⟨a, b⟩ := ab
          subst ho
          simp only [better] at Hsc
          have Hbl := Lib.hid (scan_lt HK.out.2.2)
          obtain ⟨bv2, ov2, hA2, _, hcv⟩ := (HS0.out.gr (HG.out.trans HD5.out (fun _ _ h => h))).at_ (s := 5) (fun _ => rfl) rfl Hbl.out
          injection hA2 with hA2
          injection hA2 with e1 e2
          subst e1 e2
          have s4 := hcv 4 (by omega)
          have hrk : rk xs b = (xs[b]'Hbl.out).k := by unfold rk; rw [List.getElem?_eq_getElem Hbl.out]
          simp [encP] at s4
          rw [← hrk, ← Nat.add_assoc] at s4
          have hbi : (b : Int) < (xs.length : Int) := by have := Hbl.out; omega
          clear hrk hcv
          simp only [wh, wi, Option.isSome_some]
          generalize rk xs t = r1 at r4 Hsc
          generalize rk xs b = r2 at s4 Hsc
          by_cases hr : r1 < r2
          · rw [if_pos hr] at Hsc
            have hr1 : decide (r1 < r2) = true := decide_eq_true hr
            clear hr
            go_upto_region 6 with (fail)
            go_quiet (fail)
            go_wp2_with fail
            go_roundg (gk - 1)
            case measure => have := HK.out; have := Hk.out; omega
            case rel => exact ⟨k + 1, some (k, t), by go_num, rfl, rfl, rfl, ⟨by have := Hk.out; omega, by have := HK.out; have := Hk.out; omega, Hsc.out⟩, HD5.out.drewN _⟩
          · rw [if_neg hr] at Hsc
            have hr1 : decide (r1 < r2) = false := decide_eq_false hr
            clear hr
            go_upto_region 6 with (fail)
            go_quiet (fail)
            go_wp2_with fail
            go_roundg (gk - 1)
            case measure => have := HK.out; have := Hk.out; omega
            case rel => exact ⟨k + 1, some (a, b), by go_num, rfl, rfl, rfl, ⟨by have := Hk.out; omega, by have := HK.out; have := Hk.out; omega, Hsc.out⟩, HD5.out.drewN _⟩
    · have hk1 : decide ((k : Int) + 1 < (l.length : Int)) = false := decide_eq_false (by omega)
      have hk2 : (l.length : Int) ≤ (k : Int) + 1 := by omega
      have hkb : (k : Int) ≤ 1048576 := by have := HK.out; omega
      have Hk := Lib.hid (show o = R from by rw [← HR.out, ← HK.out.2.2]; unfold stepR; rw [show l.length - 1 = k by have := HK.out; omega])
      go_wp2_with fail
      go_ret3
      rw [← Hk.out]
      exact ⟨rfl, HG.out.trans HD.out (fun _ _ h => h)⟩
end Bpe
end Go.Proofs.Ytildhlneldoffaa
