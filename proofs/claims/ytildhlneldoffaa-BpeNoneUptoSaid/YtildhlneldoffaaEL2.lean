/- law 10: the walks of BpeBack and BpeNone. -/
import Derived.Test.YtildhlneldoffaaEL1
set_option linter.unusedVariables false
set_option linter.unusedSimpArgs false
namespace Go.Proofs.Ytildhlneldoffaa
open Go.RowKit
open Voc Bpe
set_option maxRecDepth 20000 in
set_option maxHeartbeats 4000000 in
theorem BpeBack_walk (w : World) (s0 : Value) (x0 : List Pc) (sl0 : SL encP w s0 x0) (wf0 : ∀ q ∈ x0, wfP q) (n0 : x0.length ≤ 1048576) (v1 : Value) (x1 : List Int) (sl1 : SL encB w v1 x1) (wf1 : ∀ x ∈ x1, (Lit.int .u8 x).wf = true) (n1 : x1.length ≤ 1048576) :
    Calls Try.prog 5 #[.agg #[s0], v1] w fun e w' => e = .returned (.bool true) ∧ Gr w w' := by
  obtain ⟨A, cap, rfl⟩ := SL.form sl0
  obtain ⟨A1, cap1, rfl⟩ := SL.form sl1
  have HS1 := Lib.hid sl1
  have HG := Lib.hid ((Fr.refl w NoneS).alloc (.cells #[.slice A x0.length cap] 24))
  have HB := Lib.hid (Blk.new w 24 #[.slice A x0.length cap])
  obtain ⟨q, hq⟩ : ∃ q, w.heap.size = q := ⟨_, rfl⟩
  rw [hq] at HB
  have HL := Lib.hid (long_any (sl0.gr HG.out) n0 x1.length n1)
  have HA := Lib.hid (fun wx (hg : Gr w wx) => encode_any (sl0.gr hg) (sl1.gr hg) wf0 (bs_in wf1) n0)
  have HD := Lib.hid (fun wx (hg : Gr w wx) v (l : List Int) (h : SL encI wx v l) (hl : l.length ≤ 1048576) => decode_any (sl0.gr hg) h wf0 n0 hl)
  have Hln := Lib.hid (enc_len x0 x1)
  have Hbk := Lib.hid (fun h => enc_back (xs := x0) (bs := x1) wf0 (bs_in wf1) h)
  have Hbd := Lib.hid (fun h => enc_bad (xs := x0) (bs := x1) h)
  obtain ⟨⟨L, E⟩, hE⟩ : ∃ y, encE x0 x1 = y := ⟨_, rfl⟩
  rw [hE] at HA Hln Hbk Hbd
  simp only at HA Hln Hbk Hbd
  have Hn1 := Lib.hid n1
  clear sl0 sl1 wf0 wf1 hE
  obtain ⟨b, hb⟩ : ∃ b, decide (500 < x0.length ∨ (300 < x1.length ∧ x1.length ≤ 4096)) = b := ⟨_, rfl⟩
  rw [hb] at HL
  clear hb
  have hx1 : (x1.length : Int) ≤ 1048576 := by omega
  have hL1 : (L.length : Int) ≤ (x1.length : Int) := by have := Hln.out; omega
  go_enter Try.func5, Try.ntmps5
  go_upto_region 1 with (fail)
  clear hq
  generalize hx : World.alloc w _ = wa at HG HB HL ⊢
  clear hx
  have c0 : wa.cell? ⟨q, 0, none⟩ = some (.slice A x0.length cap) := by rw [HB.out.cell]; rfl
  cases b with
  | true =>
    go_wp2_with (first
      | (go_at_call 13; refine HL.out.mono ?_; rintro e w2 ⟨rfl, hg⟩; have HG2 := Lib.hid (HG.out.trans hg (fun _ _ h => h)); clear hg)
      | (go_at_call 14; refine (works_any _).mono ?_; rintro e wz ⟨rfl, hg⟩; have HGz := Lib.hid hg; clear hg))
    go_ret
    exact ⟨rfl, HG2.out.trans HGz.out (fun _ _ h => h)⟩
  | false =>
    go_upto_region 3 with (go_at_call 13; refine HL.out.mono ?_; rintro e w2 ⟨rfl, hg⟩; have HG2 := Lib.hid (HG.out.trans hg (fun _ _ h => h)); have HB2 := Lib.hid (HB.out.fr hg (fun h => h)); clear hg)
    have c2 : w2.cell? ⟨q, 0, none⟩ = some (.slice A x0.length cap) := by rw [HB2.out.cell]; rfl
    go_upto_region 4 with (go_at_call 15; refine (HA.out _ HG2.out).mono ?_; rintro e w3 ⟨ra, rfl, ho, hg⟩; have HO3 := Lib.hid ho; have HG3 := Lib.hid (HG2.out.trans hg (fun _ _ h => h)); have HB3 := Lib.hid (HB2.out.fr hg (fun h => h)); clear ho hg)
    obtain ⟨Ar, cr, rfl⟩ := own_formN HO3.out.own
    have c3 : w3.cell? ⟨q, 0, none⟩ = some (.slice A x0.length cap) := by rw [HB3.out.cell]; rfl
    clear c0 c2
    by_cases hE0 : E = 0
    case neg =>
      have hL0 := Hbd.out hE0
      have Hne := Lib.hid hE0
      have hE1 : (E != 0) = true := bne_iff_ne.2 hE0
      subst hL0
      clear hE0
      go_wp2_with (go_at_call 14; refine (works_any _).mono ?_; rintro e wz ⟨rfl, hg⟩; have HGz := Lib.hid hg; clear hg)
      go_ret
      exact ⟨rfl, HG3.out.trans HGz.out (fun _ _ h => h)⟩
    subst hE0
    have hbk := Hbk.out rfl
    have HDc := Lib.hid (fun wx (hg : Gr w wx) v (h : SL encI wx v L) => HD.out wx hg v L h (by have := Hln.out; have := Hn1.out; omega))
    rw [hbk] at HDc
    clear hbk
    go_upto_region 7 with (go_at_call 18; refine (HDc.out _ HG3.out _ HO3.out.sl).mono ?_; rintro e w4 ⟨rb, rfl, ho, hg⟩; have HP4 := Lib.hid ho.sl; have HG4 := Lib.hid (HG3.out.trans hg (fun _ _ h => h)); clear ho hg)
    have HI := Lib.hid (same_any _ _ x1 x1 w4 (HS1.out.gr HG4.out) HP4.out (by have := Hn1.out; omega))
    rw [show decide (x1 = x1) = true from decide_eq_true rfl] at HI
    clear c3
    go_wp2_with (first
      | (go_at_call 20; refine HI.out.mono ?_; rintro e w5 ⟨rfl, hd⟩; have HD5 := Lib.hid hd.gr; clear hd)
      | (go_at_call 14; refine (works_any _).mono ?_; rintro e wz ⟨rfl, hg⟩; have HGz := Lib.hid hg; clear hg))
    go_ret
    exact ⟨rfl, (HG4.out.trans HD5.out (fun _ _ h => h)).trans HGz.out (fun _ _ h => h)⟩
set_option maxRecDepth 20000 in
set_option maxHeartbeats 4000000 in
theorem BpeNone_walk (w : World) (s0 : Value) (x0 : List Pc) (sl0 : SL encP w s0 x0) (wf0 : ∀ q ∈ x0, wfP q) (n0 : x0.length ≤ 1048576) (v1 : Value) (x1 : List Int) (sl1 : SL encB w v1 x1) (wf1 : ∀ x ∈ x1, (Lit.int .u8 x).wf = true) (n1 : x1.length ≤ 1048576) :
    Calls Try.prog 7 #[.agg #[s0], v1] w fun e w' => e = .returned (.bool true) ∧ Gr w w' := by
  obtain ⟨A, cap, rfl⟩ := SL.form sl0
  obtain ⟨A1, cap1, rfl⟩ := SL.form sl1
  have HG := Lib.hid ((Fr.refl w NoneS).alloc (.cells #[.slice A x0.length cap] 24))
  have HB := Lib.hid (Blk.new w 24 #[.slice A x0.length cap])
  obtain ⟨q, hq⟩ : ∃ q, w.heap.size = q := ⟨_, rfl⟩
  rw [hq] at HB
  have HL := Lib.hid (long_any (sl0.gr HG.out) n0 x1.length n1)
  have HA := Lib.hid (fun wx (hg : Gr w wx) => encode_any (sl0.gr hg) (sl1.gr hg) wf0 (bs_in wf1) n0)
  have HF := Lib.hid (fun wx (hg : Gr w wx) (a b : Int) => rfind_any a b (sl0.gr hg) n0)
  have Hln := Lib.hid (enc_len x0 x1)
  have Hbd := Lib.hid (fun h => enc_bad (xs := x0) (bs := x1) h)
  have Hno := Lib.hid (show (encE x0 x1).2 = 0 → ∀ i, i + 1 < (encE x0 x1).1.length → fndF ((encE x0 x1).1.getD i 0) ((encE x0 x1).1.getD (i + 1) 0) x0 = none from fun h i hi => by
    obtain ⟨_, _, he⟩ := enc_ok h
    rw [he] at hi ⊢
    exact enc_none _ i hi)
  obtain ⟨⟨L, E⟩, hE⟩ : ∃ y, encE x0 x1 = y := ⟨_, rfl⟩
  rw [hE] at HA Hln Hbd Hno
  simp only at HA Hln Hbd Hno
  clear sl0 sl1 wf0 wf1 hE
  obtain ⟨b, hb⟩ : ∃ b, decide (500 < x0.length ∨ (300 < x1.length ∧ x1.length ≤ 4096)) = b := ⟨_, rfl⟩
  rw [hb] at HL
  clear hb
  have hx1 : (x1.length : Int) ≤ 1048576 := by omega
  have hL1 : (L.length : Int) ≤ (x1.length : Int) := by have := Hln.out; omega
  go_enter Try.func7, Try.ntmps7
  go_upto_region 1 with (fail)
  clear hq
  generalize hx : World.alloc w _ = wa at HG HB HL ⊢
  clear hx
  have c0 : wa.cell? ⟨q, 0, none⟩ = some (.slice A x0.length cap) := by rw [HB.out.cell]; rfl
  cases b with
  | true =>
    go_wp2_with (first
      | (go_at_call 13; refine HL.out.mono ?_; rintro e w2 ⟨rfl, hg⟩; have HG2 := Lib.hid (HG.out.trans hg (fun _ _ h => h)); clear hg)
      | (go_at_call 14; refine (works_any _).mono ?_; rintro e wz ⟨rfl, hg⟩; have HGz := Lib.hid hg; clear hg))
    go_ret
    exact ⟨rfl, HG2.out.trans HGz.out (fun _ _ h => h)⟩
  | false =>
    by_cases h60 : 60 < x1.length
    · have h6 : (60 : Int) < (x1.length : Int) := by omega
      clear h60
      go_wp2_with (first
        | (go_at_call 13; refine HL.out.mono ?_; rintro e w2 ⟨rfl, hg⟩; have HG2 := Lib.hid (HG.out.trans hg (fun _ _ h => h)); clear hg)
        | (go_at_call 14; refine (works_any _).mono ?_; rintro e wz ⟨rfl, hg⟩; have HGz := Lib.hid hg; clear hg))
      go_ret
      exact ⟨rfl, HG2.out.trans HGz.out (fun _ _ h => h)⟩
    have h6 : ¬ (60 : Int) < (x1.length : Int) := by omega
    clear h60
    go_upto_region 3 with (go_at_call 13; refine HL.out.mono ?_; rintro e w2 ⟨rfl, hg⟩; have HG2 := Lib.hid (HG.out.trans hg (fun _ _ h => h)); have HB2 := Lib.hid (HB.out.fr hg (fun h => h)); clear hg)
    have c2 : w2.cell? ⟨q, 0, none⟩ = some (.slice A x0.length cap) := by rw [HB2.out.cell]; rfl
    go_upto_region 4 with (go_at_call 15; refine (HA.out _ HG2.out).mono ?_; rintro e w3 ⟨ra, rfl, ho, hg⟩; have HO3 := Lib.hid ho; have HG3 := Lib.hid (HG2.out.trans hg (fun _ _ h => h)); have HB3 := Lib.hid (HB2.out.fr hg (fun h => h)); clear ho hg)
    obtain ⟨Ar, cr, rfl⟩ := own_formN HO3.out.own
    clear c0 c2
    by_cases hE0 : E = 0
    case neg =>
      have hL0 := Hbd.out hE0
      have hE1 : (E != 0) = true := bne_iff_ne.2 hE0
      subst hL0
      clear hE0
      go_wp2_with (go_at_call 14; refine (works_any _).mono ?_; rintro e wz ⟨rfl, hg⟩; have HGz := Lib.hid hg; clear hg)
      go_ret
      exact ⟨rfl, HG3.out.trans HGz.out (fun _ _ h => h)⟩
    subst hE0
    have Hn := Lib.hid (Hno.out rfl)
    go_wp2_with fail
    go_loopg [7] (L.length + 1) (fun m s7 wr => ∃ k : Nat, s7 = .int .i64 k ∧ Hid (k ≤ L.length ∧ L.length - k < m) ∧ Hid (Gr w3 wr))
    case atStart => exact ⟨0, rfl, ⟨Nat.zero_le _, by omega⟩, Fr.refl _ _⟩
    case round =>
      obtain ⟨k, rfl, HK, HD⟩ := hrel
      have f0 : wr.cell? ⟨q, 0, none⟩ = some (.slice A x0.length cap) := by rw [(HB3.out.fr HD.out (fun h => h)).cell]; rfl
      by_cases hk : k + 1 < L.length
      · obtain ⟨ba, oa, rfl, hba, hcell⟩ := (HO3.out.sl.gr HD.out).at_ (s := 1) (fun _ => rfl) rfl (show k < L.length by omega)
        have d0 := hcell 0 (by omega)
        obtain ⟨ba2, oa2, hA2, hba2, hcell2⟩ := (HO3.out.sl.gr HD.out).at_ (s := 1) (fun _ => rfl) rfl hk
        injection hA2 with hA2
        injection hA2 with e1 e2
        subst e1 e2
        have d1 := hcell2 0 (by omega)
        simp [encI] at d0 d1
        have ex : L[k]'(by omega) = L.getD k 0 := by rw [List.getD_eq_getElem?_getD, List.getElem?_eq_getElem (show k < L.length by omega)]; rfl
        have ey : L[k + 1]'hk = L.getD (k + 1) 0 := by rw [List.getD_eq_getElem?_getD, List.getElem?_eq_getElem hk]; rfl
        rw [ex] at d0
        rw [ey] at d1
        have HFx := Lib.hid (HF.out wr.drew ((HG3.out.trans HD.out (fun _ _ h => h)).drew) (L.getD k 0) (L.getD (k + 1) 0))
        rw [Hn.out k hk] at HFx
        simp only [fndV, Option.isSome_none] at HFx
        generalize L.getD k 0 = x at d0 HFx
        generalize L.getD (k + 1) 0 = y at d1 HFx
        have hki : (k : Int) + 1 < (L.length : Int) := by omega
        have hw1 : IntKind.i64.wrap ((k : Int) + 1) = (k : Int) + 1 := IntWalk.i64_in _ ⟨by omega, by omega⟩
        have hk1 : ((k : Int) + 1).toNat = k + 1 := by omega
        have hk2 : (k : Int) < (L.length : Int) := by omega
        have hk0 : (0 : Int) ≤ (k : Int) + 1 := by omega
        have Hk := Lib.hid hk
        have Hlt := Lib.hid (And.intro (HB3.out.fr HD.out (fun h => h)).lt hba)
        clear hcell hcell2 hba hba2 ex ey hk
        go_upto_region 9 with (fail)
        go_region_held3 (fun wx => wx.cell? ⟨q, 0, none⟩ = some (.slice A x0.length cap) ∧ wx.cell? ⟨ba, oa + k, none⟩ = some (.int .i64 x) ∧ wx.cell? ⟨ba, oa + (k + 1), none⟩ = some (.int .i64 y))
          (first | with_reducible exact ⟨f0', d0', d1'⟩ | exact ⟨f0, d0, d1⟩)
          (first | (go_at_call 22
                    refine HFx.out.mono ?_
                    rintro e w5 ⟨rfl, hg⟩
                    have HG5 := Lib.hid (((Fr.refl wr NoneS).drew).trans hg (fun _ _ h => h))
                    have f0' := (HG5.out.cell (p := ⟨q, 0, none⟩) Hlt.out.1 (fun h => h)).trans f0
                    have d0' := (HG5.out.cell (p := ⟨ba, oa + k, none⟩) Hlt.out.2 (fun h => h)).trans d0
                    have d1' := (HG5.out.cell (p := ⟨ba, oa + (k + 1), none⟩) Hlt.out.2 (fun h => h)).trans d1
                    clear hg))
        clear f0 d0 d1 f0' d0' d1' hw1 hk1 hk0
        go_wp2_with fail
        go_roundg (gk - 1)
        case measure => have := HK.out; have := Hk.out; omega
        case rel => exact ⟨k + 1, by go_num, ⟨by have := Hk.out; omega, by have := HK.out; have := Hk.out; omega⟩, HD.out.trans HG5.out (fun _ _ h => h)⟩
      · have hk1 : decide ((k : Int) + 1 < (L.length : Int)) = false := decide_eq_false (by omega)
        have hk2 : (L.length : Int) ≤ (k : Int) + 1 := by omega
        have hkb : (k : Int) ≤ 1048576 := by have := HK.out; omega
        go_wp2_with (go_at_call 14; refine (works_any _).mono ?_; rintro e wz ⟨rfl, hg⟩; have HGz := Lib.hid hg; clear hg)
        go_ret
        exact ⟨rfl, (HG3.out.trans HD.out (fun _ _ h => h)).trans HGz.out (fun _ _ h => h)⟩
end Go.Proofs.Ytildhlneldoffaa
