/- law 9: VocfileFresh. -/
import Derived.Test.YtmjpghaggnpdbaaGLc
import Derived.Test.YtmjpghaggnpdbaaFvoc
import Derived.Test.YtmjpghaggnpdbaaFwide
set_option linter.unusedVariables false
set_option linter.unusedSimpArgs false
namespace Go.Proofs.Ytmjpghaggnpdbaa
open Go.RowKit
open Voc Leb Crc Vf
theorem row_blk {w : World} {B n cx : Nat} {Ax : Option Addr} {cs : List Value} (h : w.ownsRow B TPc 5 (.slice Ax n cx) n cs) : 0 < n → ∃ g cur, Ax = some ⟨g, 0, none⟩ ∧ Blk w g TPc cur ∧ n * 5 ≤ cur.size ∧ B ≤ g := by
  intro hn
  rcases h.2 with ⟨h1, h0⟩ | ⟨g, cap, cur, heq, hb, hg, hnc, hcm, hcs, htake⟩
  · omega
  · injection heq with e1 e2 e3
    subst e1 e3
    exact ⟨g, cur, rfl, hg, by rw [hcs]; exact Nat.mul_le_mul_right _ hnc, hb⟩
set_option maxRecDepth 20000 in
set_option maxHeartbeats 4000000 in
theorem VocfileFresh_walk (w : World) (s0 : Value) (x0 : List Pc) (sl0 : SL encP w s0 x0) (wf0 : ∀ q ∈ x0, wfP q) (n0 : x0.length ≤ 1048576) (v1 : Value) (x1 : List Int) (sl1 : SL encB w v1 x1) (wf1 : ∀ x ∈ x1, (Lit.int .u8 x).wf = true) (n1 : x1.length ≤ 1048576) :
    Calls Try.prog 6 #[.agg #[s0], v1] w fun e w' => e = .returned (.bool true) ∧ Gr w w' := by
  obtain ⟨A, cap, rfl⟩ := SL.form sl0
  obtain ⟨A1, cap1, rfl⟩ := SL.form sl1
  have HS0 := Lib.hid sl0
  have HS1 := Lib.hid sl1
  have Hb := Lib.hid (bs_wf wf1)
  have HG := Lib.hid ((Fr.refl w NoneS).alloc (.cells #[.slice A x0.length cap] 26))
  have HB := Lib.hid (Blk.new w 26 #[.slice A x0.length cap])
  obtain ⟨q, hq⟩ : ∃ q, w.heap.size = q := ⟨_, rfl⟩
  rw [hq] at HB
  have HM := Lib.hid (many_any (sl0.gr HG.out))
  have HPt := Lib.hid (fun (wx : World) (sv : Value) (h : SL encP wx sv x0) => put_any h wf0 n0)
  have HX := Lib.hid (show (checkE x0).1 = 0 → putE x0 = (fileB x0, 0) ∧ Leb.Bs (fileB x0) ∧ (fileB x0).length ≤ 20 + 31 * x0.length from
    fun h => ⟨by unfold putE; rw [if_pos h], fileB_byte (form_of (good_of h) wf0), fileB_len x0⟩)
  have HY := Lib.hid (show (checkE x0).1 ≠ 0 → putE x0 = ([], 11) from fun h => by unfold putE; rw [if_neg h])
  have Hn := Lib.hid (And.intro n0 n1)
  clear sl0 sl1 wf0 wf1 n0 n1
  go_enter Try.func6, Try.ntmps6
  go_upto_region 1 with (fail)
  clear hq
  generalize hx : World.alloc w _ = wa at HG HB HM ⊢
  clear hx
  have c0 : wa.cell? ⟨q, 0, none⟩ = some (.slice A x0.length cap) := by rw [HB.out.cell]; rfl
  by_cases hbig : 700 < x0.length
  · rw [decide_eq_true hbig] at HM
    clear hbig
    go_wp2_with (first
      | (go_at_call 12; refine HM.out.mono ?_; rintro e w2 ⟨rfl, hg⟩; have HG2 := Lib.hid (HG.out.trans hg (fun _ _ h => h)); clear hg)
      | (go_at_call 8; refine (works_any _).mono ?_; rintro e wz ⟨rfl, hg⟩; have HGz := Lib.hid hg; clear hg))
    go_ret
    exact ⟨rfl, HG2.out.trans HGz.out (fun _ _ h => h)⟩
  have Hsm := Lib.hid (show x0.length ≤ 700 by omega)
  rw [decide_eq_false hbig] at HM
  clear hbig
  have hx1 : (x1.length : Int) ≤ 1048576 := by have := Hn.out; omega
  by_cases h5 : 5000 < x1.length
  · have h5i : (5000 : Int) < (x1.length : Int) := by omega
    clear h5
    go_wp2_with (first
      | (go_at_call 12; refine HM.out.mono ?_; rintro e w2 ⟨rfl, hg⟩; have HG2 := Lib.hid (HG.out.trans hg (fun _ _ h => h)); clear hg)
      | (go_at_call 8; refine (works_any _).mono ?_; rintro e wz ⟨rfl, hg⟩; have HGz := Lib.hid hg; clear hg))
    go_ret
    exact ⟨rfl, HG2.out.trans HGz.out (fun _ _ h => h)⟩
  have h5i : ¬ (5000 : Int) < (x1.length : Int) := by omega
  clear h5
  go_upto_region 3 with (go_at_call 12; refine HM.out.mono ?_; rintro e w2 ⟨rfl, hg⟩; have HG2 := Lib.hid (HG.out.trans hg (fun _ _ h => h)); have HB2 := Lib.hid (HB.out.fr hg (fun h => h)); clear hg)
  have c2 : w2.cell? ⟨q, 0, none⟩ = some (.slice A x0.length cap) := by rw [HB2.out.cell]; rfl
  go_upto_region 4 with (go_at_call 15; refine (copyVocab_any (HS0.out.gr HG2.out) Hn.out.1).mono ?_; rintro e w3 ⟨sv, rfl, ho, hg⟩; obtain ⟨Av, cv, rfl⟩ := own_formN ho; have HO3 := Lib.hid (SL.of_own (enc := encP) ho rfl); have HG3 := Lib.hid (HG2.out.trans hg (fun _ _ h => h)); have HB3 := Lib.hid (HB2.out.fr hg (fun h => h)); clear ho hg)
  have HC4 := Lib.hid (Blk.new w3 26 #[.slice Av x0.length cv])
  have HG4 := Lib.hid (HG3.out.alloc (.cells #[.slice Av x0.length cv] 26))
  have HB4 := Lib.hid (HB3.out.alloc (.cells #[.slice Av x0.length cv] 26))
  have HO4 := Lib.hid (HO3.out.gr ((Fr.refl w3 NoneS).alloc (.cells #[.slice Av x0.length cv] 26)))
  generalize w3.heap.size = p5 at HC4 ⊢
  generalize World.alloc w3 _ = w4 at HC4 HG4 HB4 HO4 ⊢
  clear c0 c2 HO3 HB3 HB2 HB
  have c4 : w4.cell? ⟨p5, 0, none⟩ = some (.slice Av x0.length cv) := by rw [HC4.out.cell]; rfl
  have HP4 := Lib.hid (HPt.out _ _ HO4.out)
  by_cases hc : (checkE x0).1 = 0
  · obtain ⟨h1, h2, h3⟩ := HX.out hc
    rw [h1] at HP4
    simp only at HP4
    have Hfb := Lib.hid (show Leb.Bs (fileB x0) ∧ (fileB x0).length ≤ 1048576 from ⟨h2, by have := Hsm.out; omega⟩)
    clear h1 h2 h3 hc HX HY
    generalize fileB x0 = aL at HP4 Hfb
    have Hal := Hfb
    go_upto_region 5 with (go_at_call 13; refine HP4.out.mono ?_; rintro e w5 ⟨va, rfl, ho, hg⟩; have HVa := Lib.hid (show SL encB w5 va aL from ho.sl); have HF5 := Lib.hid (show Gr w4 w5 from hg); clear ho hg)
    go_upto_region 7 with (fail)
    have HB5 := Lib.hid (HB4.out.fr HF5.out (fun h => h))
    have HC5 := Lib.hid (HC4.out.fr HF5.out (fun h => h))
    have HO5 := Lib.hid (HO4.out.gr HF5.out)
    have HG5 := Lib.hid (HG4.out.trans HF5.out (fun _ _ h => h))
    clear c4 HB4 HC4 HO4
    have hal : (aL.length : Int) ≤ 1048576 := by have := Hal.out.2; omega
    go_upto_region 8 with (go_at_call 16; refine (wide_any _ aL _ HVa.out (by have := Hal.out.2; omega)).mono ?_; rintro e w6 ⟨g8, rfl, hge, hw8, hg⟩; have HW6 := Lib.hid hw8; have HV6 := Lib.hid (HVa.out.gr hg); have HG6 := Lib.hid (HG5.out.trans hg (fun _ _ h => h)); have HB6 := Lib.hid (HB5.out.fr hg (fun h => h)); have HC6 := Lib.hid (HC5.out.fr hg (fun h => h)); have HO6 := Lib.hid (HO5.out.gr hg); clear hge hw8 hg)
    have HW6s := Lib.hid (show SL encB w6 (.slice (some ⟨g8, 0, none⟩) aL.length (aL.length + 3)) aL from by
      have h := sl_blk HW6.out (by rw [wd_len _ _ (Nat.le_refl _)]; have := Hal.out.2; unfold maxLen; omega) aL.length (by rw [wd_len _ _ (Nat.le_refl _)]; omega)
      rw [wd_take, wd_len _ _ (Nat.le_refl _)] at h
      exact h)
    obtain ⟨⟨ps, px, pe⟩, hr⟩ : ∃ r, readE aL = r := ⟨_, rfl⟩
    have Hpl := Lib.hid (read_len Hal.out.1 hr)
    have HGt := Lib.hid (fun wx (hs : Gr w6 wx) => get_any (HW6s.out.gr hs) Hal.out.1 Hal.out.2)
    have HRt := Lib.hid (fun wx (hs : Gr w6 wx) => rget_any (HV6.out.gr hs) Hal.out.1 Hal.out.2)
    unfold GPost at HGt HRt
    rw [hr] at HGt HRt
    simp only at HGt HRt
    clear hr
    have hpl : (ps.length : Int) ≤ 4096 := by have := Hpl.out; omega
    go_upto_region 9 with (go_at_call 9; refine (HGt.out _ (Fr.refl _ _)).mono ?_; rintro e w7 ⟨tv, rfl, ho, hg⟩; obtain ⟨Ax, cx, rfl⟩ := own_formN ho; have HX7 := Lib.hid ho; have HD7 := Lib.hid (show Gr w6 w7 from hg); clear ho hg)
    have HE8 := Lib.hid (Blk.new w7 26 #[.slice Ax ps.length cx])
    have HD8 := Lib.hid (HD7.out.alloc (.cells #[.slice Ax ps.length cx] 26))
    have HX8 := Lib.hid (HX7.out.alloc (.cells #[.slice Ax ps.length cx] 26))
    generalize w7.heap.size = p9 at HE8 ⊢
    generalize World.alloc w7 _ = w8 at HE8 HD8 HX8 ⊢
    have Hrow := Lib.hid (row_blk HX8.out)
    have HXl := Lib.hid (fun k hk => (HX8.out.lt k hk).1)
    clear HX7 HX8 HD7
    go_wp2_with fail
    go_loopg [12] (ps.length + 1) (fun m s12 wr => ∃ k : Nat, s12 = .int .i64 k ∧ Hid (k ≤ ps.length ∧ ps.length - k < m) ∧ Hid (0 < ps.length → ∃ g cur, Ax = some ⟨g, 0, none⟩ ∧ Blk wr g TPc cur ∧ ps.length * 5 ≤ cur.size ∧ w6.heap.size ≤ g) ∧ Hid (Blk wr p9 26 #[.slice Ax ps.length cx]) ∧ Hid (Gr w6 wr))
    case atStart => exact ⟨0, rfl, ⟨Nat.zero_le _, by omega⟩, Hrow.out, HE8.out, HD8.out⟩
    case round =>
      obtain ⟨k, rfl, HK, HR, HE, HD⟩ := hrel
      by_cases hk : k < ps.length
      · have hki : (k : Int) < (ps.length : Int) := by omega
        obtain ⟨g, cur, hAx, hcur, hcs, hgl⟩ := HR.out (by omega)
        subst hAx
        have Hcur := Lib.hid hcur
        have Hcs := Lib.hid (And.intro hcs hgl)
        have c9 : wr.cell? ⟨p9, 0, none⟩ = some (.slice (some ⟨g, 0, none⟩) ps.length cx) := by rw [HE.out.cell]; rfl
        obtain ⟨u, hu⟩ : ∃ u, wr.cell? ⟨g, k * 5 + 1, none⟩ = some u := by
          refine ⟨cur[k * 5 + 1]'(by omega), ?_⟩
          rw [hcur.cell, Array.getElem?_eq_getElem (by omega)]
        have z1 := hcur.frozen (k * 5 + 1)
        have Hpg := Lib.hid (show p9 ≠ g from HE.out.ne_ hcur (by decide))
        have Hk := Lib.hid hk
        clear hk hcur hcs hgl
        go_wp2_with fail
        go_roundg (gk - 1)
        case measure => have := HK.out; have := Hk.out; omega
        case rel =>
          refine ⟨k + 1, by go_num, ⟨Hk.out, by have := HK.out; have := Hk.out; omega⟩, ?_, HE.out.far Hpg.out _, HD.out.setCell (p := ⟨g, k * 5 + 1, none⟩) (fun h => by have := Hcs.out.2; simp only at h; omega) _⟩
          exact fun _ => ⟨g, _, rfl, Hcur.out.set_ (k * 5 + 1) _, by rw [Array.size_setIfInBounds]; exact Hcs.out.1, Hcs.out.2⟩
      · have hki : decide ((k : Int) < (ps.length : Int)) = false := decide_eq_false (by omega)
        have c9 : wr.cell? ⟨p9, 0, none⟩ = some (.slice Ax ps.length cx) := by rw [HE.out.cell]; rfl
        go_upto_region 13 with (fail)
        clear c9
        go_upto_region 14 with (go_at_call 9; refine (HGt.out _ HD.out).mono ?_; rintro e w9 ⟨tv9, rfl, ho, hg⟩; obtain ⟨A9, c9, rfl⟩ := own_formN ho; have HY9 := Lib.hid (SL.of_own (enc := encP) ho rfl); have HD9 := Lib.hid (HD.out.trans hg (fun _ _ h => h)); clear ho hg)
        have HE10 := Lib.hid (Blk.new w9 26 #[.slice A9 ps.length c9])
        have HD10 := Lib.hid (HD9.out.alloc (.cells #[.slice A9 ps.length c9] 26))
        have HY10 := Lib.hid (HY9.out.gr ((Fr.refl w9 NoneS).alloc (.cells #[.slice A9 ps.length c9] 26)))
        generalize w9.heap.size = p13 at HE10 ⊢
        generalize World.alloc w9 _ = w10 at HE10 HD10 HY10 ⊢
        go_upto_region 15 with (go_at_call 10; refine (HRt.out _ HD10.out).mono ?_; rintro e w11 ⟨tv11, rfl, ho, hg⟩; obtain ⟨A11, c11, rfl⟩ := own_formN ho; have HZ11 := Lib.hid (SL.of_own (enc := encP) ho rfl); have HY11 := Lib.hid (HY10.out.gr hg); have HE11 := Lib.hid (HE10.out.fr hg (fun h => h)); have HD11 := Lib.hid (HD10.out.trans hg (fun _ _ h => h)); clear ho hg)
        have HF12 := Lib.hid (Blk.new w11 26 #[.slice A11 ps.length c11])
        have HD12 := Lib.hid (HD11.out.alloc (.cells #[.slice A11 ps.length c11] 26))
        have HE12 := Lib.hid (HE11.out.alloc (.cells #[.slice A11 ps.length c11] 26))
        have HY12 := Lib.hid (HY11.out.gr ((Fr.refl w11 NoneS).alloc (.cells #[.slice A11 ps.length c11] 26)))
        have HZ12 := Lib.hid (HZ11.out.gr ((Fr.refl w11 NoneS).alloc (.cells #[.slice A11 ps.length c11] 26)))
        generalize w11.heap.size = p16 at HF12 ⊢
        generalize World.alloc w11 _ = w12 at HF12 HD12 HE12 HY12 HZ12 ⊢
        have a12 : w12.cell? ⟨p5, 0, none⟩ = some (.slice Av x0.length cv) := by rw [(HC6.out.fr HD12.out (fun h => h)).cell]; rfl
        have b12 : w12.cell? ⟨q, 0, none⟩ = some (.slice A x0.length cap) := by rw [(HB6.out.fr HD12.out (fun h => h)).cell]; rfl
        have HG12 := Lib.hid (HG6.out.trans HD12.out (fun _ _ h => h))
        have HV1 := Lib.hid (vocab_any (xs := x0) (ys := x0) (HO6.out.gr HD12.out) (HS0.out.gr HG12.out) (by have := Hn.out; omega))
        rw [show decide (x0 = x0) = true from decide_eq_true rfl] at HV1
        have HV2 := Lib.hid (fun wx (h : Gr w12 wx) => vocab_any (xs := ps) (ys := ps) (HY12.out.gr h) (HZ12.out.gr h) (by have := Hpl.out; omega))
        rw [show decide (ps = ps) = true from decide_eq_true rfl] at HV2
        have HLf := Lib.hid (fun wx (h : Gr w12 wx) => left_any g8 _ aL wx ((HW6.out.fr HD12.out (fun h => h)).fr h (fun h => h)) ((HV6.out.gr HD12.out).gr h) (by have := Hal.out.2; omega))
        have Hc13 := Lib.hid (fun wx (h : Gr w12 wx) => show wx.cell? ⟨p13, 0, none⟩ = some (.slice A9 ps.length c9) from by rw [(HE12.out.fr h (fun h => h)).cell]; rfl)
        have Hc16 := Lib.hid (fun wx (h : Gr w12 wx) => show wx.cell? ⟨p16, 0, none⟩ = some (.slice A11 ps.length c11) from by rw [(HF12.out.fr h (fun h => h)).cell]; rfl)
        go_wp2_with (first
          | (go_at_call 11; (with_reducible refine HV1.out.mono ?_); rintro e w13 ⟨rfl, hg⟩; have HK13 := Lib.hid (show Gr w12 w13 from hg); clear hg)
          | (go_at_call 17; refine (HLf.out _ HK13.out).mono ?_; rintro e w14 ⟨rfl, hd⟩; have HK14 := Lib.hid (HK13.out.trans hd.gr (fun _ _ h => h)); have e13 := Hc13.out _ HK14.out; have e16 := Hc16.out _ HK14.out; clear hd)
          | (go_at_call 11; (with_reducible refine (HV2.out _ HK14.out).mono ?_); rintro e w15 ⟨rfl, hg⟩; have HK15 := Lib.hid (HK14.out.trans hg (fun _ _ h => h)); clear hg)
          | (go_at_call 8; refine (works_any _).mono ?_; rintro e wz ⟨rfl, hg⟩; have HGz := Lib.hid hg; clear hg))
        go_ret
        exact ⟨rfl, (HG12.out.trans HK15.out (fun _ _ h => h)).trans HGz.out (fun _ _ h => h)⟩
  · have h1 := HY.out hc
    rw [h1] at HP4
    simp only at HP4
    have Hal := Lib.hid (show Leb.Bs x1 ∧ x1.length ≤ 1048576 from ⟨Hb.out, Hn.out.2⟩)
    clear h1 hc HX HY
    go_upto_region 5 with (go_at_call 13; refine HP4.out.mono ?_; rintro e w5 ⟨va, rfl, ho, hg⟩; have HF5 := Lib.hid (show Gr w4 w5 from hg); clear ho hg)
    go_upto_region 7 with (fail)
    have HVa := Lib.hid (show SL encB w5 (.slice A1 x1.length cap1) x1 from HS1.out.gr (HG4.out.trans HF5.out (fun _ _ h => h)))
    have HB5 := Lib.hid (HB4.out.fr HF5.out (fun h => h))
    have HC5 := Lib.hid (HC4.out.fr HF5.out (fun h => h))
    have HO5 := Lib.hid (HO4.out.gr HF5.out)
    have HG5 := Lib.hid (HG4.out.trans HF5.out (fun _ _ h => h))
    clear c4 HB4 HC4 HO4
    have hal : (x1.length : Int) ≤ 1048576 := by have := Hal.out.2; omega
    go_upto_region 8 with (go_at_call 16; refine (wide_any _ x1 _ HVa.out (by have := Hal.out.2; omega)).mono ?_; rintro e w6 ⟨g8, rfl, hge, hw8, hg⟩; have HW6 := Lib.hid hw8; have HV6 := Lib.hid (HVa.out.gr hg); have HG6 := Lib.hid (HG5.out.trans hg (fun _ _ h => h)); have HB6 := Lib.hid (HB5.out.fr hg (fun h => h)); have HC6 := Lib.hid (HC5.out.fr hg (fun h => h)); have HO6 := Lib.hid (HO5.out.gr hg); clear hge hw8 hg)
    have HW6s := Lib.hid (show SL encB w6 (.slice (some ⟨g8, 0, none⟩) x1.length (x1.length + 3)) x1 from by
      have h := sl_blk HW6.out (by rw [wd_len _ _ (Nat.le_refl _)]; have := Hal.out.2; unfold maxLen; omega) x1.length (by rw [wd_len _ _ (Nat.le_refl _)]; omega)
      rw [wd_take, wd_len _ _ (Nat.le_refl _)] at h
      exact h)
    obtain ⟨⟨ps, px, pe⟩, hr⟩ : ∃ r, readE x1 = r := ⟨_, rfl⟩
    have Hpl := Lib.hid (read_len Hal.out.1 hr)
    have HGt := Lib.hid (fun wx (hs : Gr w6 wx) => get_any (HW6s.out.gr hs) Hal.out.1 Hal.out.2)
    have HRt := Lib.hid (fun wx (hs : Gr w6 wx) => rget_any (HV6.out.gr hs) Hal.out.1 Hal.out.2)
    unfold GPost at HGt HRt
    rw [hr] at HGt HRt
    simp only at HGt HRt
    clear hr
    have hpl : (ps.length : Int) ≤ 4096 := by have := Hpl.out; omega
    go_upto_region 9 with (go_at_call 9; refine (HGt.out _ (Fr.refl _ _)).mono ?_; rintro e w7 ⟨tv, rfl, ho, hg⟩; obtain ⟨Ax, cx, rfl⟩ := own_formN ho; have HX7 := Lib.hid ho; have HD7 := Lib.hid (show Gr w6 w7 from hg); clear ho hg)
    have HE8 := Lib.hid (Blk.new w7 26 #[.slice Ax ps.length cx])
    have HD8 := Lib.hid (HD7.out.alloc (.cells #[.slice Ax ps.length cx] 26))
    have HX8 := Lib.hid (HX7.out.alloc (.cells #[.slice Ax ps.length cx] 26))
    generalize w7.heap.size = p9 at HE8 ⊢
    generalize World.alloc w7 _ = w8 at HE8 HD8 HX8 ⊢
    have Hrow := Lib.hid (row_blk HX8.out)
    have HXl := Lib.hid (fun k hk => (HX8.out.lt k hk).1)
    clear HX7 HX8 HD7
    go_wp2_with fail
    go_loopg [12] (ps.length + 1) (fun m s12 wr => ∃ k : Nat, s12 = .int .i64 k ∧ Hid (k ≤ ps.length ∧ ps.length - k < m) ∧ Hid (0 < ps.length → ∃ g cur, Ax = some ⟨g, 0, none⟩ ∧ Blk wr g TPc cur ∧ ps.length * 5 ≤ cur.size ∧ w6.heap.size ≤ g) ∧ Hid (Blk wr p9 26 #[.slice Ax ps.length cx]) ∧ Hid (Gr w6 wr))
    case atStart => exact ⟨0, rfl, ⟨Nat.zero_le _, by omega⟩, Hrow.out, HE8.out, HD8.out⟩
    case round =>
      obtain ⟨k, rfl, HK, HR, HE, HD⟩ := hrel
      by_cases hk : k < ps.length
      · have hki : (k : Int) < (ps.length : Int) := by omega
        obtain ⟨g, cur, hAx, hcur, hcs, hgl⟩ := HR.out (by omega)
        subst hAx
        have Hcur := Lib.hid hcur
        have Hcs := Lib.hid (And.intro hcs hgl)
        have c9 : wr.cell? ⟨p9, 0, none⟩ = some (.slice (some ⟨g, 0, none⟩) ps.length cx) := by rw [HE.out.cell]; rfl
        obtain ⟨u, hu⟩ : ∃ u, wr.cell? ⟨g, k * 5 + 1, none⟩ = some u := by
          refine ⟨cur[k * 5 + 1]'(by omega), ?_⟩
          rw [hcur.cell, Array.getElem?_eq_getElem (by omega)]
        have z1 := hcur.frozen (k * 5 + 1)
        have Hpg := Lib.hid (show p9 ≠ g from HE.out.ne_ hcur (by decide))
        have Hk := Lib.hid hk
        clear hk hcur hcs hgl
        go_wp2_with fail
        go_roundg (gk - 1)
        case measure => have := HK.out; have := Hk.out; omega
        case rel =>
          refine ⟨k + 1, by go_num, ⟨Hk.out, by have := HK.out; have := Hk.out; omega⟩, ?_, HE.out.far Hpg.out _, HD.out.setCell (p := ⟨g, k * 5 + 1, none⟩) (fun h => by have := Hcs.out.2; simp only at h; omega) _⟩
          exact fun _ => ⟨g, _, rfl, Hcur.out.set_ (k * 5 + 1) _, by rw [Array.size_setIfInBounds]; exact Hcs.out.1, Hcs.out.2⟩
      · have hki : decide ((k : Int) < (ps.length : Int)) = false := decide_eq_false (by omega)
        have c9 : wr.cell? ⟨p9, 0, none⟩ = some (.slice Ax ps.length cx) := by rw [HE.out.cell]; rfl
        go_upto_region 13 with (fail)
        clear c9
        go_upto_region 14 with (go_at_call 9; refine (HGt.out _ HD.out).mono ?_; rintro e w9 ⟨tv9, rfl, ho, hg⟩; obtain ⟨A9, c9, rfl⟩ := own_formN ho; have HY9 := Lib.hid (SL.of_own (enc := encP) ho rfl); have HD9 := Lib.hid (HD.out.trans hg (fun _ _ h => h)); clear ho hg)
        have HE10 := Lib.hid (Blk.new w9 26 #[.slice A9 ps.length c9])
        have HD10 := Lib.hid (HD9.out.alloc (.cells #[.slice A9 ps.length c9] 26))
        have HY10 := Lib.hid (HY9.out.gr ((Fr.refl w9 NoneS).alloc (.cells #[.slice A9 ps.length c9] 26)))
        generalize w9.heap.size = p13 at HE10 ⊢
        generalize World.alloc w9 _ = w10 at HE10 HD10 HY10 ⊢
        go_upto_region 15 with (go_at_call 10; refine (HRt.out _ HD10.out).mono ?_; rintro e w11 ⟨tv11, rfl, ho, hg⟩; obtain ⟨A11, c11, rfl⟩ := own_formN ho; have HZ11 := Lib.hid (SL.of_own (enc := encP) ho rfl); have HY11 := Lib.hid (HY10.out.gr hg); have HE11 := Lib.hid (HE10.out.fr hg (fun h => h)); have HD11 := Lib.hid (HD10.out.trans hg (fun _ _ h => h)); clear ho hg)
        have HF12 := Lib.hid (Blk.new w11 26 #[.slice A11 ps.length c11])
        have HD12 := Lib.hid (HD11.out.alloc (.cells #[.slice A11 ps.length c11] 26))
        have HE12 := Lib.hid (HE11.out.alloc (.cells #[.slice A11 ps.length c11] 26))
        have HY12 := Lib.hid (HY11.out.gr ((Fr.refl w11 NoneS).alloc (.cells #[.slice A11 ps.length c11] 26)))
        have HZ12 := Lib.hid (HZ11.out.gr ((Fr.refl w11 NoneS).alloc (.cells #[.slice A11 ps.length c11] 26)))
        generalize w11.heap.size = p16 at HF12 ⊢
        generalize World.alloc w11 _ = w12 at HF12 HD12 HE12 HY12 HZ12 ⊢
        have a12 : w12.cell? ⟨p5, 0, none⟩ = some (.slice Av x0.length cv) := by rw [(HC6.out.fr HD12.out (fun h => h)).cell]; rfl
        have b12 : w12.cell? ⟨q, 0, none⟩ = some (.slice A x0.length cap) := by rw [(HB6.out.fr HD12.out (fun h => h)).cell]; rfl
        have HG12 := Lib.hid (HG6.out.trans HD12.out (fun _ _ h => h))
        have HV1 := Lib.hid (vocab_any (xs := x0) (ys := x0) (HO6.out.gr HD12.out) (HS0.out.gr HG12.out) (by have := Hn.out; omega))
        rw [show decide (x0 = x0) = true from decide_eq_true rfl] at HV1
        have HV2 := Lib.hid (fun wx (h : Gr w12 wx) => vocab_any (xs := ps) (ys := ps) (HY12.out.gr h) (HZ12.out.gr h) (by have := Hpl.out; omega))
        rw [show decide (ps = ps) = true from decide_eq_true rfl] at HV2
        have HLf := Lib.hid (fun wx (h : Gr w12 wx) => left_any g8 _ x1 wx ((HW6.out.fr HD12.out (fun h => h)).fr h (fun h => h)) ((HV6.out.gr HD12.out).gr h) (by have := Hal.out.2; omega))
        have Hc13 := Lib.hid (fun wx (h : Gr w12 wx) => show wx.cell? ⟨p13, 0, none⟩ = some (.slice A9 ps.length c9) from by rw [(HE12.out.fr h (fun h => h)).cell]; rfl)
        have Hc16 := Lib.hid (fun wx (h : Gr w12 wx) => show wx.cell? ⟨p16, 0, none⟩ = some (.slice A11 ps.length c11) from by rw [(HF12.out.fr h (fun h => h)).cell]; rfl)
        go_wp2_with (first
          | (go_at_call 11; (with_reducible refine HV1.out.mono ?_); rintro e w13 ⟨rfl, hg⟩; have HK13 := Lib.hid (show Gr w12 w13 from hg); clear hg)
          | (go_at_call 17; refine (HLf.out _ HK13.out).mono ?_; rintro e w14 ⟨rfl, hd⟩; have HK14 := Lib.hid (HK13.out.trans hd.gr (fun _ _ h => h)); have e13 := Hc13.out _ HK14.out; have e16 := Hc16.out _ HK14.out; clear hd)
          | (go_at_call 11; (with_reducible refine (HV2.out _ HK14.out).mono ?_); rintro e w15 ⟨rfl, hg⟩; have HK15 := Lib.hid (HK14.out.trans hg (fun _ _ h => h)); clear hg)
          | (go_at_call 8; refine (works_any _).mono ?_; rintro e wz ⟨rfl, hg⟩; have HGz := Lib.hid hg; clear hg))
        go_ret
        exact ⟨rfl, (HG12.out.trans HK15.out (fun _ _ h => h)).trans HGz.out (fun _ _ h => h)⟩
end Go.Proofs.Ytmjpghaggnpdbaa
