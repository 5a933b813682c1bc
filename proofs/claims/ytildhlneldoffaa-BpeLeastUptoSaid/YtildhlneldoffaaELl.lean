/- law 10: BpeLeast. -/
import Derived.Test.YtildhlneldoffaaELs
set_option linter.unusedVariables false
set_option linter.unusedSimpArgs false
namespace Go.Proofs.Ytildhlneldoffaa
open Go.RowKit
open Voc Bpe
namespace Bpe
theorem enc_good {xs : List Pc} {bs : List Int} (hc : (checkE xs).1 = 0) (h4 : bs.length ≤ 4096) : encE xs bs = (encL xs (row0 xs bs), 0) := by
  unfold encE; rw [if_neg (by rw [hc]; decide), if_neg (by omega)]
theorem enc_no {xs : List Pc} {bs : List Int} (hc : (checkE xs).1 ≠ 0) : encE xs bs = ([], 11) := by
  unfold encE; rw [if_pos hc]
theorem begin_good {xs : List Pc} {bs : List Int} (hc : (checkE xs).1 = 0) (h4 : bs.length ≤ 4096) : beginE xs bs = (row0 xs bs, 0) := by
  unfold beginE; rw [if_neg (by rw [hc]; decide), if_neg (by omega)]
theorem begin_no {xs : List Pc} {bs : List Int} (hc : (checkE xs).1 ≠ 0) : beginE xs bs = ([], 11) := by
  unfold beginE; rw [if_pos hc]
/-- what the loop keeps -/
structure LS (xs : List Pc) (bs l : List Int) (k : Nat) : Prop where
  inv : InV xs l
  flat : flatE xs l = bs
  enc : encL xs l = encL xs (row0 xs bs)
  len : l.length + k = bs.length
theorem inv_wf {xs : List Pc} {l : List Int} (hx : xs.length ≤ 1048576) (h : InV xs l) : ∀ x ∈ l, (Lit.int .i64 x).wf = true := by
  intro x hxm
  have := h x hxm
  have h0 : IntKind.i64.min = -9223372036854775808 := rfl
  have h1 : IntKind.i64.max = 9223372036854775807 := rfl
  simp [Lit.wf]
  omega
section
variable {xs : List Pc} {bs l : List Int} {k : Nat}
theorem LS.zero (hc : (checkE xs).1 = 0) (hw : ∀ q ∈ xs, wfP q) (hb : ∀ c ∈ bs, 0 ≤ c ∧ c < 256) : LS xs bs (row0 xs bs) 0 :=
  ⟨row0_in hc hw hb, flat_row0 hc hw bs hb, rfl, by rw [row0_len]; rfl⟩
theorem LS.dec (h : LS xs bs l k) (hc : (checkE xs).1 = 0) (h4 : bs.length ≤ 4096) : decE xs l = (bs, 0) := by
  unfold decE
  rw [if_neg (by rw [hc]; decide), if_neg (in_any h.inv), h.flat, if_neg (by omega)]
theorem LS.more (h : LS xs bs l k) (hc : (checkE xs).1 = 0) {i t : Nat} (hs : stepR xs l = some (i, t)) : LS xs bs (joined l i t) (k + 1) := by
  have hlt := stepR_lt hs
  obtain ⟨_, h2, _⟩ := scan_some hs
  refine ⟨h.inv.joined (fndAt_lt h2), by rw [flat_joined hc hs, h.flat], by rw [← encL_step hs, h.enc], ?_⟩
  rw [joined_len hlt]; have := h.len; omega
theorem stepE_in (h : InV xs l) (hc : (checkE xs).1 = 0) (h4 : l.length ≤ 4096) : Bpe.stepE xs l = match stepR xs l with | none => (l, false, 0) | some (i, t) => (joined l i t, true, 0) := by
  unfold Bpe.stepE
  rw [if_neg (by rw [hc]; decide), if_neg (by omega), if_neg (in_any h)]
  all_goals (cases stepR xs l <;> rfl)
theorem LS.last (h : LS xs bs l k) (hs : stepR xs l = none) : l = encL xs (row0 xs bs) := by rw [← h.enc, encL_none hs]
theorem LS.empty (h : LS xs bs l bs.length) : stepR xs l = none := by
  have : l = [] := List.eq_nil_of_length_eq_zero (by have := h.len; omega)
  subst this
  rfl
end
end Bpe
set_option maxRecDepth 20000 in
set_option maxHeartbeats 4000000 in
theorem BpeLeast_walk (w : World) (s0 : Value) (x0 : List Pc) (sl0 : SL encP w s0 x0) (wf0 : ∀ q ∈ x0, wfP q) (n0 : x0.length ≤ 1048576) (v1 : Value) (x1 : List Int) (sl1 : SL encB w v1 x1) (wf1 : ∀ x ∈ x1, (Lit.int .u8 x).wf = true) (n1 : x1.length ≤ 1048576) :
    Calls Try.prog 11 #[.agg #[s0], v1] w fun e w' => e = .returned (.bool true) ∧ Gr w w' := by
  obtain ⟨A, cap, rfl⟩ := SL.form sl0
  obtain ⟨A1, cap1, rfl⟩ := SL.form sl1
  have HS1 := Lib.hid sl1
  have HG := Lib.hid ((Fr.refl w NoneS).alloc (.cells #[.slice A x0.length cap] 24))
  have HB := Lib.hid (Blk.new w 24 #[.slice A x0.length cap])
  obtain ⟨q, hq⟩ : ∃ q, w.heap.size = q := ⟨_, rfl⟩
  rw [hq] at HB
  have HL := Lib.hid (long_any (sl0.gr HG.out) n0 x1.length n1)
  have HA := Lib.hid (fun wx (hg : Gr w wx) => encode_any (sl0.gr hg) (sl1.gr hg) wf0 (bs_in wf1) n0)
  have HBg := Lib.hid (fun wx (hg : Gr w wx) => Begin_any (sl0.gr hg) (sl1.gr hg) wf0 (bs_in wf1) n0 n1)
  have HSt := Lib.hid (fun (wx : World) (sb : Value) (l : List Int) (hg : Gr w wx) (hb : SL encI wx sb l) (hw : ∀ x ∈ l, (Lit.int .i64 x).wf = true) => step_any (sl0.gr hg) hb wf0 n0 hw)
  have HDc := Lib.hid (fun (wx : World) (sb : Value) (l : List Int) (hg : Gr w wx) (hb : SL encI wx sb l) (hn : l.length ≤ 1048576) => decode_any (sl0.gr hg) hb wf0 n0 hn)
  have HZ := Lib.hid (fun hc => LS.zero (xs := x0) (bs := x1) hc wf0 (bs_in wf1))
  have HN0 := Lib.hid n0
  clear sl0 sl1 wf0 wf1
  obtain ⟨b, hb⟩ : ∃ b, decide (500 < x0.length ∨ (300 < x1.length ∧ x1.length ≤ 4096)) = b := ⟨_, rfl⟩
  rw [hb] at HL
  clear hb
  have hx1 : (x1.length : Int) ≤ 1048576 := by omega
  go_enter Try.func11, Try.ntmps11
  go_upto_region 1 with (fail)
  clear hq
  generalize hx : World.alloc w _ = wa at HG HB HL ⊢
  clear hx
  have c0 : wa.cell? ⟨q, 0, none⟩ = some (.slice A x0.length cap) := by rw [HB.out.cell]; rfl
  cases b with
  | true =>
    go_wp2_with (first
      | (go_at_call 13; refine HL.out.mono ?_; rintro e w2 ⟨rfl, hg⟩; have HG2 := Lib.hid (HG.out.trans hg (fun _ _ h => h)); clear hg)
      | (go_at_call 14; refine (works_any _).mono ?_; rintro e wz ⟨rfl, hg⟩; have HGz := Lib.hid hg; clear hg))
    go_ret
    exact ⟨rfl, HG2.out.trans HGz.out (fun _ _ h => h)⟩
  | false =>
  by_cases h60 : 60 < x1.length
  · have h6 : (60 : Int) < (x1.length : Int) := by omega
    clear h60
    go_wp2_with (first
      | (go_at_call 13; refine HL.out.mono ?_; rintro e w2 ⟨rfl, hg⟩; have HG2 := Lib.hid (HG.out.trans hg (fun _ _ h => h)); clear hg)
      | (go_at_call 14; refine (works_any _).mono ?_; rintro e wz ⟨rfl, hg⟩; have HGz := Lib.hid hg; clear hg))
    go_ret
    exact ⟨rfl, HG2.out.trans HGz.out (fun _ _ h => h)⟩
  have h6 : ¬ (60 : Int) < (x1.length : Int) := by omega
  have H6 := Lib.hid (show x1.length ≤ 60 by omega)
  clear h60
  go_upto_region 3 with (go_at_call 13; refine HL.out.mono ?_; rintro e w2 ⟨rfl, hg⟩; have HG2 := Lib.hid (HG.out.trans hg (fun _ _ h => h)); have HB2 := Lib.hid (HB.out.fr hg (fun h => h)); clear hg)
  have c2 : w2.cell? ⟨q, 0, none⟩ = some (.slice A x0.length cap) := by rw [HB2.out.cell]; rfl
  by_cases hc : (checkE x0).1 = 0
  case neg =>
    rw [enc_no hc] at HA
    rw [begin_no hc] at HBg
    simp only at HA HBg
    clear hc
    go_upto_region 4 with (go_at_call 23; refine (HBg.out _ HG2.out).mono ?_; rintro e w3 ⟨ra, rfl, ho, hg⟩; have HG3 := Lib.hid (HG2.out.trans hg (fun _ _ h => h)); have HB3 := Lib.hid (HB2.out.fr hg (fun h => h)); clear ho hg)
    have c3 : w3.cell? ⟨q, 0, none⟩ = some (.slice A x0.length cap) := by rw [HB3.out.cell]; rfl
    go_upto_region 5 with (go_at_call 15; refine (HA.out _ HG3.out).mono ?_; rintro e w4 ⟨rb, rfl, ho, hg⟩; have HG4 := Lib.hid (HG3.out.trans hg (fun _ _ h => h)); clear ho hg)
    clear c0 c2 c3
    go_wp2_with (go_at_call 14; refine (works_any _).mono ?_; rintro e wz ⟨rfl, hg⟩; have HGz := Lib.hid hg; clear hg)
    go_ret
    exact ⟨rfl, HG4.out.trans HGz.out (fun _ _ h => h)⟩
  have Hc := Lib.hid hc
  rw [enc_good hc (by have := H6.out; omega)] at HA
  rw [begin_good hc (by have := H6.out; omega)] at HBg
  simp only at HA HBg
  have HLz := Lib.hid (HZ.out hc)
  clear hc HZ
  obtain ⟨L, hL⟩ : ∃ L, encL x0 (row0 x0 x1) = L := ⟨_, rfl⟩
  have HLq := Lib.hid hL
  rw [hL] at HA
  obtain ⟨R, hR⟩ : ∃ R, row0 x0 x1 = R := ⟨_, rfl⟩
  rw [hR] at HBg HLz
  have HLe := Lib.hid (show stepR x0 L = none ∧ InV x0 L ∧ L.length ≤ 60 by
    have h := encL_le (xs := x0) (row0 x0 x1)
    rw [row0_len, hL] at h
    refine ⟨?_, ?_, by have := H6.out; omega⟩
    · rw [← hL]; exact encL_end _ _ (Nat.le_refl _)
    · rw [← hL, hR]; exact HLz.out.inv.enc)
  clear hL hR
  go_upto_region 4 with (go_at_call 23; refine (HBg.out _ HG2.out).mono ?_; rintro e w3 ⟨ra, rfl, ho, hg⟩; have HO3 := Lib.hid ho.sl; have HG3 := Lib.hid (HG2.out.trans hg (fun _ _ h => h)); have HB3 := Lib.hid (HB2.out.fr hg (fun h => h)); clear ho hg)
  have c3 : w3.cell? ⟨q, 0, none⟩ = some (.slice A x0.length cap) := by rw [HB3.out.cell]; rfl
  go_upto_region 5 with (go_at_call 15; refine (HA.out _ HG3.out).mono ?_; rintro e w4 ⟨rb, rfl, ho, hg⟩; have HW4 := Lib.hid ho.sl; have HO4 := Lib.hid (HO3.out.gr hg); have HG4 := Lib.hid (HG3.out.trans hg (fun _ _ h => h)); have HB4 := Lib.hid (HB3.out.fr hg (fun h => h)); clear ho hg)
  clear c0 c2 c3 HA HBg HL HB HB2 HB3 HG2 HG3
  go_upto_block 0 with (fail)
  go_cut [4, 5] (fun s4 s5 wx => ∃ va : Value, s4 = .bool false ∧ va = s5 ∧ Hid (SL encI wx va L) ∧ Hid (Gr w4 wx))
  case first =>
    go_wp2_with fail
    go_loopg [4, 5, 9] (x1.length + 1) (fun m s4 s5 s9 wr => ∃ (k : Nat) (va : Value) (l : List Int), s4 = .bool false ∧ s9 = .int .i64 k ∧ va = s5 ∧ Hid (k ≤ x1.length ∧ x1.length - k < m) ∧ Hid (LS x0 x1 l k) ∧ Hid (SL encI wr va l) ∧ Hid (Gr w4 wr))
    case atStart => exact ⟨0, ra, R, rfl, rfl, rfl, ⟨Nat.zero_le _, by omega⟩, HLz.out, HO4.out, Fr.refl _ _⟩
    case round =>
      obtain ⟨k, va, l, rfl, rfl, rfl, HK, HLS, HV, HD⟩ := hrel
      obtain ⟨Al, cl, rfl⟩ := SL.form HV.out
      have f0 : wr.cell? ⟨q, 0, none⟩ = some (.slice A x0.length cap) := by rw [(HB4.out.fr HD.out (fun h => h)).cell]; rfl
      have HGr := Lib.hid (HG4.out.trans HD.out (fun _ _ h => h))
      by_cases hk : k < x1.length
      · have hki : (k : Int) < (x1.length : Int) := by omega
        have Hk := Lib.hid hk
        clear hk
        have Hl60 := Lib.hid (show l.length ≤ 60 by have := HLS.out.len; have := H6.out; omega)
        have HStx := Lib.hid (HSt.out wr _ l HGr.out HV.out (inv_wf HN0.out HLS.out.inv))
        rw [stepE_in HLS.out.inv Hc.out (by have := Hl60.out; omega)] at HStx
        have hl6 : (l.length : Int) ≤ 60 := by have := Hl60.out; omega
        cases hs : stepR x0 l with
        | some it =>
          obtain ⟨i, t⟩ := it
          rw [hs] at HStx
          simp only at HStx
          have HM := Lib.hid (HLS.out.more Hc.out hs)
          have hlt := stepR_lt hs
          have hml := joined_len (t := t) hlt
          generalize joined l i t = m at HStx HM hml
          have hmi : (l.length : Int) - 1 = (m.length : Int) := by omega
          have hl1 : (1 : Int) ≤ (l.length : Int) := by omega
          have hw1 : IntKind.i64.wrap ((l.length : Int) - 1) = (m.length : Int) := by rw [hmi]; exact IntWalk.i64_in _ ⟨by omega, by omega⟩
          have HDm := Lib.hid (HM.out.dec Hc.out (by have := H6.out; omega))
          have Hm60 := Lib.hid (show m.length ≤ 60 by omega)
          clear hs hlt hml
          go_upto_region 11 with (go_at_call 25; refine HStx.out.mono ?_; rintro e w5 ⟨rm, rfl, ho, hg⟩; obtain ⟨Am, cm, rfl⟩ := own_formN ho.own; have HM5 := Lib.hid ho.sl; have HG5 := Lib.hid (HGr.out.trans hg (fun _ _ h => h)); have HD5 := Lib.hid (HD.out.trans hg (fun _ _ h => h)); have HV5 := Lib.hid (HV.out.gr hg); clear ho hg)
          have f5 : w5.cell? ⟨q, 0, none⟩ = some (.slice A x0.length cap) := by rw [(HB4.out.fr HD5.out (fun h => h)).cell]; rfl
          have HDx := Lib.hid (HDc.out w5 _ m HG5.out HM5.out (by have := Hm60.out; omega))
          rw [HDm.out] at HDx
          simp only at HDx
          go_upto_region 12 with (go_at_call 18; refine HDx.out.mono ?_; rintro e w6 ⟨rc, rfl, ho, hg⟩; have HC6 := Lib.hid ho.sl; have HG6 := Lib.hid (HG5.out.trans hg (fun _ _ h => h)); have HD6 := Lib.hid (HD5.out.trans hg (fun _ _ h => h)); have HM6 := Lib.hid (HM5.out.gr hg); clear ho hg)
          have HSm := Lib.hid (same_any _ _ x1 x1 w6 HC6.out (HS1.out.gr HG6.out) (by have := H6.out; omega))
          rw [show decide (x1 = x1) = true from decide_eq_true rfl] at HSm
          clear f0 f5
          go_wp2_with (go_at_call 20; refine HSm.out.mono ?_; rintro e w7 ⟨rfl, hd⟩; have HD7 := Lib.hid (HD6.out.trans hd.gr (fun _ _ h => h)); have HM7 := Lib.hid (HM6.out.gr hd.gr); clear hd)
          go_roundg (gk - 1)
          case measure => have := HK.out; have := Hk.out; omega
          case rel => exact ⟨k + 1, _, m, rfl, by go_num, rfl, ⟨by have := Hk.out; omega, by have := HK.out; have := Hk.out; omega⟩, HM.out, HM7.out, HD7.out⟩
        | none =>
          rw [hs] at HStx
          simp only at HStx
          have HlL := Lib.hid (show l = L from (HLS.out.last hs).trans HLq.out)
          have HDm := Lib.hid (HLS.out.dec Hc.out (by have := H6.out; omega))
          clear hs
          go_upto_region 11 with (go_at_call 25; refine HStx.out.mono ?_; rintro e w5 ⟨rm, rfl, ho, hg⟩; obtain ⟨Am, cm, rfl⟩ := own_formN ho.own; have HM5 := Lib.hid ho.sl; have HG5 := Lib.hid (HGr.out.trans hg (fun _ _ h => h)); have HD5 := Lib.hid (HD.out.trans hg (fun _ _ h => h)); have HV5 := Lib.hid (HV.out.gr hg); clear ho hg)
          have f5 : w5.cell? ⟨q, 0, none⟩ = some (.slice A x0.length cap) := by rw [(HB4.out.fr HD5.out (fun h => h)).cell]; rfl
          have HDx := Lib.hid (HDc.out w5 _ l HG5.out HM5.out (by have := Hl60.out; omega))
          rw [HDm.out] at HDx
          simp only at HDx
          go_upto_region 12 with (go_at_call 18; refine HDx.out.mono ?_; rintro e w6 ⟨rc, rfl, ho, hg⟩; have HC6 := Lib.hid ho.sl; have HG6 := Lib.hid (HG5.out.trans hg (fun _ _ h => h)); have HD6 := Lib.hid (HD5.out.trans hg (fun _ _ h => h)); have HM6 := Lib.hid (HM5.out.gr hg); have HV6 := Lib.hid (HV5.out.gr hg); clear ho hg)
          have HSm := Lib.hid (same_any _ _ x1 x1 w6 HC6.out (HS1.out.gr HG6.out) (by have := H6.out; omega))
          rw [show decide (x1 = x1) = true from decide_eq_true rfl] at HSm
          have HIn := Lib.hid (fun wx (h : Gr w6 wx) => Ints_any _ _ l l wx (HM6.out.gr h) (HV6.out.gr h) (by have := Hl60.out; omega))
          rw [show decide (l = l) = true from decide_eq_true rfl] at HIn
          clear f0 f5
          go_wp2_with (first
            | (go_at_call 20; refine HSm.out.mono ?_; rintro e w7 ⟨rfl, hd⟩; have HD67 := Lib.hid hd.gr; clear hd)
            | (go_at_call 17; refine (HIn.out _ HD67.out).mono ?_; rintro e w8 ⟨rfl, hd⟩; have HD8 := Lib.hid (HD67.out.trans hd.gr (fun _ _ h => h)); clear hd))
          go_meet
          exact ⟨_, rfl, rfl, Lib.hid (by rw [← HlL.out]; exact HV6.out.gr HD8.out), Lib.hid (HD6.out.trans HD8.out (fun _ _ h => h))⟩
      · have Hk := Lib.hid (show k = x1.length by have := HK.out; omega)
        have hki : decide ((k : Int) < (x1.length : Int)) = false := decide_eq_false (by omega)
        have HlL := Lib.hid (show l = L from (HLS.out.last (LS.empty (by have h := HLS.out; rw [Hk.out] at h; exact h))).trans HLq.out)
        go_wp2_with fail
        go_meet
        exact ⟨_, rfl, rfl, Lib.hid (by rw [← HlL.out]; exact HV.out), HD⟩
  case rest =>
  obtain ⟨va, rfl, rfl, HV, HD⟩ := hcut
  have HGr := Lib.hid (HG4.out.trans HD.out (fun _ _ h => h))
  obtain ⟨Al, cl, rfl⟩ := SL.form HV.out
  obtain ⟨Ab, cb, hab⟩ := SL.form HW4.out
  subst hab
  have f0 : wc.cell? ⟨q, 0, none⟩ = some (.slice A x0.length cap) := by rw [(HB4.out.fr HD.out (fun h => h)).cell]; rfl
  have HStx := Lib.hid (HSt.out wc _ L HGr.out (HW4.out.gr HD.out) (inv_wf HN0.out HLe.out.2.1))
  rw [stepE_in HLe.out.2.1 Hc.out (by have := HLe.out; omega), HLe.out.1] at HStx
  simp only at HStx
  go_upto_region 17 with (go_at_call 25; refine HStx.out.mono ?_; rintro e w5 ⟨rm, rfl, ho, hg⟩; obtain ⟨Am, cm, rfl⟩ := own_formN ho.own; have HM5 := Lib.hid ho.sl; have HG5 := Lib.hid (HGr.out.trans hg (fun _ _ h => h)); have HD5 := Lib.hid (HD.out.trans hg (fun _ _ h => h)); have HV5 := Lib.hid (HV.out.gr hg); clear ho hg)
  have HI1 := Lib.hid (Ints_any _ _ L L w5 HM5.out (HW4.out.gr HD5.out) (by have := HLe.out; omega))
  have HI2 := Lib.hid (fun wx (h : Gr w5 wx) => Ints_any _ _ L L wx (HV5.out.gr h) ((HW4.out.gr HD5.out).gr h) (by have := HLe.out; omega))
  rw [show decide (L = L) = true from decide_eq_true rfl] at HI1 HI2
  clear f0
  go_wp2_with (first
    | (go_at_call 17; with_reducible refine HI1.out.mono ?_; rintro e w6 ⟨rfl, hd⟩; have HD6 := Lib.hid (show Gr w5 w6 from hd.gr); clear hd)
    | (go_at_call 17; with_reducible refine (HI2.out _ HD6.out).mono ?_; rintro e w7 ⟨rfl, hd⟩; have HD7 := Lib.hid (HD6.out.trans hd.gr (fun _ _ h => h)); clear hd)
    | (go_at_call 14; refine (works_any _).mono ?_; rintro e wz ⟨rfl, hg⟩; have HGz := Lib.hid hg; clear hg))
  go_ret
  exact ⟨rfl, (HG5.out.trans HD7.out (fun _ _ h => h)).trans HGz.out (fun _ _ h => h)⟩
end Go.Proofs.Ytildhlneldoffaa
