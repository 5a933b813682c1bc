/- model: Do of a state and a deed that may be: kinds [4]. -/
import Derived.Test.YtlodbhlidgepfaaMWi
set_option linter.unusedVariables false
set_option linter.unusedSimpArgs false
namespace Go.Proofs.Ytlodbhlidgepfaa
open Go.RowKit
open Voc Leb Bpe
namespace Mod
set_option maxRecDepth 20000 in
set_option maxHeartbeats 8000000 in
theorem do_k4 {B : Nat → Prop} {w : World} {dv pv bv : Value} {s : St} {d : Dd} (HR : RS B w dv pv s) (hw : wfS s) (hnd : s.docs.length < 1048000) (HV : SL encB w bv d.b) (hdb : Leb.Bs d.b) (hdl : d.b.length ≤ 1048576) (hm : mayB s = true) (hd : dmayE d = true) (hset : d.k = 4) :
    Calls Try.prog 6 #[.agg (stA dv pv s.next), .agg (ddA d bv)] w (DoPost w (doE s d).1 (doE s d).2) := by
  have HM := Lib.hid (fun wx (hg : Gr w wx) => mayM_any (HR.gr hg) hw)
  have HDm := Lib.hid (fun wx (hg : Gr w wx) => dmay_any d (HV.gr hg) hdl)
  have HOw := Lib.hid (fun wx (hg : Gr w wx) => own_any (HR.gr hg) hw)
  have HVs := Lib.hid HV
  have HW := Lib.hid hw
  have Hnd := Lib.hid hnd
  have Hdb := Lib.hid hdb
  have Hdl := Lib.hid hdl
  have Hmp := Lib.hid (may_parts hm)
  have hRe := doE_K hm hd
  obtain ⟨⟨s', a'⟩, hR⟩ : ∃ R, doE s d = R := ⟨_, rfl⟩
  rw [hR] at hRe
  rw [hR]
  have HRe := Lib.hid hRe.symm
  clear hRe hR
  have Hkk := Lib.hid hset
  clear hset
  rw [hm] at HM
  rw [hd] at HDm
  have Hmm := Lib.hid (And.intro hm hd)
  obtain ⟨⟨A, ca, rfl⟩, A2, ca2, rfl⟩ := HR.form
  obtain ⟨A3, ca3, rfl⟩ := SL.form HV
  have hl3 : (d.b.length : Int) ≤ 1048576 := by omega
  have hn3 : (s.docs.length : Int) ≤ 1048000 := by omega
  have HX := Lib.hid (Bd.new w (stA (.slice A s.docs.length ca) (.slice A2 s.voc.length ca2) s.next) (ddA d (.slice A3 d.b.length ca3)) stZ anZ)
  obtain ⟨q, hq⟩ : ∃ q, w.heap.size = q := ⟨_, rfl⟩
  rw [hq] at HX
  obtain ⟨p, hp⟩ : ∃ q', q + 1 = q' := ⟨_, rfl⟩
  rw [hp] at HX
  obtain ⟨q1, hq1⟩ : ∃ q', p + 1 = q' := ⟨_, rfl⟩
  rw [hq1] at HX
  obtain ⟨q2, hq2⟩ : ∃ q', q1 + 1 = q' := ⟨_, rfl⟩
  rw [hq2] at HX
  clear HR hw HV hdb hdl hm hd hnd
  unfold stA at HM HOw ⊢
  unfold ddA at HDm ⊢
  go_enter Try.func6, Try.ntmps6
  go_upto_region 1 with (fail)
  change Code.wp _ _ _ _ ((((w.alloc (.cells (stA (.slice A s.docs.length ca) (.slice A2 s.voc.length ca2) s.next) TSt)).alloc (.cells (ddA d (.slice A3 d.b.length ca3)) TDd)).alloc (.cells stZ TSt)).alloc (.cells anZ TAn))
  clear hq hp hq1 hq2
  generalize hx : World.alloc (World.alloc (World.alloc (World.alloc w _) _) _) _ = w3 at HX ⊢
  clear hx
  have c0 : w3.cell? ⟨q, 0, none⟩ = some (.slice A s.docs.length ca) := by rw [HX.out.b.cell]; rfl
  have c1 : w3.cell? ⟨q, 1, none⟩ = some (.int .u64 s.next) := by rw [HX.out.b.cell]; rfl
  have c2 : w3.cell? ⟨q, 2, none⟩ = some (.slice A2 s.voc.length ca2) := by rw [HX.out.b.cell]; rfl
  go_upto_region 3 with (first
      | (go_at_call 7; refine (HM.out _ HX.out.fr).mono ?_; rintro e w3a ⟨rfl, hg⟩; have HX3 := Lib.hid (HX.out.gr hg)
         have d0 : w3a.cell? ⟨p, 0, none⟩ = some (.int .u8 d.k) := by rw [HX3.out.bp.cell]; rfl
         have d1 : w3a.cell? ⟨p, 1, none⟩ = some (.int .u64 d.id) := by rw [HX3.out.bp.cell]; rfl
         have d2 : w3a.cell? ⟨p, 2, none⟩ = some (.int .i64 d.n) := by rw [HX3.out.bp.cell]; rfl
         have d3 : w3a.cell? ⟨p, 3, none⟩ = some (.slice A3 d.b.length ca3) := by rw [HX3.out.bp.cell]; rfl
         clear hg)
      | (go_at_call 20; refine (HDm.out _ HX3.out.fr).mono ?_; rintro e w4 ⟨rfl, hg⟩; have HX4 := Lib.hid (HX3.out.gr hg); clear hg))
  clear c0 c1 c2 d0 d1 d2 d3
  have k0 : w4.cell? ⟨q, 0, none⟩ = some (.slice A s.docs.length ca) := by rw [HX4.out.b.cell]; rfl
  have k1 : w4.cell? ⟨q, 1, none⟩ = some (.int .u64 s.next) := by rw [HX4.out.b.cell]; rfl
  have k2 : w4.cell? ⟨q, 2, none⟩ = some (.slice A2 s.voc.length ca2) := by rw [HX4.out.b.cell]; rfl
  go_upto_region 4 with (first
      | (go_at_call 21; refine (HOw.out _ HX4.out.fr).mono ?_; rintro e w5 ⟨dv5, pv5, rfl, ho, hg⟩; obtain ⟨⟨A5, c5, rfl⟩, A6, c6, rfl⟩ := ho.rs.form; have HO4 := Lib.hid ho; have HO5 := Lib.hid (ho.base HX4.out.fr.size); have HX5 := Lib.hid (HX4.out.gr hg); clear ho hg)
      | refine wpList_store_row rfl _ _ _ rfl q (stA (.slice A5 s.docs.length c5) (.slice A6 s.voc.length c6) s.next) rfl rfl TSt _ HX5.out.b (by kernel_rfl) (by kernel_rfl) (by kernel_rfl) ?_)
  have HX6 := Lib.hid (HX5.out.row (stA (.slice A5 s.docs.length c5) (.slice A6 s.voc.length c6) s.next))
  have HO6 := Lib.hid (HO5.out.far HX5.out.b (by decide) (by decide) (by decide) (Sha.fr_setRow (S := fun k => k = q) (Fr.refl w5 _) (fun _ => rfl) (stA (.slice A5 s.docs.length c5) (.slice A6 s.voc.length c6) s.next)))
  clear k0 k1 k2
  generalize World.setRow w5 _ _ = w6 at HX6 HO6 ⊢
  have Hq2 := Lib.hid (show ∀ k, (Value.slice A5 s.docs.length c5).ownBlock = some k → q2 < k from fun k hk => by
    obtain ⟨D, hd, _⟩ := HO4.out.ex
    have h1 := (hd.lt k hk).1
    have h2 := HX4.out.b5.lt
    omega)
  clear HX HX3 HX4 HX5 HO4 HO5 HM HDm HOw
  have HFr := Lib.hid (from_any HO6.out.rs (by have := Hnd.out; omega) Hmp.out.2.1 d.id)
  unfold stA at HFr
  have c0 : w6.cell? ⟨q, 0, none⟩ = some (.slice A5 s.docs.length c5) := by rw [HX6.out.b.cell]; rfl
  have c1 : w6.cell? ⟨q, 1, none⟩ = some (.int .u64 s.next) := by rw [HX6.out.b.cell]; rfl
  have c2 : w6.cell? ⟨q, 2, none⟩ = some (.slice A6 s.voc.length c6) := by rw [HX6.out.b.cell]; rfl
  have d1 : w6.cell? ⟨p, 1, none⟩ = some (.int .u64 d.id) := by rw [HX6.out.bp.cell]; rfl
  have Hkl := Lib.hid (at_le s.docs d.id)
  have Hhas := Lib.hid (show hasE s.docs d.id = (if atE s.docs d.id < s.docs.length then decide ((s.docs.getD (atE s.docs d.id) ⟨0, []⟩).id = d.id) else false) by
    split
    · rename_i h
      by_cases h1 : (s.docs.getD (atE s.docs d.id) ⟨0, []⟩).id = d.id
      · rw [decide_eq_true h1]; exact has_yes h h1
      · rw [decide_eq_false h1]; exact has_no (fun _ => h1)
    · rename_i h
      exact has_no (fun h1 => absurd h1 h))
  obtain ⟨K, hK⟩ : ∃ K, atE s.docs d.id = K := ⟨_, rfl⟩
  obtain ⟨T, hT⟩ : ∃ T, hasE s.docs d.id = T := ⟨_, rfl⟩
  rw [hK] at HFr Hkl Hhas
  rw [hT] at Hhas
  rw [hK, hT] at HRe
  clear hK hT
  go_upto_region 5 with (go_at_call 22; refine HFr.out.mono ?_; rintro e w7 ⟨rfl, hg⟩; have HX7 := Lib.hid (HX6.out.gr hg); have HO7 := Lib.hid (HO6.out.gr hg); clear hg)
  clear c0 c1 c2 d1 HX6 HO6 HFr
  have c0 : w7.cell? ⟨q, 0, none⟩ = some (.slice A5 s.docs.length c5) := by rw [HX7.out.b.cell]; rfl
  have d1 : w7.cell? ⟨p, 1, none⟩ = some (.int .u64 d.id) := by rw [HX7.out.bp.cell]; rfl
  go_cut [7] (fun s7 wx => s7 = .bool T ∧ Hid (Gr w7 wx))
  case first =>
    --<< A
    have hki : (K : Int) ≤ (s.docs.length : Int) := by have := Hkl.out; omega
    by_cases hk : K < s.docs.length
    · have hkl : (K : Int) < (s.docs.length : Int) := by omega
      have Hh := Hhas.out
      rw [if_pos hk] at Hh
      have HRr := HO7.out.rs
      obtain ⟨ba, oa, A8, c8, e, _, d0, _, _, _⟩ : ∃ b off A2 c2, A5 = some ⟨b, off, none⟩ ∧ b < w7.heap.size ∧ w7.cell? ⟨b, off + K * 2, none⟩ = some (.int .u64 (s.docs.getD K ⟨0, []⟩).id) ∧ w7.cell? ⟨b, off + K * 2 + 1, none⟩ = some (.slice A2 (s.docs.getD K ⟨0, []⟩).b.length c2) ∧
          SL encB w7 (.slice A2 (s.docs.getD K ⟨0, []⟩).b.length c2) (s.docs.getD K ⟨0, []⟩).b ∧ SB _ (.slice A2 (s.docs.getD K ⟨0, []⟩).b.length c2) (s.docs.getD K ⟨0, []⟩).b.length := by
        obtain ⟨D, hd, ha⟩ := HRr.ex
        exact doc_at hd ha hk
      subst e
      generalize (s.docs.getD K ⟨0, []⟩).id = x at d0 Hh
      have Hh2 := Lib.hid Hh
      clear Hh HRr Hhas
      by_cases hx : x = d.id
      · have hx1 : (x == d.id) = true := by rw [hx]; exact beq_self_eq_true _
        have Ht := Lib.hid (show T = true by rw [Hh2.out]; exact decide_eq_true hx)
        clear hx
        go_wp2_with fail
        go_quiet (fail)
        go_wp2_with fail
        go_meet
        rw [Ht.out]
        exact ⟨rfl, (Fr.refl _ _).drewN _⟩
      · have hx1 : (x == d.id) = false := beq_eq_false_iff_ne.2 hx
        have Ht := Lib.hid (show T = false by rw [Hh2.out]; exact decide_eq_false hx)
        clear hx
        go_wp2_with fail
        go_quiet (fail)
        go_wp2_with fail
        go_meet
        rw [Ht.out]
        exact ⟨rfl, (Fr.refl _ _).drewN _⟩
    · have hkl : decide ((K : Int) < (s.docs.length : Int)) = false := decide_eq_false (by omega)
      have Hh := Hhas.out
      rw [if_neg hk] at Hh
      have Ht := Lib.hid Hh
      clear Hh Hhas
      go_wp2_with fail
      go_quiet (fail)
      go_wp2_with fail
      go_meet
      rw [Ht.out]
      exact ⟨rfl, (Fr.refl _ _).drewN _⟩
    -->> A
  case rest =>
  obtain ⟨rfl, HGc⟩ := hcut
  have HX8 := Lib.hid (HX7.out.gr HGc.out)
  have HO8 := Lib.hid (HO7.out.gr HGc.out)
  clear c0 d1 HX7 HO7 HGc
  have d0 : wc.cell? ⟨p, 0, none⟩ = some (.int .u8 d.k) := by rw [HX8.out.bp.cell]; rfl
  have d3 : wc.cell? ⟨p, 3, none⟩ = some (.slice A3 d.b.length ca3) := by rw [HX8.out.bp.cell]; rfl
  have c0 : wc.cell? ⟨q, 0, none⟩ = some (.slice A5 s.docs.length c5) := by rw [HX8.out.b.cell]; rfl
  have c1 : wc.cell? ⟨q, 1, none⟩ = some (.int .u64 s.next) := by rw [HX8.out.b.cell]; rfl
  have c2 : wc.cell? ⟨q, 2, none⟩ = some (.slice A6 s.voc.length c6) := by rw [HX8.out.b.cell]; rfl
  obtain ⟨k, hk⟩ : ∃ k, d.k = k := ⟨_, rfl⟩
  rw [hk] at d0
  rw [hk] at Hkk
  have Hk := Lib.hid hk
  clear hk
  go_upto_block 0 with (fail)
  go_cut [] (fun wx => wx = wc ∧ Hid (k ≠ 1 ∧ k ≠ 9 ∧ (k = 2 ∨ k = 3 ∨ k = 4 → T = true)))
  case first =>
    have hkk := Hkk.out
    subst hkk
    · -- there?
      cases T with
      | false =>
        have hE : (s, ({ an0 with e := 7 } : An)) = (s', a') := by rw [← HRe.out]; unfold doK; rw [if_neg (by rw [Hk.out]; decide), if_pos ⟨by have := Hk.out; omega, rfl⟩]
        injection hE with e1 e2
        subst e1 e2
        go_wp2_with (first
          | refine Sha.wpList_build_to rfl TAn _ rfl (anA { an0 with e := 7 } nilV nilV) (by kernel_rfl) ?_
          | refine wpList_store_row rfl _ _ _ rfl q1 (stA (.slice A5 s.docs.length c5) (.slice A6 s.voc.length c6) s.next) rfl rfl TSt _ HX8.out.b4 (by kernel_rfl) (by kernel_rfl) (by kernel_rfl) ?_
          | refine wpList_store_row rfl _ _ _ rfl q2 (anA { an0 with e := 7 } nilV nilV) rfl rfl TAn _ (Sha.blk_setRow_ne HX8.out.b5 (by have := HX8.out.lo; omega) _) (by kernel_rfl) (by kernel_rfl) (by kernel_rfl) ?_)
        have HXl := Lib.hid (HX8.out.lay (stA (.slice A5 s.docs.length c5) (.slice A6 s.voc.length c6) s.next) (anA { an0 with e := 7 } nilV nilV))
        refine bodyPost_ret (results_cc Try.results6 _ _ q1 q2 _ _ _ _ _ _ rfl rfl HXl.out.b4 HXl.out.b5 Try.underlying29 rfl (by kernel_rfl) Try.underlying38 rfl (by kernel_rfl)) rfl ?_
        have h9 := HX8.out.fr.size
        exact ⟨_, _, nilV, nilV, wc.heap.size, rfl, (HO8.out.toN.lay HX8.out _ _).rs, h9, OB.nil _ _, OW.nil _ _, HXl.out.fr⟩
      | true =>
        go_wp2_with fail
        go_meet
        exact ⟨rfl, by decide, by decide, fun _ => trivial⟩
  case rest =>
  obtain ⟨rfl, Hkx⟩ := hcut
  clear d0 d3 c0 c1 c2
  go_upto_region 17 with (fail)
  have HX9 := Lib.hid (HX8.out.gr ((Fr.refl wc NoneS).alloc (.cells anZ TAn)))
  have HO9 := Lib.hid (HO8.out.gr ((Fr.refl wc NoneS).alloc (.cells anZ TAn)))
  have HB9 := Lib.hid (Blk.new wc TAn anZ)
  have Hb8 := Lib.hid (show q2 < wc.heap.size from HX8.out.b5.lt)
  change Code.wp _ _ _ _ (wc.alloc (.cells anZ TAn))
  generalize wc.heap.size = b8 at HB9 Hb8 ⊢
  generalize hx : World.alloc wc _ = w9 at HX9 HO9 HB9 ⊢
  clear hx HX8 HO8
  have d0 : w9.cell? ⟨p, 0, none⟩ = some (.int .u8 d.k) := by rw [HX9.out.bp.cell]; rfl
  rw [Hk.out] at d0
  obtain ⟨n9, hn9⟩ : ∃ n, w9.heap.size = n := ⟨_, rfl⟩
  have Hn9 := Lib.hid hn9
  clear hn9
  have HOn := Lib.hid (HO9.out.toN)
  rw [Hn9.out] at HOn
  go_upto_block 1 with (fail)
  go_cut [] (fun wx => Hid (DoC w q p q1 q2 b8 s' a' n9 (ddA d (.slice A3 d.b.length ca3)) wx))
  case first =>
    have hkk := Hkk.out
    have hkx := Hkx.out
    subst hkk
    · --<< C4
      have hT : T = true := hkx.2.2 (by decide)
      subst hT
      clear hkx
      have hE : (s, ({ an0 with e := (encE s.voc (s.docs.getD K ⟨0, []⟩).b).2, ids := (encE s.voc (s.docs.getD K ⟨0, []⟩).b).1 } : An)) = (s', a') := by rw [← HRe.out]; simp [doK, Hk.out]
      injection hE with e1 e2
      subst e1
      have He2 := Lib.hid e2.symm
      clear e2
      have hkl : K < s.docs.length := by
        have h := Hhas.out
        split at h
        · assumption
        · cases h
      have HRr := HOn.out.rs
      obtain ⟨ba, oa, A8, c8, e, hba, _, dd1, hsl, _⟩ : ∃ b off A2 c2, A5 = some ⟨b, off, none⟩ ∧ b < w9.heap.size ∧ w9.cell? ⟨b, off + K * 2, none⟩ = some (.int .u64 (s.docs.getD K ⟨0, []⟩).id) ∧ w9.cell? ⟨b, off + K * 2 + 1, none⟩ = some (.slice A2 (s.docs.getD K ⟨0, []⟩).b.length c2) ∧
          SL encB w9 (.slice A2 (s.docs.getD K ⟨0, []⟩).b.length c2) (s.docs.getD K ⟨0, []⟩).b ∧ SB _ (.slice A2 (s.docs.getD K ⟨0, []⟩).b.length c2) (s.docs.getD K ⟨0, []⟩).b.length := by
        obtain ⟨D, hd, ha⟩ := HRr.ex
        exact doc_at hd ha hkl
      subst e
      have hwd := HW.out.docs _ (List.getElem_mem hkl)
      have hki : (K : Int) < (s.docs.length : Int) := by omega
      rw [← getD_get s.docs K ⟨0, []⟩ hkl] at hwd
      have HEn := Lib.hid (encode_any (HRr.voc.gr (Fr.refl w9 NoneS).drew) (hsl.gr (Fr.refl w9 NoneS).drew) HW.out.voc hwd.2.1 HW.out.nv)
      have htk := enc_tok s.voc (s.docs.getD K ⟨0, []⟩).b
      have hln := enc_lenM s.voc (s.docs.getD K ⟨0, []⟩).b
      have hbl := hwd.2.2
      have hnv := HW.out.nv
      have he2 := He2.out
      clear He2 HRr hsl hwd
      generalize (s.docs.getD K ⟨0, []⟩).b = bs at dd1 HEn he2 htk hln hbl
      obtain ⟨⟨L, E⟩, hLE⟩ : ∃ x, encE s.voc bs = x := ⟨_, rfl⟩
      rw [hLE] at HEn he2 htk hln
      simp only at HEn he2 htk hln
      have He3 := Lib.hid he2
      have Htk := Lib.hid (show ∀ x ∈ L, 0 ≤ x ∧ x ≤ 1048576 from fun x hx => by have := htk x hx; omega)
      have hLl : (L.length : Int) ≤ 1048576 := by omega
      clear he2 htk hln hbl hnv hLE
      have Hkey := Lib.hid (show ∀ wx, Gr w9 wx → wx.cell? ⟨q, 0, none⟩ = some (.slice (some ⟨ba, oa, none⟩) s.docs.length c5) ∧ wx.cell? ⟨q, 2, none⟩ = some (.slice A6 s.voc.length c6) ∧ wx.cell? ⟨ba, oa + K * 2 + 1, none⟩ = some (.slice A8 bs.length c8) from fun wx hg =>
        ⟨by rw [(HX9.out.b.fr hg (fun h => h)).cell]; rfl, by rw [(HX9.out.b.fr hg (fun h => h)).cell]; rfl, (hg.cell (p := ⟨ba, oa + K * 2 + 1, none⟩) hba (fun h => h)).trans dd1⟩)
      clear dd1
      have HD0 := Lib.hid ((Fr.refl w9 NoneS).drew)
      go_upto_region 24 with (fail)
      go_region_held3 (fun wx => wx.cell? ⟨q, 0, none⟩ = some (.slice (some ⟨ba, oa, none⟩) s.docs.length c5) ∧ wx.cell? ⟨q, 2, none⟩ = some (.slice A6 s.voc.length c6) ∧ wx.cell? ⟨ba, oa + K * 2 + 1, none⟩ = some (.slice A8 bs.length c8))
        (first | with_reducible exact Hkey.out _ HD0.out | with_reducible exact Hkey.out _ HG10.out)
        (first
          | (go_at_call 26
             (with_reducible refine HEn.out.mono ?_)
             rintro e w10 ⟨rv, rfl, ho, hg⟩
             obtain ⟨Ar, cr, rfl⟩ := own_formN ho.own
             have HL10 := Lib.hid (show w10.ownsRow n9 TI 1 (.slice Ar L.length cr) L.length (L.flatMap encI) from own_base ho.own (by have := Hn9.out; simp; omega))
             have HG10 := Lib.hid (show Gr w9 w10 from (Fr.refl w9 NoneS).drew.trans hg (fun _ _ h => h))
             clear ho hg))
      have HB10 := Lib.hid (HB9.out.fr HG10.out (fun h => h))
      have a0 : w10.cell? ⟨b8, 0, none⟩ = some (.int .i64 0) := by rw [HB10.out.cell]; rfl
      have z0 := HB10.out.frozen 0
      go_upto_block 2 with (fail)
      have hf0 : Fr w10 (w10.setCell ⟨b8, 0, none⟩ (.int .i64 E)) (fun k => k = b8) := (Fr.refl w10 (fun k => k = b8)).setCell (p := ⟨b8, 0, none⟩) (fun _ => rfl) _
      have HA := Lib.hid (show Ac w _ q p q1 q2 b8 n9 _ _ _ _ s { an0 with e := E } nilV [] from ⟨(HX9.out.gr HG10.out).any hf0 (fun k h => by have := Hb8.out; omega), HB10.out.set_ 0 (.int .i64 E), (HOn.out.gr HG10.out).far HB10.out (by decide) (by decide) (by decide) hf0, OW.nil _ _, Hb8.out, by have := Hn9.out; have := HB9.out.lt; omega, by have := Hn9.out; have := hf0.size; have := HG10.out.size; omega⟩)
      have HLA := Lib.hid (hf0.owns HL10.out (fun k hk e => by have h1 := (HL10.out.lt k hk).1; have := Hn9.out; have := HB9.out.lt; omega))
      clear hf0 a0 z0
      generalize World.setCell w10 _ _ = w11 at HA HLA ⊢
      go_wp2_with fail
      go_loopg [125] (L.length + 1) (fun m s125 wr => ∃ (k : Nat) (iv : Value), s125 = .int .i64 k ∧ Hid (k ≤ L.length ∧ L.length - k < m) ∧ Hid (Ac w wr q p q1 q2 b8 n9 (stA (.slice (some ⟨ba, oa, none⟩) s.docs.length c5) (.slice A6 s.voc.length c6) s.next) (ddA d (.slice A3 d.b.length ca3)) (.slice (some ⟨ba, oa, none⟩) s.docs.length c5) (.slice A6 s.voc.length c6) s { an0 with e := E } iv (L.take k)) ∧ Hid (wr.ownsRow n9 TI 1 (.slice Ar L.length cr) L.length (L.flatMap encI)))
      case atStart => exact ⟨0, _, rfl, ⟨Nat.zero_le _, by omega⟩, HA.out, HLA.out⟩
      case round =>
        obtain ⟨k, iv, rfl, HK, HP, HR⟩ := hrel
        by_cases hk : k < L.length
        · obtain ⟨bl, ol, e, _, hc⟩ := (SL.of_own (enc := encI) HR.out rfl).at_ (s := 1) (fun _ => rfl) rfl hk
          subst e
          have x0 := hc 0 (by omega)
          simp [encI] at x0
          have Hx := Lib.hid (List.take_succ_eq_append_getElem hk)
          have hxb := Htk.out _ (List.getElem_mem hk)
          have hlk : (L.take k).length = k := by rw [List.length_take]; omega
          generalize L[k]'hk = x at x0 Hx hxb
          obtain ⟨l, hl⟩ : ∃ l, L.take k = l := ⟨_, rfl⟩
          rw [hl] at HP hlk Hx
          have Hlk := Lib.hid hlk
          clear hl hlk hc
          obtain ⟨Ai, ci, rfl⟩ := own_formN HP.out.ow
          have a4 : wr.cell? ⟨b8, 4, none⟩ = some (.slice Ai l.length ci) := by rw [HP.out.bk.cell]; rfl
          have l8 : b8 < wr.heap.size := HP.out.bk.lt
          have hki2 : (k : Int) < (L.length : Int) := by omega
          have Hk1 := Lib.hid hk
          have hwx : IntKind.u64.wrap x = x := IntWalk.u64_in _ ⟨by omega, by omega⟩
          obtain ⟨i1, hj0, hj1, hj2, hj3⟩ := info_parts info_u64
          clear hk
          go_wp2_with (
            at_builtin
            refine wpList_append_sl _ encW rfl _ _ 36 rfl n9 TU64 i1 (.int .u64 0) 1 8 Try.underlying36 hj0 hj1 hj2 hj3 rfl (by decide) (.slice Ai l.length ci) l.length (l.flatMap encW) rfl (((Fr.refl wr NoneS).alloc _).owns HP.out.ow (fun _ _ h => h)) (.slice (some ⟨wr.heap.size, 0, none⟩) 1 1) [x] rfl (sl_one (enc := encW) wr x #[.int .u64 x] rfl TU64) (fun _ => rfl) encW_one (by have := Hlk.out; have := Hk1.out; unfold maxLen; simp; omega) (by have := Hlk.out; have := Hk1.out; simp; omega) (by have := HP.out.lo.2.2; simp; omega) ?_
            intro v7 w7 ho hf hat
            obtain ⟨Av, cv, rfl⟩ := own_formN ho
            have HO7 := Lib.hid ho
            have HF7 := Lib.hid hf
            have HP5 := Lib.hid (HP.out.any ((Fr.refl wr NoneS).alloc (.cells #[.int .u64 x] TU64)))
            have hb7 : Blk w7 b8 TAn (anA { an0 with e := E } nilV (.slice Ai l.length ci)) := HP5.out.bk.fr hf (fun h => by have h1 := (World.ownsRow.lt HP.out.ow _ h).1; have := HP.out.lo; omega)
            have a7 : w7.cell? ⟨b8, 4, none⟩ = some (.slice Ai l.length ci) := (by rw [hb7.cell]; rfl)
            have z7 := hb7.frozen 4
            have HR7 := Lib.hid (hf.owns (((Fr.refl wr NoneS).alloc (.cells #[.int .u64 x] TU64)).owns HR.out (fun _ _ h => h)) (fun k hk => own_own_ne HR.out HP.out.ow (by decide) k hk))
            have HB7 := Lib.hid hb7
            clear ho hf hat hb7)
          go_roundg (gk - 1)
          case measure => have := HK.out; have := Hk1.out; omega
          case rel => exact ⟨k + 1, _, by go_num, ⟨Hk1.out, by have := HK.out; have := Hk1.out; omega⟩, Lib.hid (by rw [Hx.out]; exact HP5.out.push HF7.out HO7.out), ((Fr.refl w7 (fun k => k = b8)).setCell (p := ⟨b8, 4, none⟩) (fun _ => rfl) _).owns HR7.out (fun k hk e => own_blk_ne HR7.out HB7.out (by decide) (e ▸ hk))⟩
        · obtain rfl : k = L.length := by have := HK.out; omega
          go_wp2_with fail
          go_meet
          have h := HP.out
          rw [List.take_of_length_le (Nat.le_refl _)] at h
          rw [He3.out]
          exact ⟨_, _, nilV, iv, h.bx, h.bk, h.os, OB.nil _ _, h.ow⟩
      -->> C4
  case rest =>
  obtain ⟨dv2, pv2, bv2, iv2, HXc, HBc, HOc, hob, how⟩ := hcut.out
  obtain ⟨⟨A11, c11, rfl⟩, A12, c12, rfl⟩ := HOc.form
  obtain ⟨A13, c13, rfl⟩ := own_formN hob.own
  obtain ⟨A14, c14, rfl⟩ := own_formN how
  have HXr := Lib.hid HXc
  have HBr := Lib.hid HBc
  have HOr := Lib.hid HOc
  have Hob := Lib.hid hob
  have How := Lib.hid how
  clear HXc HBc HOc hob how hcut
  have Hne := Lib.hid (show b8 ≠ q1 ∧ b8 ≠ q2 by have := HXr.out.lo; have := Hb8.out; omega)
  have Hkey := Lib.hid (show ∀ wx, Fr wc wx (fun k => k = q1 ∨ k = q2) → wx.cell? ⟨q, 0, none⟩ = some (.slice A11 s'.docs.length c11) ∧ wx.cell? ⟨q, 1, none⟩ = some (.int .u64 s'.next) ∧ wx.cell? ⟨q, 2, none⟩ = some (.slice A12 s'.voc.length c12) ∧ wx.cell? ⟨b8, 0, none⟩ = some (.int .i64 a'.e) ∧ wx.cell? ⟨b8, 1, none⟩ = some (.int .u64 a'.id) ∧ wx.cell? ⟨b8, 2, none⟩ = some (.int .i64 a'.n) ∧ wx.cell? ⟨b8, 3, none⟩ = some (.slice A13 a'.b.length c13) ∧ wx.cell? ⟨b8, 4, none⟩ = some (.slice A14 a'.ids.length c14) ∧ wx.cell? ⟨b8, 5, none⟩ = some (.bool a'.more) from fun wx hg => by
    have hb := HXr.out.b.fr hg (by have := HXr.out.lo; omega)
    have h8 := HBr.out.fr hg (by have := Hne.out; omega)
    exact ⟨by rw [hb.cell]; rfl, by rw [hb.cell]; rfl, by rw [hb.cell]; rfl, by rw [h8.cell]; rfl, by rw [h8.cell]; rfl, by rw [h8.cell]; rfl, by rw [h8.cell]; rfl, by rw [h8.cell]; rfl, by rw [h8.cell]; rfl⟩)
  go_upto_region 41 with (fail)
  have HT0 := Lib.hid (show Fr wc wc.drew (fun k => k = q1 ∨ k = q2) from (Fr.refl wc _).drew)
  refine wp_region_held_drew (S := fun wx => Fr wc wx (fun k => k = q1 ∨ k = q2)) (by kernel_rfl) HT0.out (fun hHeld => ?_)
  refine wpAnyH_take (i := 0) (v := .agg #[.slice A11 s'.docs.length c11, .int .u64 s'.next, .slice A12 s'.voc.length c12]) rfl (by kernel_rfl) (by kernel_rfl) (by kernel_rfl) (fun _ _ _ h => h) (Or.inl ⟨by kernel_rfl, ?_⟩) hHeld ?_
  · intro w hSw; obtain ⟨k0, k1, k2, m0, m1, m2, m3, m4, m5⟩ := Hkey.out _ hSw; go_simp
  try simp only [Act.put, List.getElem_toArray, List.getElem_cons_succ, List.getElem_cons_zero, List.setIfInBounds_toArray, List.set_cons_zero, List.set_cons_succ]
  refine wpAnyH_take (i := 1) (v := .agg #[.int .i64 a'.e, .int .u64 a'.id, .int .i64 a'.n, .slice A13 a'.b.length c13, .slice A14 a'.ids.length c14, .bool a'.more]) rfl (by kernel_rfl) (by kernel_rfl) (by kernel_rfl) (fun _ _ _ h => h) (Or.inl ⟨by kernel_rfl, ?_⟩) hHeld ?_
  · intro w hSw; obtain ⟨k0, k1, k2, m0, m1, m2, m3, m4, m5⟩ := Hkey.out _ hSw; go_simp
  try simp only [Act.put, List.getElem_toArray, List.getElem_cons_succ, List.getElem_cons_zero, List.setIfInBounds_toArray, List.set_cons_zero, List.set_cons_succ]
  refine wpAnyH_ready (rs := [2]) (by kernel_rfl) (by simp) ?_
  refine AllReadyH.cons rfl (fun K hK => ?_) AllReadyH.nil
  rw [if_pos (by rfl)]
  refine wp_store_row TSt _ _ rfl q1 (stA (.slice A11 s'.docs.length c11) (.slice A12 s'.voc.length c12) s'.next) rfl rfl TSt _ HXr.out.b4 (by kernel_rfl) (by kernel_rfl) (by kernel_rfl) ?_
  refine hK.out _ _ (Sha.fr_setRow hHeld (fun _ => Or.inl rfl) _) (fun hHeld => ?_)
  clear hK K
  try simp only [Act.put, List.getElem_toArray, List.getElem_cons_succ, List.getElem_cons_zero, List.setIfInBounds_toArray, List.set_cons_zero, List.set_cons_succ]
  refine wpAnyH_ready (rs := [3]) (by kernel_rfl) (by simp) ?_
  refine AllReadyH.cons rfl (fun K hK => ?_) AllReadyH.nil
  rw [if_pos (by rfl)]
  refine wp_store_row TAn _ _ rfl q2 (anA a' (.slice A13 a'.b.length c13) (.slice A14 a'.ids.length c14)) rfl rfl TAn _ (Sha.blk_setRow_ne HXr.out.b5 (by have := HXr.out.lo; omega) _) (by kernel_rfl) (by kernel_rfl) (by kernel_rfl) ?_
  refine hK.out _ _ (Sha.fr_setRow hHeld (fun _ => Or.inr rfl) _) (fun hHeld => ?_)
  clear hK K
  try simp only [Act.put, List.getElem_toArray, List.getElem_cons_succ, List.getElem_cons_zero, List.setIfInBounds_toArray, List.set_cons_zero, List.set_cons_succ]
  refine wpAnyH_done (by kernel_rfl) ?_ _
  have HX12 := Lib.hid (HXr.out.gr (Fr.refl wc NoneS).drew)
  have HO12 := Lib.hid (HOr.out.gr (Fr.refl wc NoneS).drew)
  have Hob2 := Lib.hid (Hob.out.gr (Fr.refl wc NoneS).drew)
  have How2 := Lib.hid (((Fr.refl wc NoneS).drew).owns How.out (fun _ _ h => h))
  have Hs := Lib.hid (show wc.heap.size ≤ wc.drew.heap.size from Nat.le_refl _)
  generalize wc.drew = w12 at HX12 HO12 Hob2 How2 ⊢
  go_wp2_with fail
  have HXl := Lib.hid (HX12.out.lay (stA (.slice A11 s'.docs.length c11) (.slice A12 s'.voc.length c12) s'.next) (anA a' (.slice A13 a'.b.length c13) (.slice A14 a'.ids.length c14)))
  refine bodyPost_ret (results_cc Try.results6 _ _ q1 q2 _ _ _ _ _ _ rfl rfl HXl.out.b4 HXl.out.b5 Try.underlying29 rfl (by kernel_rfl) Try.underlying38 rfl (by kernel_rfl)) rfl ?_
  have hfl := HX12.out.layFr (stA (.slice A11 s'.docs.length c11) (.slice A12 s'.voc.length c12) s'.next) (anA a' (.slice A13 a'.b.length c13) (.slice A14 a'.ids.length c14))
  have hlo := HX12.out.lo
  have hlt := HX12.out.b5.lt
  refine ⟨_, _, _, _, n9, rfl, (HO12.out.lay HX12.out _ _).rs, ?_, ?_, ?_, HXl.out.fr⟩
  · have := HX9.out.fr.size; have := Hn9.out; omega
  · exact Hob2.out.fr hfl (fun k hk h => by have := (Hob2.out.own.lt k hk).1; have := Hn9.out; have := HX9.out.b5.lt; omega)
  · exact hfl.owns How2.out (fun k hk h => by have := (World.ownsRow.lt How2.out k hk).1; have := Hn9.out; have := HX9.out.b5.lt; omega)
end Mod
end Go.Proofs.Ytlodbhlidgepfaa
