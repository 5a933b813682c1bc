/- model: Do of a state and a deed that may be: kinds [2]. -/
import Derived.Test.YtlodbhlidgepfaaMWi
set_option linter.unusedVariables false
set_option linter.unusedSimpArgs false
namespace Go.Proofs.Ytlodbhlidgepfaa
open Go.RowKit
open Voc Leb Bpe
namespace Mod
set_option maxRecDepth 20000 in
set_option maxHeartbeats 8000000 in
theorem do_k2 {B : Nat → Prop} {w : World} {dv pv bv : Value} {s : St} {d : Dd} (HR : RS B w dv pv s) (hw : wfS s) (hnd : s.docs.length < 1048000) (HV : SL encB w bv d.b) (hdb : Leb.Bs d.b) (hdl : d.b.length ≤ 1048576) (hm : mayB s = true) (hd : dmayE d = true) (hset : d.k = 2) :
    Calls Try.prog 6 #[.agg (stA dv pv s.next), .agg (ddA d bv)] w (DoPost w (doE s d).1 (doE s d).2) := by
  have HM := Lib.hid (fun wx (hg : Gr w wx) => mayM_any (HR.gr hg) hw)
  have HDm := Lib.hid (fun wx (hg : Gr w wx) => dmay_any d (HV.gr hg) hdl)
  have HOw := Lib.hid (fun wx (hg : Gr w wx) => own_any (HR.gr hg) hw)
  have HVs := Lib.hid HV
  have HW := Lib.hid hw
  have Hnd := Lib.hid hnd
  have Hdb := Lib.hid hdb
  have Hdl := Lib.hid hdl
  have Hmp := Lib.hid (may_parts hm)
  have hRe := doE_K hm hd
  obtain ⟨⟨s', a'⟩, hR⟩ : ∃ R, doE s d = R := ⟨_, rfl⟩
  rw [hR] at hRe
  rw [hR]
  have HRe := Lib.hid hRe.symm
  clear hRe hR
  have Hkk := Lib.hid hset
  clear hset
  rw [hm] at HM
  rw [hd] at HDm
  have Hmm := Lib.hid (And.intro hm hd)
  obtain ⟨⟨A, ca, rfl⟩, A2, ca2, rfl⟩ := HR.form
  obtain ⟨A3, ca3, rfl⟩ := SL.form HV
  have hl3 : (d.b.length : Int) ≤ 1048576 := by omega
  have hn3 : (s.docs.length : Int) ≤ 1048000 := by omega
  have HX := Lib.hid (Bd.new w (stA (.slice A s.docs.length ca) (.slice A2 s.voc.length ca2) s.next) (ddA d (.slice A3 d.b.length ca3)) stZ anZ)
  obtain ⟨q, hq⟩ : ∃ q, w.heap.size = q := ⟨_, rfl⟩
  rw [hq] at HX
  obtain ⟨p, hp⟩ : ∃ q', q + 1 = q' := ⟨_, rfl⟩
  rw [hp] at HX
  obtain ⟨q1, hq1⟩ : ∃ q', p + 1 = q' := ⟨_, rfl⟩
  rw [hq1] at HX
  obtain ⟨q2, hq2⟩ : ∃ q', q1 + 1 = q' := ⟨_, rfl⟩
  rw [hq2] at HX
  clear HR hw HV hdb hdl hm hd hnd
  unfold stA at HM HOw ⊢
  unfold ddA at HDm ⊢
  go_enter Try.func6, Try.ntmps6
  go_upto_region 1 with (fail)
  change Code.wp _ _ _ _ ((((w.alloc (.cells (stA (.slice A s.docs.length ca) (.slice A2 s.voc.length ca2) s.next) TSt)).alloc (.cells (ddA d (.slice A3 d.b.length ca3)) TDd)).alloc (.cells stZ TSt)).alloc (.cells anZ TAn))
  clear hq hp hq1 hq2
  generalize hx : World.alloc (World.alloc (World.alloc (World.alloc w _) _) _) _ = w3 at HX ⊢
  clear hx
  have c0 : w3.cell? ⟨q, 0, none⟩ = some (.slice A s.docs.length ca) := by rw [HX.out.b.cell]; rfl
  have c1 : w3.cell? ⟨q, 1, none⟩ = some (.int .u64 s.next) := by rw [HX.out.b.cell]; rfl
  have c2 : w3.cell? ⟨q, 2, none⟩ = some (.slice A2 s.voc.length ca2) := by rw [HX.out.b.cell]; rfl
  go_upto_region 3 with (first
      | (go_at_call 7; refine (HM.out _ HX.out.fr).mono ?_; rintro e w3a ⟨rfl, hg⟩; have HX3 := Lib.hid (HX.out.gr hg)
         have d0 : w3a.cell? ⟨p, 0, none⟩ = some (.int .u8 d.k) := by rw [HX3.out.bp.cell]; rfl
         have d1 : w3a.cell? ⟨p, 1, none⟩ = some (.int .u64 d.id) := by rw [HX3.out.bp.cell]; rfl
         have d2 : w3a.cell? ⟨p, 2, none⟩ = some (.int .i64 d.n) := by rw [HX3.out.bp.cell]; rfl
         have d3 : w3a.cell? ⟨p, 3, none⟩ = some (.slice A3 d.b.length ca3) := by rw [HX3.out.bp.cell]; rfl
         clear hg)
      | (go_at_call 20; refine (HDm.out _ HX3.out.fr).mono ?_; rintro e w4 ⟨rfl, hg⟩; have HX4 := Lib.hid (HX3.out.gr hg); clear hg))
  clear c0 c1 c2 d0 d1 d2 d3
  have k0 : w4.cell? ⟨q, 0, none⟩ = some (.slice A s.docs.length ca) := by rw [HX4.out.b.cell]; rfl
  have k1 : w4.cell? ⟨q, 1, none⟩ = some (.int .u64 s.next) := by rw [HX4.out.b.cell]; rfl
  have k2 : w4.cell? ⟨q, 2, none⟩ = some (.slice A2 s.voc.length ca2) := by rw [HX4.out.b.cell]; rfl
  go_upto_region 4 with (first
      | (go_at_call 21; refine (HOw.out _ HX4.out.fr).mono ?_; rintro e w5 ⟨dv5, pv5, rfl, ho, hg⟩; obtain ⟨⟨A5, c5, rfl⟩, A6, c6, rfl⟩ := ho.rs.form; have HO4 := Lib.hid ho; have HO5 := Lib.hid (ho.base HX4.out.fr.size); have HX5 := Lib.hid (HX4.out.gr hg); clear ho hg)
      | refine wpList_store_row rfl _ _ _ rfl q (stA (.slice A5 s.docs.length c5) (.slice A6 s.voc.length c6) s.next) rfl rfl TSt _ HX5.out.b (by kernel_rfl) (by kernel_rfl) (by kernel_rfl) ?_)
  have HX6 := Lib.hid (HX5.out.row (stA (.slice A5 s.docs.length c5) (.slice A6 s.voc.length c6) s.next))
  have HO6 := Lib.hid (HO5.out.far HX5.out.b (by decide) (by decide) (by decide) (Sha.fr_setRow (S := fun k => k = q) (Fr.refl w5 _) (fun _ => rfl) (stA (.slice A5 s.docs.length c5) (.slice A6 s.voc.length c6) s.next)))
  clear k0 k1 k2
  generalize World.setRow w5 _ _ = w6 at HX6 HO6 ⊢
  have Hq2 := Lib.hid (show ∀ k, (Value.slice A5 s.docs.length c5).ownBlock = some k → q2 < k from fun k hk => by
    obtain ⟨D, hd, _⟩ := HO4.out.ex
    have h1 := (hd.lt k hk).1
    have h2 := HX4.out.b5.lt
    omega)
  clear HX HX3 HX4 HX5 HO4 HO5 HM HDm HOw
  have HFr := Lib.hid (from_any HO6.out.rs (by have := Hnd.out; omega) Hmp.out.2.1 d.id)
  unfold stA at HFr
  have c0 : w6.cell? ⟨q, 0, none⟩ = some (.slice A5 s.docs.length c5) := by rw [HX6.out.b.cell]; rfl
  have c1 : w6.cell? ⟨q, 1, none⟩ = some (.int .u64 s.next) := by rw [HX6.out.b.cell]; rfl
  have c2 : w6.cell? ⟨q, 2, none⟩ = some (.slice A6 s.voc.length c6) := by rw [HX6.out.b.cell]; rfl
  have d1 : w6.cell? ⟨p, 1, none⟩ = some (.int .u64 d.id) := by rw [HX6.out.bp.cell]; rfl
  have Hkl := Lib.hid (at_le s.docs d.id)
  have Hhas := Lib.hid (show hasE s.docs d.id = (if atE s.docs d.id < s.docs.length then decide ((s.docs.getD (atE s.docs d.id) ⟨0, []⟩).id = d.id) else false) by
    split
    · rename_i h
      by_cases h1 : (s.docs.getD (atE s.docs d.id) ⟨0, []⟩).id = d.id
      · rw [decide_eq_true h1]; exact has_yes h h1
      · rw [decide_eq_false h1]; exact has_no (fun _ => h1)
    · rename_i h
      exact has_no (fun h1 => absurd h1 h))
  obtain ⟨K, hK⟩ : ∃ K, atE s.docs d.id = K := ⟨_, rfl⟩
  obtain ⟨T, hT⟩ : ∃ T, hasE s.docs d.id = T := ⟨_, rfl⟩
  rw [hK] at HFr Hkl Hhas
  rw [hT] at Hhas
  rw [hK, hT] at HRe
  clear hK hT
  go_upto_region 5 with (go_at_call 22; refine HFr.out.mono ?_; rintro e w7 ⟨rfl, hg⟩; have HX7 := Lib.hid (HX6.out.gr hg); have HO7 := Lib.hid (HO6.out.gr hg); clear hg)
  clear c0 c1 c2 d1 HX6 HO6 HFr
  have c0 : w7.cell? ⟨q, 0, none⟩ = some (.slice A5 s.docs.length c5) := by rw [HX7.out.b.cell]; rfl
  have d1 : w7.cell? ⟨p, 1, none⟩ = some (.int .u64 d.id) := by rw [HX7.out.bp.cell]; rfl
  go_cut [7] (fun s7 wx => s7 = .bool T ∧ Hid (Gr w7 wx))
  case first =>
    --<< A
    have hki : (K : Int) ≤ (s.docs.length : Int) := by have := Hkl.out; omega
    by_cases hk : K < s.docs.length
    · have hkl : (K : Int) < (s.docs.length : Int) := by omega
      have Hh := Hhas.out
      rw [if_pos hk] at Hh
      have HRr := HO7.out.rs
      obtain ⟨ba, oa, A8, c8, e, _, d0, _, _, _⟩ : ∃ b off A2 c2, A5 = some ⟨b, off, none⟩ ∧ b < w7.heap.size ∧ w7.cell? ⟨b, off + K * 2, none⟩ = some (.int .u64 (s.docs.getD K ⟨0, []⟩).id) ∧ w7.cell? ⟨b, off + K * 2 + 1, none⟩ = some (.slice A2 (s.docs.getD K ⟨0, []⟩).b.length c2) ∧
          SL encB w7 (.slice A2 (s.docs.getD K ⟨0, []⟩).b.length c2) (s.docs.getD K ⟨0, []⟩).b ∧ SB _ (.slice A2 (s.docs.getD K ⟨0, []⟩).b.length c2) (s.docs.getD K ⟨0, []⟩).b.length := by
        obtain ⟨D, hd, ha⟩ := HRr.ex
        exact doc_at hd ha hk
      subst e
      generalize (s.docs.getD K ⟨0, []⟩).id = x at d0 Hh
      have Hh2 := Lib.hid Hh
      clear Hh HRr Hhas
      by_cases hx : x = d.id
      · have hx1 : (x == d.id) = true := by rw [hx]; exact beq_self_eq_true _
        have Ht := Lib.hid (show T = true by rw [Hh2.out]; exact decide_eq_true hx)
        clear hx
        go_wp2_with fail
        go_quiet (fail)
        go_wp2_with fail
        go_meet
        rw [Ht.out]
        exact ⟨rfl, (Fr.refl _ _).drewN _⟩
      · have hx1 : (x == d.id) = false := beq_eq_false_iff_ne.2 hx
        have Ht := Lib.hid (show T = false by rw [Hh2.out]; exact decide_eq_false hx)
        clear hx
        go_wp2_with fail
        go_quiet (fail)
        go_wp2_with fail
        go_meet
        rw [Ht.out]
        exact ⟨rfl, (Fr.refl _ _).drewN _⟩
    · have hkl : decide ((K : Int) < (s.docs.length : Int)) = false := decide_eq_false (by omega)
      have Hh := Hhas.out
      rw [if_neg hk] at Hh
      have Ht := Lib.hid Hh
      clear Hh Hhas
      go_wp2_with fail
      go_quiet (fail)
      go_wp2_with fail
      go_meet
      rw [Ht.out]
      exact ⟨rfl, (Fr.refl _ _).drewN _⟩
    -->> A
  case rest =>
  obtain ⟨rfl, HGc⟩ := hcut
  have HX8 := Lib.hid (HX7.out.gr HGc.out)
  have HO8 := Lib.hid (HO7.out.gr HGc.out)
  clear c0 d1 HX7 HO7 HGc
  have d0 : wc.cell? ⟨p, 0, none⟩ = some (.int .u8 d.k) := by rw [HX8.out.bp.cell]; rfl
  have d3 : wc.cell? ⟨p, 3, none⟩ = some (.slice A3 d.b.length ca3) := by rw [HX8.out.bp.cell]; rfl
  have c0 : wc.cell? ⟨q, 0, none⟩ = some (.slice A5 s.docs.length c5) := by rw [HX8.out.b.cell]; rfl
  have c1 : wc.cell? ⟨q, 1, none⟩ = some (.int .u64 s.next) := by rw [HX8.out.b.cell]; rfl
  have c2 : wc.cell? ⟨q, 2, none⟩ = some (.slice A6 s.voc.length c6) := by rw [HX8.out.b.cell]; rfl
  obtain ⟨k, hk⟩ : ∃ k, d.k = k := ⟨_, rfl⟩
  rw [hk] at d0
  rw [hk] at Hkk
  have Hk := Lib.hid hk
  clear hk
  go_upto_block 0 with (fail)
  go_cut [] (fun wx => wx = wc ∧ Hid (k ≠ 1 ∧ k ≠ 9 ∧ (k = 2 ∨ k = 3 ∨ k = 4 → T = true)))
  case first =>
    have hkk := Hkk.out
    subst hkk
    · -- there?
      cases T with
      | false =>
        have hE : (s, ({ an0 with e := 7 } : An)) = (s', a') := by rw [← HRe.out]; unfold doK; rw [if_neg (by rw [Hk.out]; decide), if_pos ⟨by have := Hk.out; omega, rfl⟩]
        injection hE with e1 e2
        subst e1 e2
        go_wp2_with (first
          | refine Sha.wpList_build_to rfl TAn _ rfl (anA { an0 with e := 7 } nilV nilV) (by kernel_rfl) ?_
          | refine wpList_store_row rfl _ _ _ rfl q1 (stA (.slice A5 s.docs.length c5) (.slice A6 s.voc.length c6) s.next) rfl rfl TSt _ HX8.out.b4 (by kernel_rfl) (by kernel_rfl) (by kernel_rfl) ?_
          | refine wpList_store_row rfl _ _ _ rfl q2 (anA { an0 with e := 7 } nilV nilV) rfl rfl TAn _ (Sha.blk_setRow_ne HX8.out.b5 (by have := HX8.out.lo; omega) _) (by kernel_rfl) (by kernel_rfl) (by kernel_rfl) ?_)
        have HXl := Lib.hid (HX8.out.lay (stA (.slice A5 s.docs.length c5) (.slice A6 s.voc.length c6) s.next) (anA { an0 with e := 7 } nilV nilV))
        refine bodyPost_ret (results_cc Try.results6 _ _ q1 q2 _ _ _ _ _ _ rfl rfl HXl.out.b4 HXl.out.b5 Try.underlying29 rfl (by kernel_rfl) Try.underlying38 rfl (by kernel_rfl)) rfl ?_
        have h9 := HX8.out.fr.size
        exact ⟨_, _, nilV, nilV, wc.heap.size, rfl, (HO8.out.toN.lay HX8.out _ _).rs, h9, OB.nil _ _, OW.nil _ _, HXl.out.fr⟩
      | true =>
        go_wp2_with fail
        go_meet
        exact ⟨rfl, by decide, by decide, fun _ => trivial⟩
  case rest =>
  obtain ⟨rfl, Hkx⟩ := hcut
  clear d0 d3 c0 c1 c2
  go_upto_region 17 with (fail)
  have HX9 := Lib.hid (HX8.out.gr ((Fr.refl wc NoneS).alloc (.cells anZ TAn)))
  have HO9 := Lib.hid (HO8.out.gr ((Fr.refl wc NoneS).alloc (.cells anZ TAn)))
  have HB9 := Lib.hid (Blk.new wc TAn anZ)
  have Hb8 := Lib.hid (show q2 < wc.heap.size from HX8.out.b5.lt)
  change Code.wp _ _ _ _ (wc.alloc (.cells anZ TAn))
  generalize wc.heap.size = b8 at HB9 Hb8 ⊢
  generalize hx : World.alloc wc _ = w9 at HX9 HO9 HB9 ⊢
  clear hx HX8 HO8
  have d0 : w9.cell? ⟨p, 0, none⟩ = some (.int .u8 d.k) := by rw [HX9.out.bp.cell]; rfl
  rw [Hk.out] at d0
  obtain ⟨n9, hn9⟩ : ∃ n, w9.heap.size = n := ⟨_, rfl⟩
  have Hn9 := Lib.hid hn9
  clear hn9
  have HOn := Lib.hid (HO9.out.toN)
  rw [Hn9.out] at HOn
  go_upto_block 1 with (fail)
  go_cut [] (fun wx => Hid (DoC w q p q1 q2 b8 s' a' n9 (ddA d (.slice A3 d.b.length ca3)) wx))
  case first =>
    have hkk := Hkk.out
    have hkx := Hkx.out
    subst hkk
    · --<< C2
      have hT : T = true := hkx.2.2 (by decide)
      subst hT
      clear hkx
      have hE : ((⟨s.docs.eraseIdx K, s.next, s.voc⟩ : St), ({ an0 with id := d.id } : An)) = (s', a') := by rw [← HRe.out]; simp [doK, Hk.out]
      injection hE with e1 e2
      subst e1 e2
      have hkl : K < s.docs.length := by
        have h := Hhas.out
        split at h
        · assumption
        · cases h
      have d1 : w9.cell? ⟨p, 1, none⟩ = some (.int .u64 d.id) := by rw [HX9.out.bp.cell]; rfl
      have a1 : w9.cell? ⟨b8, 1, none⟩ = some (.int .u64 0) := by rw [HB9.out.cell]; rfl
      have z1 := HB9.out.frozen 1
      go_upto_region 20 with (fail)
      have hf : Fr w9 (w9.setCell ⟨b8, 1, none⟩ (.int .u64 d.id)) (fun k => k = b8) := (Fr.refl w9 (fun k => k = b8)).setCell (p := ⟨b8, 1, none⟩) (fun _ => rfl) _
      have HX10 := Lib.hid (HX9.out.any hf (fun k h => by have := Hb8.out; omega))
      have HB10 := Lib.hid (show Blk _ b8 TAn (anA { an0 with id := d.id } nilV nilV) from HB9.out.set_ 1 (.int .u64 d.id))
      have HO10 := Lib.hid (HOn.out.far HB9.out (by decide) (by decide) (by decide) hf)
      clear a1 z1 d1 hf
      generalize World.setCell w9 _ _ = w10 at HX10 HB10 HO10 ⊢
      obtain ⟨D, hd, ha⟩ := HO10.out.ex
      have hDl := ha.len
      obtain ⟨gD, hgD⟩ : ∃ gD, A5 = some ⟨gD, 0, none⟩ := by
        rcases hd.2 with ⟨h, h0⟩ | ⟨g, cap, cur, h, _⟩
        · omega
        · injection h with h1 h2 h3; exact ⟨g, h1⟩
      subst hgD
      have hnc : s.docs.length ≤ c5 := by
        rcases hd.2 with ⟨h, h0⟩ | ⟨g, cap, cur, h, hb, hg, hn1, _⟩
        · omega
        · injection h with h1 h2 h3; omega
      obtain ⟨S1, S2, hS1, hS2, hcp⟩ := del_any (b := w.heap.size) (g := gD) hDl hkl hnc (by have := Hnd.out; omega)
      obtain ⟨w11, hrun, hfc, hoc⟩ := hcp w10.drew TDocs ((Fr.refl w10 NoneS).drew.owns hd (fun _ _ h => h))
      have hrun' : (Builtin.copy_ #[TDocs, TDocs] 3 #[S1, S2]).run Try.prog w10.drew = .ok (.int .i64 ((s.docs.length - K - 1 : Nat) : Int)) w11 := hrun
      obtain ⟨i0, hi0, hz0, hz1, hz2⟩ := info_parts info_doc
      have hS3 := fun wx => run_slice_to (P := Try.prog) TDocs TDoc i0 Try.underlying23 hi0 (some ⟨gD, 0, none⟩) s.docs.length c5 (s.docs.length - 1) (by omega) wx
      obtain ⟨m, hm⟩ : ∃ m, s.docs.length - 1 = m := ⟨_, rfl⟩
      obtain ⟨c, hc⟩ : ∃ c, s.docs.length - K - 1 = c := ⟨_, rfl⟩
      rw [hm] at hS3 hoc
      rw [hc] at hrun'
      have hsum : IntKind.i64.wrap ((K : Int) + (c : Int)) = (m : Int) := by
        rw [show (K : Int) + (c : Int) = (m : Int) by omega]
        exact IntWalk.i64_in _ ⟨by omega, by omega⟩
      have hs1 : ((K + 1 : Nat) : Int) = (K : Int) + 1 := by omega
      rw [hs1] at hS2
      have hgq : gD ≠ q := fun e => own_blk_ne hd HX10.out.b (by decide) (by rw [e]; rfl)
      have hf10 : Fr w10 w11 (fun k => k = gD) := (Fr.refl w10 (fun k => k = gD)).drew.trans hfc (fun _ _ h => h)
      have c10 : w10.cell? ⟨q, 0, none⟩ = some (.slice (some ⟨gD, 0, none⟩) s.docs.length c5) := by rw [HX10.out.b.cell]; rfl
      have hgl := hd.lt gD rfl
      have hq2 := Hq2.out gD rfl
      have HX11 := Lib.hid (HX10.out.any hf10 (fun k h => by omega))
      have c11 : w11.cell? ⟨q, 0, none⟩ = some (.slice (some ⟨gD, 0, none⟩) s.docs.length c5) := by rw [HX11.out.b.cell]; rfl
      have z11 := HX11.out.b.frozen 0
      have hb8 : b8 ≠ gD := fun e => own_blk_ne hd HB10.out (by decide) (by rw [e]; rfl)
      have HB11 := Lib.hid (HB10.out.fr hf10 hb8)
      have hval : ∀ k, (Value.slice A6 s.voc.length c6).ownBlock = some k → ¬ k = gD := fun k hk e => own_own_ne HO10.out.voc hd (by decide) k hk (by rw [e]; rfl)
      have HO11 := Lib.hid (show OSn w.heap.size n9 w11 (.slice (some ⟨gD, 0, none⟩) m c5) (.slice A6 s.voc.length c6) ⟨s.docs.eraseIdx K, s.next, s.voc⟩ from by
        have hle : (s.docs.eraseIdx K).length = m := by rw [List.length_eraseIdx, if_pos hkl]; exact hm
        refine ⟨⟨D.eraseIdx K, by rw [hle]; exact hoc, (ha.erase K).imp fun a c h => ⟨⟨h.1.1, h.1.2.fr hf10 (fun k hk e => own_own_ne h.1.2.own hd (by decide) k hk (by rw [e]; rfl))⟩, h.2⟩⟩, hf10.owns HO10.out.voc hval, HO10.out.bd, HO10.out.bp⟩)
      have Hki := Lib.hid (show (K : Int) < 1048576 by omega)
      have hki2 : IntKind.i64.wrap ((K : Int) + 1) = (K : Int) + 1 := IntWalk.i64_in _ ⟨by omega, by omega⟩
      clear hd ha hDl hnc hcp hrun hoc hf10 hval hs1 hm hc hi0 hz0 hz1 hz2 hgl hq2 hb8 hfc
      go_region_law (first
        | (refine step_copy rfl (.tmp 87) (.tmp 92) TDocs TDocs rfl S1 S2 _ (by rfl) (by rfl) hrun' ?_))
      all_goals (try go_wp2_with fail)
      all_goals go_meet
      all_goals
        have hfq : Fr w11 (w11.setCell ⟨q, 0, none⟩ (.slice (some ⟨gD, 0, none⟩) m c5)) (fun k => k = q) := (Fr.refl w11 (fun k => k = q)).setCell (p := ⟨q, 0, none⟩) (fun _ => rfl) _
        have hb8q : b8 ≠ q := by have := HX11.out.lo; have := Hb8.out; omega
        exact ⟨.slice (some ⟨gD, 0, none⟩) m c5, .slice A6 s.voc.length c6, nilV, nilV, HX11.out.set 0 _, HB11.out.fr hfq hb8q, HO11.out.far HX11.out.b (by decide) (by decide) (by decide) hfq, OB.nil _ _, OW.nil _ _⟩
      -->> C2
  case rest =>
  obtain ⟨dv2, pv2, bv2, iv2, HXc, HBc, HOc, hob, how⟩ := hcut.out
  obtain ⟨⟨A11, c11, rfl⟩, A12, c12, rfl⟩ := HOc.form
  obtain ⟨A13, c13, rfl⟩ := own_formN hob.own
  obtain ⟨A14, c14, rfl⟩ := own_formN how
  have HXr := Lib.hid HXc
  have HBr := Lib.hid HBc
  have HOr := Lib.hid HOc
  have Hob := Lib.hid hob
  have How := Lib.hid how
  clear HXc HBc HOc hob how hcut
  have Hne := Lib.hid (show b8 ≠ q1 ∧ b8 ≠ q2 by have := HXr.out.lo; have := Hb8.out; omega)
  have Hkey := Lib.hid (show ∀ wx, Fr wc wx (fun k => k = q1 ∨ k = q2) → wx.cell? ⟨q, 0, none⟩ = some (.slice A11 s'.docs.length c11) ∧ wx.cell? ⟨q, 1, none⟩ = some (.int .u64 s'.next) ∧ wx.cell? ⟨q, 2, none⟩ = some (.slice A12 s'.voc.length c12) ∧ wx.cell? ⟨b8, 0, none⟩ = some (.int .i64 a'.e) ∧ wx.cell? ⟨b8, 1, none⟩ = some (.int .u64 a'.id) ∧ wx.cell? ⟨b8, 2, none⟩ = some (.int .i64 a'.n) ∧ wx.cell? ⟨b8, 3, none⟩ = some (.slice A13 a'.b.length c13) ∧ wx.cell? ⟨b8, 4, none⟩ = some (.slice A14 a'.ids.length c14) ∧ wx.cell? ⟨b8, 5, none⟩ = some (.bool a'.more) from fun wx hg => by
    have hb := HXr.out.b.fr hg (by have := HXr.out.lo; omega)
    have h8 := HBr.out.fr hg (by have := Hne.out; omega)
    exact ⟨by rw [hb.cell]; rfl, by rw [hb.cell]; rfl, by rw [hb.cell]; rfl, by rw [h8.cell]; rfl, by rw [h8.cell]; rfl, by rw [h8.cell]; rfl, by rw [h8.cell]; rfl, by rw [h8.cell]; rfl, by rw [h8.cell]; rfl⟩)
  go_upto_region 41 with (fail)
  have HT0 := Lib.hid (show Fr wc wc.drew (fun k => k = q1 ∨ k = q2) from (Fr.refl wc _).drew)
  refine wp_region_held_drew (S := fun wx => Fr wc wx (fun k => k = q1 ∨ k = q2)) (by kernel_rfl) HT0.out (fun hHeld => ?_)
  refine wpAnyH_take (i := 0) (v := .agg #[.slice A11 s'.docs.length c11, .int .u64 s'.next, .slice A12 s'.voc.length c12]) rfl (by kernel_rfl) (by kernel_rfl) (by kernel_rfl) (fun _ _ _ h => h) (Or.inl ⟨by kernel_rfl, ?_⟩) hHeld ?_
  · intro w hSw; obtain ⟨k0, k1, k2, m0, m1, m2, m3, m4, m5⟩ := Hkey.out _ hSw; go_simp
  try simp only [Act.put, List.getElem_toArray, List.getElem_cons_succ, List.getElem_cons_zero, List.setIfInBounds_toArray, List.set_cons_zero, List.set_cons_succ]
  refine wpAnyH_take (i := 1) (v := .agg #[.int .i64 a'.e, .int .u64 a'.id, .int .i64 a'.n, .slice A13 a'.b.length c13, .slice A14 a'.ids.length c14, .bool a'.more]) rfl (by kernel_rfl) (by kernel_rfl) (by kernel_rfl) (fun _ _ _ h => h) (Or.inl ⟨by kernel_rfl, ?_⟩) hHeld ?_
  · intro w hSw; obtain ⟨k0, k1, k2, m0, m1, m2, m3, m4, m5⟩ := Hkey.out _ hSw; go_simp
  try simp only [Act.put, List.getElem_toArray, List.getElem_cons_succ, List.getElem_cons_zero, List.setIfInBounds_toArray, List.set_cons_zero, List.set_cons_succ]
  refine wpAnyH_ready (rs := [2]) (by kernel_rfl) (by simp) ?_
  refine AllReadyH.cons rfl (fun K hK => ?_) AllReadyH.nil
  rw [if_pos (by rfl)]
  refine wp_store_row TSt _ _ rfl q1 (stA (.slice A11 s'.docs.length c11) (.slice A12 s'.voc.length c12) s'.next) rfl rfl TSt _ HXr.out.b4 (by kernel_rfl) (by kernel_rfl) (by kernel_rfl) ?_
  refine hK.out _ _ (Sha.fr_setRow hHeld (fun _ => Or.inl rfl) _) (fun hHeld => ?_)
  clear hK K
  try simp only [Act.put, List.getElem_toArray, List.getElem_cons_succ, List.getElem_cons_zero, List.setIfInBounds_toArray, List.set_cons_zero, List.set_cons_succ]
  refine wpAnyH_ready (rs := [3]) (by kernel_rfl) (by simp) ?_
  refine AllReadyH.cons rfl (fun K hK => ?_) AllReadyH.nil
  rw [if_pos (by rfl)]
  refine wp_store_row TAn _ _ rfl q2 (anA a' (.slice A13 a'.b.length c13) (.slice A14 a'.ids.length c14)) rfl rfl TAn _ (Sha.blk_setRow_ne HXr.out.b5 (by have := HXr.out.lo; omega) _) (by kernel_rfl) (by kernel_rfl) (by kernel_rfl) ?_
  refine hK.out _ _ (Sha.fr_setRow hHeld (fun _ => Or.inr rfl) _) (fun hHeld => ?_)
  clear hK K
  try simp only [Act.put, List.getElem_toArray, List.getElem_cons_succ, List.getElem_cons_zero, List.setIfInBounds_toArray, List.set_cons_zero, List.set_cons_succ]
  refine wpAnyH_done (by kernel_rfl) ?_ _
  have HX12 := Lib.hid (HXr.out.gr (Fr.refl wc NoneS).drew)
  have HO12 := Lib.hid (HOr.out.gr (Fr.refl wc NoneS).drew)
  have Hob2 := Lib.hid (Hob.out.gr (Fr.refl wc NoneS).drew)
  have How2 := Lib.hid (((Fr.refl wc NoneS).drew).owns How.out (fun _ _ h => h))
  have Hs := Lib.hid (show wc.heap.size ≤ wc.drew.heap.size from Nat.le_refl _)
  generalize wc.drew = w12 at HX12 HO12 Hob2 How2 ⊢
  go_wp2_with fail
  have HXl := Lib.hid (HX12.out.lay (stA (.slice A11 s'.docs.length c11) (.slice A12 s'.voc.length c12) s'.next) (anA a' (.slice A13 a'.b.length c13) (.slice A14 a'.ids.length c14)))
  refine bodyPost_ret (results_cc Try.results6 _ _ q1 q2 _ _ _ _ _ _ rfl rfl HXl.out.b4 HXl.out.b5 Try.underlying29 rfl (by kernel_rfl) Try.underlying38 rfl (by kernel_rfl)) rfl ?_
  have hfl := HX12.out.layFr (stA (.slice A11 s'.docs.length c11) (.slice A12 s'.voc.length c12) s'.next) (anA a' (.slice A13 a'.b.length c13) (.slice A14 a'.ids.length c14))
  have hlo := HX12.out.lo
  have hlt := HX12.out.b5.lt
  refine ⟨_, _, _, _, n9, rfl, (HO12.out.lay HX12.out _ _).rs, ?_, ?_, ?_, HXl.out.fr⟩
  · have := HX9.out.fr.size; have := Hn9.out; omega
  · exact Hob2.out.fr hfl (fun k hk h => by have := (Hob2.out.own.lt k hk).1; have := Hn9.out; have := HX9.out.b5.lt; omega)
  · exact hfl.owns How2.out (fun k hk h => by have := (World.ownsRow.lt How2.out k hk).1; have := Hn9.out; have := HX9.out.b5.lt; omega)
end Mod
end Go.Proofs.Ytlodbhlidgepfaa
