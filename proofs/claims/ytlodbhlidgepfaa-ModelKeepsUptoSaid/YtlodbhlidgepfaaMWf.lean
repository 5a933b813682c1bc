/- model: migrate. -/
import Derived.Test.YtlodbhlidgepfaaMWe
set_option linter.unusedVariables false
set_option linter.unusedSimpArgs false
namespace Go.Proofs.Ytlodbhlidgepfaa
open Go.RowKit
open Voc Leb Bpe
namespace Mod
theorem idE_lt (xs : List Pc) : Vf.idE xs < 18446744073709551616 := by
  unfold Vf.idE
  split
  · have h := Vf.numH_lt ((Sha.sum ((Vf.putE xs).1.map (BitVec.ofInt 8)))) 8 (by rw [Sha.sum_len]; decide)
    have : (256 : Nat) ^ 8 = 18446744073709551616 := by decide
    omega
  · decide
set_option maxRecDepth 20000 in
set_option maxHeartbeats 8000000 in
theorem migrate_any {b : Nat} {w : World} {dv pv vb : Value} {s : St} {bs : List Int} (HO : OS b w dv pv s) (HV : SL encB w vb bs) (hbb : Leb.Bs bs) (hbl : bs.length ≤ 1048576) (hb : b ≤ w.heap.size) :
    Calls Try.prog 24 #[.agg (stA dv pv s.next), vb] w (InPost b w dv pv (migE s bs).1 (migE s bs).2 NoneS) := by
  obtain ⟨A2, cap2, rfl⟩ := SL.form HV
  have HO0 := Lib.hid HO
  obtain ⟨D, hd, ha⟩ := HO.ex
  obtain ⟨A, ca, rfl⟩ := own_formN hd
  obtain ⟨Ap, cp, rfl⟩ := own_formN HO.voc
  have HX := Lib.hid (Bx.new w (stA (.slice A s.docs.length ca) (.slice Ap s.voc.length cp) s.next) stZ anZ)
  have Hb := Lib.hid hb
  have HGe := Lib.hid (fun wx (hg : Gr w wx) => Vf.get_any (HV.gr hg) hbb hbl)
  have HRf := Lib.hid (fun h => read_file (b := bs) hbb h)
  have Hme := Lib.hid (show migE s bs = if (Vf.readE bs).2.2 ≠ 0 then (s, { an0 with e := 11 }) else (⟨s.docs, s.next, (Vf.readE bs).1⟩, { an0 with id := (Vf.idE (Vf.readE bs).1 : Nat) }) from rfl)
  unfold Vf.GPost at HGe
  generalize Vf.readE bs = R at HGe HRf Hme
  obtain ⟨ps, x, E⟩ := R
  simp only at HGe HRf Hme
  obtain ⟨q, hq⟩ : ∃ q, w.heap.size = q := ⟨_, rfl⟩
  rw [hq] at HX
  obtain ⟨q1, hq1⟩ : ∃ q', q + 1 = q' := ⟨_, rfl⟩
  rw [hq1] at HX
  obtain ⟨q2, hq2⟩ : ∃ q', q1 + 1 = q' := ⟨_, rfl⟩
  rw [hq2] at HX
  clear HO hd ha HV hbb hbl hb
  unfold stA
  go_enter Try.func24, Try.ntmps24
  go_upto_region 1 with (fail)
  change Code.wp _ _ _ _ (((w.alloc (.cells (stA (.slice A s.docs.length ca) (.slice Ap s.voc.length cp) s.next) TSt)).alloc (.cells stZ TSt)).alloc (.cells anZ TAn))
  clear hq hq1 hq2
  generalize hx : World.alloc (World.alloc (World.alloc w _) _) _ = w3 at HX ⊢
  clear hx
  go_upto_region 2 with (go_at_call 40; refine (HGe.out _ HX.out.fr).mono ?_; rintro e w4 ⟨tv, rfl, ho, hg⟩; obtain ⟨At, ct, rfl⟩ := own_formN ho; have HT4 := Lib.hid ho; have HG4 := Lib.hid hg; clear ho hg)
  have HX5 := Lib.hid ((HX.out.gr HG4.out).gr ((Fr.refl w4 NoneS).alloc (.cells #[.slice At ps.length ct] 27)))
  have HV5 := Lib.hid (Blk.new w4 27 #[.slice At ps.length ct])
  have HT5 := Lib.hid (((Fr.refl w4 NoneS).alloc (.cells #[.slice At ps.length ct] 27)).owns HT4.out (fun _ _ h => h))
  have Hbs := Lib.hid (show b ≤ w3.heap.size from Nat.le_trans Hb.out HX.out.fr.size)
  clear HX HG4 HT4 HGe
  generalize w4.heap.size = g6 at HV5 ⊢
  generalize hx : World.alloc w4 _ = w5 at HX5 HV5 HT5 ⊢
  clear hx
  have c0 : w5.cell? ⟨q, 0, none⟩ = some (.slice A s.docs.length ca) := by rw [HX5.out.b.cell]; rfl
  have c1 : w5.cell? ⟨q, 1, none⟩ = some (.int .u64 s.next) := by rw [HX5.out.b.cell]; rfl
  have c2 : w5.cell? ⟨q, 2, none⟩ = some (.slice Ap s.voc.length cp) := by rw [HX5.out.b.cell]; rfl
  by_cases hE : E = 0
  case neg =>
    have hE1 : (E != 0) = true := bne_iff_ne.2 hE
    have He := Lib.hid (show migE s bs = (s, { an0 with e := 11 }) by rw [Hme.out, if_pos hE])
    clear hE
    go_wp2_with (first
      | refine Sha.wpList_build_to rfl TAn _ rfl (anA { an0 with e := 11 } nilV nilV) (by kernel_rfl) ?_
      | refine wpList_store_row rfl _ _ _ rfl q1 (stA (.slice A s.docs.length ca) (.slice Ap s.voc.length cp) s.next) rfl rfl TSt _ HX5.out.b4 (by kernel_rfl) (by kernel_rfl) (by kernel_rfl) ?_
      | refine wpList_store_row rfl _ _ _ rfl q2 (anA { an0 with e := 11 } nilV nilV) rfl rfl TAn _ (Sha.blk_setRow_ne HX5.out.b5 (by have := HX5.out.lo; omega) _) (by kernel_rfl) (by kernel_rfl) (by kernel_rfl) ?_)
    have HXl := Lib.hid (HX5.out.lay (stA (.slice A s.docs.length ca) (.slice Ap s.voc.length cp) s.next) (anA { an0 with e := 11 } nilV nilV))
    refine bodyPost_ret (results_cc Try.results24 _ _ q1 q2 _ _ _ _ _ _ rfl rfl HXl.out.b4 HXl.out.b5 Try.underlying29 rfl (by kernel_rfl) Try.underlying38 rfl (by kernel_rfl)) rfl ?_
    rw [He.out]
    exact ⟨_, _, rfl, (HO0.out.gr HX5.out.fr).lay HX5.out _ _, HXl.out.fr⟩
  subst hE
  obtain ⟨hck, hwf, hln⟩ := HRf.out rfl
  have He := Lib.hid (show migE s bs = (⟨s.docs, s.next, ps⟩, { an0 with id := (Vf.idE ps : Nat) }) by rw [Hme.out, if_neg (by decide)])
  have hpe : Vf.putE ps = (Vf.fileB ps, 0) := by unfold Vf.putE; rw [if_pos hck]
  have hfb : Leb.Bs (Vf.fileB ps) := Vf.fileB_byte (Vf.form_of (good_of hck) hwf)
  have hfl := Vf.fileB_len ps
  have HI := Lib.hid (fun wx (hg : Gr w5 wx) => Vf.id_any ((SL.of_own (enc := encP) HT5.out rfl).gr hg) hwf (by omega) (by rw [hpe]; exact hfb) (by rw [hpe]; simp only; omega))
  rw [hpe] at HI
  have Hid := Lib.hid (idE_lt ps)
  clear HRf Hme hck hwf hpe hfb hfl
  generalize Vf.idE ps = N at HI He Hid
  have v0 : w5.cell? ⟨g6, 0, none⟩ = some (.slice At ps.length ct) := by rw [HV5.out.cell]; rfl
  go_upto_region 7 with (go_at_call 41; refine (HI.out _ (Fr.refl _ _)).mono ?_; rintro e w6 ⟨rfl, hg⟩; have HX6 := Lib.hid (HX5.out.gr hg); have HV6 := Lib.hid (HV5.out.fr hg (fun h => h)); have HT6 := Lib.hid (hg.owns HT5.out (fun _ _ h => h)); clear hg)
  have u0 : w6.cell? ⟨g6, 0, none⟩ = some (.slice At ps.length ct) := by rw [HV6.out.cell]; rfl
  have d2 : w6.cell? ⟨q, 2, none⟩ = some (.slice Ap s.voc.length cp) := by rw [HX6.out.b.cell]; rfl
  have z2 := HX6.out.b.frozen 2
  clear c0 c1 c2 v0
  go_upto_region 8 with (fail)
  have HX7 := Lib.hid (HX6.out.set 2 (.slice At ps.length ct))
  have hf7 : Fr w6 (w6.setCell ⟨q, 2, none⟩ (.slice At ps.length ct)) (fun k => k = q) := (Fr.refl w6 (fun k => k = q)).setCell (p := ⟨q, 2, none⟩) (fun _ => rfl) _
  have HO7 := Lib.hid ((HO0.out.gr HX6.out.fr).far HX6.out.b (by decide) (by decide) (by decide) hf7)
  have HT7 := Lib.hid (hf7.owns HT6.out (fun k hk e => own_blk_ne HT6.out HX6.out.b (by decide) (e ▸ hk)))
  clear u0 d2 z2 hf7
  generalize World.setCell w6 _ _ = w7 at HX7 HO7 HT7 ⊢
  have c0 : w7.cell? ⟨q, 0, none⟩ = some (.slice A s.docs.length ca) := by rw [HX7.out.b.cell]; rfl
  have c1 : w7.cell? ⟨q, 1, none⟩ = some (.int .u64 s.next) := by rw [HX7.out.b.cell]; rfl
  have c2 : w7.cell? ⟨q, 2, none⟩ = some (.slice At ps.length ct) := by rw [HX7.out.b.cell]; rfl
  go_wp2_with (first
    | refine Sha.wpList_build_to rfl TAn _ rfl (anA { an0 with id := (N : Int) } nilV nilV) (by kernel_rfl) ?_
    | refine wpList_store_row rfl _ _ _ rfl q1 (stA (.slice A s.docs.length ca) (.slice At ps.length ct) s.next) rfl rfl TSt _ HX7.out.b4 (by kernel_rfl) (by kernel_rfl) (by kernel_rfl) ?_
    | refine wpList_store_row rfl _ _ _ rfl q2 (anA { an0 with id := (N : Int) } nilV nilV) rfl rfl TAn _ (Sha.blk_setRow_ne HX7.out.b5 (by have := HX7.out.lo; omega) _) (by kernel_rfl) (by kernel_rfl) (by kernel_rfl) ?_)
  have HXl := Lib.hid (HX7.out.lay (stA (.slice A s.docs.length ca) (.slice At ps.length ct) s.next) (anA { an0 with id := (N : Int) } nilV nilV))
  refine bodyPost_ret (results_cc Try.results24 _ _ q1 q2 _ _ _ _ _ _ rfl rfl HXl.out.b4 HXl.out.b5 Try.underlying29 rfl (by kernel_rfl) Try.underlying38 rfl (by kernel_rfl)) rfl ?_
  rw [He.out]
  have hs : OS b w7 (.slice A s.docs.length ca) (.slice At ps.length ct) ⟨s.docs, s.next, ps⟩ := ⟨HO7.out.ex, own_base HT7.out Hbs.out⟩
  exact ⟨_, _, rfl, hs.lay HX7.out _ _, HXl.out.fr⟩
end Mod
end Go.Proofs.Ytlodbhlidgepfaa
