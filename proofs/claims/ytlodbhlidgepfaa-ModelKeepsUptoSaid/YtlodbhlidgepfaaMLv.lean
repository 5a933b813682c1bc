/- model: lives. -/
import Derived.Test.YtlodbhlidgepfaaMWd2
import Derived.Test.YtlodbhlidgepfaaMWj
import Derived.Lib.SlBytesConst
set_option linter.unusedVariables false
set_option linter.unusedSimpArgs false
namespace Go.Proofs.Ytlodbhlidgepfaa
open Go.RowKit
open Voc Leb Bpe
namespace Mod
theorem plsM_check : checkE (pls 256) = (0, 0) := by decide +kernel
instance (q : Pc) : Decidable (wfP q) := by unfold wfP; infer_instance
theorem plsM_wf : ∀ q ∈ pls 256, wfP q := by decide +kernel
theorem plsM_len : (pls 256).length = 256 := by decide +kernel
def sv0 : St := ⟨[], 1, pls 256⟩
def sv1 : St := ⟨[⟨1, [97, 98]⟩], 2, pls 256⟩
def sv2 : St := ⟨[⟨1, [97, 98]⟩, ⟨2, [99]⟩], 3, pls 256⟩
def sv3 : St := ⟨[⟨2, [99]⟩], 3, pls 256⟩
theorem sv0_may : mayB sv0 = true := may_of (by decide) (by decide) (by show (checkE (pls 256)).1 = 0; rw [plsM_check])
theorem sv1_may : mayB sv1 = true := may_of (by decide) (by decide) (by show (checkE (pls 256)).1 = 0; rw [plsM_check])
theorem sv2_may : mayB sv2 = true := may_of (by decide) (by decide) (by show (checkE (pls 256)).1 = 0; rw [plsM_check])
theorem sv3_may : mayB sv3 = true := may_of (by decide) (by decide) (by show (checkE (pls 256)).1 = 0; rw [plsM_check])
theorem sv_wf {ds : List Dc} {n : Int} (h : ∀ d ∈ ds, wfD d) (hl : ds.length ≤ 1000) (hn : 0 ≤ n ∧ n < 18446744073709551616) : wfS ⟨ds, n, pls 256⟩ := ⟨h, by simp only; omega, hn, plsM_wf, by simp only [plsM_len]; decide⟩
def dv0 : Dd := ⟨1, 0, 0, [97, 98]⟩
def dv1 : Dd := ⟨1, 0, 0, [99]⟩
def dv2 : Dd := ⟨2, 1, 0, []⟩
def dv3 : Dd := ⟨3, 2, 0, []⟩
def av0 : An := { an0 with id := 1 }
def av1 : An := { an0 with id := 2 }
def av2 : An := { an0 with id := 1 }
def av3 : An := { an0 with b := [99] }
theorem do0 : doE sv0 dv0 = (sv1, av0) := by rw [doE_K sv0_may (by decide)]; rfl
theorem do1 : doE sv1 dv1 = (sv2, av1) := by rw [doE_K sv1_may (by decide)]; rfl
theorem do2 : doE sv2 dv2 = (sv3, av2) := by rw [doE_K sv2_may (by decide)]; rfl
theorem do3 : doE sv3 dv3 = (sv3, av3) := by rw [doE_K sv3_may (by decide)]; rfl
theorem lv_fr (w : World) (p : Nat) (o : Obj) (st an : Array Value) : Fr w (((w.alloc o).setRow p st).setRow w.heap.size an) (fun k => k = p) :=
  Sha.fr_setRow (Sha.fr_setRow ((Fr.refl w (fun k => k = p)).alloc o) (fun _ => rfl) _) (fun h => absurd h (Nat.lt_irrefl _)) _
theorem sl_mark (w : World) (xs : List Int) (C : Array Value) (fr : Nat × Nat) (cap : Nat) (hc : xs.length ≤ cap) (hC : C.toList = xs.flatMap encB) : SL encB (w.alloc (.cells C 5 fr)) (.slice (some ⟨w.heap.size, 0, none⟩) xs.length cap) xs :=
  ⟨_, cap, rfl, hc, fun _ => ⟨w.heap.size, 0, rfl, by simp, fun i u hu => by
    rw [Nat.zero_add, World.cell?_alloc_mark, ← Array.getElem?_toList, hC]
    exact hu⟩⟩
instance (b : List Int) : Decidable (Leb.Bs b) := by unfold Leb.Bs; infer_instance
theorem sv0_wf : wfS sv0 := sv_wf (by intro d hd; cases hd) (by decide) (by decide)
theorem lvD0 {B : Nat → Prop} {w : World} {dv pv bv : Value} (HR : RS B w dv pv sv0) (HV : SL encB w bv [97, 98]) : Calls Try.prog 6 #[.agg (stA dv pv sv0.next), .agg (ddA dv0 bv)] w (DoPost w sv1 av0) := by
  have h := do_any (d := dv0) HR sv0_wf (by decide) HV (by decide) (by decide)
  rw [do0] at h
  exact h
theorem sv1_wf : wfS sv1 := sv_wf (by intro d hd; simp at hd; subst hd; exact ⟨⟨by decide, by decide⟩, by decide, by decide⟩) (by decide) (by decide)
theorem lvD1 {B : Nat → Prop} {w : World} {dv pv bv : Value} (HR : RS B w dv pv sv1) (HV : SL encB w bv [99]) : Calls Try.prog 6 #[.agg (stA dv pv sv1.next), .agg (ddA dv1 bv)] w (DoPost w sv2 av1) := by
  have h := do_any (d := dv1) HR sv1_wf (by decide) HV (by decide) (by decide)
  rw [do1] at h
  exact h
theorem sv2_wf : wfS sv2 := sv_wf (by intro d hd; simp at hd; rcases hd with rfl | rfl <;> exact ⟨⟨by decide, by decide⟩, by decide, by decide⟩) (by decide) (by decide)
theorem lvD2 {B : Nat → Prop} {w : World} {dv pv bv : Value} (HR : RS B w dv pv sv2) (HV : SL encB w bv []) : Calls Try.prog 6 #[.agg (stA dv pv sv2.next), .agg (ddA dv2 bv)] w (DoPost w sv3 av2) := by
  have h := do_any (d := dv2) HR sv2_wf (by decide) HV (by decide) (by decide)
  rw [do2] at h
  exact h
theorem sv3_wf : wfS sv3 := sv_wf (by intro d hd; simp at hd; subst hd; exact ⟨⟨by decide, by decide⟩, by decide, by decide⟩) (by decide) (by decide)
theorem lvD3 {B : Nat → Prop} {w : World} {dv pv bv : Value} (HR : RS B w dv pv sv3) (HV : SL encB w bv []) : Calls Try.prog 6 #[.agg (stA dv pv sv3.next), .agg (ddA dv3 bv)] w (DoPost w sv3 av3) := by
  have h := do_any (d := dv3) HR sv3_wf (by decide) HV (by decide) (by decide)
  rw [do3] at h
  exact h
set_option maxRecDepth 20000 in
set_option maxHeartbeats 8000000 in
theorem lives_any (w : World) : Calls Try.prog 11 #[] w fun e w' => e = .returned (.bool true) ∧ Gr w w' := by
  have kc := fun (w : World) (C : Array Value) (n c : Nat) => Lib.run_convert_bytes_const (P := Try.prog) w 32 5 C n c Try.underlying32 Try.underlying5
  have hN := newM_any w
  unfold stA at hN
  have HN := Lib.hid hN
  clear hN
  go_enter Try.func11, Try.ntmps11
  go_upto_region 2 with (go_at_call 5; refine HN.out.mono ?_; rintro e w1 ⟨pv, rfl, ho, hg⟩; obtain ⟨E0, f0, rfl⟩ := ho.rs.form.2; have HO := Lib.hid ho; have HG1 := Lib.hid hg; clear ho hg)
  have HB0 := Lib.hid (Blk.new w1 TSt (stA nilV (.slice E0 (pls 256).length f0) 1))
  have HR0 := Lib.hid (show RS (fun k => k < w1.heap.size) (w1.alloc (.cells (stA nilV (.slice E0 (pls 256).length f0) 1) TSt)) nilV (.slice E0 (pls 256).length f0) sv0 from (HO.out.rs.imp fun k h => h.2).gr ((Fr.refl w1 NoneS).alloc _))
  have HG0 := Lib.hid (HG1.out.alloc (.cells (stA nilV (.slice E0 (pls 256).length f0) 1) TSt))
  have Hp := Lib.hid (show w.heap.size ≤ w1.heap.size from HG1.out.size)
  change Code.wp _ _ _ _ (w1.alloc (.cells (stA nilV (.slice E0 (pls 256).length f0) 1) TSt))
  generalize w1.heap.size = p at HB0 HR0 Hp ⊢
  generalize hx : World.alloc w1 _ = v0 at HB0 HR0 HG0 ⊢
  clear hx HO HG1
  have HR0 := Lib.hid (HR0.out.imp (C := fun k => k ≠ p) fun k h => by omega)
  obtain ⟨A0, c0, hA0⟩ : ∃ A c, nilV = Value.slice A sv0.docs.length c := ⟨none, 0, rfl⟩
  rw [hA0] at HB0 HR0
  clear hA0
  change Hid (Blk v0 p TSt (stA (.slice A0 sv0.docs.length c0) (.slice E0 sv0.voc.length f0) sv0.next)) at HB0
  change Hid (RS (fun k => k ≠ p) v0 (.slice A0 sv0.docs.length c0) (.slice E0 sv0.voc.length f0) sv0) at HR0
  have k0 : v0.cell? ⟨p, 0, none⟩ = some (.slice A0 sv0.docs.length c0) := by rw [HB0.out.cell]; rfl
  have k1 : v0.cell? ⟨p, 1, none⟩ = some (.int .u64 sv0.next) := by rw [HB0.out.cell]; rfl
  have k2 : v0.cell? ⟨p, 2, none⟩ = some (.slice E0 sv0.voc.length f0) := by rw [HB0.out.cell]; rfl
  have lp := HB0.out.lt
  have HS := Lib.hid ((Fr.refl v0 NoneS).alloc (.cells #[.int .u8 97, .int .u8 98] 5 (2, 2 + 1)))
  have HV := Lib.hid (sl_mark v0 [97, 98] #[.int .u8 97, .int .u8 98] (2, 2 + 1) 2 (by decide) rfl)
  go_upto_region 3 with (first
    | (go_at_call 6; refine (lvD0 (HR0.out.gr HS.out) HV.out).mono ?_; rintro e w4 ⟨dv4, pv4, bv4, iv4, n4, rfl, hr, hn, hb, hi, hg⟩; obtain ⟨⟨A1, c1, rfl⟩, E1, f1, rfl⟩ := hr.form; obtain ⟨X4, x4, rfl⟩ := own_formN hb.own; obtain ⟨Y4, y4, rfl⟩ := own_formN hi; have HK := Lib.hid (show Gr v0 w4 from HS.out.trans hg (fun _ _ h => h)); have HR4 := Lib.hid hr; have HB4 := Lib.hid ((HB0.out.fr HK.out (fun h => h)).alloc (.cells anZ TAn)); have HA4 := Lib.hid (Blk.new w4 TAn anZ); clear hr hn hb hi hg)
    | refine wpList_store_row rfl _ _ _ rfl p (stA (.slice A1 sv1.docs.length c1) (.slice E1 sv1.voc.length f1) sv1.next) rfl rfl TSt _ HB4.out (by kernel_rfl) (by kernel_rfl) (by kernel_rfl) ?_
    | refine wpList_store_row rfl _ _ _ rfl w4.heap.size (anA (av0) (.slice X4 av0.b.length x4) (.slice Y4 av0.ids.length y4)) rfl rfl TAn _ (Sha.blk_setRow_ne HA4.out (by have := (HB0.out.fr HK.out (fun h => h)).lt; omega) _) (by kernel_rfl) (by kernel_rfl) (by kernel_rfl) ?_)
  have HL := Lib.hid (lv_fr w4 p (.cells anZ TAn) (stA (.slice A1 sv1.docs.length c1) (.slice E1 sv1.voc.length f1) sv1.next) (anA (av0) (.slice X4 av0.b.length x4) (.slice Y4 av0.ids.length y4)))
  have hpl : p < w4.heap.size := (HB0.out.fr HK.out (fun h => h)).lt
  have HB1 := Lib.hid (Sha.blk_setRow_ne (g := p) (g' := w4.heap.size) (Sha.blk_setRow HB4.out (stA (.slice A1 sv1.docs.length c1) (.slice E1 sv1.voc.length f1) sv1.next)) (by omega) (anA (av0) (.slice X4 av0.b.length x4) (.slice Y4 av0.ids.length y4)))
  have HA1 := Lib.hid (Sha.blk_setRow (Sha.blk_setRow_ne (g := w4.heap.size) (g' := p) HA4.out (by omega) (stA (.slice A1 sv1.docs.length c1) (.slice E1 sv1.voc.length f1) sv1.next)) (anA (av0) (.slice X4 av0.b.length x4) (.slice Y4 av0.ids.length y4)))
  have HR1 := Lib.hid ((HR4.out.imp (C := fun k => k ≠ p) fun k h => by have := HB0.out.lt; have := h.1; have := HS.out.size; omega).fr HL.out (fun k h e => h e))
  have HG1 := Lib.hid ((HG0.out.trans HK.out (fun _ _ h => h)).trans HL.out (fun i hi e => by have := Hp.out; omega))
  have Hne1 := Lib.hid (show w4.heap.size ≠ p by omega)
  change Code.wp _ _ _ _ (((w4.alloc (.cells anZ TAn)).setRow p (stA (.slice A1 sv1.docs.length c1) (.slice E1 sv1.voc.length f1) sv1.next)).setRow w4.heap.size (anA (av0) (.slice X4 av0.b.length x4) (.slice Y4 av0.ids.length y4)))
  generalize w4.heap.size = a1 at HA1 Hne1 HB1 HR1 HG1  ⊢
  generalize World.setRow (World.setRow (World.alloc w4 _) _ _) _ _ = v1 at HA1 HB1 HR1 HG1  ⊢
  clear HL hpl HB4 HR4 HA4 HK k0 k1 k2 lp HB0 HR0 HG0 HS HV
  skip
  have k0 : v1.cell? ⟨p, 0, none⟩ = some (.slice A1 sv1.docs.length c1) := by rw [HB1.out.cell]; rfl
  have k1 : v1.cell? ⟨p, 1, none⟩ = some (.int .u64 sv1.next) := by rw [HB1.out.cell]; rfl
  have k2 : v1.cell? ⟨p, 2, none⟩ = some (.slice E1 sv1.voc.length f1) := by rw [HB1.out.cell]; rfl
  have lp := HB1.out.lt
  have HS := Lib.hid ((Fr.refl v1 NoneS).alloc (.cells #[.int .u8 99] 5 (1, 1 + 1)))
  have HV := Lib.hid (sl_mark v1 [99] #[.int .u8 99] (1, 1 + 1) 1 (by decide) rfl)
  go_upto_region 4 with (first
    | (go_at_call 6; refine (lvD1 (HR1.out.gr HS.out) HV.out).mono ?_; rintro e w4 ⟨dv4, pv4, bv4, iv4, n4, rfl, hr, hn, hb, hi, hg⟩; obtain ⟨⟨A2, c2, rfl⟩, E2, f2, rfl⟩ := hr.form; obtain ⟨X4, x4, rfl⟩ := own_formN hb.own; obtain ⟨Y4, y4, rfl⟩ := own_formN hi; have HK := Lib.hid (show Gr v1 w4 from HS.out.trans hg (fun _ _ h => h)); have HR4 := Lib.hid hr; have HB4 := Lib.hid ((HB1.out.fr HK.out (fun h => h)).alloc (.cells anZ TAn)); have HA4 := Lib.hid (Blk.new w4 TAn anZ); clear hr hn hb hi hg)
    | refine wpList_store_row rfl _ _ _ rfl p (stA (.slice A2 sv2.docs.length c2) (.slice E2 sv2.voc.length f2) sv2.next) rfl rfl TSt _ HB4.out (by kernel_rfl) (by kernel_rfl) (by kernel_rfl) ?_
    | refine wpList_store_row rfl _ _ _ rfl w4.heap.size (anA (av1) (.slice X4 av1.b.length x4) (.slice Y4 av1.ids.length y4)) rfl rfl TAn _ (Sha.blk_setRow_ne HA4.out (by have := (HB1.out.fr HK.out (fun h => h)).lt; omega) _) (by kernel_rfl) (by kernel_rfl) (by kernel_rfl) ?_)
  have HL := Lib.hid (lv_fr w4 p (.cells anZ TAn) (stA (.slice A2 sv2.docs.length c2) (.slice E2 sv2.voc.length f2) sv2.next) (anA (av1) (.slice X4 av1.b.length x4) (.slice Y4 av1.ids.length y4)))
  have hpl : p < w4.heap.size := (HB1.out.fr HK.out (fun h => h)).lt
  have HB2 := Lib.hid (Sha.blk_setRow_ne (g := p) (g' := w4.heap.size) (Sha.blk_setRow HB4.out (stA (.slice A2 sv2.docs.length c2) (.slice E2 sv2.voc.length f2) sv2.next)) (by omega) (anA (av1) (.slice X4 av1.b.length x4) (.slice Y4 av1.ids.length y4)))
  have HA2 := Lib.hid (Sha.blk_setRow (Sha.blk_setRow_ne (g := w4.heap.size) (g' := p) HA4.out (by omega) (stA (.slice A2 sv2.docs.length c2) (.slice E2 sv2.voc.length f2) sv2.next)) (anA (av1) (.slice X4 av1.b.length x4) (.slice Y4 av1.ids.length y4)))
  have HR2 := Lib.hid ((HR4.out.imp (C := fun k => k ≠ p) fun k h => by have := HB1.out.lt; have := h.1; have := HS.out.size; omega).fr HL.out (fun k h e => h e))
  have HG2 := Lib.hid ((HG1.out.trans HK.out (fun _ _ h => h)).trans HL.out (fun i hi e => by have := Hp.out; omega))
  have HA1 := Lib.hid ((HA1.out.fr HK.out (fun h => h)).fr HL.out (fun e => Hne1.out e))
  have Hne2 := Lib.hid (show w4.heap.size ≠ p by omega)
  change Code.wp _ _ _ _ (((w4.alloc (.cells anZ TAn)).setRow p (stA (.slice A2 sv2.docs.length c2) (.slice E2 sv2.voc.length f2) sv2.next)).setRow w4.heap.size (anA (av1) (.slice X4 av1.b.length x4) (.slice Y4 av1.ids.length y4)))
  generalize w4.heap.size = a2 at HA2 Hne2 HB2 HR2 HG2 HA1 ⊢
  generalize World.setRow (World.setRow (World.alloc w4 _) _ _) _ _ = v2 at HA2 HB2 HR2 HG2 HA1 ⊢
  clear HL hpl HB4 HR4 HA4 HK k0 k1 k2 lp HB1 HR1 HG1 HS HV
  skip
  have k0 : v2.cell? ⟨p, 0, none⟩ = some (.slice A2 sv2.docs.length c2) := by rw [HB2.out.cell]; rfl
  have k1 : v2.cell? ⟨p, 1, none⟩ = some (.int .u64 sv2.next) := by rw [HB2.out.cell]; rfl
  have k2 : v2.cell? ⟨p, 2, none⟩ = some (.slice E2 sv2.voc.length f2) := by rw [HB2.out.cell]; rfl
  have lp := HB2.out.lt
  go_upto_region 5 with (first
    | (go_at_call 6; refine (lvD2 HR2.out (SL.nil _)).mono ?_; rintro e w4 ⟨dv4, pv4, bv4, iv4, n4, rfl, hr, hn, hb, hi, hg⟩; obtain ⟨⟨A3, c3, rfl⟩, E3, f3, rfl⟩ := hr.form; obtain ⟨X4, x4, rfl⟩ := own_formN hb.own; obtain ⟨Y4, y4, rfl⟩ := own_formN hi; have HK := Lib.hid (show Gr v2 w4 from hg); have HR4 := Lib.hid hr; have HB4 := Lib.hid ((HB2.out.fr HK.out (fun h => h)).alloc (.cells anZ TAn)); have HA4 := Lib.hid (Blk.new w4 TAn anZ); clear hr hn hb hi hg)
    | refine wpList_store_row rfl _ _ _ rfl p (stA (.slice A3 sv3.docs.length c3) (.slice E3 sv3.voc.length f3) sv3.next) rfl rfl TSt _ HB4.out (by kernel_rfl) (by kernel_rfl) (by kernel_rfl) ?_
    | refine wpList_store_row rfl _ _ _ rfl w4.heap.size (anA (av2) (.slice X4 av2.b.length x4) (.slice Y4 av2.ids.length y4)) rfl rfl TAn _ (Sha.blk_setRow_ne HA4.out (by have := (HB2.out.fr HK.out (fun h => h)).lt; omega) _) (by kernel_rfl) (by kernel_rfl) (by kernel_rfl) ?_)
  have HL := Lib.hid (lv_fr w4 p (.cells anZ TAn) (stA (.slice A3 sv3.docs.length c3) (.slice E3 sv3.voc.length f3) sv3.next) (anA (av2) (.slice X4 av2.b.length x4) (.slice Y4 av2.ids.length y4)))
  have hpl : p < w4.heap.size := (HB2.out.fr HK.out (fun h => h)).lt
  have HB3 := Lib.hid (Sha.blk_setRow_ne (g := p) (g' := w4.heap.size) (Sha.blk_setRow HB4.out (stA (.slice A3 sv3.docs.length c3) (.slice E3 sv3.voc.length f3) sv3.next)) (by omega) (anA (av2) (.slice X4 av2.b.length x4) (.slice Y4 av2.ids.length y4)))
  have HA3 := Lib.hid (Sha.blk_setRow (Sha.blk_setRow_ne (g := w4.heap.size) (g' := p) HA4.out (by omega) (stA (.slice A3 sv3.docs.length c3) (.slice E3 sv3.voc.length f3) sv3.next)) (anA (av2) (.slice X4 av2.b.length x4) (.slice Y4 av2.ids.length y4)))
  have HR3 := Lib.hid ((HR4.out.imp (C := fun k => k ≠ p) fun k h => by have := HB2.out.lt; have := h.1; omega).fr HL.out (fun k h e => h e))
  have HG3 := Lib.hid ((HG2.out.trans HK.out (fun _ _ h => h)).trans HL.out (fun i hi e => by have := Hp.out; omega))
  have HA1 := Lib.hid ((HA1.out.fr HK.out (fun h => h)).fr HL.out (fun e => Hne1.out e))
  have HA2 := Lib.hid ((HA2.out.fr HK.out (fun h => h)).fr HL.out (fun e => Hne2.out e))
  have Hne3 := Lib.hid (show w4.heap.size ≠ p by omega)
  change Code.wp _ _ _ _ (((w4.alloc (.cells anZ TAn)).setRow p (stA (.slice A3 sv3.docs.length c3) (.slice E3 sv3.voc.length f3) sv3.next)).setRow w4.heap.size (anA (av2) (.slice X4 av2.b.length x4) (.slice Y4 av2.ids.length y4)))
  generalize w4.heap.size = a3 at HA3 Hne3 HB3 HR3 HG3 HA1 HA2 ⊢
  generalize World.setRow (World.setRow (World.alloc w4 _) _ _) _ _ = v3 at HA3 HB3 HR3 HG3 HA1 HA2 ⊢
  clear HL hpl HB4 HR4 HA4 HK k0 k1 k2 lp HB2 HR2 HG2
  skip
  have k0 : v3.cell? ⟨p, 0, none⟩ = some (.slice A3 sv3.docs.length c3) := by rw [HB3.out.cell]; rfl
  have k1 : v3.cell? ⟨p, 1, none⟩ = some (.int .u64 sv3.next) := by rw [HB3.out.cell]; rfl
  have k2 : v3.cell? ⟨p, 2, none⟩ = some (.slice E3 sv3.voc.length f3) := by rw [HB3.out.cell]; rfl
  have lp := HB3.out.lt
  go_upto_region 6 with (first
    | (go_at_call 6; refine (lvD3 HR3.out (SL.nil _)).mono ?_; rintro e w4 ⟨dv4, pv4, bv4, iv4, n4, rfl, hr, hn, hb, hi, hg⟩; obtain ⟨⟨A4, c4, rfl⟩, E4, f4, rfl⟩ := hr.form; obtain ⟨X4, x4, rfl⟩ := own_formN hb.own; obtain ⟨Y4, y4, rfl⟩ := own_formN hi; have HK := Lib.hid (show Gr v3 w4 from hg); have Hob := Lib.hid hb.sl; clear hr hn hb hi hg; unfold stA anA)
    | fail)
  have HK5 := Lib.hid (((HK.out).alloc (.cells (stA (.slice A4 sv3.docs.length c4) (.slice E4 sv3.voc.length f4) sv3.next) TSt)).alloc (.cells (anA av3 (.slice X4 av3.b.length x4) (.slice Y4 av3.ids.length y4)) TAn))
  have Hob5 := Lib.hid ((Hob.out.gr ((Fr.refl w4 NoneS).alloc (.cells (stA (.slice A4 sv3.docs.length c4) (.slice E4 sv3.voc.length f4) sv3.next) TSt))).gr ((Fr.refl _ NoneS).alloc (.cells (anA av3 (.slice X4 av3.b.length x4) (.slice Y4 av3.ids.length y4)) TAn)))
  have HA6 := Lib.hid (Blk.new (w4.alloc (.cells (stA (.slice A4 sv3.docs.length c4) (.slice E4 sv3.voc.length f4) sv3.next) TSt)) TAn (anA av3 (.slice X4 av3.b.length x4) (.slice Y4 av3.ids.length y4)))
  have hsz : (w4.alloc (.cells (stA (.slice A4 sv3.docs.length c4) (.slice E4 sv3.voc.length f4) sv3.next) TSt)).heap.size = w4.heap.size + 1 := by simp
  rw [hsz] at HA6
  change Code.wp _ _ _ _ ((w4.alloc (.cells (stA (.slice A4 sv3.docs.length c4) (.slice E4 sv3.voc.length f4) sv3.next) TSt)).alloc (.cells (anA av3 (.slice X4 av3.b.length x4) (.slice Y4 av3.ids.length y4)) TAn))
  generalize w4.heap.size + 1 = g6 at HA6 ⊢
  generalize World.alloc (World.alloc w4 _) _ = w5 at HK5 Hob5 HA6 ⊢
  clear hsz k0 k1 k2 lp
  have e1 : w5.cell? ⟨a1, 1, none⟩ = some (.int .u64 1) := by rw [(HA1.out.fr HK5.out (fun h => h)).cell]; rfl
  have e2 : w5.cell? ⟨a2, 1, none⟩ = some (.int .u64 2) := by rw [(HA2.out.fr HK5.out (fun h => h)).cell]; rfl
  have e3 : w5.cell? ⟨a3, 0, none⟩ = some (.int .i64 0) := by rw [(HA3.out.fr HK5.out (fun h => h)).cell]; rfl
  have e6 : w5.cell? ⟨g6, 3, none⟩ = some (.slice X4 av3.b.length x4) := by rw [HA6.out.cell]; rfl
  have HS5 := Lib.hid ((Fr.refl w5 NoneS).alloc (.cells #[.int .u8 99] 5 (1, 1 + 1)))
  have HV5 := Lib.hid (sl_mark w5 [99] #[.int .u8 99] (1, 1 + 1) 1 (by decide) rfl)
  have HSm := Lib.hid (same_any _ _ av3.b [99] _ (Hob5.out.gr HS5.out) HV5.out (by decide))
  have hd99 : decide (av3.b = [99]) = true := by decide
  rw [hd99] at HSm
  have HMy := Lib.hid (fun wx (hg : Gr v3 wx) => mayM_any (HR3.out.gr hg) sv3_wf)
  rw [sv3_may] at HMy
  unfold stA at HMy
  have hl1 : ((sv3.docs.length : Nat) : Int) = 1 := rfl
  go_wp2_with (first
    | (go_at_call 10; refine HSm.out.mono ?_; rintro e w6 ⟨rfl, hg⟩; have HK6 := Lib.hid (HK5.out.trans (HS5.out.trans hg.gr (fun _ _ h => h)) (fun _ _ h => h)); have HB6 := Lib.hid (HB3.out.fr HK6.out (fun h => h))
       have k0 : w6.cell? ⟨p, 0, none⟩ = some (.slice A3 sv3.docs.length c3) := by rw [HB6.out.cell]; rfl
       have k1 : w6.cell? ⟨p, 1, none⟩ = some (.int .u64 sv3.next) := by rw [HB6.out.cell]; rfl
       have k2 : w6.cell? ⟨p, 2, none⟩ = some (.slice E3 sv3.voc.length f3) := by rw [HB6.out.cell]; rfl
       clear hg)
    | (go_at_call 7; refine (HMy.out _ HK6.out).mono ?_; rintro e w7 ⟨rfl, hg⟩; have HK7 := Lib.hid (HK6.out.trans hg (fun _ _ h => h)); have HB7 := Lib.hid (HB3.out.fr HK7.out (fun h => h))
       have m0 : w7.cell? ⟨p, 0, none⟩ = some (.slice A3 sv3.docs.length c3) := by rw [HB7.out.cell]; rfl
       clear hg))
  go_ret
  exact ⟨rfl, HG3.out.trans HK7.out (fun _ _ h => h)⟩
end Mod
end Go.Proofs.Ytlodbhlidgepfaa
