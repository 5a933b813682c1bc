/- law 13: RecordFresh. -/
import Derived.Test.YtobedpohoellkaaRLa
import Derived.Test.YtobedpohoellkaaFwide
import Derived.Test.YtobedpohoellkaaFcopyi
import Derived.Test.YtobedpohoellkaaFspoil
set_option linter.unusedVariables false
set_option linter.unusedSimpArgs false
namespace Go.Proofs.Ytobedpohoellkaa
open Go.RowKit
open Voc Leb Bpe
namespace Rec
theorem u64_in' {x : Int} (h : (Lit.int .u64 x).wf = true) : 0 ≤ x ∧ x < 18446744073709551616 := by
  simp [Lit.wf, IntKind.min, IntKind.max, IntKind.signed, IntKind.bits] at h
  omega
attribute [local go_sem ↓] loadAt_row35 loadVar_row35 loadCells_row35
set_option maxRecDepth 20000 in
set_option maxHeartbeats 4000000 in
theorem RecordFresh_walk (w : World) (t0 : Value) (r0 : Rc) (dl0 : r0.d.length = 32) (db0 : ∀ x ∈ r0.d, (Lit.int .u8 x).wf = true) (rv0 : (Lit.int .u64 r0.v).wf = true) (rn0 : (Lit.int .i64 r0.n).wf = true) (sl0 : SL encI w t0 r0.t) (wf0 : ∀ x ∈ r0.t, (Lit.int .i64 x).wf = true) (n0 : r0.t.length ≤ 1048576) (v1 : Value) (x1 : List Int) (sl1 : SL encB w v1 x1) (wf1 : ∀ x ∈ x1, (Lit.int .u8 x).wf = true) (n1 : x1.length ≤ 1048576) :
    Calls Try.prog 7 #[.agg (rcA r0 t0), v1] w fun e w' => e = .returned (.bool true) ∧ Gr w w' := by
  obtain ⟨A, cap, rfl⟩ := SL.form sl0
  obtain ⟨A1, cap1, rfl⟩ := SL.form sl1
  have HS0 := Lib.hid sl0
  have HS1 := Lib.hid sl1
  have HG := Lib.hid ((Fr.refl w NoneS).alloc (.cells (rcA r0 (.slice A r0.t.length cap)) TRc))
  have HB := Lib.hid (Blk.new w TRc (rcA r0 (.slice A r0.t.length cap)))
  have HPt := Lib.hid (fun (wx : World) (tv : Value) (ht : SL encI wx tv r0.t) => recPut_any dl0 (u64_in' rv0) ht n0)
  have HGt := Lib.hid (fun (wx : World) (bv : Value) (hb : SL encB wx bv x1) => recGet_any hb (bs_in wf1) (by omega))
  have Hd := Lib.hid dl0
  have Hdx := Lib.hid (getR_d x1)
  have Hn := Lib.hid (And.intro n0 n1)
  generalize putR r0 = PR at HPt
  obtain ⟨pb, pe⟩ := PR
  generalize getR x1 = GR at HGt Hdx
  obtain ⟨gr, ge⟩ := GR
  simp only at HPt HGt Hdx
  clear sl0 sl1 dl0 rv0 rn0 wf0 wf1 n0 n1 db0
  obtain ⟨q, hq⟩ : ∃ q, w.heap.size = q := ⟨_, rfl⟩
  rw [hq] at HB
  go_enter Try.func7, Try.ntmps7
  go_upto_region 1 with (fail)
  clear hq
  generalize hx : World.alloc w _ = wa at HG HB ⊢
  clear hx
  have l0 := row35_rec HB.out Hd.out
  go_upto_region 2 with (refine Sha.wpList_store_new (w0 := wa) rfl _ _ _ rfl (rcA r0 (.slice A r0.t.length cap)) _ _ rfl rfl rfl (by rw [rcA_size _ Hd.out]; kernel_rfl) (by rw [rcA_size _ Hd.out]; rfl) (rcA_one rfl) ?_)
  have HC2 := Lib.hid (Blk.new wa TRc (rcA r0 (.slice A r0.t.length cap)))
  have HG2 := Lib.hid (HG.out.alloc (.cells (rcA r0 (.slice A r0.t.length cap)) TRc))
  have HB2 := Lib.hid (HB.out.alloc (.cells (rcA r0 (.slice A r0.t.length cap)) TRc))
  obtain ⟨p5, hp5⟩ : ∃ p5, wa.heap.size = p5 := ⟨_, rfl⟩
  rw [hp5] at HC2 ⊢
  have Hp5 := Lib.hid (show w.heap.size ≤ p5 ∧ q ≠ p5 from ⟨by rw [← hp5]; exact HG.out.size, by have := HB.out.lt; omega⟩)
  clear hp5 l0
  generalize World.alloc wa _ = w2 at HC2 HG2 HB2 ⊢
  have f34 : w2.cell? ⟨q, 34, none⟩ = some (.slice A r0.t.length cap) := by rw [HB2.out.cell]; exact rcA_t _ Hd.out
  have HCc := Lib.hid (fun wx (h : Gr w2 wx) => show wx.cell? ⟨p5, 34, none⟩ = some (.slice A r0.t.length cap) from by rw [(HC2.out.fr h (fun h => h)).cell]; exact rcA_t _ Hd.out)
  go_upto_region 3 with (go_at_call 21; refine (copyInts_any _ r0.t _ (HS0.out.gr HG2.out) (by have := Hn.out; omega)).mono ?_; rintro e w3 ⟨rv, rfl, hr, hg⟩; obtain ⟨Ar, cr, rfl⟩ := own_formN hr; have HR3 := Lib.hid hr; have HG3 := Lib.hid (HG2.out.trans hg (fun _ _ h => h)); have HB3 := Lib.hid (HB2.out.fr hg (fun h => h)); have HC3 := Lib.hid (HC2.out.fr hg (fun h => h)); have g34 := HCc.out _ hg; have z34 := HC3.out.frozen 34; clear hr hg)
  have HC4 := Lib.hid (show Blk (w3.setCell ⟨p5, 34, none⟩ (.slice Ar r0.t.length cr)) p5 TRc (rcA r0 (.slice Ar r0.t.length cr)) from by
    have h := HC3.out.set_ 34 (.slice Ar r0.t.length cr)
    rw [rcA_sett r0 _ Hd.out r0.t] at h
    exact h)
  have HF4 := Lib.hid (show Fr w3 (w3.setCell ⟨p5, 34, none⟩ (.slice Ar r0.t.length cr)) (fun k => k = p5) from (Fr.refl w3 (fun k => k = p5)).setCell (p := ⟨p5, 34, none⟩) (fun _ => rfl) _)
  clear f34 g34 z34
  generalize hx : World.setCell w3 _ _ = w4 at HC4 HF4 ⊢
  clear hx
  have HG4 := Lib.hid (show Gr w w4 from HG3.out.trans HF4.out (fun i hi h => by have := Hp5.out.1; omega))
  have HB4 := Lib.hid (HB3.out.fr HF4.out Hp5.out.2)
  have HR4 := Lib.hid (show SL encI w4 (.slice Ar r0.t.length cr) r0.t from (SL.of_own (enc := encI) HR3.out rfl).fr HF4.out (fun k hk h => by have := (HR3.out.lt k hk).1; have := HC2.out.lt; omega))
  clear HR3 HF4 HB3 HC3 HG3
  have l4 := row35_rec HC4.out Hd.out
  go_upto_region 4 with (go_at_call 11; refine (HPt.out _ _ HR4.out).mono ?_; rintro e w5 ⟨av, rfl, ho, hg⟩; have HA5 := Lib.hid ho; have HD5 := Lib.hid (show Gr w4 w5 from hg); clear ho hg)
  clear l4
  go_upto_region 5 with (go_at_call 22; refine (Voc.spoil_any _ _ _ _ 1 _ HA5.out.own HA5.out.spare).mono ?_; rintro e w6 ⟨rfl, hg⟩; have HD6 := Lib.hid (show Gr w4 w6 from HD5.out.trans hg (fun i hi h => by have := (HA5.out.own.lt i h).1; omega)); clear hg)
  go_upto_region 6 with (go_at_call 23; refine (wide_any _ x1 _ (HS1.out.gr (HG4.out.trans HD6.out (fun _ _ h => h))) (by have := Hn.out; omega)).mono ?_; rintro e w7 ⟨g8, rfl, hge, hw8, hg⟩; have HW7 := Lib.hid hw8; have HD7 := Lib.hid (HD6.out.trans hg (fun _ _ h => h)); clear hge hw8 hg)
  have HW7s := Lib.hid (show SL encB w7 (.slice (some ⟨g8, 0, none⟩) x1.length (x1.length + 3)) x1 from by
    have h := sl_blk HW7.out (by rw [wd_len _ _ (Nat.le_refl _)]; have := Hn.out; unfold maxLen; omega) x1.length (by rw [wd_len _ _ (Nat.le_refl _)]; omega)
    rw [wd_take, wd_len _ _ (Nat.le_refl _)] at h
    exact h)
  go_upto_region 7 with (first
    | (go_at_call 15; refine (HGt.out _ _ HW7s.out).mono ?_; rintro e w8 ⟨tv, rfl, ho, hg⟩; obtain ⟨At, ct, rfl⟩ := own_formN ho.own; have HT8 := Lib.hid ho; have HE8 := Lib.hid (show Gr w7 w8 from hg); clear ho hg)
    | refine Sha.wpList_store_new (w0 := w8) rfl _ _ _ rfl (rcA gr (.slice At gr.t.length ct)) _ _ rfl rfl rfl (by rw [rcA_size _ Hdx.out]; kernel_rfl) (by rw [rcA_size _ Hdx.out]; rfl) (rcA_one rfl) ?_)
  have HX9 := Lib.hid (Blk.new w8 TRc (rcA gr (.slice At gr.t.length ct)))
  have HE9 := Lib.hid (HE8.out.alloc (.cells (rcA gr (.slice At gr.t.length ct)) TRc))
  have HT9 := Lib.hid (HT8.out.gr ((Fr.refl w8 NoneS).alloc (.cells (rcA gr (.slice At gr.t.length ct)) TRc)))
  generalize w8.heap.size = p9 at HX9 ⊢
  generalize World.alloc w8 _ = w9 at HX9 HE9 HT9 ⊢
  have h34 : w9.cell? ⟨p9, 34, none⟩ = some (.slice At gr.t.length ct) := by rw [HX9.out.cell]; exact rcA_t _ Hdx.out
  go_upto_region 8 with (go_at_call 24; refine (spoilInts_any _ _ _ _ 1 _ HT9.out.own HT9.out.spare).mono ?_; rintro e w10 ⟨rfl, hg⟩; have HE10 := Lib.hid (show Gr w7 w10 from HE9.out.trans hg (fun i hi h => by have := (HT9.out.own.lt i h).1; omega)); clear hg)
  clear h34 HX9 HT8 HT9 HE8 HE9
  have HD10 := Lib.hid (HD7.out.trans HE10.out (fun _ _ h => h))
  have HG10 := Lib.hid (HG4.out.trans HD10.out (fun _ _ h => h))
  have l1 := row35_rec (HC4.out.fr HD10.out (fun h => h)) Hd.out
  have l2 := row35_rec (HB4.out.fr HD10.out (fun h => h)) Hd.out
  have HRc := Lib.hid (record_any (ra := r0) (rb := r0) Hd.out Hd.out (HR4.out.gr HD10.out) (HS0.out.gr HG10.out) (by have := Hn.out; omega))
  rw [recEq_refl] at HRc
  have HLf := Lib.hid (fun wx (h : Gr w10 wx) => left_any g8 _ x1 wx ((HW7.out.fr HE10.out (fun h => h)).fr h (fun h => h)) ((HS1.out.gr HG10.out).gr h) (by have := Hn.out; omega))
  have hx1 : (x1.length : Int) ≤ 1048576 := by have := Hn.out; omega
  go_wp2_with (first
    | (go_at_call 17; refine HRc.out.mono ?_; rintro e w11 ⟨rfl, hg⟩; have HF11 := Lib.hid (show Gr w10 w11 from hg); clear hg)
    | (go_at_call 25; refine (HLf.out _ HF11.out).mono ?_; rintro e w12 ⟨rfl, hd⟩; have HF12 := Lib.hid (HF11.out.trans hd.gr (fun _ _ h => h)); clear hd)
    | (go_at_call 14; refine (works_any _).mono ?_; rintro e wz ⟨rfl, hg⟩; have HGz := Lib.hid hg; clear hg))
  go_ret
  exact ⟨rfl, (HG10.out.trans HF12.out (fun _ _ h => h)).trans HGz.out (fun _ _ h => h)⟩
end Rec
end Go.Proofs.Ytobedpohoellkaa
