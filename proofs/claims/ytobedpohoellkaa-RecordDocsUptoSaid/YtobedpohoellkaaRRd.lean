/- record: the reference's Of and Doc. -/
import Derived.Test.YtobedpohoellkaaRWf
set_option linter.unusedVariables false
set_option linter.unusedSimpArgs false
namespace Go.Proofs.Ytobedpohoellkaa
open Go.RowKit
open Voc Leb Bpe
namespace Rec
theorem rsumI_any (v : Value) (bs : List Int) (w : World) (hs : SL encB w v bs) (hb : Bs bs) (hn : bs.length ≤ 4194304) :
    Calls Try.prog 46 #[v] w fun e w' => e = .returned (.agg ((dgB bs).map (Value.int .u8)).toArray) ∧ Gr w w' := by
  rw [← brr_dg]
  exact Sha.rsum_any v _ w (Sha.ofInts_sl hs hb) (by rw [List.length_map]; exact hn)
set_option maxRecDepth 20000 in
set_option maxHeartbeats 4000000 in
theorem rrecOf_any {w : World} {v vb : Value} {xs : List Pc} {bs : List Int} (HS : SL encP w v xs) (HV : SL encB w vb bs) (hw : ∀ q ∈ xs, wfP q) (hb : Bs bs) (hl : xs.length ≤ 1048576) (hbl : bs.length ≤ 1048576) (id : Int) :
    Calls Try.prog 20 #[.agg #[v], .int .u64 id, vb] w fun e w' => ∃ tv, e = .returned (.tuple #[.agg (rcA (ofE xs id bs).1 tv), .int .i64 (ofE xs id bs).2]) ∧ OI w' w.heap.size tv (ofE xs id bs).1.t ∧ Gr w w' := by
  obtain ⟨A, cap, rfl⟩ := SL.form HS
  obtain ⟨A2, cap2, rfl⟩ := SL.form HV
  have HB := Lib.hid ((Blk.new w 41 #[.slice A xs.length cap]).alloc (.cells (rcA zeroR (.slice none 0 0)) TRc))
  have HG := Lib.hid (((Fr.refl w NoneS).alloc (.cells #[.slice A xs.length cap] 41)).alloc (.cells (rcA zeroR (.slice none 0 0)) TRc))
  have HR := Lib.hid (Blk.new (w.alloc (.cells #[.slice A xs.length cap] 41)) TRc (rcA zeroR (.slice none 0 0)))
  have hsz : (w.alloc (.cells #[.slice A xs.length cap] 41)).heap.size = w.heap.size + 1 := by simp
  rw [hsz] at HR
  clear hsz
  have HC := Lib.hid (fun (b : Bool) (hb : decide ((checkE xs).1 = 0) = b) wx (hg : Gr w wx) => may_any (HS.gr hg) hw hl b hb)
  have HE := Lib.hid (fun wx (hg : Gr w wx) => rencode_any (HS.gr hg) (HV.gr hg) hw hb hl hbl)
  rw [encE_eq] at HE
  have HSm := Lib.hid (fun wx (hg : Gr w wx) => rsumI_any _ bs wx (HV.gr hg) hb (by omega))
  obtain ⟨⟨E0, at0⟩, hE⟩ : ∃ y, checkE xs = y := ⟨_, rfl⟩
  have HCe := Lib.hid hE
  rw [hE] at HC
  have Hl4 := Lib.hid (enc_len xs bs)
  have Hbl := Lib.hid hbl
  have hbi : (bs.length : Int) ≤ 1048576 := by omega
  obtain ⟨R, hR⟩ : ∃ R, ofE xs id bs = R := ⟨_, rfl⟩
  rw [hR]
  have HRe := Lib.hid hR
  clear HS HV hw hb hl hbl hE hR
  obtain ⟨q1, hq1⟩ : ∃ q, w.heap.size = q := ⟨_, rfl⟩
  have Hq1 := Lib.hid hq1
  rw [hq1] at HB HR
  obtain ⟨q, hq⟩ : ∃ q, q1 + 1 = q := ⟨_, rfl⟩
  rw [hq] at HR
  have Hq := Lib.hid hq
  go_enter Try.func20, Try.ntmps20
  go_upto_region 1 with (fail)
  change Code.wp _ _ _ _ ((w.alloc (.cells #[.slice A xs.length cap] 41)).alloc (.cells (rcA zeroR (.slice none 0 0)) TRc))
  clear hq hq1
  generalize hx : World.alloc (World.alloc w _) _ = wa at HG HB HR ⊢
  clear hx
  have c0 : wa.cell? ⟨q1, 0, none⟩ = some (.slice A xs.length cap) := by rw [HB.out.cell]; rfl
  have Hqw := Lib.hid (show w.heap.size ≤ q by have := Hq.out; have := Hq1.out; omega)
  by_cases hE0 : E0 = 0
  case neg =>
    have HC2 := Lib.hid (HC.out false (decide_eq_false hE0))
    have HRz := Lib.hid (show R = (zeroR, 11) by rw [← HRe.out]; unfold ofE; rw [HCe.out, if_pos hE0])
    clear hE0 HC
    go_wp2_with (first
      | (go_at_call 44; refine (HC2.out _ HG.out).mono ?_; rintro e w2 ⟨rfl, hg⟩; have HG2 := Lib.hid (HG.out.trans hg (fun _ _ h => h)); have HR2 := Lib.hid (HR.out.fr hg (fun h => h)); clear hg)
      | refine Sha.wpList_build_to rfl TRc _ rfl (rcA zeroR (.slice none 0 0)) (by kernel_rfl) ?_
      | refine wpList_store_row rfl _ _ _ rfl q (rcA zeroR (.slice none 0 0)) rfl rfl TRc _ HR2.out (by kernel_rfl) (by kernel_rfl) (by kernel_rfl) ?_)
    refine bodyPost_ret (results_ct Try.results20 _ _ q _ (rcA zeroR (.slice none 0 0)) (0, 0) _ (.int .i64 11) rfl rfl (Sha.blk_setRow HR2.out _) Try.underlying27 rfl (by kernel_rfl)) rfl ?_
    rw [HRz.out]
    exact ⟨_, rfl, OI.nil _ _, Sha.fr_setRow HG2.out (fun h => by have := Hqw.out; omega) _⟩
  subst hE0
  have HC2 := Lib.hid (HC.out true (decide_eq_true rfl))
  clear HC
  go_upto_region 3 with (go_at_call 44; refine (HC2.out _ HG.out).mono ?_; rintro e w2 ⟨rfl, hg⟩; have HG2 := Lib.hid (HG.out.trans hg (fun _ _ h => h)); have HR2 := Lib.hid (HR.out.fr hg (fun h => h)); have HB2 := Lib.hid (HB.out.fr hg (fun h => h)); clear hg)
  by_cases h4 : 4096 < bs.length
  case pos =>
    have HRz := Lib.hid (show R = (zeroR, 12) by rw [← HRe.out]; unfold ofE; rw [HCe.out, if_neg (by simp), if_pos h4])
    have h4i : (4096 : Int) < (bs.length : Int) := by omega
    clear h4 c0
    go_wp2_with (first
      | refine Sha.wpList_build_to rfl TRc _ rfl (rcA zeroR (.slice none 0 0)) (by kernel_rfl) ?_
      | refine wpList_store_row rfl _ _ _ rfl q (rcA zeroR (.slice none 0 0)) rfl rfl TRc _ HR2.out (by kernel_rfl) (by kernel_rfl) (by kernel_rfl) ?_)
    refine bodyPost_ret (results_ct Try.results20 _ _ q _ (rcA zeroR (.slice none 0 0)) (0, 0) _ (.int .i64 12) rfl rfl (Sha.blk_setRow HR2.out _) Try.underlying27 rfl (by kernel_rfl)) rfl ?_
    rw [HRz.out]
    exact ⟨_, rfl, OI.nil _ _, Sha.fr_setRow HG2.out (fun h => by have := Hqw.out; omega) _⟩
  have h4i : ¬ (4096 : Int) < (bs.length : Int) := by omega
  have HEe := Lib.hid (show encE xs bs = (encL xs (row0 xs bs), 0) by unfold encE; rw [HCe.out, if_neg (by simp), if_neg h4])
  rw [HEe.out] at HE Hl4
  simp only at HE Hl4
  have HRz := Lib.hid (show R = (⟨dgB bs, id, (bs.length : Int), encL xs (row0 xs bs)⟩, 0) by rw [← HRe.out]; unfold ofE; rw [HCe.out, if_neg (by simp), if_neg h4])
  clear HEe h4
  generalize encL xs (row0 xs bs) = L at HE Hl4 HRz
  have c2 : w2.cell? ⟨q1, 0, none⟩ = some (.slice A xs.length cap) := by rw [HB2.out.cell]; rfl
  obtain ⟨a0, a1, a2, a3, a4, a5, a6, a7, a8, a9, a10, a11, a12, a13, a14, a15, a16, a17, a18, a19, a20, a21, a22, a23, a24, a25, a26, a27, a28, a29, a30, a31, hd⟩ := len32 (dgB_len bs)
  rw [hd] at HSm HRz
  clear hd
  simp only [List.map_cons, List.map_nil] at HSm
  go_upto_region 6 with (go_at_call 45; refine (HE.out _ HG2.out).mono ?_; rintro e w3 ⟨tv, rfl, ho, hg⟩; obtain ⟨At, ct, rfl⟩ := own_formN ho.own; have HT3 := Lib.hid (ho.base HG2.out.size); have Htl := Lib.hid (fun k hk => (ho.own.lt k hk).1); have HG3 := Lib.hid (HG2.out.trans hg (fun _ _ h => h)); have HR3 := Lib.hid (HR2.out.fr hg (fun h => h)); clear ho hg)
  clear c0 c2
  have Hlt2 := Lib.hid HR2.out.lt
  go_wp2_with (first
    | (go_at_call 46; refine (HSm.out _ HG3.out).mono ?_; rintro e w4 ⟨rfl, hg⟩; have HG4 := Lib.hid (HG3.out.trans hg (fun _ _ h => h)); have HR4 := Lib.hid (HR3.out.fr hg (fun h => h)); have HT4 := Lib.hid (HT3.out.gr hg); clear hg)
    | refine wpList_store_row rfl _ _ _ rfl q (rcA ⟨[a0, a1, a2, a3, a4, a5, a6, a7, a8, a9, a10, a11, a12, a13, a14, a15, a16, a17, a18, a19, a20, a21, a22, a23, a24, a25, a26, a27, a28, a29, a30, a31], id, (bs.length : Int), L⟩ (.slice At L.length ct)) rfl rfl TRc _ HR4.out (by kernel_rfl) (by kernel_rfl) (by kernel_rfl) ?_)
  refine bodyPost_ret (results_ct Try.results20 _ _ q _ (rcA ⟨[a0, a1, a2, a3, a4, a5, a6, a7, a8, a9, a10, a11, a12, a13, a14, a15, a16, a17, a18, a19, a20, a21, a22, a23, a24, a25, a26, a27, a28, a29, a30, a31], id, (bs.length : Int), L⟩ (.slice At L.length ct)) (0, 0) _ (.int .i64 0) rfl rfl (Sha.blk_setRow HR4.out _) Try.underlying27 rfl (by kernel_rfl)) rfl ?_
  rw [HRz.out]
  refine ⟨_, rfl, ?_, Sha.fr_setRow HG4.out (fun h => by have := Hqw.out; omega) _⟩
  exact HT4.out.fr (Sha.fr_setRow (S := fun k => k = q) (Fr.refl w4 _) (fun _ => rfl) _) (fun k hk h => by have := Htl.out k hk; have := Hlt2.out; omega)
set_option maxRecDepth 20000 in
set_option maxHeartbeats 4000000 in
theorem rrecDoc_any {w : World} {v tv : Value} {xs : List Pc} {r : Rc} (HS : SL encP w v xs) (hw : ∀ q ∈ xs, wfP q) (hl : xs.length ≤ 1048576) (hd : r.d.length = 32) (ht : SL encI w tv r.t) (htl : r.t.length ≤ 1048576) :
    Calls Try.prog 27 #[.agg #[v], .agg (rcA r tv)] w fun e w' => ∃ bv, e = .returned (.tuple #[bv, .int .i64 (docE xs r).2]) ∧ OB w' w.heap.size bv (docE xs r).1 ∧ Gr w w' := by
  obtain ⟨A, cap, rfl⟩ := SL.form HS
  obtain ⟨A2, cap2, rfl⟩ := SL.form ht
  have HB := Lib.hid ((Blk.new w 41 #[.slice A xs.length cap]).alloc (.cells (rcA r (.slice A2 r.t.length cap2)) TRc))
  have HG := Lib.hid (((Fr.refl w NoneS).alloc (.cells #[.slice A xs.length cap] 41)).alloc (.cells (rcA r (.slice A2 r.t.length cap2)) TRc))
  have HR := Lib.hid (Blk.new (w.alloc (.cells #[.slice A xs.length cap] 41)) TRc (rcA r (.slice A2 r.t.length cap2)))
  have hsz : (w.alloc (.cells #[.slice A xs.length cap] 41)).heap.size = w.heap.size + 1 := by simp
  rw [hsz] at HR
  clear hsz
  have HD := Lib.hid (fun wx (hg : Gr w wx) => rdecode_any (HS.gr hg) (ht.gr hg) hw hl htl)
  have Hbs := Lib.hid (dec_bytes hw r.t)
  have Hln := Lib.hid (dec_len xs r.t)
  have Hd := Lib.hid hd
  obtain ⟨R, hR⟩ : ∃ R, docE xs r = R := ⟨_, rfl⟩
  rw [hR]
  have hRe := hR
  unfold docE at hRe
  obtain ⟨⟨L, E⟩, hE⟩ : ∃ y, decE xs r.t = y := ⟨_, rfl⟩
  rw [hE] at HD Hbs Hln hRe
  simp only at HD Hbs Hln hRe
  have HRe := Lib.hid hRe
  clear HS hw hl hd ht htl hE hR hRe
  obtain ⟨q1, hq1⟩ : ∃ q, w.heap.size = q := ⟨_, rfl⟩
  have Hq1 := Lib.hid hq1
  rw [hq1] at HB HR
  obtain ⟨q, hq⟩ : ∃ q, q1 + 1 = q := ⟨_, rfl⟩
  rw [hq] at HR
  go_enter Try.func27, Try.ntmps27
  go_upto_region 1 with (fail)
  clear hq hq1
  generalize hx : World.alloc (World.alloc w _) _ = wa at HG HB HR ⊢
  clear hx
  have c0 : wa.cell? ⟨q1, 0, none⟩ = some (.slice A xs.length cap) := by rw [HB.out.cell]; rfl
  have f34 : wa.cell? ⟨q, 34, none⟩ = some (.slice A2 r.t.length cap2) := by rw [HR.out.cell]; exact rcA_t _ Hd.out
  go_upto_region 2 with (go_at_call 48; refine (HD.out _ HG.out).mono ?_; rintro e w2 ⟨bv, rfl, ho, hg⟩; obtain ⟨Ab, cb, rfl⟩ := own_formN ho.own; have HO2 := Lib.hid (ho.base HG.out.size); have HG2 := Lib.hid (HG.out.trans hg (fun _ _ h => h)); have HR2 := Lib.hid (HR.out.fr hg (fun h => h)); clear ho hg)
  clear c0 f34
  by_cases hE0 : E = 0
  case neg =>
    have h := HRe.out
    rw [if_pos hE0] at h
    have HRz := Lib.hid h.symm
    have he1 : (E != 0) = true := bne_iff_ne.2 hE0
    clear hE0 h
    go_wp2_with fail
    go_ret2
    rw [HRz.out]
    exact ⟨_, rfl, OB.nil _ _, HG2.out⟩
  subst hE0
  have h := HRe.out
  rw [if_neg (by decide)] at h
  have HRe2 := Lib.hid h
  have Hb2 := Lib.hid (Hbs.out)
  clear h HRe Hbs
  have f33 : w2.cell? ⟨q, 33, none⟩ = some (.int .i64 r.n) := by rw [HR2.out.cell]; exact rcA_n _ Hd.out
  have hLi : (L.length : Int) ≤ 4096 := by have := Hln.out; omega
  by_cases hn : (L.length : Int) = r.n
  case neg =>
    have HRz := Lib.hid (show R = ([], 6) by rw [← HRe2.out, if_pos (Or.inl hn)])
    have hn1 : ((L.length : Int) != r.n) = true := bne_iff_ne.2 hn
    clear hn
    go_upto_region 4 with (fail)
    go_quiet (fail)
    go_wp2_with fail
    go_ret2
    rw [HRz.out]
    exact ⟨_, rfl, OB.nil _ _, HG2.out.drewN _⟩
  have hn1 : ((L.length : Int) != r.n) = false := by rw [bne_eq_false_iff_eq]; exact hn
  have HRd := Lib.hid (show R = if dgB L = r.d then (L, 0) else ([], 6) by
    rw [← HRe2.out]
    by_cases hx : dgB L = r.d
    · rw [if_pos hx, if_neg (by intro h; rcases h with h | h; exact h hn; exact h hx)]
    · rw [if_neg hx, if_pos (Or.inr hx)])
  have hNq := fun wx => neq_dig (dgB L) r.d (dgB_len L) Hd.out wx
  have HSm := Lib.hid (fun wx (hg : Gr w2 wx) => rsumI_any _ L wx (HO2.out.sl.gr hg) Hb2.out (by have := Hln.out; omega))
  have r0 := rec_range HR2.out
  have Hr0 := Lib.hid (fun wx (hg : Gr w2 wx) => rec_range (HR2.out.fr hg (fun h => h)))
  have Hll := Lib.hid (show (r.d.map (Value.int .u8)).length = 32 by rw [List.length_map]; exact Hd.out)
  have Hf33 := Lib.hid (fun wx (hg : Gr w2 wx) => show wx.cell? ⟨q, 33, none⟩ = some (.int .i64 r.n) from by rw [(HR2.out.fr hg (fun h => h)).cell]; exact rcA_n _ Hd.out)
  obtain ⟨bd, hbd⟩ : ∃ b, decide (dgB L = r.d) = b := ⟨_, rfl⟩
  rw [hbd] at hNq
  have HRb := Lib.hid (show R = if bd = true then (L, 0) else ([], 6) by
    rw [HRd.out, ← hbd]
    by_cases hx : dgB L = r.d
    · rw [if_pos hx, if_pos (decide_eq_true hx)]
    · rw [if_neg hx, if_neg (by rw [decide_eq_false hx]; decide)])
  generalize ((dgB L).map (Value.int .u8)).toArray = lb at hNq HSm
  generalize r.d.map (Value.int .u8) = la at hNq r0 Hr0 Hll
  have hud : Try.prog.underlying 23 = some (.array 32 5) := Try.underlying23
  have hsd : (Try.prog.info? 23).map (·.size) = some la.length := by rw [Hll.out]; kernel_rfl
  clear hn hbd HRd HRe2
  go_upto_region 4 with (fail)
  go_region_held3 (fun wx => wx.cell? ⟨q, 33, none⟩ = some (.int .i64 r.n) ∧ wx.rangeAt q 0 la)
    (first | with_reducible exact ⟨f33', r0'⟩ | exact ⟨f33, r0⟩)
    (first | (go_at_call 46
              refine (HSm.out _ ((Fr.refl w2 NoneS).drew)).mono ?_
              rintro e w5 ⟨rfl, hg⟩
              have HG5 := Lib.hid (show Gr w2 w5 from ((Fr.refl w2 NoneS).drew).trans hg (fun _ _ h => h))
              have f33' := Hf33.out _ HG5.out
              have r0' := Hr0.out _ HG5.out
              clear hg))
  clear f33 r0 f33' r0' hud hsd
  have hR := HRb.out
  cases bd with
  | true =>
    rw [if_pos rfl] at hR
    have HRz := Lib.hid hR
    clear hR
    go_wp2_with fail
    go_ret2
    rw [HRz.out]
    exact ⟨_, rfl, HO2.out.gr HG5.out, HG2.out.trans HG5.out (fun _ _ h => h)⟩
  | false =>
    rw [if_neg (by decide)] at hR
    have HRz := Lib.hid hR
    clear hR
    go_wp2_with fail
    go_ret2
    rw [HRz.out]
    exact ⟨_, rfl, OB.nil _ _, HG2.out.trans HG5.out (fun _ _ h => h)⟩
end Rec
end Go.Proofs.Ytobedpohoellkaa
