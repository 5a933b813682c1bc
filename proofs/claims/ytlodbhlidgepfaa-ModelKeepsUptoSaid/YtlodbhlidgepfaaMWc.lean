/- model: own, from, New. -/
import Derived.Test.YtlodbhlidgepfaaMWb
set_option linter.unusedVariables false
set_option linter.unusedSimpArgs false
namespace Go.Proofs.Ytlodbhlidgepfaa
open Go.RowKit
open Voc Leb Bpe
namespace Mod
theorem info_doc : (Try.prog.info? 45).map (fun i => (i.zero, i.size, i.bytes)) = some (some (.agg #[.int .u64 0, .slice none 0 0]), 2, 32) := by kernel_rfl
/-- what own has so far -/
structure Ow (w wr : World) (p3 : Nat) (ov pv : Value) (nx : Int) (D : List (Int × Sv)) (ds : List Dc) (vs : List Pc) : Prop where
  gr : Gr w wr
  lo : w.heap.size ≤ p3
  blk : Blk wr p3 TSt (stA ov pv nx)
  own : wr.ownsRow w.heap.size TDoc 2 ov ds.length (D.flatMap encD)
  al : Al (ODR w.heap.size wr) D ds
  voc : wr.ownsRow w.heap.size TPc 5 pv vs.length (vs.flatMap encP)
section
variable {w wr w' : World} {p3 : Nat} {ov pv : Value} {nx : Int} {D : List (Int × Sv)} {ds : List Dc} {vs : List Pc}
theorem Ow.any (H : Ow w wr p3 ov pv nx D ds vs) (hg : Gr wr w') : Ow w w' p3 ov pv nx D ds vs :=
  ⟨H.gr.trans hg (fun _ _ h => h), H.lo, H.blk.fr hg (fun h => h), hg.owns H.own (fun _ _ h => h), H.al.imp fun a c h => ⟨h.1, h.2.gr hg⟩, hg.owns H.voc (fun _ _ h => h)⟩
theorem Ow.push {w5 w7 : World} {ov' : Value} {c : Dc} {sv : Sv} {B5 : Nat} (H : Ow w w5 p3 ov pv nx D ds vs) (hB : w.heap.size ≤ B5) (hb : OB w5 B5 sv.v c.b) (hf : Fr w5 w7 (fun k => ov.ownBlock = some k))
    (ho : w7.ownsRow w.heap.size TDoc 2 ov' (ds.length + 1) (D.flatMap encD ++ [(c.id, sv)].flatMap encD)) : Ow w (w7.setCell ⟨p3, 0, none⟩ ov') p3 ov' pv nx (D ++ [(c.id, sv)]) (ds ++ [c]) vs := by
  have hn3 : ov.ownBlock ≠ some p3 := own_blk_ne H.own H.blk (by decide)
  have hB3 : Blk w7 p3 TSt (stA ov pv nx) := H.blk.fr hf hn3
  have hs : Fr w7 (w7.setCell ⟨p3, 0, none⟩ ov') (fun k => k = p3) := (Fr.refl w7 (fun k => k = p3)).setCell (p := ⟨p3, 0, none⟩) (fun _ => rfl) _
  have hfb : ∀ {v : Value} {n : Nat} {l : List Value} {B : Nat}, w5.ownsRow B TU8 1 v n l → ∀ k, v.ownBlock = some k → ¬ ov.ownBlock = some k := fun h k hk => own_own_ne h H.own (by decide) k hk
  have hkeep : ∀ {v : Value} {l : List Int} {B : Nat}, OB w5 B v l → OB (w7.setCell ⟨p3, 0, none⟩ ov') B v l := fun h =>
    (h.fr hf (hfb h.own)).fr hs (fun k hk e => own_blk_ne (h.fr hf (hfb h.own)).own hB3 (by decide) (e ▸ hk))
  refine ⟨(gr_keep' H.gr H.own hf).trans hs (fun i hi e => by have := H.lo; omega), H.lo, hB3.set_ 0 ov', ?_, ?_, ?_⟩
  · have := hs.owns ho (fun k hk e => own_blk_ne ho hB3 (by decide) (e ▸ hk))
    rw [List.length_append, List.flatMap_append]
    exact this
  · exact Al.snoc ⟨rfl, (hkeep hb).base hB⟩ (H.al.imp fun a c h => ⟨h.1, hkeep h.2⟩)
  · have h1 := hf.owns H.voc (fun k hk => own_own_ne H.voc H.own (by decide) k hk)
    exact hs.owns h1 (fun k hk e => own_blk_ne h1 hB3 (by decide) (e ▸ hk))
end
set_option maxRecDepth 20000 in
set_option maxHeartbeats 8000000 in
theorem own_any {B : Nat → Prop} {w : World} {dv pv : Value} {s : St} (HR : RS B w dv pv s) (hw : wfS s) :
    Calls Try.prog 21 #[.agg (stA dv pv s.next)] w fun e w' => ∃ dv' pv', e = .returned (.agg (stA dv' pv' s.next)) ∧ OS w.heap.size w' dv' pv' s ∧ Gr w w' := by
  obtain ⟨⟨A, ca, rfl⟩, A2, ca2, rfl⟩ := HR.form
  have HW := Lib.hid hw
  have HS := Lib.hid HR
  have HC := Lib.hid (fun wx (hg : Gr w wx) => cloneP_any (HR.voc.gr hg) hw.nv)
  have HB := Lib.hid ((Blk.new w TSt (stA (.slice A s.docs.length ca) (.slice A2 s.voc.length ca2) s.next)).alloc (.cells (stA (.slice none 0 0) (.slice none 0 0) 0) TSt))
  have HG := Lib.hid (((Fr.refl w NoneS).alloc (.cells (stA (.slice A s.docs.length ca) (.slice A2 s.voc.length ca2) s.next) TSt)).alloc (.cells (stA (.slice none 0 0) (.slice none 0 0) 0) TSt))
  have HB2 := Lib.hid (Blk.new (w.alloc (.cells (stA (.slice A s.docs.length ca) (.slice A2 s.voc.length ca2) s.next) TSt)) TSt (stA (.slice none 0 0) (.slice none 0 0) 0))
  have hsz : (w.alloc (.cells (stA (.slice A s.docs.length ca) (.slice A2 s.voc.length ca2) s.next) TSt)).heap.size = w.heap.size + 1 := by simp
  rw [hsz] at HB2
  clear hsz
  have hnd : (s.docs.length : Int) ≤ 1048000 := by have := hw.nd; omega
  clear HR hw
  obtain ⟨q, hq⟩ : ∃ q, w.heap.size = q := ⟨_, rfl⟩
  rw [hq] at HB HB2
  obtain ⟨p2, hp2⟩ : ∃ q', q + 1 = q' := ⟨_, rfl⟩
  rw [hp2] at HB2
  have Hq := Lib.hid (And.intro hq hp2)
  unfold stA
  go_enter Try.func21, Try.ntmps21
  go_upto_region 1 with (fail)
  clear hq hp2
  change Code.wp _ _ _ _ ((w.alloc (.cells (stA (.slice A s.docs.length ca) (.slice A2 s.voc.length ca2) s.next) TSt)).alloc (.cells (stA (.slice none 0 0) (.slice none 0 0) 0) TSt))
  generalize hx : World.alloc (World.alloc w _) _ = w1 at HG HB HB2 ⊢
  clear hx
  have c0 : w1.cell? ⟨q, 0, none⟩ = some (.slice A s.docs.length ca) := by rw [HB.out.cell]; rfl
  have c1 : w1.cell? ⟨q, 1, none⟩ = some (.int .u64 s.next) := by rw [HB.out.cell]; rfl
  have c2 : w1.cell? ⟨q, 2, none⟩ = some (.slice A2 s.voc.length ca2) := by rw [HB.out.cell]; rfl
  go_cut [3] (fun s3 wx => ∃ (p3 : Nat) (pv' : Value), s3 = .pointer (some ⟨p3, 0, none⟩) ∧ Hid (Ow w1 wx p3 (.slice none 0 0) pv' s.next [] [] s.voc))
  case first =>
    have Hkey := Lib.hid (show ∀ wx, Gr w1 wx → wx.cell? ⟨q, 1, none⟩ = some (.int .u64 s.next) ∧ wx.cell? ⟨q, 2, none⟩ = some (.slice A2 s.voc.length ca2) from fun wx hg => ⟨by rw [(HB.out.fr hg (fun h => h)).cell]; rfl, by rw [(HB.out.fr hg (fun h => h)).cell]; rfl⟩)
    have HD1 := Lib.hid ((Fr.refl w1 NoneS).drew)
    have HDa := Lib.hid (fun o => ((Fr.refl w1 NoneS).alloc o).drew)
    have Hset := Lib.hid (show ∀ (wx : World) (a b c : Value), Gr w1 wx → Gr w1 (((wx.setCell ⟨w1.heap.size, 0, none⟩ a).setCell ⟨w1.heap.size, 1, none⟩ b).setCell ⟨w1.heap.size, 2, none⟩ c) from fun wx a b c hg =>
      ((hg.setCell (p := ⟨w1.heap.size, 0, none⟩) (fun h => absurd h (Nat.lt_irrefl _)) a).setCell (p := ⟨w1.heap.size, 1, none⟩) (fun h => absurd h (Nat.lt_irrefl _)) b).setCell (p := ⟨w1.heap.size, 2, none⟩) (fun h => absurd h (Nat.lt_irrefl _)) c)
    clear c0 c1 c2
    go_region_held3 (fun wx => wx.cell? ⟨q, 1, none⟩ = some (.int .u64 s.next) ∧ wx.cell? ⟨q, 2, none⟩ = some (.slice A2 s.voc.length ca2))
      (first | with_reducible exact Hkey.out _ HD1.out | with_reducible exact Hkey.out _ (HDa.out _) | with_reducible exact Hkey.out _ HK4.out | with_reducible exact Hkey.out _ (HK4.out.alloc _) | with_reducible exact Hkey.out _ (Hset.out _ _ _ _ HK4.out))
      (first
        | (go_at_call 39
           (refine (HC.out _ (by first | exact HG.out.drew | exact (HG.out.alloc _).drew)).mono ?_)
           rintro e w4 ⟨v, rfl, ho, hg⟩
           obtain ⟨Ac, cc, rfl⟩ := own_formN ho
           have HO4 := Lib.hid ho
           have HG4 := Lib.hid hg
           have HK4 := Lib.hid (show Gr w1 w4 by first | exact HD1.out.trans hg (fun _ _ h => h) | exact (HDa.out _).trans hg (fun _ _ h => h))
           try (have hB4 : Blk w4 w1.heap.size TSt (stA (.slice none 0 0) (.slice none 0 0) 0) := (Blk.new w1.drew TSt (stA (.slice none 0 0) (.slice none 0 0) 0)).fr hg (fun h => h)
                have k0 : w4.cell? ⟨w1.heap.size, 0, none⟩ = some (.slice none 0 0) := by rw [hB4.cell]; rfl
                have k1 : w4.cell? ⟨w1.heap.size, 1, none⟩ = some (.int .u64 0) := by rw [hB4.cell]; rfl
                have k2 : w4.cell? ⟨w1.heap.size, 2, none⟩ = some (.slice none 0 0) := by rw [hB4.cell]; rfl
                have z0 := hB4.frozen 0
                have z1 := hB4.frozen 1
                have z2 := hB4.frozen 2
                have HB4 := Lib.hid hB4
                clear hB4)
           clear ho hg))
    all_goals (try go_wp2_with fail)
    all_goals go_meet
    · have hlo : w1.heap.size ≤ w4.heap.size := HK4.out.size
      exact ⟨_, _, rfl, ⟨HK4.out.alloc _, hlo, Blk.new w4 TSt _, World.ownsRow_nil _ _ _ _, trivial, ((Fr.refl w4 NoneS).alloc _).owns HO4.out (fun _ _ h => h)⟩⟩
    · have hset := (((HB4.out.set_ 0 (.slice none 0 0)).set_ 1 (.int .u64 s.next)).set_ 2 (.slice Ac s.voc.length cc))
      have hF : Fr w4 (((w4.setCell ⟨w1.heap.size, 0, none⟩ (.slice none 0 0)).setCell ⟨w1.heap.size, 1, none⟩ (.int .u64 s.next)).setCell ⟨w1.heap.size, 2, none⟩ (.slice Ac s.voc.length cc)) (fun k => k = w1.heap.size) :=
        (((Fr.refl w4 (fun k => k = w1.heap.size)).setCell (p := ⟨w1.heap.size, 0, none⟩) (fun _ => rfl) _).setCell (p := ⟨w1.heap.size, 1, none⟩) (fun _ => rfl) _).setCell (p := ⟨w1.heap.size, 2, none⟩) (fun _ => rfl) _
      exact ⟨_, _, rfl, ⟨Hset.out _ _ _ _ HK4.out, Nat.le_refl _, hset, World.ownsRow_nil _ _ _ _, trivial, own_base (hF.owns HO4.out (fun k hk e => own_blk_ne HO4.out HB4.out (by decide) (e ▸ hk))) (by simp)⟩⟩
  case rest =>
  obtain ⟨p3, pv', rfl, HO⟩ := hcut
  obtain ⟨i0, hi0, hz0, hz1, hz2⟩ := info_parts info_doc
  have e0 : wc.cell? ⟨q, 0, none⟩ = some (.slice A s.docs.length ca) := by rw [(HB.out.fr HO.out.gr (fun h => h)).cell]; rfl
  go_upto_region 3 with (fail)
  clear c0 c1 c2 e0
  go_wp2_with fail
  go_loopg [17] (s.docs.length + 1) (fun m s17 wr => ∃ (k : Nat) (ov : Value) (D : List (Int × Sv)), s17 = .int .i64 k ∧ Hid (k ≤ s.docs.length ∧ s.docs.length - k < m) ∧ Hid (Ow w1 wr p3 ov pv' s.next D (s.docs.take k) s.voc))
  case atStart => exact ⟨0, _, _, rfl, ⟨Nat.zero_le _, by omega⟩, HO.out⟩
  case round =>
    obtain ⟨k, ov, D, rfl, HK, HP⟩ := hrel
    have HRr := Lib.hid (HS.out.gr (HG.out.trans HP.out.gr (fun _ _ h => h)))
    by_cases hk : k < s.docs.length
    · obtain ⟨ba, oa, A3, c3, rfl, hba, d0, d1, hsl, hsb⟩ : ∃ b off A2 c2, A = some ⟨b, off, none⟩ ∧ b < wr.heap.size ∧ wr.cell? ⟨b, off + k * 2, none⟩ = some (.int .u64 (s.docs.getD k ⟨0, []⟩).id) ∧ wr.cell? ⟨b, off + k * 2 + 1, none⟩ = some (.slice A2 (s.docs.getD k ⟨0, []⟩).b.length c2) ∧
          SL encB wr (.slice A2 (s.docs.getD k ⟨0, []⟩).b.length c2) (s.docs.getD k ⟨0, []⟩).b ∧ SB B (.slice A2 (s.docs.getD k ⟨0, []⟩).b.length c2) (s.docs.getD k ⟨0, []⟩).b.length := by
        obtain ⟨D, hd, ha⟩ := HRr.out.ex
        exact doc_at hd ha hk
      have HSl := Lib.hid hsl
      have Hwd := Lib.hid (show wfD (s.docs.getD k ⟨0, []⟩) by rw [getD_get _ _ _ hk]; exact HW.out.docs _ (List.getElem_mem hk))
      have Htk := Lib.hid (show s.docs.take (k + 1) = s.docs.take k ++ [s.docs.getD k ⟨0, []⟩] by rw [getD_get _ _ _ hk]; exact List.take_succ_eq_append_getElem hk)
      have hki : (k : Int) < (s.docs.length : Int) := by omega
      have Hk := Lib.hid hk
      clear hsl hsb hba hk
      generalize s.docs.getD k ⟨0, []⟩ = dd at d0 d1 HSl Hwd Htk
      go_upto_region 5 with (fail)
      have HPa := Lib.hid (HP.out.any ((Fr.refl wr NoneS).alloc (.cells #[.int .u64 dd.id, .slice A3 dd.b.length c3] TDoc)))
      have HBa := Lib.hid (Blk.new wr TDoc #[.int .u64 dd.id, .slice A3 dd.b.length c3])
      have HCl := Lib.hid (cloneB_any (HSl.out.gr ((Fr.refl wr NoneS).alloc (.cells #[.int .u64 dd.id, .slice A3 dd.b.length c3] TDoc)).drew) (by have := Hwd.out.2.2; omega))
      generalize wr.heap.size = ob at HBa ⊢
      generalize hx : wr.alloc (.cells #[.int .u64 dd.id, .slice A3 dd.b.length c3] TDoc) = wa at HPa HBa HCl ⊢
      clear hx d0 d1 HP
      have hlk : (s.docs.take k).length = k := by rw [List.length_take]; have := Hk.out; omega
      obtain ⟨dk, hdk⟩ : ∃ dk, s.docs.take k = dk := ⟨_, rfl⟩
      rw [hdk] at hlk Htk HPa
      have Hlk := Lib.hid hlk
      clear hlk hdk
      have g0 : wa.cell? ⟨ob, 0, none⟩ = some (.int .u64 dd.id) := by rw [HBa.out.cell]; rfl
      have g1 : wa.cell? ⟨ob, 1, none⟩ = some (.slice A3 dd.b.length c3) := by rw [HBa.out.cell]; rfl
      have e0 : wa.cell? ⟨p3, 0, none⟩ = some ov := by rw [HPa.out.blk.cell]; rfl
      go_region_law (first
          | (go_simp; go_at_call 25; refine HCl.out.mono ?_; rintro e w5 ⟨v, rfl, ho, hg⟩; obtain ⟨Ac, cc, rfl⟩ := own_formN ho.own; have HO5 := Lib.hid ho; have HP5 := Lib.hid (HPa.out.any (show Gr wa w5 from (Fr.refl wa NoneS).drew.trans hg (fun _ _ h => h))); have e5 : w5.cell? ⟨p3, 0, none⟩ = some ov := by rw [HP5.out.blk.cell]; rfl
             have l5 := HP5.out.blk.lt
             have f5 : w5.cell? ⟨ob, 0, none⟩ = some (.int .u64 dd.id) := by rw [(HBa.out.fr (show Gr wa w5 from (Fr.refl wa NoneS).drew.trans hg (fun _ _ h => h)) (fun h => h)).cell]; rfl
             clear ho hg)
          | (refine step_append_sl _ encD rfl _ _ TDocs rfl w1.heap.size TDoc i0 (.agg #[.int .u64 0, .slice none 0 0]) 2 32 Try.underlying23 hi0 hz0 hz1 hz2 rfl (by decide) ov dk.length (D.flatMap encD) (by rfl) (by exact (HP5.out.any ((Fr.refl w5 NoneS).alloc _)).own) (.slice (some ⟨w5.heap.size, 0, none⟩) 1 1) [(dd.id, ⟨Ac, dd.b.length, cc⟩)] (by rfl) (by exact sl_one (enc := encD) w5 (dd.id, ⟨Ac, dd.b.length, cc⟩) #[.int .u64 dd.id, .slice Ac dd.b.length cc] rfl TDoc) (fun _ => rfl) encD_one (by have := Hlk.out; have := Hk.out; unfold maxLen; simp; omega) (by have := Hlk.out; have := Hk.out; simp; omega) (by exact (HP5.out.any ((Fr.refl w5 NoneS).alloc _)).gr.size) ?_
             intro v7 w7 ho hf hat
             obtain ⟨Av, cv, rfl⟩ := own_formN ho
             have HO7 := Lib.hid ho
             have HF7 := Lib.hid hf
             have hb7 : Blk w7 p3 TSt (stA ov pv' s.next) := (HP5.out.any ((Fr.refl w5 NoneS).alloc _)).blk.fr hf (own_blk_ne HP5.out.own HP5.out.blk (by decide))
             have e7 : w7.cell? ⟨p3, 0, none⟩ = some ov := by rw [hb7.cell]; rfl
             have z7 := hb7.frozen 0
             clear ho hf hat hb7))
      all_goals (try go_wp2_with fail)
      all_goals go_roundg (gk - 1)
      all_goals first
        | (case measure => have := HK.out; have := Hk.out; omega)
        | skip
      all_goals
        have hlo := HP5.out.gr.size
        have hbs : w1.heap.size ≤ wa.drew.heap.size := HPa.out.gr.size
        exact ⟨k + 1, _, D ++ [(dd.id, ⟨Ac, dd.b.length, cc⟩)], by go_num, ⟨Hk.out, by have := HK.out; have := Hk.out; omega⟩, Lib.hid (by
          rw [Htk.out]
          exact Ow.push (HP5.out.any ((Fr.refl w5 NoneS).alloc _)) hbs (HO5.out.gr ((Fr.refl w5 NoneS).alloc _)) HF7.out HO7.out)⟩
    · obtain rfl : k = s.docs.length := by have := HK.out; omega
      have hP := HP.out
      rw [List.take_of_length_le (Nat.le_refl _)] at hP
      have HPf := Lib.hid hP
      clear hP HP
      obtain ⟨Av, cv, rfl⟩ := own_formN HPf.out.own
      obtain ⟨Ap, cp, rfl⟩ := own_formN HPf.out.voc
      have e0 : wr.cell? ⟨p3, 0, none⟩ = some (.slice Av s.docs.length cv) := by rw [HPf.out.blk.cell]; rfl
      have e1 : wr.cell? ⟨p3, 1, none⟩ = some (.int .u64 s.next) := by rw [HPf.out.blk.cell]; rfl
      have e2 : wr.cell? ⟨p3, 2, none⟩ = some (.slice Ap s.voc.length cp) := by rw [HPf.out.blk.cell]; rfl
      have HBr := Lib.hid (HB2.out.fr HPf.out.gr (fun h => h))
      have k0 : wr.cell? ⟨p2, 0, none⟩ = some (.slice none 0 0) := by rw [HBr.out.cell]; rfl
      have k1 : wr.cell? ⟨p2, 1, none⟩ = some (.int .u64 0) := by rw [HBr.out.cell]; rfl
      have k2 : wr.cell? ⟨p2, 2, none⟩ = some (.slice none 0 0) := by rw [HBr.out.cell]; rfl
      have z0 := HBr.out.frozen 0
      have z1 := HBr.out.frozen 1
      have z2 := HBr.out.frozen 2
      go_wp2_with fail
      have hset := (((HBr.out.set_ 0 (.slice Av s.docs.length cv)).set_ 1 (.int .u64 s.next)).set_ 2 (.slice Ap s.voc.length cp))
      have hF : Fr wr (((wr.setCell ⟨p2, 0, none⟩ (.slice Av s.docs.length cv)).setCell ⟨p2, 1, none⟩ (.int .u64 s.next)).setCell ⟨p2, 2, none⟩ (.slice Ap s.voc.length cp)) (fun k => k = p2) :=
        (((Fr.refl wr (fun k => k = p2)).setCell (p := ⟨p2, 0, none⟩) (fun _ => rfl) _).setCell (p := ⟨p2, 1, none⟩) (fun _ => rfl) _).setCell (p := ⟨p2, 2, none⟩) (fun _ => rfl) _
      refine bodyPost_ret (results_cell_row Try.results21 _ _ p2 _ (stA (.slice Av s.docs.length cv) (.slice Ap s.voc.length cp) s.next) (0, 0) _ rfl hset Try.underlying29 rfl (by kernel_rfl)) rfl ?_
      have hos : OS w1.heap.size wr (.slice Av s.docs.length cv) (.slice Ap s.voc.length cp) s := ⟨⟨D, HPf.out.own, HPf.out.al⟩, HPf.out.voc⟩
      exact ⟨_, _, rfl, (hos.far HBr.out (by decide) (by decide) (by decide) hF).base HG.out.size, (HG.out.trans HPf.out.gr (fun _ _ h => h)).trans hF (fun i hi e => by have := Hq.out; omega)⟩
end Mod
end Go.Proofs.Ytlodbhlidgepfaa
