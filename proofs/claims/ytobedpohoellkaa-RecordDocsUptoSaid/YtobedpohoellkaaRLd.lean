/- law 13: RecordDocs. -/
import Derived.Test.YtobedpohoellkaaRRe
import Derived.Test.YtobedpohoellkaaELq
import Derived.Test.YtobedpohoellkaaFsame
set_option linter.unusedVariables false
set_option linter.unusedSimpArgs false
namespace Go.Proofs.Ytobedpohoellkaa
open Go.RowKit
open Voc Leb Bpe
namespace Rec
attribute [local go_sem ↓] loadAt_row35 loadVar_row35 loadCells_row35
set_option maxRecDepth 20000 in
set_option maxHeartbeats 4000000 in
theorem RecordDocs_walk (w : World) (s0 : Value) (x0 : List Pc) (sl0 : SL encP w s0 x0) (wf0 : ∀ q ∈ x0, wfP q) (n0 : x0.length ≤ 1048576) (t1 : Value) (r1 : Rc) (dl1 : r1.d.length = 32) (db1 : ∀ x ∈ r1.d, (Lit.int .u8 x).wf = true) (rv1 : (Lit.int .u64 r1.v).wf = true) (rn1 : (Lit.int .i64 r1.n).wf = true) (sl1 : SL encI w t1 r1.t) (wf1 : ∀ x ∈ r1.t, (Lit.int .i64 x).wf = true) (n1 : r1.t.length ≤ 1048576) :
    Calls Try.prog 9 #[.agg #[s0], .agg (rcA r1 t1)] w fun e w' => e = .returned (.bool true) ∧ Gr w w' := by
  obtain ⟨A, cap, rfl⟩ := SL.form sl0
  obtain ⟨A2, cap2, rfl⟩ := SL.form sl1
  have HB := Lib.hid ((Blk.new w 41 #[.slice A x0.length cap]).alloc (.cells (rcA r1 (.slice A2 r1.t.length cap2)) TRc))
  have HG := Lib.hid (((Fr.refl w NoneS).alloc (.cells #[.slice A x0.length cap] 41)).alloc (.cells (rcA r1 (.slice A2 r1.t.length cap2)) TRc))
  have HR := Lib.hid (Blk.new (w.alloc (.cells #[.slice A x0.length cap] 41)) TRc (rcA r1 (.slice A2 r1.t.length cap2)))
  have hsz : (w.alloc (.cells #[.slice A x0.length cap] 41)).heap.size = w.heap.size + 1 := by simp
  rw [hsz] at HR
  clear hsz
  have HL := Lib.hid (fun wx (hg : Gr w wx) => long_any (sl0.gr hg) n0 r1.t.length n1)
  have HD1 := Lib.hid (fun wx (hg : Gr w wx) => recDoc_any (sl0.gr hg) wf0 n0 dl1 (sl1.gr hg) n1)
  have HD2 := Lib.hid (fun wx (hg : Gr w wx) => rrecDoc_any (sl0.gr hg) wf0 n0 dl1 (sl1.gr hg) n1)
  have HR1 := Lib.hid (fun wx (hg : Gr w wx) => recRight_any (sl0.gr hg) wf0 n0 dl1 (sl1.gr hg) n1)
  have HR2 := Lib.hid (fun wx (hg : Gr w wx) => rrecRight_any (sl0.gr hg) wf0 n0 dl1 (sl1.gr hg) n1)
  have Hd := Lib.hid dl1
  have Hdl := Lib.hid (doc_len x0 r1)
  obtain ⟨⟨D, E⟩, hE⟩ : ∃ y, docE x0 r1 = y := ⟨_, rfl⟩
  rw [hE] at HD1 HD2 Hdl
  simp only at HD1 HD2 Hdl
  obtain ⟨br, hbr⟩ : ∃ b, rightE x0 r1 = b := ⟨_, rfl⟩
  rw [hbr] at HR1 HR2
  have ht1 : (r1.t.length : Int) ≤ 1048576 := by omega
  clear sl0 sl1 wf0 wf1 dl1 hE hbr
  obtain ⟨b, hb⟩ : ∃ b, decide (500 < x0.length ∨ (300 < r1.t.length ∧ r1.t.length ≤ 4096)) = b := ⟨_, rfl⟩
  rw [hb] at HL
  clear hb
  obtain ⟨q1, hq1⟩ : ∃ q, w.heap.size = q := ⟨_, rfl⟩
  rw [hq1] at HB HR
  obtain ⟨q, hq⟩ : ∃ q, q1 + 1 = q := ⟨_, rfl⟩
  rw [hq] at HR
  go_enter Try.func9, Try.ntmps9
  go_upto_region 1 with (fail)
  clear hq hq1
  generalize hx : World.alloc (World.alloc w _) _ = wa at HG HB HR ⊢
  clear hx
  have HLa := Lib.hid (HL.out wa HG.out)
  have c0 : wa.cell? ⟨q1, 0, none⟩ = some (.slice A x0.length cap) := by rw [HB.out.cell]; rfl
  have f34 : wa.cell? ⟨q, 34, none⟩ = some (.slice A2 r1.t.length cap2) := by rw [HR.out.cell]; exact rcA_t _ Hd.out
  cases b with
  | true =>
    go_wp2_with (first
      | (go_at_call 18; refine HLa.out.mono ?_; rintro e w2 ⟨rfl, hg⟩; have HG2 := Lib.hid (HG.out.trans hg (fun _ _ h => h)); clear hg)
      | (go_at_call 14; refine (works_any _).mono ?_; rintro e wz ⟨rfl, hg⟩; have HGz := Lib.hid hg; clear hg))
    go_ret
    exact ⟨rfl, HG2.out.trans HGz.out (fun _ _ h => h)⟩
  | false =>
  by_cases h300 : 300 < r1.n
  · have h3 : decide (300 < r1.n) = true := decide_eq_true h300
    clear h300
    go_wp2_with (first
      | (go_at_call 18; refine HLa.out.mono ?_; rintro e w2 ⟨rfl, hg⟩; have HG2 := Lib.hid (HG.out.trans hg (fun _ _ h => h)); have f33 : w2.cell? ⟨q, 33, none⟩ = some (.int .i64 r1.n) := (by rw [(HR.out.fr hg (fun h => h)).cell]; exact rcA_n _ Hd.out); clear hg)
      | (go_at_call 14; refine (works_any _).mono ?_; rintro e wz ⟨rfl, hg⟩; have HGz := Lib.hid hg; clear hg))
    go_ret
    exact ⟨rfl, HG2.out.trans HGz.out (fun _ _ h => h)⟩
  have h3 : decide (300 < r1.n) = false := decide_eq_false h300
  clear h300
  go_upto_region 3 with (go_at_call 18; refine HLa.out.mono ?_; rintro e w2 ⟨rfl, hg⟩; have HG2 := Lib.hid (HG.out.trans hg (fun _ _ h => h)); have HR2x := Lib.hid (HR.out.fr hg (fun h => h)); have HB2x := Lib.hid (HB.out.fr hg (fun h => h)); have f33 : w2.cell? ⟨q, 33, none⟩ = some (.int .i64 r1.n) := (by rw [HR2x.out.cell]; exact rcA_n _ Hd.out); clear hg)
  clear c0 f34 f33 h3
  have c2 : w2.cell? ⟨q1, 0, none⟩ = some (.slice A x0.length cap) := by rw [HB2x.out.cell]; rfl
  have l2 := row35_rec HR2x.out Hd.out
  go_upto_region 4 with (go_at_call 26; refine (HD1.out _ HG2.out).mono ?_; rintro e w3 ⟨bv, rfl, ho, hg⟩; have HO3 := Lib.hid ho.sl; have HG3 := Lib.hid (HG2.out.trans hg (fun _ _ h => h)); have HR3 := Lib.hid (HR2x.out.fr hg (fun h => h)); have HB3 := Lib.hid (HB2x.out.fr hg (fun h => h)); clear ho hg)
  clear c2 l2
  have c3 : w3.cell? ⟨q1, 0, none⟩ = some (.slice A x0.length cap) := by rw [HB3.out.cell]; rfl
  have l3 := row35_rec HR3.out Hd.out
  go_upto_region 5 with (go_at_call 27; refine (HD2.out _ HG3.out).mono ?_; rintro e w4 ⟨cv, rfl, ho, hg⟩; have HP4 := Lib.hid ho.sl; have HO4 := Lib.hid (HO3.out.gr hg); have HG4 := Lib.hid (HG3.out.trans hg (fun _ _ h => h)); have HR4 := Lib.hid (HR3.out.fr hg (fun h => h)); have HB4 := Lib.hid (HB3.out.fr hg (fun h => h)); clear ho hg)
  clear c3 l3
  have c4 : w4.cell? ⟨q1, 0, none⟩ = some (.slice A x0.length cap) := by rw [HB4.out.cell]; rfl
  have l4 := row35_rec HR4.out Hd.out
  have Hc := Lib.hid (fun wx (hg : Gr w4 wx) => show wx.cell? ⟨q1, 0, none⟩ = some (.slice A x0.length cap) from by rw [(HB4.out.fr hg (fun h => h)).cell]; rfl)
  have Hl := Lib.hid (fun wx (hg : Gr w4 wx) => row35_rec (HR4.out.fr hg (fun h => h)) Hd.out)
  have HSm := Lib.hid (fun wx (hg : Gr w4 wx) => same_any _ _ D D wx (HO4.out.gr hg) (HP4.out.gr hg) (by have := Hdl.out; omega))
  rw [show decide (D = D) = true from decide_eq_true rfl] at HSm
  cases br <;> (
    go_region_held3 (fun wx => wx.cell? ⟨q1, 0, none⟩ = some (.slice A x0.length cap) ∧ row35 wx q 0 = some (rcA r1 (.slice A2 r1.t.length cap2)))
      (first | with_reducible exact ⟨c5, l5⟩ | exact ⟨c4, l4⟩)
      (first
        | (go_at_call 13
           refine (HSm.out _ ((Fr.refl w4 NoneS).drew)).mono ?_
           rintro e w5 ⟨rfl, hd⟩
           have HD5 := Lib.hid (show Gr w4 w5 from ((Fr.refl w4 NoneS).drew).trans hd.gr (fun _ _ h => h))
           have c5 := Hc.out _ HD5.out
           have l5 := Hl.out _ HD5.out
           clear hd)
        | (go_at_call 28
           refine (HR1.out _ (HG4.out.trans HD5.out (fun _ _ h => h))).mono ?_
           rintro e w6 ⟨rfl, hg⟩
           have HD6 := Lib.hid (HD5.out.trans hg (fun _ _ h => h))
           have c5 := Hc.out _ HD6.out
           have l5 := Hl.out _ HD6.out
           clear hg)
        | (go_at_call 29
           refine (HR2.out _ (HG4.out.trans HD6.out (fun _ _ h => h))).mono ?_
           rintro e w7 ⟨rfl, hg⟩
           have HD7 := Lib.hid (HD6.out.trans hg (fun _ _ h => h))
           have c5 := Hc.out _ HD7.out
           have l5 := Hl.out _ HD7.out
           clear hg)
        | (go_at_call 14
           refine (works_any _).mono ?_
           rintro e w8 ⟨rfl, hg⟩
           have HD8 := Lib.hid (HD7.out.trans hg (fun _ _ h => h))
           have c5 := Hc.out _ HD8.out
           have l5 := Hl.out _ HD8.out
           clear hg))
    go_wp2_with fail
    go_ret
    exact ⟨rfl, HG4.out.trans HD8.out (fun _ _ h => h)⟩)
end Rec
end Go.Proofs.Ytobedpohoellkaa
