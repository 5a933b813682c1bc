/- law 13: RecordPuts. -/
import Derived.Test.YtobedpohoellkaaRWk
import Derived.Test.YtobedpohoellkaaRRb
import Derived.Test.YtobedpohoellkaaFsame
set_option linter.unusedVariables false
set_option linter.unusedSimpArgs false
namespace Go.Proofs.Ytobedpohoellkaa
open Go.RowKit
open Voc Leb Bpe
namespace Rec
theorem u64_in {x : Int} (h : (Lit.int .u64 x).wf = true) : 0 ≤ x ∧ x < 18446744073709551616 := by
  simp [Lit.wf, IntKind.min, IntKind.max, IntKind.signed, IntKind.bits] at h
  omega
attribute [local go_sem ↓] loadAt_row35 loadVar_row35 loadCells_row35
set_option maxRecDepth 20000 in
set_option maxHeartbeats 4000000 in
theorem RecordPuts_walk (w : World) (t0 : Value) (r0 : Rc) (dl0 : r0.d.length = 32) (db0 : ∀ x ∈ r0.d, (Lit.int .u8 x).wf = true) (rv0 : (Lit.int .u64 r0.v).wf = true) (rn0 : (Lit.int .i64 r0.n).wf = true) (sl0 : SL encI w t0 r0.t) (wf0 : ∀ x ∈ r0.t, (Lit.int .i64 x).wf = true) (n0 : r0.t.length ≤ 1048576) :
    Calls Try.prog 3 #[.agg (rcA r0 t0)] w fun e w' => e = .returned (.bool true) ∧ Gr w w' := by
  obtain ⟨A, cap, rfl⟩ := SL.form sl0
  have HG := Lib.hid ((Fr.refl w NoneS).alloc (.cells (rcA r0 (.slice A r0.t.length cap)) TRc))
  have HB := Lib.hid (Blk.new w TRc (rcA r0 (.slice A r0.t.length cap)))
  have HA := Lib.hid (fun wx (hg : Gr w wx) => recPut_any dl0 (u64_in rv0) (sl0.gr hg) n0)
  have HR := Lib.hid (fun wx (hg : Gr w wx) => rrecPut_any dl0 (u64_in rv0) (sl0.gr hg) n0)
  have Hd := Lib.hid dl0
  have Hl := Lib.hid (putR_len r0 dl0)
  obtain ⟨⟨b, E⟩, hb⟩ : ∃ y, putR r0 = y := ⟨_, rfl⟩
  rw [hb] at HA HR Hl
  simp only at HA HR Hl
  clear sl0 dl0 rv0 hb n0
  obtain ⟨q, hq⟩ : ∃ q, w.heap.size = q := ⟨_, rfl⟩
  rw [hq] at HB
  go_enter Try.func3, Try.ntmps3
  go_upto_region 1 with (fail)
  clear hq
  generalize hx : World.alloc w _ = wa at HG HB ⊢
  clear hx
  have l0 := row35_rec HB.out Hd.out
  go_upto_region 2 with (go_at_call 11; refine (HA.out _ HG.out).mono ?_; rintro e w2 ⟨bv, rfl, ho, hg⟩; have HO2 := Lib.hid ho.sl; have HG2 := Lib.hid (HG.out.trans hg (fun _ _ h => h)); have HB2 := Lib.hid (HB.out.fr hg (fun h => h)); clear ho hg)
  have l2 := row35_rec HB2.out Hd.out
  go_upto_region 3 with (go_at_call 12; refine (HR.out _ HG2.out).mono ?_; rintro e w3 ⟨cv, rfl, ho, hg⟩; have HP3 := Lib.hid ho.sl; have HO3 := Lib.hid (HO2.out.gr hg); have HG3 := Lib.hid (HG2.out.trans hg (fun _ _ h => h)); clear ho hg)
  have HSm := Lib.hid (same_any _ _ b b w3 HO3.out HP3.out (by have := Hl.out; omega))
  rw [show decide (b = b) = true from decide_eq_true rfl] at HSm
  clear l0 l2
  go_wp2_with (first
    | (go_at_call 13; refine HSm.out.mono ?_; rintro e w5 ⟨rfl, hd⟩; have HG5 := Lib.hid (HG3.out.trans hd.gr (fun _ _ h => h)); clear hd)
    | (go_at_call 14; refine (works_any _).mono ?_; rintro e wz ⟨rfl, hg⟩; have HGz := Lib.hid hg; clear hg))
  go_ret
  exact ⟨rfl, HG5.out.trans HGz.out (fun _ _ h => h)⟩
end Rec
end Go.Proofs.Ytobedpohoellkaa
