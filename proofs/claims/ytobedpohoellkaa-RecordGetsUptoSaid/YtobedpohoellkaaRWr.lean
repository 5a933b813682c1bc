/- the reference: Record (the same one?). -/
import Derived.Test.YtobedpohoellkaaRWe
import Derived.Test.YtobedpohoellkaaFints
set_option linter.unusedVariables false
set_option linter.unusedSimpArgs false
namespace Go.Proofs.Ytobedpohoellkaa
open Go.RowKit
open Voc Leb Bpe
namespace Rec
def recEq (a b : Rc) : Bool := decide (a.d = b.d) && (a.v == b.v && (a.n == b.n && decide (a.t = b.t)))
theorem recEq_of {a b : Rc} : recEq a b = true ↔ a = b := by
  obtain ⟨d, v, n, t⟩ := a
  obtain ⟨d', v', n', t'⟩ := b
  unfold recEq
  simp
theorem recEq_refl (a : Rc) : recEq a a = true := recEq_of.2 rfl
set_option maxRecDepth 20000 in
set_option maxHeartbeats 4000000 in
theorem record_any {w : World} {ra rb : Rc} {ta tb : Value} (da : ra.d.length = 32) (db : rb.d.length = 32) (ha : SL encI w ta ra.t) (hb : SL encI w tb rb.t) (hl : ra.t.length ≤ 1048576) :
    Calls Try.prog 17 #[.agg (rcA ra ta), .agg (rcA rb tb)] w fun e w' => e = .returned (.bool (recEq ra rb)) ∧ Gr w w' := by
  obtain ⟨A, cap, rfl⟩ := SL.form ha
  obtain ⟨A2, cap2, rfl⟩ := SL.form hb
  have HB := Lib.hid ((Blk.new w TRc (rcA ra (.slice A ra.t.length cap))).alloc (.cells (rcA rb (.slice A2 rb.t.length cap2)) TRc))
  have HG := Lib.hid (((Fr.refl w NoneS).alloc (.cells (rcA ra (.slice A ra.t.length cap)) TRc)).alloc (.cells (rcA rb (.slice A2 rb.t.length cap2)) TRc))
  have HR := Lib.hid (Blk.new (w.alloc (.cells (rcA ra (.slice A ra.t.length cap)) TRc)) TRc (rcA rb (.slice A2 rb.t.length cap2)))
  have hsz : (w.alloc (.cells (rcA ra (.slice A ra.t.length cap)) TRc)).heap.size = w.heap.size + 1 := by simp
  rw [hsz] at HR
  clear hsz
  have HE := fun wx => eql_dig ra.d rb.d da db wx
  have HI := Lib.hid (fun wx (hg : Gr w wx) => Ints_any _ _ ra.t rb.t wx (ha.gr hg) (hb.gr hg) (by omega))
  have HD := Lib.hid (And.intro da db)
  obtain ⟨R, hR⟩ : ∃ R, recEq ra rb = R := ⟨_, rfl⟩
  rw [hR]
  have HRe := Lib.hid hR
  clear ha hb hl hR da db
  obtain ⟨q1, hq1⟩ : ∃ q, w.heap.size = q := ⟨_, rfl⟩
  rw [hq1] at HB HR
  obtain ⟨q, hq⟩ : ∃ q, q1 + 1 = q := ⟨_, rfl⟩
  rw [hq] at HR
  go_enter Try.func17, Try.ntmps17
  go_upto_region 1 with (fail)
  clear hq hq1
  generalize hx : World.alloc (World.alloc w _) _ = wa at HG HB HR ⊢
  clear hx
  have Hra := Lib.hid (show wa.rangeAt q1 0 (ra.d.map (Value.int .u8)) from fun j v hj => by
    have hi := (List.getElem?_eq_some_iff.1 hj).1
    rw [List.length_map] at hi
    rw [Nat.zero_add, HB.out.cell, rcA_d _ hi, ← List.getElem?_map]; exact hj)
  have Hrb := Lib.hid (show wa.rangeAt q 0 (rb.d.map (Value.int .u8)) from fun j v hj => by
    have hi := (List.getElem?_eq_some_iff.1 hj).1
    rw [List.length_map] at hi
    rw [Nat.zero_add, HR.out.cell, rcA_d _ hi, ← List.getElem?_map]; exact hj)
  have a32 : wa.cell? ⟨q1, 32, none⟩ = some (.int .u64 ra.v) := by rw [HB.out.cell]; exact rcA_v _ HD.out.1
  have a33 : wa.cell? ⟨q1, 33, none⟩ = some (.int .i64 ra.n) := by rw [HB.out.cell]; exact rcA_n _ HD.out.1
  have a34 : wa.cell? ⟨q1, 34, none⟩ = some (.slice A ra.t.length cap) := by rw [HB.out.cell]; exact rcA_t _ HD.out.1
  have b32 : wa.cell? ⟨q, 32, none⟩ = some (.int .u64 rb.v) := by rw [HR.out.cell]; exact rcA_v _ HD.out.2
  have b33 : wa.cell? ⟨q, 33, none⟩ = some (.int .i64 rb.n) := by rw [HR.out.cell]; exact rcA_n _ HD.out.2
  have b34 : wa.cell? ⟨q, 34, none⟩ = some (.slice A2 rb.t.length cap2) := by rw [HR.out.cell]; exact rcA_t _ HD.out.2
  have hR := HRe.out
  unfold recEq at hR
  have HI2 := Lib.hid (HI.out wa HG.out)
  generalize decide (ra.d = rb.d) = bd at HE hR
  generalize decide (ra.t = rb.t) = bt at HI2 hR
  obtain ⟨bv, hbv⟩ : ∃ b, (ra.v == rb.v) = b := ⟨_, rfl⟩
  obtain ⟨bn, hbn⟩ : ∃ b, (ra.n == rb.n) = b := ⟨_, rfl⟩
  rw [hbv, hbn] at hR
  have HR2 := Lib.hid hR
  clear hR HRe
  have hd1 : (ra.d.map (Value.int .u8)).length = 32 := by rw [List.length_map]; exact HD.out.1
  have hd2 : (rb.d.map (Value.int .u8)).length = 32 := by rw [List.length_map]; exact HD.out.2
  have Hd1 := Lib.hid hd1
  have Hd2 := Lib.hid hd2
  clear hd1 hd2
  generalize ra.d.map (Value.int .u8) = la at HE Hra Hd1
  generalize rb.d.map (Value.int .u8) = lb at HE Hrb Hd2
  cases bd <;> cases bv <;> cases bn <;> cases bt <;> (
    go_wp2_with (first
      | refine wpList_load_mid rfl _ _ rfl q1 0 rfl la _ Hra.out Try.underlying23 rfl (by rw [Hd1.out]; kernel_rfl) ?_
      | refine wpList_load_mid rfl _ _ rfl q 0 rfl lb _ Hrb.out Try.underlying23 rfl (by rw [Hd2.out]; kernel_rfl) ?_
      | (go_at_call 40; refine HI2.out.mono ?_; rintro e w5 ⟨rfl, hd⟩; have HD5 := Lib.hid hd.gr; clear hd)
      | fail)
    go_ret
    rw [← HR2.out]
    first
      | exact ⟨rfl, HG.out.trans HD5.out (fun _ _ h => h)⟩
      | exact ⟨rfl, HG.out⟩)
end Rec
end Go.Proofs.Ytobedpohoellkaa
