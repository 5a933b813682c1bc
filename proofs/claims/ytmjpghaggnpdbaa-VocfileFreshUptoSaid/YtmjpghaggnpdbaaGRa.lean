/- the document's vocfile: the reader. -/
import Derived.Test.YtmjpghaggnpdbaaGWe
import Derived.Test.YtmjpghaggnpdbaaBWa
set_option linter.unusedVariables false
set_option linter.unusedSimpArgs false
namespace Go.Proofs.Ytmjpghaggnpdbaa
open Go.RowKit
open Voc Leb Crc
namespace Vf
/-- the document's reader: these bytes, here, what is wrong, where -/
def Rq (w : World) (p : Nat) (bv : Value) (a : Int) (E : Int) (x : Int) : Prop := Blk w p 60 #[bv, .int .i64 a, .int .i64 E, .int .i64 x]
/-- nothing is wrong -/
def Gd (w : World) (p : Nat) (bv : Value) (a : Nat) : Prop := Rq w p bv (a : Int) 0 0
/-- something is wrong -/
def Bd (w : World) (p : Nat) (bv : Value) (E : Int) (x : Nat) : Prop := E ≠ 0 ∧ ∃ a, Rq w p bv a E (x : Int)
theorem Rq.fr {w w' : World} {p : Nat} {bv : Value} {a E x : Int} {S : Nat → Prop} (h : Rq w p bv a E x) (hf : Fr w w' S) (hn : ¬ S p) : Rq w' p bv a E x := Blk.fr h hf hn
theorem Bd.fr {w w' : World} {p : Nat} {bv : Value} {E : Int} {x : Nat} {S : Nat → Prop} (h : Bd w p bv E x) (hf : Fr w w' S) (hn : ¬ S p) : Bd w' p bv E x := ⟨h.1, by obtain ⟨a, h2⟩ := h.2; exact ⟨a, h2.fr hf hn⟩⟩
theorem rq_ne {w : World} {p b o : Nat} {A : Option Addr} {n m : Nat} {a E x c : Int} (h : Rq w p (.slice A n m) a E x) (hc : w.cell? ⟨b, o, none⟩ = some (.int .u8 c)) : b ≠ p := by
  intro e
  subst e
  rw [Blk.cell h] at hc
  match o with
  | 0 => simp at hc
  | 1 => simp at hc
  | 2 => simp at hc
  | 3 => simp at hc
  | k + 4 => simp at hc
theorem sl_rq {w w' : World} {p : Nat} {v : Value} {bs : List Int} {a E x : Int} (hs : SL encB w v bs) (h : Rq w p v a E x) (hf : Fr w w' (fun k => k = p)) : SL encB w' v bs := by
  obtain ⟨A, cap, rfl, hc, hr⟩ := hs
  refine ⟨A, cap, rfl, hc, fun h0 => ?_⟩
  obtain ⟨b, off, rfl, hb, hcell⟩ := hr h0
  have hne : b ≠ p := by
    obtain ⟨c, r, rfl⟩ : ∃ c r, bs = c :: r := by
      cases bs with
      | nil => simp at h0
      | cons c r => exact ⟨c, r, rfl⟩
    exact rq_ne h (hcell 0 (.int .u8 c) rfl)
  exact ⟨b, off, rfl, Nat.lt_of_lt_of_le hb hf.size, fun i u hu => (hf.cell (p := ⟨b, off + i, none⟩) hb hne).trans (hcell i u hu)⟩
/-- what a reading answers, and what it leaves -/
def RQ {α : Type} (V : α → Value) (Z : Value → Prop) (w : World) (p : Nat) (bv : Value) (r : R α) (e : Ending) (w' : World) : Prop :=
  match r with
  | .bad E x => ∃ u, e = .returned u ∧ Z u ∧ Fr w w' (fun k => k = p) ∧ Bd w' p bv E x
  | .ok c a => e = .returned (V c) ∧ Fr w w' (fun k => k = p) ∧ Gd w' p bv a
theorem wrong_any {w : World} {p : Nat} {bv : Value} {a : Int} (H : Rq w p bv a 0 0) (E x : Int) :
    Calls Try.prog 45 #[.pointer (some ⟨p, 0, none⟩), .int .i64 E, .int .i64 x] w fun e w' => e = .returned (.tuple #[]) ∧ Rq w' p bv a E x ∧ Fr w w' (fun k => k = p) := by
  have H1 := Lib.hid H
  have c2 : w.cell? ⟨p, 2, none⟩ = some (.int .i64 0) := by rw [Blk.cell H]; rfl
  have c3 : w.cell? ⟨p, 3, none⟩ = some (.int .i64 0) := by rw [Blk.cell H]; rfl
  have z2 : w.frozen? ⟨p, 2, none⟩ = false := Blk.frozen H 2
  have z3 : w.frozen? ⟨p, 3, none⟩ = false := Blk.frozen H 3
  clear H
  go_enter Try.func45, Try.ntmps45
  go_wp2_with fail
  refine ⟨rfl, .tuple #[], by kernel_rfl, rfl, ?_, ?_⟩
  · exact (Blk.set_ H1.out 2 (.int .i64 E)).set_ 3 (.int .i64 x)
  · exact ((Fr.refl w (fun k => k = p)).setCell (p := ⟨p, 2, none⟩) (fun _ => rfl) _).setCell (p := ⟨p, 3, none⟩) (fun _ => rfl) _
theorem wrong_bad {w : World} {p : Nat} {bv : Value} {a E0 x0 : Int} (H : Rq w p bv a E0 x0) (h0 : E0 ≠ 0) (E x : Int) :
    Calls Try.prog 45 #[.pointer (some ⟨p, 0, none⟩), .int .i64 E, .int .i64 x] w fun e w' => e = .returned (.tuple #[]) ∧ w = w' := by
  have c2 : w.cell? ⟨p, 2, none⟩ = some (.int .i64 E0) := by rw [Blk.cell H]; rfl
  have e0 : (E0 == 0) = false := by simpa using h0
  clear H h0
  go_enter Try.func45, Try.ntmps45
  go_wp2_with fail
  exact ⟨rfl, .tuple #[], by kernel_rfl, rfl, rfl⟩
theorem byte_bad {w : World} {p : Nat} {bv : Value} {E : Int} {x : Nat} (H : Bd w p bv E x) :
    Calls Try.prog 46 #[.pointer (some ⟨p, 0, none⟩)] w fun e w' => e = .returned (.int .u8 0) ∧ w = w' := by
  obtain ⟨h0, a, H⟩ := H
  have c2 : w.cell? ⟨p, 2, none⟩ = some (.int .i64 E) := by rw [Blk.cell H]; rfl
  have e0 : (E != 0) = true := bne_iff_ne.2 h0
  clear H h0
  go_enter Try.func46, Try.ntmps46
  go_wp2_with fail
  go_ret
  exact ⟨rfl, rfl⟩
theorem number_bad {w : World} {p : Nat} {bv : Value} {E : Int} {x : Nat} (H : Bd w p bv E x) (most : Nat) :
    Calls Try.prog 28 #[.pointer (some ⟨p, 0, none⟩), .int .u64 (most : Int)] w fun e w' => e = .returned (.int .u64 0) ∧ w = w' := by
  obtain ⟨h0, a, H⟩ := H
  have c2 : w.cell? ⟨p, 2, none⟩ = some (.int .i64 E) := by rw [Blk.cell H]; rfl
  have e0 : (E != 0) = true := bne_iff_ne.2 h0
  clear H h0
  go_enter Try.func28, Try.ntmps28
  go_wp2_with fail
  go_ret
  exact ⟨rfl, rfl⟩
set_option maxRecDepth 20000 in
set_option maxHeartbeats 4000000 in
theorem rbyte_any1 {w : World} {p : Nat} {v : Value} {bs : List Int} {a : Nat} (HR : Gd w p v a) (HS : SL encB w v bs) (ha : a ≤ bs.length) (hl : bs.length ≤ 1048576) (r : R Int) (hr : byteR bs a = r) :
    Calls Try.prog 46 #[.pointer (some ⟨p, 0, none⟩)] w (RQ (fun c : Int => Value.int .u8 c) (fun u => u = .int .u8 0) w p v r) := by
  obtain ⟨A, cap, rfl⟩ := SL.form HS
  have HR1 := Lib.hid HR
  have HS1 := Lib.hid HS
  have c0 : w.cell? ⟨p, 0, none⟩ = some (.slice A bs.length cap) := by rw [Blk.cell HR]; rfl
  have c1 : w.cell? ⟨p, 1, none⟩ = some (.int .i64 (a : Int)) := by rw [Blk.cell HR]; rfl
  have c2 : w.cell? ⟨p, 2, none⟩ = some (.int .i64 0) := by rw [Blk.cell HR]; rfl
  have z1 : w.frozen? ⟨p, 1, none⟩ = false := Blk.frozen HR 1
  have hl' : (bs.length : Int) ≤ 1048576 := by omega
  have Hr := Lib.hid hr
  clear hr HR HS
  by_cases he : a = bs.length
  · have h1 : ((a : Int) == (bs.length : Int)) = true := by simp [he]
    have Hr2 := Lib.hid (show r = .bad 4 bs.length from by rw [← Hr.out]; unfold byteR; rw [if_pos he])
    clear he
    go_enter Try.func46, Try.ntmps46
    go_upto_region 3 with (fail)
    go_quiet (fail)
    have HW := Lib.hid (wrong_any (show Rq (w.drewN nq) p _ (a : Int) 0 0 from HR1.out) 4 bs.length)
    go_wp2_with (go_at_call 45; refine HW.out.mono ?_; rintro e w2 ⟨rfl, hr, hf⟩; have HR2 := Lib.hid hr; have HF2 := Lib.hid hf; clear hr hf)
    go_ret
    rw [Hr2.out]
    exact ⟨_, rfl, rfl, ((Fr.refl w (fun k => k = p)).drewN nq).trans HF2.out (fun _ _ h => h), by decide, _, HR2.out⟩
  · have h1 : ((a : Int) == (bs.length : Int)) = false := by simp; omega
    have hlt : a < bs.length := by omega
    have Hr2 := Lib.hid (show r = .ok (bs.getD a 0) (a + 1) from by rw [← Hr.out]; unfold byteR; rw [if_neg he])
    obtain ⟨b1, o1, rfl, hb1, hc1⟩ := HS1.out.at_ (s := 1) (fun _ => rfl) rfl hlt
    have hai : (a : Int) < bs.length := by omega
    clear he hc1
    go_enter Try.func46, Try.ntmps46
    go_upto_region 3 with (fail)
    go_quiet (fail)
    go_upto_region 7 with (fail)
    have HF2 := Lib.hid (show Fr w ((w.drewN nq).setCell ⟨p, 1, none⟩ (.int .i64 ((a : Int) + 1))) (fun k => k = p) from ((Fr.refl w (fun k => k = p)).drewN nq).setCell (p := ⟨p, 1, none⟩) (fun _ => rfl) _)
    have HR2 := Lib.hid (show Gd ((w.drewN nq).setCell ⟨p, 1, none⟩ (.int .i64 ((a : Int) + 1))) p (.slice (some ⟨b1, o1, none⟩) bs.length cap) (a + 1) from Blk.set_ (HR1.out.drewN nq) 1 _)
    have HS2 := Lib.hid (sl_rq HS1.out HR1.out HF2.out)
    clear c0 c1 z1 c2
    generalize World.setCell _ _ _ = w2 at HF2 HR2 HS2 ⊢
    have e0 : w2.cell? ⟨p, 0, none⟩ = some (.slice (some ⟨b1, o1, none⟩) bs.length cap) := by rw [Blk.cell HR2.out]; rfl
    have e1 : w2.cell? ⟨p, 1, none⟩ = some (.int .i64 ((a : Int) + 1)) := by rw [Blk.cell HR2.out]; rfl
    have e2 : w2.cell? ⟨b1, o1 + a, none⟩ = some (.int .u8 (bs.getD a 0)) := by
      obtain ⟨b2, o2, hA, _, hc⟩ := HS2.out.at_ (s := 1) (fun _ => rfl) rfl hlt
      cases hA
      have := hc 0 (by omega)
      rw [List.getD_eq_getElem?_getD, List.getElem?_eq_getElem hlt]
      simpa [encB] using this
    have a1 : (a : Int) + 1 - 1 = a := by omega
    generalize bs.getD a 0 = c at e2 Hr2
    go_quiet (fail)
    go_wp2_with fail
    go_ret
    rw [Hr2.out]
    exact ⟨rfl, HF2.out.drewN _, HR2.out.drewN _⟩
end Vf
end Go.Proofs.Ytmjpghaggnpdbaa
