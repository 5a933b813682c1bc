/- vocfile: the reader. -/
import Derived.Test.YtmjpghaggnpdbaaGMg
import Derived.Test.YtmjpghaggnpdbaaBWa
import Derived.Deep.QuietTactic
import Derived.BigQuiet
set_option linter.unusedVariables false
set_option linter.unusedSimpArgs false
namespace Go.Proofs.Ytmjpghaggnpdbaa
open Go.RowKit
open Voc Leb Crc
namespace Vf
def flt (E : Int) (x : Nat) : List PanicEntry := [{ v := .iface 48 (.agg #[.int .i64 E, .int .i64 (x : Int)]), recovered := false }]
/-- a reader at p, of these bytes, that stands here -/
def Rd (w : World) (p : Nat) (bv : Value) (a : Nat) : Prop := Blk w p 52 #[bv, .int .i64 (a : Int)]
/-- what a reading answers, and what it leaves -/
def RP {α : Type} (V : α → Value) (w : World) (p : Nat) (bv : Value) (r : R α) (e : Ending) (w' : World) : Prop :=
  match r with
  | .bad E x => e = .panicked (flt E x) ∧ Fr w w' (fun k => k = p)
  | .ok c a => e = .returned (V c) ∧ Fr w w' (fun k => k = p) ∧ Rd w' p bv a
theorem Rd.fr {w w' : World} {p : Nat} {bv : Value} {a : Nat} {S : Nat → Prop} (h : Rd w p bv a) (hf : Fr w w' S) (hn : ¬ S p) : Rd w' p bv a := Blk.fr h hf hn
theorem Rd.to {w : World} {p : Nat} {bv : Value} {a b : Nat} (h : Rd w p bv a) : Rd (w.setCell ⟨p, 1, none⟩ (.int .i64 (b : Int))) p bv b := Blk.set_ h 1 _
theorem rd_ne {w : World} {p b o : Nat} {A : Option Addr} {n m a : Nat} {c : Int} (h : Rd w p (.slice A n m) a) (hc : w.cell? ⟨b, o, none⟩ = some (.int .u8 c)) : b ≠ p := by
  intro e
  subst e
  rw [Blk.cell h] at hc
  match o with
  | 0 => simp at hc
  | 1 => simp at hc
  | k + 2 => simp at hc
theorem sl_rd {w w' : World} {p : Nat} {v : Value} {bs : List Int} {a : Nat} (hs : SL encB w v bs) (h : Rd w p v a) (hf : Fr w w' (fun k => k = p)) : SL encB w' v bs := by
  obtain ⟨A, cap, rfl, hc, hr⟩ := hs
  refine ⟨A, cap, rfl, hc, fun h0 => ?_⟩
  obtain ⟨b, off, rfl, hb, hcell⟩ := hr h0
  have hne : b ≠ p := by
    obtain ⟨c, r, rfl⟩ : ∃ c r, bs = c :: r := by
      cases bs with
      | nil => simp at h0
      | cons c r => exact ⟨c, r, rfl⟩
    exact rd_ne h (hcell 0 (.int .u8 c) rfl)
  exact ⟨b, off, rfl, Nat.lt_of_lt_of_le hb hf.size, fun i u hu => (hf.cell (p := ⟨b, off + i, none⟩) hb hne).trans (hcell i u hu)⟩
set_option maxRecDepth 20000 in
set_option maxHeartbeats 4000000 in
theorem next_any {w : World} {p : Nat} {v : Value} {bs : List Int} {a : Nat} (HR : Rd w p v a) (HS : SL encB w v bs) (ha : a ≤ bs.length) (hl : bs.length ≤ 1048576) (r : R Int) (hr : byteR bs a = r) :
    Calls Try.prog 42 #[.pointer (some ⟨p, 0, none⟩)] w (RP (fun c : Int => Value.int .u8 c) w p v r) := by
  obtain ⟨A, cap, rfl⟩ := SL.form HS
  have HR1 := Lib.hid HR
  have HS1 := Lib.hid HS
  have c0 : w.cell? ⟨p, 0, none⟩ = some (.slice A bs.length cap) := by rw [Blk.cell HR]; rfl
  have c1 : w.cell? ⟨p, 1, none⟩ = some (.int .i64 (a : Int)) := by rw [Blk.cell HR]; rfl
  have z1 : w.frozen? ⟨p, 1, none⟩ = false := Blk.frozen HR 1
  have hl' : (bs.length : Int) ≤ 1048576 := by omega
  have Hr := Lib.hid hr
  clear hr HR HS
  by_cases he : a = bs.length
  · have h1 : ((a : Int) == (bs.length : Int)) = true := by simp [he]
    have Hr2 := Lib.hid (show r = .bad 4 bs.length from by rw [← Hr.out]; unfold byteR; rw [if_pos he])
    clear he
    go_enter Try.func42, Try.ntmps42
    go_upto_region 1 with (fail)
    go_quiet (fail)
    go_wp2_with fail
    refine ⟨rfl, ?_⟩
    rw [Hr2.out]
    exact ⟨rfl, (Fr.refl w _).drewN nq⟩
  · have h1 : ((a : Int) == (bs.length : Int)) = false := by simp; omega
    have hlt : a < bs.length := by omega
    have Hr2 := Lib.hid (show r = .ok (bs.getD a 0) (a + 1) from by rw [← Hr.out]; unfold byteR; rw [if_neg he])
    obtain ⟨b1, o1, rfl, hb1, hc1⟩ := HS1.out.at_ (s := 1) (fun _ => rfl) rfl hlt
    have hai : (a : Int) < bs.length := by omega
    have Hd := Lib.hid (hc1 0 (by omega))
    clear he hc1
    go_enter Try.func42, Try.ntmps42
    go_upto_region 1 with (fail)
    go_quiet (fail)
    go_upto_region 4 with (fail)
    have HF2 := Lib.hid (show Fr w ((w.drewN nq).setCell ⟨p, 1, none⟩ (.int .i64 ((a : Int) + 1))) (fun k => k = p) from ((Fr.refl w (fun k => k = p)).drewN nq).setCell (p := ⟨p, 1, none⟩) (fun _ => rfl) _)
    have HR2 := Lib.hid (show Rd ((w.drewN nq).setCell ⟨p, 1, none⟩ (.int .i64 ((a : Int) + 1))) p (.slice (some ⟨b1, o1, none⟩) bs.length cap) (a + 1) from Rd.to (b := a + 1) (HR1.out.drewN nq))
    have HS2 := Lib.hid (sl_rd HS1.out HR1.out HF2.out)
    clear c0 c1 z1
    generalize World.setCell _ _ _ = w2 at HF2 HR2 HS2 ⊢
    have e0 : w2.cell? ⟨p, 0, none⟩ = some (.slice (some ⟨b1, o1, none⟩) bs.length cap) := by rw [Blk.cell HR2.out]; rfl
    have e1 : w2.cell? ⟨p, 1, none⟩ = some (.int .i64 ((a : Int) + 1)) := by rw [Blk.cell HR2.out]; rfl
    have e2 : w2.cell? ⟨b1, o1 + a, none⟩ = some (.int .u8 (bs.getD a 0)) := by
      obtain ⟨b2, o2, hA, _, hc⟩ := HS2.out.at_ (s := 1) (fun _ => rfl) rfl hlt
      cases hA
      have := hc 0 (by omega)
      rw [List.getD_eq_getElem?_getD, List.getElem?_eq_getElem hlt]
      simpa [encB] using this
    have a1 : (a : Int) + 1 - 1 = a := by omega
    generalize bs.getD a 0 = c at e2 Hr2
    go_quiet (fail)
    go_wp2_with fail
    go_ret
    rw [Hr2.out]
    exact ⟨rfl, HF2.out.drewN _, HR2.out.drewN _⟩
theorem numR_at {bs : List Int} {a most : Nat} (ha : a ≤ bs.length) {r1 r2 r3 : Int} (hg : getE bs (a : Int) = (r1, r2, r3)) :
    (r3 ≠ 0 → numR bs a most = .bad r3 a) ∧ (r3 = 0 → ∃ n a2 : Nat, r1 = (n : Int) ∧ r2 = (a2 : Int) ∧ numR bs a most = if most < n then .bad 3 a else .ok n a2) := by
  unfold getE at hg
  rw [if_neg (by omega), Int.toNat_natCast] at hg
  unfold numR
  split at hg
  · rename_i h
    injection hg with h1 hg
    injection hg with h2 h3
    refine ⟨fun _ => by rw [if_pos h, h3], fun h0 => absurd (h3.trans h0) h⟩
  · rename_i h
    injection hg with h1 hg
    injection hg with h2 h3
    refine ⟨fun h0 => absurd h3.symm h0, fun _ => ⟨_, _, h1.symm, by rw [← h2]; rfl, by rw [if_neg h]⟩⟩
set_option maxRecDepth 20000 in
set_option maxHeartbeats 4000000 in
theorem number_any {w : World} {p : Nat} {v : Value} {bs : List Int} {a : Nat} (HR : Rd w p v a) (HS : SL encB w v bs) (hb : Leb.Bs bs) (ha : a ≤ bs.length) (hl : bs.length ≤ 1048576) (most : Nat) (hm : most < 2 ^ 63) (r : R Nat) (hr : numR bs a most = r) :
    Calls Try.prog 23 #[.pointer (some ⟨p, 0, none⟩), .int .u64 (most : Int)] w (RP (fun n : Nat => .int .u64 (n : Int)) w p v r) := by
  obtain ⟨A, cap, rfl⟩ := SL.form HS
  have HR1 := Lib.hid HR
  have c0 : w.cell? ⟨p, 0, none⟩ = some (.slice A bs.length cap) := by rw [Blk.cell HR]; rfl
  have c1 : w.cell? ⟨p, 1, none⟩ = some (.int .i64 (a : Int)) := by rw [Blk.cell HR]; rfl
  have z1 : w.frozen? ⟨p, 1, none⟩ = false := Blk.frozen HR 1
  obtain ⟨⟨r1, r2, r3⟩, hg⟩ : ∃ x, getE bs (a : Int) = x := ⟨_, rfl⟩
  have HC := Lib.hid (fun w (hs : SL encB w (.slice A bs.length cap) bs) => get_in (w := w) a ha hs hb (by omega) r1 r2 r3 hg)
  have HN := Lib.hid (numR_at (most := most) ha hg)
  have Hr := Lib.hid hr
  have HS1 := Lib.hid HS
  clear hr HR HS hg hb ha
  go_enter Try.func23, Try.ntmps23
  go_upto_region 1 with (fail)
  go_quiet ((go_at_call 41; exact Calls.quiet_of_same ((HC.out _ (HS1.out.drewN _)).mono (fun e w' h => ⟨h.1, h.2.symm⟩))))
  by_cases h3 : r3 = 0
  · obtain ⟨n, a2, rfl, rfl, hn⟩ := HN.out.2 h3
    subst h3
    by_cases hlt : most < n
    · have h4 : decide ((n : Int) > (most : Int)) = true := decide_eq_true (by omega)
      have h4' : decide (n > most) = true := decide_eq_true hlt
      have h4'' : decide (most < n) = true := decide_eq_true hlt
      have Hr2 := Lib.hid (show r = .bad 3 a by rw [← Hr.out, hn, if_pos hlt])
      clear hn hlt
      go_wp2_with fail
      refine ⟨rfl, ?_⟩
      rw [Hr2.out]
      exact ⟨rfl, (Fr.refl w _).drewN nq⟩
    · have h4 : decide ((n : Int) > (most : Int)) = false := decide_eq_false (by omega)
      have h4' : decide (n > most) = false := decide_eq_false hlt
      have h4'' : decide (most < n) = false := decide_eq_false hlt
      have Hr2 := Lib.hid (show r = .ok n a2 by rw [← Hr.out, hn, if_neg hlt])
      clear hn hlt
      go_wp2_with fail
      go_ret
      rw [Hr2.out]
      exact ⟨rfl, ((Fr.refl w (fun k => k = p)).drewN nq).setCell (p := ⟨p, 1, none⟩) (fun _ => rfl) _, Rd.to (b := a2) (HR1.out.drewN nq)⟩
  · have hp := HN.out.1 h3
    have h4 : (r3 != 0) = true := bne_iff_ne.2 h3
    have Hr2 := Lib.hid (show r = .bad r3 a by rw [← Hr.out, hp])
    clear hp h3
    go_wp2_with fail
    refine ⟨rfl, ?_⟩
    rw [Hr2.out]
    exact ⟨rfl, (Fr.refl w _).drewN nq⟩
end Vf
end Go.Proofs.Ytmjpghaggnpdbaa
