/- the document's vocfile: number, begins. -/
import Derived.Test.YtmjpghaggnpdbaaGRa
import Derived.Test.YtmjpghaggnpdbaaGSt
set_option linter.unusedVariables false
set_option linter.unusedSimpArgs false
namespace Go.Proofs.Ytmjpghaggnpdbaa
open Go.RowKit
open Voc Leb Crc
namespace Vf
theorem lebE_bad : ∀ {l : List Int} {E : Int}, E ≠ 0 → (lebE l).2.2 = E → E ≠ 0 := fun h _ => h
set_option maxRecDepth 20000 in
set_option maxHeartbeats 4000000 in
theorem rnumber_any {w : World} {p : Nat} {v : Value} {bs : List Int} {a : Nat} (HR : Gd w p v a) (HS : SL encB w v bs) (hb : Leb.Bs bs) (ha : a ≤ bs.length) (hl : bs.length ≤ 1048576) (most : Nat) (hm : most < 2 ^ 63) (r : R Nat) (hr : numR bs a most = r) :
    Calls Try.prog 28 #[.pointer (some ⟨p, 0, none⟩), .int .u64 (most : Int)] w (RQ (fun n : Nat => .int .u64 (n : Int)) (fun u => u = .int .u64 0) w p v r) := by
  obtain ⟨A, cap, rfl⟩ := SL.form HS
  have HR1 := Lib.hid HR
  have c0 : w.cell? ⟨p, 0, none⟩ = some (.slice A bs.length cap) := by rw [Blk.cell HR]; rfl
  have c1 : w.cell? ⟨p, 1, none⟩ = some (.int .i64 (a : Int)) := by rw [Blk.cell HR]; rfl
  have c2 : w.cell? ⟨p, 2, none⟩ = some (.int .i64 0) := by rw [Blk.cell HR]; rfl
  have z1 : w.frozen? ⟨p, 1, none⟩ = false := Blk.frozen HR 1
  obtain ⟨⟨r1, r2, r3⟩, hg⟩ : ∃ x, getE bs (a : Int) = x := ⟨_, rfl⟩
  have HC := Lib.hid (fun w (hs : SL encB w (.slice A bs.length cap) bs) => rget_in (w := w) a ha hs hb (by omega) r1 r2 r3 hg)
  have HN := Lib.hid (numR_at (most := most) ha hg)
  have Hr := Lib.hid hr
  have HS1 := Lib.hid HS
  clear hr HR HS hg hb ha
  go_enter Try.func28, Try.ntmps28
  go_upto_region 3 with (fail)
  go_quiet ((go_at_call 44; exact Calls.quiet_of_same ((HC.out _ (HS1.out.drewN _)).mono (fun e w' h => ⟨h.1, h.2.symm⟩))))
  have HW := Lib.hid (fun E => wrong_any (show Rq (w.drewN nq) p _ (a : Int) 0 0 from HR1.out) E (a : Int))
  by_cases h3 : r3 = 0
  · obtain ⟨n, a2, rfl, rfl, hn⟩ := HN.out.2 h3
    subst h3
    by_cases hlt : most < n
    · have h4 : decide ((n : Int) > (most : Int)) = true := decide_eq_true (by omega)
      have h4' : decide (n > most) = true := decide_eq_true hlt
      have h4'' : decide (most < n) = true := decide_eq_true hlt
      have Hr2 := Lib.hid (show r = .bad 3 a by rw [← Hr.out, hn, if_pos hlt])
      clear hn hlt
      go_wp2_with (go_at_call 45; refine (HW.out 3).mono ?_; rintro e w2 ⟨rfl, hr, hf⟩; have HR2 := Lib.hid hr; have HF2 := Lib.hid hf; clear hr hf)
      go_ret
      rw [Hr2.out]
      exact ⟨_, rfl, rfl, ((Fr.refl w (fun k => k = p)).drewN nq).trans HF2.out (fun _ _ h => h), by decide, _, HR2.out⟩
    · have h4 : decide ((n : Int) > (most : Int)) = false := decide_eq_false (by omega)
      have h4' : decide (n > most) = false := decide_eq_false hlt
      have h4'' : decide (most < n) = false := decide_eq_false hlt
      have Hr2 := Lib.hid (show r = .ok n a2 by rw [← Hr.out, hn, if_neg hlt])
      clear hn hlt
      go_wp2_with fail
      go_ret
      rw [Hr2.out]
      exact ⟨rfl, ((Fr.refl w (fun k => k = p)).drewN nq).setCell (p := ⟨p, 1, none⟩) (fun _ => rfl) _, Blk.set_ (HR1.out.drewN nq) 1 (.int .i64 (a2 : Int))⟩
  · have hp := HN.out.1 h3
    have h4 : (r3 != 0) = true := bne_iff_ne.2 h3
    have h5 : (r3 == 0) = false := by simpa using h3
    have Hr2 := Lib.hid (show r = .bad r3 a by rw [← Hr.out, hp])
    have H3 := Lib.hid h3
    clear hp h3
    go_wp2_with (go_at_call 45; refine (HW.out r3).mono ?_; rintro e w2 ⟨rfl, hr, hf⟩; have HR2 := Lib.hid hr; have HF2 := Lib.hid hf; clear hr hf)
    go_ret
    rw [Hr2.out]
    exact ⟨_, rfl, rfl, ((Fr.refl w (fun k => k = p)).drewN nq).trans HF2.out (fun _ _ h => h), H3.out, _, HR2.out⟩
theorem ixm (i : Nat) (c : Int) (w : World) (h : (Instr.index 9 (.string (ByteArray.mk #[115, 116, 111, 111, 107, 118])) (.int .i64 (i : Int))).run Try.prog w = .ok (.int .u8 c) w) : (Instr.index 9 (.string (ByteArray.mk #[115, 116, 111, 111, 107, 118])) (.int .i64 (i : Int))).run Try.prog w = .ok (.int .u8 c) w := h
theorem index_magic (i : Nat) (hi : i < 6) (w : World) : (Instr.index 9 (.string (ByteArray.mk #[115, 116, 111, 111, 107, 118])) (.int .i64 (i : Int))).run Try.prog w = .ok (.int .u8 (magic.getD i 0)) w := by
  have h : i = 0 ∨ i = 1 ∨ i = 2 ∨ i = 3 ∨ i = 4 ∨ i = 5 := by omega
  rcases h with rfl | rfl | rfl | rfl | rfl | rfl
  · exact ixm 0 115 w (by kernel_rfl)
  · exact ixm 1 116 w (by kernel_rfl)
  · exact ixm 2 111 w (by kernel_rfl)
  · exact ixm 3 111 w (by kernel_rfl)
  · exact ixm 4 107 w (by kernel_rfl)
  · exact ixm 5 118 w (by kernel_rfl)
set_option maxRecDepth 20000 in
set_option maxHeartbeats 4000000 in
theorem begins_any {w : World} {v : Value} {bs : List Int} (HS : SL encB w v bs) (hl : bs.length ≤ 1048576) (b : Bool) (hbb : decide (bs.take 6 = magic) = b) :
    Calls Try.prog 27 #[v] w fun e w' => e = .returned (.bool b) ∧ Dr w w' := by
  obtain ⟨A, cap, rfl⟩ := SL.form HS
  have HS1 := Lib.hid HS
  have Hbb := Lib.hid hbb
  have hl' : (bs.length : Int) ≤ 1048576 := by omega
  clear HS hbb
  by_cases h6 : bs.length < 6
  · have e1 : decide (bs.length < 6) = true := decide_eq_true h6
    have e2 : decide ((bs.length : Int) < 6) = true := decide_eq_true (by omega)
    have Hb2 := Lib.hid (show b = false by
      rw [← Hbb.out]
      exact decide_eq_false (fun h => by have := congrArg List.length h; rw [List.length_take] at this; simp [magic] at this; omega))
    go_enter Try.func27, Try.ntmps27
    go_wp2_with fail
    go_ret
    rw [Hb2.out]
    exact ⟨rfl, Dr.refl w⟩
  have e1 : decide (bs.length < 6) = false := decide_eq_false h6
  have e2 : decide ((bs.length : Int) < 6) = false := decide_eq_false (by omega)
  have H6 := Lib.hid h6
  have h6' : (6 : Int) ≤ bs.length := by omega
  clear h6
  go_enter Try.func27, Try.ntmps27
  go_wp2_with fail
  go_loopg [3] 7 (fun m s3 wr => ∃ i : Nat, s3 = .int .i64 i ∧ Hid (i ≤ 6 ∧ 6 - i < m) ∧ Hid (bs.take i = magic.take i ∧ Dr w wr))
  case atStart => exact ⟨0, rfl, ⟨by omega, by omega⟩, rfl, Dr.refl _⟩
  case round =>
    obtain ⟨i, rfl, HI, HP⟩ := hrel
    by_cases hi : i < 6
    · have hi1 : decide ((i : Int) < 6) = true := decide_eq_true (by omega)
      have hix := index_magic i hi
      have hlt : i < bs.length := by have := H6.out; omega
      have hlti : (i : Int) < bs.length := by omega
      obtain ⟨b1, o1, rfl, hb1, hc1⟩ := (HS1.out.gr HP.out.2.gr).at_ (s := 1) (fun _ => rfl) rfl hlt
      have d := hc1 0 (by omega)
      simp [encB] at d
      have Hst := Lib.hid (List.take_succ_eq_append_getElem hlt)
      have Hsm := Lib.hid (show magic.take (i + 1) = magic.take i ++ [magic.getD i 0] by
        match i, hi with
        | 0, _ => rfl
        | 1, _ => rfl
        | 2, _ => rfl
        | 3, _ => rfl
        | 4, _ => rfl
        | 5, _ => rfl)
      have Hdr := Lib.hid (show bs.take 6 = magic → bs[i] = magic.getD i 0 from fun h => by
        have h1 : (bs.take 6).getD i 0 = magic.getD i 0 := by rw [h]
        rw [← h1, List.getD_eq_getElem?_getD, List.getElem?_take, if_pos hi, List.getElem?_eq_getElem hlt]; rfl)
      have Hi := Lib.hid hi
      have hi6 : (i : Int) < 6 := by omega
      generalize bs[i]'hlt = cb at d Hst Hdr
      generalize magic.getD i 0 = cm at hix Hsm Hdr
      clear hc1 hb1 hlt hi
      by_cases hne : cb = cm
      · have hn1 : (cb != cm) = false := by simp [hne]
        go_upto_region 6 with (fail)
        go_quiet (fail)
        go_wp2_with fail
        go_roundg (gk - 1)
        case measure => have := HI.out; omega
        case rel =>
          refine ⟨i + 1, by go_num, ⟨by have := Hi.out; omega, by have := HI.out; have := Hi.out; omega⟩, ?_, HP.out.2.drewN _⟩
          rw [Hst.out, Hsm.out, HP.out.1, hne]
      · have hn1 : (cb != cm) = true := bne_iff_ne.2 hne
        have Hb2 := Lib.hid (show b = false by rw [← Hbb.out]; exact decide_eq_false (fun h => hne (Hdr.out h)))
        go_upto_region 6 with (fail)
        go_quiet (fail)
        go_wp2_with fail
        go_ret
        rw [Hb2.out]
        exact ⟨rfl, HP.out.2.drewN _⟩
    · have hi1 : decide ((i : Int) < 6) = false := decide_eq_false (by omega)
      obtain rfl : i = 6 := by have := HI.out; omega
      have Hb2 := Lib.hid (show b = true by rw [← Hbb.out]; exact decide_eq_true HP.out.1)
      go_wp2_with fail
      go_ret
      rw [Hb2.out]
      exact ⟨rfl, HP.out.2⟩
end Vf
end Go.Proofs.Ytmjpghaggnpdbaa
