/- sha: the walks of ShaSums, ShaPresses, ShaBehind. -/
import Derived.Test.YtfpgfnmidkkgjaaHRc
import Derived.Deep.RegionHeld3
set_option linter.unusedVariables false
set_option linter.unusedSimpArgs false
namespace Go.Proofs.Ytfpgfnmidkkgjaa
open Go.RowKit
open Sha

set_option maxHeartbeats 1600000 in
theorem ShaSums_walk (w : World) (v : Value) (xs : List Int) (hs : SL (fun x : Int => [Value.int .u8 x]) w v xs) (hwf : ∀ x ∈ xs, (Lit.int .u8 x).wf = true) (hlen : xs.length ≤ 1048576) :
    Calls Try.prog 4 #[v] w fun e w' => e = .returned (.bool true) ∧ Gr w w' := by
  have HS := Lib.hid (to_sl hs hwf)
  have Hn := Lib.hid (show (xs.map (BitVec.ofInt 8)).length ≤ 1048576 by rw [List.length_map]; exact hlen)
  generalize xs.map (BitVec.ofInt 8) = bs at HS Hn
  clear hs hwf hlen
  have HE := fun w => eql_d (sum bs) (sum_len bs) w
  go_enter Try.func4, Try.ntmps4
  go_wp2_with (first
    | (go_at_call 13; refine (sum_any v bs w HS.out (by have := Hn.out; omega)).mono ?_; rintro e w2 ⟨rfl, hg⟩; have HG2 := Lib.hid hg; clear hg)
    | (go_at_call 14; refine (rsum_any v bs w2 (HS.out.gr HG2.out) (by have := Hn.out; omega)).mono ?_; rintro e w3 ⟨rfl, hg⟩; have HG3 := Lib.hid hg; clear hg)
    | (go_at_call 12; refine (works_any w3).mono ?_; rintro e w4 ⟨rfl, hg⟩; have HG4 := Lib.hid hg; clear hg))
  go_ret
  exact ⟨rfl, (HG2.out.trans HG3.out (fun _ _ h => h)).trans HG4.out (fun _ _ h => h)⟩

theorem acc_step (n j : Nat) (hj : j < 8) : 256 * (8 * n / 2 ^ (8 * (8 - j))) + (pby n (7 - j)).toNat = 8 * n / 2 ^ (8 * (8 - (j + 1))) := by
  obtain ⟨m, hm, rfl⟩ : ∃ m, m < 8 ∧ j = 7 - m := ⟨7 - j, by omega, by omega⟩
  have e1 : 8 * (8 - (7 - m)) = 8 * (8 - ((7 - m) + 1)) + 8 := by omega
  have e2 : 7 - (7 - m) = 8 - ((7 - m) + 1) := by omega
  rw [e1, e2, Nat.pow_add, ← Nat.div_div_eq_div_mul]
  unfold pby
  rw [BitVec.toNat_ofNat]
  generalize 8 * n / 2 ^ (8 * (8 - (7 - m + 1))) = x
  omega
theorem pad_at (n j : Nat) (hj : j < 8) : (pad n).getD (psize n - 8 + j) 0 = pby n (7 - j) := by
  have hp := psize_mod n
  rw [List.getD_eq_getElem?_getD, pad, padI_get n 8 (by omega) _ (by omega), if_pos (by omega)]
  have : psize n - 1 - (psize n - 8 + j) = 7 - j := by omega
  rw [this]; rfl

set_option maxHeartbeats 1600000 in
theorem ShaBehind_walk (w : World) (n : Int) (hwf : (Lit.int .i64 n).wf = true) :
    Calls Try.prog 5 #[.int .i64 n] w fun e w' => e = .returned (.bool true) ∧ Gr w w' := by
  by_cases h : n < 0 ∨ 1099511627776 < n
  · have H := Lib.hid h
    clear h hwf
    go_enter Try.func5, Try.ntmps5
    go_wp2_with (first
      | (go_at_call 15; refine (shab_err n H.out w).mono ?_; rintro e w' ⟨rfl, rfl⟩)
      | (go_at_call 16; refine (rbehind_err n H.out w).mono ?_; rintro e w' ⟨rfl, rfl⟩)
      | (go_at_call 17; refine (same_any _ _ [] [] w (SL.nil w) (SL.nil w) (by decide)).mono ?_; rintro e w2 ⟨rfl, hd⟩; have HD := Lib.hid hd; clear hd)
      | (go_at_call 12; refine (works_any w2).mono ?_; rintro e w3 ⟨rfl, hg⟩; have HG := Lib.hid hg; clear hg))
    go_ret
    exact ⟨rfl, HD.out.gr.trans HG.out (fun _ _ h => h)⟩
  · obtain ⟨m, rfl⟩ : ∃ m : Nat, n = m := ⟨n.toNat, by omega⟩
    have hm : m ≤ 1099511627776 := by omega
    have Hm := Lib.hid hm
    have hm' : (m : Int) ≤ 1099511627776 := by omega
    have Hps := Lib.hid (psize_mod m)
    have Hpl := Lib.hid (pad_len m)
    have Hat := Lib.hid (pad_at m)
    have Hst := Lib.hid (acc_step m)
    clear h hm hwf
    go_enter Try.func5, Try.ntmps5
    go_upto_region 2 with (go_at_call 15; refine (shab_any m Hm.out w).mono ?_; rintro e w2 ⟨v2, rfl, ho2, hg2⟩; obtain ⟨A2, c2, rfl⟩ := own_form ho2; have HO2 := Lib.hid ho2; have HG2 := Lib.hid hg2; clear ho2 hg2)
    go_upto_region 3 with (go_at_call 16; refine (rbehind_any m Hm.out w2).mono ?_; rintro e w3 ⟨v3, rfl, ho3, hg3⟩; obtain ⟨A3, c3, rfl⟩ := own_form ho3; have HO3 := Lib.hid ho3; have HG3 := Lib.hid hg3; clear ho3 hg3)
    have HS2 := Lib.hid (SL.gr (SL.of_own (enc := eb) HO2.out Hpl.out.symm) HG3.out)
    have HS3 := Lib.hid (SL.of_own (enc := eb) HO3.out Hpl.out.symm)
    generalize psize m = s at HS2 HS3 HO2 HO3 Hps Hpl Hat ⊢
    have hs72 : (s : Int) ≤ 72 := by have := Hps.out; omega
    have hs9 : (9 : Int) ≤ (s : Int) := by have := Hps.out; omega
    have hdec : decide (pad m = pad m) = true := decide_eq_true rfl
    go_upto_region 8 with (first
      | (go_at_call 17; refine (same_any _ _ (pad m) (pad m) w3 HS2.out HS3.out (by rw [Hpl.out]; have := Hps.out; omega)).mono ?_; rintro e w4 ⟨rfl, hd⟩; have HD := Lib.hid hd; clear hd))
    have HS4 := Lib.hid (HS2.out.gr HD.out.gr)
    have HG4 := Lib.hid ((HG2.out.trans HG3.out (fun _ _ h => h)).trans HD.out.gr (fun _ _ h => h))
    clear HS2 HS3 HO2 HO3 hdec
    obtain ⟨b0, hb0⟩ : ∃ b0 : Nat, b0 = s - 8 := ⟨_, rfl⟩
    have e0 : (s : Int) - 8 = (b0 : Int) := by have := Hps.out; omega
    have Hb0 := Lib.hid hb0
    clear hb0
    go_upto_block 0 with (fail)
    clear e0
    go_wp2_with fail
    go_loopg [7, 8] 9 (fun g s7 s8 wr => ∃ (j i bits : Nat), s7 = .int .i64 bits ∧ s8 = .int .i64 i ∧ Hid (j ≤ 8 ∧ i = s - 8 + j ∧ 8 - j < g ∧ bits = 8 * m / 2 ^ (8 * (8 - j))) ∧ Hid (Dr w4 wr))
    case atStart =>
      refine ⟨0, b0, 0, rfl, rfl, ⟨by omega, Hb0.out, by omega, ?_⟩, Dr.refl _⟩
      have := Hm.out
      rw [Nat.div_eq_of_lt (by omega)]
    case round =>
      obtain ⟨j, i, bits, rfl, rfl, HJ, HD4⟩ := hrel
      have hi72 : (i : Int) ≤ 80 := by have := HJ.out; omega
      by_cases hj : j < 8
      · have hlt : i < s := by have := HJ.out; have := Hps.out; omega
        have hlt' : (i : Int) < (s : Int) := by omega
        obtain ⟨b1, o1, rfl, _, hc1⟩ := (HS4.out.gr HD4.out.gr).at_ (s := 1) (fun _ => rfl) rfl (show i < (pad m).length by rw [Hpl.out]; exact hlt)
        have c1 := hc1 0 (by omega)
        simp only [eb, Nat.mul_one, Nat.add_zero, List.getElem?_cons_zero] at c1
        have hx : (pad m)[i]'(by rw [Hpl.out]; exact hlt) = pby m (7 - j) := by
          have := Hat.out j hj
          rw [← HJ.out.2.1, List.getD_eq_getElem?_getD, List.getElem?_eq_getElem (by rw [Hpl.out]; exact hlt)] at this
          exact this
        have hs := Hst.out j hj
        rw [← HJ.out.2.2.2] at hs
        rw [hx] at c1
        generalize pby m (7 - j) = x at c1 hs
        have hle : 8 * m / 2 ^ (8 * (8 - (j + 1))) ≤ 8 * m := Nat.div_le_self _ _
        have hb1 : 256 * (bits : Int) + (x.toNat : Int) ≤ 8796093022208 := by have := Hm.out; omega
        have hb2 : (x.toNat : Int) ≤ 255 := by have := x.isLt; omega
        have Hs := Lib.hid hs
        clear hc1 hx hs hle hlt
        go_wp2_with fail
        go_roundg (gk - 1)
        case measure => have := HJ.out; omega
        case rel => exact ⟨j + 1, i + 1, 256 * bits + x.toNat, by go_num, by go_num, ⟨hj, by have := HJ.out; omega, by have := HJ.out; omega, Hs.out⟩, HD4.out⟩
      · obtain rfl : j = 8 := by have := HJ.out; omega
        have hlt : decide (i < s) = false := decide_eq_false (by have := HJ.out; have := Hps.out; omega)
        have hbits : bits = 8 * m := by have := HJ.out.2.2.2; simpa using this
        subst hbits
        have q1 : (((m : Int) + (s : Int)) % 64 == 0) = true := by rw [beq_iff_eq]; have := Hps.out; omega
        go_wp2_with (go_at_call 12; refine (works_any wr).mono ?_; rintro e w5 ⟨rfl, hg⟩; have HG5 := Lib.hid hg; clear hg)
        go_ret
        exact ⟨rfl, (HG4.out.trans HD4.out.gr (fun _ _ h => h)).trans HG5.out (fun _ _ h => h)⟩
end Go.Proofs.Ytfpgfnmidkkgjaa
