/- leb: Get of the reference. -/
import Derived.Test.YtmjpghaggnpdbaaBWc
set_option linter.unusedVariables false
set_option linter.unusedSimpArgs false
namespace Go.Proofs.Ytmjpghaggnpdbaa
open Go.RowKit
open Voc
namespace Leb
theorem acc_top {l : List Int} {k : Nat} (hk : k = runN 9 l) (hnb : ¬ bad (l.getD k 0) k) (hr : runN 9 l < l.length) (hb : ∀ c ∈ l, 0 ≤ c) : accF l (k + 1) < 2 ^ 64 := by
  have h9 := (runN_le 9 l).1
  rcases Nat.lt_or_ge k 9 with h | h
  · have := accF_lt l (k + 1)
    have h2 : 128 ^ (k + 1) ≤ 128 ^ 9 := Nat.pow_le_pow_right (by omega) (by omega)
    have h3 : (128 : Nat) ^ 9 = 2 ^ 63 := by decide
    have h4 : (2 : Nat) ^ 63 < 2 ^ 64 := by decide
    exact Nat.lt_trans (Nat.lt_of_lt_of_le this (Nat.le_trans h2 (Nat.le_of_eq h3))) h4
  · have : k = 9 := by omega
    subst this
    have h1 := accF_lt l 9
    have h3 : (128 : Nat) ^ 9 = 2 ^ 63 := by decide
    unfold bad at hnb
    have hc1 : l.getD 9 0 ≤ 1 := by omega
    simp only [accF] at h1 ⊢
    have h4 : (l.getD 9 0).toNat % 128 * 128 ^ 9 ≤ 1 * 128 ^ 9 := Nat.mul_le_mul_right _ (by omega)
    have h5 : 1 * 128 ^ 9 + 128 ^ 9 = (2 : Nat) ^ 64 := by decide
    have h6 := Nat.add_lt_add_of_le_of_lt h4 h1
    rw [h5] at h6
    rw [Nat.add_comm]
    exact h6
/-- a digit more, from the top -/
theorem horner {l : List Int} {v j T : Nat} (h : v * 128 ^ (j + 1) + accF l (j + 1) = T) : (128 * v + (l.getD j 0).toNat % 128) * 128 ^ j + accF l j = T := by
  simp only [accF] at h
  have e : v * 128 ^ (j + 1) = 128 * v * 128 ^ j := by rw [Nat.pow_succ, Nat.mul_comm 128 v, Nat.mul_assoc, Nat.mul_comm 128]
  rw [e] at h
  rw [Nat.add_mul]
  omega
theorem horner_le {v j T x : Nat} (h : v * 128 ^ j + x = T) : v ≤ T := by
  have : 0 < 128 ^ j := Nat.pow_pos (by omega)
  have : v * 1 ≤ v * 128 ^ j := Nat.mul_le_mul_left v this
  omega
def Fits (v : Nat) : Prop := v < 18446744073709551616
theorem wrapF {v : Nat} (h : Fits v) : IntKind.u64.wrap (v : Int) = (v : Int) := by unfold Fits at h; show (v : Int) % 18446744073709551616 = _; omega
set_option maxRecDepth 20000 in
set_option maxHeartbeats 4000000 in
theorem rget_in {w : World} {v : Value} {bs : List Int} (a : Nat) (ha : a ≤ bs.length) (hs : SL encB w v bs) (hb : Bs bs) (hl : bs.length ≤ 4194304) (r1 r2 r3 : Int) (hr : getE bs (a : Int) = (r1, r2, r3)) :
    Calls Try.prog 44 #[v, .int .i64 (a : Int)] w fun e w' => e = .returned (.tuple #[.int .u64 r1, .int .i64 r2, .int .i64 r3]) ∧ w = w' := by
  have HS := Lib.hid hs
  obtain ⟨A, cap, rfl⟩ := SL.form hs
  have HB := Lib.hid hb
  have hl' : (bs.length : Int) ≤ 4194304 := by omega
  have ha' : (a : Int) ≤ bs.length := by omega
  have Ha := Lib.hid ha
  have ha1 : decide (bs.length < a) = false := decide_eq_false (by omega)
  have ha2 : decide ((a : Int) < 0) = false := decide_eq_false (by omega)
  obtain ⟨l, hlq⟩ : ∃ l, bs.drop a = l := ⟨_, rfl⟩
  have Hll := Lib.hid (show l.length = bs.length - a by rw [← hlq, List.length_drop])
  have Hget := Lib.hid (show ∀ k, k < l.length → l.getD k 0 = bs.getD (a + k) 0 from fun k hk => by
    rw [← hlq, List.getD_eq_getElem?_getD, List.getElem?_drop, ← List.getD_eq_getElem?_getD])
  have Hlb := Lib.hid (show ∀ c ∈ l, 0 ≤ c from fun c hc => (hb c (by rw [← hlq] at hc; exact List.mem_of_mem_drop hc)).1)
  have Hr := Lib.hid (show (lebE l).2.2 ≠ 0 ∧ r1 = 0 ∧ r2 = 0 ∧ r3 = (lebE l).2.2 ∨ (lebE l).2.2 = 0 ∧ r1 = ((lebE l).1 : Nat) ∧ r2 = (a : Int) + ((lebE l).2.1 : Nat) ∧ r3 = 0 from by
    unfold getE at hr
    rw [if_neg (by omega), Int.toNat_natCast, hlq] at hr
    split at hr
    · rename_i h
      injection hr with h1 hr
      injection hr with h2 h3
      exact .inl ⟨h, h1.symm, h2.symm, h3.symm⟩
    · rename_i h
      injection hr with h1 hr
      injection hr with h2 h3
      exact .inr ⟨by simpa using h, h1.symm, h2.symm, h3.symm⟩)
  clear hs hb hl ha hr hlq
  go_enter Try.func44, Try.ntmps44
  go_upto_block 0 with (fail)
  go_cut [7] (fun s7 wx => ∃ k : Nat, s7 = .int .i64 k ∧ wx = w ∧ Hid (k = runN 9 l))
  case first =>
    go_wp2_with fail
    go_loopg [7] 11 (fun g s7 wx => ∃ k : Nat, s7 = .int .i64 k ∧ wx = w ∧ Hid (k ≤ 9 ∧ 10 - k < g ∧ k ≤ l.length) ∧ Hid (∀ j, j < k → 128 ≤ l.getD j 0))
    case atStart => exact ⟨0, rfl, rfl, ⟨by omega, by omega, Nat.zero_le _⟩, fun j hj => by omega⟩
    case round =>
      obtain ⟨k, rfl, rfl, HK, HN⟩ := hrel
      by_cases hk : k < 9
      · have hki : (k : Int) < 9 := by omega
        have Hk := Lib.hid hk
        clear hk
        by_cases hend : a + k < bs.length
        · have hlt' : (a : Int) + k < bs.length := by omega
          have hkl : k < l.length := by have := Hll.out; omega
          obtain ⟨b1, o1, rfl, _, hc1⟩ := HS.out.at_ (s := 1) (fun _ => rfl) rfl hend
          have c1 := hc1 0 (by omega)
          have Hlk := Lib.hid (show l.getD k 0 = bs[a + k] by rw [Hget.out k hkl, List.getD_eq_getElem?_getD, List.getElem?_eq_getElem hend]; rfl)
          have Hkl := Lib.hid hkl
          simp [encB] at c1
          generalize bs[a + k] = x at c1 Hlk
          have hnn : (0 : Int) ≤ (a : Int) + k := by omega
          have htn : ((a : Int) + k).toNat = a + k := by omega
          clear hend hkl hc1
          by_cases hx : 128 ≤ x
          · have hx1 : x ≥ 128 := hx
            have Hx := Lib.hid hx
            clear hx
            go_wp2_with fail
            go_roundg (gk - 1)
            case measure => have := HK.out; omega
            case rel =>
              refine ⟨k + 1, by go_num, rfl, ⟨by have := Hk.out; omega, by have := HK.out; omega, by have := Hkl.out; omega⟩, fun j hj => ?_⟩
              rcases Nat.lt_or_ge j k with h | h
              · exact HN.out j h
              · obtain rfl : j = k := by omega
                rw [Hlk.out]
                exact Hx.out
          · have hx1 : ¬ x ≥ 128 := hx
            have Hx := Lib.hid hx
            clear hx
            go_wp2_with fail
            go_meet
            exact ⟨k, rfl, rfl, (runN_eq HN.out (by have := Hk.out; omega) (by have := Hkl.out; omega) (fun _ _ => by rw [Hlk.out]; have := Hx.out; omega)).symm⟩
        · have hlt' : ¬ (a : Int) + k < bs.length := by omega
          have hee : decide ((a : Int) + k < bs.length) = false := decide_eq_false hlt'
          have Hend := Lib.hid hend
          clear hend
          go_wp2_with fail
          go_meet
          exact ⟨k, rfl, rfl, (runN_eq HN.out (by have := Hk.out; omega) (by have := HK.out; omega) (fun _ h => by have := Hend.out; have := Hll.out; omega)).symm⟩
      · obtain rfl : k = 9 := by have := HK.out; omega
        go_wp2_with fail
        go_meet
        exact ⟨9, rfl, rfl, (runN_eq HN.out (Nat.le_refl _) HK.out.2.2 (fun h => by omega)).symm⟩
  case rest =>
  obtain ⟨k, rfl, rfl, HC⟩ := hcut
  have Hle9 := Lib.hid (runN_le 9 l)
  have hki : (k : Int) ≤ 9 := by have := HC.out; have := Hle9.out; omega
  by_cases hend : a + k = bs.length
  · have hee : ((a : Int) + k == bs.length) = true := by rw [beq_iff_eq]; omega
    have hle : lebE l = (0, 0, 4) := by unfold lebE; rw [if_pos (by rw [← HC.out]; have := Hll.out; omega)]
    have hres : r1 = 0 ∧ r2 = 0 ∧ r3 = 4 := by
      have := Hr.out
      rw [hle] at this
      rcases this with h | h
      · exact ⟨h.2.1, h.2.2.1, h.2.2.2⟩
      · exact absurd h.1 (by decide)
    obtain ⟨rfl, rfl, rfl⟩ := hres
    clear hle hend
    go_wp2_with fail
    go_ret3
    exact ⟨rfl, rfl⟩
  have hne : ((a : Int) + k == bs.length) = false := by rw [beq_eq_false_iff_ne]; omega
  have hkl : k < l.length := by have := HC.out; have := Hle9.out; have := Hll.out; omega
  have hlt : a + k < bs.length := by have := Hll.out; omega
  obtain ⟨b1, o1, rfl, _, hc1⟩ := HS.out.at_ (s := 1) (fun _ => rfl) rfl hlt
  have c1 := hc1 0 (by omega)
  have Hx := Lib.hid (HB.out _ (List.getElem_mem hlt))
  have hlk : l.getD k 0 = bs[a + k] := by rw [Hget.out k hkl, List.getD_eq_getElem?_getD, List.getElem?_eq_getElem hlt]; rfl
  simp [encB] at c1
  have Hle := Lib.hid (show (bad (bs[a + k]) k → lebE l = (0, 0, 5)) ∧ (¬ bad (bs[a + k]) k → lebE l = (accF l (k + 1), k + 1, 0)) from by
    unfold lebE
    rw [← HC.out, if_neg (by omega), hlk]
    exact ⟨fun h => if_pos h, fun h => if_neg h⟩)
  have Htop := Lib.hid (show ¬ bad (bs[a + k]) k → accF l (k + 1) < 2 ^ 64 from fun h => acc_top HC.out (by rw [hlk]; exact h) (by rw [← HC.out]; exact hkl) Hlb.out)
  generalize bs[a + k] = x at c1 Hx Hle Htop
  have hlt' : (a : Int) + k < bs.length := by omega
  have hnn : (0 : Int) ≤ (a : Int) + k := by omega
  have htn : ((a : Int) + k).toNat = a + k := by omega
  have hx0 : (0 : Int) ≤ x := by have := Hx.out; omega
  have Hkl := Lib.hid hkl
  clear hkl hlt hc1 hlk hend
  by_cases hbad : bad x k
  · have hle := Hle.out.1 hbad
    have hres : r1 = 0 ∧ r2 = 0 ∧ r3 = 5 := by
      have := Hr.out
      rw [hle] at this
      rcases this with h | h
      · exact ⟨h.2.1, h.2.2.1, h.2.2.2⟩
      · exact absurd h.1 (by decide)
    obtain ⟨rfl, rfl, rfl⟩ := hres
    clear hle
    by_cases hb1 : k = 9 ∧ 1 < x
    · obtain ⟨rfl, hx1⟩ := hb1
      have hgt : x > 1 := hx1
      go_wp2_with fail
      go_ret3
      exact ⟨rfl, rfl⟩
    · obtain ⟨hk0, rfl⟩ : 0 < k ∧ x = 0 := by
        unfold bad at hbad
        rcases hbad with h | h
        · exact absurd h hb1
        · exact h
      have hkp : (k : Int) > 0 := by omega
      have hkd : decide (0 < k) = true := decide_eq_true hk0
      clear hb1 hbad
      by_cases hk9 : k = 9
      · subst hk9
        go_wp2_with fail
        go_ret3
        exact ⟨rfl, rfl⟩
      · have hk9' : ((k : Int) == 9) = false := by rw [beq_eq_false_iff_ne]; omega
        clear hk9 hk0
        go_wp2_with fail
        go_ret3
        exact ⟨rfl, rfl⟩
  have hle := Hle.out.2 hbad
  have htop := Htop.out hbad
  have hres : r1 = ((accF l (k + 1) : Nat) : Int) ∧ r2 = (a : Int) + ((k + 1 : Nat) : Int) ∧ r3 = 0 := by
    have := Hr.out
    rw [hle] at this
    rcases this with h | h
    · exact absurd rfl h.1
    · exact h.2
  obtain ⟨rfl, rfl, rfl⟩ := hres
  have Hb := Lib.hid hbad
  have HT := Lib.hid (show ∀ v j x : Nat, v * 128 ^ j + x = accF l (k + 1) → Fits v from fun v j x h => by
    have := horner_le h
    unfold Fits
    have h64 : (2 : Nat) ^ 64 = 18446744073709551616 := by decide
    omega)
  have Hres2 := Lib.hid (show (a : Int) + ((k + 1 : Nat) : Int) = (a : Int) + (k : Int) + 1 by omega)
  have Hhor := Lib.hid (fun v j => @horner l v j (accF l (k + 1)))
  have Hacc0 := Lib.hid (show accF l 0 = 0 from rfl)
  have Hstart := Lib.hid (show 0 * 128 ^ (k + 1) + accF l (k + 1) = accF l (k + 1) by omega)
  clear hle htop hbad
  have hcs : (((k : Int) == 9) = true ∧ ¬ x > 1 ∧ (x == 0) = false ∧ decide (0 < k) = true) ∨ (((k : Int) == 9) = false ∧ decide (0 < k) = false) ∨ (((k : Int) == 9) = false ∧ decide (0 < k) = true ∧ (x == 0) = false) := by
    by_cases h9 : k = 9
    · refine .inl ⟨by rw [beq_iff_eq]; omega, fun h => Hb.out (.inl ⟨h9, h⟩), by rw [beq_eq_false_iff_ne]; exact fun h => Hb.out (.inr ⟨by omega, h⟩), decide_eq_true (by omega)⟩
    · by_cases h0 : 0 < k
      · exact .inr (.inr ⟨by rw [beq_eq_false_iff_ne]; omega, decide_eq_true h0, by rw [beq_eq_false_iff_ne]; exact fun h => Hb.out (.inr ⟨h0, h⟩)⟩)
      · exact .inr (.inl ⟨by rw [beq_eq_false_iff_ne]; omega, decide_eq_false h0⟩)
  rcases hcs with ⟨q1, q2, q3, q4⟩ | ⟨q1, q4⟩ | ⟨q1, q4, q3⟩
  all_goals
    go_upto_block 2 with (fail)
    go_wp2_with fail
    go_loopg [9, 10] (k + 2) (fun g s9 s10 wx => ∃ (v j : Nat), s9 = .int .u64 v ∧ s10 = .int .i64 ((j : Int) - 1) ∧ wx = wc ∧ Hid (j ≤ k + 1 ∧ j < g ∧ v * 128 ^ j + accF l j = accF l (k + 1)))
    case atStart => exact ⟨0, k + 1, rfl, by congr 1; omega, rfl, Nat.le_refl _, by omega, Hstart.out⟩
    case round =>
      obtain ⟨v, j, rfl, rfl, rfl, HJ⟩ := hrel
      cases j with
      | zero =>
        have hneg : ¬ ((0 : Nat) : Int) - 1 ≥ 0 := by omega
        have hfin : v = accF l (k + 1) := by have := HJ.out.2.2; rw [Hacc0.out] at this; simpa using this
        have Hfin := Lib.hid hfin
        clear hfin
        go_wp2_with fail
        go_ret3
        refine ⟨?_, rfl⟩
        have Hres3 : (a : Int) + ((k : Int) + 1) = (a : Int) + (k : Int) + 1 := by omega
        rw [← Hfin.out, Hres3]
        rfl
      | succ j =>
        have hj1 : ((j + 1 : Nat) : Int) - 1 = (j : Int) := by omega
        rw [hj1]
        have hj10 : (j : Int) ≤ 9 := by have := HJ.out.1; omega
        have Hstep := Lib.hid (Hhor.out v j HJ.out.2.2)
        have hlt2 : a + j < bs.length := by have := HJ.out.1; have := Hkl.out; have := Hll.out; omega
        obtain ⟨b3, o3, hA3, _, hc3⟩ := HS.out.at_ (s := 1) (fun _ => rfl) rfl hlt2
        injection hA3 with hA3
        injection hA3 with hA3 hA4
        subst hA3 hA4
        have c3 := hc3 0 (by omega)
        have hlj : l.getD j 0 = bs[a + j] := by rw [Hget.out j (by have := HJ.out.1; have := Hkl.out; omega), List.getD_eq_getElem?_getD, List.getElem?_eq_getElem hlt2]; rfl
        have hyb := HB.out _ (List.getElem_mem hlt2)
        rw [hlj] at Hstep
        simp [encB] at c3
        clear hlj
        generalize bs[a + j] = y at c3 Hstep hyb
        obtain ⟨z, rfl⟩ : ∃ z : Nat, y = z := ⟨y.toNat, by omega⟩
        rw [Int.toNat_natCast] at Hstep
        have hf1 := HT.out _ _ _ Hstep.out
        have hlt3 : (a : Int) + j < bs.length := by omega
        have hnn3 : (0 : Int) ≤ (a : Int) + j := by omega
        have htn3 : ((a : Int) + j).toNat = a + j := by omega
        have hw1 : IntKind.u64.wrap (128 * (v : Int)) = ((128 * v : Nat) : Int) := by
          have := wrapF (v := 128 * v) (by unfold Fits at hf1 ⊢; omega)
          rw [Int.natCast_mul] at this ⊢
          exact this
        have hw2 : IntKind.u64.wrap (((128 * v : Nat) : Int) + (z : Int) % 128) = ((128 * v + z % 128 : Nat) : Int) := by
          have := wrapF hf1
          rw [Int.natCast_add] at this ⊢
          exact this
        have Hw1 := Lib.hid hw1
        have Hw2 := Lib.hid hw2
        clear hc3 hyb hf1 hlt2 hj1 hw1 hw2
        go_wp2_with fail
        go_roundg (gk - 1)
        case measure => have := HJ.out; omega
        case rel =>
          refine ⟨128 * v + z % 128, j, ?_, rfl, rfl, by have := HJ.out; omega, by have := HJ.out; omega, Hstep.out⟩
          rw [← Hw2.out, ← Hw1.out]
end Leb
end Go.Proofs.Ytmjpghaggnpdbaa
