/- leb: Get. -/
import Derived.Test.YtmjpghaggnpdbaaBWb
set_option linter.unusedVariables false
set_option linter.unusedSimpArgs false
namespace Go.Proofs.Ytmjpghaggnpdbaa
open Go.RowKit
open Voc
namespace Leb
def Bs (bs : List Int) : Prop := ∀ c ∈ bs, 0 ≤ c ∧ c < 256
/-- what Get answers -/
def getE (bs : List Int) (at_ : Int) : Int × Int × Int :=
  if at_ < 0 ∨ (bs.length : Int) < at_ then (0, 0, 2)
  else if (lebE (bs.drop at_.toNat)).2.2 ≠ 0 then (0, 0, (lebE (bs.drop at_.toNat)).2.2)
  else (((lebE (bs.drop at_.toNat)).1 : Nat), at_ + ((lebE (bs.drop at_.toNat)).2.1 : Nat), 0)
set_option maxRecDepth 20000 in
theorem step_or {acc y k : Nat} (hacc : acc < 128 ^ k) (hy : y < 256) (hk : k ≤ 8 ∨ (k = 9 ∧ y ≤ 1)) :
    bits BinOp.or IntKind.u64 (acc : Int) (IntKind.u64.wrap (IntKind.u64.wrap (bits BinOp.and IntKind.u8 (y : Int) 127) * 2 ^ (7 * k))) = ((acc + y % 128 * 128 ^ k : Nat) : Int) := by
  have e1 : bits BinOp.and IntKind.u8 (y : Int) 127 = ((y % 128 : Nat) : Int) := by
    have := and8 (show y < 2 ^ 8 by omega) (show 127 < 2 ^ 8 by decide)
    rw [and_127] at this
    exact this
  have e2 : IntKind.u64.wrap ((y % 128 : Nat) : Int) = ((y % 128 : Nat) : Int) := by show ((y % 128 : Nat) : Int) % 18446744073709551616 = _; omega
  have e3 : (128 : Nat) ^ k = 2 ^ (7 * k) := by rw [Nat.pow_mul]
  have hb : y % 128 * 2 ^ (7 * k) < 2 ^ 64 := by
    rcases hk with h | ⟨rfl, h⟩
    · have h1 : 2 ^ (7 * k) ≤ 2 ^ 56 := Nat.pow_le_pow_right (by omega) (by omega)
      have h2 : y % 128 * 2 ^ (7 * k) ≤ 127 * 2 ^ 56 := Nat.mul_le_mul (by omega) h1
      have h3 : 127 * 2 ^ 56 < (2 : Nat) ^ 64 := by decide
      exact Nat.lt_of_le_of_lt h2 h3
    · have h2 : y % 128 * 2 ^ (7 * 9) ≤ 1 * 2 ^ 63 := Nat.mul_le_mul (by omega) (by decide)
      have h3 : 1 * 2 ^ 63 < (2 : Nat) ^ 64 := by decide
      exact Nat.lt_of_le_of_lt h2 h3
  have ha : acc < 2 ^ 64 := by
    rcases hk with h | ⟨rfl, h⟩
    · have h1 : 128 ^ k ≤ 128 ^ 8 := Nat.pow_le_pow_right (by omega) h
      have h3 : 128 ^ 8 < (2 : Nat) ^ 64 := by decide
      omega
    · have h3 : 128 ^ 9 < (2 : Nat) ^ 64 := by decide
      omega
  have e4 : IntKind.u64.wrap (((y % 128 : Nat) : Int) * 2 ^ (7 * k)) = ((y % 128 * 2 ^ (7 * k) : Nat) : Int) := by
    have : ((y % 128 : Nat) : Int) * 2 ^ (7 * k) = ((y % 128 * 2 ^ (7 * k) : Nat) : Int) := by
      rw [Int.natCast_mul, Int.natCast_pow]; rfl
    rw [this]
    show ((y % 128 * 2 ^ (7 * k) : Nat) : Int) % 18446744073709551616 = _
    have h64 : (2 : Nat) ^ 64 = 18446744073709551616 := by decide
    omega
  rw [e1, e2, e4, or64 ha hb, or_add (by rw [← e3]; exact hacc), e3]
/-- the number as far as it has come; behind what leaves the loop -/
def NAt (l : List Int) (k : Nat) (N : Int) : Prop := k ≤ 9 → N = ((accF l k : Nat) : Int)
set_option maxRecDepth 20000 in
set_option maxHeartbeats 4000000 in
theorem get_in {w : World} {v : Value} {bs : List Int} (a : Nat) (ha : a ≤ bs.length) (hs : SL encB w v bs) (hb : Bs bs) (hl : bs.length ≤ 4194304) (r1 r2 r3 : Int) (hr : getE bs (a : Int) = (r1, r2, r3)) :
    Calls Try.prog 41 #[v, .int .i64 (a : Int)] w fun e w' => e = .returned (.tuple #[.int .u64 r1, .int .i64 r2, .int .i64 r3]) ∧ w = w' := by
  have HS := Lib.hid hs
  obtain ⟨A, cap, rfl⟩ := SL.form hs
  have HB := Lib.hid hb
  have hl' : (bs.length : Int) ≤ 4194304 := by omega
  have ha' : (a : Int) ≤ bs.length := by omega
  have Ha := Lib.hid ha
  have ha1 : decide (bs.length < a) = false := decide_eq_false (by omega)
  have ha2 : decide ((a : Int) < 0) = false := decide_eq_false (by omega)
  obtain ⟨l, hlq⟩ : ∃ l, bs.drop a = l := ⟨_, rfl⟩
  have Hll := Lib.hid (show l.length = bs.length - a by rw [← hlq, List.length_drop])
  have Hget := Lib.hid (show ∀ k, k < l.length → l.getD k 0 = bs.getD (a + k) 0 from fun k hk => by
    rw [← hlq, List.getD_eq_getElem?_getD, List.getElem?_drop, ← List.getD_eq_getElem?_getD])
  have Hr := Lib.hid (show (lebE l).2.2 ≠ 0 ∧ r1 = 0 ∧ r2 = 0 ∧ r3 = (lebE l).2.2 ∨ (lebE l).2.2 = 0 ∧ r1 = ((lebE l).1 : Nat) ∧ r2 = (a : Int) + ((lebE l).2.1 : Nat) ∧ r3 = 0 from by
    unfold getE at hr
    rw [if_neg (by omega), Int.toNat_natCast, hlq] at hr
    split at hr
    · rename_i h
      injection hr with h1 hr
      injection hr with h2 h3
      exact .inl ⟨h, h1.symm, h2.symm, h3.symm⟩
    · rename_i h
      injection hr with h1 hr
      injection hr with h2 h3
      exact .inr ⟨by simpa using h, h1.symm, h2.symm, h3.symm⟩)
  clear hs hb hl ha hr hlq
  go_enter Try.func41, Try.ntmps41
  go_wp2_with fail
  go_step3
  go_wp2_with fail
  go_step3
  go_upto_block 0 with (fail)
  go_cut [4, 7] (fun s4 s7 wx => ∃ (k : Nat) (N : Int), s7 = .int .i64 k ∧ s4 = .int .u64 N ∧ wx = w ∧ Hid ((∀ j, j < k → 128 ≤ l.getD j 0) ∧ k ≤ 10 ∧ (k = 10 ∧ 10 ≤ l.length ∨ k ≤ 9 ∧ k < l.length ∧ l.getD k 0 < 128 ∧ ((k ≤ 8 ∨ (k = 9 ∧ l.getD 9 0 ≤ 1)) → N = ((accF l (k + 1) : Nat) : Int)))))
  case first =>
    go_wp2_with fail
    go_loopg [4, 7] 11 (fun g s4 s7 wx => ∃ (k : Nat) (N : Int), s7 = .int .i64 k ∧ s4 = .int .u64 N ∧ wx = w ∧ Hid (k ≤ 10 ∧ 10 - k < g ∧ k ≤ l.length) ∧ Hid ((∀ j, j < k → 128 ≤ l.getD j 0) ∧ NAt l k N))
    case atStart => exact ⟨0, 0, rfl, rfl, rfl, ⟨by omega, by omega, Nat.zero_le _⟩, fun j hj => by omega, fun _ => rfl⟩
    case round =>
      obtain ⟨k, N, rfl, rfl, rfl, HK, HN⟩ := hrel
      by_cases hk : k < 10
      · have hki : (k : Int) < 10 := by omega
        have Hk := Lib.hid hk
        clear hk
        by_cases hend : a + k = bs.length
        · have hee : ((a : Int) + k == bs.length) = true := by rw [beq_iff_eq]; omega
          have hlk : k = l.length := by have := Hll.out; have := Ha.out; omega
          have hrun : runN 9 l = l.length := by
            rw [← hlk]
            exact runN_eq HN.out.1 (by have := Hk.out; omega) (by omega) (fun _ h => by omega)
          have hle : lebE l = (0, 0, 4) := by unfold lebE; rw [if_pos hrun]
          have hres : r1 = 0 ∧ r2 = 0 ∧ r3 = 4 := by
            have := Hr.out
            rw [hle] at this
            rcases this with h | h
            · exact ⟨h.2.1, h.2.2.1, h.2.2.2⟩
            · exact absurd h.1 (by decide)
          obtain ⟨rfl, rfl, rfl⟩ := hres
          clear hle hrun hlk hend
          go_wp2_with fail
          try rw [Exit.noGoto_ret]
          go_ret3
          exact ⟨rfl, rfl⟩
        · have hne : ((a : Int) + k == bs.length) = false := by rw [beq_eq_false_iff_ne]; omega
          have hlt : a + k < bs.length := by have := HK.out; have := Hll.out; have := Ha.out; omega
          have hkl : k < l.length := by have := Hll.out; omega
          obtain ⟨b1, o1, rfl, _, hc1⟩ := HS.out.at_ (s := 1) (fun _ => rfl) rfl hlt
          have c1 := hc1 0 (by omega)
          have Hx := Lib.hid (HB.out _ (List.getElem_mem hlt))
          have Hlk := Lib.hid (show l.getD k 0 = bs[a + k] by rw [Hget.out k hkl, List.getD_eq_getElem?_getD, List.getElem?_eq_getElem hlt]; rfl)
          have Hkl := Lib.hid hkl
          simp [encB] at c1
          generalize bs[a + k] = x at c1 Hx Hlk
          obtain ⟨y, rfl⟩ : ∃ y : Nat, x = y := ⟨x.toNat, by have := Hx.out; omega⟩
          have hlt' : (a : Int) + k < bs.length := by omega
          have hnn : (0 : Int) ≤ (a : Int) + k := by omega
          have htn : ((a : Int) + k).toNat = a + k := by omega
          have Hor := Lib.hid (show (k ≤ 8 ∨ (k = 9 ∧ y ≤ 1)) → bits BinOp.or IntKind.u64 N (IntKind.u64.wrap (IntKind.u64.wrap (bits BinOp.and IntKind.u8 (y : Int) 127) * 2 ^ (7 * k))) = ((accF l (k + 1) : Nat) : Int) from fun h => by
            rw [HN.out.2 (by omega), step_or (accF_lt l k) (by have := Hx.out; omega) h]
            simp only [accF]
            rw [Hlk.out, Int.toNat_natCast])
          clear hend hlt hkl hc1
          by_cases hy : y < 128
          · have hy1 : decide ((y : Int) < 128) = true := decide_eq_true (by omega)
            have hy2 : (y : Int) < 128 := by omega
            have Hy := Lib.hid hy
            clear hy
            go_wp2_with fail
            go_meet
            refine ⟨k, _, rfl, rfl, rfl, HN.out.1, by have := Hk.out; omega, .inr ⟨by have := Hk.out; omega, Hkl.out, by rw [Hlk.out]; have := Hy.out; omega, fun h => ?_⟩⟩
            refine Hor.out ?_
            rcases h with h | ⟨h, h2⟩
            · exact .inl h
            · subst h; rw [Hlk.out] at h2; exact .inr ⟨rfl, by omega⟩
          · have hy1 : decide ((y : Int) < 128) = false := decide_eq_false (by omega)
            have hy2 : ¬ (y : Int) < 128 := by omega
            have Hy := Lib.hid hy
            clear hy
            go_wp2_with fail
            go_roundg (gk - 1)
            case measure => have := HK.out; omega
            case rel =>
              refine ⟨k + 1, _, by go_num, rfl, rfl, ⟨by have := Hk.out; omega, by have := HK.out; omega, by have := Hkl.out; omega⟩, fun j hj => ?_, fun h9 => Hor.out (.inl (by omega))⟩
              rcases Nat.lt_or_ge j k with h | h
              · exact HN.out.1 j h
              · obtain rfl : j = k := by omega
                rw [Hlk.out]
                have := Hy.out
                omega
      · obtain rfl : k = 10 := by have := HK.out; omega
        go_wp2_with fail
        go_meet
        exact ⟨10, N, rfl, rfl, rfl, HN.out.1, Nat.le_refl _, .inl ⟨rfl, HK.out.2.2⟩⟩
  case rest =>
  obtain ⟨k, N, rfl, rfl, rfl, HC⟩ := hcut
  have hki : (k : Int) ≤ 10 := by have := HC.out.2.1; omega
  by_cases h10 : k = 10
  · subst h10
    have hle : lebE l = (0, 0, 5) := by
      have hl10 : 10 ≤ l.length := by
        rcases HC.out.2.2 with h | h
        · exact h.2
        · omega
      have hrun : runN 9 l = 9 := runN_eq (fun j hj => HC.out.1 j (by omega)) (Nat.le_refl _) (by omega) (fun h => by omega)
      have h9 := HC.out.1 9 (by omega)
      unfold lebE
      rw [hrun, if_neg (by omega), if_pos (by unfold bad; exact .inl ⟨rfl, by omega⟩)]
    have hres : r1 = 0 ∧ r2 = 0 ∧ r3 = 5 := by
      have := Hr.out
      rw [hle] at this
      rcases this with h | h
      · exact ⟨h.2.1, h.2.2.1, h.2.2.2⟩
      · exact absurd h.1 (by decide)
    obtain ⟨rfl, rfl, rfl⟩ := hres
    clear hle
    go_wp2_with fail
    try rw [Exit.noGoto_ret]
    go_ret3
    exact ⟨rfl, rfl⟩
  · obtain ⟨h9, hkl, hc, hN⟩ := HC.out.2.2.resolve_left (fun h => h10 h.1)
    have hlt : a + k < bs.length := by have := Hll.out; omega
    have hrun : runN 9 l = k := runN_eq HC.out.1 h9 (by omega) (fun _ _ => hc)
    obtain ⟨b1, o1, rfl, _, hc1⟩ := HS.out.at_ (s := 1) (fun _ => rfl) rfl hlt
    have c1 := hc1 0 (by omega)
    have Hx := Lib.hid (HB.out _ (List.getElem_mem hlt))
    have hlk : l.getD k 0 = bs[a + k] := by rw [Hget.out k hkl, List.getD_eq_getElem?_getD, List.getElem?_eq_getElem hlt]; rfl
    simp [encB] at c1
    have Hle := Lib.hid (show (bad (bs[a + k]) k → lebE l = (0, 0, 5)) ∧ (¬ bad (bs[a + k]) k → lebE l = (accF l (k + 1), k + 1, 0)) from by
      unfold lebE
      rw [hrun, if_neg (by omega), hlk]
      exact ⟨fun h => if_pos h, fun h => if_neg h⟩)
    have HN := Lib.hid (show (k ≤ 8 ∨ (k = 9 ∧ bs[a + k] ≤ 1)) → N = ((accF l (k + 1) : Nat) : Int) from fun h => hN (by
      rcases h with h | ⟨h, h2⟩
      · exact .inl h
      · subst h; rw [← hlk] at h2; exact .inr ⟨rfl, h2⟩))
    generalize bs[a + k] = x at c1 Hx Hle HN
    have hlt' : (a : Int) + k < bs.length := by omega
    have hnn : (0 : Int) ≤ (a : Int) + k := by omega
    have htn : ((a : Int) + k).toNat = a + k := by omega
    have hk10 : ((k : Int) == 10) = false := by rw [beq_eq_false_iff_ne]; omega
    have hx0 : (0 : Int) ≤ x := by have := Hx.out; omega
    have H9 := Lib.hid h9
    clear h9 hkl hc hN hlt hrun hc1 hlk h10 HC
    by_cases hbad : bad x k
    · have hle := Hle.out.1 hbad
      have hres : r1 = 0 ∧ r2 = 0 ∧ r3 = 5 := by
        have := Hr.out
        rw [hle] at this
        rcases this with h | h
        · exact ⟨h.2.1, h.2.2.1, h.2.2.2⟩
        · exact absurd h.1 (by decide)
      obtain ⟨rfl, rfl, rfl⟩ := hres
      clear hle
      by_cases hb1 : k = 9 ∧ 1 < x
      · obtain ⟨rfl, hx1⟩ := hb1
        have hgt : x > 1 := hx1
        go_wp2_with fail
        try rw [Exit.noGoto_ret]
        go_ret3
        exact ⟨rfl, rfl⟩
      · obtain ⟨hk0, rfl⟩ : 0 < k ∧ x = 0 := by
          unfold bad at hbad
          rcases hbad with h | h
          · exact absurd h hb1
          · exact h
        have hkp : (k : Int) > 0 := by omega
        have hkd : decide (0 < k) = true := decide_eq_true hk0
        clear hb1 hbad
        by_cases hk9 : k = 9
        · subst hk9
          go_wp2_with fail
          go_ret3
          exact ⟨rfl, rfl⟩
        · have hk9' : ((k : Int) == 9) = false := by rw [beq_eq_false_iff_ne]; omega
          clear hk9 hk0
          go_wp2_with fail
          go_ret3
          exact ⟨rfl, rfl⟩
    · have hle := Hle.out.2 hbad
      have hres : r1 = ((accF l (k + 1) : Nat) : Int) ∧ r2 = (a : Int) + ((k + 1 : Nat) : Int) ∧ r3 = 0 := by
        have := Hr.out
        rw [hle] at this
        rcases this with h | h
        · exact absurd rfl h.1
        · exact h.2
      obtain ⟨rfl, rfl, rfl⟩ := hres
      have hNk : N = ((accF l (k + 1) : Nat) : Int) := HN.out (by
        unfold bad at hbad
        have := H9.out
        rcases Nat.lt_or_ge k 9 with h | h
        · exact .inl (by omega)
        · exact .inr ⟨by omega, by omega⟩)
      have Hb := Lib.hid hbad
      have HNk := Lib.hid hNk
      clear hle hbad hNk
      have he2 : (a : Int) + ((k + 1 : Nat) : Int) = (a : Int) + (k : Int) + 1 := by omega
      have He2 := Lib.hid he2
      clear he2
      by_cases hk9 : k = 9
      · subst hk9
        have hx1 : ¬ x > 1 := fun h => Hb.out (.inl ⟨rfl, h⟩)
        have hx2 : (x == 0) = false := by rw [beq_eq_false_iff_ne]; exact fun h => Hb.out (.inr ⟨by omega, h⟩)
        go_wp2_with fail
        try rw [Exit.noGoto_ret]
        go_ret3
        refine ⟨?_, rfl⟩
        rw [← HNk.out, He2.out]
        rfl
      · have hk9' : ((k : Int) == 9) = false := by rw [beq_eq_false_iff_ne]; omega
        by_cases hk0 : k = 0
        · have hkd : decide (0 < k) = false := decide_eq_false (by omega)
          have hkg : ¬ (k : Int) > 0 := by omega
          clear hk9 hk0
          go_wp2_with fail
          try rw [Exit.noGoto_ret]
          go_ret3
          refine ⟨?_, rfl⟩
          rw [← HNk.out, He2.out]
          rfl
        · have hkd : decide (0 < k) = true := decide_eq_true (by omega)
          have hkg : (k : Int) > 0 := by omega
          have hx2 : (x == 0) = false := by rw [beq_eq_false_iff_ne]; exact fun h => Hb.out (.inr ⟨by omega, h⟩)
          clear hk9 hk0
          go_wp2_with fail
          try rw [Exit.noGoto_ret]
          go_ret3
          refine ⟨?_, rfl⟩
          rw [← HNk.out, He2.out]
          rfl
end Leb
end Go.Proofs.Ytmjpghaggnpdbaa
