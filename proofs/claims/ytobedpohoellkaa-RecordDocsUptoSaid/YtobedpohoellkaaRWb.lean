/- pack: Get. -/
import Derived.Test.YtobedpohoellkaaRWa
import Derived.Test.YtobedpohoellkaaERa
set_option linter.unusedVariables false
set_option linter.unusedSimpArgs false
namespace Go.Proofs.Ytobedpohoellkaa
open Go.RowKit
open Voc Leb Bpe
namespace Rec
theorem getE_nat {bs : List Int} {a : Nat} (ha : a ≤ bs.length) : getE bs (a : Int) = if (lebE (bs.drop a)).2.2 ≠ 0 then (0, 0, (lebE (bs.drop a)).2.2) else ((((lebE (bs.drop a)).1 : Nat) : Int), ((a + (lebE (bs.drop a)).2.1 : Nat) : Int), 0) := by
  unfold getE
  rw [if_neg (by omega), Int.toNat_natCast]
  split
  · rfl
  · rw [Int.natCast_add]
theorem leb_ok {bs : List Int} (hb : Bs bs) {a : Nat} (ha : a ≤ bs.length) (h : (lebE (bs.drop a)).2.2 = 0) : (lebE (bs.drop a)).1 < 2 ^ 64 ∧ a + (lebE (bs.drop a)).2.1 ≤ bs.length := by
  obtain ⟨u, k, e0, hu⟩ : ∃ u k e0, lebE (bs.drop a) = (u, k, e0) := ⟨_, _, _, rfl⟩
  rw [hu] at h ⊢
  simp only at h ⊢
  subst h
  obtain ⟨g1, g2, g3, g4⟩ := putL_read (fun c hc => hb c (List.mem_of_mem_drop hc)) hu
  rw [List.length_drop] at g2
  exact ⟨g3, by omega⟩
theorem rowR_len {bs : List Int} : ∀ (n : Nat) (l : List Int) (was : Int) (a : Nat), (rowR bs n l was a).1.length ≤ l.length + n
  | 0, l, was, a => by simp [rowR]
  | n + 1, l, was, a => by
    simp only [rowR]
    split
    · simp
    · split
      · simp
      · have := rowR_len (bs := bs) n (l ++ [was + unfI (lebE (bs.drop a)).1]) (was + unfI (lebE (bs.drop a)).1) (a + (lebE (bs.drop a)).2.1)
        rw [List.length_append, List.length_singleton] at this
        omega
set_option maxRecDepth 20000 in
set_option maxHeartbeats 4000000 in
theorem packGet_any {w : World} {v : Value} {bs : List Int} (a : Nat) (ha : a ≤ bs.length) (hs : SL encB w v bs) (hb : Bs bs) (hl : bs.length ≤ 4194304) :
    Calls Try.prog 37 #[v, .int .i64 (a : Nat)] w fun e w' => ∃ r, e = .returned (.tuple #[r, .int .i64 ((unpackE bs a).2.1 : Nat), .int .i64 (unpackE bs a).2.2]) ∧ OI w' w.heap.size r (unpackE bs a).1 ∧ Gr w w' := by
  obtain ⟨i1, hi1, hx0, hx1, hx2⟩ := info_parts info_int
  have Hi := Lib.hid (And.intro hi1 (And.intro hx0 (And.intro hx1 hx2)))
  clear hi1 hx0 hx1 hx2
  have HS := Lib.hid hs
  obtain ⟨A, cap, rfl⟩ := SL.form hs
  have HB := Lib.hid hb
  have HL := Lib.hid hl
  have HGt := Lib.hid (fun (wx : World) (b : Nat) (hw : Gr w wx) (hbb : b ≤ bs.length) (r1 r2 r3 : Int) (hr : getE bs (b : Int) = (r1, r2, r3)) => get_in b hbb (hs.gr hw) hb hl r1 r2 r3 hr)
  obtain ⟨⟨R1, R2, R3⟩, hR⟩ : ∃ R, unpackE bs a = R := ⟨_, rfl⟩
  rw [hR]
  have HR := Lib.hid hR
  simp only
  clear hs hb hl hR
  have Hbs := Lib.hid (fun b (hbb : b ≤ bs.length) => leb_ok (bs := bs) HB.out hbb)
  have Hn := Lib.hid (fun b (hbb : b ≤ bs.length) => getE_nat (bs := bs) hbb)
  obtain ⟨u0, k0, e0, hu⟩ : ∃ u k e0, lebE (bs.drop a) = (u, k, e0) := ⟨_, _, _, rfl⟩
  have hn0 := Hn.out a ha
  have hb0 := Hbs.out a ha
  have hr := HR.out
  unfold unpackE at hr
  rw [hu] at hn0 hb0 hr
  simp only at hn0 hb0 hr
  by_cases he : e0 = 0
  case neg =>
    rw [if_pos he] at hn0 hr
    injection hr with e1 hr
    injection hr with e2 e3
    subst e1 e2 e3
    have HG0 := Lib.hid (HGt.out w a (Fr.refl _ _) ha _ _ _ hn0)
    have he1 : (e0 != 0) = true := bne_iff_ne.2 he
    clear hu hn0 hb0 he ha HR
    go_enter Try.func37, Try.ntmps37
    go_wp2_with (go_at_call 36; refine HG0.out.mono ?_; rintro e w2 ⟨rfl, rfl⟩)
    go_ret3
    exact ⟨_, rfl, OI.nil _ _, Fr.refl _ _⟩
  subst he
  rw [if_neg (by decide)] at hn0 hr
  obtain ⟨hlt, hnx⟩ := hb0 rfl
  have HG0 := Lib.hid (HGt.out w a (Fr.refl _ _) ha _ _ _ hn0)
  have h264 : (2 : Nat) ^ 64 = 18446744073709551616 := by decide
  by_cases h65 : 65536 < u0
  case pos =>
    rw [if_pos h65] at hr
    injection hr with e1 hr
    injection hr with e2 e3
    subst e1 e2 e3
    have h65i : (65536 : Int) < (u0 : Int) := by omega
    clear hu hn0 h65 ha HR hlt hnx h264
    go_enter Try.func37, Try.ntmps37
    go_wp2_with (go_at_call 36; refine HG0.out.mono ?_; rintro e w2 ⟨rfl, rfl⟩)
    go_ret3
    exact ⟨_, rfl, OI.nil _ _, Fr.refl _ _⟩
  rw [if_neg h65] at hr
  have h65i : ¬ (65536 : Int) < (u0 : Int) := by omega
  have H65 := Lib.hid (show u0 ≤ 65536 by omega)
  have HRow := Lib.hid hr
  have Hnx := Lib.hid hnx
  obtain ⟨a1, ha1⟩ : ∃ a1, a + k0 = a1 := ⟨_, rfl⟩
  rw [ha1] at HG0 HRow Hnx
  clear hu hn0 h65 ha HR hlt hnx hr ha1 h264
  go_enter Try.func37, Try.ntmps37
  go_upto_region 7 with (go_at_call 36; refine HG0.out.mono ?_; rintro e w2 ⟨rfl, rfl⟩)
  go_wp2_with fail
  go_loopg [4, 5, 6, 8, 26] (u0 + 1) (fun m s4 s5 s6 s8 s26 wr => ∃ (k : Nat) (va : Value) (l : List Int) (was : Int) (b : Nat), va = s4 ∧ s5 = .int .i64 b ∧ s6 = .int .i64 0 ∧ s8 = .int .i64 was ∧ s26 = .int .u64 k ∧ Hid (k ≤ u0 ∧ u0 - k < m ∧ b ≤ bs.length ∧ 0 ≤ was ∧ was ≤ 1048575 ∧ l.length = k) ∧ Hid (rowR bs (u0 - k) l was b = (R1, R2, R3)) ∧ Hid (OI wr w.heap.size va l) ∧ Hid (Gr w wr))
  case atStart => exact ⟨0, .slice none 0 0, [], 0, a1, rfl, rfl, rfl, rfl, rfl, ⟨Nat.zero_le _, by omega, Hnx.out, by omega, by omega, rfl⟩, HRow.out, OI.nil _ _, Fr.refl _ _⟩
  case round =>
    obtain ⟨k, va, l, was, b, rfl, rfl, rfl, rfl, rfl, HK, HW, HO, HG⟩ := hrel
    by_cases hk : k < u0
    · have hki : (k : Int) < (u0 : Int) := by omega
      have Hk := Lib.hid hk
      have hw := HW.out
      rw [show u0 - k = (u0 - (k + 1)) + 1 by omega] at hw
      simp only [rowR] at hw
      obtain ⟨u, kk, e0, hu⟩ : ∃ u k e0, lebE (bs.drop b) = (u, k, e0) := ⟨_, _, _, rfl⟩
      have hn1 := Hn.out b HK.out.2.2.1
      have hb1 := Hbs.out b HK.out.2.2.1
      rw [hu] at hw hn1 hb1
      simp only at hw hn1 hb1
      by_cases he : e0 = 0
      case neg =>
        rw [if_pos he] at hn1 hw
        injection hw with e1 hw
        injection hw with e2 e3
        subst e1 e2 e3
        have HG1 := Lib.hid (HGt.out wr b HG.out HK.out.2.2.1 _ _ _ hn1)
        have he1 : (e0 != 0) = true := bne_iff_ne.2 he
        clear hu hn1 hb1 he hk
        go_wp2_with (go_at_call 36; refine HG1.out.mono ?_; rintro e w2 ⟨rfl, rfl⟩)
        go_ret3
        exact ⟨_, rfl, OI.nil _ _, HG.out⟩
      subst he
      rw [if_neg (by decide)] at hn1 hw
      obtain ⟨hlt, hnx⟩ := hb1 rfl
      have HG1 := Lib.hid (HGt.out wr b HG.out HK.out.2.2.1 _ _ _ hn1)
      have HUn := Lib.hid (fun wx => Unfold_any u hlt wx)
      obtain ⟨d, hd⟩ : ∃ d, unfI u = d := ⟨_, rfl⟩
      rw [hd] at hw HUn
      have Hw := HK
      have hneg : IntKind.i64.wrap (-was) = -was := IntWalk.i64_in _ ⟨by have := HK.out; omega, by have := HK.out; omega⟩
      have hsub : IntKind.i64.wrap (1048575 - was) = 1048575 - was := IntWalk.i64_in _ ⟨by have := HK.out; omega, by have := HK.out; omega⟩
      by_cases h1 : d < -was
      case pos =>
        rw [if_pos (Or.inl h1)] at hw
        injection hw with e1 hw
        injection hw with e2 e3
        subst e1 e2 e3
        have h1' : decide (d < -was) = true := decide_eq_true h1
        clear hu hn1 hb1 hk hd h1 hlt hnx
        go_wp2_with (first
          | (go_at_call 36; refine HG1.out.mono ?_; rintro e w2 ⟨rfl, rfl⟩)
          | (go_at_call 53; refine (HUn.out _).mono ?_; rintro e w2 ⟨rfl, rfl⟩))
        go_ret3
        exact ⟨_, rfl, OI.nil _ _, HG.out⟩
      by_cases h2 : 1048575 - was < d
      case pos =>
        rw [if_pos (Or.inr h2)] at hw
        injection hw with e1 hw
        injection hw with e2 e3
        subst e1 e2 e3
        have h1' : decide (d < -was) = false := decide_eq_false h1
        have h2' : decide (1048575 - was < d) = true := decide_eq_true h2
        clear hu hn1 hb1 hk hd h1 h2 hlt hnx
        go_wp2_with (first
          | (go_at_call 36; refine HG1.out.mono ?_; rintro e w2 ⟨rfl, rfl⟩)
          | (go_at_call 53; refine (HUn.out _).mono ?_; rintro e w2 ⟨rfl, rfl⟩))
        go_ret3
        exact ⟨_, rfl, OI.nil _ _, HG.out⟩
      rw [if_neg (by omega)] at hw
      have h1' : decide (d < -was) = false := decide_eq_false h1
      have h2' : decide (1048575 - was < d) = false := decide_eq_false h2
      have Hd := Lib.hid (show 0 ≤ was + d ∧ was + d ≤ 1048575 by have := HK.out; omega)
      have hadd : IntKind.i64.wrap (was + d) = was + d := IntWalk.i64_in _ ⟨by have := Hd.out; omega, by have := Hd.out; omega⟩
      have HW2 := Lib.hid hw
      have Hnx1 := Lib.hid hnx
      obtain ⟨b1, hb1'⟩ : ∃ b1, b + kk = b1 := ⟨_, rfl⟩
      rw [hb1'] at HG1 HW2 Hnx1
      clear hu hn1 hb1 hk hd h1 h2 hlt hnx hw hb1'
      go_upto_region 17 with (first
        | (go_at_call 36; refine HG1.out.mono ?_; rintro e w2 ⟨rfl, rfl⟩)
        | (go_at_call 53; refine (HUn.out _).mono ?_; rintro e w2 ⟨rfl, rfl⟩)
        | (at_builtin
           refine wpList_append_st _ encI rfl _ _ 25 rfl w.heap.size TI i1 (.int .i64 0) 1 8 Try.underlying25 Hi.out.1 Hi.out.2.1 Hi.out.2.2.1 Hi.out.2.2.2 rfl (by decide) va l.length _ rfl (HO.out.own.alloc _) (.slice (some ⟨wr.heap.size, 0, none⟩) 1 1) [was + d] rfl (sl_one (enc := encI) wr (was + d) #[.int .i64 (was + d)] rfl TI) (fun _ => rfl) encI_1 (by have := HK.out; have := H65.out; simp only [maxLen, List.length_singleton]; omega) (by have := HK.out; have := H65.out; simp only [List.length_singleton]; omega) (Nat.le_trans HG.out.size (by simp)) ?_
           intro v4 w4 hown4 hg4 hat4 hsp4
           have HG4 := Lib.hid (show Gr w w4 from (HG.out.alloc (.cells #[.int .i64 (was + d)] TI)).trans hg4 (fun i hi e => by have := (HO.out.own.lt i e).1; omega))
           have HO4 := Lib.hid (show OI w4 w.heap.size v4 (l ++ [was + d]) from HO.out.app (m := [was + d]) ((Fr.refl wr NoneS).alloc _) hown4 hsp4)
           clear hown4 hg4 hat4 hsp4))
      go_wp2_with fail
      go_roundg (gk - 1)
      case measure => have := HK.out; have := Hk.out; omega
      case rel => exact ⟨k + 1, v4, l ++ [was + d], was + d, b1, rfl, rfl, rfl, rfl, by go_num, ⟨Hk.out, by have := HK.out; have := Hk.out; omega, Hnx1.out, Hd.out.1, Hd.out.2, by have := HK.out; simp; omega⟩, HW2.out, HO4.out, HG4.out⟩
    · have Hk := Lib.hid (show k = u0 by have := HK.out; omega)
      have hki : decide ((k : Int) < (u0 : Int)) = false := decide_eq_false (by omega)
      have hw := HW.out
      rw [Hk.out, Nat.sub_self] at hw
      simp only [rowR] at hw
      injection hw with e1 hw
      injection hw with e2 e3
      subst e1 e2 e3
      go_wp2_with fail
      go_ret3
      exact ⟨va, rfl, HO.out, HG.out⟩
end Rec
end Go.Proofs.Ytobedpohoellkaa
