/- pack: the reference's Fold, Unfold, Count, Put, Get. -/
import Derived.Test.YtobedpohoellkaaRWb
set_option linter.unusedVariables false
set_option linter.unusedSimpArgs false
namespace Go.Proofs.Ytobedpohoellkaa
open Go.RowKit
open Voc Leb Bpe
namespace Rec
theorem rFold_any (n : Int) (hn : -1048576 ≤ n ∧ n ≤ 1048576) (w : World) :
    Calls Try.prog 52 #[.int .i64 n] w fun e w' => e = .returned (.int .u64 ((foldN n : Nat) : Int)) ∧ w = w' := by
  by_cases h : 0 ≤ n
  · have e1 : IntKind.u64.wrap n = n := by show n % 18446744073709551616 = _; omega
    have e2 : IntKind.u64.wrap (2 * n) = 2 * n := by show (2 * n) % 18446744073709551616 = _; omega
    have e3 : ((foldN n : Nat) : Int) = 2 * n := by unfold foldN; rw [if_pos h]; omega
    rw [e3]
    go_enter Try.func52, Try.ntmps52
    go_wp2_with fail
    go_ret
    exact ⟨rfl, rfl⟩
  · have e0 : IntKind.i64.wrap (n + 1) = n + 1 := IntWalk.i64_in _ ⟨by omega, by omega⟩
    have e0' : IntKind.i64.wrap (-(n + 1)) = -(n + 1) := IntWalk.i64_in _ ⟨by omega, by omega⟩
    have e1 : IntKind.u64.wrap (-(n + 1)) = -(n + 1) := by show (-(n + 1)) % 18446744073709551616 = _; omega
    have e2 : IntKind.u64.wrap (2 * -(n + 1)) = 2 * -(n + 1) := by show (2 * -(n + 1)) % 18446744073709551616 = _; omega
    have e4 : IntKind.u64.wrap (2 * -(n + 1) + 1) = 2 * -(n + 1) + 1 := by show (2 * -(n + 1) + 1) % 18446744073709551616 = _; omega
    have e3 : ((foldN n : Nat) : Int) = 2 * -(n + 1) + 1 := by unfold foldN; rw [if_neg h]; omega
    rw [e3]
    go_enter Try.func52, Try.ntmps52
    go_wp2_with fail
    go_ret
    exact ⟨rfl, rfl⟩
theorem rUnfold_any (u : Nat) (hu : u < 2 ^ 64) (w : World) :
    Calls Try.prog 55 #[.int .u64 (u : Int)] w fun e w' => e = .returned (.int .i64 (unfI u)) ∧ w = w' := by
  have h2 : (2 : Nat) ^ 64 = 18446744073709551616 := by decide
  have hb : (u : Int) / 2 ≤ 9223372036854775807 ∧ 0 ≤ (u : Int) / 2 := by omega
  have e1 : IntKind.i64.wrap ((u : Int) / 2) = (u : Int) / 2 := IntWalk.i64_in _ ⟨by omega, by omega⟩
  have e2 : IntKind.i64.wrap (-((u : Int) / 2)) = -((u : Int) / 2) := IntWalk.i64_in _ ⟨by omega, by omega⟩
  have e3 : IntKind.i64.wrap (-((u : Int) / 2) - 1) = -((u : Int) / 2) - 1 := IntWalk.i64_in _ ⟨by omega, by omega⟩
  by_cases h : u % 2 = 0
  · have hm : (u : Int) % 2 = 0 := by omega
    have e4 : unfI u = (u : Int) / 2 := by unfold unfI; rw [if_pos h]; omega
    rw [e4]
    clear h h2
    go_enter Try.func55, Try.ntmps55
    go_wp2_with fail
    go_ret
    exact ⟨rfl, rfl⟩
  · have hm : (u : Int) % 2 = 1 := by omega
    have e4 : unfI u = -((u : Int) / 2) - 1 := by unfold unfI; rw [if_neg h]; omega
    rw [e4]
    clear h h2
    go_enter Try.func55, Try.ntmps55
    go_wp2_with fail
    go_ret
    exact ⟨rfl, rfl⟩
/-- what Count answers -/
def cntE (t : Nat × Nat × Int) (a most : Nat) : Int × Int × Int := if t.2.2 ≠ 0 then (0, 0, t.2.2) else if most < t.1 then (0, 0, 3) else ((t.1 : Int), ((a + t.2.1 : Nat) : Int), 0)
theorem rcount_any {w : World} {v : Value} {bs : List Int} (a : Nat) (ha : a ≤ bs.length) (hs : SL encB w v bs) (hb : Bs bs) (hl : bs.length ≤ 4194304) (most : Nat) (hm : most ≤ 1048576) :
    Calls Try.prog 38 #[v, .int .i64 (a : Nat), .int .i64 (most : Nat)] w fun e w' => e = .returned (.tuple #[.int .i64 (if (lebE (bs.drop a)).2.2 ≠ 0 then (0, 0, (lebE (bs.drop a)).2.2) else if most < (lebE (bs.drop a)).1 then (0, 0, 3) else (((lebE (bs.drop a)).1 : Int), ((a + (lebE (bs.drop a)).2.1 : Nat) : Int), 0)).1, .int .i64 (if (lebE (bs.drop a)).2.2 ≠ 0 then (0, 0, (lebE (bs.drop a)).2.2) else if most < (lebE (bs.drop a)).1 then (0, 0, 3) else (((lebE (bs.drop a)).1 : Int), ((a + (lebE (bs.drop a)).2.1 : Nat) : Int), 0)).2.1, .int .i64 (if (lebE (bs.drop a)).2.2 ≠ 0 then (0, 0, (lebE (bs.drop a)).2.2) else if most < (lebE (bs.drop a)).1 then (0, 0, 3) else (((lebE (bs.drop a)).1 : Int), ((a + (lebE (bs.drop a)).2.1 : Nat) : Int), 0)).2.2]) ∧ w = w' := by
  have hn0 := getE_nat (bs := bs) ha
  have hb0 := leb_ok hb ha
  have HGt := Lib.hid (fun (r1 r2 r3 : Int) (hr : getE bs (a : Int) = (r1, r2, r3)) => rget_in a ha hs hb hl r1 r2 r3 hr)
  obtain ⟨A, cap, rfl⟩ := SL.form hs
  obtain ⟨u0, k0, e0, hu⟩ : ∃ u k e0, lebE (bs.drop a) = (u, k, e0) := ⟨_, _, _, rfl⟩
  rw [hu] at hn0 hb0 ⊢
  simp only at hn0 hb0 ⊢
  have hmi : (most : Int) ≤ 1048576 := by omega
  have hm0 : decide ((most : Int) < 0) = false := decide_eq_false (by omega)
  have hwm : IntKind.u64.wrap (most : Int) = (most : Int) := by show (most : Int) % 18446744073709551616 = _; omega
  by_cases he : e0 = 0
  case neg =>
    rw [if_pos he] at hn0 ⊢
    have HG0 := Lib.hid (HGt.out _ _ _ hn0)
    have he1 : (e0 != 0) = true := bne_iff_ne.2 he
    clear hs hb hl hn0 hb0 hu he ha HGt
    go_enter Try.func38, Try.ntmps38
    go_wp2_with (go_at_call 54; refine HG0.out.mono ?_; rintro e w2 ⟨rfl, rfl⟩)
    go_ret3
    exact ⟨rfl, rfl⟩
  subst he
  rw [if_neg (by decide)] at hn0 ⊢
  have HG0 := Lib.hid (HGt.out _ _ _ hn0)
  have hlt := (hb0 rfl).1
  have h264 : (2 : Nat) ^ 64 = 18446744073709551616 := by decide
  by_cases h4 : most < u0
  case pos =>
    rw [if_pos h4]
    have h4i : (most : Int) < (u0 : Int) := by omega
    clear hs hb hl hn0 hb0 hu ha HGt h264 hlt h4
    go_enter Try.func38, Try.ntmps38
    go_wp2_with (go_at_call 54; refine HG0.out.mono ?_; rintro e w2 ⟨rfl, rfl⟩)
    go_ret3
    exact ⟨rfl, rfl⟩
  rw [if_neg h4]
  have h4i : ¬ (most : Int) < (u0 : Int) := by omega
  clear hs hb hl hn0 hb0 hu ha HGt h264 hlt h4
  go_enter Try.func38, Try.ntmps38
  go_wp2_with (go_at_call 54; refine HG0.out.mono ?_; rintro e w2 ⟨rfl, rfl⟩)
  go_ret3
  exact ⟨rfl, rfl⟩
set_option maxRecDepth 20000 in
set_option maxHeartbeats 4000000 in
theorem rpackPut_any {w : World} {v : Value} {l : List Int} (hs : SL encI w v l) (hl : l.length ≤ 1048576) :
    Calls Try.prog 33 #[v] w fun e w' => ∃ tv, e = .returned (.tuple #[tv, .int .i64 (packE l).2]) ∧ SL encB w' tv (packE l).1 ∧ (∀ k, tv.ownBlock = some k → w.heap.size ≤ k) ∧ Gr w w' := by
  have HS := Lib.hid hs
  obtain ⟨A, cap, rfl⟩ := SL.form hs
  obtain ⟨P, hP⟩ : ∃ P, packE l = P := ⟨_, rfl⟩
  rw [hP]
  have HP := Lib.hid hP
  have hli : (l.length : Int) ≤ 1048576 := by omega
  clear hs hP
  by_cases h65 : 65536 < l.length
  · have h65i : (65536 : Int) < (l.length : Int) := by omega
    have Hp := Lib.hid (show P = ([], 3) by rw [← HP.out]; unfold packE; rw [if_pos h65])
    clear h65 HP
    go_enter Try.func33, Try.ntmps33
    go_wp2_with fail
    go_ret2
    rw [Hp.out]
    exact ⟨_, rfl, SL.nil _, fun k hk => by simp [Value.ownBlock] at hk, Fr.refl _ _⟩
  have h65i : ¬ (65536 : Int) < (l.length : Int) := by omega
  have H65 := Lib.hid h65
  have hwl : IntKind.u64.wrap (l.length : Int) = (l.length : Int) := by show (l.length : Int) % 18446744073709551616 = _; omega
  have HPl := Lib.hid (fun (n : Nat) (hn : n < 2 ^ 64) wx => rPut_any n hn wx)
  have h264 : (2 : Nat) ^ 64 = 18446744073709551616 := by decide
  have HPn := Lib.hid (HPl.out l.length (by omega) w)
  clear h65 h264
  go_enter Try.func33, Try.ntmps33
  go_upto_region 5 with (go_at_call 34; refine HPn.out.mono ?_; rintro e w2 ⟨tv, rfl, hs, hg⟩; have HO2 := Lib.hid (Outs.row hs); have HG2 := Lib.hid hg; clear hs hg)
  have H264 := Lib.hid (show (2 : Nat) ^ 64 = 18446744073709551616 by decide)
  go_wp2_with fail
  go_loopg [2, 3, 4, 5, 6] (l.length + 1) (fun m s2 s3 s4 s5 s6 wr => ∃ (k : Nat) (va : Value) (was : Int), s2 = .slice none 0 0 ∧ s3 = .int .i64 0 ∧ va = s4 ∧ s5 = .int .i64 was ∧ s6 = .int .i64 k ∧ Hid (k ≤ l.length ∧ l.length - k < m ∧ (∀ x ∈ l.take k, badT x = false) ∧ was = (l.take k).getLastD 0 ∧ 0 ≤ was ∧ was ≤ 1048575) ∧ Hid (Outs w.heap.size wr va (putL l.length ++ deltas 0 (l.take k))) ∧ Hid (Gr w wr))
  case atStart => exact ⟨0, tv, 0, rfl, rfl, rfl, rfl, rfl, ⟨Nat.zero_le _, by omega, fun x hx => by simp at hx, rfl, by omega, by omega⟩, Lib.hid (by simpa [deltas] using HO2.out), HG2.out⟩
  case round =>
    obtain ⟨k, va, was, rfl, rfl, rfl, rfl, rfl, HK, HO, HG⟩ := hrel
    by_cases hk : k < l.length
    · obtain ⟨ba, oa, rfl, hba, hcell⟩ := (HS.out.gr HG.out).at_ (s := 1) (fun _ => rfl) rfl hk
      have d0 := hcell 0 (by omega)
      simp [encI] at d0
      have hki : (k : Int) < (l.length : Int) := by omega
      have Hk := Lib.hid hk
      have Hmem := Lib.hid (List.getElem_mem hk)
      have Htk := Lib.hid (List.take_succ_eq_append_getElem hk)
      obtain ⟨x, hxk⟩ : ∃ x, l[k]'hk = x := ⟨_, rfl⟩
      rw [hxk] at d0 Hmem Htk
      have Hxk := Lib.hid (show l[k]? = some x by rw [List.getElem?_eq_getElem hk, hxk])
      clear hxk
      clear hcell hba hk
      by_cases hb : badT x = true
      · have Hp := Lib.hid (show P = ([], 2) by rw [← HP.out]; unfold packE; rw [if_neg H65.out, if_pos (List.any_eq_true.2 ⟨x, Hmem.out, hb⟩)])
        unfold badT at hb
        by_cases h1 : x < 0
        · have h1' : decide (x < 0) = true := decide_eq_true h1
          clear hb h1
          go_wp2_with fail
          go_ret2
          rw [Hp.out]
          exact ⟨_, rfl, SL.nil _, fun k hk => by simp [Value.ownBlock] at hk, HG.out⟩
        · have h1' : decide (x < 0) = false := decide_eq_false h1
          rw [h1', Bool.false_or] at hb
          clear h1
          go_wp2_with fail
          go_ret2
          rw [Hp.out]
          exact ⟨_, rfl, SL.nil _, fun k hk => by simp [Value.ownBlock] at hk, HG.out⟩
      · have Hb := Lib.hid (show badT x = false by simpa using hb)
        have Hx := Lib.hid (badT_no Hb.out)
        have h1' : decide (x < 0) = false := decide_eq_false (by have := Hx.out; omega)
        have h2' : decide (1048575 < x) = false := decide_eq_false (by have := Hx.out; omega)
        have hsub : IntKind.i64.wrap (x - was) = x - was := IntWalk.i64_in _ ⟨by have := Hx.out; have := HK.out; omega, by have := Hx.out; have := HK.out; omega⟩
        have HF := Lib.hid (fun wx => rFold_any (x - was) (by have := Hx.out; have := HK.out; omega) wx)
        have HPf := Lib.hid (fun wx => HPl.out (foldN (x - was)) (foldN_lt (by have := Hx.out; have := HK.out; omega)) wx)
        have Hsn := Lib.hid (show putL l.length ++ deltas 0 (l.take (k + 1)) = (putL l.length ++ deltas 0 (l.take k)) ++ putL (foldN (x - was)) by
          rw [Htk.out, deltas_snoc, ← HK.out.2.2.2.1, List.append_assoc])
        have Hln := Lib.hid (show (putL l.length ++ deltas 0 (l.take k)).length + (putL (foldN (x - was))).length ≤ 1048576 by
          have h1 := putL_len l.length
          have h2 := deltas_len (l.take k) 0
          have h3 := putL_len (foldN (x - was))
          have h4 : (l.take k).length ≤ l.length := by rw [List.length_take]; omega
          have := H65.out
          rw [List.length_append]; omega)
        clear hb
        go_upto_region 12 with (first
          | (go_at_call 52; refine (HF.out _).mono ?_; rintro e w3 ⟨rfl, rfl⟩)
          | (go_at_call 34; refine (HPf.out _).mono ?_; rintro e w4 ⟨t4, rfl, hs4, hg4⟩; have HT4 := Lib.hid (SL.of_own (enc := encB) hs4 rfl); have HG4 := Lib.hid hg4; clear hs4 hg4)
          | (at_builtin
             refine wpList_outs rfl _ _ 28 Try.underlying28 rfl (wB := w) va t4 _ _ rfl (HO.out.gr HG4.out) (HG.out.trans HG4.out (fun _ _ h => h)) rfl HT4.out (putL_pos _) Hln.out ?_
             intro v5 w5 hg5 ho5 hf5
             have HO5 := Lib.hid ho5
             have HG5 := Lib.hid hg5
             clear hg5 ho5 hf5))
        have d5 : w5.cell? ⟨ba, oa + k, none⟩ = some (.int .i64 x) := by
          obtain ⟨b2, o2, hA2, _, hc2⟩ := (HS.out.gr HG5.out).at_ (s := 1) (fun _ => rfl) rfl Hk.out
          injection hA2 with hA2
          injection hA2 with e1 e2
          subst e1 e2
          have h := hc2 0 (by omega)
          simp [encI] at h
          have e := Hxk.out
          rw [List.getElem?_eq_getElem Hk.out] at e
          injection e with e
          rw [e] at h
          exact h
        go_wp2_with fail
        go_roundg (gk - 1)
        case measure => have := HK.out; have := Hk.out; omega
        case rel =>
          refine ⟨k + 1, v5, x, rfl, rfl, rfl, rfl, by go_num, ⟨Hk.out, by have := HK.out; have := Hk.out; omega, ?_, ?_, Hx.out.1, Hx.out.2⟩, ?_, HG5.out⟩
          · intro y hy
            rw [Htk.out] at hy
            rcases List.mem_append.1 hy with h | h
            · exact HK.out.2.2.1 y h
            · simp at h; rw [h]; exact Hb.out
          · rw [Htk.out]; simp
          · rw [Hsn.out]; exact HO5.out
    · have Hk := Lib.hid (show k = l.length by have := HK.out; omega)
      have hki : decide ((k : Int) < (l.length : Int)) = false := decide_eq_false (by omega)
      have Hp := Lib.hid (show P = (putL l.length ++ deltas 0 (l.take k), 0) by
        have h := HK.out.2.2.1
        rw [Hk.out, List.take_of_length_le (Nat.le_refl _)] at h ⊢
        rw [← HP.out]
        exact packE_of (by have := H65.out; omega) h)
      go_wp2_with fail
      go_ret2
      rw [Hp.out]
      exact ⟨va, rfl, HO.out.1, HO.out.2.1, HG.out⟩
set_option maxRecDepth 20000 in
set_option maxHeartbeats 4000000 in
theorem rpackGet_any {w : World} {v : Value} {bs : List Int} (a : Nat) (ha : a ≤ bs.length) (hs : SL encB w v bs) (hb : Bs bs) (hl : bs.length ≤ 4194304) :
    Calls Try.prog 39 #[v, .int .i64 (a : Nat)] w fun e w' => ∃ r, e = .returned (.tuple #[r, .int .i64 ((unpackE bs a).2.1 : Nat), .int .i64 (unpackE bs a).2.2]) ∧ OI w' w.heap.size r (unpackE bs a).1 ∧ Gr w w' := by
  obtain ⟨i1, hi1, hx0, hx1, hx2⟩ := info_parts info_int
  have Hi := Lib.hid (And.intro hi1 (And.intro hx0 (And.intro hx1 hx2)))
  clear hi1 hx0 hx1 hx2
  have HS := Lib.hid hs
  obtain ⟨A, cap, rfl⟩ := SL.form hs
  have HB := Lib.hid hb
  have HL := Lib.hid hl
  have HGt := Lib.hid (fun (wx : World) (b : Nat) (hw : Gr w wx) (hbb : b ≤ bs.length) (r1 r2 r3 : Int) (hr : getE bs (b : Int) = (r1, r2, r3)) => rget_in b hbb (hs.gr hw) hb hl r1 r2 r3 hr)
  obtain ⟨⟨R1, R2, R3⟩, hR⟩ : ∃ R, unpackE bs a = R := ⟨_, rfl⟩
  rw [hR]
  have HR := Lib.hid hR
  simp only
  clear hs hb hl hR
  have Hbs := Lib.hid (fun b (hbb : b ≤ bs.length) => leb_ok (bs := bs) HB.out hbb)
  have Hn := Lib.hid (fun b (hbb : b ≤ bs.length) => getE_nat (bs := bs) hbb)
  obtain ⟨u0, k0, e0, hu⟩ : ∃ u k e0, lebE (bs.drop a) = (u, k, e0) := ⟨_, _, _, rfl⟩
  have hn0 := Hn.out a ha
  have hb0 := Hbs.out a ha
  have hr := HR.out
  unfold unpackE at hr
  rw [hu] at hn0 hb0 hr
  simp only at hn0 hb0 hr
  have HCt := Lib.hid (rcount_any a ha HS.out HB.out HL.out 65536 (by omega))
  rw [hu] at HCt
  simp only at HCt
  by_cases he : e0 = 0
  case neg =>
    rw [if_pos he] at hn0 hr HCt
    injection hr with e1 hr
    injection hr with e2 e3
    subst e1 e2 e3
    have HG0 := HCt
    have he1 : (e0 != 0) = true := bne_iff_ne.2 he
    clear hu hn0 hb0 he ha HR
    go_enter Try.func39, Try.ntmps39
    go_wp2_with (go_at_call 38; refine HG0.out.mono ?_; rintro e w2 ⟨rfl, rfl⟩)
    go_ret3
    exact ⟨_, rfl, OI.nil _ _, Fr.refl _ _⟩
  subst he
  rw [if_neg (by decide)] at hn0 hr HCt
  obtain ⟨hlt, hnx⟩ := hb0 rfl
  have h264 : (2 : Nat) ^ 64 = 18446744073709551616 := by decide
  by_cases h65 : 65536 < u0
  case pos =>
    rw [if_pos h65] at hr HCt
    have HG0 := HCt
    injection hr with e1 hr
    injection hr with e2 e3
    subst e1 e2 e3
    have h65i : (65536 : Int) < (u0 : Int) := by omega
    clear hu hn0 h65 ha HR hlt hnx h264
    go_enter Try.func39, Try.ntmps39
    go_wp2_with (go_at_call 38; refine HG0.out.mono ?_; rintro e w2 ⟨rfl, rfl⟩)
    go_ret3
    exact ⟨_, rfl, OI.nil _ _, Fr.refl _ _⟩
  rw [if_neg h65] at hr HCt
  have HG0 := HCt
  clear HCt
  have h65i : ¬ (65536 : Int) < (u0 : Int) := by omega
  have H65 := Lib.hid (show u0 ≤ 65536 by omega)
  have HRow := Lib.hid hr
  have Hnx := Lib.hid hnx
  obtain ⟨a1, ha1⟩ : ∃ a1, a + k0 = a1 := ⟨_, rfl⟩
  rw [ha1] at HG0 HRow Hnx
  clear hu hn0 h65 ha HR hlt hnx hr ha1 h264
  go_enter Try.func39, Try.ntmps39
  go_upto_region 6 with (go_at_call 38; refine HG0.out.mono ?_; rintro e w2 ⟨rfl, rfl⟩)
  go_wp2_with fail
  go_loopg [4, 5, 6, 8, 10, 11, 12] (u0 + 1) (fun m s4 s5 s6 s8 s10 s11 s12 wr => ∃ (k : Nat) (va : Value) (l : List Int) (was : Int) (b : Nat), s4 = .slice none 0 0 ∧ s5 = .int .i64 0 ∧ s6 = .int .i64 0 ∧ s8 = .int .i64 b ∧ va = s10 ∧ s11 = .int .i64 was ∧ s12 = .int .i64 k ∧ Hid (k ≤ u0 ∧ u0 - k < m ∧ b ≤ bs.length ∧ 0 ≤ was ∧ was ≤ 1048575 ∧ l.length = k) ∧ Hid (rowR bs (u0 - k) l was b = (R1, R2, R3)) ∧ Hid (OI wr w.heap.size va l) ∧ Hid (Gr w wr))
  case atStart => exact ⟨0, .slice none 0 0, [], 0, a1, rfl, rfl, rfl, rfl, rfl, rfl, rfl, ⟨Nat.zero_le _, by omega, Hnx.out, by omega, by omega, rfl⟩, HRow.out, OI.nil _ _, Fr.refl _ _⟩
  case round =>
    obtain ⟨k, va, l, was, b, rfl, rfl, rfl, rfl, rfl, rfl, rfl, HK, HW, HO, HG⟩ := hrel
    by_cases hk : k < u0
    · have hki : (k : Int) < (u0 : Int) := by omega
      have Hk := Lib.hid hk
      have hw := HW.out
      rw [show u0 - k = (u0 - (k + 1)) + 1 by omega] at hw
      simp only [rowR] at hw
      obtain ⟨u, kk, e0, hu⟩ : ∃ u k e0, lebE (bs.drop b) = (u, k, e0) := ⟨_, _, _, rfl⟩
      have hn1 := Hn.out b HK.out.2.2.1
      have hb1 := Hbs.out b HK.out.2.2.1
      rw [hu] at hw hn1 hb1
      simp only at hw hn1 hb1
      by_cases he : e0 = 0
      case neg =>
        rw [if_pos he] at hn1 hw
        injection hw with e1 hw
        injection hw with e2 e3
        subst e1 e2 e3
        have HG1 := Lib.hid (HGt.out wr b HG.out HK.out.2.2.1 _ _ _ hn1)
        have he1 : (e0 != 0) = true := bne_iff_ne.2 he
        clear hu hn1 hb1 he hk
        go_wp2_with (go_at_call 54; refine HG1.out.mono ?_; rintro e w2 ⟨rfl, rfl⟩)
        go_ret3
        exact ⟨_, rfl, OI.nil _ _, HG.out⟩
      subst he
      rw [if_neg (by decide)] at hn1 hw
      obtain ⟨hlt, hnx⟩ := hb1 rfl
      have HG1 := Lib.hid (HGt.out wr b HG.out HK.out.2.2.1 _ _ _ hn1)
      have HUn := Lib.hid (fun wx => rUnfold_any u hlt wx)
      obtain ⟨d, hd⟩ : ∃ d, unfI u = d := ⟨_, rfl⟩
      rw [hd] at hw HUn
      have Hw := HK
      have hneg : IntKind.i64.wrap (-was) = -was := IntWalk.i64_in _ ⟨by have := HK.out; omega, by have := HK.out; omega⟩
      have hsub : IntKind.i64.wrap (1048575 - was) = 1048575 - was := IntWalk.i64_in _ ⟨by have := HK.out; omega, by have := HK.out; omega⟩
      by_cases h1 : d < -was
      case pos =>
        rw [if_pos (Or.inl h1)] at hw
        injection hw with e1 hw
        injection hw with e2 e3
        subst e1 e2 e3
        have h1' : decide (d < -was) = true := decide_eq_true h1
        clear hu hn1 hb1 hk hd h1 hlt hnx
        go_wp2_with (first
          | (go_at_call 54; refine HG1.out.mono ?_; rintro e w2 ⟨rfl, rfl⟩)
          | (go_at_call 55; refine (HUn.out _).mono ?_; rintro e w2 ⟨rfl, rfl⟩))
        go_ret3
        exact ⟨_, rfl, OI.nil _ _, HG.out⟩
      by_cases h2 : 1048575 - was < d
      case pos =>
        rw [if_pos (Or.inr h2)] at hw
        injection hw with e1 hw
        injection hw with e2 e3
        subst e1 e2 e3
        have h1' : decide (d < -was) = false := decide_eq_false h1
        have h2' : decide (1048575 - was < d) = true := decide_eq_true h2
        clear hu hn1 hb1 hk hd h1 h2 hlt hnx
        go_wp2_with (first
          | (go_at_call 54; refine HG1.out.mono ?_; rintro e w2 ⟨rfl, rfl⟩)
          | (go_at_call 55; refine (HUn.out _).mono ?_; rintro e w2 ⟨rfl, rfl⟩))
        go_ret3
        exact ⟨_, rfl, OI.nil _ _, HG.out⟩
      rw [if_neg (by omega)] at hw
      have h1' : decide (d < -was) = false := decide_eq_false h1
      have h2' : decide (1048575 - was < d) = false := decide_eq_false h2
      have Hd := Lib.hid (show 0 ≤ was + d ∧ was + d ≤ 1048575 by have := HK.out; omega)
      have hadd : IntKind.i64.wrap (was + d) = was + d := IntWalk.i64_in _ ⟨by have := Hd.out; omega, by have := Hd.out; omega⟩
      have HW2 := Lib.hid hw
      have Hnx1 := Lib.hid hnx
      obtain ⟨b1, hb1'⟩ : ∃ b1, b + kk = b1 := ⟨_, rfl⟩
      rw [hb1'] at HG1 HW2 Hnx1
      clear hu hn1 hb1 hk hd h1 h2 hlt hnx hw hb1'
      go_upto_region 17 with (first
        | (go_at_call 54; refine HG1.out.mono ?_; rintro e w2 ⟨rfl, rfl⟩)
        | (go_at_call 55; refine (HUn.out _).mono ?_; rintro e w2 ⟨rfl, rfl⟩)
        | (at_builtin
           refine wpList_append_st _ encI rfl _ _ 25 rfl w.heap.size TI i1 (.int .i64 0) 1 8 Try.underlying25 Hi.out.1 Hi.out.2.1 Hi.out.2.2.1 Hi.out.2.2.2 rfl (by decide) va l.length _ rfl (HO.out.own.alloc _) (.slice (some ⟨wr.heap.size, 0, none⟩) 1 1) [was + d] rfl (sl_one (enc := encI) wr (was + d) #[.int .i64 (was + d)] rfl TI) (fun _ => rfl) encI_1 (by have := HK.out; have := H65.out; simp only [maxLen, List.length_singleton]; omega) (by have := HK.out; have := H65.out; simp only [List.length_singleton]; omega) (Nat.le_trans HG.out.size (by simp)) ?_
           intro v4 w4 hown4 hg4 hat4 hsp4
           have HG4 := Lib.hid (show Gr w w4 from (HG.out.alloc (.cells #[.int .i64 (was + d)] TI)).trans hg4 (fun i hi e => by have := (HO.out.own.lt i e).1; omega))
           have HO4 := Lib.hid (show OI w4 w.heap.size v4 (l ++ [was + d]) from HO.out.app (m := [was + d]) ((Fr.refl wr NoneS).alloc _) hown4 hsp4)
           clear hown4 hg4 hat4 hsp4))
      go_wp2_with fail
      go_roundg (gk - 1)
      case measure => have := HK.out; have := Hk.out; omega
      case rel => exact ⟨k + 1, v4, l ++ [was + d], was + d, b1, rfl, rfl, rfl, rfl, rfl, rfl, by go_num, ⟨Hk.out, by have := HK.out; have := Hk.out; omega, Hnx1.out, Hd.out.1, Hd.out.2, by have := HK.out; simp; omega⟩, HW2.out, HO4.out, HG4.out⟩
    · have Hk := Lib.hid (show k = u0 by have := HK.out; omega)
      have hki : decide ((k : Int) < (u0 : Int)) = false := decide_eq_false (by omega)
      have hw := HW.out
      rw [Hk.out, Nat.sub_self] at hw
      simp only [rowR] at hw
      injection hw with e1 hw
      injection hw with e2 e3
      subst e1 e2 e3
      go_wp2_with fail
      go_ret3
      exact ⟨va, rfl, HO.out, HG.out⟩
end Rec
end Go.Proofs.Ytobedpohoellkaa
