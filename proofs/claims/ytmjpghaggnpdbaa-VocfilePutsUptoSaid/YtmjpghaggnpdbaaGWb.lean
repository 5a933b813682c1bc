/- the document's vocfile: piece, Put. -/
import Derived.Test.YtmjpghaggnpdbaaGMg
import Derived.Test.YtmjpghaggnpdbaaFmay
set_option linter.unusedVariables false
set_option linter.unusedSimpArgs false
namespace Go.Proofs.Ytmjpghaggnpdbaa
open Go.RowKit
open Voc Leb Crc
namespace Vf
set_option maxRecDepth 20000 in
set_option maxHeartbeats 4000000 in
theorem rpiece_any (p : Pc) (hp : FormP p) (w : World) :
    Calls Try.prog 38 #[.agg #[.bool p.j, .int .u8 p.b, .int .i64 p.l, .int .i64 p.r, .int .u32 p.k]] w fun e w' => ∃ tv, e = .returned tv ∧ SL encB w' tv (pieceB p) ∧ Gr w w' := by
  obtain ⟨jj, bb, l, r, kk⟩ := p
  have Hfm := Lib.hid hp
  clear hp
  have HPc := Lib.hid (Blk.new w TPc #[.bool jj, .int .u8 bb, .int .i64 l, .int .i64 r, .int .u32 kk])
  have HG := Lib.hid ((Fr.refl w NoneS).alloc (.cells #[.bool jj, .int .u8 bb, .int .i64 l, .int .i64 r, .int .u32 kk] TPc))
  obtain ⟨p7, hp7⟩ : ∃ p, w.heap.size = p := ⟨_, rfl⟩
  rw [hp7] at HPc
  cases jj with
  | false =>
    go_enter Try.func38, Try.ntmps38
    go_upto_region 1 with (fail)
    generalize World.alloc w _ = w1 at HPc HG ⊢
    have f0 : w1.cell? ⟨p7, 0, none⟩ = some (.bool false) := by rw [HPc.out.cell]; rfl
    have f1 : w1.cell? ⟨p7, 1, none⟩ = some (.int .u8 bb) := by rw [HPc.out.cell]; rfl
    go_wp2_with fail
    go_ret
    exact ⟨_, rfl, sl2 w1 0 bb, HG.out.alloc _⟩
  | true =>
    obtain ⟨_, hl, hr, hkk⟩ := Hfm.out.2 rfl
    simp only at hl hr hkk
    obtain ⟨l, rfl⟩ := Int.eq_ofNat_of_zero_le hl.1
    obtain ⟨r, rfl⟩ := Int.eq_ofNat_of_zero_le hr.1
    obtain ⟨kk, rfl⟩ := Int.eq_ofNat_of_zero_le hkk.1
    have Hpb := Lib.hid (show pieceB ⟨true, bb, l, r, kk⟩ = (([1] ++ putL l) ++ putL r) ++ putL kk by simp [pieceB])
    have e2 : IntKind.u64.wrap (l : Int) = (l : Int) := u64_of (by omega)
    have e3 : IntKind.u64.wrap (r : Int) = (r : Int) := u64_of (by omega)
    have e4 : IntKind.u64.wrap (kk : Int) = (kk : Int) := u64_of hkk
    have HPl := Lib.hid (fun w' => rPut_any l (by omega) w')
    have HPr := Lib.hid (fun w' => rPut_any r (by omega) w')
    have HPk := Lib.hid (fun w' => rPut_any kk (by omega) w')
    have Hnl := Lib.hid (putL_len l)
    have Hnr := Lib.hid (putL_len r)
    have Hnk := Lib.hid (putL_len kk)
    clear hl hr hkk
    go_enter Try.func38, Try.ntmps38
    go_upto_region 1 with (fail)
    generalize World.alloc w _ = w1 at HPc HG ⊢
    have f0 : w1.cell? ⟨p7, 0, none⟩ = some (.bool true) := by rw [HPc.out.cell]; rfl
    go_upto_region 4 with (fail)
    have HPc2 := Lib.hid (HPc.out.alloc (.cells #[.int .u8 1] 5))
    have HO2 := Lib.hid (own1 w1 1)
    have HG2 := Lib.hid ((Fr.refl w1 NoneS).alloc (.cells #[.int .u8 1] 5))
    have Hsz := Lib.hid (show (w1.alloc (.cells #[.int .u8 1] 5)).heap.size = w1.heap.size + 1 by simp)
    obtain ⟨g, hg⟩ : ∃ g, w1.heap.size = g := ⟨_, rfl⟩
    have Hg := Lib.hid hg
    rw [hg] at Hsz ⊢
    rw [show OwB w1.heap.size _ (.slice (some ⟨w1.heap.size, 0, none⟩) 1 1) _ = OwB w1.heap.size _ (.slice (some ⟨g, 0, none⟩) 1 1) _ from by rw [hg]] at HO2
    clear hg f0
    generalize World.alloc w1 _ = w2 at HPc2 HO2 HG2 Hsz ⊢
    have g2 : w2.cell? ⟨p7, 2, none⟩ = some (.int .i64 l) := by rw [HPc2.out.cell]; rfl
    go_upto_region 5 with (
      go_at_call 37
      refine (HPl.out _).mono ?_
      rintro e w3 ⟨tl, rfl, ho, hg⟩
      have HOl := Lib.hid ho
      have HG3 := Lib.hid hg
      clear ho hg)
    have HP3 := Lib.hid (HPc2.out.fr HG3.out (fun h => h))
    have g3 : w3.cell? ⟨p7, 3, none⟩ = some (.int .i64 r) := by rw [HP3.out.cell]; rfl
    clear g2
    go_upto_region 6 with (
      go_at_call 37
      refine (HPr.out _).mono ?_
      rintro e w4 ⟨tr, rfl, ho, hg⟩
      have HOr := Lib.hid ho
      have HG4 := Lib.hid hg
      clear ho hg)
    have HP4 := Lib.hid (HP3.out.fr HG4.out (fun h => h))
    have g4 : w4.cell? ⟨p7, 4, none⟩ = some (.int .u32 kk) := by rw [HP4.out.cell]; rfl
    clear g3
    go_upto_region 7 with (
      go_at_call 37
      refine (HPk.out _).mono ?_
      rintro e w5 ⟨tk, rfl, ho, hg⟩
      have HOk := Lib.hid ho
      have HG5 := Lib.hid hg
      clear ho hg)
    clear g4 e2 e3 e4
    have HG35 := Lib.hid (HG4.out.trans HG5.out (fun _ _ h => h))
    have HG25 := Lib.hid (HG3.out.trans HG35.out (fun _ _ h => h))
    have HG15 := Lib.hid (HG2.out.trans HG25.out (fun _ _ h => h))
    have HO5 := Lib.hid (HO2.out.fr HG25.out)
    have HSl := Lib.hid ((SL.of_own (enc := encB) HOl.out rfl).gr HG35.out)
    have HSr := Lib.hid ((SL.of_own (enc := encB) HOr.out rfl).gr HG5.out)
    have HSk := Lib.hid (SL.of_own (enc := encB) HOk.out rfl)
    have Hlr := Lib.hid (show ∀ k, tr.ownBlock = some k → g + 1 ≤ k ∧ k < w5.heap.size from fun k hk => by have := HOr.out.lt k hk; have := HG3.out.size; have := HG5.out.size; have := Hsz.out; omega)
    have Hlk := Lib.hid (show ∀ k, tk.ownBlock = some k → g + 1 ≤ k ∧ k < w5.heap.size from fun k hk => by have := HOk.out.lt k hk; have := HG3.out.size; have := HG4.out.size; have := Hsz.out; omega)
    have Hlo := Lib.hid (show ∀ k, (Value.slice (some ⟨g, 0, none⟩) 1 1).ownBlock = some k → k < g + 1 ∨ w5.heap.size ≤ k from fun k hk => by simp [Value.ownBlock] at hk; omega)
    go_upto_region 8 with (
      at_builtin
      refine wpList_app3 (wB := w1) rfl _ _ rfl (g + 1) w5.heap.size (.slice (some ⟨g, 0, none⟩) 1 1) tl [1] (putL l) rfl HO5.out HG15.out rfl HSl.out (by have := Hnl.out; simp only [List.length_cons, List.length_nil]; omega) (Nat.le_refl _) Hlo.out ?_
      intro v6 w6 hg ho hh hz hk
      have HO6 := Lib.hid ho
      have HG6 := Lib.hid hg
      have Hh6 := Lib.hid hh
      have Hz6 := Lib.hid hz
      have HSr6 := Lib.hid (hk _ _ HSr.out Hlr.out)
      have HSk6 := Lib.hid (hk _ _ HSk.out Hlk.out)
      clear ho hg hh hz hk)
    go_upto_region 9 with (
      at_builtin
      refine wpList_app3 (wB := w1) rfl _ _ rfl (g + 1) w5.heap.size v6 tr ([1] ++ putL l) (putL r) rfl HO6.out HG6.out rfl HSr6.out (by have := Hnl.out; have := Hnr.out; simp only [List.length_append, List.length_cons, List.length_nil]; omega) Hh6.out Hz6.out ?_
      intro v7 w7 hg ho hh hz hk
      have HO7 := Lib.hid ho
      have HG7 := Lib.hid hg
      have HSk7 := Lib.hid (hk _ _ HSk6.out Hlk.out)
      clear ho hg hh hz hk)
    go_wp2_with (
      at_builtin
      refine wpList_app (wB := w1) rfl _ _ rfl v7 tk (([1] ++ putL l) ++ putL r) (putL kk) rfl HO7.out HG7.out rfl HSk7.out (by have := Hnl.out; have := Hnr.out; have := Hnk.out; simp only [List.length_append, List.length_cons, List.length_nil]; omega) ?_
      intro v8 w8 hg ho hbl
      have HO8 := Lib.hid ho
      have HG8 := Lib.hid hg
      clear ho hg hbl)
    go_ret
    refine ⟨_, rfl, ?_, HG.out.trans HG8.out (fun _ _ h => h)⟩
    rw [Hpb.out]
    exact HO8.out.sl
set_option maxRecDepth 20000 in
set_option maxHeartbeats 4000000 in
theorem rput_any {w : World} {v : Value} {xs : List Pc} (HS : SL encP w v xs) (hw : ∀ q ∈ xs, wfP q) (hl : xs.length ≤ 1048576) :
    Calls Try.prog 18 #[.agg #[v]] w fun e w' => ∃ tv, e = .returned (.tuple #[tv, .int .i64 (putE xs).2]) ∧ OwB w.heap.size w' tv (putE xs).1 ∧ Gr w w' := by
  have HS1 := Lib.hid HS
  obtain ⟨A, cap, rfl⟩ := SL.form HS
  have HG := Lib.hid ((Fr.refl w NoneS).alloc (.cells #[.slice A xs.length cap] 26))
  have HB := Lib.hid (Blk.new w 26 #[.slice A xs.length cap])
  have HX := Lib.hid (show ((checkE xs).1 = 0 → Voc.Good xs ∧ putE xs = (fileB xs, 0) ∧ ∀ p ∈ xs, FormP p) ∧ ((checkE xs).1 ≠ 0 → putE xs = ([], 11)) from
    ⟨fun h => ⟨good_of h, by unfold putE; rw [if_pos h], form_of (good_of h) hw⟩, fun h => by unfold putE; rw [if_neg h]⟩)
  obtain ⟨b, hb⟩ : ∃ b, decide ((checkE xs).1 = 0) = b := ⟨_, rfl⟩
  have HC := Lib.hid (may_any (HS.gr HG.out) hw hl b hb)
  have Hb := Lib.hid hb
  clear HS hw hl hb
  go_enter Try.func18, Try.ntmps18
  generalize hx : World.alloc w (.cells #[.slice A xs.length cap] 26) = wa at HG HB HC
  have f0 : wa.cell? ⟨w.heap.size, 0, none⟩ = some (.slice A xs.length cap) := by rw [HB.out.cell]; rfl
  have HXX := Lib.hid hx
  clear hx
  cases b with
  | false =>
    have Hp := Lib.hid (HX.out.2 (of_decide_eq_false Hb.out))
    go_wp2_with (go_at_call 36; rw [HXX.out]; refine HC.out.mono ?_; rintro e w3 ⟨rfl, hg⟩; have HG3 := Lib.hid hg; clear hg)
    go_ret2
    rw [Hp.out]
    exact ⟨_, rfl, World.ownsRow_nil _ _ _ _, HG.out.trans HG3.out (fun _ _ h => h)⟩
  | true =>
  obtain ⟨hgood, hput, hform⟩ := HX.out.1 (of_decide_eq_true Hb.out)
  have Hput := Lib.hid hput
  have Hform := Lib.hid hform
  have H4 := Lib.hid hgood.len
  clear hgood hput hform HX Hb
  go_upto_region 3 with (go_at_call 36; rw [HXX.out]; refine HC.out.mono ?_; rintro e w3 ⟨rfl, hg⟩; have HG3 := Lib.hid hg; clear hg)
  have HB3 := Lib.hid (HB.out.fr HG3.out (fun h => h))
  have HG4 := Lib.hid (HG.out.trans HG3.out (fun _ _ h => h))
  have HSL := Lib.hid (HS1.out.gr HG4.out)
  obtain ⟨q, hq⟩ : ∃ q, w.heap.size = q := ⟨_, rfl⟩
  rw [hq] at HB3 ⊢
  clear hq f0 HC HB HXX
  have hwl : IntKind.u64.wrap (xs.length : Int) = (xs.length : Int) := by have := H4.out; show (xs.length : Int) % 18446744073709551616 = _; omega
  have HG4b := Lib.hid ((Fr.refl w3 NoneS).alloc (.cells #[.int .u8 115, .int .u8 116, .int .u8 111, .int .u8 111, .int .u8 107, .int .u8 118] 5 (6, 7)))
  have HM4 := Lib.hid (Mg.new w3)
  have HPn := Lib.hid (fun w' => rPut_any xs.length (by have := H4.out; omega) w')
  have Hpl := Lib.hid (And.intro (putL_len xs.length) (putL_pos xs.length))
  have kc := fun (w : World) (C : Array Value) (n c : Nat) => Lib.run_convert_bytes_const (P := Try.prog) w 22 5 C n c Try.underlying22 Try.underlying5
  go_upto_region 4 with (fail)
  have HB4 := Lib.hid (HB3.out.fr HG4b.out (fun h => h))
  have HSz := Lib.hid (show w3.heap.size < (w3.alloc (.cells #[.int .u8 115, .int .u8 116, .int .u8 111, .int .u8 111, .int .u8 107, .int .u8 118] 5 (6, 7))).heap.size by simp)
  obtain ⟨g, hg⟩ : ∃ g, w3.heap.size = g := ⟨_, rfl⟩
  rw [hg] at HM4 HSz ⊢
  clear hg kc
  generalize World.alloc w3 _ = wm at HG4b HM4 HB4 HSz ⊢
  have c4 : wm.cell? ⟨q, 0, none⟩ = some (.slice A xs.length cap) := by rw [HB4.out.cell]; rfl
  go_upto_region 5 with (
    go_at_call 37
    refine (HPn.out _).mono ?_
    rintro e w4 ⟨tv, rfl, ho, hg⟩
    have HSp := Lib.hid (SL.of_own (enc := encB) ho rfl)
    have HGp := Lib.hid (HG4b.out.trans hg (fun _ _ h => h))
    have HB4' := Lib.hid (HB4.out.fr hg (fun h => h))
    have HM := Lib.hid (HM4.out.gr hg HSz.out)
    clear ho hg)
  clear c4
  go_upto_region 6 with (
    at_builtin
    refine wpList_magic rfl _ _ rfl g tv (putL xs.length) rfl HM.out rfl HSp.out Hpl.out.2 (by have := Hpl.out.1; omega) ?_
    intro v5 w5 hg ho
    have HO5 := Lib.hid ho
    have HG5 := Lib.hid hg
    clear ho hg)
  have HBB := HB4'
  have HSB := Lib.hid (HSL.out.gr HGp.out)
  have HG0 := Lib.hid (HG4.out.trans HGp.out (fun _ _ h => h))
  clear HSp HM HM4 HG4b HPn hwl HG HG3
  obtain ⟨pre, hpre⟩ : ∃ p, magic ++ putL xs.length = p := ⟨_, rfl⟩
  have Hprel := Lib.hid (show pre.length ≤ 16 by rw [← hpre, List.length_append]; have := Hpl.out.1; simp [magic]; omega)
  rw [hpre] at HO5
  have Hbody := Lib.hid (show bodyB xs = pre ++ xs.flatMap pieceB by rw [← hpre]; unfold bodyB; rw [List.append_assoc])
  have hl4 : (xs.length : Int) ≤ 4096 := by have := H4.out; omega
  have Hfl := Lib.hid (show ∀ k, ((xs.take k).flatMap pieceB).length ≤ 31 * k from fun k => by
    have : ∀ l : List Pc, (l.flatMap pieceB).length ≤ 31 * l.length := by
      intro l
      induction l with
      | nil => simp
      | cons a l ih => rw [List.flatMap_cons, List.length_append, List.length_cons]; have := pieceB_len a; omega
    have h1 := this (xs.take k)
    have h2 := List.length_take_le k xs
    omega)
  clear hpre HSL HG4 HGp
  go_upto_block 0 with (fail)
  go_cut [4] (fun s4 wx => ∃ va, va = s4 ∧ Hid (Gr w4 wx ∧ OwB w4.heap.size wx va (bodyB xs)))
  case first =>
    go_wp2_with fail
    go_loopg [4, 6] (xs.length + 1) (fun m s4 s6 wr => ∃ (k : Nat) (va : Value), va = s4 ∧ s6 = .int .i64 k ∧ Hid (k ≤ xs.length ∧ xs.length - k < m) ∧ Hid (Gr w4 wr ∧ OwB w4.heap.size wr va (pre ++ (xs.take k).flatMap pieceB)))
    case atStart => exact ⟨0, _, rfl, rfl, ⟨Nat.zero_le _, by omega⟩, HG5.out, by simpa using HO5.out⟩
    case round =>
      obtain ⟨k, va, rfl, rfl, HK, HP⟩ := hrel
      have c0 : wr.cell? ⟨q, 0, none⟩ = some (.slice A xs.length cap) := by rw [(HBB.out.fr HP.out.1 (fun h => h)).cell]; rfl
      by_cases hk : k < xs.length
      · obtain ⟨b1, o1, rfl, hb1, hc1⟩ := (HSB.out.gr HP.out.1).at_ (s := 5) (fun _ => rfl) rfl hk
        have d0 := hc1 0 (by omega)
        have d1 := hc1 1 (by omega)
        have d2 := hc1 2 (by omega)
        have d3 := hc1 3 (by omega)
        have d4 := hc1 4 (by omega)
        clear hc1
        simp [encP] at d0 d1 d2 d3 d4
        rw [← Nat.add_assoc] at d1 d2 d3 d4
        have Hfm := Lib.hid (Hform.out _ (List.getElem_mem hk))
        have Hst := Lib.hid (List.take_succ_eq_append_getElem hk)
        generalize xs[k]'hk = pc at d0 d1 d2 d3 d4 Hfm Hst
        have hki : (k : Int) < xs.length := by omega
        have Hk := Lib.hid hk
        obtain ⟨cur, hcur⟩ : ∃ p, pre ++ (xs.take k).flatMap pieceB = p := ⟨_, rfl⟩
        have Hcl := Lib.hid (show cur.length ≤ 127000 by rw [← hcur, List.length_append]; have := Hfl.out k; have := Hprel.out; have := H4.out; omega)
        have Hnx := Lib.hid (show pre ++ (xs.take (k + 1)).flatMap pieceB = cur ++ pieceB pc by rw [Hst.out, List.flatMap_append, ← List.append_assoc, hcur, List.flatMap_cons, List.flatMap_nil, List.append_nil])
        have HPP := Lib.hid (rpiece_any pc Hfm.out wr)
        have Hpn := Lib.hid (pieceB_len pc)
        rw [hcur] at HP
        clear hk hb1 hcur
        go_wp2_with (first
          | (go_at_call 38
             refine HPP.out.mono ?_
             rintro e wp ⟨tw, rfl, hs, hg⟩
             have HSq := Lib.hid hs
             have HGq := Lib.hid hg
             clear hs hg)
          | (at_builtin
             refine wpList_app (wB := w4) rfl _ _ rfl va tw cur (pieceB pc) rfl (HP.out.2.fr HGq.out) (HP.out.1.trans HGq.out (fun _ _ h => h)) rfl HSq.out (by have := Hcl.out; have := Hpn.out; omega) ?_
             intro v8 w8 hg ho hbl
             have HO8 := Lib.hid ho
             have HG8 := Lib.hid hg
             clear ho hg hbl))
        go_roundg (gk - 1)
        case measure => have := HK.out; omega
        case rel =>
          refine ⟨k + 1, _, rfl, by go_num, ⟨by have := Hk.out; omega, by have := HK.out; omega⟩, HG8.out, ?_⟩
          rw [Hnx.out]; exact HO8.out
      · have hkk : decide ((k : Int) < xs.length) = false := decide_eq_false (by omega)
        obtain rfl : k = xs.length := by have := HK.out; omega
        go_wp2_with fail
        go_meet
        refine ⟨_, rfl, HP.out.1, ?_⟩
        rw [Hbody.out]
        have h := HP.out.2
        rw [List.take_length] at h
        exact h
  case rest =>
  obtain ⟨va, rfl, HP⟩ := hcut
  have Hbs := Lib.hid (show Bs (bodyB xs) from fun c hc => bodyB_byte Hform.out c hc)
  have Hbl := Lib.hid (show (bodyB xs).length ≤ 127040 by
    rw [Hbody.out, List.length_append]
    have h := Hfl.out xs.length
    rw [List.take_length] at h
    have := Hprel.out; have := H4.out; omega)
  have HCr := Lib.hid (rof_any HP.out.2.sl Hbs.out (by have := Hbl.out; omega))
  have HFr := Lib.hid (fun w' => rfour_any (crcN (bodyB xs)) (crcN_lt Hbs.out) w')
  have Hff := Lib.hid (show fileB xs = bodyB xs ++ four (crcN (bodyB xs)) from rfl)
  have Hf4 := Lib.hid (show (four (crcN (bodyB xs))).length = 4 by simp [four])
  generalize crcN (bodyB xs) = cc at HCr HFr Hff Hf4
  generalize bodyB xs = bs at HP HCr Hff Hbl
  go_wp2_with (first
    | (go_at_call 31; refine HCr.out.mono ?_; rintro e wx ⟨rfl, rfl⟩)
    | (go_at_call 30
       refine (HFr.out _).mono ?_
       intro e wy hp
       obtain ⟨tw, rfl, hs, hg⟩ := four_sl hp
       have HSq := Lib.hid hs
       have HGq := Lib.hid hg
       clear hp hs hg)
    | (at_builtin
       refine wpList_app (wB := w4) rfl _ _ rfl va tw bs (four cc) rfl (HP.out.2.fr HGq.out) (HP.out.1.trans HGq.out (fun _ _ h => h)) rfl HSq.out (by have := Hbl.out; have := Hf4.out; omega) ?_
       intro v9 w9 hg ho hbl
       have HO9 := Lib.hid ho
       have HG9 := Lib.hid hg
       clear ho hg hbl))
  go_ret2
  rw [Hput.out]
  refine ⟨_, rfl, ?_, HG0.out.trans HG9.out (fun _ _ h => h)⟩
  rw [Hff.out]
  exact own_base HO9.out HG0.out.size
end Vf
end Go.Proofs.Ytmjpghaggnpdbaa
