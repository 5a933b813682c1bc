/- vocfile: Put. -/
import Derived.Test.YtlodbhlidgepfaaGMg
import Derived.Test.YtlodbhlidgepfaaVPl
set_option linter.unusedVariables false
set_option linter.unusedSimpArgs false
namespace Go.Proofs.Ytlodbhlidgepfaa
open Go.RowKit
open Voc Leb Crc
namespace Vf
theorem index_arr3 (a b c : Value) (l : List Value) (hl : l = [a, b, c]) (i : Nat) (hi : i < 3) (w : World) (v : Value) (hv : l[i]? = some v) :
    (Instr.index 149 (.agg #[a, b, c]) (.int .i64 (i : Int))).run Try.prog w = .ok v w := by
  subst hl
  obtain ⟨j0, hj0, hz0, hz1, hz2⟩ := info_parts (show (Try.prog.info? 24).map (fun i => (i.zero, i.size, i.bytes)) = some (some (.int .u64 0), 1, 8) by kernel_rfl)
  have h1 : (i : Int) < 3 := by omega
  simp [Instr.index, run_underlying Try.underlying149, part, asIntOf, go_sem, sizeOf, typeInfo, hj0, hz1, h1, isAgg, run_underlying Try.underlying24, hv]
  intro h3; omega
set_option maxRecDepth 20000 in
set_option maxHeartbeats 8000000 in
theorem put_any {w : World} {v : Value} {xs : List Pc} (HS : SL encP w v xs) (hw : ∀ q ∈ xs, wfP q) (hl : xs.length ≤ 1048576) :
    Calls Try.prog 57 #[.agg #[v]] w fun e w' => ∃ tv, e = .returned (.tuple #[tv, .int .i64 (putE xs).2]) ∧ OwB w.heap.size w' tv (putE xs).1 ∧ Gr w w' := by
  have HS1 := Lib.hid HS
  obtain ⟨A, cap, rfl⟩ := SL.form HS
  have HG := Lib.hid ((Fr.refl w NoneS).alloc (.cells #[.slice A xs.length cap] 27))
  have HB := Lib.hid (Blk.new w 27 #[.slice A xs.length cap])
  have HC := Lib.hid (check_any (HS.gr HG.out) hw hl)
  have HX := Lib.hid (show ((checkE xs).1 = 0 → Voc.Good xs ∧ putE xs = (fileB xs, 0) ∧ ∀ p ∈ xs, FormP p) ∧ ((checkE xs).1 ≠ 0 → putE xs = ([], 11)) from
    ⟨fun h => ⟨good_of h, by unfold putE; rw [if_pos h], form_of (good_of h) hw⟩, fun h => by unfold putE; rw [if_neg h]⟩)
  generalize (checkE xs).2 = at_ at HC
  generalize (checkE xs).1 = E at HC HX
  clear HS hw hl
  go_enter Try.func57, Try.ntmps57
  generalize hx : World.alloc w (.cells #[.slice A xs.length cap] 27) = wa at HG HB HC
  have f0 : wa.cell? ⟨w.heap.size, 0, none⟩ = some (.slice A xs.length cap) := by rw [HB.out.cell]; rfl
  have HXX := Lib.hid hx
  clear hx
  by_cases h0 : E = 0
  case neg =>
    have h1 : (E != 0) = true := bne_iff_ne.2 h0
    have hp := HX.out.2 h0
    have Hp := Lib.hid hp
    clear h0 hp
    go_wp2_with (go_at_call 27; rw [HXX.out]; refine HC.out.mono ?_; rintro e w3 ⟨rfl, hg⟩; have HG3 := Lib.hid hg; clear hg)
    go_ret2
    rw [Hp.out]
    exact ⟨_, rfl, World.ownsRow_nil _ _ _ _, HG.out.trans HG3.out (fun _ _ h => h)⟩
  subst h0
  obtain ⟨hgood, hput, hform⟩ := HX.out.1 rfl
  have Hput := Lib.hid hput
  have Hform := Lib.hid hform
  have H4 := Lib.hid hgood.len
  clear hgood hput hform HX
  go_upto_region 4 with (go_at_call 27; rw [HXX.out]; refine HC.out.mono ?_; rintro e w3 ⟨rfl, hg⟩; have HG3 := Lib.hid hg; clear hg)
  have HB3 := Lib.hid (HB.out.fr HG3.out (fun h => h))
  have HG4 := Lib.hid (HG.out.trans HG3.out (fun _ _ h => h))
  have HSL := Lib.hid (HS1.out.gr HG4.out)
  obtain ⟨q, hq⟩ : ∃ q, w.heap.size = q := ⟨_, rfl⟩
  rw [hq] at HB3 ⊢
  have Hq := Lib.hid hq
  clear hq f0 HC HB HXX
  have c3 : w3.cell? ⟨q, 0, none⟩ = some (.slice A xs.length cap) := by rw [HB3.out.cell]; rfl
  have hwl : IntKind.u64.wrap (xs.length : Int) = (xs.length : Int) := by have := H4.out; show (xs.length : Int) % 18446744073709551616 = _; omega
  have c4 : (w3.alloc (.cells #[.int .u8 115, .int .u8 116, .int .u8 111, .int .u8 111, .int .u8 107, .int .u8 118] 5 (6, 7))).cell? ⟨q, 0, none⟩ = some (.slice A xs.length cap) := Lib.cell?_alloc_marked _ c3
  have HG4b := Lib.hid ((Fr.refl w3 NoneS).alloc (.cells #[.int .u8 115, .int .u8 116, .int .u8 111, .int .u8 111, .int .u8 107, .int .u8 118] 5 (6, 7)))
  have HM4 := Lib.hid (Mg.new w3)
  have HPn := Lib.hid (fun w' => Put_any xs.length (by have := H4.out; omega) w')
  have Hpl := Lib.hid (And.intro (putL_len xs.length) (putL_pos xs.length))
  have kc := fun (w : World) (C : Array Value) (n c : Nat) => Lib.run_convert_bytes_const (P := Try.prog) w 32 5 C n c Try.underlying32 Try.underlying5
  go_upto_region 5 with (first
    | (go_at_call 77
       refine (HPn.out _).mono ?_
       rintro e w4 ⟨tv, rfl, hs, hk, hg⟩
       have HSp := Lib.hid hs
       have HGp := Lib.hid (HG4b.out.trans hg (fun _ _ h => h))
       have HM := Lib.hid (HM4.out.gr hg (by simp))
       clear hs hk hg)
    | (at_builtin
       refine wpList_magic rfl _ _ rfl w3.heap.size tv (putL xs.length) rfl HM.out rfl HSp.out Hpl.out.2 (by have := Hpl.out.1; omega) ?_
       intro v5 w5 hg ho
       have HO5 := Lib.hid ho
       have HG5 := Lib.hid hg
       clear ho hg))
  clear c3 c4 kc
  have HB5 := Lib.hid ((HB3.out.fr HGp.out (fun h => h)).fr HG5.out (fun h => h))
  have c5 : w5.cell? ⟨q, 0, none⟩ = some (.slice A xs.length cap) := by rw [HB5.out.cell]; rfl
  have HSB := Lib.hid (HSL.out.gr HGp.out)
  have HG0 := Lib.hid (HG4.out.trans HGp.out (fun _ _ h => h))
  clear HSp HM HM4 HG4b HPn hwl HG HG3
  obtain ⟨pre, hpre⟩ : ∃ p, magic ++ putL xs.length = p := ⟨_, rfl⟩
  have Hprel := Lib.hid (show pre.length ≤ 16 by rw [← hpre, List.length_append]; have := Hpl.out.1; simp [magic]; omega)
  rw [hpre] at HO5
  have Hbody := Lib.hid (show bodyB xs = pre ++ xs.flatMap pieceB by rw [← hpre]; unfold bodyB; rw [List.append_assoc])
  have hl4 : (xs.length : Int) ≤ 4096 := by have := H4.out; omega
  have Hfl := Lib.hid (show ∀ k, ((xs.take k).flatMap pieceB).length ≤ 31 * k from fun k => by
    have : ∀ l : List Pc, (l.flatMap pieceB).length ≤ 31 * l.length := by
      intro l
      induction l with
      | nil => simp
      | cons a l ih => rw [List.flatMap_cons, List.length_append, List.length_cons]; have := pieceB_len a; omega
    have h1 := this (xs.take k)
    have h2 := List.length_take_le k xs
    omega)
  clear hpre HSL HG4
  obtain ⟨wB, hwB⟩ : ∃ x, w4 = x := ⟨_, rfl⟩
  rw [hwB] at HO5 HG5 HG0 HGp HSB
  clear HGp
  go_upto_block 0 with (fail)
  go_cut [6] (fun s6 wx => ∃ va, va = s6 ∧ Hid (Gr wB wx ∧ OwB wB.heap.size wx va (bodyB xs)))
  case first =>
    go_wp2_with fail
    go_loopg [6, 29] (xs.length + 1) (fun m s6 s29 wr => ∃ (k : Nat) (va : Value), va = s6 ∧ s29 = .int .i64 k ∧ Hid (k ≤ xs.length ∧ xs.length - k < m) ∧ Hid (Gr wB wr ∧ OwB wB.heap.size wr va (pre ++ (xs.take k).flatMap pieceB)))
    case atStart => exact ⟨0, _, rfl, rfl, ⟨Nat.zero_le _, by omega⟩, HG5.out, by simpa using HO5.out⟩
    case round =>
      obtain ⟨k, va, rfl, rfl, HK, HP⟩ := hrel
      by_cases hk : k < xs.length
      · obtain ⟨b1, o1, rfl, hb1, hc1⟩ := (HSB.out.gr HP.out.1).at_ (s := 5) (fun _ => rfl) rfl hk
        have d0 := hc1 0 (by omega)
        have d1 := hc1 1 (by omega)
        have d2 := hc1 2 (by omega)
        have d3 := hc1 3 (by omega)
        have d4 := hc1 4 (by omega)
        clear hc1
        simp [encP] at d0 d1 d2 d3 d4
        rw [← Nat.add_assoc] at d1 d2 d3 d4
        have Hfm := Lib.hid (Hform.out _ (List.getElem_mem hk))
        have Hst := Lib.hid (List.take_succ_eq_append_getElem hk)
        generalize xs[k]'hk = pc at d0 d1 d2 d3 d4 Hfm Hst
        obtain ⟨jj, bb, l, r, kk⟩ := pc
        simp only at d0 d1 d2 d3 d4
        have hki : (k : Int) < xs.length := by omega
        have Hk := Lib.hid hk
        obtain ⟨cur, hcur⟩ : ∃ p, pre ++ (xs.take k).flatMap pieceB = p := ⟨_, rfl⟩
        have Hcl := Lib.hid (show cur.length ≤ 127000 by rw [← hcur, List.length_append]; have := Hfl.out k; have := Hprel.out; have := H4.out; omega)
        have Hnx := Lib.hid (show pre ++ (xs.take (k + 1)).flatMap pieceB = cur ++ pieceB ⟨jj, bb, l, r, kk⟩ by rw [Hst.out, List.flatMap_append, ← List.append_assoc, hcur, List.flatMap_cons, List.flatMap_nil, List.append_nil])
        rw [hcur] at HP
        clear hk hb1 hcur
        go_upto_block 2 with (fail)
        have HPc := Lib.hid (Blk.new wr TPc #[.bool jj, .int .u8 bb, .int .i64 l, .int .i64 r, .int .u32 kk])
        have HGx := Lib.hid ((Fr.refl wr NoneS).alloc (.cells #[.bool jj, .int .u8 bb, .int .i64 l, .int .i64 r, .int .u32 kk] TPc))
        obtain ⟨p7, hp7⟩ : ∃ p, wr.heap.size = p := ⟨_, rfl⟩
        rw [hp7] at HPc ⊢
        clear hp7 d0 d1 d2 d3 d4
        generalize World.alloc wr _ = w7 at HPc HGx ⊢
        have HO7 := Lib.hid (HP.out.2.fr HGx.out)
        have HGB := Lib.hid (HP.out.1.trans HGx.out (fun _ _ h => h))
        clear HP HGx
        have f0 : w7.cell? ⟨p7, 0, none⟩ = some (.bool jj) := by rw [HPc.out.cell]; rfl
        have f1 : w7.cell? ⟨p7, 1, none⟩ = some (.int .u8 bb) := by rw [HPc.out.cell]; rfl
        cases jj with
        | false =>
          have Hpb := Lib.hid (show pieceB ⟨false, bb, l, r, kk⟩ = [0, bb] from rfl)
          have HS2 := Lib.hid (sl2 w7 0 bb)
          have HG2 := Lib.hid ((Fr.refl w7 NoneS).alloc (.cells #[.int .u8 0, .int .u8 bb] 5))
          go_wp2_with (
            at_builtin
            refine wpList_app (wB := wB) rfl _ _ rfl va (.slice (some ⟨w7.heap.size, 0, none⟩) 2 2) cur [0, bb] rfl (HO7.out.fr HG2.out) (HGB.out.trans HG2.out (fun _ _ h => h)) rfl HS2.out (by have := Hcl.out; simp only [List.length_cons, List.length_nil]; omega) ?_
            intro v8 w8 hg ho hbl
            have HO8 := Lib.hid ho
            have HG8 := Lib.hid hg
            clear ho hg hbl)
          go_roundg (gk - 1)
          case measure => have := HK.out; omega
          case rel =>
            refine ⟨k + 1, _, rfl, by go_num, ⟨by have := Hk.out; omega, by have := HK.out; omega⟩, HG8.out, ?_⟩
            · rw [Hnx.out, Hpb.out]; exact HO8.out
        | true =>
          obtain ⟨_, hl, hr, hkk⟩ := Hfm.out.2 rfl
          simp only at hl hr hkk
          obtain ⟨l, rfl⟩ := Int.eq_ofNat_of_zero_le hl.1
          obtain ⟨r, rfl⟩ := Int.eq_ofNat_of_zero_le hr.1
          obtain ⟨kk, rfl⟩ := Int.eq_ofNat_of_zero_le hkk.1
          have Hpb := Lib.hid (show pieceB ⟨true, bb, l, r, kk⟩ = [1] ++ (putL l ++ (putL r ++ putL kk)) from rfl)
          have f2 : w7.cell? ⟨p7, 2, none⟩ = some (.int .i64 l) := by rw [HPc.out.cell]; rfl
          have f3 : w7.cell? ⟨p7, 3, none⟩ = some (.int .i64 r) := by rw [HPc.out.cell]; rfl
          have f4 : w7.cell? ⟨p7, 4, none⟩ = some (.int .u32 kk) := by rw [HPc.out.cell]; rfl
          have HS2 := Lib.hid (sl1 w7 1)
          have HG2 := Lib.hid ((Fr.refl w7 NoneS).alloc (.cells #[.int .u8 1] 5))
          go_upto_region 9 with (
            at_builtin
            refine wpList_app (wB := wB) rfl _ _ rfl va (.slice (some ⟨w7.heap.size, 0, none⟩) 1 1) cur [1] rfl (HO7.out.fr HG2.out) (HGB.out.trans HG2.out (fun _ _ h => h)) rfl HS2.out (by have := Hcl.out; simp only [List.length_cons, List.length_nil]; omega) ?_
            intro v8 w8 hg ho hbl
            have HO8 := Lib.hid ho
            have HG8 := Lib.hid hg
            have HP8 := Lib.hid (hbl _ _ _ (by decide) (HPc.out.fr HG2.out (fun h => h)))
            clear ho hg hbl)
          have g2 : w8.cell? ⟨p7, 2, none⟩ = some (.int .i64 l) := by rw [HP8.out.cell]; rfl
          have g3 : w8.cell? ⟨p7, 3, none⟩ = some (.int .i64 r) := by rw [HP8.out.cell]; rfl
          have g4 : w8.cell? ⟨p7, 4, none⟩ = some (.int .u32 kk) := by rw [HP8.out.cell]; rfl
          have e2 : IntKind.u64.wrap (l : Int) = (l : Int) := u64_of (by omega)
          have e3 : IntKind.u64.wrap (r : Int) = (r : Int) := u64_of (by omega)
          have e4 : IntKind.u64.wrap (kk : Int) = (kk : Int) := u64_of hkk
          have Hhl := Lib.hid hl
          have Hhr := Lib.hid hr
          have Hhk := Lib.hid hkk
          clear hl hr hkk HP8 HS2 HO7
          go_upto_block 3 with (fail)
          clear g2 g3 g4 e2 e3 e4
          have HNx := Lib.hid (show cur ++ pieceB ⟨true, bb, l, r, kk⟩ = (cur ++ [1]) ++ ([l, r, kk].take 3).flatMap putL by rw [Hpb.out]; simp)
          go_wp2_with fail
          obtain ⟨wo, rfl⟩ : ∃ wo : World, wo = wr := ⟨_, rfl⟩
          obtain ⟨m0, rfl⟩ : ∃ m0, gk = m0 + 1 := ⟨gk - 1, by have := HK.out; omega⟩
          go_loopg [6, 46] 4 (fun m s6 s46 wr => ∃ (i : Nat) (va : Value), va = s6 ∧ s46 = .int .i64 i ∧ Hid (i ≤ 3 ∧ 3 - i < m) ∧ Hid (Gr wB wr ∧ OwB wB.heap.size wr va ((cur ++ [1]) ++ ([l, r, kk].take i).flatMap putL)))
          case atStart => exact ⟨0, _, rfl, rfl, ⟨by omega, by omega⟩, HG8.out, by simpa using HO8.out⟩
          case round =>
            obtain ⟨i, vb, rfl, rfl, HI, HQ⟩ := hrel
            by_cases hi : i < 3
            · have hii : decide ((i : Int) < 3) = true := decide_eq_true (by omega)
              obtain ⟨n, hn, hn64⟩ : ∃ n, [l, r, kk][i]? = some n ∧ n < 2 ^ 64 := by
                have a1 := Hhl.out
                have a2 := Hhr.out
                have a3 := Hhk.out
                match i, hi with
                | 0, _ => exact ⟨l, rfl, by omega⟩
                | 1, _ => exact ⟨r, rfl, by omega⟩
                | 2, _ => exact ⟨kk, rfl, by omega⟩
              have ix := index_arr3 (.int .u64 (l : Nat)) (.int .u64 (r : Nat)) (.int .u64 (kk : Nat)) _ rfl i hi wr (.int .u64 (n : Nat)) (by
                match i, hi with
                | 0, _ => have e : l = n := by simpa using hn
                          subst e; rfl
                | 1, _ => have e : r = n := by simpa using hn
                          subst e; rfl
                | 2, _ => have e : kk = n := by simpa using hn
                          subst e; rfl)
              obtain ⟨c2, hc2⟩ : ∃ c, (cur ++ [1]) ++ ([l, r, kk].take i).flatMap putL = c := ⟨_, rfl⟩
              have Hn2 := Lib.hid (show (cur ++ [1]) ++ ([l, r, kk].take (i + 1)).flatMap putL = c2 ++ putL n by
                rw [← hc2, List.take_add_one, hn]; simp)
              have Hc2 := Lib.hid (show c2.length ≤ 127031 by
                rw [← hc2, List.length_append, List.length_append]
                have h1 := Hcl.out
                have h2 : (([l, r, kk].take i).flatMap putL).length ≤ 30 := by
                  have a := putL_len l
                  have b := putL_len r
                  have c := putL_len kk
                  match i, hi with
                  | 0, _ => simp
                  | 1, _ => simp; omega
                  | 2, _ => simp; omega
                simp only [List.length_cons, List.length_nil]; omega)
              rw [hc2] at HQ
              have HPm := Lib.hid (fun w' => Put_any n hn64 w')
              have Hpn := Lib.hid (putL_len n)
              have Hi := Lib.hid hi
              have hi3 : (i : Int) < 3 := by omega
              clear hc2 hn hn64 hi
              go_wp2_with (first
                | (go_at_call 77
                   refine (HPm.out _).mono ?_
                   rintro e wp ⟨tw, rfl, hs, hk, hg⟩
                   have HSq := Lib.hid hs
                   have HGq := Lib.hid hg
                   clear hs hk hg)
                | (at_builtin
                   refine wpList_app (wB := wB) rfl _ _ rfl vb tw c2 (putL n) rfl (HQ.out.2.fr HGq.out) (HQ.out.1.trans HGq.out (fun _ _ h => h)) rfl HSq.out (by have := Hc2.out; have := Hpn.out; omega) ?_
                   intro v9 w9 hg ho hbl
                   have HO9 := Lib.hid ho
                   have HG9 := Lib.hid hg
                   clear ho hg hbl))
              go_roundg (gk - 1)
              case measure => have := HI.out; omega
              case rel =>
                refine ⟨i + 1, _, rfl, by go_num, ⟨by have := Hi.out; omega, by have := Hi.out; have := HI.out; omega⟩, HG9.out, ?_⟩
                rw [Hn2.out]; exact HO9.out
            · have hii : decide ((i : Int) < 3) = false := decide_eq_false (by omega)
              obtain rfl : i = 3 := by have := HI.out; omega
              have H9 := Lib.hid (show OwB wB.heap.size wr vb (cur ++ pieceB ⟨true, bb, l, r, kk⟩) by rw [HNx.out]; exact HQ.out.2)
              go_wp2_with fail
              go_roundg m0
              case measure => omega
              case rel =>
                refine ⟨k + 1, _, rfl, by go_num, ⟨by have := Hk.out; omega, by have := Hk.out; have := HK.out; omega⟩, HQ.out.1, ?_⟩
                rw [Hnx.out]; exact H9.out
      · have hkk : decide ((k : Int) < xs.length) = false := decide_eq_false (by omega)
        obtain rfl : k = xs.length := by have := HK.out; omega
        go_wp2_with fail
        go_meet
        refine ⟨_, rfl, HP.out.1, ?_⟩
        rw [Hbody.out]
        have h := HP.out.2
        rw [List.take_length] at h
        exact h
  case rest =>
  obtain ⟨va, rfl, HP⟩ := hcut
  have Hbs := Lib.hid (show Crc.Bs (bodyB xs) from fun c hc => bodyB_byte Hform.out c hc)
  have Hbl := Lib.hid (show (bodyB xs).length ≤ 127040 by
    rw [Hbody.out, List.length_append]
    have h := Hfl.out xs.length
    rw [List.take_length] at h
    have := Hprel.out; have := H4.out; omega)
  have HCr := Lib.hid (of_any HP.out.2.sl Hbs.out (by have := Hbl.out; omega))
  have HFr := Lib.hid (fun w' => four_any (crcN (bodyB xs)) (crcN_lt Hbs.out) w')
  have Hff := Lib.hid (show fileB xs = bodyB xs ++ four (crcN (bodyB xs)) from rfl)
  have Hf4 := Lib.hid (show (four (crcN (bodyB xs))).length = 4 by simp [four])
  generalize crcN (bodyB xs) = cc at HCr HFr Hff Hf4
  generalize bodyB xs = bs at HP HCr Hff Hbl
  go_wp2_with (first
    | (go_at_call 76; refine HCr.out.mono ?_; rintro e wx ⟨rfl, rfl⟩)
    | (go_at_call 75
       refine (HFr.out _).mono ?_
       intro e wy hp
       obtain ⟨tw, rfl, hs, hg⟩ := four_sl hp
       have HSq := Lib.hid hs
       have HGq := Lib.hid hg
       clear hp hs hg)
    | (at_builtin
       refine wpList_app (wB := wB) rfl _ _ rfl va tw bs (four cc) rfl (HP.out.2.fr HGq.out) (HP.out.1.trans HGq.out (fun _ _ h => h)) rfl HSq.out (by have := Hbl.out; have := Hf4.out; omega) ?_
       intro v9 w9 hg ho hbl
       have HO9 := Lib.hid ho
       have HG9 := Lib.hid hg
       clear ho hg hbl))
  go_ret2
  rw [Hput.out]
  refine ⟨_, rfl, ?_, HG0.out.trans HG9.out (fun _ _ h => h)⟩
  rw [Hff.out]
  exact own_base HO9.out HG0.out.size
end Vf
end Go.Proofs.Ytlodbhlidgepfaa
