/- record: the reference's Get. -/
import Derived.Test.YtobedpohoellkaaRWd
import Derived.Test.YtobedpohoellkaaRRa
import Derived.StillTailTactics
set_option linter.unusedVariables false
set_option linter.unusedSimpArgs false
namespace Go.Proofs.Ytobedpohoellkaa
open Go.RowKit
open Voc Leb Bpe
namespace Rec
theorem rcA_setd (r : Rc) (tv : Value) (hd : r.d.length = 32) (k : Nat) (hk : k < 32) (x : Int) : (rcA r tv).setIfInBounds k (.int .u8 x) = rcA { r with d := r.d.set k x } tv := by
  unfold rcA; rw [List.setIfInBounds_toArray, List.set_append_left _ _ (by rw [List.length_map, hd]; exact hk), ← List.map_set]
def hnk (b : List Int) : Nat → Int
  | 0 => 0
  | k + 1 => 256 * hnk b k + b.getD (7 - k) 0
theorem hnk_un8 (b : List Int) : hnk b 8 = un8 b := by
  simp only [hnk, un8, Nat.reduceSub, Nat.sub_zero, Nat.sub_self]
  omega
theorem hnk_lt {b : List Int} (hb : Bs b) : ∀ (k : Nat), 0 ≤ hnk b k ∧ hnk b k < 256 ^ k
  | 0 => by simp [hnk]
  | k + 1 => by
    have ih := hnk_lt hb k
    have hc : 0 ≤ b.getD (7 - k) 0 ∧ b.getD (7 - k) 0 < 256 := by
      rw [List.getD_eq_getElem?_getD]
      by_cases h : 7 - k < b.length
      · rw [List.getElem?_eq_getElem h]; exact hb _ (List.getElem_mem h)
      · rw [List.getElem?_eq_none (by omega)]; simp
    simp only [hnk]
    have h256 : (256 : Int) ^ (k + 1) = 256 * 256 ^ k := by rw [Int.pow_succ, Int.mul_comm]
    rw [h256]
    omega
theorem hnk_in {b : List Int} (hb : Bs b) (k : Nat) (hk : k < 8) : 0 ≤ hnk b k ∧ hnk b k < 72057594037927936 := by
  have h := hnk_lt hb k
  have h2 : (256 : Int) ^ k ≤ 72057594037927936 := by
    match k, hk with
    | 0, _ | 1, _ | 2, _ | 3, _ | 4, _ | 5, _ | 6, _ | 7, _ => decide
  omega
set_option maxRecDepth 20000 in
set_option maxHeartbeats 4000000 in
theorem rrecGet_any {w : World} {v : Value} {bs : List Int} (hs : SL encB w v bs) (hb : Bs bs) (hl : bs.length ≤ 4194304) :
    Calls Try.prog 16 #[v] w fun e w' => ∃ tv, e = .returned (.tuple #[.agg (rcA (getR bs).1 tv), .int .i64 (getR bs).2]) ∧ OI w' w.heap.size tv (getR bs).1.t ∧ Gr w w' := by
  obtain ⟨i1, hi1, hx0, hx1, hx2⟩ := info_parts info_u8
  have HG := Lib.hid ((Fr.refl w NoneS).alloc (.cells (rcA zeroR (.slice none 0 0)) TRc))
  have HB := Lib.hid (Blk.new w TRc (rcA zeroR (.slice none 0 0)))
  have HS := Lib.hid (hs.gr HG.out)
  obtain ⟨A, cap, rfl⟩ := SL.form hs
  have Hbs := Lib.hid hb
  have Hl := Lib.hid hl
  have hli : (bs.length : Int) ≤ 4194304 := by omega
  obtain ⟨R, hR⟩ : ∃ R, getR bs = R := ⟨_, rfl⟩
  rw [hR]
  have HR := Lib.hid hR
  clear hs hb hl hR
  obtain ⟨q, hq⟩ : ∃ q, w.heap.size = q := ⟨_, rfl⟩
  have Hq := Lib.hid hq
  rw [hq] at HB
  go_enter Try.func16, Try.ntmps16
  go_upto_region 1 with (fail)
  change Code.wp _ _ _ _ (w.alloc (.cells (rcA zeroR (.slice none 0 0)) TRc))
  clear hq
  generalize hx : World.alloc w _ = wa at HG HB HS ⊢
  clear hx
  by_cases h40 : bs.length < 40
  case pos =>
    have h40i : decide ((bs.length : Int) < 40) = true := decide_eq_true (by omega)
    have HRe := Lib.hid (show R = (zeroR, 4) by rw [← HR.out]; unfold getR; rw [if_pos h40])
    clear h40
    go_wp2_with (first
      | refine Sha.wpList_build_to rfl TRc _ rfl (rcA zeroR (.slice none 0 0)) (by kernel_rfl) ?_
      | refine wpList_store_row rfl _ _ _ rfl q (rcA zeroR (.slice none 0 0)) rfl rfl TRc _ HB.out (by kernel_rfl) (by kernel_rfl) (by kernel_rfl) ?_)
    refine bodyPost_ret (results_ct Try.results16 _ _ q _ (rcA zeroR (.slice none 0 0)) (0, 0) _ (.int .i64 4) rfl rfl (Sha.blk_setRow HB.out _) Try.underlying27 rfl (by kernel_rfl)) rfl ?_
    rw [HRe.out]
    exact ⟨_, rfl, OI.nil _ _, Sha.fr_setRow HG.out (fun h => by have := Hq.out; omega) _⟩
  have h40i : decide ((bs.length : Int) < 40) = false := decide_eq_false (by omega)
  have H40 := Lib.hid (show 40 ≤ bs.length by omega)
  obtain ⟨b, off, hA, hbl, hcell⟩ : ∃ b off, A = some ⟨b, off, none⟩ ∧ b < wa.heap.size ∧ ∀ i u, (bs.flatMap encB)[i]? = some u → wa.cell? ⟨b, off + i, none⟩ = some u := by
    obtain ⟨A', c', he, hc, hr⟩ := HS.out
    injection he with e1 e2 e3
    subst e1
    exact hr (by omega)
  subst hA
  clear h40 hcell hbl
  go_upto_region 4 with (fail)
  change Code.wp _ _ _ _ (wa.alloc (.cells (rcA zeroR (.slice none 0 0)) TRc))
  have HB4 := Lib.hid (Blk.new wa TRc (rcA zeroR (.slice none 0 0)))
  have HG4 := Lib.hid ((Fr.refl wa NoneS).alloc (.cells (rcA zeroR (.slice none 0 0)) TRc))
  obtain ⟨p4, hp4⟩ : ∃ p4, wa.heap.size = p4 := ⟨_, rfl⟩
  have Hp4 := Lib.hid hp4
  rw [hp4] at HB4 ⊢
  clear hp4
  generalize hx : World.alloc wa _ = wb at HB4 HG4 ⊢
  clear hx
  have HBq := Lib.hid (HB.out.fr HG4.out (fun h => h))
  have Hqs := Lib.hid (show w.heap.size ≤ p4 from by have := Hp4.out; have := HG.out.size; omega)
  have HSb := Lib.hid (HS.out.gr HG4.out)
  have HGb := Lib.hid (HG.out.trans HG4.out (fun _ _ h => h))
  have Hqp := Lib.hid (show q ≠ p4 from by have := HB.out.lt; have := Hp4.out; omega)
  have Hcl := Lib.hid (show b ≠ p4 ∧ b < wb.heap.size ∧ ∀ k, k < 40 → wb.cell? ⟨b, off + k, none⟩ = some (.int .u8 (bs.getD k 0)) from by
    obtain ⟨A', c', he, hc, hr⟩ := HS.out
    obtain ⟨b', off', hA', hbl, _⟩ := hr (by have := H40.out; omega)
    injection he with e1 e2 e3
    subst e1
    injection hA' with hA'
    injection hA' with h1 h2
    subst h1 h2
    have hsz := HG4.out.size
    refine ⟨by have := Hp4.out; omega, by omega, fun k hk => ?_⟩
    obtain ⟨b2, o2, hA2, _, hcl⟩ := HSb.out.at_ (s := 1) (k := k) (fun _ => rfl) rfl (by have := H40.out; omega)
    injection hA2 with hA2
    injection hA2 with h1 h2
    subst h1 h2
    have h := hcl 0 (by omega)
    simp [encB] at h
    rw [List.getD_eq_getElem?_getD, List.getElem?_eq_getElem (by have := H40.out; omega)]
    exact h)
  obtain ⟨dg, hdg⟩ : ∃ d, bs.take 32 = d := ⟨_, rfl⟩
  have Hdl := Lib.hid (show dg.length = 32 by rw [← hdg, List.length_take]; have := H40.out; omega)
  have Hdg := Lib.hid hdg
  have Hdat := Lib.hid (show ∀ k, k < 32 → ∃ h : k < dg.length, dg[k] = bs.getD k 0 from fun k hk => by
    subst hdg
    refine ⟨by rw [List.length_take]; have := H40.out; omega, ?_⟩
    rw [List.getElem_take, List.getD_eq_getElem?_getD, List.getElem?_eq_getElem (by have := H40.out; omega)]
    rfl)
  clear hdg
  go_upto_block 0 with (fail)
  go_cut [] (fun wx => Hid (Blk wx p4 TRc (rcA ⟨dg, 0, 0, []⟩ (.slice none 0 0))) ∧ Hid (Fr wb wx (fun k => k = p4)))
  case first =>
    go_wp2_with fail
    go_loopg [5] 33 (fun m s5 wr => ∃ k : Nat, s5 = .int .i64 k ∧ Hid (k ≤ 32 ∧ 32 - k < m) ∧ Hid (Blk wr p4 TRc (rcA ⟨Bpe.part dg k, 0, 0, []⟩ (.slice none 0 0))) ∧ Hid (Fr wb wr (fun k => k = p4)))
    case atStart =>
      refine ⟨0, rfl, ⟨by omega, by omega⟩, ?_, Fr.refl _ _⟩
      have e : Bpe.part dg 0 = zeroR.d := by unfold Bpe.part; rw [Hdl.out]; rfl
      rw [e]
      exact HB4.out
    case round =>
      obtain ⟨k, rfl, HK, HBk, HD⟩ := hrel
      by_cases hk : k < 32
      · have hki : (k : Int) < 32 := by omega
        have hkb : (k : Int) < (bs.length : Int) := by have := H40.out; omega
        have Hk := Lib.hid hk
        have hpl : (Bpe.part dg k).length = 32 := by rw [part_len dg (by have := Hdl.out; omega)]; exact Hdl.out
        have d0 : wr.cell? ⟨b, off + k, none⟩ = some (.int .u8 (bs.getD k 0)) := (HD.out.cell (p := ⟨b, off + k, none⟩) Hcl.out.2.1 Hcl.out.1).trans (Hcl.out.2.2 k (by omega))
        obtain ⟨y, hy⟩ : ∃ y, wr.cell? ⟨p4, k, none⟩ = some (.int .u8 y) := by
          refine ⟨(Bpe.part dg k)[k]'(by omega), ?_⟩
          rw [HBk.out.cell]
          refine (rcA_d (r := ⟨Bpe.part dg k, 0, 0, []⟩) _ (show k < (Bpe.part dg k).length by omega)).trans ?_
          show ((Bpe.part dg k)[k]?).map (Value.int .u8) = _
          rw [List.getElem?_eq_getElem (show k < (Bpe.part dg k).length by omega)]
          rfl
        have zk := HBk.out.frozen k
        have Hnx := Lib.hid (show (Bpe.part dg k).set k (bs.getD k 0) = Bpe.part dg (k + 1) from by
          obtain ⟨h, e⟩ := Hdat.out k hk
          rw [← e]
          exact part_set dg h)
        have Hpl := Lib.hid hpl
        generalize bs.getD k 0 = c at d0 Hnx
        clear hk hpl
        go_wp2_with fail
        go_roundg (gk - 1)
        case measure => have := HK.out; have := Hk.out; omega
        case rel =>
          refine ⟨k + 1, by go_num, ⟨Hk.out, by have := HK.out; have := Hk.out; omega⟩, ?_, HD.out.setCell (p := ⟨p4, k, none⟩) (fun _ => rfl) _⟩
          have h := HBk.out.set_ k (.int .u8 c)
          rw [rcA_setd ⟨Bpe.part dg k, 0, 0, []⟩ _ Hpl.out k Hk.out] at h
          rw [← Hnx.out]
          exact h
      · obtain rfl : k = 32 := by have := HK.out; omega
        go_wp2_with fail
        go_meet
        refine ⟨?_, HD⟩
        have e : Bpe.part dg 32 = dg := by have h := part_all dg; rw [Hdl.out] at h; exact h
        have h := HBk.out
        rw [e] at h
        exact h
  case rest =>
  obtain ⟨HB5, HD5⟩ := hcut
  go_upto_block 2 with (fail)
  go_cut [] (fun wx => Hid (Blk wx p4 TRc (rcA ⟨dg, un8 (bs.drop 32), 0, []⟩ (.slice none 0 0))) ∧ Hid (Fr wb wx (fun k => k = p4)))
  case first =>
    go_wp2_with fail
    go_loopg [6] 9 (fun m s6 wr => ∃ (k : Nat) (s : Int), s6 = .int .i64 s ∧ Hid (s = 7 - (k : Int) ∧ k ≤ 8 ∧ 8 - k < m) ∧ Hid (Blk wr p4 TRc (rcA ⟨dg, hnk (bs.drop 32) k, 0, []⟩ (.slice none 0 0))) ∧ Hid (Fr wb wr (fun k => k = p4)))
    case atStart => exact ⟨0, 7, rfl, ⟨by omega, by omega, by omega⟩, HB5.out, HD5.out⟩
    case round =>
      obtain ⟨k, s, rfl, HK, HBk, HD⟩ := hrel
      by_cases hk : k < 8
      · obtain ⟨j, hj⟩ : ∃ j : Nat, s = (j : Int) := ⟨7 - k, by have := HK.out; omega⟩
        subst hj
        have Hj := Lib.hid (show j = 7 - k by have := HK.out; omega)
        have hj7 : (j : Int) ≤ 7 := by have := HK.out; omega
        have hj0 : (0 : Int) ≤ (j : Int) := by omega
        have Hk := Lib.hid hk
        have d0 : wr.cell? ⟨b, off + (32 + j), none⟩ = some (.int .u8 (bs.getD (32 + j) 0)) := (HD.out.cell (p := ⟨b, off + (32 + j), none⟩) Hcl.out.2.1 Hcl.out.1).trans (Hcl.out.2.2 (32 + j) (by omega))
        have f32 : wr.cell? ⟨p4, 32, none⟩ = some (.int .u64 (hnk (bs.drop 32) k)) := by rw [HBk.out.cell]; exact rcA_v (r := ⟨dg, hnk (bs.drop 32) k, 0, []⟩) _ Hdl.out
        have z32 := HBk.out.frozen 32
        have hcin : 0 ≤ bs.getD (32 + j) 0 ∧ bs.getD (32 + j) 0 < 256 := by
          rw [List.getD_eq_getElem?_getD, List.getElem?_eq_getElem (by have := H40.out; omega)]
          exact Hbs.out _ (List.getElem_mem _)
        have hsn : hnk (bs.drop 32) (k + 1) = 256 * hnk (bs.drop 32) k + bs.getD (32 + j) 0 := by
          rw [Hj.out]
          show 256 * hnk (bs.drop 32) k + (bs.drop 32).getD (7 - k) 0 = _
          rw [List.getD_eq_getElem?_getD, List.getElem?_drop, ← List.getD_eq_getElem?_getD]
        have hac := hnk_in (b := bs.drop 32) (fun c hc => Hbs.out c (List.mem_of_mem_drop hc)) k hk
        generalize bs.getD (32 + j) 0 = c at d0 hcin hsn
        have Hsn := Lib.hid hsn
        clear hsn
        generalize hnk (bs.drop 32) k = acc at f32 Hsn HBk hac
        have hw1 : IntKind.u64.wrap (256 * acc) = 256 * acc := by show (256 * acc) % 18446744073709551616 = _; omega
        have hw2 : IntKind.u64.wrap c = c := by show c % 18446744073709551616 = _; omega
        have hw3 : IntKind.u64.wrap (256 * acc + c) = 256 * acc + c := by show (256 * acc + c) % 18446744073709551616 = _; omega
        have hw4 : IntKind.i64.wrap (32 + (j : Int)) = 32 + (j : Int) := IntWalk.i64_in _ ⟨by omega, by omega⟩
        have hw5 : (32 + (j : Int)).toNat = 32 + j := by omega
        have hw6 : 32 + (j : Int) < (bs.length : Int) := by have := H40.out; omega
        have hw7 : (0 : Int) ≤ 32 + (j : Int) := by omega
        clear hk hcin hac
        go_upto_region 11 with (fail)
        go_still_tail 11, (by kernel_rfl)
        go_wp2_with fail
        go_roundg (gk - 1)
        case measure => have := HK.out; have := Hk.out; omega
        case rel =>
          refine ⟨k + 1, (j : Int) - 1, by go_num, ⟨by have := HK.out; omega, Hk.out, by have := HK.out; have := Hk.out; omega⟩, ?_, (HD.out.drew).setCell (p := ⟨p4, 32, none⟩) (fun _ => rfl) _⟩
          have h := HBk.out.drew.set_ 32 (.int .u64 (256 * acc + c))
          rw [rcA_setv ⟨dg, acc, 0, []⟩ _ Hdl.out] at h
          rw [Hsn.out]
          exact h
      · obtain rfl : k = 8 := by have := HK.out; omega
        have hs : s = -1 := by have := HK.out; omega
        subst hs
        go_wp2_with fail
        go_meet
        refine ⟨?_, HD⟩
        have h := HBk.out
        rw [hnk_un8] at h
        exact h
  case rest =>
  obtain ⟨HB6, HD⟩ := hcut
  have HGw := Lib.hid (show Gr w wc from HGb.out.trans HD.out (fun i hi h => by have := Hqs.out; omega))
  have HBq5 := Lib.hid (HBq.out.fr HD.out Hqp.out)
  have HS5 := Lib.hid (HSb.out.fr HD.out (fun k hk h => by
    simp [Value.ownBlock] at hk
    exact Hcl.out.1 (hk.trans h)))
  clear HB4 HB5 HD5 HB HG HG4 HGb HBq HSb HS Hdat
  obtain ⟨un, hun⟩ : ∃ un, un8 (bs.drop 32) = un := ⟨_, rfl⟩
  have Hun := Lib.hid hun
  rw [hun] at HB6
  clear hun
  have HCt := Lib.hid (rcount_any 40 H40.out HS5.out Hbs.out Hl.out 4096 (by omega))
  have hb0 := leb_ok Hbs.out H40.out
  have hr := HR.out
  unfold getR at hr
  rw [if_neg (by have := H40.out; omega)] at hr
  obtain ⟨u0, k0, e0, hu⟩ : ∃ u k e0, lebE (bs.drop 40) = (u, k, e0) := ⟨_, _, _, rfl⟩
  rw [hu] at HCt hb0 hr
  simp only at HCt hb0 hr
  by_cases he : e0 = 0
  case neg =>
    rw [if_pos he] at HCt hr
    have HRe := Lib.hid hr.symm
    have he1 : (e0 != 0) = true := bne_iff_ne.2 he
    clear hu hb0 he hr
    go_upto_region 13 with (go_at_call 38; refine HCt.out.mono ?_; rintro e w2 ⟨rfl, rfl⟩)
    go_wp2_with (first
      | refine Sha.wpList_build_to rfl TRc _ rfl (rcA zeroR (.slice none 0 0)) (by kernel_rfl) ?_
      | refine wpList_store_row rfl _ _ _ rfl q (rcA zeroR (.slice none 0 0)) rfl rfl TRc _ HBq5.out (by kernel_rfl) (by kernel_rfl) (by kernel_rfl) ?_)
    refine bodyPost_ret (results_ct Try.results16 _ _ q _ (rcA zeroR (.slice none 0 0)) (0, 0) _ (.int .i64 e0) rfl rfl (Sha.blk_setRow HBq5.out _) Try.underlying27 rfl (by kernel_rfl)) rfl ?_
    rw [HRe.out]
    exact ⟨_, rfl, OI.nil _ _, Sha.fr_setRow HGw.out (fun h => by have := Hq.out; omega) _⟩
  subst he
  rw [if_neg (by decide)] at HCt hr
  obtain ⟨hlt, hnx⟩ := hb0 rfl
  by_cases h4 : 4096 < u0
  case pos =>
    rw [if_pos h4] at HCt hr
    have HRe := Lib.hid hr.symm
    clear hu h4 hr hlt hnx hb0
    go_upto_region 13 with (go_at_call 38; refine HCt.out.mono ?_; rintro e w2 ⟨rfl, rfl⟩)
    go_wp2_with (first
      | refine Sha.wpList_build_to rfl TRc _ rfl (rcA zeroR (.slice none 0 0)) (by kernel_rfl) ?_
      | refine wpList_store_row rfl _ _ _ rfl q (rcA zeroR (.slice none 0 0)) rfl rfl TRc _ HBq5.out (by kernel_rfl) (by kernel_rfl) (by kernel_rfl) ?_)
    refine bodyPost_ret (results_ct Try.results16 _ _ q _ (rcA zeroR (.slice none 0 0)) (0, 0) _ (.int .i64 3) rfl rfl (Sha.blk_setRow HBq5.out _) Try.underlying27 rfl (by kernel_rfl)) rfl ?_
    rw [HRe.out]
    exact ⟨_, rfl, OI.nil _ _, Sha.fr_setRow HGw.out (fun h => by have := Hq.out; omega) _⟩
  rw [if_neg h4] at HCt hr
  have H4 := Lib.hid (show u0 ≤ 4096 by omega)
  obtain ⟨a1, ha1⟩ : ∃ a1, 40 + k0 = a1 := ⟨_, rfl⟩
  rw [ha1] at HCt hr hnx
  have Hnx := Lib.hid hnx
  obtain ⟨⟨pl, pe, pr⟩, hp⟩ : ∃ y, unpackE bs a1 = y := ⟨_, rfl⟩
  rw [hp] at hr
  simp only at hr
  have HRr := Lib.hid hr
  have Hpe := Lib.hid (show pr = 0 → pe ≤ bs.length from fun h => by
    rw [h] at hp
    exact (unpack_read Hbs.out hnx hp).2.2)
  have HPk := Lib.hid (fun wx (hs : SL encB wx (.slice (some ⟨b, off, none⟩) bs.length cap) bs) => by
    have h := rpackGet_any a1 Hnx.out hs Hbs.out Hl.out
    rw [hp] at h
    exact h)
  simp only at HPk
  have z33 := HB6.out.frozen 33
  have f33 : wc.cell? ⟨p4, 33, none⟩ = some (.int .i64 0) := by rw [HB6.out.cell]; exact rcA_n (r := ⟨dg, un, 0, []⟩) _ Hdl.out
  clear hu h4 hr hlt hnx hb0 ha1 hp
  go_upto_region 16 with (go_at_call 38; refine HCt.out.mono ?_; rintro e w2 ⟨rfl, rfl⟩)
  have HB7 := Lib.hid (show Blk (wc.setCell ⟨p4, 33, none⟩ (.int .i64 (u0 : Int))) p4 TRc (rcA ⟨dg, un, (u0 : Int), []⟩ (.slice none 0 0)) from by
    have h := HB6.out.set_ 33 (.int .i64 (u0 : Int))
    rw [rcA_setn ⟨dg, un, 0, []⟩ _ Hdl.out] at h
    exact h)
  have HF7 := Lib.hid (show Fr wc (wc.setCell ⟨p4, 33, none⟩ (.int .i64 (u0 : Int))) (fun k => k = p4) from (Fr.refl wc (fun k => k = p4)).setCell (p := ⟨p4, 33, none⟩) (fun _ => rfl) _)
  clear z33 f33
  generalize hx : World.setCell wc _ _ = w7 at HB7 HF7 ⊢
  clear hx
  have HG7 := Lib.hid (show Gr w w7 from HGw.out.trans HF7.out (fun i hi h => by have := Hqs.out; omega))
  have HBq7 := Lib.hid (HBq5.out.fr HF7.out Hqp.out)
  have HS7 := Lib.hid (HS5.out.fr HF7.out (fun k hk h => by
    simp [Value.ownBlock] at hk
    exact Hcl.out.1 (hk.trans h)))
  clear HB6 HF7 HBq5 HS5
  go_upto_region 17 with (go_at_call 39; refine (HPk.out _ HS7.out).mono ?_; rintro e w8 ⟨tv, rfl, ho, hg⟩; obtain ⟨At, ct, rfl⟩ := own_formN ho.own; have HT8 := Lib.hid (ho.base HG7.out.size); have HG8 := Lib.hid (HG7.out.trans hg (fun _ _ h => h)); have HBq8 := Lib.hid (HBq7.out.fr hg (fun h => h)); have HB8 := Lib.hid (HB7.out.fr hg (fun h => h)); have Htl := Lib.hid (fun k hk => (ho.own.lt k hk).1); have Hwr := Lib.hid (show p4 < w7.heap.size ∧ q < w7.heap.size from ⟨HB7.out.lt, HBq7.out.lt⟩); clear ho hg)
  by_cases hpr : pr = 0
  case neg =>
    have hr := HRr.out
    rw [if_pos hpr] at hr
    have HRe := Lib.hid hr.symm
    have he1 : (pr != 0) = true := bne_iff_ne.2 hpr
    clear hpr hr
    go_wp2_with (first
      | refine Sha.wpList_build_to rfl TRc _ rfl (rcA zeroR (.slice none 0 0)) (by kernel_rfl) ?_
      | refine wpList_store_row rfl _ _ _ rfl q (rcA zeroR (.slice none 0 0)) rfl rfl TRc _ HBq8.out (by kernel_rfl) (by kernel_rfl) (by kernel_rfl) ?_)
    refine bodyPost_ret (results_ct Try.results16 _ _ q _ (rcA zeroR (.slice none 0 0)) (0, 0) _ (.int .i64 pr) rfl rfl (Sha.blk_setRow HBq8.out _) Try.underlying27 rfl (by kernel_rfl)) rfl ?_
    rw [HRe.out]
    exact ⟨_, rfl, OI.nil _ _, Sha.fr_setRow HG8.out (fun h => by have := Hq.out; omega) _⟩
  subst hpr
  have hpl := Hpe.out rfl
  by_cases hpe : pe < bs.length
  case pos =>
    have hr := HRr.out
    rw [if_neg (by decide), if_pos hpe] at hr
    have HRe := Lib.hid hr.symm
    have hpe1 : ((pe : Int) != (bs.length : Int)) = true := by rw [bne_iff_ne]; omega
    clear hpe hr
    go_wp2_with (first
      | refine Sha.wpList_build_to rfl TRc _ rfl (rcA zeroR (.slice none 0 0)) (by kernel_rfl) ?_
      | refine wpList_store_row rfl _ _ _ rfl q (rcA zeroR (.slice none 0 0)) rfl rfl TRc _ HBq8.out (by kernel_rfl) (by kernel_rfl) (by kernel_rfl) ?_)
    refine bodyPost_ret (results_ct Try.results16 _ _ q _ (rcA zeroR (.slice none 0 0)) (0, 0) _ (.int .i64 5) rfl rfl (Sha.blk_setRow HBq8.out _) Try.underlying27 rfl (by kernel_rfl)) rfl ?_
    rw [HRe.out]
    exact ⟨_, rfl, OI.nil _ _, Sha.fr_setRow HG8.out (fun h => by have := Hq.out; omega) _⟩
  have hr := HRr.out
  rw [if_neg (by decide), if_neg hpe, Hdg.out, Hun.out] at hr
  have HRe := Lib.hid hr.symm
  have hpe1 : ((pe : Int) != (bs.length : Int)) = false := by rw [bne_eq_false_iff_eq]; omega
  have z34 := HB8.out.frozen 34
  have f34 : w8.cell? ⟨p4, 34, none⟩ = some (.slice none 0 0) := by rw [HB8.out.cell]; exact rcA_t (r := ⟨dg, un, (u0 : Int), []⟩) _ Hdl.out
  clear hpe hr
  go_upto_region 22 with (fail)
  have HB9 := Lib.hid (show Blk (w8.setCell ⟨p4, 34, none⟩ (.slice At pl.length ct)) p4 TRc (rcA ⟨dg, un, (u0 : Int), pl⟩ (.slice At pl.length ct)) from by
    have h := HB8.out.set_ 34 (.slice At pl.length ct)
    rw [rcA_sett ⟨dg, un, (u0 : Int), []⟩ _ Hdl.out pl] at h
    exact h)
  have HF9 := Lib.hid (show Fr w8 (w8.setCell ⟨p4, 34, none⟩ (.slice At pl.length ct)) (fun k => k = p4) from (Fr.refl w8 (fun k => k = p4)).setCell (p := ⟨p4, 34, none⟩) (fun _ => rfl) _)
  clear z34 f34
  generalize hx : World.setCell w8 _ _ = w9 at HB9 HF9 ⊢
  clear hx
  have HG9 := Lib.hid (show Gr w w9 from HG8.out.trans HF9.out (fun i hi h => by have := Hqs.out; omega))
  have HBq9 := Lib.hid (HBq8.out.fr HF9.out Hqp.out)
  have HT9 := Lib.hid (HT8.out.fr HF9.out (fun k hk h => by have := Htl.out k hk; have := Hwr.out; omega))
  have Htq := Lib.hid (show ∀ k, (Value.slice At pl.length ct).ownBlock = some k → k ≠ q from fun k hk h => by have := Htl.out k hk; have := Hwr.out; omega)
  have Hsz := Lib.hid (rcA_size (r := ⟨dg, un, (u0 : Int), pl⟩) (.slice At pl.length ct) Hdl.out)
  clear HT8 HBq8 HB8 HF9
  go_wp2_with (first
    | refine wpList_load_row rfl _ _ rfl p4 rfl TRc (rcA ⟨dg, un, (u0 : Int), pl⟩ (.slice At pl.length ct)) (0, 0) _ HB9.out Try.underlying27 rfl (by rw [Hsz.out]; kernel_rfl) ?_
    | refine wpList_store_row rfl _ _ _ rfl q (rcA ⟨dg, un, (u0 : Int), pl⟩ (.slice At pl.length ct)) rfl rfl TRc _ HBq9.out (by rw [Hsz.out]; kernel_rfl) (by rw [Hsz.out]; rfl) (rcA_one rfl) ?_)
  refine bodyPost_ret (results_ct Try.results16 _ _ q _ (rcA ⟨dg, un, (u0 : Int), pl⟩ (.slice At pl.length ct)) (0, 0) _ (.int .i64 0) rfl rfl (Sha.blk_setRow HBq9.out _) Try.underlying27 rfl (by rw [Hsz.out]; kernel_rfl)) rfl ?_
  rw [HRe.out]
  refine ⟨_, rfl, ?_, Sha.fr_setRow HG9.out (fun h => by have := Hq.out; omega) _⟩
  exact HT9.out.fr (Sha.fr_setRow (S := fun k => k = q) (Fr.refl w9 _) (fun _ => rfl) _) (fun k hk h => Htq.out k hk h)
end Rec
end Go.Proofs.Ytobedpohoellkaa
