/- sha: Sum of a hash. -/
import Derived.Test.YtmjpghaggnpdbaaHWe
set_option linter.unusedVariables false
set_option linter.unusedSimpArgs false
namespace Go.Proofs.Ytmjpghaggnpdbaa
open Go.RowKit
namespace Sha

/-- a hash that all these bytes came to -/
def HSt (w : World) (base p : Nat) (lv : Value) (all : List B) : Prop := HB w base p (stt all) lv all.length (rem all)

theorem by24 (x : U) : (x.toNat : Int) / 16777216 % 256 = ((byt x 24).toNat : Int) := by
  unfold byt; rw [BitVec.toNat_setWidth, BitVec.toNat_ushiftRight, Nat.shiftRight_eq_div_pow]; simp
theorem by24' (x : U) : (x.toNat : Int) / 16777216 = ((byt x 24).toNat : Int) := by
  rw [← by24]; have := x.isLt; omega
theorem by16 (x : U) : (x.toNat : Int) / 65536 % 256 = ((byt x 16).toNat : Int) := by
  unfold byt; rw [BitVec.toNat_setWidth, BitVec.toNat_ushiftRight, Nat.shiftRight_eq_div_pow]; simp
theorem by8 (x : U) : (x.toNat : Int) / 256 % 256 = ((byt x 8).toNat : Int) := by
  unfold byt; rw [BitVec.toNat_setWidth, BitVec.toNat_ushiftRight, Nat.shiftRight_eq_div_pow]; simp
theorem by0 (x : U) : (x.toNat : Int) % 256 = ((byt x 0).toNat : Int) := by
  unfold byt; rw [BitVec.toNat_setWidth, BitVec.toNat_ushiftRight, Nat.shiftRight_eq_div_pow]; simp

theorem index_arr (l : List U) (i : Nat) (h : i < 8) (hl : l.length = 8) (w : World) :
    (Instr.index T8 (.agg (l.map V).toArray) (.int .i64 (i : Int))).run Try.prog w = .ok (V (gt l i)) w := by
  obtain ⟨j0, hj0, hz0, hz1, hz2⟩ := info_parts (show (Try.prog.info? 40).map (fun i => (i.zero, i.size, i.bytes)) = some (some (.int .u32 0), 1, 4) by kernel_rfl)
  have h1 : (i : Int) < 8 := by omega
  have h2 : l[i]? = some (gt l i) := gt_get (by omega)
  generalize gt l i = x at h2 ⊢
  simp [Instr.index, run_underlying Try.underlying86, part, asIntOf, go_sem, sizeOf, typeInfo, hj0, hz1, h1, isAgg, run_underlying Try.underlying40, List.getElem?_map, h2]
  intro h3; omega

set_option maxHeartbeats 1600000 in
set_option maxRecDepth 100000 in
theorem hsum_any {w : World} {base p : Nat} {lv : Value} {all : List B} (H : HSt w base p lv all) (hn : all.length ≤ 4194304) :
    Calls Try.prog 53 #[.pointer (some ⟨p, 0, none⟩)] w fun e w' => e = .returned (.agg (brr (sum all))) ∧ Gr w w' := by
  have c0 := H.c0
  have c10 := H.c10
  have hp : p < w.heap.size := H.blk.lt
  have H' := Lib.hid H
  have Hn := Lib.hid hn
  have hn' : (all.length : Int) ≤ 4194304 := by omega
  have Hrl := Lib.hid (rem_len all)
  have HG0 := Lib.hid ((Fr.refl w NoneS).alloc (.cells (brr (List.replicate 32 (0 : B))) TD))
  have H1 := Lib.hid (H'.out.gr' HG0.out)
  have hcp := Lib.hid (copy_any H1.out (by have := Hrl.out; omega))
  clear H hn
  go_enter Try.func53, Try.ntmps53
  go_upto_region 3 with (fail)
  change Code.wp _ _ _ _ (w.alloc (.cells (brr (List.replicate 32 (0 : B))) TD))
  have HB2 := Lib.hid (Blk.new w TD (brr (List.replicate 32 (0 : B))))
  generalize hp2 : w.heap.size = p2 at HB2 ⊢
  have Hp2 := Lib.hid (show w.heap.size ≤ p2 by rw [hp2]; exact Nat.le_refl _)
  clear hp2
  generalize World.alloc w _ = w1 at HB2 HG0 H1 hcp ⊢
  clear c0 c10 hp
  go_upto_region 4 with (go_at_call 64; refine hcp.out.mono ?_; rintro e w2 ⟨q, lv2, rfl, hq2, hg2⟩; have HQ2 := Lib.hid hq2; have HG2 := Lib.hid hg2; clear hq2 hg2)
  have H2 := Lib.hid (H1.out.gr' HG2.out)
  have c10 := H2.out.c10
  have hbh := Lib.hid (behind_any all.length (by have := Hn.out; omega) w2)
  have htk := Lib.hid (fun (w3 : World) (g : Nat) (hg : w2.heap.size ≤ g) (hb : Blk w3 g TU8 (brr (pad all.length))) (h23 : Gr w2 w3) =>
    take_any (H := HQ2.out.gr' h23) (.slice (some ⟨g, 0, none⟩) (psize all.length) (psize all.length)) (xs := pad all.length)
      (by have h := SL.of_own (enc := eb) (own_blk hb (Nat.zero_le g) (by rw [pad_len]; have := psize_mod all.length; unfold maxLen; omega)) rfl; rw [pad_len] at h; exact h)
      (fun _ => by have := HQ2.out.blk.lt; simp [Value.ownBlock]; omega) (by have := Hrl.out; omega) (by rw [pad_len]; have := psize_mod all.length; omega) Hn.out (by have h1 := HG2.out.size; have h2 := h23.size; omega))
  go_upto_region 5 with (first
    | (go_at_call 65; refine hbh.out.mono ?_; rintro e w3 ⟨g, rfl, hg3, hb3, hgr3⟩; have HG3 := Lib.hid hgr3; have HT := Lib.hid (htk.out w3 g hg3 hb3 hgr3); clear hg3 hb3 hgr3)
    | (go_at_call 52; refine HT.out.mono ?_; rintro e w4 ⟨rfl, lv4, hh4, hf4, ho4⟩; have HH4 := Lib.hid hh4; have HF4 := Lib.hid hf4; clear hh4 hf4 ho4))
  have HG4 := Lib.hid (show Gr w w4 from ((HG0.out.trans HG2.out (fun _ _ h => h)).trans HG3.out (fun _ _ h => h)).trans HF4.out (fun k hk hs => by
    have h0 := HG0.out.size
    rcases hs with rfl | hs
    · have := HQ2.out.bs; omega
    · have := (HQ2.out.own.lt k hs).1; omega))
  have HB4 := Lib.hid (show Blk w4 p2 TD (brr (List.replicate 32 (0 : B))) from ((HB2.out.fr HG2.out (fun h => h)).fr HG3.out (fun h => h)).fr HF4.out (fun hs => by
    have h0 := HB2.out.lt
    rcases hs with hs | hs
    · have := HQ2.out.bs; omega
    · have := (HQ2.out.own.lt p2 hs).1; omega))
  have HH := Lib.hid (show HB w4 _ q (stt (all ++ pad all.length)) lv4 _ _ by have h := HH4.out; rw [take_stt] at h; exact h)
  have Hsum := Lib.hid (show sum all = dig (stt (all ++ pad all.length)) from rfl)
  have Hsl := Lib.hid (stt_len (all ++ pad all.length))
  have hrg := HH.out.range
  generalize stt (all ++ pad all.length) = hs at HH Hsum Hsl hrg
  clear HH4 HF4 HT htk hbh c10 H2 hcp HB2 HQ2
  have HBd := Lib.hid (Blk.new w4 TD (brr (List.replicate 32 (0 : B))))
  have HBq := Lib.hid (HH.out.blk.alloc (.cells (brr (List.replicate 32 (0 : B))) TD))
  have HBr := Lib.hid (HB4.out.alloc (.cells (brr (List.replicate 32 (0 : B))) TD))
  have HGw := Lib.hid (HG4.out.alloc (.cells (brr (List.replicate 32 (0 : B))) TD))
  have HRq := Lib.hid (show (w4.alloc (.cells (brr (List.replicate 32 (0 : B))) TD)).rangeAt q 1 (hs.map V) from fun j v hj => by
    have h := hrg j v hj
    have hb := HH.out.blk.lt
    rw [← h]
    exact ((Fr.refl w4 NoneS).alloc (.cells (brr (List.replicate 32 (0 : B))) TD)).cell hb (fun h => h))
  have Hp4 := Lib.hid (show p2 < w4.heap.size from HB4.out.lt)
  have Hw4 := Lib.hid (show w.heap.size ≤ w4.heap.size from HG4.out.size)
  go_upto_region 6 with (fail)
  change Code.wp _ _ _ _ (w4.alloc (.cells (brr (List.replicate 32 (0 : B))) TD))
  generalize w4.heap.size = p4 at HBd Hp4 Hw4 ⊢
  generalize World.alloc w4 _ = w5 at HBd HBq HBr HGw HRq ⊢
  go_upto_block 0 with (refine wpList_load_mid rfl T8 _ rfl q 1 rfl (hs.map V) _ HRq.out Try.underlying86 rfl (by rw [List.length_map, Hsl.out]; kernel_rfl) ?_)
  go_cut [] (fun wx => Hid (Blk wx p4 TD (brr (digI hs 8)) ∧ Blk wx p2 TD (brr (List.replicate 32 (0 : B))) ∧ Gr w wx))
  case first =>
    go_wp2_with fail
    go_loopg [30] 9 (fun m s30 wr => ∃ (i : Nat), s30 = .int .i64 i ∧ Hid (i ≤ 8 ∧ 8 - i < m) ∧ Hid (Blk wr p4 TD (brr (digI hs i)) ∧ Blk wr p2 TD (brr (List.replicate 32 (0 : B))) ∧ Gr w wr))
    case atStart => exact ⟨0, rfl, ⟨by omega, by omega⟩, HBd.out, HBr.out, HGw.out⟩
    case round =>
      obtain ⟨i, rfl, HI, HP⟩ := hrel
      by_cases hi : i < 8
      · have hi1 : (i : Int) < 8 := by omega
        have Hdl := Lib.hid (digI_len hs i)
        have q0 := bcell HP.out.1 (i := 4 * i) (by rw [Hdl.out]; omega)
        have q1 := bcell HP.out.1 (i := 4 * i + 1) (by rw [Hdl.out]; omega)
        have q2 := bcell HP.out.1 (i := 4 * i + 2) (by rw [Hdl.out]; omega)
        have q3 := bcell HP.out.1 (i := 4 * i + 3) (by rw [Hdl.out]; omega)
        have f0 := HP.out.1.frozen (4 * i)
        have f1 := HP.out.1.frozen (4 * i + 1)
        have f2 := HP.out.1.frozen (4 * i + 2)
        have f3 := HP.out.1.frozen (4 * i + 3)
        have hx := index_arr hs i hi Hsl.out
        go_wp2_with fail
        go_roundg (gk - 1)
        case measure => have := HI.out; omega
        case rel =>
          refine ⟨i + 1, by go_num, ⟨by omega, by have := HI.out; omega⟩, ?_⟩
          rw [by24', by16, by8, by0]
          have h := (((HP.out.1.set_ (4 * i) (C (byt (gt hs i) 24))).set_ (4 * i + 1) (C (byt (gt hs i) 16))).set_ (4 * i + 2) (C (byt (gt hs i) 8))).set_ (4 * i + 3) (C (byt (gt hs i) 0))
          rw [brr_set, brr_set, brr_set, brr_set] at h
          have hne : p2 ≠ p4 := by have := Hp4.out; omega
          refine ⟨h, (((HP.out.2.1.far (p := ⟨p4, 4 * i, none⟩) hne _).far (p := ⟨p4, 4 * i + 1, none⟩) hne _).far (p := ⟨p4, 4 * i + 2, none⟩) hne _).far (p := ⟨p4, 4 * i + 3, none⟩) hne _, ?_⟩
          have hge : ∀ k, k < w.heap.size → ¬ (p4 = k) := fun k hk => by have := Hw4.out; omega
          exact (((HP.out.2.2.setCell (p := ⟨p4, 4 * i, none⟩) (fun h => hge _ h rfl) _).setCell (p := ⟨p4, 4 * i + 1, none⟩) (fun h => hge _ h rfl) _).setCell (p := ⟨p4, 4 * i + 2, none⟩) (fun h => hge _ h rfl) _).setCell (p := ⟨p4, 4 * i + 3, none⟩) (fun h => hge _ h rfl) _
      · obtain rfl : i = 8 := by have := HI.out; omega
        go_wp2_with fail
        go_meet
        exact HP
  case rest =>
  have HR := Lib.hid hcut
  clear hcut
  have Hdl := Lib.hid (dig_len hs)
  have Hdd := Lib.hid (show digI hs 8 = dig hs from rfl)
  rw [Hdd.out, ← Hsum.out] at HR
  rw [← Hsum.out] at Hdl
  go_wp2_with (first
    | refine wpList_load_row rfl _ _ rfl p4 rfl TD (brr (sum all)) (0, 0) _ HR.out.out.1 Try.underlying67 rfl (by rw [brr_size, Hdl.out]; kernel_rfl) ?_
    | refine wpList_store_row rfl _ _ _ rfl p2 (brr (sum all)) rfl rfl TD _ HR.out.out.2.1 (by rw [brr_size, Hdl.out]; kernel_rfl) (by rw [brr_size, brr_size, Hdl.out]; rfl) (brr_one _) ?_)
  refine bodyPost_ret (results_cell_row Try.results53 _ _ p2 TD (brr (sum all)) (0, 0) _ rfl (blk_setRow HR.out.out.2.1 _) Try.underlying67 rfl (by rw [brr_size, Hdl.out]; kernel_rfl)) rfl ?_
  exact ⟨rfl, fr_setRow HR.out.out.2.2 (fun h => by have := Hp2.out; omega) _⟩
end Sha
end Go.Proofs.Ytmjpghaggnpdbaa
