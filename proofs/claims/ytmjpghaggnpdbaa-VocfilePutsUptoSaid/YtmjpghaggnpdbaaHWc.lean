/- sha: the reference's Press. -/
import Derived.Test.YtmjpghaggnpdbaaHWb
import Derived.StillTailTactics
import Derived.IntWalk
import Derived.Deep.RegionHeld3
set_option linter.unusedVariables false
set_option linter.unusedSimpArgs false
namespace Go.Proofs.Ytmjpghaggnpdbaa
open Go.RowKit
namespace Sha

/-- the variables of the reference's Press -/
structure PR (w wr : World) (p2 p3 p4 p7 : Nat) (h : List U) (b : List B) (r : Array Value) (W : List U) : Prop where
  gr : Gr w wr
  b2 : Blk wr p2 T8 (arr h)
  b3 : Blk wr p3 TB (brr b)
  b4 : Blk wr p4 T8 r
  b7 : Blk wr p7 T64 (arr W)
  o : w.heap.size ≤ p2 ∧ p2 < p3 ∧ p3 < p4 ∧ p4 < p7
section
variable {w wr wx : World} {p2 p3 p4 p7 p12 : Nat} {h : List U} {b : List B} {r : Array Value} {W v : List U}
theorem PR.set7 (H : PR w wr p2 p3 p4 p7 h b r W) (i : Nat) (x : U) :
    PR w (wr.setCell ⟨p7, i, none⟩ (V x)).drew p2 p3 p4 p7 h b r (W.set i x) := by
  obtain ⟨hg, b2, b3, b4, b7, o1, o2, o3, o4⟩ := H
  refine ⟨(hg.setCell (by simp; omega) _).drew, (b2.far (by simp; omega) _).drew, (b3.far (by simp; omega) _).drew, (b4.far (by simp; omega) _).drew, ?_, o1, o2, o3, o4⟩
  have := b7.set_ i (V x)
  rw [arr_set] at this
  exact this.drew
theorem PR.gr' (H : PR w wr p2 p3 p4 p7 h b r W) (hg : Gr wr wx) : PR w wx p2 p3 p4 p7 h b r W :=
  ⟨H.gr.trans hg (fun _ _ h => h), H.b2.fr hg (fun h => h), H.b3.fr hg (fun h => h), H.b4.fr hg (fun h => h), H.b7.fr hg (fun h => h), H.o⟩
theorem PR.drew (H : PR w wr p2 p3 p4 p7 h b r W) : PR w wr.drew p2 p3 p4 p7 h b r W := H.gr' ((Fr.refl _ _).drew)

structure PQ (w wr : World) (p2 p3 p4 p7 p12 : Nat) (h : List U) (b : List B) (r : Array Value) (W v : List U) : Prop where
  b : PR w wr p2 p3 p4 p7 h b r W
  b12 : Blk wr p12 T8 (arr v)
  o : p7 < p12
theorem PQ.gr' (H : PQ w wr p2 p3 p4 p7 p12 h b r W v) (hg : Gr wr wx) : PQ w wx p2 p3 p4 p7 p12 h b r W v := ⟨H.b.gr' hg, H.b12.fr hg (fun h => h), H.o⟩
theorem PQ.drew (H : PQ w wr p2 p3 p4 p7 p12 h b r W v) : PQ w wr.drew p2 p3 p4 p7 p12 h b r W v := H.gr' ((Fr.refl _ _).drew)
theorem PQ.setRow12 (H : PQ w wr p2 p3 p4 p7 p12 h b r W v) (v' : List U) : PQ w (wr.setRow p12 (arr v')) p2 p3 p4 p7 p12 h b r W v' := by
  obtain ⟨⟨hg, b2, b3, b4, b7, o1, o2, o3, o4⟩, b12, o6⟩ := H
  exact ⟨⟨fr_setRow hg (by omega) _, blk_setRow_ne b2 (by omega) _, blk_setRow_ne b3 (by omega) _, blk_setRow_ne b4 (by omega) _, blk_setRow_ne b7 (by omega) _, o1, o2, o3, o4⟩, blk_setRow b12 _, o6⟩
theorem PQ.set2 (H : PQ w wr p2 p3 p4 p7 p12 h b r W v) (i : Nat) (x : U) :
    PQ w (wr.setCell ⟨p2, i, none⟩ (V x)).drew p2 p3 p4 p7 p12 (h.set i x) b r W v := by
  obtain ⟨⟨hg, b2, b3, b4, b7, o1, o2, o3, o4⟩, b12, o6⟩ := H
  refine ⟨⟨(hg.setCell (by simp; omega) _).drew, ?_, (b3.far (by simp; omega) _).drew, (b4.far (by simp; omega) _).drew, (b7.far (by simp; omega) _).drew, o1, o2, o3, o4⟩, (b12.far (by simp; omega) _).drew, o6⟩
  have := b2.set_ i (V x)
  rw [arr_set] at this
  exact this.drew
end

/-- the table, by n steps -/
def W2 (b : List B) (n : Nat) : List U := if n ≤ 16 then W0 b n else W1 (W0 b 16) (n - 16)
theorem W2_len (b : List B) (n : Nat) : (W2 b n).length = 64 := by
  unfold W2; split
  · exact W0_len _ _
  · exact W1_len _ (W0_len _ _) _
theorem W2_lo (b : List B) (n : Nat) (h : n < 16) : W2 b (n + 1) = (W2 b n).set n (lay b n) := by
  unfold W2; rw [if_pos (by omega), if_pos (by omega)]; rfl
theorem W2_hi (b : List B) (j : Nat) : W2 b (j + 16 + 1) = (W2 b (j + 16)).set (j + 16) (ext (W2 b (j + 16)) j) := by
  have e1 : W2 b (j + 16 + 1) = W1 (W0 b 16) (j + 1) := by unfold W2; rw [if_neg (by omega)]; congr 1
  have e2 : W2 b (j + 16) = W1 (W0 b 16) j := by
    unfold W2
    split
    · have : j = 0 := by omega
      subst this; rfl
    · congr 1
  rw [e1, e2]; rfl

theorem ext_ref (W : List U) (j : Nat) : gt W j + gt W (j + 9) + sg0 (gt W (j + 1)) + sg1 (gt W (j + 14)) = ext W j := by
  unfold ext
  rw [BitVec.add_assoc (gt W j), BitVec.add_comm (gt W (j + 9)), ← BitVec.add_assoc]

theorem ch_eq (e f g : U) : (e &&& f ||| ~~~e &&& g) = g ^^^ (e &&& (f ^^^ g)) := by
  apply BitVec.eq_of_getLsbD_eq
  intro i hi
  simp only [BitVec.getLsbD_or, BitVec.getLsbD_and, BitVec.getLsbD_xor, BitVec.getLsbD_not, hi, decide_true, Bool.true_and]
  cases e.getLsbD i <;> cases f.getLsbD i <;> cases g.getLsbD i <;> rfl
theorem maj_eq (a b c : U) : (a &&& b ||| a &&& c ||| b &&& c) = (a &&& b) ^^^ (a &&& c) ^^^ (b &&& c) := by
  apply BitVec.eq_of_getLsbD_eq
  intro i hi
  simp only [BitVec.getLsbD_or, BitVec.getLsbD_and, BitVec.getLsbD_xor]
  cases a.getLsbD i <;> cases b.getLsbD i <;> cases c.getLsbD i <;> rfl

theorem bits_not (e : U) : bits .xor .u32 IntKind.u32.max (e.toNat : Int) = ((~~~e).toNat : Int) := by
  have h1 : IntKind.u32.max = ((BitVec.allOnes 32).toNat : Int) := by decide
  rw [h1, bits_xor, BitVec.allOnes_xor]
theorem wrap_add (a b : U) : IntKind.u32.wrap ((a.toNat : Int) + (b.toNat : Int)) = ((a + b).toNat : Int) := by rw [wrap32, add_w]
theorem r1_bits (v7 e f g k w : U) : IntKind.u32.wrap (IntKind.u32.wrap (IntKind.u32.wrap (IntKind.u32.wrap ((v7.toNat : Int) + bits .xor .u32 (bits .xor .u32 ((rr e 6).toNat : Int) ((rr e 11).toNat : Int)) ((rr e 25).toNat : Int)) +
      bits .or .u32 (bits .and .u32 (e.toNat : Int) (f.toNat : Int)) (bits .and .u32 (bits .xor .u32 IntKind.u32.max (e.toNat : Int)) (g.toNat : Int))) + (k.toNat : Int)) + (w.toNat : Int)) =
    ((v7 + bg1 e + (g ^^^ (e &&& (f ^^^ g))) + k + w).toNat : Int) := by
  rw [bits_not]
  simp only [bits_xor, bits_and, bits_or, wrap_add, ch_eq]
  rfl
theorem r2_bits (a b c : U) : (bits .xor .u32 (bits .xor .u32 ((rr a 2).toNat : Int) ((rr a 13).toNat : Int)) ((rr a 22).toNat : Int) + bits .or .u32 (bits .or .u32 (bits .and .u32 (a.toNat : Int) (b.toNat : Int)) (bits .and .u32 (a.toNat : Int) (c.toNat : Int))) (bits .and .u32 (b.toNat : Int) (c.toNat : Int))) % 4294967296 =
    ((bg0 a + ((a &&& b) ^^^ (a &&& c) ^^^ (b &&& c))).toNat : Int) := by
  simp only [bits_xor, bits_and, bits_or]
  rw [add_w, maj_eq]
  rfl
set_option maxHeartbeats 3200000 in
set_option maxRecDepth 100000 in
theorem rpress_any (hx : List U) (b : List B) (hh : hx.length = 8) (hb : b.length = 64) (w : World) :
    Calls Try.prog 56 #[.agg (arr hx), .agg (brr b)] w fun e w' => e = .returned (.agg (arr (press hx b))) ∧ Gr w w' := by
  have Hh := Lib.hid hh
  have Hb := Lib.hid hb
  clear hh hb
  go_enter Try.func56, Try.ntmps56
  go_upto_block 0 with (fail)
  go_cut [2, 3, 4, 5] (fun s2 s3 s4 s5 wc => ∃ p2 p3 p4 p7 : Nat, s2 = .pointer (some ⟨p2, 0, none⟩) ∧ s3 = .pointer (some ⟨p3, 0, none⟩) ∧ s4 = .pointer (some ⟨p4, 0, none⟩) ∧ s5 = .pointer (some ⟨p7, 0, none⟩) ∧
    ∃ r, Hid (r.size = 8 ∧ PR w wc p2 p3 p4 p7 hx b r (W2 b 64)))
  case first =>
    have H0 := Lib.hid (show PR w ((((w.alloc (.cells (arr hx) T8)).alloc (.cells (brr b) TB)).alloc (.cells (arr (List.replicate 8 0)) T8)).alloc (.cells (arr (List.replicate 64 0)) T64)) w.heap.size (w.heap.size + 1) (w.heap.size + 1 + 1) (w.heap.size + 1 + 1 + 1) hx b (arr (List.replicate 8 0)) (W2 b 0) from by
      refine ⟨((((Fr.refl w _).alloc _).alloc _).alloc _).alloc _, ?_, ?_, ?_, ?_, Nat.le_refl _, by omega, by omega, by omega⟩
      · exact ((Blk.new w T8 (arr hx)).alloc _).alloc _ |>.alloc _
      · exact ((blk_new (w.alloc (.cells (arr hx) T8)) TB (brr b) (w.heap.size + 1) (by simp)).alloc _).alloc _
      · exact (blk_new ((w.alloc (.cells (arr hx) T8)).alloc (.cells (brr b) TB)) T8 _ (w.heap.size + 1 + 1) (by simp)).alloc _
      · exact blk_new _ T64 _ (w.heap.size + 1 + 1 + 1) (by simp))
    change Code.wp _ _ _ _ ((((w.alloc (.cells (arr hx) T8)).alloc (.cells (brr b) TB)).alloc (.cells (arr (List.replicate 8 0)) T8)).alloc (.cells (arr (List.replicate 64 0)) T64))
    generalize World.alloc _ _ = wb at H0 ⊢
    generalize w.heap.size + 1 + 1 + 1 = p7 at H0 ⊢
    generalize w.heap.size + 1 + 1 = p4 at H0 ⊢
    generalize w.heap.size + 1 = p3 at H0 ⊢
    generalize w.heap.size = p2 at H0 ⊢
    go_wp2_with fail
    go_loopg [6] 65 (fun m s6 wr => ∃ (i : Nat), s6 = .int .i64 i ∧ Hid (i ≤ 64 ∧ 64 - i < m) ∧ Hid (PR w wr p2 p3 p4 p7 hx b (arr (List.replicate 8 0)) (W2 b i)))
    case atStart => exact ⟨0, rfl, ⟨by omega, by omega⟩, H0.out⟩
    case round =>
      obtain ⟨i, rfl, HI, HP⟩ := hrel
      have Hl := Lib.hid (W2_len b i)
      by_cases hi : i < 16
      · have hi1 : (i : Int) < 16 := by omega
        have hi2 : (i : Int) < 64 := by omega
        have q0 := bcell HP.out.b3 (i := 4 * i) (by rw [Hb.out]; omega)
        have q1 := bcell HP.out.b3 (i := 4 * i + 1) (by rw [Hb.out]; omega)
        have q2 := bcell HP.out.b3 (i := 4 * i + 2) (by rw [Hb.out]; omega)
        have q3 := bcell HP.out.b3 (i := 4 * i + 3) (by rw [Hb.out]; omega)
        have q4 := wcell HP.out.b7 (i := i) (by rw [Hl.out]; omega)
        have q5 := HP.out.b7.frozen i
        have n1 : p7 ≠ p3 := by have := HP.out.o; omega
        go_upto_region 6 with (fail)
        go_region
        go_wp2_with fail
        go_roundg (gk - 1)
        case measure => have := HI.out; omega
        case rel =>
          refine ⟨i + 1, by go_num, ⟨by omega, by have := HI.out; omega⟩, ?_⟩
          rw [word_bits, W2_lo b i hi]
          exact HP.out.set7 i (lay b i)
      · by_cases hi' : i < 64
        · obtain ⟨j, hj⟩ : ∃ j, i = j + 16 := ⟨i - 16, by omega⟩
          subst hj
          have hj1 : ((j + 16 : Nat) : Int) = (j : Int) + 16 := by omega
          rw [hj1]
          have hi1 : ¬ (j : Int) + 16 < 16 := by omega
          have hi2 : (j : Int) + 16 < 64 := by omega
          have hj0 : j < 48 := by omega
          clear hj1
          have q1 := wcell HP.out.b7 (i := j + 1) (by rw [Hl.out]; omega)
          have q2 := wcell HP.out.b7 (i := j + 14) (by rw [Hl.out]; omega)
          go_upto_region 7 with (fail)
          go_region
          generalize hw2 : World.drew wr = w2
          have HP2 := Lib.hid (show PR w w2 p2 p3 p4 p7 hx b (arr (List.replicate 8 0)) (W2 b (j + 16)) by rw [← hw2]; exact HP.out.drew)
          clear q1 q2 HP hw2
          have q0 := wcell HP2.out.b7 (i := j) (by rw [Hl.out]; omega)
          have q1 := wcell HP2.out.b7 (i := j + 9) (by rw [Hl.out]; omega)
          have q4 := wcell HP2.out.b7 (i := j + 16) (by rw [Hl.out]; omega)
          have q5 := HP2.out.b7.frozen (j + 16)
          have u1 : IntKind.i64.wrap (j : Int) = (j : Int) := IntWalk.i64_in _ (by omega)
          have u2 : IntKind.i64.wrap ((j : Int) + 16 - 7) = (j : Int) + 9 := (IntWalk.i64_in _ (by omega)).trans (by omega)
          have u3 : ((j : Int) + 9).toNat = j + 9 := by omega
          have u4 : (0 : Int) ≤ (j : Int) + 9 := by omega
          have u5 : (j : Int) + 9 < 64 := by omega
          have u6 : (j : Int) < 64 := by omega
          have u7 : ((j : Int) + 16).toNat = j + 16 := by omega
          go_upto_region 8 with (fail)
          go_still_tail 28, (by kernel_rfl)
          repeat (first | still_step | still_call (turn_ref _ _ (by decide) (by decide) _))
          refine wpStill_nil ?_
          change wpList _ _ _ _ _ w2.drew
          clear u1 u2 u3 u4 u5 u6 u7
          go_wp2_with fail
          rw [sg0_bits, sg1_bits]
          go_roundg (gk - 1)
          case measure => have := HI.out; omega
          case rel =>
            refine ⟨j + 16 + 1, by go_num, ⟨by omega, by have := HI.out; omega⟩, ?_⟩
            rw [add4, W2_hi, ← ext_ref]
            exact HP2.out.set7 (j + 16) _
        · obtain rfl : i = 64 := by have := HI.out; omega
          go_wp2_with fail
          go_meet
          exact ⟨_, _, _, _, rfl, rfl, rfl, rfl, _, rfl, HP.out⟩
  case rest =>
  obtain ⟨p2, p3, p4, p7, rfl, rfl, rfl, rfl, r, HP'⟩ := hcut
  have Hl := Lib.hid (show (W2 b 64).length = 64 from W2_len b 64)
  have HW := Lib.hid (show W2 b 64 = W1 (W0 b 16) 48 from rfl)
  generalize W2 b 64 = W at Hl HP' HW
  go_upto_block 2 with (first
    | refine wpList_load_row rfl _ _ rfl p2 rfl T8 (arr hx) (0, 0) _ HP'.out.2.b2 Try.underlying86 rfl (by rw [arr_size, Hh.out]; kernel_rfl) ?_
    | refine wpList_store_new (w0 := wc) rfl _ _ _ rfl (arr hx) _ _ rfl rfl rfl (by rw [arr_size, Hh.out]; kernel_rfl) (by rw [arr_size, Hh.out]; rfl) (arr_one _) ?_)
  go_cut [9] (fun s9 wx => ∃ p12 : Nat, s9 = .pointer (some ⟨p12, 0, none⟩) ∧ Hid (r.size = 8 ∧ PQ w wx p2 p3 p4 p7 p12 hx b r W (rnds W hx 64)))
  case first =>
    have H0 := Lib.hid (show PQ w (wc.alloc (.cells (arr hx) T8)) p2 p3 p4 p7 wc.heap.size hx b r W hx from by
      have H := HP'.out.2
      exact ⟨⟨H.gr.alloc _, H.b2.alloc _, H.b3.alloc _, H.b4.alloc _, H.b7.alloc _, H.o⟩, Blk.new _ _ _, H.b7.lt⟩)
    generalize wc.heap.size = p12 at H0 ⊢
    generalize wc.alloc (.cells (arr hx) T8) = wb at H0 ⊢
    go_wp2_with fail
    go_loopg [10] 65 (fun m s10 wr => ∃ (i : Nat), s10 = .int .i64 i ∧ Hid (i ≤ 64 ∧ 64 - i < m) ∧ Hid (PQ w wr p2 p3 p4 p7 p12 hx b r W (rnds W hx i)))
    case atStart => exact ⟨0, rfl, ⟨by omega, by omega⟩, H0.out⟩
    case round =>
      obtain ⟨i, rfl, HI, HQ⟩ := hrel
      by_cases hi : i < 64
      · have hi1 : (i : Int) < 64 := by omega
        have hsl : (rnds W hx i).length = 8 := rnds_len W hx Hh.out i
        generalize hs : rnds W hx i = s at hsl HQ
        have Hs := Lib.hid hs
        have Hsl := Lib.hid hsl
        clear hs hsl
        have q0 := wcell HQ.out.b12 (i := 0) (by rw [Hsl.out]; omega)
        have q1 := wcell HQ.out.b12 (i := 1) (by rw [Hsl.out]; omega)
        have q2 := wcell HQ.out.b12 (i := 2) (by rw [Hsl.out]; omega)
        go_upto_region 13 with (fail)
        go_region
        generalize hw2 : World.drew wr = w2
        have HQ2 := Lib.hid (show PQ w w2 p2 p3 p4 p7 p12 hx b r W s by rw [← hw2]; exact HQ.out.drew)
        clear q0 q1 q2 HQ hw2
        have q4 := wcell HQ2.out.b12 (i := 4) (by rw [Hsl.out]; omega)
        have q5 := wcell HQ2.out.b12 (i := 5) (by rw [Hsl.out]; omega)
        have q6 := wcell HQ2.out.b12 (i := 6) (by rw [Hsl.out]; omega)
        go_upto_region 14 with (fail)
        go_region
        generalize hw3 : World.drew w2 = w3
        have HQ3 := Lib.hid (show PQ w w3 p2 p3 p4 p7 p12 hx b r W s by rw [← hw3]; exact HQ2.out.drew)
        clear q4 q5 q6 HQ2 hw3
        have q7 := wcell HQ3.out.b12 (i := 7) (by rw [Hsl.out]; omega)
        have qw := wcell HQ3.out.b.b7 (i := i) (by rw [Hl.out]; exact hi)
        have u1 : IntKind.i64.wrap (i : Int) = (i : Int) := IntWalk.i64_in _ (by omega)
        have Hc := Lib.hid (fun (wx : World) (H : Hid (PQ w wx p2 p3 p4 p7 p12 hx b r W s) ∧ wx.cell? ⟨p12, 7, none⟩ = some (V (gt s 7)) ∧ wx.cell? ⟨p7, i, none⟩ = some (V (gt W i))) =>
          (rconst_any i (gt KU i).toNat hi (by rw [KA_eq, arr_get, gt_get (show i < KU.length from hi)]; rfl) wx).mono (R' := fun e w' => e = .returned (V (gt KU i)) ∧
              (Hid (PQ w w' p2 p3 p4 p7 p12 hx b r W s) ∧ w'.cell? ⟨p12, 7, none⟩ = some (V (gt s 7)) ∧ w'.cell? ⟨p7, i, none⟩ = some (V (gt W i)))) (fun e w' hh => by
            obtain ⟨rfl, hg⟩ := hh
            have H2 := H.1.out.gr' hg
            exact ⟨rfl, H2, wcell H2.b12 (i := 7) (by rw [Hsl.out]; omega), wcell H2.b.b7 (i := i) (by rw [Hl.out]; exact hi)⟩))
        go_upto_region 15 with (fail)
        go_region_held3 (fun wx => Hid (PQ w wx p2 p3 p4 p7 p12 hx b r W s) ∧ wx.cell? ⟨p12, 7, none⟩ = some (V (gt s 7)) ∧ wx.cell? ⟨p7, i, none⟩ = some (V (gt W i)))
          (first | exact ⟨Lib.hid HQ3.out.drew, q7, qw⟩ | exact hS' | go_keep)
          (first
            | (go_at_call 66; refine (turn_ref _ _ (by decide) (by decide) _).mono ?_; rintro e w' ⟨rfl, rfl⟩)
            | (go_at_call 67; refine (Hc.out _ (by first | assumption | exact ⟨by assumption, by assumption, by assumption⟩)).mono ?_; rintro e w' ⟨rfl, hS'⟩))
        rw [r1_bits]
        obtain ⟨HQ4, q7', qw'⟩ := hS'
        clear Hc u1 q7 qw q7' qw' HQ3
        generalize ht1 : s[7]?.getD 0#32 + bg1 (s[4]?.getD 0#32) + (s[6]?.getD 0#32 ^^^ (s[4]?.getD 0#32 &&& (s[5]?.getD 0#32 ^^^ s[6]?.getD 0#32))) + KU[i]?.getD 0#32 + W[i]?.getD 0#32 = t1
        have HT1 := Lib.hid ht1
        clear ht1
        have q3 := wcell HQ4.out.b12 (i := 3) (by rw [Hsl.out]; omega)
        go_upto_region 17 with (go_at_call 66; refine (turn_ref _ _ (by decide) (by decide) _).mono ?_; rintro e w' ⟨rfl, rfl⟩)
        rw [r2_bits]
        generalize ht2 : bg0 (s[0]?.getD 0#32) + ((s[0]?.getD 0#32 &&& s[1]?.getD 0#32) ^^^ (s[0]?.getD 0#32 &&& s[2]?.getD 0#32) ^^^ (s[1]?.getD 0#32 &&& s[2]?.getD 0#32)) = t2
        have HT2 := Lib.hid ht2
        clear ht2
        have Hrn := Lib.hid (show arr (rnd s (gt KU i) (gt W i)) = #[.int .u32 (((t1.toNat : Int) + (t2.toNat : Int)) % 4294967296), V (s[0]?.getD 0#32), V (s[1]?.getD 0#32), V (s[2]?.getD 0#32), .int .u32 (((s[3]?.getD 0#32).toNat + (t1.toNat : Int)) % 4294967296),
            V (s[4]?.getD 0#32), V (s[5]?.getD 0#32), V (s[6]?.getD 0#32)] from by
          rw [add_w, add_w, ← HT1.out, ← HT2.out]; rfl)
        go_wp2_with (refine wpList_store_row rfl _ _ _ rfl p12 (arr (rnd s (gt KU i) (gt W i))) rfl (by rw [Hrn.out]; rfl) T8 (arr s) HQ4.out.b12 (by kernel_rfl) (by rw [arr_size, Hsl.out]; rfl) (arr_one _) ?_)
        go_roundg (gk - 1)
        case measure => have := HI.out; omega
        case rel =>
          refine ⟨i + 1, by go_num, ⟨by omega, by have := HI.out; omega⟩, ?_⟩
          rw [rnds, Hs.out]
          exact HQ4.out.setRow12 _
      · obtain rfl : i = 64 := by have := HI.out; omega
        go_wp2_with fail
        go_meet
        exact ⟨_, rfl, HP'.out.1, HQ.out⟩
  case rest =>
  obtain ⟨p12, rfl, HV⟩ := hcut
  clear HP'
  have Hv := Lib.hid (rnds_len W hx Hh.out 64)
  generalize hv : rnds W hx 64 = v at HV Hv
  have HVe := Lib.hid hv
  clear hv
  go_upto_block 4 with (fail)
  go_cut [19] (fun s18 wx => Hid (r.size = 8 ∧ PQ w wx p2 p3 p4 p7 p12 (addTo hx v 8) b r W v))
  case first =>
    go_wp2_with fail
    go_loopg [19] 9 (fun m s19 wr => ∃ (i : Nat), s19 = .int .i64 i ∧ Hid (i ≤ 8 ∧ 8 - i < m) ∧ Hid (PQ w wr p2 p3 p4 p7 p12 (addTo hx v i) b r W v))
    case atStart => exact ⟨0, rfl, ⟨by omega, by omega⟩, HV.out.2⟩
    case round =>
      obtain ⟨i, rfl, HI, HQ⟩ := hrel
      by_cases hi : i < 8
      · have hi1 : (i : Int) < 8 := by omega
        have Hal := Lib.hid (addTo_len hx v Hh.out i)
        generalize ha : addTo hx v i = a at HQ Hal
        have Ha := Lib.hid ha
        clear ha
        have q0 := wcell HQ.out.b.b2 (i := i) (by rw [Hal.out]; omega)
        have q1 := wcell HQ.out.b12 (i := i) (by rw [Hv.out]; omega)
        have q2 := HQ.out.b.b2.frozen i
        have n1 : p2 ≠ p12 := by have := HQ.out.b.o; have := HQ.out.o; omega
        go_upto_region 21 with (fail)
        go_region
        go_wp2_with fail
        go_roundg (gk - 1)
        case measure => have := HI.out; omega
        case rel =>
          refine ⟨i + 1, by go_num, ⟨by omega, by have := HI.out; omega⟩, ?_⟩
          rw [add_w, addTo, Ha.out]
          exact HQ.out.set2 i (gt a i + gt v i)
      · obtain rfl : i = 8 := by have := HI.out; omega
        go_wp2_with fail
        go_meet
        exact ⟨HV.out.1, HQ.out⟩
  case rest =>
  have HR := Lib.hid hcut
  clear hcut HV
  have Hal := Lib.hid (addTo_len hx v Hh.out 8)
  have Hpr := Lib.hid (show press hx b = addTo hx v 8 by unfold press; rw [← HW.out, HVe.out])
  generalize addTo hx v 8 = a at HR Hal Hpr
  go_wp2_with (first
    | refine wpList_load_row rfl _ _ rfl p2 rfl T8 (arr a) (0, 0) _ HR.out.2.b.b2 Try.underlying86 rfl (by rw [arr_size, Hal.out]; kernel_rfl) ?_
    | refine wpList_store_row rfl _ _ _ rfl p4 (arr a) rfl rfl T8 r HR.out.2.b.b4 (by rw [arr_size, Hal.out]; kernel_rfl) (by rw [arr_size, Hal.out, HR.out.1]) (arr_one _) ?_)
  refine bodyPost_ret (results_cell_row Try.results56 _ _ p4 T8 (arr a) (0, 0) _ rfl (blk_setRow HR.out.2.b.b4 _) Try.underlying86 rfl (by rw [arr_size, Hal.out]; kernel_rfl)) rfl ?_
  rw [Hpr.out]
  exact ⟨rfl, fr_setRow HR.out.2.b.gr (fun h => by have := HR.out.2.b.o; omega) _⟩
end Sha
end Go.Proofs.Ytmjpghaggnpdbaa
