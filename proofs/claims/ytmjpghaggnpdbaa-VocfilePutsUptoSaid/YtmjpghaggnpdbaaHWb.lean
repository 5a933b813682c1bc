/- sha: Press. -/
import Derived.Test.YtmjpghaggnpdbaaHSpec
set_option linter.unusedVariables false
set_option linter.unusedSimpArgs false
namespace Go.Proofs.Ytmjpghaggnpdbaa
open Go.RowKit
namespace Sha

abbrev T8 : TypeId := 86
abbrev T64 : TypeId := 107
abbrev TB : TypeId := 88

/-- the variables of Press -/
structure PW (w wr : World) (p2 p3 p4 p5 p7 : Nat) (h : List U) (b : List B) (r : Array Value) (W : List U) : Prop where
  gr : Gr w wr
  b2 : Blk wr p2 T8 (arr h)
  b3 : Blk wr p3 TB (brr b)
  b4 : Blk wr p4 T8 r
  b5 : Blk wr p5 T64 KA
  b7 : Blk wr p7 T64 (arr W)
  o : w.heap.size ≤ p2 ∧ p2 < p3 ∧ p3 < p4 ∧ p4 < p5 ∧ p5 < p7

theorem blk_new (w : World) (t : TypeId) (cs : Array Value) (n : Nat) (h : w.heap.size = n) : Blk (w.alloc (.cells cs t)) n t cs := by subst h; exact Blk.new w t cs
theorem bcell {wr : World} {g i : Nat} {t : TypeId} {l : List B} (h : Blk wr g t (brr l)) (hi : i < l.length) : wr.cell? ⟨g, i, none⟩ = some (C (l.getD i 0)) := by
  rw [h.cell, brr_get, List.getD_eq_getElem?_getD, List.getElem?_eq_getElem hi]; rfl
theorem wcell {wr : World} {g i : Nat} {t : TypeId} {l : List U} (h : Blk wr g t (arr l)) (hi : i < l.length) : wr.cell? ⟨g, i, none⟩ = some (V (gt l i)) := by
  rw [h.cell, arr_get, gt_get hi]; rfl
theorem word_bits (a b c d : B) : bits .or .u32 (bits .or .u32 (bits .or .u32 ((a.toNat : Int) * 16777216) ((b.toNat : Int) * 65536)) ((c.toNat : Int) * 256)) (d.toNat : Int) = ((word a b c d).toNat : Int) := by
  have e (x : B) (k m : Nat) (hk : k ≤ 24) (hm : 2 ^ k = m) : (x.toNat : Int) * (m : Int) = (((x.setWidth 32) <<< k).toNat : Int) := by
    subst hm
    have hx := x.isLt
    rw [BitVec.toNat_shiftLeft, Nat.shiftLeft_eq, BitVec.toNat_setWidth, Nat.mod_eq_of_lt (by omega : x.toNat < 2 ^ 32)]
    have : x.toNat * 2 ^ k < 2 ^ 32 := by
      have h1 : 2 ^ k ≤ 2 ^ 24 := Nat.pow_le_pow_right (by omega) hk
      have h2 : x.toNat * 2 ^ k ≤ 255 * 2 ^ 24 := Nat.mul_le_mul (by omega) h1
      omega
    rw [Nat.mod_eq_of_lt this]
    simp
  have e0 : (d.toNat : Int) = ((d.setWidth 32).toNat : Int) := by
    rw [BitVec.toNat_setWidth, Nat.mod_eq_of_lt (by have := d.isLt; omega)]
  have e1 : (a.toNat : Int) * 16777216 = _ := e a 24 16777216 (by omega) (by decide)
  have e2 : (b.toNat : Int) * 65536 = _ := e b 16 65536 (by omega) (by decide)
  have e3 : (c.toNat : Int) * 256 = _ := e c 8 256 (by omega) (by decide)
  rw [e1, e2, e3, e0, bits_or, bits_or, bits_or]
  rfl
theorem shr_lit (x : U) (n m : Nat) (h : 2 ^ n = m) : (x.toNat : Int) / (m : Int) = ((x >>> n).toNat : Int) := by
  subst h; rw [← shr_w]; simp
theorem sg0_bits (x : U) : bits .xor .u32 (bits .xor .u32 ((rr x 7).toNat : Int) ((rr x 18).toNat : Int)) ((x.toNat : Int) / 8) = ((sg0 x).toNat : Int) := by
  have e : (x.toNat : Int) / 8 = _ := shr_lit x 3 8 (by decide)
  rw [e, bits_xor, bits_xor]; rfl
theorem sg1_bits (x : U) : bits .xor .u32 (bits .xor .u32 ((rr x 17).toNat : Int) ((rr x 19).toNat : Int)) ((x.toNat : Int) / 1024) = ((sg1 x).toNat : Int) := by
  have e : (x.toNat : Int) / 1024 = _ := shr_lit x 10 1024 (by decide)
  rw [e, bits_xor, bits_xor]; rfl
theorem add_of {x : Int} {a b : U} (h : x % 4294967296 = (a.toNat : Int)) : (x + (b.toNat : Int)) % 4294967296 = ((a + b).toNat : Int) := by
  rw [Int.add_emod, h, ← add_w]; omega
theorem add4 (a b c d : U) : ((a.toNat : Int) + (b.toNat : Int) + (c.toNat : Int) + (d.toNat : Int)) % 4294967296 = ((a + b + c + d).toNat : Int) :=
  add_of (add_of (add_w a b))

theorem t1_bits (v7 e v6 v5 k w : U) : (((v7.toNat : Int) + bits .xor .u32 (bits .xor .u32 ((rr e 6).toNat : Int) ((rr e 11).toNat : Int)) ((rr e 25).toNat : Int) + bits .xor .u32 (v6.toNat : Int) (bits .and .u32 (e.toNat : Int) (bits .xor .u32 (v5.toNat : Int) (v6.toNat : Int))) + (k.toNat : Int)) % 4294967296 + (w.toNat : Int)) % 4294967296 =
    ((v7 + bg1 e + (v6 ^^^ (e &&& (v5 ^^^ v6))) + k + w).toNat : Int) := by
  simp only [bits_xor, bits_and]
  rw [add4, add_w]
  rfl
theorem t2_bits (a b c : U) : (bits .xor .u32 (bits .xor .u32 ((rr a 2).toNat : Int) ((rr a 13).toNat : Int)) ((rr a 22).toNat : Int) + bits .xor .u32 (bits .xor .u32 (bits .and .u32 (a.toNat : Int) (b.toNat : Int)) (bits .and .u32 (a.toNat : Int) (c.toNat : Int))) (bits .and .u32 (b.toNat : Int) (c.toNat : Int))) % 4294967296 =
    ((bg0 a + ((a &&& b) ^^^ (a &&& c) ^^^ (b &&& c))).toNat : Int) := by
  simp only [bits_xor, bits_and]
  rw [add_w]
  rfl
theorem setRow_heap_ne (w : World) (g i : Nat) (cs : Array Value) (h : i ≠ g) : (w.setRow g cs).heap[i]? = w.heap[i]? := by
  unfold World.setRow
  simp [Array.getElem?_modify, Ne.symm h]
theorem fr_setRow {w w' : World} {S : Nat → Prop} (h : Fr w w' S) {g : Nat} (hp : g < w.heap.size → S g) (cs : Array Value) : Fr w (w'.setRow g cs) S :=
  h.trans (T := fun k => k = g) ⟨rfl, rfl, rfl, by simp [World.setRow], fun k hk hn => setRow_heap_ne _ _ _ _ hn⟩
    (fun i hi e => by subst e; exact hp hi)
theorem blk_setRow {w : World} {g : Nat} {t : TypeId} {cs : Array Value} (h : Blk w g t cs) (cs' : Array Value) : Blk (w.setRow g cs') g t cs' := setRow_heap w g cs cs' t (0, 0) h
theorem blk_setRow_ne {w : World} {g g' : Nat} {t : TypeId} {cs : Array Value} (h : Blk w g t cs) (hne : g ≠ g') (cs' : Array Value) : Blk (w.setRow g' cs') g t cs := (setRow_heap_ne w g' g cs' hne).trans h
theorem PW.set7 {w wr : World} {p2 p3 p4 p5 p7 : Nat} {h : List U} {b : List B} {r : Array Value} {W : List U} (H : PW w wr p2 p3 p4 p5 p7 h b r W) (i : Nat) (x : U) :
    PW w (wr.setCell ⟨p7, i, none⟩ (V x)).drew p2 p3 p4 p5 p7 h b r (W.set i x) := by
  obtain ⟨hg, b2, b3, b4, b5, b7, o1, o2, o3, o4, o5⟩ := H
  refine ⟨(hg.setCell (by simp; omega) _).drew, (b2.far (by simp; omega) _).drew, (b3.far (by simp; omega) _).drew, (b4.far (by simp; omega) _).drew, (b5.far (by simp; omega) _).drew, ?_, o1, o2, o3, o4, o5⟩
  have := b7.set_ i (V x)
  rw [arr_set] at this
  exact this.drew

theorem PW.drewN {w wr : World} {p2 p3 p4 p5 p7 : Nat} {h : List U} {b : List B} {r : Array Value} {W : List U} (H : PW w wr p2 p3 p4 p5 p7 h b r W) (n : Nat) :
    PW w (wr.drewN n) p2 p3 p4 p5 p7 h b r W := ⟨H.gr.drewN n, H.b2, H.b3, H.b4, H.b5, H.b7, H.o⟩

structure PV (w wr : World) (p2 p3 p4 p5 p7 p12 : Nat) (h : List U) (b : List B) (r : Array Value) (W v : List U) : Prop where
  b : PW w wr p2 p3 p4 p5 p7 h b r W
  b12 : Blk wr p12 T8 (arr v)
  o : p7 < p12
theorem PV.drewN {w wr : World} {p2 p3 p4 p5 p7 p12 : Nat} {h : List U} {b : List B} {r : Array Value} {W v : List U} (H : PV w wr p2 p3 p4 p5 p7 p12 h b r W v) (n : Nat) :
    PV w (wr.drewN n) p2 p3 p4 p5 p7 p12 h b r W v := ⟨H.b.drewN n, H.b12, H.o⟩
theorem PV.drew {w wr : World} {p2 p3 p4 p5 p7 p12 : Nat} {h : List U} {b : List B} {r : Array Value} {W v : List U} (H : PV w wr p2 p3 p4 p5 p7 p12 h b r W v) :
    PV w wr.drew p2 p3 p4 p5 p7 p12 h b r W v := ⟨⟨H.b.gr.drew, H.b.b2, H.b.b3, H.b.b4, H.b.b5, H.b.b7, H.b.o⟩, H.b12, H.o⟩
theorem PV.setRow12 {w wr : World} {p2 p3 p4 p5 p7 p12 : Nat} {h : List U} {b : List B} {r : Array Value} {W v : List U} (H : PV w wr p2 p3 p4 p5 p7 p12 h b r W v) (v' : List U) :
    PV w (wr.setRow p12 (arr v')) p2 p3 p4 p5 p7 p12 h b r W v' := by
  obtain ⟨⟨hg, b2, b3, b4, b5, b7, o1, o2, o3, o4, o5⟩, b12, o6⟩ := H
  exact ⟨⟨fr_setRow hg (by omega) _, blk_setRow_ne b2 (by omega) _, blk_setRow_ne b3 (by omega) _, blk_setRow_ne b4 (by omega) _, blk_setRow_ne b5 (by omega) _, blk_setRow_ne b7 (by omega) _, o1, o2, o3, o4, o5⟩, blk_setRow b12 _, o6⟩
theorem PV.set2 {w wr : World} {p2 p3 p4 p5 p7 p12 : Nat} {h : List U} {b : List B} {r : Array Value} {W v : List U} (H : PV w wr p2 p3 p4 p5 p7 p12 h b r W v) (i : Nat) (x : U) :
    PV w (wr.setCell ⟨p2, i, none⟩ (V x)).drew p2 p3 p4 p5 p7 p12 (h.set i x) b r W v := by
  obtain ⟨⟨hg, b2, b3, b4, b5, b7, o1, o2, o3, o4, o5⟩, b12, o6⟩ := H
  refine ⟨⟨(hg.setCell (by simp; omega) _).drew, ?_, (b3.far (by simp; omega) _).drew, (b4.far (by simp; omega) _).drew, (b5.far (by simp; omega) _).drew, (b7.far (by simp; omega) _).drew, o1, o2, o3, o4, o5⟩, (b12.far (by simp; omega) _).drew, o6⟩
  have := b2.set_ i (V x)
  rw [arr_set] at this
  exact this.drew

set_option maxHeartbeats 1600000 in
set_option maxRecDepth 100000 in
theorem press_any (h : List U) (b : List B) (hh : h.length = 8) (hb : b.length = 64) (w : World) :
    Calls Try.prog 63 #[.agg (arr h), .agg (brr b)] w fun e w' => e = .returned (.agg (arr (press h b))) ∧ Gr w w' := by
  have Hh := Lib.hid hh
  have Hb := Lib.hid hb
  clear hh hb
  go_enter Try.func63, Try.ntmps63
  go_upto_block 0 with (first
    | (go_at_call 70; refine (const_any _).mono ?_; rintro e w1 ⟨rfl, hg1⟩; have HG1 := Lib.hid hg1; clear hg1)
    | refine wpList_store_new (w0 := w1) rfl _ _ _ rfl KA _ _ rfl rfl rfl (by kernel_rfl) (by kernel_rfl) (by kernel_rfl) ?_)
  go_cut [2, 3, 4, 5, 6, 7] (fun s2 s3 s4 s5 s6 s7 wc => ∃ p2 p3 p4 p5 p7 : Nat, s2 = .pointer (some ⟨p2, 0, none⟩) ∧ s3 = .pointer (some ⟨p3, 0, none⟩) ∧ s4 = .pointer (some ⟨p4, 0, none⟩) ∧ s5 = .pointer (some ⟨p5, 0, none⟩) ∧
    s6 = .func (.func 71) #[] #[] ∧ s7 = .pointer (some ⟨p7, 0, none⟩) ∧ ∃ r, Hid (r.size = 8 ∧ PW w wc p2 p3 p4 p5 p7 h b r (W0 b 16)))
  case first =>
    go_wp2_with fail
    go_loopg [20] 17 (fun m s20 wr => ∃ (i : Nat), s20 = .int .i64 i ∧ Hid (i ≤ 16 ∧ 16 - i < m) ∧ Hid (PW w wr w.heap.size (w.heap.size + 1) (w.heap.size + 1 + 1) w1.heap.size (w1.heap.size + 1) h b (arr (List.replicate 8 0)) (W0 b i)))
    case atStart =>
      refine ⟨0, rfl, ⟨by omega, by omega⟩, ?_⟩
      have hs := HG1.out.size
      simp only [World.alloc, Array.size_push] at hs
      refine ⟨((((((Fr.refl w _).alloc _).alloc _).alloc _).trans HG1.out (fun _ _ h => h)).alloc _).alloc _, ?_, ?_, ?_, ?_, ?_, Nat.le_refl _, by omega, by omega, by omega, by omega⟩
      · exact ((((Blk.new w T8 (arr h)).alloc _).alloc _).fr HG1.out (fun h => h)).alloc _ |>.alloc _
      · exact (((blk_new (w.alloc (.cells (arr h) T8)) TB (brr b) (w.heap.size + 1) (by simp)).alloc _).fr HG1.out (fun h => h)).alloc _ |>.alloc _
      · exact ((blk_new ((w.alloc (.cells (arr h) T8)).alloc (.cells (brr b) TB)) T8 _ (w.heap.size + 1 + 1) (by simp)).fr HG1.out (fun h => h)).alloc _ |>.alloc _
      · exact (Blk.new w1 T64 KA).alloc _
      · exact blk_new (w1.alloc (.cells KA T64)) T64 _ _ (by simp)
    case round =>
      obtain ⟨i, rfl, HI, HP⟩ := hrel
      by_cases hi : i < 16
      · have hi1 : (i : Int) < 16 := by omega
        obtain ⟨wr0, hwr⟩ : ∃ x : World, x = wr := ⟨_, rfl⟩
        have q0 := bcell HP.out.b3 (i := 4 * i) (by rw [Hb.out]; omega)
        have q1 := bcell HP.out.b3 (i := 4 * i + 1) (by rw [Hb.out]; omega)
        have q2 := bcell HP.out.b3 (i := 4 * i + 2) (by rw [Hb.out]; omega)
        have q3 := bcell HP.out.b3 (i := 4 * i + 3) (by rw [Hb.out]; omega)
        have q4 := wcell HP.out.b7 (i := i) (by rw [W0_len]; omega)
        have q5 := HP.out.b7.frozen i
        have n1 : w1.heap.size + 1 ≠ w.heap.size + 1 := by have := HP.out.o; omega
        go_upto_region 7 with (fail)
        go_region
        go_wp2_with fail
        go_roundg (gk - 1)
        case measure => have := HI.out; omega
        case rel =>
          refine ⟨i + 1, by go_num, ⟨by omega, by have := HI.out; omega⟩, ?_⟩
          rw [word_bits]
          exact HP.out.set7 i (lay b i)
      · obtain rfl : i = 16 := by have := HI.out; omega
        go_wp2_with fail
        go_meet
        exact ⟨_, _, _, _, _, rfl, rfl, rfl, rfl, rfl, rfl, _, rfl, HP.out⟩
  case rest =>
  obtain ⟨p2, p3, p4, p5, p7, rfl, rfl, rfl, rfl, rfl, rfl, r, HP⟩ := hcut
  clear HG1
  have hcf := fun args w => callFunc_enters Try.func71 (by rfl) (by rfl) args w
  have Ht := fun (x : U) w => turn_any x 7 (by decide) (by decide) w
  go_upto_block 2 with (fail)
  go_cut [9] (fun s9 wx => Hid (r.size = 8 ∧ PW w wx p2 p3 p4 p5 p7 h b r (W1 (W0 b 16) 48)))
  case first =>
    go_wp2_with fail
    go_loopg [9] 49 (fun m s9 wr => ∃ (j : Nat), s9 = .int .i64 ((j : Int) + 16) ∧ Hid (j ≤ 48 ∧ 48 - j < m) ∧ Hid (PW w wr p2 p3 p4 p5 p7 h b r (W1 (W0 b 16) j)))
    case atStart =>
      refine ⟨0, rfl, ⟨by omega, by omega⟩, HP.out.2⟩
    case round =>
      obtain ⟨j, rfl, HI, HQ⟩ := hrel
      by_cases hj : j < 48
      · have hj1 : (j : Int) + 16 < 64 := by omega
        have hl : (W1 (W0 b 16) j).length = 64 := W1_len _ (W0_len _ _) _
        have q0 := wcell HQ.out.b7 (i := j) (by rw [hl]; omega)
        have q1 := wcell HQ.out.b7 (i := j + 1) (by rw [hl]; omega)
        have q2 := wcell HQ.out.b7 (i := j + 9) (by rw [hl]; omega)
        have q3 := wcell HQ.out.b7 (i := j + 14) (by rw [hl]; omega)
        have q4 := wcell HQ.out.b7 (i := j + 16) (by rw [hl]; omega)
        have q5 := HQ.out.b7.frozen (j + 16)
        have Hl := Lib.hid hl
        clear hl
        go_upto_region 12 with (fail)
        go_quiet ((exact Calls.quiet_of_same (turn_any _ _ (by decide) (by decide) _)))
        generalize hw2 : World.drewN wr nq = w2
        have HQ2 := Lib.hid (show PW w w2 p2 p3 p4 p5 p7 h b r (W1 (W0 b 16) j) by rw [← hw2]; exact HQ.out.drewN _)
        clear q0 q1 q2 q3 q4 q5 HQ hw2
        have q0 := wcell HQ2.out.b7 (i := j) (by rw [Hl.out]; omega)
        have q2 := wcell HQ2.out.b7 (i := j + 9) (by rw [Hl.out]; omega)
        have q3 := wcell HQ2.out.b7 (i := j + 14) (by rw [Hl.out]; omega)
        have q4 := wcell HQ2.out.b7 (i := j + 16) (by rw [Hl.out]; omega)
        have q5 := HQ2.out.b7.frozen (j + 16)
        go_wp2_with fail
        go_quiet ((exact Calls.quiet_of_same (turn_any _ _ (by decide) (by decide) _)))
        rw [sg0_bits, sg1_bits]
        generalize hw3 : World.drewN w2 nq = w3
        have HQ3 := Lib.hid (show PW w w3 p2 p3 p4 p5 p7 h b r (W1 (W0 b 16) j) by rw [← hw3]; exact HQ2.out.drewN _)
        clear q0 q2 q3 q4 q5 HQ2 hw3
        have q0 := wcell HQ3.out.b7 (i := j) (by rw [Hl.out]; omega)
        have q2 := wcell HQ3.out.b7 (i := j + 9) (by rw [Hl.out]; omega)
        have q4 := wcell HQ3.out.b7 (i := j + 16) (by rw [Hl.out]; omega)
        have q5 := HQ3.out.b7.frozen (j + 16)
        go_upto_region 14 with (fail)
        go_region
        go_wp2_with fail
        go_roundg (gk - 1)
        case measure => have := HI.out; omega
        case rel =>
          refine ⟨j + 1, by go_num, ⟨by omega, by have := HI.out; omega⟩, ?_⟩
          rw [add4]
          exact HQ3.out.set7 (j + 16) (ext (W1 (W0 b 16) j) j)
      · obtain rfl : j = 48 := by have := HI.out; omega
        go_wp2_with fail
        go_meet
        exact ⟨HP.out.1, HQ.out⟩
  case rest =>
  have HP' := Lib.hid hcut
  clear HP hcut
  have hl : (W1 (W0 b 16) 48).length = 64 := W1_len _ (W0_len _ _) _
  have Hl := Lib.hid hl
  clear hl
  generalize hW : W1 (W0 b 16) 48 = W at Hl HP' ⊢
  have HW := Lib.hid hW
  clear hW
  go_upto_block 4 with (first
    | refine wpList_load_row rfl _ _ rfl p2 rfl T8 (arr h) (0, 0) _ HP'.out.2.b2 Try.underlying86 rfl (by rw [arr_size, Hh.out]; kernel_rfl) ?_
    | refine wpList_store_new (w0 := wc) rfl _ _ _ rfl (arr h) _ _ rfl rfl rfl (by rw [arr_size, Hh.out]; kernel_rfl) (by rw [arr_size, Hh.out]; rfl) (arr_one _) ?_)
  go_cut [12] (fun s12 wx => ∃ p12 : Nat, s12 = .pointer (some ⟨p12, 0, none⟩) ∧ Hid (r.size = 8 ∧ PV w wx p2 p3 p4 p5 p7 p12 h b r W (rnds W h 64)))
  case first =>
    have H0 := Lib.hid (show PV w (wc.alloc (.cells (arr h) T8)) p2 p3 p4 p5 p7 wc.heap.size h b r W h from by
      have H := HP'.out.2
      exact ⟨⟨H.gr.alloc _, H.b2.alloc _, H.b3.alloc _, H.b4.alloc _, H.b5.alloc _, H.b7.alloc _, H.o⟩, Blk.new _ _ _, H.b7.lt⟩)
    generalize wc.heap.size = p12 at H0 ⊢
    generalize wc.alloc (.cells (arr h) T8) = wb at H0 ⊢
    go_wp2_with fail
    go_loopg [113] 65 (fun m s113 wr => ∃ (i : Nat), s113 = .int .i64 i ∧ Hid (i ≤ 64 ∧ 64 - i < m) ∧ Hid (PV w wr p2 p3 p4 p5 p7 p12 h b r W (rnds W h i)))
    case atStart =>
      refine ⟨0, rfl, ⟨by omega, by omega⟩, H0.out⟩
    case round =>
      obtain ⟨i, rfl, HI, HQ⟩ := hrel
      by_cases hi : i < 64
      · have hi1 : (i : Int) < 64 := by omega
        have hsl : (rnds W h i).length = 8 := rnds_len W h Hh.out i
        generalize hs : rnds W h i = s at hsl HQ
        have Hs := Lib.hid hs
        have Hsl := Lib.hid hsl
        clear hs hsl
        have q0 := wcell HQ.out.b12 (i := 0) (by rw [Hsl.out]; omega)
        have q4 := wcell HQ.out.b12 (i := 4) (by rw [Hsl.out]; omega)
        go_upto_region 19 with (fail)
        go_region
        generalize hw2 : World.drew wr = w2
        have HQ2 := Lib.hid (show PV w w2 p2 p3 p4 p5 p7 p12 h b r W s by rw [← hw2]; exact HQ.out.drew)
        clear q0 q4 HQ hw2
        have q5 := wcell HQ2.out.b12 (i := 5) (by rw [Hsl.out]; omega)
        have q6 := wcell HQ2.out.b12 (i := 6) (by rw [Hsl.out]; omega)
        have q7 := wcell HQ2.out.b12 (i := 7) (by rw [Hsl.out]; omega)
        have qk := wcell (l := KU) (KA_eq ▸ HQ2.out.b.b5) (i := i) (by exact hi)
        have qw := wcell HQ2.out.b.b7 (i := i) (by rw [Hl.out]; exact hi)
        go_wp2_with fail
        go_quiet ((exact Calls.quiet_of_same (turn_any _ _ (by decide) (by decide) _)))
        generalize hw3 : World.drewN w2 nq = w3
        have HQ3 := Lib.hid (show PV w w3 p2 p3 p4 p5 p7 p12 h b r W s by rw [← hw3]; exact HQ2.out.drewN _)
        clear q5 q6 q7 qk qw HQ2 hw3
        have q1 := wcell HQ3.out.b12 (i := 1) (by rw [Hsl.out]; omega)
        have q2 := wcell HQ3.out.b12 (i := 2) (by rw [Hsl.out]; omega)
        go_wp2_with fail
        go_quiet ((exact Calls.quiet_of_same (turn_any _ _ (by decide) (by decide) _)))
        generalize hw4 : World.drewN w3 nq = w4
        have HQ4 := Lib.hid (show PV w w4 p2 p3 p4 p5 p7 p12 h b r W s by rw [← hw4]; exact HQ3.out.drewN _)
        clear q1 q2 HQ3 hw4
        rw [t1_bits, t2_bits]
        have hr : ∃ t1 t2, t1 = gt s 7 + bg1 (gt s 4) + (gt s 6 ^^^ (gt s 4 &&& (gt s 5 ^^^ gt s 6))) + gt KU i + gt W i ∧ t2 = bg0 (gt s 0) + ((gt s 0 &&& gt s 1) ^^^ (gt s 0 &&& gt s 2) ^^^ (gt s 1 &&& gt s 2)) := ⟨_, _, rfl, rfl⟩
        obtain ⟨t1, t2, ht1, ht2⟩ := hr
        rw [show s[7]?.getD 0#32 + bg1 (s[4]?.getD 0#32) + (s[6]?.getD 0#32 ^^^ (s[4]?.getD 0#32 &&& (s[5]?.getD 0#32 ^^^ s[6]?.getD 0#32))) + KU[i]?.getD 0#32 + W[i]?.getD 0#32 = t1 from ht1.symm,
          show bg0 (s[0]?.getD 0#32) + ((s[0]?.getD 0#32 &&& s[1]?.getD 0#32) ^^^ (s[0]?.getD 0#32 &&& s[2]?.getD 0#32) ^^^ (s[1]?.getD 0#32 &&& s[2]?.getD 0#32)) = t2 from ht2.symm]
        have HT := Lib.hid (And.intro ht1 ht2)
        clear ht1 ht2
        have q0 := wcell HQ4.out.b12 (i := 0) (by rw [Hsl.out]; omega)
        have q1 := wcell HQ4.out.b12 (i := 1) (by rw [Hsl.out]; omega)
        have q2 := wcell HQ4.out.b12 (i := 2) (by rw [Hsl.out]; omega)
        have q3 := wcell HQ4.out.b12 (i := 3) (by rw [Hsl.out]; omega)
        have q4 := wcell HQ4.out.b12 (i := 4) (by rw [Hsl.out]; omega)
        have q5 := wcell HQ4.out.b12 (i := 5) (by rw [Hsl.out]; omega)
        have q6 := wcell HQ4.out.b12 (i := 6) (by rw [Hsl.out]; omega)
        have Hrn := Lib.hid (show arr (rnd s (gt KU i) (gt W i)) = #[.int .u32 (((t1.toNat : Int) + (t2.toNat : Int)) % 4294967296), V (s[0]?.getD 0#32), V (s[1]?.getD 0#32), V (s[2]?.getD 0#32), .int .u32 (((s[3]?.getD 0#32).toNat + (t1.toNat : Int)) % 4294967296),
            V (s[4]?.getD 0#32), V (s[5]?.getD 0#32), V (s[6]?.getD 0#32)] from by
          rw [add_w, add_w, HT.out.1, HT.out.2]; rfl)
        go_wp2_with (refine wpList_store_row rfl _ _ _ rfl p12 (arr (rnd s (gt KU i) (gt W i))) rfl (by rw [Hrn.out]; rfl) T8 (arr s) HQ4.out.b12 (by kernel_rfl) (by rw [arr_size, Hsl.out]; rfl) (arr_one _) ?_)
        go_roundg (gk - 1)
        case measure => have := HI.out; omega
        case rel =>
          refine ⟨i + 1, by go_num, ⟨by omega, by have := HI.out; omega⟩, ?_⟩
          rw [rnds, Hs.out]
          exact HQ4.out.setRow12 _
      · obtain rfl : i = 64 := by have := HI.out; omega
        go_wp2_with fail
        go_meet
        exact ⟨_, rfl, HP'.out.1, HQ.out⟩
  case rest =>
  obtain ⟨p12, rfl, HV⟩ := hcut
  clear HP'
  have Hv := Lib.hid (rnds_len W h Hh.out 64)
  generalize hv : rnds W h 64 = v at HV Hv
  have HVe := Lib.hid hv
  clear hv
  go_upto_block 6 with (fail)
  go_cut [18] (fun s18 wx => Hid (r.size = 8 ∧ PV w wx p2 p3 p4 p5 p7 p12 (addTo h v 8) b r W v))
  case first =>
    go_wp2_with fail
    go_loopg [201] 9 (fun m s201 wr => ∃ (i : Nat), s201 = .int .i64 i ∧ Hid (i ≤ 8 ∧ 8 - i < m) ∧ Hid (PV w wr p2 p3 p4 p5 p7 p12 (addTo h v i) b r W v))
    case atStart => exact ⟨0, rfl, ⟨by omega, by omega⟩, HV.out.2⟩
    case round =>
      obtain ⟨i, rfl, HI, HQ⟩ := hrel
      by_cases hi : i < 8
      · have hi1 : (i : Int) < 8 := by omega
        have Hal := Lib.hid (addTo_len h v Hh.out i)
        generalize ha : addTo h v i = a at HQ Hal
        have Ha := Lib.hid ha
        clear ha
        have q0 := wcell HQ.out.b.b2 (i := i) (by rw [Hal.out]; omega)
        have q1 := wcell HQ.out.b12 (i := i) (by rw [Hv.out]; omega)
        have q2 := HQ.out.b.b2.frozen i
        have n1 : p2 ≠ p12 := by have := HQ.out.b.o; have := HQ.out.o; omega
        go_upto_region 27 with (fail)
        go_region
        go_wp2_with fail
        go_roundg (gk - 1)
        case measure => have := HI.out; omega
        case rel =>
          refine ⟨i + 1, by go_num, ⟨by omega, by have := HI.out; omega⟩, ?_⟩
          rw [add_w, addTo, Ha.out]
          exact HQ.out.set2 i (gt a i + gt v i)
      · obtain rfl : i = 8 := by have := HI.out; omega
        go_wp2_with fail
        go_meet
        exact ⟨HV.out.1, HQ.out⟩
  case rest =>
  have HR := Lib.hid hcut
  clear hcut HV
  have Hal := Lib.hid (addTo_len h v Hh.out 8)
  have Hpr := Lib.hid (show press h b = addTo h v 8 by unfold press; rw [HW.out, HVe.out])
  generalize addTo h v 8 = a at HR Hal Hpr
  go_wp2_with (first
    | refine wpList_load_row rfl _ _ rfl p2 rfl T8 (arr a) (0, 0) _ HR.out.2.b.b2 Try.underlying86 rfl (by rw [arr_size, Hal.out]; kernel_rfl) ?_
    | refine wpList_store_row rfl _ _ _ rfl p4 (arr a) rfl rfl T8 r HR.out.2.b.b4 (by rw [arr_size, Hal.out]; kernel_rfl) (by rw [arr_size, Hal.out, HR.out.1]) (arr_one _) ?_)
  refine bodyPost_ret (results_cell_row Try.results63 _ _ p4 T8 (arr a) (0, 0) _ rfl (blk_setRow HR.out.2.b.b4 _) Try.underlying86 rfl (by rw [arr_size, Hal.out]; kernel_rfl)) rfl ?_
  rw [Hpr.out]
  exact ⟨rfl, fr_setRow HR.out.2.b.gr (fun h => by have := HR.out.2.b.o; omega) _⟩
end Sha
end Go.Proofs.Ytmjpghaggnpdbaa
