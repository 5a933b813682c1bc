/- sha: Text. -/
import Derived.Test.YtfpgfnmidkkgjaaHWg
import Derived.Laws.IdiomStrings
set_option linter.unusedVariables false
set_option linter.unusedSimpArgs false
namespace Go.Proofs.Ytfpgfnmidkkgjaa
open Go.RowKit
namespace Sha

def str (l : List B) : ByteArray := ⟨(l.map UInt8.ofBitVec).toArray⟩
/-- a digit's letter -/
def dg (n : Nat) : B := ([48, 49, 50, 51, 52, 53, 54, 55, 56, 57, 97, 98, 99, 100, 101, 102] : List B).getD n 0
def hi4 (c : B) : B := dg (c.toNat / 16)
def lo4 (c : B) : B := dg (c.toNat % 16)
def txtI (d : List B) : Nat → List B
  | 0 => List.replicate 64 0
  | i + 1 => ((txtI d i).set (2 * i) (hi4 (d.getD i 0))).set (2 * i + 1) (lo4 (d.getD i 0))
def txt (d : List B) : List B := txtI d 32
theorem txtI_len (d : List B) : ∀ i, (txtI d i).length = 64
  | 0 => by simp [txtI]
  | i + 1 => by simp [txtI, txtI_len d i]
abbrev DIG : ByteArray := ⟨#[48, 49, 50, 51, 52, 53, 54, 55, 56, 57, 97, 98, 99, 100, 101, 102]⟩

theorem index_dig (n : Nat) (h : n < 16) (w : World) : (Instr.index 9 (.string DIG) (.int .u8 (n : Int))).run Try.prog w = .ok (C (dg n)) w := by
  have h1 : (0 : Int) ≤ (n : Int) := by omega
  have h2 : ∀ n : Fin 16, DIG[(n.val)]? = some (UInt8.ofBitVec (dg n.val)) := by decide
  have h3 := h2 ⟨n, h⟩
  simp only [] at h3
  simp [Instr.index, run_underlying Try.underlying9, asIntOf, go_sem, h1, h3]
theorem and15 (c : B) : bits .and .u8 (c.toNat : Int) 15 = ((c.toNat % 16 : Nat) : Int) := by
  have : ∀ n : Fin 256, bits .and .u8 (n.val : Int) 15 = ((n.val % 16 : Nat) : Int) := by decide +kernel
  exact this ⟨c.toNat, c.isLt⟩
theorem index_brr (l : List B) (i : Nat) (h : i < 32) (hl : l.length = 32) (w : World) :
    (Instr.index TD (.agg (brr l)) (.int .i64 (i : Int))).run Try.prog w = .ok (C (l.getD i 0)) w := by
  obtain ⟨j0, hj0, hz0, hz1, hz2⟩ := info_parts info_b
  have h1 : (i : Int) < 32 := by omega
  have h2 : (brr l)[i]? = some (C (l.getD i 0)) := by rw [brr_get, List.getD_eq_getElem?_getD, List.getElem?_eq_getElem (by omega)]; rfl
  generalize l.getD i 0 = x at h2 ⊢
  simp [Instr.index, run_underlying Try.underlying30, part, asIntOf, go_sem, sizeOf, typeInfo, hj0, hz1, h1, isAgg, run_underlying Try.underlying5, h2]
  intro h3; omega

set_option maxHeartbeats 1600000 in
set_option maxRecDepth 100000 in
theorem text_any (d : List B) (hd : d.length = 32) (w : World) :
    Calls Try.prog 27 #[.agg (brr d)] w fun e w' => e = .returned (.string (str (txt d))) ∧ Gr w w' := by
  have Hd := Lib.hid hd
  clear hd
  go_enter Try.func27, Try.ntmps27
  go_upto_block 0 with (refine wpList_load_row rfl _ _ rfl w.heap.size rfl TD (brr d) (0, 0) _ ((Blk.new w TD (brr d)).alloc _) Try.underlying30 rfl (by rw [brr_size, Hd.out]; kernel_rfl) ?_)
  change Code.wp _ _ _ _ ((w.alloc (.cells (brr d) TD)).alloc (.cells (brr (List.replicate 64 (0 : B))) TB))
  have HB0 := Lib.hid (blk_new (w.alloc (.cells (brr d) TD)) TB (brr (List.replicate 64 (0 : B))) (w.heap.size + 1) (by simp))
  have HG0 := Lib.hid (((Fr.refl w NoneS).alloc (.cells (brr d) TD)).alloc (.cells (brr (List.replicate 64 (0 : B))) TB))
  have Hp := Lib.hid (show w.heap.size ≤ w.heap.size + 1 by omega)
  generalize World.alloc _ (.cells (brr (List.replicate 64 (0 : B))) TB) = w1 at HB0 HG0 ⊢
  generalize w.heap.size + 1 = p3 at HB0 Hp ⊢
  go_cut [] (fun wx => Hid (Blk wx p3 TB (brr (txt d)) ∧ Gr w wx))
  case first =>
    go_wp2_with fail
    go_loopg [7] 33 (fun m s7 wr => ∃ (i : Nat), s7 = .int .i64 i ∧ Hid (i ≤ 32 ∧ 32 - i < m) ∧ Hid (Blk wr p3 TB (brr (txtI d i)) ∧ Gr w wr))
    case atStart => exact ⟨0, rfl, ⟨by omega, by omega⟩, HB0.out, HG0.out⟩
    case round =>
      obtain ⟨i, rfl, HI, HP⟩ := hrel
      by_cases hi : i < 32
      · have hi1 : (i : Int) < 32 := by omega
        have hx := index_brr d i hi Hd.out
        obtain ⟨c, hc⟩ : ∃ c, c = d.getD i 0 := ⟨_, rfl⟩
        rw [← hc] at hx
        have Hc := Lib.hid hc
        clear hc
        have Htl := Lib.hid (txtI_len d i)
        have q0 := bcell HP.out.1 (i := 2 * i) (by rw [Htl.out]; omega)
        have q1 := bcell HP.out.1 (i := 2 * i + 1) (by rw [Htl.out]; omega)
        have f0 := HP.out.1.frozen (2 * i)
        have f1 := HP.out.1.frozen (2 * i + 1)
        have hI1 : ∀ w, (Instr.index 9 (.string DIG) (.int .u8 ((c.toNat : Int) / 16))).run Try.prog w = .ok (C (hi4 c)) w := fun w => index_dig (c.toNat / 16) (by have := c.isLt; omega) w
        have hI2 : ∀ w, (Instr.index 9 (.string DIG) (.int .u8 (bits .and .u8 (c.toNat : Int) 15))).run Try.prog w = .ok (C (lo4 c)) w := fun w => by rw [and15]; exact index_dig (c.toNat % 16) (by omega) w
        have hI3 : ∀ w, (Instr.index 9 (.string DIG) (.int .u8 ((c.toNat : Int) % 16))).run Try.prog w = .ok (C (lo4 c)) w := fun w => index_dig (c.toNat % 16) (by omega) w
        go_upto_region 5 with (fail)
        go_region
        go_wp2_with fail
        go_roundg (gk - 1)
        case measure => have := HI.out; omega
        case rel =>
          refine ⟨i + 1, by go_num, ⟨by omega, by have := HI.out; omega⟩, ?_⟩
          have h := (HP.out.1.set_ (2 * i) (C (hi4 c))).set_ (2 * i + 1) (C (lo4 c))
          rw [brr_set, brr_set, Hc.out] at h
          rw [Hc.out]
          have hge : ∀ k, k < w.heap.size → ¬ (p3 = k) := fun k hk => by have := Hp.out; omega
          exact ⟨h.drew, ((HP.out.2.setCell (p := ⟨p3, 2 * i, none⟩) (fun h => hge _ h rfl) _).setCell (p := ⟨p3, 2 * i + 1, none⟩) (fun h => hge _ h rfl) _).drew⟩
      · obtain rfl : i = 32 := by have := HI.out; omega
        go_wp2_with fail
        go_meet
        exact HP
  case rest =>
  have HR := Lib.hid hcut.out
  clear hcut
  have hcv : (convert TS8 9 (.slice (some ⟨p3, 0, none⟩) 64 64)).run Try.prog wc = .ok (.string (str (txt d))) wc := by
    have hl : ((txt d).map UInt8.ofBitVec).length = 64 := by rw [List.length_map]; exact txtI_len d 32
    have h := run_convert_bytes_back (P := Try.prog) wc TS8 9 TU8 ⟨p3, 0, none⟩ 64 ((txt d).map UInt8.ofBitVec) Try.underlying28 Try.underlying5 Try.underlying9 (fun j hj => by
      have hj' : j < (txt d).length := by simpa using hj
      rw [Addr.add_mid, Nat.zero_add, bcell HR.out.1 hj']
      simp [List.getElem?_eq_getElem hj'])
    rw [hl] at h
    exact h
  go_wp2_with fail
  go_ret
  exact ⟨rfl, HR.out.2⟩
end Sha
end Go.Proofs.Ytfpgfnmidkkgjaa
