/- sha: the reference's Text. -/
import Derived.Test.YtfpgfnmidkkgjaaHRf
import Derived.Deep.RegionHeld3
set_option linter.unusedVariables false
set_option linter.unusedSimpArgs false
namespace Go.Proofs.Ytfpgfnmidkkgjaa
open Go.RowKit
namespace Sha
/-! the reference's Text -/
def txl (d : List B) (i : Nat) : List B := (List.range i).flatMap fun j => [hi4 (d.getD j 0), lo4 (d.getD j 0)]
theorem txl_succ (d : List B) (i : Nat) : txl d (i + 1) = txl d i ++ [hi4 (d.getD i 0), lo4 (d.getD i 0)] := by simp [txl, List.range_succ]
theorem txl_len (d : List B) : ∀ i, (txl d i).length = 2 * i
  | 0 => rfl
  | i + 1 => by rw [txl_succ, List.length_append, txl_len d i]; simp; omega
theorem txtI_txl (d : List B) : ∀ i, i ≤ 32 → txtI d i = txl d i ++ List.replicate (64 - 2 * i) 0
  | 0, _ => by simp [txtI, txl]
  | i + 1, h => by
    rw [txtI, txtI_txl d i (by omega), txl_succ]
    obtain ⟨m, hm⟩ : ∃ m, 64 - 2 * i = m + 2 := ⟨64 - 2 * i - 2, by omega⟩
    have hm' : 64 - 2 * (i + 1) = m := by omega
    rw [hm, hm', List.set_append_right _ _ (by rw [txl_len]; omega), txl_len, Nat.sub_self, List.replicate_succ, List.replicate_succ, List.set_cons_zero,
      List.set_append_right _ _ (by rw [txl_len]; omega), txl_len]
    have e : 2 * i + 1 - 2 * i = 1 := by omega
    rw [e, List.set_cons_succ, List.set_cons_zero]
    simp
theorem txl_txt (d : List B) : txl d 32 = txt d := by
  have := txtI_txl d 32 (Nat.le_refl _)
  simp at this
  exact this.symm

set_option maxHeartbeats 1600000 in
set_option maxRecDepth 100000 in
theorem rtext_any (d : List B) (hd : d.length = 32) (w : World) :
    Calls Try.prog 28 #[.agg (brr d)] w fun e w' => e = .returned (.string (str (txt d))) ∧ Gr w w' := by
  obtain ⟨i0, hi0, hz0, hz1, hz2⟩ := info_parts info_b
  have Hd := Lib.hid hd
  have HB1 := Lib.hid (Blk.new w TD (brr d))
  have HG1 := Lib.hid ((Fr.refl w NoneS).alloc (.cells (brr d) TD))
  clear hd
  go_enter Try.func28, Try.ntmps28
  go_upto_region 1 with (fail)
  change Code.wp _ _ _ _ (w.alloc (.cells (brr d) TD))
  generalize World.alloc w _ = w1 at HB1 HG1 ⊢
  generalize hp1 : w.heap.size = p1 at HB1 ⊢
  have Hp1 := Lib.hid hp1
  clear hp1
  go_upto_block 0 with (fail)
  go_cut [3] (fun s3 wx => ∃ A c, s3 = .slice A 64 c ∧ Hid (wx.ownsRow w.heap.size TU8 1 (.slice A 64 c) 64 ((txt d).flatMap eb) ∧ Gr w wx))
  case first =>
    go_wp2_with fail
    go_loopg [3, 4] 33 (fun m s3 s4 wr => ∃ (i : Nat) (v : Value), v = s3 ∧ s4 = .int .i64 i ∧ Hid (i ≤ 32 ∧ 32 - i < m) ∧ Hid (wr.ownsRow w.heap.size TU8 1 v (2 * i) ((txl d i).flatMap eb) ∧ Blk wr p1 TD (brr d) ∧ Gr w wr))
    case atStart => exact ⟨0, _, rfl, rfl, ⟨by omega, by omega⟩, World.ownsRow_nil _ _ _ _, HB1.out, HG1.out⟩
    case round =>
      clear HB1 HG1
      obtain ⟨i, v, rfl, rfl, HI, HP⟩ := hrel
      by_cases hi : i < 32
      · have hi1 : (i : Int) < 32 := by omega
        have Hi := Lib.hid hi
        have q0 := bcell HP.out.2.1 (i := i) (by rw [Hd.out]; exact hi)
        have Hs := Lib.hid (txl_succ d i)
        unfold hi4 lo4 at Hs
        generalize d.getD i 0 = c at q0 Hs
        have hc := c.isLt
        obtain ⟨n1, hn1⟩ : ∃ n1, n1 = c.toNat / 16 := ⟨_, rfl⟩
        obtain ⟨n2, hn2⟩ : ∃ n2, n2 = c.toNat % 16 := ⟨_, rfl⟩
        rw [← hn1, ← hn2] at Hs
        have a1 : n1 < 16 := by omega
        have a2 : n2 < 16 := by omega
        have Hd1 := Lib.hid (digit_any n1 a1)
        have Hd2 := Lib.hid (digit_any n2 a2)
        have e1 : (c.toNat : Int) / 16 = (n1 : Int) := by omega
        have e2 : (c.toNat : Int) % 16 = (n2 : Int) := by omega
        have e3 : Int.tdiv (c.toNat : Int) 16 = (n1 : Int) := by rw [Int.tdiv_eq_ediv_of_nonneg (by omega)]; exact e1
        have e4 : Int.tmod (c.toNat : Int) 16 = (n2 : Int) := by rw [Int.tmod_eq_emod_of_nonneg (by omega)]; exact e2
        have e5 : IntKind.u8.wrap (n1 : Int) = (n1 : Int) := by simp [IntKind.wrap, IntKind.bits, IntKind.signed]; omega
        have e6 : IntKind.u8.wrap (n2 : Int) = (n2 : Int) := by simp [IntKind.wrap, IntKind.bits, IntKind.signed]; omega
        have HW0 := Lib.hid (show Blk wr.drew p1 TD (brr d) ∧ Gr w wr.drew ∧ wr.drew.ownsRow w.heap.size TU8 1 v (2 * i) ((txl d i).flatMap eb) from ⟨HP.out.2.1.drew, HP.out.2.2.drew, HP.out.1⟩)
        have Hk0 := Lib.hid (show Hid (Blk wr.drew p1 TD (brr d) ∧ Gr w wr.drew) ∧ wr.drew.cell? ⟨p1, i, none⟩ = some (C c) from ⟨⟨HW0.out.1, HW0.out.2.1⟩, q0⟩)
        have Hk1 := Lib.hid (show ∀ o, Hid (Blk (wr.alloc o).drew p1 TD (brr d) ∧ Gr w (wr.alloc o).drew) ∧ (wr.alloc o).drew.cell? ⟨p1, i, none⟩ = some (C c) from fun o => ⟨⟨HW0.out.1.alloc _, HW0.out.2.1.alloc _⟩, by
          rw [← q0]; exact ((Fr.refl wr.drew NoneS).alloc o).cell (p := ⟨p1, i, none⟩) HW0.out.1.lt (fun h => h)⟩)
        have HSL := Lib.hid (show SL eb (wr.alloc (.cells #[C (dg n1), C (dg n2)] TU8)).drew (.slice (some ⟨wr.heap.size, 0, none⟩) 2 2) [dg n1, dg n2] from by
          have h := SL.of_own (enc := eb) (own_blk (Blk.new wr.drew TU8 (brr [dg n1, dg n2])) (Nat.zero_le _) (by simp only [List.length_cons, List.length_nil]; unfold maxLen; omega)) rfl
          exact h)
        have Hi32 := Lib.hid HI.out.1
        have Hc' := Lib.hid (show ∀ w2, Fr (wr.alloc (.cells #[C (dg n1), C (dg n2)] TU8)).drew w2 (fun k => v.ownBlock = some k) → Hid (Blk w2 p1 TD (brr d) ∧ Gr w w2) ∧ w2.cell? ⟨p1, i, none⟩ = some (C c) from fun w2 hf => by
          have hne : v.ownBlock ≠ some p1 := own_blk_ne HW0.out.2.2 HW0.out.1 (by decide)
          have hb := (HW0.out.1.alloc (.cells #[C (dg n1), C (dg n2)] TU8)).fr hf hne
          refine ⟨⟨hb, gr_keep' (HW0.out.2.1.alloc _) (HW0.out.2.2.alloc _) hf⟩, ?_⟩
          rw [← (Hk1.out _).2]
          exact hf.cell (p := ⟨p1, i, none⟩) (HW0.out.1.alloc _).lt hne)
        clear hc hn1 hn2 hi a1 a2
        go_upto_region 5 with (fail)
        go_region_held3 (fun wx => Hid (Blk wx p1 TD (brr d) ∧ Gr w wx) ∧ wx.cell? ⟨p1, i, none⟩ = some (C c))
          (first | with_reducible exact hS' | with_reducible exact Hk0.out | with_reducible exact Hk1.out _)
          (first
            | (go_at_call 40; (with_reducible refine (Hd1.out _).mono ?_); rintro e w' ⟨rfl, rfl⟩)
            | (go_at_call 40; (with_reducible refine (Hd2.out _).mono ?_); rintro e w' ⟨rfl, rfl⟩)
            | ((refine step_append_sl _ eb rfl _ _ TS8 rfl w.heap.size TU8 i0 (.int .u8 0) 1 1 Try.underlying28 hi0 hz0 hz1 hz2 rfl (by decide) v (2 * i) _ (by rfl) (HW0.out.2.2.alloc _) (.slice (some ⟨wr.heap.size, 0, none⟩) 2 2) [dg n1, dg n2] (by rfl) HSL.out (fun _ => rfl) eb_one (by have := Hi32.out; simp only [List.length_cons, List.length_nil]; unfold maxLen; omega) (by have := Hi32.out; simp only [List.length_cons, List.length_nil]; omega) (by have := HW0.out.2.1.size; simp at this ⊢; omega) ?_); intro v1 w2 ho hf hat; have HO2 := Lib.hid ho; have hS' := Hc'.out w2 hf; clear ho hf hat))
        clear e1 e2 e3 e4 e5 e6 q0
        go_wp2_with fail
        go_roundg (gk - 1)
        case measure => have := HI.out; omega
        case rel =>
          refine ⟨i + 1, v1, rfl, by go_num, ⟨by have := HI.out; omega, by have := HI.out; omega⟩, ?_, hS'.1.1, hS'.1.2⟩
          have h := HO2.out
          rw [← List.flatMap_append, ← Hs.out] at h
          exact h
      · obtain rfl : i = 32 := by have := HI.out; omega
        obtain ⟨A, c, rfl⟩ := own_form HP.out.1
        go_wp2_with fail
        go_meet
        exact ⟨A, c, rfl, by have h := HP.out.1; rw [txl_txt] at h; exact h, HP.out.2.2⟩
  case rest =>
  obtain ⟨A, c, rfl, HR⟩ := hcut
  have Htl := Lib.hid (show (txt d).length = 64 from txtI_len d 32)
  obtain ⟨g, rfl⟩ : ∃ g, A = some ⟨g, 0, none⟩ := by
    rcases HR.out.1.2 with ⟨h, h0⟩ | ⟨g, cap, cur, h, _⟩
    · exact absurd h0 (by decide)
    · injection h with h1 h2 h3; exact ⟨g, h1⟩
  have hcv : (convert TS8 9 (.slice (some ⟨g, 0, none⟩) 64 c)).run Try.prog wc = .ok (.string (str (txt d))) wc := by
    have hl : ((txt d).map UInt8.ofBitVec).length = 64 := by rw [List.length_map]; exact Htl.out
    have h := run_convert_bytes_back (P := Try.prog) wc TS8 9 TU8 ⟨g, 0, none⟩ c ((txt d).map UInt8.ofBitVec) Try.underlying28 Try.underlying5 Try.underlying9 (fun j hj => by
      have hj' : j < (txt d).length := by simpa using hj
      have hc := HR.out.1.cells (g := g) rfl j (C ((txt d)[j])) (by rw [bytes_eq, List.getElem?_map, List.getElem?_eq_getElem hj']; rfl)
      rw [hc]
      simp)
    rw [hl] at h
    exact h
  go_wp2_with fail
  go_ret
  exact ⟨rfl, HR.out.2⟩
end Sha
end Go.Proofs.Ytfpgfnmidkkgjaa
