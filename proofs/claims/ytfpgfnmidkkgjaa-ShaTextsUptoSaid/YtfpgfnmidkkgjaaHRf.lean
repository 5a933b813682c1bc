/- sha: Parse, and the reference's. -/
import Derived.Test.YtfpgfnmidkkgjaaHRe
set_option linter.unusedVariables false
set_option linter.unusedSimpArgs false
namespace Go.Proofs.Ytfpgfnmidkkgjaa
open Go.RowKit
namespace Sha

theorem index_chr (s : ByteArray) (k : Nat) (h : k < s.size) (w : World) : (Instr.index 9 (.string s) (.int .i64 (k : Int))).run Try.prog w = .ok (C (chr s k)) w := by
  have h3 : s[k]? = some (UInt8.ofBitVec (chr s k)) := by
    rw [getElem?_pos s k h]
    congr 1
    unfold chr
    have h' : k < s.data.toList.length := by simpa using h
    rw [List.getD_eq_getElem?_getD, List.getElem?_eq_getElem h']
    rfl
  have h1 : (0 : Int) ≤ (k : Int) := by omega
  simp [Instr.index, run_underlying Try.underlying9, asIntOf, go_sem, h1, h3]
theorem good_bad {s : ByteArray} (h : ¬ Good s) : pd s = List.replicate 32 0 ∧ pe s = 5 := by unfold pd pe; rw [if_neg h, if_neg h]; exact ⟨rfl, rfl⟩
theorem good_good {s : ByteArray} (h : Good s) : pd s = prs s ∧ pe s = 0 := by unfold pd pe; rw [if_pos h, if_pos h]; exact ⟨rfl, rfl⟩
theorem nib_or : ∀ a b : Fin 16, bits .or .i64 ((a.val : Int) * 16) (b.val : Int) = ((16 * a.val + b.val : Nat) : Int) := by decide +kernel

set_option maxHeartbeats 1600000 in
set_option maxRecDepth 100000 in
theorem parse_any (s : ByteArray) (w : World) : Calls Try.prog 25 #[.string s] w fun e w' => e = .returned (.tuple #[.agg (brr (pd s)), .int .i64 (pe s)]) ∧ Gr w w' := by
  have HB2 := Lib.hid ((Blk.new w TD (brr (List.replicate 32 (0 : B)))).alloc (.cells (brr (List.replicate 32 (0 : B))) TD))
  have HB4 := Lib.hid (blk_new (w.alloc (.cells (brr (List.replicate 32 (0 : B))) TD)) TD (brr (List.replicate 32 (0 : B))) (w.heap.size + 1) (by simp))
  have HG0 := Lib.hid (((Fr.refl w NoneS).alloc (.cells (brr (List.replicate 32 (0 : B))) TD)).alloc (.cells (brr (List.replicate 32 (0 : B))) TD))
  by_cases hs : s.size = 64
  · have hs1 : ((s.size : Int) != 64) = false := by rw [bne_eq_false_iff_eq]; omega
    have Hs := Lib.hid hs
    clear hs
    go_enter Try.func25, Try.ntmps25
    go_upto_region 2 with (fail)
    change Code.wp _ _ _ _ ((w.alloc (.cells (brr (List.replicate 32 (0 : B))) TD)).alloc (.cells (brr (List.replicate 32 (0 : B))) TD))
    have Hp := Lib.hid (show w.heap.size ≤ w.heap.size + 1 ∧ w.heap.size ≤ w.heap.size from ⟨by omega, by omega⟩)
    generalize World.alloc (World.alloc w _) _ = w1 at HB2 HB4 HG0 ⊢
    have Hpp := Lib.hid (show w.heap.size ≠ w.heap.size + 1 by omega)
    generalize hp4 : w.heap.size + 1 = p4 at HB4 Hpp ⊢
    generalize hp2 : w.heap.size = p2 at HB2 Hpp ⊢
    have Hq := Lib.hid (show w.heap.size ≤ p2 ∧ w.heap.size ≤ p4 by omega)
    clear hp2 hp4 Hp
    go_upto_block 0 with (fail)
    go_wp2_with fail
    go_loopg [12] 33 (fun m s12 wr => ∃ i : Nat, s12 = .int .i64 i ∧ Hid (i ≤ 32 ∧ 32 - i < m ∧ ∀ j, j < i → GoodAt s j) ∧ Hid (Blk wr p4 TD (brr (fill (prs s) 32 i)) ∧ Blk wr p2 TD (brr (List.replicate 32 (0 : B))) ∧ Gr w wr))
    case atStart => exact ⟨0, rfl, ⟨by omega, by omega, fun j h => by omega⟩, by rw [fill_zero]; exact HB4.out, HB2.out, HG0.out⟩
    case round =>
      clear HB2 HB4 HG0
      obtain ⟨i, rfl, HI, HP⟩ := hrel
      by_cases hi : i < 32
      · have hi1 : (i : Int) < 32 := by omega
        have Hi := Lib.hid hi
        have hI1 : ∀ w, (Instr.index 9 (.string s) (.int .i64 (2 * (i : Int)))).run Try.prog w = .ok (C (chr s (2 * i))) w := by
          have h := index_chr s (2 * i) (by rw [Hs.out]; omega)
          rw [show (((2 * i : Nat) : Int)) = 2 * (i : Int) by omega] at h
          exact h
        have hI2 : ∀ w, (Instr.index 9 (.string s) (.int .i64 (2 * (i : Int) + 1))).run Try.prog w = .ok (C (chr s (2 * i + 1))) w := by
          have h := index_chr s (2 * i + 1) (by rw [Hs.out]; omega)
          rw [show (((2 * i + 1 : Nat) : Int)) = 2 * (i : Int) + 1 by omega] at h
          exact h
        have hN := prs_get s i hi
        unfold nib at hN
        have Hga := Lib.hid (show GoodAt s i ↔ (hv (chr s (2 * i)) ≠ 16 ∧ hv (chr s (2 * i + 1)) ≠ 16) from Iff.rfl)
        generalize chr s (2 * i) = c1 at hI1 hN Hga
        generalize chr s (2 * i + 1) = c2 at hI2 hN Hga
        have HN := Lib.hid hN
        have u1 : IntKind.i64.wrap (2 * (i : Int)) = 2 * (i : Int) := IntWalk.i64_in _ (by omega)
        have u2 : IntKind.i64.wrap (2 * (i : Int) + 1) = 2 * (i : Int) + 1 := IntWalk.i64_in _ (by omega)
        have Hl1 := Lib.hid (hv_le c1)
        have Hl2 := Lib.hid (hv_le c2)
        clear hN hi
        go_upto_region 7 with (fail)
        go_quiet ((go_at_call 38; exact Calls.quiet_of_same (value_any _ _)))
        clear u1 u2 hI1 hI2
        by_cases hg : hv c1 ≠ 16 ∧ hv c2 ≠ 16
        · have e1 : vI c1 = (hv c1 : Int) := by unfold vI; rw [if_neg hg.1]
          have e2 : vI c2 = (hv c2 : Int) := by unfold vI; rw [if_neg hg.2]
          rw [e1, e2]
          have h1 : hv c1 < 16 := by have := Hl1.out; omega
          have h2 : hv c2 < 16 := by have := Hl2.out; omega
          have hb : bits .or .i64 ((hv c1 : Int) * 16) (hv c2 : Int) = ((16 * hv c1 + hv c2 : Nat) : Int) := nib_or ⟨_, h1⟩ ⟨_, h2⟩
          have Hg := Lib.hid hg
          clear e1 e2 hg
          generalize hn1 : hv c1 = n1 at h1 hb HN ⊢
          generalize hn2 : hv c2 = n2 at h2 hb HN ⊢
          obtain ⟨q, hq⟩ : ∃ q, q = 16 * n1 + n2 := ⟨_, rfl⟩
          rw [← hq] at hb HN
          have hq1 : (q : Int) ≤ 255 := by omega
          have a1 : (n1 : Int) ≤ 15 := by omega
          have a2 : (n2 : Int) ≤ 15 := by omega
          have Hn := Lib.hid (And.intro hn1 (And.intro hn2 hq))
          clear hn1 hn2 hq h1 h2
          generalize hwd : World.drewN wr _ = wd
          have HPd := Lib.hid (show Blk wd p4 TD (brr (fill (prs s) 32 i)) ∧ Blk wd p2 TD (brr (List.replicate 32 (0 : B))) ∧ Gr w wd from by rw [← hwd]; exact ⟨HP.out.1.drewN _, HP.out.2.1.drewN _, HP.out.2.2.drewN _⟩)
          have q0 := bcell HPd.out.1 (i := i) (by rw [fill_len _ _ _ (prs_len s) HI.out.1]; exact Hi.out)
          have q1 := HPd.out.1.frozen i
          clear hwd HP
          go_wp2_with fail
          go_roundg (gk - 1)
          case measure => have := HI.out; have := Hi.out; omega
          case rel =>
            refine ⟨i + 1, by go_num, ⟨Hi.out, by have := HI.out; have := Hi.out; omega, fun j hj => ?_⟩, ?_⟩
            · by_cases hji : j = i
              · rw [hji]; exact Hga.out.2 Hg.out
              · exact HI.out.2.2 j (by omega)
            · have e : Value.int .u8 (q : Int) = C ((prs s).getD i 0) := by
                rw [HN.out]; unfold C
                rw [BitVec.toNat_ofNat]; congr 1; omega
              rw [e]
              have h := HPd.out.1.set_ i (C ((prs s).getD i 0))
              rw [brr_set, fill_set _ _ _ (prs_len s) Hi.out] at h
              have hne : p2 ≠ p4 := Hpp.out
              exact ⟨h, HPd.out.2.1.far (p := ⟨p4, i, none⟩) hne _, HPd.out.2.2.setCell (p := ⟨p4, i, none⟩) (by have := Hq.out; simp; omega) _⟩
        · have HG := Lib.hid (good_bad (s := s) (fun h => hg (Hga.out.1 (h.2 i Hi.out))))
          generalize hwd : World.drewN wr _ = wd
          have HPd := Lib.hid (show Blk wd p2 TD (brr (List.replicate 32 (0 : B))) ∧ Gr w wd from by rw [← hwd]; exact ⟨HP.out.2.1.drewN _, HP.out.2.2.drewN _⟩)
          clear hwd HP HN Hga
          by_cases hg1 : hv c1 = 16
          · have e1 : vI c1 = -1 := by unfold vI; rw [if_pos hg1]
            rw [e1]
            generalize vI c2 = v2
            clear e1 hg hg1
            go_wp2_with (first
              | refine wpList_build_to rfl _ _ rfl (brr (List.replicate 32 (0 : B))) (by kernel_rfl) ?_
              | refine wpList_store_row rfl _ _ _ rfl p2 (brr (List.replicate 32 (0 : B))) rfl rfl TD _ HPd.out.1 (by kernel_rfl) (by rfl) (brr_one _) ?_)
            refine bodyPost_ret (results_cell_tmp Try.results25 _ _ p2 TD (brr (List.replicate 32 (0 : B))) (0, 0) _ (.int .i64 5) rfl rfl (blk_setRow HPd.out.1 _) Try.underlying30 rfl (by kernel_rfl)) rfl ?_
            exact ⟨by rw [HG.out.1, HG.out.2], fr_setRow HPd.out.2 (fun h => by have := Hq.out; omega) _⟩
          · have e1 : vI c1 = (hv c1 : Int) := by unfold vI; rw [if_neg hg1]
            have e2 : vI c2 = -1 := by unfold vI; rw [if_pos (by rcases Nat.decEq (hv c2) 16 with h | h; exact absurd ⟨hg1, h⟩ hg; exact h)]
            rw [e1, e2]
            generalize hv c1 = n1
            clear e1 e2 hg hg1
            go_wp2_with (first
              | refine wpList_build_to rfl _ _ rfl (brr (List.replicate 32 (0 : B))) (by kernel_rfl) ?_
              | refine wpList_store_row rfl _ _ _ rfl p2 (brr (List.replicate 32 (0 : B))) rfl rfl TD _ HPd.out.1 (by kernel_rfl) (by rfl) (brr_one _) ?_)
            refine bodyPost_ret (results_cell_tmp Try.results25 _ _ p2 TD (brr (List.replicate 32 (0 : B))) (0, 0) _ (.int .i64 5) rfl rfl (blk_setRow HPd.out.1 _) Try.underlying30 rfl (by kernel_rfl)) rfl ?_
            exact ⟨by rw [HG.out.1, HG.out.2], fr_setRow HPd.out.2 (fun h => by have := Hq.out; omega) _⟩
      · obtain rfl : i = 32 := by have := HI.out; omega
        have HG := Lib.hid (good_good (s := s) ⟨Hs.out, HI.out.2.2⟩)
        have HB := Lib.hid (show Blk wr p4 TD (brr (prs s)) by have h := HP.out.1; rw [fill_all _ _ (prs_len s)] at h; exact h)
        go_wp2_with (first
          | refine wpList_load_row rfl _ _ rfl p4 rfl TD (brr (prs s)) (0, 0) _ HB.out Try.underlying30 rfl (by rw [brr_size, prs_len]; kernel_rfl) ?_
          | refine wpList_store_row rfl _ _ _ rfl p2 (brr (prs s)) rfl rfl TD _ HP.out.2.1 (by rw [brr_size, prs_len]; kernel_rfl) (by rw [brr_size, brr_size, prs_len]; rfl) (brr_one _) ?_)
        refine bodyPost_ret (results_cell_tmp Try.results25 _ _ p2 TD (brr (prs s)) (0, 0) _ (.int .i64 0) rfl rfl (blk_setRow HP.out.2.1 _) Try.underlying30 rfl (by rw [brr_size, prs_len]; kernel_rfl)) rfl ?_
        refine ⟨by rw [HG.out.1, HG.out.2], fr_setRow HP.out.2.2 (fun h => by have := Hq.out; omega) _⟩
  · have hs1 : ((s.size : Int) != 64) = true := by rw [bne_iff_ne]; omega
    have HG := Lib.hid (good_bad (s := s) (fun h => hs h.1))
    clear hs
    go_enter Try.func25, Try.ntmps25
    go_upto_region 2 with (fail)
    change Code.wp _ _ _ _ ((w.alloc (.cells (brr (List.replicate 32 (0 : B))) TD)).alloc (.cells (brr (List.replicate 32 (0 : B))) TD))
    have Hq := Lib.hid (Nat.le_refl w.heap.size)
    generalize World.alloc (World.alloc w _) _ = w1 at HB2 HB4 HG0 ⊢
    generalize hp2 : w.heap.size = p2 at HB2 ⊢
    have Hq2 := Lib.hid (show w.heap.size ≤ p2 by omega)
    clear hp2
    go_wp2_with (first
      | refine wpList_build_to rfl _ _ rfl (brr (List.replicate 32 (0 : B))) (by kernel_rfl) ?_
      | refine wpList_store_row rfl _ _ _ rfl p2 (brr (List.replicate 32 (0 : B))) rfl rfl TD _ HB2.out (by kernel_rfl) (by rfl) (brr_one _) ?_)
    refine bodyPost_ret (results_cell_tmp Try.results25 _ _ p2 TD (brr (List.replicate 32 (0 : B))) (0, 0) _ (.int .i64 5) rfl rfl (blk_setRow HB2.out _) Try.underlying30 rfl (by kernel_rfl)) rfl ?_
    exact ⟨by rw [HG.out.1, HG.out.2], fr_setRow HG0.out (fun h => by have := Hq2.out; omega) _⟩
set_option maxHeartbeats 1600000 in
set_option maxRecDepth 100000 in
theorem rparse_any (s : ByteArray) (w : World) : Calls Try.prog 26 #[.string s] w fun e w' => e = .returned (.tuple #[.agg (brr (pd s)), .int .i64 (pe s)]) ∧ Gr w w' := by
  have HB2 := Lib.hid ((Blk.new w TD (brr (List.replicate 32 (0 : B)))).alloc (.cells (brr (List.replicate 32 (0 : B))) TD))
  have HB4 := Lib.hid (blk_new (w.alloc (.cells (brr (List.replicate 32 (0 : B))) TD)) TD (brr (List.replicate 32 (0 : B))) (w.heap.size + 1) (by simp))
  have HG0 := Lib.hid (((Fr.refl w NoneS).alloc (.cells (brr (List.replicate 32 (0 : B))) TD)).alloc (.cells (brr (List.replicate 32 (0 : B))) TD))
  by_cases hs : s.size = 64
  · have hs1 : ((s.size : Int) != 64) = false := by rw [bne_eq_false_iff_eq]; omega
    have Hs := Lib.hid hs
    clear hs
    go_enter Try.func26, Try.ntmps26
    go_upto_region 4 with (fail)
    change Code.wp _ _ _ _ ((w.alloc (.cells (brr (List.replicate 32 (0 : B))) TD)).alloc (.cells (brr (List.replicate 32 (0 : B))) TD))
    have Hp := Lib.hid (show w.heap.size ≤ w.heap.size + 1 ∧ w.heap.size ≤ w.heap.size from ⟨by omega, by omega⟩)
    generalize World.alloc (World.alloc w _) _ = w1 at HB2 HB4 HG0 ⊢
    have Hpp := Lib.hid (show w.heap.size ≠ w.heap.size + 1 by omega)
    generalize hp4 : w.heap.size + 1 = p4 at HB4 Hpp ⊢
    generalize hp2 : w.heap.size = p2 at HB2 Hpp ⊢
    have Hq := Lib.hid (show w.heap.size ≤ p2 ∧ w.heap.size ≤ p4 by omega)
    clear hp2 hp4 Hp
    go_upto_block 0 with (fail)
    go_wp2_with fail
    go_loopg [5] 33 (fun m s5 wr => ∃ i : Nat, s5 = .int .i64 i ∧ Hid (i ≤ 32 ∧ 32 - i < m ∧ ∀ j, j < i → GoodAt s j) ∧ Hid (Blk wr p4 TD (brr (fill (prs s) 32 i)) ∧ Blk wr p2 TD (brr (List.replicate 32 (0 : B))) ∧ Gr w wr))
    case atStart => exact ⟨0, rfl, ⟨by omega, by omega, fun j h => by omega⟩, by rw [fill_zero]; exact HB4.out, HB2.out, HG0.out⟩
    case round =>
      clear HB2 HB4 HG0
      obtain ⟨i, rfl, HI, HP⟩ := hrel
      by_cases hi : i < 32
      · have hi1 : (i : Int) < 32 := by omega
        have Hi := Lib.hid hi
        have hI1 : ∀ w, (Instr.index 9 (.string s) (.int .i64 (2 * (i : Int)))).run Try.prog w = .ok (C (chr s (2 * i))) w := by
          have h := index_chr s (2 * i) (by rw [Hs.out]; omega)
          rw [show (((2 * i : Nat) : Int)) = 2 * (i : Int) by omega] at h
          exact h
        have hI2 : ∀ w, (Instr.index 9 (.string s) (.int .i64 (2 * (i : Int) + 1))).run Try.prog w = .ok (C (chr s (2 * i + 1))) w := by
          have h := index_chr s (2 * i + 1) (by rw [Hs.out]; omega)
          rw [show (((2 * i + 1 : Nat) : Int)) = 2 * (i : Int) + 1 by omega] at h
          exact h
        have hN := prs_get s i hi
        unfold nib at hN
        have Hga := Lib.hid (show GoodAt s i ↔ (hv (chr s (2 * i)) ≠ 16 ∧ hv (chr s (2 * i + 1)) ≠ 16) from Iff.rfl)
        generalize chr s (2 * i) = c1 at hI1 hN Hga
        generalize chr s (2 * i + 1) = c2 at hI2 hN Hga
        have HN := Lib.hid hN
        have u1 : IntKind.i64.wrap (2 * (i : Int)) = 2 * (i : Int) := IntWalk.i64_in _ (by omega)
        have u2 : IntKind.i64.wrap (2 * (i : Int) + 1) = 2 * (i : Int) + 1 := IntWalk.i64_in _ (by omega)
        have Hl1 := Lib.hid (hv_le c1)
        have Hl2 := Lib.hid (hv_le c2)
        clear hN hi
        go_upto_region 7 with (fail)
        go_quiet ((go_at_call 39; exact Calls.quiet_of_same (rvalue_any _ _)))
        clear u1 u2 hI1 hI2
        by_cases hg : hv c1 ≠ 16 ∧ hv c2 ≠ 16
        · have h1 : hv c1 < 16 := by have := Hl1.out; omega
          have h2 : hv c2 < 16 := by have := Hl2.out; omega
          have hb1 : ((hv c1 : Int) == 16) = false := beq_eq_false_iff_ne.2 (by omega)
          have hb2 : ((hv c2 : Int) == 16) = false := beq_eq_false_iff_ne.2 (by omega)
          have hb : (16 : Int) * (hv c1 : Int) + (hv c2 : Int) = ((16 * hv c1 + hv c2 : Nat) : Int) := by omega
          have Hg := Lib.hid hg
          clear hg
          generalize hn1 : hv c1 = n1 at h1 hb hb1 HN ⊢
          generalize hn2 : hv c2 = n2 at h2 hb hb2 HN ⊢
          obtain ⟨q, hq⟩ : ∃ q, q = 16 * n1 + n2 := ⟨_, rfl⟩
          rw [← hq] at hb HN
          have hq1 : (q : Int) ≤ 255 := by omega
          have a1 : (n1 : Int) ≤ 15 := by omega
          have a2 : (n2 : Int) ≤ 15 := by omega
          have Hn := Lib.hid (And.intro hn1 (And.intro hn2 hq))
          clear hn1 hn2 hq h1 h2
          generalize hwd : World.drewN wr _ = wd
          have HPd := Lib.hid (show Blk wd p4 TD (brr (fill (prs s) 32 i)) ∧ Blk wd p2 TD (brr (List.replicate 32 (0 : B))) ∧ Gr w wd from by rw [← hwd]; exact ⟨HP.out.1.drewN _, HP.out.2.1.drewN _, HP.out.2.2.drewN _⟩)
          have q0 := bcell HPd.out.1 (i := i) (by rw [fill_len _ _ _ (prs_len s) HI.out.1]; exact Hi.out)
          have q1 := HPd.out.1.frozen i
          clear hwd HP
          go_wp2_with fail
          go_roundg (gk - 1)
          case measure => have := HI.out; have := Hi.out; omega
          case rel =>
            refine ⟨i + 1, by go_num, ⟨Hi.out, by have := HI.out; have := Hi.out; omega, fun j hj => ?_⟩, ?_⟩
            · by_cases hji : j = i
              · rw [hji]; exact Hga.out.2 Hg.out
              · exact HI.out.2.2 j (by omega)
            · have e : Value.int .u8 (q : Int) = C ((prs s).getD i 0) := by
                rw [HN.out]; unfold C
                rw [BitVec.toNat_ofNat]; congr 1; omega
              rw [e]
              have h := HPd.out.1.set_ i (C ((prs s).getD i 0))
              rw [brr_set, fill_set _ _ _ (prs_len s) Hi.out] at h
              have hne : p2 ≠ p4 := Hpp.out
              exact ⟨h, HPd.out.2.1.far (p := ⟨p4, i, none⟩) hne _, HPd.out.2.2.setCell (p := ⟨p4, i, none⟩) (by have := Hq.out; simp; omega) _⟩
        · have HG := Lib.hid (good_bad (s := s) (fun h => hg (Hga.out.1 (h.2 i Hi.out))))
          generalize hwd : World.drewN wr _ = wd
          have HPd := Lib.hid (show Blk wd p2 TD (brr (List.replicate 32 (0 : B))) ∧ Gr w wd from by rw [← hwd]; exact ⟨HP.out.2.1.drewN _, HP.out.2.2.drewN _⟩)
          clear hwd HP HN Hga
          by_cases hg1 : hv c1 = 16
          · rw [hg1]
            generalize hv c2 = v2
            clear hg hg1
            go_wp2_with (first
              | refine wpList_build_to rfl _ _ rfl (brr (List.replicate 32 (0 : B))) (by kernel_rfl) ?_
              | refine wpList_store_row rfl _ _ _ rfl p2 (brr (List.replicate 32 (0 : B))) rfl rfl TD _ HPd.out.1 (by kernel_rfl) (by rfl) (brr_one _) ?_)
            refine bodyPost_ret (results_cell_tmp Try.results26 _ _ p2 TD (brr (List.replicate 32 (0 : B))) (0, 0) _ (.int .i64 5) rfl rfl (blk_setRow HPd.out.1 _) Try.underlying30 rfl (by kernel_rfl)) rfl ?_
            exact ⟨by rw [HG.out.1, HG.out.2], fr_setRow HPd.out.2 (fun h => by have := Hq.out; omega) _⟩
          · have e2 : hv c2 = 16 := by rcases Nat.decEq (hv c2) 16 with h | h; exact absurd ⟨hg1, h⟩ hg; exact h
            have hb1 : ((hv c1 : Int) == 16) = false := beq_eq_false_iff_ne.2 (by omega)
            have hb2 : (hv c1 == 16) = false := beq_eq_false_iff_ne.2 hg1
            rw [e2]
            generalize hv c1 = n1 at hb1 hb2 ⊢
            clear e2 hg hg1
            go_wp2_with (first
              | refine wpList_build_to rfl _ _ rfl (brr (List.replicate 32 (0 : B))) (by kernel_rfl) ?_
              | refine wpList_store_row rfl _ _ _ rfl p2 (brr (List.replicate 32 (0 : B))) rfl rfl TD _ HPd.out.1 (by kernel_rfl) (by rfl) (brr_one _) ?_)
            refine bodyPost_ret (results_cell_tmp Try.results26 _ _ p2 TD (brr (List.replicate 32 (0 : B))) (0, 0) _ (.int .i64 5) rfl rfl (blk_setRow HPd.out.1 _) Try.underlying30 rfl (by kernel_rfl)) rfl ?_
            exact ⟨by rw [HG.out.1, HG.out.2], fr_setRow HPd.out.2 (fun h => by have := Hq.out; omega) _⟩
      · obtain rfl : i = 32 := by have := HI.out; omega
        have HG := Lib.hid (good_good (s := s) ⟨Hs.out, HI.out.2.2⟩)
        have HB := Lib.hid (show Blk wr p4 TD (brr (prs s)) by have h := HP.out.1; rw [fill_all _ _ (prs_len s)] at h; exact h)
        go_wp2_with (first
          | refine wpList_load_row rfl _ _ rfl p4 rfl TD (brr (prs s)) (0, 0) _ HB.out Try.underlying30 rfl (by rw [brr_size, prs_len]; kernel_rfl) ?_
          | refine wpList_store_row rfl _ _ _ rfl p2 (brr (prs s)) rfl rfl TD _ HP.out.2.1 (by rw [brr_size, prs_len]; kernel_rfl) (by rw [brr_size, brr_size, prs_len]; rfl) (brr_one _) ?_)
        refine bodyPost_ret (results_cell_tmp Try.results26 _ _ p2 TD (brr (prs s)) (0, 0) _ (.int .i64 0) rfl rfl (blk_setRow HP.out.2.1 _) Try.underlying30 rfl (by rw [brr_size, prs_len]; kernel_rfl)) rfl ?_
        refine ⟨by rw [HG.out.1, HG.out.2], fr_setRow HP.out.2.2 (fun h => by have := Hq.out; omega) _⟩
  · have hs1 : ((s.size : Int) != 64) = true := by rw [bne_iff_ne]; omega
    have HG := Lib.hid (good_bad (s := s) (fun h => hs h.1))
    clear hs HB2 HB4 HG0
    have HB2 := Lib.hid (Blk.new w TD (brr (List.replicate 32 (0 : B))))
    have HG0 := Lib.hid ((Fr.refl w NoneS).alloc (.cells (brr (List.replicate 32 (0 : B))) TD))
    go_enter Try.func26, Try.ntmps26
    go_upto_region 1 with (fail)
    change Code.wp _ _ _ _ (w.alloc (.cells (brr (List.replicate 32 (0 : B))) TD))
    generalize World.alloc w _ = w1 at HB2 HG0 ⊢
    generalize hp2 : w.heap.size = p2 at HB2 ⊢
    have Hq2 := Lib.hid (show w.heap.size ≤ p2 by omega)
    clear hp2
    go_wp2_with (first
      | refine wpList_build_to rfl _ _ rfl (brr (List.replicate 32 (0 : B))) (by kernel_rfl) ?_
      | refine wpList_store_row rfl _ _ _ rfl p2 (brr (List.replicate 32 (0 : B))) rfl rfl TD _ HB2.out (by kernel_rfl) (by rfl) (brr_one _) ?_)
    refine bodyPost_ret (results_cell_tmp Try.results26 _ _ p2 TD (brr (List.replicate 32 (0 : B))) (0, 0) _ (.int .i64 5) rfl rfl (blk_setRow HB2.out _) Try.underlying30 rfl (by kernel_rfl)) rfl ?_
    exact ⟨by rw [HG.out.1, HG.out.2], fr_setRow HG0.out (fun h => by have := Hq2.out; omega) _⟩

end Sha
end Go.Proofs.Ytfpgfnmidkkgjaa
