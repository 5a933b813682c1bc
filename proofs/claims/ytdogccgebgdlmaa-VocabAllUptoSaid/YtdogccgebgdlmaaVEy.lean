/- vocab: Expand. -/
import Derived.Test.YtdogccgebgdlmaaVEx
import Derived.OwnWalk
set_option linter.unusedVariables false
set_option linter.unusedSimpArgs false
namespace Go.Proofs.Ytdogccgebgdlmaa
open Go.RowKit
namespace Voc
theorem step_make {P : Program} {ops : Array Oper} {o : Oper} {a : Act} {w : World} {K : Act → World → Prop} {Q : Exit → Act → World → Prop} {E : Prop} (hg : o.guard = none) (l c : Operand) (t : TypeId) (hop : o.op = .makeSlice t l c) (L C : Value) (hl : a.eval l = L) (hc : a.eval c = C) (v : Value) (w' : World)
    (hrun : (Instr.makeSlice t L C).run P w = .ok v w') (hK : K (a.put o.dst v) w') : if Region.wanted o (yielded ops a.tmps) = true then Oper.wp P o a w K Q else E := by
  have hw : Region.wanted o (yielded ops a.tmps) = true := by simp [Region.wanted, hg]
  rw [if_pos hw]
  unfold Oper.wp
  simp [execOp, hop, hl, hc, hrun, Result.andThen]
  exact hK
set_option maxRecDepth 20000 in
set_option maxHeartbeats 4000000 in
theorem Expand_any {w : World} {v : Value} {xs : List Pc} (n : Int) (HS : SL encP w v xs) (hw : ∀ q ∈ xs, wfP q) (hl : xs.length ≤ 1048576) (hmx : (expE xs n).length ≤ 1048576) :
    Calls Try.prog 19 #[.agg #[v], .int .i64 n] w fun e w' => ∃ tv, e = .returned (.tuple #[tv, .int .i64 (sizeE xs n).2]) ∧ w'.ownsRow w.heap.size 5 1 tv (expE xs n).length ((expE xs n).flatMap encB) ∧ Gr w w' ∧ SpareT IsB w' tv := by
  obtain ⟨A, cap, rfl⟩ := SL.form HS
  have HG := Lib.hid ((Fr.refl w NoneS).alloc (.cells #[.slice A xs.length cap] 24))
  have HB := Lib.hid (Blk.new w 24 #[.slice A xs.length cap])
  have HSL := Lib.hid (HS.gr HG.out)
  have HZ := Lib.hid (size_any n HSL.out hw hl)
  obtain ⟨⟨r1, r2⟩, hr⟩ : ∃ x, sizeE xs n = x := ⟨_, rfl⟩
  have HX := Lib.hid (show r2 = 0 → Ok xs (szF [] xs) ∧ xs.length ≤ 4096 ∧ 0 ≤ n ∧ n < xs.length ∧ r1 = (expE xs n).length ∧ expE xs n = expB xs (n.toNat + 1) n from fun h => by
    have h2 : (sizeE xs n).2 = 0 := by rw [hr]; exact h
    obtain ⟨a, b, c, d, e⟩ := size_ok h2
    rw [hr] at e
    exact ⟨a, b, c, d, e, by unfold expE; rw [if_pos h2]⟩)
  have HY := Lib.hid (show r2 ≠ 0 → expE xs n = [] from fun h => by unfold expE; rw [hr, if_neg h])
  rw [hr] at HZ ⊢
  simp only at HZ ⊢
  have HM := Lib.hid hmx
  have HS0 := Lib.hid HS
  clear HS hw hl hr hmx
  generalize hbs : expE xs n = bs at HX HY HM ⊢
  clear hbs
  go_enter Try.func19, Try.ntmps19
  generalize hx : World.alloc w (.cells #[.slice A xs.length cap] 24) = wa at HG HB HSL HZ
  have f0 : wa.cell? ⟨w.heap.size, 0, none⟩ = some (.slice A xs.length cap) := by rw [HB.out.cell]; rfl
  have HXX := Lib.hid hx
  clear hx
  by_cases h0 : r2 = 0
  · obtain ⟨hok, h4, hn0, hn1, hr1, hbs⟩ := HX.out h0
    subst h0
    obtain ⟨i, rfl⟩ : ∃ i : Nat, n = i := ⟨n.toNat, by omega⟩
    subst hr1
    rw [Int.toNat_natCast] at hbs
    have Hbs := Lib.hid hbs
    have Hin := Lib.hid (show i < xs.length by omega)
    clear hbs hn0 hn1
    go_upto_region 4 with (go_at_call 27; rw [HXX.out]; refine HZ.out.mono ?_; rintro e w3 ⟨rfl, hg⟩; have HG3 := Lib.hid hg; clear hg)
    have fq : w3.cell? ⟨w.heap.size, 0, none⟩ = some (.slice A xs.length cap) := (HG3.out.cell (p := ⟨w.heap.size, 0, none⟩) HB.out.lt (fun h => h)).trans f0
    obtain ⟨i0, hi0, hz0, hz1, hz2⟩ := info_parts info_u8
    have HG4 := Lib.hid (HG.out.trans HG3.out (fun _ _ h => h))
    obtain ⟨w5, hrun, hown5, hgr5⟩ := run_make_own (P := Try.prog) w3.drew w.heap.size 37 5 i0 (.int .u8 0) 1 Try.underlying37 hi0 hz0 hz1 .i64 .i64 bs.length (by rw [hz2]; have := HM.out; omega) (by have := HM.out; unfold maxLen; omega) HG4.out.size
    have HG5 := Lib.hid (show Gr w3 w5 from (Fr.refl w3 NoneS).drew.grown hgr5 (fun k h => by cases h))
    have HSp5 := Lib.hid (show SpareT IsB w5 (.slice (some ⟨w3.drew.heap.size, 0, none⟩) 0 bs.length) from by
      have hr2 := run_make (P := Try.prog) w3.drew 37 5 i0 (.int .u8 0) Try.underlying37 hi0 hz0 .i64 .i64 0 (bs.length : Int) (Int.le_refl _) (by omega) (by rw [hz2]; have := HM.out; omega) (by have := HM.out; omega)
      simp only [Int.toNat_zero, Int.toNat_natCast] at hr2
      rw [hrun] at hr2
      injection hr2 with _ hw5
      rw [hw5]
      intro g cs t fr hg hc u hu
      simp [Value.ownBlock] at hg
      subst hg
      have hn := heap_alloc_new w3.drew (.cells (madeCells (Value.int .u8 0).cells (bs.length * i0.size)) 5)
      have hn' : (w3.drew.alloc (.cells (madeCells (Value.int .u8 0).cells (bs.length * i0.size)) 5)).heap[w3.heap.size]? = some (.cells (madeCells (Value.int .u8 0).cells (bs.length * i0.size)) 5) := hn
      rw [hn'] at hc
      injection hc with hc
      injection hc with hc
      subst hc
      unfold madeCells at hu
      rw [Array.mem_toList_iff, Array.mem_map] at hu
      obtain ⟨k, _, rfl⟩ := hu
      simp only [Value.cells, List.size_toArray, List.length_singleton, Nat.mod_one]
      exact ⟨0, rfl⟩)
    have HO5 := Lib.hid hown5
    have hlow : ∀ k, (Value.slice A xs.length cap).ownBlock = some k → k < w.heap.size := by
      intro k hk
      obtain ⟨ba, oa, hA, hb, _⟩ := HS0.out.at_ (s := 5) (fun _ => rfl) rfl Hin.out
      subst hA
      simp [Value.ownBlock] at hk
      omega
    have HC := Lib.hid (expand_any (v := .slice A xs.length cap) hok.back (i + 1) i (by omega) Hin.out w5 w.heap.size _ 0 [] (((HSL.out.gr HG3.out).gr HG5.out)) hlow (Nat.le_trans HG4.out.size HG5.out.size) (by simpa using HO5.out) (by rw [← Hbs.out]; have := HM.out; omega))
    rw [← Hbs.out] at HC
    have f5 : w5.cell? ⟨w.heap.size, 0, none⟩ = some (.slice A xs.length cap) := (HG5.out.cell (p := ⟨w.heap.size, 0, none⟩) (Nat.lt_of_lt_of_le HB.out.lt HG3.out.size) (fun h => h)).trans fq
    have Hrun := Lib.hid hrun
    have H3 := Lib.hid (show w.heap.size < w3.heap.size from Nat.lt_of_lt_of_le HB.out.lt HG3.out.size)
    clear hrun hown5 hgr5
    refine wp_region_held_drew (S := fun wx => wx.cell? ⟨w.heap.size, 0, none⟩ = some (.slice A xs.length cap)) (by kernel_rfl) fq (fun hHeld => ?_)
    refine wpAnyH_take (i := 0) (v := (.agg #[.slice A xs.length cap])) rfl (by kernel_rfl) (by kernel_rfl) (by kernel_rfl) (fun _ _ _ h => h) (Or.inl ⟨by kernel_rfl, ?_⟩) (by with_reducible assumption) ?_
    focus (intro w hSw; (try dsimp only at hSw); go_simp)
    try simp only [Act.put, List.getElem_toArray, List.getElem_cons_succ, List.getElem_cons_zero, List.setIfInBounds_toArray, List.set_cons_zero, List.set_cons_succ]
    refine wpAnyH_take (i := 1) (v := (.int .i64 (i : Int))) rfl (by kernel_rfl) (by kernel_rfl) (by kernel_rfl) (fun _ _ _ h => h) (Or.inl ⟨by kernel_rfl, ?_⟩) (by with_reducible assumption) ?_
    focus (intro w hSw; (try dsimp only at hSw); go_simp)
    try simp only [Act.put, List.getElem_toArray, List.getElem_cons_succ, List.getElem_cons_zero, List.setIfInBounds_toArray, List.set_cons_zero, List.set_cons_succ]
    refine wpAnyH_take (i := 2) (v := (.int .i64 (bs.length : Int))) rfl (by kernel_rfl) (by kernel_rfl) (by kernel_rfl) (fun _ _ _ h => h) (Or.inl ⟨by kernel_rfl, ?_⟩) (by with_reducible assumption) ?_
    focus (intro w hSw; (try dsimp only at hSw); go_simp)
    try simp only [Act.put, List.getElem_toArray, List.getElem_cons_succ, List.getElem_cons_zero, List.setIfInBounds_toArray, List.set_cons_zero, List.set_cons_succ]
    refine wpAnyH_ready (rs := [3]) (by kernel_rfl) (by simp) ?_
    refine AllReadyH.cons rfl ?_ AllReadyH.nil
    intro K hK
    refine step_make (by rfl) (.const (.int .i64 0)) (.tmp 19) 37 (by rfl) (.int .i64 0) (.int .i64 (bs.length : Int)) (by rfl) (by rfl) _ _ Hrun.out ?_
    refine hK.out _ _ f5 (fun hHeld => ?_)
    clear hK K
    try simp only [Act.put, List.getElem_toArray, List.getElem_cons_succ, List.getElem_cons_zero, List.setIfInBounds_toArray, List.set_cons_zero, List.set_cons_succ]
    refine wpAnyH_ready (rs := [4]) (by kernel_rfl) (by simp) ?_
    refine AllReadyH.cons rfl ?_ AllReadyH.nil
    intro K hK
    go_simp
    go_at_call 38
    refine HC.out.mono ?_
    rintro e w6 ⟨tv, rfl, hx6⟩
    have HX6 := Lib.hid hx6
    have hown : ∀ k, (Value.slice (some ⟨w3.drew.heap.size, 0, none⟩) 0 bs.length).ownBlock = some k → k = w3.heap.size := by
      intro k hk
      simp [Value.ownBlock] at hk
      exact hk.symm
    have f6 : w6.cell? ⟨w.heap.size, 0, none⟩ = some (.slice A xs.length cap) := (hx6.2.1.cell (p := ⟨w.heap.size, 0, none⟩) (Nat.lt_of_lt_of_le H3.out HG5.out.size) (fun h => by have := hown _ h; have := H3.out; simp only at *; omega)).trans f5
    have HGr := Lib.hid (show Gr w w6 from (HG4.out.trans HG5.out (fun _ _ h => h)).trans hx6.2.1 (fun k hk h => by have := hown _ h; have := HG4.out.size; have := H3.out; omega))
    clear hx6 hown
    refine hK.out _ _ f6 (fun hHeld => ?_)
    clear hK K
    try simp only [Act.put, List.getElem_toArray, List.getElem_cons_succ, List.getElem_cons_zero, List.setIfInBounds_toArray, List.set_cons_zero, List.set_cons_succ]
    refine wpAnyH_take (i := 5) (v := tv) rfl (by kernel_rfl) (by kernel_rfl) (by kernel_rfl) (fun _ _ _ h => h) (Or.inl ⟨by kernel_rfl, ?_⟩) (by with_reducible assumption) ?_
    focus (intro w hSw; (try dsimp only at hSw); go_simp)
    try simp only [Act.put, List.getElem_toArray, List.getElem_cons_succ, List.getElem_cons_zero, List.setIfInBounds_toArray, List.set_cons_zero, List.set_cons_succ]
    refine wpAnyH_take (i := 6) (v := (.int .i64 0)) rfl (by kernel_rfl) (by kernel_rfl) (by kernel_rfl) (fun _ _ _ h => h) (Or.inl ⟨by kernel_rfl, ?_⟩) (by with_reducible assumption) ?_
    focus (intro w hSw; (try dsimp only at hSw); go_simp)
    try simp only [Act.put, List.getElem_toArray, List.getElem_cons_succ, List.getElem_cons_zero, List.setIfInBounds_toArray, List.set_cons_zero, List.set_cons_succ]
    refine wpAnyH_done (by kernel_rfl) ?_ _
    go_wp2_with fail
    go_ret2
    exact ⟨_, rfl, by have h := HX6.out.1; rw [Nat.zero_add, List.nil_append] at h; exact h, HGr.out, HX6.out.2.2.2 HSp5.out⟩
  · have H0 := Lib.hid h0
    go_wp2_with (go_at_call 27; rw [HXX.out]; refine HZ.out.mono ?_; rintro e w3 ⟨rfl, hg⟩; have HG3 := Lib.hid hg; clear hg)
    go_ret2
    exact ⟨_, rfl, by rw [HY.out H0.out]; exact World.ownsRow_nil _ _ _ _, HG.out.trans HG3.out (fun _ _ h => h), SpareT.nil _ _⟩
end Voc
end Go.Proofs.Ytdogccgebgdlmaa
