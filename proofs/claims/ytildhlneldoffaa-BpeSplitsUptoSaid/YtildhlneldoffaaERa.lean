/- the reference's Tokens and Begin. -/
import Derived.Test.YtildhlneldoffaaEWb
import Derived.Test.YtildhlneldoffaaFmay
set_option linter.unusedVariables false
set_option linter.unusedSimpArgs false
namespace Go.Proofs.Ytildhlneldoffaa
open Go.RowKit
open Voc
namespace Bpe
theorem encI_1 : ∀ x : Int, ∀ u ∈ encI x, u.oneCell' = true := by intro x u hu; simp [encI] at hu; subst hu; rfl
set_option maxRecDepth 20000 in
set_option maxHeartbeats 1600000 in
theorem tokens_any {w : World} {v : Value} {xs : List Pc} (HS : SL encP w v xs) (hw : ∀ q ∈ xs, wfP q) (hl : xs.length ≤ 1048576) :
    Calls Try.prog 48 #[.agg #[v]] w fun e w' => ∃ g, e = .returned (.slice (some ⟨g, 0, none⟩) 256 256) ∧ Blk w' g TI (ic (tabs xs)) ∧ Gr w w' := by
  obtain ⟨i0, hi0, hz0, hz1, hz2⟩ := info_parts info_int
  obtain ⟨A, cap, rfl⟩ := SL.form HS
  have HS1 := Lib.hid HS
  have HW := Lib.hid hw
  have hli : (xs.length : Int) ≤ 1048576 := by omega
  obtain ⟨z, hz⟩ : ∃ z, ic (List.replicate 256 0) = z := ⟨_, rfl⟩
  have hmk : ∀ w : World, (Instr.makeSlice 28 (.int .i64 256) (.int .i64 256)).run Try.prog w = .ok (.slice (some ⟨w.heap.size, 0, none⟩) 256 256) (w.alloc (.cells z TI)) := fun w => by
    have h := run_make (P := Try.prog) w 28 TI i0 (.int .i64 0) Try.underlying28 hi0 hz0 .i64 .i64 (256 : Nat) (256 : Nat) (by omega) (by omega) (by rw [hz2]; omega) (by omega)
    rw [made_i i0 hz1, hz] at h
    exact h
  have Hz := Lib.hid hz
  clear HS hw hl hi0 hz0 hz1 hz2 hz
  go_enter Try.func48, Try.ntmps48
  go_upto_region 2 with (fail)
  have HG := Lib.hid (((Fr.refl w NoneS).alloc (.cells #[.slice A xs.length cap] 24)).alloc (.cells z TI))
  have HB := Lib.hid ((Blk.new w 24 #[.slice A xs.length cap]).alloc (.cells z TI))
  have HT := Lib.hid (show Blk ((w.alloc (.cells #[.slice A xs.length cap] 24)).alloc (.cells z TI)) (w.heap.size + 1) TI (ic bytes0) from by
    have h := Blk.new (w.alloc (.cells #[.slice A xs.length cap] 24)) TI z
    rw [show (w.alloc (.cells #[.slice A xs.length cap] 24)).heap.size = w.heap.size + 1 by simp] at h
    unfold bytes0
    rw [Hz.out]
    exact h)
  obtain ⟨q1, hq1⟩ : ∃ q, w.heap.size = q := ⟨_, rfl⟩
  rw [hq1] at HB HT ⊢
  obtain ⟨g, hg⟩ : ∃ g, q1 + 1 = g := ⟨_, rfl⟩
  rw [hg] at HT ⊢
  have Hq := Lib.hid (And.intro hq1 hg)
  clear hq1 hg hmk
  generalize World.alloc (World.alloc w _) _ = w1 at HG HB HT ⊢
  go_wp2_with fail
  go_loopg [4] (xs.length + 1) (fun m s4 wr => ∃ (k : Nat) (bs : List Int), s4 = .int .i64 k ∧ Hid (k ≤ xs.length ∧ xs.length - k < m) ∧ Hid (Blk wr g TI (ic bs) ∧ bs.length = 256 ∧ tabs xs = bytF bs k (xs.drop k) ∧ Gr w wr ∧ Blk wr q1 24 #[.slice A xs.length cap]))
  case atStart => exact ⟨0, bytes0, rfl, ⟨Nat.zero_le _, by omega⟩, HT.out, bytes0_len, rfl, HG.out, HB.out⟩
  case round =>
    obtain ⟨k, bs, rfl, HK, HP⟩ := hrel
    clear HT HB HG
    have f0 : wr.cell? ⟨q1, 0, none⟩ = some (.slice A xs.length cap) := by rw [HP.out.2.2.2.2.cell]; rfl
    by_cases hk : k < xs.length
    · obtain ⟨ba, oa, rfl, hba, hcell⟩ := (HS1.out.gr HP.out.2.2.2.1).at_ (s := 5) (fun _ => rfl) rfl hk
      have d0 := hcell 0 (by omega)
      have d1 := hcell 1 (by omega)
      clear hcell
      simp [encP] at d0 d1
      rw [← Nat.add_assoc] at d1
      have Hk := Lib.hid hk
      have Hxk := Lib.hid (show xs.drop k = xs[k]'hk :: xs.drop (k + 1) from List.drop_eq_getElem_cons hk)
      have Hwf := Lib.hid (HW.out _ (List.getElem_mem hk))
      clear hba
      generalize xs[k]'hk = q at d0 d1 Hxk Hwf
      obtain ⟨jj, bb, ll, rr, kk⟩ := q
      simp only at d0 d1
      have hki : (k : Int) < xs.length := by omega
      cases jj with
      | true =>
        go_wp2_with fail
        go_roundg (gk - 1)
        case measure => have := HK.out; have := Hk.out; omega
        case rel => exact ⟨k + 1, bs, by go_num, ⟨Hk.out, by have := HK.out; have := Hk.out; omega⟩, HP.out.1, HP.out.2.1, by rw [HP.out.2.2.1, Hxk.out]; simp only [bytF, if_true], HP.out.2.2.2⟩
      | false =>
        obtain ⟨ub, rfl⟩ : ∃ n : Nat, bb = n := ⟨bb.toNat, by have := u8_in Hwf.out.1; simp only at this; omega⟩
        have hub : (ub : Int) < 256 := by have := u8_in Hwf.out.1; simp only at this; omega
        have t2 : wr.cell? ⟨g, ub, none⟩ = some (.int .i64 (bs.getD ub 0)) := by rw [HP.out.1.cell, ic_at _ (by rw [HP.out.2.1]; omega)]
        have t3 := HP.out.1.frozen ub
        have hf : Fr wr (wr.setCell ⟨g, ub, none⟩ (.int .i64 (k : Int))) (fun k => k = g) := (Fr.refl _ (fun k => k = g)).setCell (p := ⟨g, ub, none⟩) (fun _ => rfl) _
        have HF := Lib.hid hf
        have HN := Lib.hid (show Blk (wr.setCell ⟨g, ub, none⟩ (.int .i64 (k : Int))) g TI (ic (bs.set ub (k : Int))) from by rw [← ic_set]; exact HP.out.1.set_ ub _)
        clear hf
        go_wp2_with fail
        go_roundg (gk - 1)
        case measure => have := HK.out; have := Hk.out; omega
        case rel => exact ⟨k + 1, _, by go_num, ⟨Hk.out, by have := HK.out; have := Hk.out; omega⟩, HN.out, by rw [List.length_set]; exact HP.out.2.1, by rw [HP.out.2.2.1, Hxk.out]; simp only [bytF, Bool.false_eq_true, if_false, Int.toNat_natCast], HP.out.2.2.2.1.trans HF.out (fun i hi e => by have := Hq.out; omega), HP.out.2.2.2.2.fr HF.out (by have := Hq.out; omega)⟩
    · have Hk := Lib.hid (show k = xs.length by have := HK.out; omega)
      go_wp2_with fail
      go_ret
      have h := HP.out.2.2.1
      rw [Hk.out, List.drop_length] at h
      exact ⟨g, rfl, by rw [h]; exact HP.out.1, HP.out.2.2.2.1⟩
set_option maxRecDepth 20000 in
set_option maxHeartbeats 1600000 in
theorem rbegin_any {w : World} {v vb : Value} {xs : List Pc} {bs : List Int} (HS : SL encP w v xs) (HV : SL encB w vb bs) (hw : ∀ q ∈ xs, wfP q) (hb : ∀ c ∈ bs, 0 ≤ c ∧ c < 256) (hl : xs.length ≤ 1048576) :
    Calls Try.prog 24 #[.agg #[v], vb] w fun e w' => ∃ r, e = .returned (.tuple #[r, .int .i64 (beginE xs bs).2]) ∧ OI w' w.heap.size r (beginE xs bs).1 ∧ Gr w w' := by
  obtain ⟨A, cap, rfl⟩ := SL.form HS
  obtain ⟨A2, cap2, rfl⟩ := SL.form HV
  have HG := Lib.hid ((Fr.refl w NoneS).alloc (.cells #[.slice A xs.length cap] 24))
  have HB := Lib.hid (Blk.new w 24 #[.slice A xs.length cap])
  have HS1 := Lib.hid (HS.gr HG.out)
  have HV0 := Lib.hid HV
  have Hw := Lib.hid hw
  have Hb := Lib.hid hb
  have Hl := Lib.hid hl
  obtain ⟨⟨L, E⟩, hE⟩ : ∃ y, beginE xs bs = y := ⟨_, rfl⟩
  rw [hE]
  have HE := Lib.hid hE
  obtain ⟨bm, hbm⟩ : ∃ b, decide ((checkE xs).1 = 0) = b := ⟨_, rfl⟩
  have HM := Lib.hid (may_any HS1.out hw hl bm hbm)
  have Hbm := Lib.hid hbm
  obtain ⟨q1, hq1⟩ : ∃ q, w.heap.size = q := ⟨_, rfl⟩
  rw [hq1] at HB
  have Hq1 := Lib.hid hq1
  clear HS HV hw hb hl hE hbm
  go_enter Try.func24, Try.ntmps24
  go_upto_region 1 with (fail)
  clear hq1
  generalize World.alloc w _ = wa at HG HB HS1 HM ⊢
  have f0 : wa.cell? ⟨q1, 0, none⟩ = some (.slice A xs.length cap) := by rw [HB.out.cell]; rfl
  cases bm with
  | false =>
    have he := HE.out
    unfold beginE at he
    rw [if_pos (of_decide_eq_false Hbm.out)] at he
    injection he with e1 e2
    subst e1 e2
    go_wp2_with (go_at_call 47; refine HM.out.mono ?_; rintro e w3 ⟨rfl, hg⟩; have HG3 := Lib.hid hg; clear hg)
    go_ret2
    exact ⟨_, rfl, OI.nil _ _, HG.out.trans HG3.out (fun _ _ h => h)⟩
  | true =>
    have Hc := Lib.hid (of_decide_eq_true Hbm.out)
    by_cases h4 : 4096 < bs.length
    · have h4i : (4096 : Int) < bs.length := by omega
      have he := HE.out
      unfold beginE at he
      rw [if_neg (by rw [Hc.out]; decide), if_pos h4] at he
      injection he with e1 e2
      subst e1 e2
      clear h4
      go_wp2_with (go_at_call 47; refine HM.out.mono ?_; rintro e w3 ⟨rfl, hg⟩; have HG3 := Lib.hid hg; clear hg)
      go_ret2
      exact ⟨_, rfl, OI.nil _ _, HG.out.trans HG3.out (fun _ _ h => h)⟩
    · have h4i : ¬ (4096 : Int) < bs.length := by omega
      have hbl : (bs.length : Int) ≤ 4096 := by omega
      have he := HE.out
      unfold beginE at he
      rw [if_neg (by rw [Hc.out]; decide), if_neg h4] at he
      injection he with e1 e2
      have He1 := Lib.hid e1
      subst e2
      have HX := Lib.hid (good_of Hc.out)
      have HT := Lib.hid (fun wx (hg : Gr wa wx) => tokens_any (HS1.out.gr hg) Hw.out Hl.out)
      obtain ⟨i1, hi1, hx0, hx1, hx2⟩ := info_parts info_int
      clear h4 e1
      go_upto_region 5 with (go_at_call 47; refine HM.out.mono ?_; rintro e w3 ⟨rfl, hg⟩; have HG3 := Lib.hid hg; have f3 := (hg.cell (p := ⟨q1, 0, none⟩) HB.out.lt (fun h => h)).trans f0; clear hg)
      go_upto_region 6 with (go_at_call 48; refine (HT.out _ HG3.out).mono ?_; rintro e w4 ⟨g, rfl, hbk, hg⟩; have HT4 := Lib.hid hbk; have HG4 := Lib.hid ((HG.out.trans HG3.out (fun _ _ h => h)).trans hg (fun _ _ h => h)); clear hbk hg)
      clear f0 f3
      go_wp2_with fail
      go_loopg [7, 8] (bs.length + 1) (fun m s7 s8 wr => ∃ (k : Nat) (v : Value), v = s7 ∧ s8 = .int .i64 k ∧ Hid (k ≤ bs.length ∧ bs.length - k < m) ∧ Hid (Gr w4 wr ∧ OI wr w4.heap.size v (row0 xs (bs.take k))))
      case atStart => exact ⟨0, .slice none 0 0, rfl, rfl, ⟨Nat.zero_le _, by omega⟩, Fr.refl _ _, OI.nil _ _⟩
      case round =>
        obtain ⟨k, v, rfl, rfl, HK, HP⟩ := hrel
        by_cases hk : k < bs.length
        · obtain ⟨ba, oa, rfl, hba, hcell⟩ := (HV0.out.gr (HG4.out.trans HP.out.1 (fun _ _ h => h))).at_ (s := 1) (fun _ => rfl) rfl hk
          have d0 := hcell 0 (by omega)
          simp [encB] at d0
          obtain ⟨u, hu⟩ : ∃ n : Nat, bs[k]'hk = n := ⟨(bs[k]'hk).toNat, by have := (Hb.out _ (List.getElem_mem hk)).1; omega⟩
          have hub : (u : Int) < 256 := by rw [← hu]; exact (Hb.out _ (List.getElem_mem hk)).2
          rw [hu] at d0
          have t0 : wr.cell? ⟨g, u, none⟩ = some (.int .i64 (tokF (u : Int) xs : Nat)) := by
            rw [(HT4.out.fr HP.out.1 (fun h => h)).cell, ic_at _ (by rw [tabs_len]; omega)]
            have := (tabs_good HX.out Hw.out (u : Int) (by omega) hub).1
            rw [Int.toNat_natCast] at this
            rw [this]
          have Hrow := Lib.hid (show row0 xs (bs.take (k + 1)) = row0 xs (bs.take k) ++ [((tokF (u : Int) xs : Nat) : Int)] by
            unfold row0
            rw [List.take_succ_eq_append_getElem hk, List.map_append, hu]; rfl)
          have Hml := Lib.hid (show (row0 xs (bs.take k)).length ≤ 4096 by rw [row0_len, List.length_take]; omega)
          have hki : (k : Int) < bs.length := by omega
          have Hk := Lib.hid hk
          clear hcell hba hu hk
          generalize ((tokF (u : Int) xs : Nat) : Int) = tk at t0 Hrow
          generalize row0 xs (bs.take k) = l at HP Hrow Hml
          go_wp2_with (
            at_builtin
            refine wpList_append_st _ encI rfl (.tmp 23) (.tmp 31) 28 rfl w4.heap.size TI i1 (.int .i64 0) 1 8 Try.underlying28 hi1 hx0 hx1 hx2 rfl (by decide) v l.length _ rfl (HP.out.2.own.alloc _) (.slice (some ⟨wr.heap.size, 0, none⟩) 1 1) [tk] rfl (sl_one (enc := encI) wr tk #[.int .i64 tk] rfl TI) (fun _ => rfl) encI_1 (by have := Hml.out; simp only [maxLen, List.length_singleton]; omega) (by have := Hml.out; simp only [List.length_singleton]; omega) (Nat.le_trans HP.out.1.size (by simp)) ?_
            intro v3 w3 hown3 hg3 hat3 hsp3
            rw [← List.flatMap_append] at hown3
            obtain ⟨A3, cap3, rfl⟩ := own_formN hown3
            have HO3 := Lib.hid (show OI w3 w4.heap.size (.slice A3 (l.length + 1) cap3) (l ++ [tk]) from ⟨by rw [List.length_append, List.length_singleton]; exact hown3, hsp3 IsI (fun u hu => by simp [Value.cells] at hu; subst hu; exact ⟨0, rfl⟩) (fun u hu => by simp [encI] at hu; subst hu; exact ⟨tk, rfl⟩) (HP.out.2.spare.own HP.out.2.own ((Fr.refl wr NoneS).alloc _) (fun _ _ h => h))⟩)
            have HG3' := Lib.hid (show Gr w4 w3 from (HP.out.1.alloc (.cells #[.int .i64 tk] TI)).trans hg3 (fun i hi e => by have := (HP.out.2.own.lt i e).1; omega))
            clear hown3 hg3 hat3 hsp3)
          go_roundg (gk - 1)
          case measure => have := HK.out; have := Hk.out; omega
          case rel => exact ⟨k + 1, _, rfl, by go_num, ⟨Hk.out, by have := HK.out; have := Hk.out; omega⟩, HG3'.out, by rw [Hrow.out]; exact HO3.out⟩
        · have Hk := Lib.hid (show k = bs.length by have := HK.out; omega)
          go_wp2_with fail
          go_ret2
          refine ⟨v, rfl, ?_, HG4.out.trans HP.out.1 (fun _ _ h => h)⟩
          have h := HP.out.2
          rw [Hk.out, List.take_of_length_le (Nat.le_refl _), He1.out] at h
          exact h.base HG4.out.size
end Bpe
end Go.Proofs.Ytildhlneldoffaa
