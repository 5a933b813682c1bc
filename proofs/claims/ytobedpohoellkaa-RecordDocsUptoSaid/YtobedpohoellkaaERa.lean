/- the reference's Tokens and Begin. the reference's Find. the reference's joined and step. the reference's step. the reference's Encode. the reference's vocab: bytes, Expand. the reference's Decode. -/
import Derived.Test.YtobedpohoellkaaEWb
import Derived.Test.YtobedpohoellkaaVRa
import Derived.Test.YtobedpohoellkaaVTa
import Derived.Test.YtobedpohoellkaaEPa
import Derived.StillTailTactics
import Derived.Deep.DeepCutAuto
import Derived.Test.YtobedpohoellkaaEWg
set_option linter.unusedVariables false
set_option linter.unusedSimpArgs false
namespace Go.Proofs.Ytobedpohoellkaa
open Go.RowKit
open Voc
namespace Bpe
theorem encI_1 : ∀ x : Int, ∀ u ∈ encI x, u.oneCell' = true := by intro x u hu; simp [encI] at hu; subst hu; rfl
set_option maxRecDepth 20000 in
set_option maxHeartbeats 1600000 in
theorem tokens_any {w : World} {v : Value} {xs : List Pc} (HS : SL encP w v xs) (hw : ∀ q ∈ xs, wfP q) (hl : xs.length ≤ 1048576) :
    Calls Try.prog 86 #[.agg #[v]] w fun e w' => ∃ g, e = .returned (.slice (some ⟨g, 0, none⟩) 256 256) ∧ Blk w' g TI (ic (tabs xs)) ∧ Gr w w' := by
  obtain ⟨i0, hi0, hz0, hz1, hz2⟩ := info_parts info_int
  obtain ⟨A, cap, rfl⟩ := SL.form HS
  have HS1 := Lib.hid HS
  have HW := Lib.hid hw
  have hli : (xs.length : Int) ≤ 1048576 := by omega
  obtain ⟨z, hz⟩ : ∃ z, ic (List.replicate 256 0) = z := ⟨_, rfl⟩
  have hmk : ∀ w : World, (Instr.makeSlice 25 (.int .i64 256) (.int .i64 256)).run Try.prog w = .ok (.slice (some ⟨w.heap.size, 0, none⟩) 256 256) (w.alloc (.cells z TI)) := fun w => by
    have h := run_make (P := Try.prog) w 25 TI i0 (.int .i64 0) Try.underlying25 hi0 hz0 .i64 .i64 (256 : Nat) (256 : Nat) (by omega) (by omega) (by rw [hz2]; omega) (by omega)
    rw [made_i i0 hz1, hz] at h
    exact h
  have Hz := Lib.hid hz
  clear HS hw hl hi0 hz0 hz1 hz2 hz
  go_enter Try.func86, Try.ntmps86
  go_upto_region 2 with (fail)
  have HG := Lib.hid (((Fr.refl w NoneS).alloc (.cells #[.slice A xs.length cap] 41)).alloc (.cells z TI))
  have HB := Lib.hid ((Blk.new w 41 #[.slice A xs.length cap]).alloc (.cells z TI))
  have HT := Lib.hid (show Blk ((w.alloc (.cells #[.slice A xs.length cap] 41)).alloc (.cells z TI)) (w.heap.size + 1) TI (ic bytes0) from by
    have h := Blk.new (w.alloc (.cells #[.slice A xs.length cap] 41)) TI z
    rw [show (w.alloc (.cells #[.slice A xs.length cap] 41)).heap.size = w.heap.size + 1 by simp] at h
    unfold bytes0
    rw [Hz.out]
    exact h)
  obtain ⟨q1, hq1⟩ : ∃ q, w.heap.size = q := ⟨_, rfl⟩
  rw [hq1] at HB HT ⊢
  obtain ⟨g, hg⟩ : ∃ g, q1 + 1 = g := ⟨_, rfl⟩
  rw [hg] at HT ⊢
  have Hq := Lib.hid (And.intro hq1 hg)
  clear hq1 hg hmk
  generalize World.alloc (World.alloc w _) _ = w1 at HG HB HT ⊢
  go_wp2_with fail
  go_loopg [4] (xs.length + 1) (fun m s4 wr => ∃ (k : Nat) (bs : List Int), s4 = .int .i64 k ∧ Hid (k ≤ xs.length ∧ xs.length - k < m) ∧ Hid (Blk wr g TI (ic bs) ∧ bs.length = 256 ∧ tabs xs = bytF bs k (xs.drop k) ∧ Gr w wr ∧ Blk wr q1 41 #[.slice A xs.length cap]))
  case atStart => exact ⟨0, bytes0, rfl, ⟨Nat.zero_le _, by omega⟩, HT.out, bytes0_len, rfl, HG.out, HB.out⟩
  case round =>
    obtain ⟨k, bs, rfl, HK, HP⟩ := hrel
    clear HT HB HG
    have f0 : wr.cell? ⟨q1, 0, none⟩ = some (.slice A xs.length cap) := by rw [HP.out.2.2.2.2.cell]; rfl
    by_cases hk : k < xs.length
    · obtain ⟨ba, oa, rfl, hba, hcell⟩ := (HS1.out.gr HP.out.2.2.2.1).at_ (s := 5) (fun _ => rfl) rfl hk
      have d0 := hcell 0 (by omega)
      have d1 := hcell 1 (by omega)
      clear hcell
      simp [encP] at d0 d1
      rw [← Nat.add_assoc] at d1
      have Hk := Lib.hid hk
      have Hxk := Lib.hid (show xs.drop k = xs[k]'hk :: xs.drop (k + 1) from List.drop_eq_getElem_cons hk)
      have Hwf := Lib.hid (HW.out _ (List.getElem_mem hk))
      clear hba
      generalize xs[k]'hk = q at d0 d1 Hxk Hwf
      obtain ⟨jj, bb, ll, rr, kk⟩ := q
      simp only at d0 d1
      have hki : (k : Int) < xs.length := by omega
      cases jj with
      | true =>
        go_wp2_with fail
        go_roundg (gk - 1)
        case measure => have := HK.out; have := Hk.out; omega
        case rel => exact ⟨k + 1, bs, by go_num, ⟨Hk.out, by have := HK.out; have := Hk.out; omega⟩, HP.out.1, HP.out.2.1, by rw [HP.out.2.2.1, Hxk.out]; simp only [bytF, if_true], HP.out.2.2.2⟩
      | false =>
        obtain ⟨ub, rfl⟩ : ∃ n : Nat, bb = n := ⟨bb.toNat, by have := u8_in Hwf.out.1; simp only at this; omega⟩
        have hub : (ub : Int) < 256 := by have := u8_in Hwf.out.1; simp only at this; omega
        have t2 : wr.cell? ⟨g, ub, none⟩ = some (.int .i64 (bs.getD ub 0)) := by rw [HP.out.1.cell, ic_at _ (by rw [HP.out.2.1]; omega)]
        have t3 := HP.out.1.frozen ub
        have hf : Fr wr (wr.setCell ⟨g, ub, none⟩ (.int .i64 (k : Int))) (fun k => k = g) := (Fr.refl _ (fun k => k = g)).setCell (p := ⟨g, ub, none⟩) (fun _ => rfl) _
        have HF := Lib.hid hf
        have HN := Lib.hid (show Blk (wr.setCell ⟨g, ub, none⟩ (.int .i64 (k : Int))) g TI (ic (bs.set ub (k : Int))) from by rw [← ic_set]; exact HP.out.1.set_ ub _)
        clear hf
        go_wp2_with fail
        go_roundg (gk - 1)
        case measure => have := HK.out; have := Hk.out; omega
        case rel => exact ⟨k + 1, _, by go_num, ⟨Hk.out, by have := HK.out; have := Hk.out; omega⟩, HN.out, by rw [List.length_set]; exact HP.out.2.1, by rw [HP.out.2.2.1, Hxk.out]; simp only [bytF, Bool.false_eq_true, if_false, Int.toNat_natCast], HP.out.2.2.2.1.trans HF.out (fun i hi e => by have := Hq.out; omega), HP.out.2.2.2.2.fr HF.out (by have := Hq.out; omega)⟩
    · have Hk := Lib.hid (show k = xs.length by have := HK.out; omega)
      go_wp2_with fail
      go_ret
      have h := HP.out.2.2.1
      rw [Hk.out, List.drop_length] at h
      exact ⟨g, rfl, by rw [h]; exact HP.out.1, HP.out.2.2.2.1⟩
set_option maxRecDepth 20000 in
set_option maxHeartbeats 1600000 in
theorem rbegin_any {w : World} {v vb : Value} {xs : List Pc} {bs : List Int} (HS : SL encP w v xs) (HV : SL encB w vb bs) (hw : ∀ q ∈ xs, wfP q) (hb : ∀ c ∈ bs, 0 ≤ c ∧ c < 256) (hl : xs.length ≤ 1048576) :
    Calls Try.prog 68 #[.agg #[v], vb] w fun e w' => ∃ r, e = .returned (.tuple #[r, .int .i64 (beginE xs bs).2]) ∧ OI w' w.heap.size r (beginE xs bs).1 ∧ Gr w w' := by
  obtain ⟨A, cap, rfl⟩ := SL.form HS
  obtain ⟨A2, cap2, rfl⟩ := SL.form HV
  have HG := Lib.hid ((Fr.refl w NoneS).alloc (.cells #[.slice A xs.length cap] 41))
  have HB := Lib.hid (Blk.new w 41 #[.slice A xs.length cap])
  have HS1 := Lib.hid (HS.gr HG.out)
  have HV0 := Lib.hid HV
  have Hw := Lib.hid hw
  have Hb := Lib.hid hb
  have Hl := Lib.hid hl
  obtain ⟨⟨L, E⟩, hE⟩ : ∃ y, beginE xs bs = y := ⟨_, rfl⟩
  rw [hE]
  have HE := Lib.hid hE
  obtain ⟨bm, hbm⟩ : ∃ b, decide ((checkE xs).1 = 0) = b := ⟨_, rfl⟩
  have HM := Lib.hid (may_any HS1.out hw hl bm hbm)
  have Hbm := Lib.hid hbm
  obtain ⟨q1, hq1⟩ : ∃ q, w.heap.size = q := ⟨_, rfl⟩
  rw [hq1] at HB
  have Hq1 := Lib.hid hq1
  clear HS HV hw hb hl hE hbm
  go_enter Try.func68, Try.ntmps68
  go_upto_region 1 with (fail)
  clear hq1
  generalize World.alloc w _ = wa at HG HB HS1 HM ⊢
  have f0 : wa.cell? ⟨q1, 0, none⟩ = some (.slice A xs.length cap) := by rw [HB.out.cell]; rfl
  cases bm with
  | false =>
    have he := HE.out
    unfold beginE at he
    rw [if_pos (of_decide_eq_false Hbm.out)] at he
    injection he with e1 e2
    subst e1 e2
    go_wp2_with (go_at_call 44; refine HM.out.mono ?_; rintro e w3 ⟨rfl, hg⟩; have HG3 := Lib.hid hg; clear hg)
    go_ret2
    exact ⟨_, rfl, OI.nil _ _, HG.out.trans HG3.out (fun _ _ h => h)⟩
  | true =>
    have Hc := Lib.hid (of_decide_eq_true Hbm.out)
    by_cases h4 : 4096 < bs.length
    · have h4i : (4096 : Int) < bs.length := by omega
      have he := HE.out
      unfold beginE at he
      rw [if_neg (by rw [Hc.out]; decide), if_pos h4] at he
      injection he with e1 e2
      subst e1 e2
      clear h4
      go_wp2_with (go_at_call 44; refine HM.out.mono ?_; rintro e w3 ⟨rfl, hg⟩; have HG3 := Lib.hid hg; clear hg)
      go_ret2
      exact ⟨_, rfl, OI.nil _ _, HG.out.trans HG3.out (fun _ _ h => h)⟩
    · have h4i : ¬ (4096 : Int) < bs.length := by omega
      have hbl : (bs.length : Int) ≤ 4096 := by omega
      have he := HE.out
      unfold beginE at he
      rw [if_neg (by rw [Hc.out]; decide), if_neg h4] at he
      injection he with e1 e2
      have He1 := Lib.hid e1
      subst e2
      have HX := Lib.hid (good_of Hc.out)
      have HT := Lib.hid (fun wx (hg : Gr wa wx) => tokens_any (HS1.out.gr hg) Hw.out Hl.out)
      obtain ⟨i1, hi1, hx0, hx1, hx2⟩ := info_parts info_int
      clear h4 e1
      go_upto_region 5 with (go_at_call 44; refine HM.out.mono ?_; rintro e w3 ⟨rfl, hg⟩; have HG3 := Lib.hid hg; have f3 := (hg.cell (p := ⟨q1, 0, none⟩) HB.out.lt (fun h => h)).trans f0; clear hg)
      go_upto_region 6 with (go_at_call 86; refine (HT.out _ HG3.out).mono ?_; rintro e w4 ⟨g, rfl, hbk, hg⟩; have HT4 := Lib.hid hbk; have HG4 := Lib.hid ((HG.out.trans HG3.out (fun _ _ h => h)).trans hg (fun _ _ h => h)); clear hbk hg)
      clear f0 f3
      go_wp2_with fail
      go_loopg [7, 8] (bs.length + 1) (fun m s7 s8 wr => ∃ (k : Nat) (v : Value), v = s7 ∧ s8 = .int .i64 k ∧ Hid (k ≤ bs.length ∧ bs.length - k < m) ∧ Hid (Gr w4 wr ∧ OI wr w4.heap.size v (row0 xs (bs.take k))))
      case atStart => exact ⟨0, .slice none 0 0, rfl, rfl, ⟨Nat.zero_le _, by omega⟩, Fr.refl _ _, OI.nil _ _⟩
      case round =>
        obtain ⟨k, v, rfl, rfl, HK, HP⟩ := hrel
        by_cases hk : k < bs.length
        · obtain ⟨ba, oa, rfl, hba, hcell⟩ := (HV0.out.gr (HG4.out.trans HP.out.1 (fun _ _ h => h))).at_ (s := 1) (fun _ => rfl) rfl hk
          have d0 := hcell 0 (by omega)
          simp [encB] at d0
          obtain ⟨u, hu⟩ : ∃ n : Nat, bs[k]'hk = n := ⟨(bs[k]'hk).toNat, by have := (Hb.out _ (List.getElem_mem hk)).1; omega⟩
          have hub : (u : Int) < 256 := by rw [← hu]; exact (Hb.out _ (List.getElem_mem hk)).2
          rw [hu] at d0
          have t0 : wr.cell? ⟨g, u, none⟩ = some (.int .i64 (tokF (u : Int) xs : Nat)) := by
            rw [(HT4.out.fr HP.out.1 (fun h => h)).cell, ic_at _ (by rw [tabs_len]; omega)]
            have := (tabs_good HX.out Hw.out (u : Int) (by omega) hub).1
            rw [Int.toNat_natCast] at this
            rw [this]
          have Hrow := Lib.hid (show row0 xs (bs.take (k + 1)) = row0 xs (bs.take k) ++ [((tokF (u : Int) xs : Nat) : Int)] by
            unfold row0
            rw [List.take_succ_eq_append_getElem hk, List.map_append, hu]; rfl)
          have Hml := Lib.hid (show (row0 xs (bs.take k)).length ≤ 4096 by rw [row0_len, List.length_take]; omega)
          have hki : (k : Int) < bs.length := by omega
          have Hk := Lib.hid hk
          clear hcell hba hu hk
          generalize ((tokF (u : Int) xs : Nat) : Int) = tk at t0 Hrow
          generalize row0 xs (bs.take k) = l at HP Hrow Hml
          go_wp2_with (
            at_builtin
            refine wpList_append_st _ encI rfl (.tmp 23) (.tmp 31) 25 rfl w4.heap.size TI i1 (.int .i64 0) 1 8 Try.underlying25 hi1 hx0 hx1 hx2 rfl (by decide) v l.length _ rfl (HP.out.2.own.alloc _) (.slice (some ⟨wr.heap.size, 0, none⟩) 1 1) [tk] rfl (sl_one (enc := encI) wr tk #[.int .i64 tk] rfl TI) (fun _ => rfl) encI_1 (by have := Hml.out; simp only [maxLen, List.length_singleton]; omega) (by have := Hml.out; simp only [List.length_singleton]; omega) (Nat.le_trans HP.out.1.size (by simp)) ?_
            intro v3 w3 hown3 hg3 hat3 hsp3
            rw [← List.flatMap_append] at hown3
            obtain ⟨A3, cap3, rfl⟩ := own_formN hown3
            have HO3 := Lib.hid (show OI w3 w4.heap.size (.slice A3 (l.length + 1) cap3) (l ++ [tk]) from ⟨by rw [List.length_append, List.length_singleton]; exact hown3, hsp3 IsI (fun u hu => by simp [Value.cells] at hu; subst hu; exact ⟨0, rfl⟩) (fun u hu => by simp [encI] at hu; subst hu; exact ⟨tk, rfl⟩) (HP.out.2.spare.own HP.out.2.own ((Fr.refl wr NoneS).alloc _) (fun _ _ h => h))⟩)
            have HG3' := Lib.hid (show Gr w4 w3 from (HP.out.1.alloc (.cells #[.int .i64 tk] TI)).trans hg3 (fun i hi e => by have := (HP.out.2.own.lt i e).1; omega))
            clear hown3 hg3 hat3 hsp3)
          go_roundg (gk - 1)
          case measure => have := HK.out; have := Hk.out; omega
          case rel => exact ⟨k + 1, _, rfl, by go_num, ⟨Hk.out, by have := HK.out; have := Hk.out; omega⟩, HG3'.out, by rw [Hrow.out]; exact HO3.out⟩
        · have Hk := Lib.hid (show k = bs.length by have := HK.out; omega)
          go_wp2_with fail
          go_ret2
          refine ⟨v, rfl, ?_, HG4.out.trans HP.out.1 (fun _ _ h => h)⟩
          have h := HP.out.2
          rw [Hk.out, List.take_of_length_le (Nat.le_refl _), He1.out] at h
          exact h.base HG4.out.size
end Bpe
end Go.Proofs.Ytobedpohoellkaa

namespace Go.Proofs.Ytobedpohoellkaa
open Go.RowKit
namespace Voc
set_option maxRecDepth 20000 in
set_option maxHeartbeats 1600000 in
theorem rfind_any {w : World} {v : Value} {xs : List Pc} (l r : Int) (HS : SL encP w v xs) (hl : xs.length ≤ 1048576) :
    Calls Try.prog 87 #[.agg #[v], .int .i64 l, .int .i64 r] w fun e w' => e = .returned (.tuple #[.int .i64 (fndV (fndF l r xs)), .bool (fndF l r xs).isSome]) ∧ Gr w w' := by
  obtain ⟨A, cap, rfl⟩ := SL.form HS
  have HG := Lib.hid ((Fr.refl w NoneS).alloc (.cells #[.slice A xs.length cap] 41))
  have HB := Lib.hid (Blk.new w 41 #[.slice A xs.length cap])
  have HS1 := Lib.hid HS
  have hl' : (xs.length : Int) ≤ 1048576 := by omega
  have Hlt := Lib.hid (fndF_lt (l := l) (r := r) xs)
  have Hsm := Lib.hid (fndF_some (l := l) (r := r) xs)
  generalize fndF l r xs = F at Hlt Hsm ⊢
  clear HS hl
  go_enter Try.func87, Try.ntmps87
  go_upto_region 1 with (fail)
  generalize World.alloc w _ = w1 at HB HG ⊢
  obtain ⟨q, hq⟩ : ∃ q, w.heap.size = q := ⟨_, rfl⟩
  rw [hq] at HB ⊢
  clear hq
  have HSL := Lib.hid (HS1.out.gr HG.out)
  go_wp2_with fail
  go_loopg [8] (xs.length + 1) (fun m s8 wr => ∃ k : Nat, s8 = .int .i64 k ∧ Hid (Gr w1 wr) ∧ Hid (k ≤ xs.length ∧ xs.length - k < m ∧ ∀ i, F = some i → k ≤ i))
  case atStart => exact ⟨0, rfl, Fr.refl _ _, Nat.zero_le _, by omega, fun _ _ => Nat.zero_le _⟩
  case round =>
    obtain ⟨k, rfl, HD, HK⟩ := hrel
    have c0 : wr.cell? ⟨q, 0, none⟩ = some (.slice A xs.length cap) := by rw [(HB.out.fr HD.out (fun h => h)).cell]; rfl
    by_cases hk : k < xs.length
    · obtain ⟨b1, o1, rfl, _, hc1⟩ := (HSL.out.gr HD.out).at_ (s := 5) (fun _ => rfl) rfl hk
      have x0 := hc1 0 (by omega)
      have x1 := hc1 1 (by omega)
      have x2 := hc1 2 (by omega)
      have x3 := hc1 3 (by omega)
      have x4 := hc1 4 (by omega)
      clear hc1
      have G1 := Lib.hid (List.getElem?_eq_getElem hk)
      generalize xs[k] = x at x0 x1 x2 x3 x4 G1
      obtain ⟨j1, p1, l1, r1, k1⟩ := x
      simp [encP] at x0 x1 x2 x3 x4
      rw [← Nat.add_assoc] at x1 x2 x3 x4
      have hki : (k : Int) < xs.length := by omega
      have Hk := Lib.hid hk
      clear hk
      by_cases hm : j1 = true ∧ l1 = l ∧ r1 = r
      · obtain ⟨rfl, rfl, rfl⟩ := hm
        have HFk : F = some k := by
          apply Decidable.byContradiction
          intro hne
          refine Hlt.out k _ (fun i hi => ?_) G1.out ⟨rfl, rfl, rfl⟩
          have := HK.out.2.2 i hi
          rcases Nat.lt_or_eq_of_le this with h | h
          · exact h
          · subst h; exact absurd hi hne
        subst HFk
        go_wp2_with fail
        go_ret2
        exact ⟨rfl, HG.out.trans (HD.out.alloc _) (fun _ _ h => h)⟩
      · have Hno := Lib.hid hm
        have Hnx := Lib.hid (show ∀ i, F = some i → k + 1 ≤ i from fun i hi => by
          have h1 := HK.out.2.2 i hi
          rcases Nat.lt_or_eq_of_le h1 with h | h
          · exact h
          · subst h
            obtain ⟨q', h2, h3⟩ := Hsm.out _ hi
            have := G1.out.symm.trans h2
            injection this with this
            subst this
            exact absurd h3 Hno.out)
        cases j1 with
        | false =>
          clear hm
          go_wp2_with fail
          go_roundg (gk - 1)
          case measure => have := HK.out; omega
          case rel => exact ⟨k + 1, by go_num, HD.out.alloc _, by have := Hk.out; omega, by have := HK.out; omega, Hnx.out⟩
        | true =>
          by_cases hl1 : l1 = l
          · subst hl1
            have hne : (r1 == r) = false := beq_eq_false_iff_ne.2 (fun e => hm ⟨rfl, rfl, e⟩)
            clear hm
            go_wp2_with fail
            go_roundg (gk - 1)
            case measure => have := HK.out; omega
            case rel => exact ⟨k + 1, by go_num, HD.out.alloc _, by have := Hk.out; omega, by have := HK.out; omega, Hnx.out⟩
          · have hne : (l1 == l) = false := beq_eq_false_iff_ne.2 hl1
            clear hm hl1
            go_wp2_with fail
            go_roundg (gk - 1)
            case measure => have := HK.out; omega
            case rel => exact ⟨k + 1, by go_num, HD.out.alloc _, by have := Hk.out; omega, by have := HK.out; omega, Hnx.out⟩
    · have hkk : decide ((k : Int) < xs.length) = false := decide_eq_false (by omega)
      have HFn : F = none := by
        cases F with
        | none => rfl
        | some i =>
          exfalso
          obtain ⟨q', h2, _⟩ := Hsm.out i rfl
          have h3 := (List.getElem?_eq_some_iff.1 h2).1
          have := HK.out.2.2 i rfl
          omega
      subst HFn
      go_wp2_with fail
      go_ret2
      exact ⟨rfl, HG.out.trans HD.out (fun _ _ h => h)⟩
end Voc
end Go.Proofs.Ytobedpohoellkaa

namespace Go.Proofs.Ytobedpohoellkaa
open Go.RowKit
open Voc
namespace Bpe
/-- a row of numbers grows -/
theorem OI.app {w w' w2 : World} {B : Nat} {v v' : Value} {l m : List Int} (h : OI w B v l) (hg : Gr w w') (ho : w2.ownsRow B TI 1 v' (l.length + m.length) (l.flatMap encI ++ m.flatMap encI)) (hsp : ∀ T : Value → Prop, (∀ u ∈ (Value.int .i64 0).cells.toList, T u) → (∀ u ∈ m.flatMap encI, T u) → SpareT T w' v → SpareT T w2 v') : OI w2 B v' (l ++ m) :=
  ⟨by rw [List.length_append, List.flatMap_append]; exact ho, hsp IsI (fun u hu => by simp [Value.cells] at hu; subst hu; exact ⟨0, rfl⟩) (fun u hu => by obtain ⟨x, _, hx⟩ := List.mem_flatMap.1 hu; simp [encI] at hx; exact ⟨x, hx⟩) (h.gr hg).spare⟩
set_option maxRecDepth 20000 in
set_option maxHeartbeats 1600000 in
theorem rjoined_any {w : World} {v : Value} {l : List Int} (i t : Nat) (HV : SL encI w v l) (hi : i + 1 < l.length) (hll : l.length ≤ 1048576) :
    Calls Try.prog 70 #[v, .int .i64 (i : Nat), .int .i64 (t : Nat)] w fun e w' => ∃ r, e = .returned r ∧ OI w' w.heap.size r (joined l i t) ∧ Gr w w' := by
  obtain ⟨i1, hi1, hx0, hx1, hx2⟩ := info_parts info_int
  have HV0 := Lib.hid HV
  obtain ⟨A, cap, rfl, hcap⟩ := HV.len
  have hs1 := fun w => run_slice_to (P := Try.prog) 25 TI i1 Try.underlying25 hi1 A l.length cap i (by omega) w
  have hli : (l.length : Int) ≤ 1048576 := by omega
  have hii : (i : Int) + 1 < (l.length : Int) := by omega
  obtain ⟨i2, hi2⟩ : ∃ i2, i + 2 = i2 := ⟨_, rfl⟩
  have e2 : (i : Int) + 2 = (i2 : Int) := by omega
  obtain ⟨vt, hs2, hsl2⟩ : ∃ vt, (∀ w, (Instr.slice 25 (.slice A l.length cap) (some (.int .i64 (i2 : Int))) none none).run Try.prog w = .ok vt w) ∧ ∀ w, SL encI w (.slice A l.length cap) l → SL encI w vt (l.drop i2) :=
    ⟨_, fun w => run_slice_from 25 TI i1 1 Try.underlying25 hi1 hx1 A l.length cap i2 (by omega) w, fun w h => h.from_ (fun _ => rfl) (by omega)⟩
  have HSL2 := Lib.hid hsl2
  have Hi := Lib.hid (And.intro hi (And.intro hll hi2))
  have Hl3 := Lib.hid (show (l.take i).length = i by rw [List.length_take]; have := Hi.out; omega)
  clear HV hsl2 hi hll hcap hi2
  go_enter Try.func70, Try.ntmps70
  go_upto_region 3 with (
    at_builtin
    refine wpList_append_st _ encI rfl (.tmp 8) (.tmp 11) 25 rfl w.heap.size TI i1 (.int .i64 0) 1 8 Try.underlying25 hi1 hx0 hx1 hx2 rfl (by decide) (.slice none 0 0) 0 [] rfl (World.ownsRow_nil _ _ _ _) (.slice A i cap) (l.take i) rfl (SL.take HV0.out (by have := Hi.out.1; omega)) (fun _ => rfl) encI_1 (by rw [List.length_take]; have := Hi.out; unfold maxLen; omega) (by rw [List.length_take]; have := Hi.out; omega) (Nat.le_refl _) ?_
    intro v3 w3 hown3 hg3 hat3 hsp3
    rw [Nat.zero_add, List.nil_append] at hown3
    have hown3' := hown3
    rw [Hl3.out] at hown3
    obtain ⟨A3, cap3, rfl⟩ := own_formN hown3
    have HG3 := Lib.hid (show Gr w w3 from hg3.mono (fun _ _ h => by simp [Value.ownBlock] at h))
    have HO3 := Lib.hid (show OI w3 w.heap.size (.slice A3 i cap3) (l.take i) from by
      have h := (OI.nil w w.heap.size).app (m := l.take i) (Fr.refl w NoneS) (by simpa using hown3') hsp3
      simpa using h)
    clear hown3 hown3' hg3 hat3 hsp3)
  go_upto_region 4 with (
    at_builtin
    refine wpList_append_st _ encI rfl (.tmp 13) (.tmp 15) 25 rfl w.heap.size TI i1 (.int .i64 0) 1 8 Try.underlying25 hi1 hx0 hx1 hx2 rfl (by decide) (.slice A3 i cap3) (l.take i).length _ rfl (HO3.out.own.alloc _) (.slice (some ⟨w3.heap.size, 0, none⟩) 1 1) [(t : Int)] rfl (sl_one (enc := encI) w3 (t : Int) #[.int .i64 (t : Int)] rfl TI) (fun _ => rfl) encI_1 (by rw [Hl3.out]; have := Hi.out; simp only [maxLen, List.length_singleton]; omega) (by rw [Hl3.out]; have := Hi.out; simp only [List.length_singleton]; omega) (Nat.le_trans HG3.out.size (by simp)) ?_
    intro v4 w4 hown4 hg4 hat4 hsp4
    rw [Hl3.out] at hown4
    obtain ⟨A4, cap4, rfl⟩ := own_formN hown4
    have HG4 := Lib.hid (show Gr w w4 from (HG3.out.alloc (.cells #[.int .i64 (t : Int)] TI)).trans hg4 (fun i hi e => by have := (HO3.out.own.lt i e).1; omega))
    have HO4 := Lib.hid (show OI w4 w.heap.size (.slice A4 (i + 1) cap4) (l.take i ++ [(t : Int)]) from HO3.out.app (m := [(t : Int)]) ((Fr.refl w3 NoneS).alloc _) (by rw [Hl3.out]; exact hown4) hsp4)
    clear hown4 hg4 hat4 hsp4)
  have Hl4 := Lib.hid (show (l.take i ++ [(t : Int)]).length = i + 1 by rw [List.length_append, Hl3.out]; rfl)
  go_wp2_with (
    at_builtin
    go_loud (refine wpList_append_st _ encI rfl (.tmp 17) (.tmp 21) 25 rfl w.heap.size TI i1 (.int .i64 0) 1 8 Try.underlying25 hi1 hx0 hx1 hx2 rfl (by decide) (.slice A4 (i + 1) cap4) (l.take i ++ [(t : Int)]).length _ rfl HO4.out.own vt (l.drop i2) rfl (HSL2.out _ (HV0.out.gr HG4.out)) (fun _ => rfl) encI_1 (by rw [Hl4.out, List.length_drop]; have := Hi.out; unfold maxLen; omega) (by rw [Hl4.out, List.length_drop]; have := Hi.out; omega) HG4.out.size ?_)
    intro v5 w5 hown5 hg5 hat5 hsp5
    have HG5 := Lib.hid (show Gr w w5 from HG4.out.trans hg5 (fun i hi e => by have := (HO4.out.own.lt i e).1; omega))
    have HO5 := Lib.hid (show OI w5 w.heap.size v5 (l.take i ++ [(t : Int)] ++ l.drop i2) from HO4.out.app (m := l.drop i2) (Fr.refl w4 NoneS) hown5 hsp5)
    clear hown5 hg5 hat5 hsp5)
  go_ret
  refine ⟨v5, rfl, ?_, HG5.out⟩
  have h := HO5.out
  rw [List.append_assoc, ← Hi.out.2.2] at h
  exact h
end Bpe
end Go.Proofs.Ytobedpohoellkaa

namespace Go.Proofs.Ytobedpohoellkaa
open Go.RowKit
open Voc
namespace Bpe
def wh (o : Option (Nat × Nat)) : Nat := match o with | some (i, _) => i | none => 0
def wi (o : Option (Nat × Nat)) : Nat := match o with | some (_, t) => t | none => 0
theorem scan_lt {xs : List Pc} {l : List Int} {k i t : Nat} (h : scan xs l k = some (i, t)) : t < xs.length := fndAt_lt (scan_some h).2.1
set_option maxRecDepth 20000 in
set_option maxHeartbeats 3200000 in
theorem rstep_any {w : World} {v vl : Value} {xs : List Pc} {l : List Int} (HS : SL encP w v xs) (HV : SL encI w vl l) (hl : xs.length ≤ 1048576) (hll : l.length ≤ 1048576) :
    Calls Try.prog 69 #[.agg #[v], vl] w fun e w' => e = .returned (.tuple #[.int .i64 (wh (stepR xs l)), .int .i64 (wi (stepR xs l)), .bool (stepR xs l).isSome]) ∧ Gr w w' := by
  obtain ⟨A, cap, rfl⟩ := SL.form HS
  obtain ⟨A2, cap2, rfl⟩ := SL.form HV
  have HG := Lib.hid ((Fr.refl w NoneS).alloc (.cells #[.slice A xs.length cap] 41))
  have HB := Lib.hid (Blk.new w 41 #[.slice A xs.length cap])
  have HS0 := Lib.hid HS
  have HV0 := Lib.hid HV
  have HF := Lib.hid (fun wx (hg : Gr w wx) (a b : Int) => rfind_any a b (HS.gr hg) hl)
  have hxi : (xs.length : Int) ≤ 1048576 := by omega
  have hli : (l.length : Int) ≤ 1048576 := by omega
  clear HS HV hl
  obtain ⟨R, hR⟩ : ∃ R, stepR xs l = R := ⟨_, rfl⟩
  rw [hR]
  have HR := Lib.hid hR
  clear hR
  go_enter Try.func69, Try.ntmps69
  go_upto_region 1 with (fail)
  generalize w.heap.size = q1 at HB ⊢
  generalize World.alloc w _ = w1 at HG HB ⊢
  go_wp2_with fail
  go_loopg [7, 8, 9, 10] (l.length + 1) (fun m s7 s8 s9 s10 wr => ∃ (k : Nat) (o : Option (Nat × Nat)), s10 = .int .i64 k ∧ s7 = .int .i64 (wh o) ∧ s8 = .int .i64 (wi o) ∧ s9 = .bool o.isSome ∧ Hid (k ≤ l.length - 1 ∧ l.length - k < m ∧ scan xs l k = o) ∧ Hid (Gr w1 wr))
  case atStart => exact ⟨0, none, rfl, rfl, rfl, rfl, ⟨Nat.zero_le _, by omega, rfl⟩, Fr.refl _ _⟩
  case round =>
    obtain ⟨k, o, rfl, rfl, rfl, rfl, HK, HD⟩ := hrel
    have f0 : wr.cell? ⟨q1, 0, none⟩ = some (.slice A xs.length cap) := by rw [(HB.out.fr HD.out (fun h => h)).cell]; rfl
    have HGr := Lib.hid (HG.out.trans HD.out (fun _ _ h => h))
    by_cases hk : k + 1 < l.length
    · obtain ⟨ba, oa, rfl, hba, hcell⟩ := (HV0.out.gr HGr.out).at_ (s := 1) (fun _ => rfl) rfl (show k < l.length by omega)
      have d0 := hcell 0 (by omega)
      obtain ⟨ba2, oa2, hA2, hba2, hcell2⟩ := (HV0.out.gr HGr.out).at_ (s := 1) (fun _ => rfl) rfl hk
      injection hA2 with hA2
      injection hA2 with e1 e2
      subst e1 e2
      have d1 := hcell2 0 (by omega)
      simp [encI] at d0 d1
      have ex : l[k]'(by omega) = l.getD k 0 := by rw [List.getD_eq_getElem?_getD, List.getElem?_eq_getElem (show k < l.length by omega)]; rfl
      have ey : l[k + 1]'hk = l.getD (k + 1) 0 := by rw [List.getD_eq_getElem?_getD, List.getElem?_eq_getElem hk]; rfl
      rw [ex] at d0
      rw [ey] at d1
      obtain ⟨x, hx⟩ : ∃ x, l.getD k 0 = x := ⟨_, rfl⟩
      obtain ⟨y, hy⟩ : ∃ y, l.getD (k + 1) 0 = y := ⟨_, rfl⟩
      rw [hx] at d0
      rw [hy] at d1
      have Hsc := Lib.hid (show scan xs l (k + 1) = match fndF x y xs with | none => o | some t => better xs o k t from by
        simp only [scan]
        rw [HK.out.2.2]
        unfold fndAt
        rw [hx, hy]; rfl)
      have hki : (k : Int) + 1 < (l.length : Int) := by omega
      have hw1 : IntKind.i64.wrap ((k : Int) + 1) = (k : Int) + 1 := IntWalk.i64_in _ ⟨by omega, by omega⟩
      have hk1 : ((k : Int) + 1).toNat = k + 1 := by omega
      have hk2 : (k : Int) < (l.length : Int) := by omega
      have hk0 : (0 : Int) ≤ (k : Int) + 1 := by omega
      have Hk := Lib.hid hk
      have Hlt := Lib.hid (And.intro (HB.out.fr HD.out (fun h => h)).lt hba)
      have HFx := Lib.hid (HF.out wr.drew (HGr.out.drew) x y)
      clear hcell hcell2 hba hba2 ex ey hx hy hk
      cases hf : fndF x y xs with
      | none =>
        rw [hf] at HFx Hsc
        simp only [fndV, Option.isSome_none] at HFx Hsc
        clear hf
        go_upto_region 5 with (fail)
        go_region_held3 (fun wx => wx.cell? ⟨q1, 0, none⟩ = some (.slice A xs.length cap) ∧ wx.cell? ⟨ba, oa + k, none⟩ = some (.int .i64 x) ∧ wx.cell? ⟨ba, oa + (k + 1), none⟩ = some (.int .i64 y))
          (first | with_reducible exact ⟨f0', d0', d1'⟩ | exact ⟨f0, d0, d1⟩)
          (first | (go_at_call 87
                    refine HFx.out.mono ?_
                    rintro e w5 ⟨rfl, hg⟩
                    have HG5 := Lib.hid (((Fr.refl wr NoneS).drew).trans hg (fun _ _ h => h))
                    have f0' := (HG5.out.cell (p := ⟨q1, 0, none⟩) Hlt.out.1 (fun h => h)).trans f0
                    have d0' := (HG5.out.cell (p := ⟨ba, oa + k, none⟩) Hlt.out.2 (fun h => h)).trans d0
                    have d1' := (HG5.out.cell (p := ⟨ba, oa + (k + 1), none⟩) Hlt.out.2 (fun h => h)).trans d1
                    clear hg))
        clear f0 d0 d1 d0' d1' hw1 hk1 hk0
        have HD5 := Lib.hid (HD.out.trans HG5.out (fun _ _ h => h))
        go_upto_region 6 with (fail)
        go_quiet (fail)
        go_wp2_with fail
        go_roundg (gk - 1)
        case measure => have := HK.out; have := Hk.out; omega
        case rel => exact ⟨k + 1, o, by go_num, rfl, rfl, rfl, ⟨by have := Hk.out; omega, by have := HK.out; have := Hk.out; omega, Hsc.out⟩, HD5.out.drewN _⟩
      | some t =>
        rw [hf] at HFx Hsc
        simp only [fndV, Option.isSome_some] at HFx Hsc
        have Htl := Lib.hid (show t < xs.length from by
          obtain ⟨q, h1, _⟩ := fndF_some xs t hf
          exact (List.getElem?_eq_some_iff.1 h1).1)
        clear hf
        go_upto_region 5 with (fail)
        go_region_held3 (fun wx => wx.cell? ⟨q1, 0, none⟩ = some (.slice A xs.length cap) ∧ wx.cell? ⟨ba, oa + k, none⟩ = some (.int .i64 x) ∧ wx.cell? ⟨ba, oa + (k + 1), none⟩ = some (.int .i64 y))
          (first | with_reducible exact ⟨f0', d0', d1'⟩ | exact ⟨f0, d0, d1⟩)
          (first | (go_at_call 87
                    refine HFx.out.mono ?_
                    rintro e w5 ⟨rfl, hg⟩
                    have HG5 := Lib.hid (((Fr.refl wr NoneS).drew).trans hg (fun _ _ h => h))
                    have f0' := (HG5.out.cell (p := ⟨q1, 0, none⟩) Hlt.out.1 (fun h => h)).trans f0
                    have d0' := (HG5.out.cell (p := ⟨ba, oa + k, none⟩) Hlt.out.2 (fun h => h)).trans d0
                    have d1' := (HG5.out.cell (p := ⟨ba, oa + (k + 1), none⟩) Hlt.out.2 (fun h => h)).trans d1
                    clear hg))
        clear f0 d0 d1 d0' d1' hw1 hk1 hk0
        have HD5 := Lib.hid (HD.out.trans HG5.out (fun _ _ h => h))
        obtain ⟨bv, ov, rfl, hbv, hcv⟩ := (HS0.out.gr (HG.out.trans HD5.out (fun _ _ h => h))).at_ (s := 5) (fun _ => rfl) rfl Htl.out
        have r4 := hcv 4 (by omega)
        have hrk : rk xs t = (xs[t]'Htl.out).k := by unfold rk; rw [List.getElem?_eq_getElem Htl.out]
        simp [encP] at r4
        rw [← hrk, ← Nat.add_assoc] at r4
        have hti : (t : Int) < (xs.length : Int) := by have := Htl.out; omega
        clear hrk hcv
        cases ho : o with
        | none =>
          subst ho
          simp only [better] at Hsc
          clear r4
          go_upto_region 6 with (fail)
          go_quiet (fail)
          go_wp2_with fail
          go_roundg (gk - 1)
          case measure => have := HK.out; have := Hk.out; omega
          case rel => exact ⟨k + 1, some (k, t), by go_num, rfl, rfl, rfl, ⟨by have := Hk.out; omega, by have := HK.out; have := Hk.out; omega, Hsc.out⟩, HD5.out.drewN _⟩
        | some ab =>
          obtain ⟨a, b⟩ := ab
          subst ho
          simp only [better] at Hsc
          have Hbl := Lib.hid (scan_lt HK.out.2.2)
          obtain ⟨bv2, ov2, hA2, _, hcv⟩ := (HS0.out.gr (HG.out.trans HD5.out (fun _ _ h => h))).at_ (s := 5) (fun _ => rfl) rfl Hbl.out
          injection hA2 with hA2
          injection hA2 with e1 e2
          subst e1 e2
          have s4 := hcv 4 (by omega)
          have hrk : rk xs b = (xs[b]'Hbl.out).k := by unfold rk; rw [List.getElem?_eq_getElem Hbl.out]
          simp [encP] at s4
          rw [← hrk, ← Nat.add_assoc] at s4
          have hbi : (b : Int) < (xs.length : Int) := by have := Hbl.out; omega
          clear hrk hcv
          simp only [wh, wi, Option.isSome_some]
          generalize rk xs t = r1 at r4 Hsc
          generalize rk xs b = r2 at s4 Hsc
          by_cases hr : r1 < r2
          · rw [if_pos hr] at Hsc
            have hr1 : decide (r1 < r2) = true := decide_eq_true hr
            clear hr
            go_upto_region 6 with (fail)
            go_quiet (fail)
            go_wp2_with fail
            go_roundg (gk - 1)
            case measure => have := HK.out; have := Hk.out; omega
            case rel => exact ⟨k + 1, some (k, t), by go_num, rfl, rfl, rfl, ⟨by have := Hk.out; omega, by have := HK.out; have := Hk.out; omega, Hsc.out⟩, HD5.out.drewN _⟩
          · rw [if_neg hr] at Hsc
            have hr1 : decide (r1 < r2) = false := decide_eq_false hr
            clear hr
            go_upto_region 6 with (fail)
            go_quiet (fail)
            go_wp2_with fail
            go_roundg (gk - 1)
            case measure => have := HK.out; have := Hk.out; omega
            case rel => exact ⟨k + 1, some (a, b), by go_num, rfl, rfl, rfl, ⟨by have := Hk.out; omega, by have := HK.out; have := Hk.out; omega, Hsc.out⟩, HD5.out.drewN _⟩
    · have hk1 : decide ((k : Int) + 1 < (l.length : Int)) = false := decide_eq_false (by omega)
      have hk2 : (l.length : Int) ≤ (k : Int) + 1 := by omega
      have hkb : (k : Int) ≤ 1048576 := by have := HK.out; omega
      have Hk := Lib.hid (show o = R from by rw [← HR.out, ← HK.out.2.2]; unfold stepR; rw [show l.length - 1 = k by have := HK.out; omega])
      go_wp2_with fail
      go_ret3
      rw [← Hk.out]
      exact ⟨rfl, HG.out.trans HD.out (fun _ _ h => h)⟩
end Bpe
end Go.Proofs.Ytobedpohoellkaa

namespace Go.Proofs.Ytobedpohoellkaa
open Go.RowKit
open Voc
namespace Bpe
def rencE (xs : List Pc) (bs : List Int) : List Int × Int := if (beginE xs bs).2 ≠ 0 then ([], (beginE xs bs).2) else (encL xs (beginE xs bs).1, 0)
set_option maxRecDepth 20000 in
set_option maxHeartbeats 3200000 in
theorem rencode_any {w : World} {v vb : Value} {xs : List Pc} {bs : List Int} (HS : SL encP w v xs) (HV : SL encB w vb bs) (hw : ∀ q ∈ xs, wfP q) (hb : ∀ c ∈ bs, 0 ≤ c ∧ c < 256) (hl : xs.length ≤ 1048576) (hbl : bs.length ≤ 1048576) :
    Calls Try.prog 45 #[.agg #[v], vb] w fun e w' => ∃ r, e = .returned (.tuple #[r, .int .i64 (rencE xs bs).2]) ∧ OI w' w.heap.size r (rencE xs bs).1 ∧ Gr w w' := by
  obtain ⟨A, cap, rfl⟩ := SL.form HS
  obtain ⟨A2, cap2, rfl⟩ := SL.form HV
  have HG := Lib.hid ((Fr.refl w NoneS).alloc (.cells #[.slice A xs.length cap] 41))
  have HB := Lib.hid (Blk.new w 41 #[.slice A xs.length cap])
  have HS0 := Lib.hid HS
  have Hl := Lib.hid hl
  have HBg := Lib.hid (rbegin_any (HS.gr HG.out) (HV.gr HG.out) hw hb hl)
  have hbi : (bs.length : Int) ≤ 1048576 := by omega
  have Hbl := Lib.hid hbl
  have Hrl := Lib.hid (show (beginE xs bs).2 = 0 → (beginE xs bs).1.length = bs.length from fun h => by
    unfold beginE at h ⊢
    split at h
    · cases h
    · split at h
      · cases h
      · rename_i h1 h2
        rw [if_neg h1, if_neg h2]
        exact row0_len xs bs)
  obtain ⟨⟨L, E⟩, hE⟩ : ∃ y, rencE xs bs = y := ⟨_, rfl⟩
  rw [hE]
  unfold rencE at hE
  have HE := Lib.hid hE
  obtain ⟨q1, hq1⟩ : ∃ q, w.heap.size = q := ⟨_, rfl⟩
  rw [hq1] at HB
  have Hq1 := Lib.hid hq1
  obtain ⟨⟨L0, E0⟩, hB⟩ : ∃ y, beginE xs bs = y := ⟨_, rfl⟩
  rw [hB] at HBg HE Hrl
  simp only at HBg HE Hrl
  clear HS HV hw hb hl hbl hE hB
  go_enter Try.func45, Try.ntmps45
  go_upto_region 1 with (fail)
  clear hq1
  generalize World.alloc w _ = wa at HG HB HBg ⊢
  have f0 : wa.cell? ⟨q1, 0, none⟩ = some (.slice A xs.length cap) := by rw [HB.out.cell]; rfl
  by_cases hE0 : E0 = 0
  case neg =>
    have he := HE.out
    rw [if_pos hE0] at he
    injection he with e1 e2
    subst e1 e2
    have hE1 : (E0 != 0) = true := bne_iff_ne.2 hE0
    clear hE0
    go_wp2_with (go_at_call 68; refine HBg.out.mono ?_; rintro e w3 ⟨r, rfl, ho, hg⟩; have HG3 := Lib.hid hg; clear ho hg)
    go_ret2
    exact ⟨_, rfl, OI.nil _ _, HG.out.trans HG3.out (fun _ _ h => h)⟩
  subst hE0
  have Hrow := Lib.hid (Hrl.out rfl)
  have he := HE.out
  rw [if_neg (by decide)] at he
  injection he with e1 e2
  have He1 := Lib.hid e1
  subst e2
  clear e1
  go_upto_block 0 with (go_at_call 68; refine HBg.out.mono ?_; rintro e w3 ⟨r, rfl, ho, hg⟩; have HO3 := Lib.hid (ho.base HG.out.size); have HG3 := Lib.hid (HG.out.trans hg (fun _ _ h => h)); have HB3 := Lib.hid (HB.out.fr hg (fun h => h)); clear ho hg)
  clear f0
  go_cut [6] (fun s6 wx => ∃ vr, vr = s6 ∧ Hid (Gr w wx ∧ OI wx w.heap.size vr L))
  case first =>
    go_wp2_with fail
    go_loopg [6, 8] (bs.length + 1) (fun m s6 s8 wr => ∃ (k : Nat) (v : Value) (M : List Int), v = s6 ∧ s8 = .int .i64 k ∧ Hid (k + M.length = bs.length ∧ bs.length - k < m ∧ encL xs M = L) ∧ Hid (Gr w3 wr ∧ OI wr w.heap.size v M))
    case atStart => exact ⟨0, r, L0, rfl, rfl, ⟨by rw [Hrow.out]; omega, by omega, He1.out⟩, Fr.refl _ _, HO3.out⟩
    case round =>
      obtain ⟨k, v, M, rfl, rfl, HK, HP⟩ := hrel
      by_cases hk : k < bs.length
      · have HG1 := Lib.hid (HG3.out.trans HP.out.1 (fun _ _ h => h))
        have f0 : wr.cell? ⟨q1, 0, none⟩ = some (.slice A xs.length cap) := by rw [(HB3.out.fr HP.out.1 (fun h => h)).cell]; rfl
        have hki : (k : Int) < bs.length := by omega
        have Hk := Lib.hid hk
        have HSt := Lib.hid (rstep_any (HS0.out.gr HG1.out) HP.out.2.sl Hl.out (by have := HK.out; have := Hbl.out; omega))
        clear hk
        cases hs : stepR xs M with
        | none =>
          rw [hs] at HSt
          simp only [wh, wi, Option.isSome_none] at HSt
          have HM := Lib.hid (show M = L by rw [← HK.out.2.2, encL_none hs])
          clear hs
          go_wp2_with (go_at_call 69; refine HSt.out.mono ?_; rintro e w5 ⟨rfl, hg⟩; have HG5 := Lib.hid hg; clear hg)
          go_meet
          refine ⟨v, rfl, Lib.hid ⟨HG1.out.trans HG5.out (fun _ _ h => h), ?_⟩⟩
          rw [← HM.out]
          exact HP.out.2.gr HG5.out
        | some ab =>
          obtain ⟨i, t⟩ := ab
          rw [hs] at HSt
          simp only [wh, wi, Option.isSome_some] at HSt
          have HM := Lib.hid (show encL xs (joined M i t) = L by rw [← HK.out.2.2, encL_step hs])
          have Hlt := Lib.hid (stepR_lt hs)
          have HJ := Lib.hid (fun wx (hg : Gr wr wx) => rjoined_any i t (HP.out.2.sl.gr hg) Hlt.out (by have := HK.out; have := Hbl.out; omega))
          clear hs
          go_wp2_with (first
            | (go_at_call 69; refine HSt.out.mono ?_; rintro e w5 ⟨rfl, hg⟩; have HG5 := Lib.hid hg; clear hg)
            | (go_at_call 70; refine (HJ.out _ HG5.out).mono ?_; rintro e w6 ⟨rj, rfl, ho, hg⟩; have HO6 := Lib.hid (ho.base (Nat.le_trans HG1.out.size HG5.out.size)); have HG6 := Lib.hid (HG5.out.trans hg (fun _ _ h => h)); clear ho hg))
          go_roundg (gk - 1)
          case measure => have := HK.out; have := Hk.out; omega
          case rel => exact ⟨k + 1, rj, _, rfl, by go_num, ⟨by rw [joined_len Hlt.out]; have := HK.out; have := Hlt.out; omega, by have := HK.out; have := Hk.out; omega, HM.out⟩, HP.out.1.trans HG6.out (fun _ _ h => h), HO6.out⟩
      · have HM := Lib.hid (show M = L from by
          have h0 : M = [] := List.eq_nil_of_length_eq_zero (by have := HK.out; omega)
          rw [← HK.out.2.2, h0]; rfl)
        go_wp2_with fail
        go_meet
        exact ⟨v, rfl, Lib.hid ⟨HG3.out.trans HP.out.1 (fun _ _ h => h), by rw [← HM.out]; exact HP.out.2⟩⟩
  case rest =>
    obtain ⟨vr, rfl, HF⟩ := hcut
    go_wp2_with fail
    go_ret2
    exact ⟨vr, rfl, HF.out.2, HF.out.1⟩
def encE' (xs : List Pc) (bs : List Int) : List Int × Int := if (checkE xs).1 ≠ 0 then ([], 11) else if 4096 < bs.length then ([], 3) else (encL xs (row0 xs bs), 0)
theorem renc_eq (xs : List Pc) (bs : List Int) : rencE xs bs = encE' xs bs := by
  unfold rencE encE' beginE
  by_cases h1 : (checkE xs).1 ≠ 0
  · rw [if_pos h1, if_pos h1]; rfl
  · rw [if_neg h1, if_neg h1]
    by_cases h2 : 4096 < bs.length
    · rw [if_pos h2, if_pos h2]; rfl
    · rw [if_neg h2, if_neg h2]; rfl
end Bpe
end Go.Proofs.Ytobedpohoellkaa

namespace Go.Proofs.Ytobedpohoellkaa
open Go.RowKit
namespace Voc
set_option maxRecDepth 20000 in
set_option maxHeartbeats 4000000 in
theorem rbytes_any {v : Value} {xs : List Pc} (hb : Back xs) : ∀ (f n : Nat), n < f → n < xs.length → ∀ (w : World), SL encP w v xs → (expB xs f n).length ≤ 1048576 →
    Calls Try.prog 90 #[.agg #[v], .int .i64 (n : Int)] w fun e w' => ∃ tv, e = .returned tv ∧ w'.ownsRow w.heap.size 5 1 tv (expB xs f n).length ((expB xs f n).flatMap encB) ∧ Gr w w' := by
  intro f
  induction f with
  | zero => intro n h; omega
  | succ f ih =>
  intro n hnf hnx w hsl hmax
  obtain ⟨A, cap, rfl⟩ := SL.form hsl
  obtain ⟨ba, oa, rfl, hba, hcell⟩ := hsl.at_ (s := 5) (fun _ => rfl) rfl hnx
  have d0 := hcell 0 (by omega)
  have d1 := hcell 1 (by omega)
  have d2 := hcell 2 (by omega)
  have d3 := hcell 3 (by omega)
  have d4 := hcell 4 (by omega)
  clear hcell
  simp [encP] at d0 d1 d2 d3 d4
  rw [← Nat.add_assoc] at d1 d2 d3 d4
  have Hget := Lib.hid (show xs[n]? = some (xs[n]'hnx) from List.getElem?_eq_getElem hnx)
  generalize xs[n]'hnx = q at d0 d1 d2 d3 d4 Hget
  obtain ⟨jj, bb, l, r, kk⟩ := q
  simp only at d0 d1 d2 d3 d4
  have hki : (n : Int) < xs.length := by omega
  have HSL := Lib.hid hsl
  have HM := Lib.hid hmax
  have Hba := Lib.hid hba
  have Hn := Lib.hid hnf
  clear hsl hmax hba hnf
  go_enter Try.func90, Try.ntmps90
  go_upto_region 1 with (fail)
  have HB3 := Lib.hid (Blk.new w 41 #[.slice (some ⟨ba, oa, none⟩) xs.length cap])
  have HG3 := Lib.hid ((Fr.refl w NoneS).alloc (.cells #[.slice (some ⟨ba, oa, none⟩) xs.length cap] 41))
  obtain ⟨p3, hp3⟩ : ∃ p, w.heap.size = p := ⟨_, rfl⟩
  rw [hp3] at HB3 ⊢
  have Hp3 := Lib.hid hp3
  clear hp3
  generalize World.alloc w _ = w0 at HB3 HG3 ⊢
  replace d0 := (HG3.out.cell (p := ⟨ba, oa + n * 5, none⟩) Hba.out (fun h => h)).trans d0
  replace d1 := (HG3.out.cell (p := ⟨ba, oa + n * 5 + 1, none⟩) Hba.out (fun h => h)).trans d1
  replace d2 := (HG3.out.cell (p := ⟨ba, oa + n * 5 + 2, none⟩) Hba.out (fun h => h)).trans d2
  replace d3 := (HG3.out.cell (p := ⟨ba, oa + n * 5 + 3, none⟩) Hba.out (fun h => h)).trans d3
  replace d4 := (HG3.out.cell (p := ⟨ba, oa + n * 5 + 4, none⟩) Hba.out (fun h => h)).trans d4
  have e0 : w0.cell? ⟨p3, 0, none⟩ = some (.slice (some ⟨ba, oa, none⟩) xs.length cap) := by rw [HB3.out.cell]; rfl
  go_upto_region 2 with (fail)
  clear d0 d1 d2 d3 d4 e0
  have HB7 := Lib.hid (Blk.new w0 TPc #[.bool jj, .int .u8 bb, .int .i64 l, .int .i64 r, .int .u32 kk])
  have HGx := Lib.hid ((Fr.refl w0 NoneS).alloc (.cells #[.bool jj, .int .u8 bb, .int .i64 l, .int .i64 r, .int .u32 kk] TPc))
  have HG := Lib.hid (HG3.out.trans HGx.out (fun _ _ h => h))
  have HB3 := Lib.hid (HB3.out.fr HGx.out (fun h => h))
  obtain ⟨p7, hp7⟩ : ∃ p, w0.heap.size = p := ⟨_, rfl⟩
  rw [hp7] at HB7 ⊢
  clear HGx HG3 hp7
  generalize World.alloc w0 _ = w1 at HB7 HB3 HG ⊢
  have e0 : w1.cell? ⟨p3, 0, none⟩ = some (.slice (some ⟨ba, oa, none⟩) xs.length cap) := by rw [HB3.out.cell]; rfl
  have f0 : w1.cell? ⟨p7, 0, none⟩ = some (.bool jj) := by rw [HB7.out.cell]; rfl
  have f1 : w1.cell? ⟨p7, 1, none⟩ = some (.int .u8 bb) := by rw [HB7.out.cell]; rfl
  have f2 : w1.cell? ⟨p7, 2, none⟩ = some (.int .i64 l) := by rw [HB7.out.cell]; rfl
  have f3 : w1.cell? ⟨p7, 3, none⟩ = some (.int .i64 r) := by rw [HB7.out.cell]; rfl
  cases jj with
  | false =>
    have hex : expB xs (f + 1) (n : Int) = [bb] := by simp only [expB, Int.toNat_natCast, Hget.out]; rfl
    have Hex := Lib.hid hex
    clear hex ih
    go_wp2_with fail
    go_ret
    rw [Hex.out]
    refine ⟨_, rfl, ?_, HG.out.alloc _⟩
    refine ⟨rfl, .inr ⟨w1.heap.size, 1, _, rfl, HG.out.size, heap_alloc_new w1 _, Nat.le_refl _, by unfold maxLen; omega, rfl, rfl⟩⟩
  | true =>
    obtain ⟨⟨hl0, hl1⟩, hr0, hr1⟩ := hb n _ Hget.out rfl
    simp only at hl0 hl1 hr0 hr1
    obtain ⟨i, rfl⟩ : ∃ i : Nat, l = i := ⟨l.toNat, by omega⟩
    obtain ⟨j, rfl⟩ : ∃ j : Nat, r = j := ⟨r.toNat, by omega⟩
    have hi : i < n := by omega
    have hj : j < n := by omega
    have hex : expB xs (f + 1) (n : Int) = expB xs f i ++ expB xs f j := by simp only [expB, Int.toNat_natCast, Hget.out]; rfl
    rw [hex] at HM
    have Hex := Lib.hid hex
    clear hl0 hl1 hr0 hr1 hex
    have hlen := HM.out
    rw [List.length_append] at hlen
    have Hlen := Lib.hid hlen
    have HI := Lib.hid (ih i (by have := Hn.out; omega) (by omega) w1 (HSL.out.gr HG.out) (by omega))
    have HJ := Lib.hid (show ∀ w2, Gr w1 w2 → Calls Try.prog 90 #[.agg #[.slice (some ⟨ba, oa, none⟩) xs.length cap], .int .i64 (j : Int)] w2 fun e w' => ∃ tv, e = .returned tv ∧ w'.ownsRow w2.heap.size 5 1 tv (expB xs f j).length ((expB xs f j).flatMap encB) ∧ Gr w2 w' from fun w2 h =>
      ih j (by have := Hn.out; omega) (by omega) w2 ((HSL.out.gr HG.out).gr h) (by omega))
    clear hlen ih
    generalize expB xs f i = bl at HI HM Hex Hlen
    generalize expB xs f j = br at HJ HM Hex Hlen
    go_upto_region 5 with (
      go_at_call 90
      refine HI.out.mono ?_
      rintro e w2 ⟨t2, rfl, ho, hg⟩
      have HO2 := Lib.hid ho
      have HG2 := Lib.hid hg
      clear ho hg)
    clear e0 f0 f1 f2 f3
    have e0 : w2.cell? ⟨p3, 0, none⟩ = some (.slice (some ⟨ba, oa, none⟩) xs.length cap) := by rw [(HB3.out.fr HG2.out (fun h => h)).cell]; rfl
    have f3 : w2.cell? ⟨p7, 3, none⟩ = some (.int .i64 j) := by rw [(HB7.out.fr HG2.out (fun h => h)).cell]; rfl
    go_upto_region 6 with (
      go_at_call 90
      refine (HJ.out w2 HG2.out).mono ?_
      rintro e w3 ⟨t3, rfl, ho, hg⟩
      have HO3 := Lib.hid ho
      have HG3 := Lib.hid hg
      clear ho hg)
    have HO4 := Lib.hid (HG3.out.owns HO2.out (fun _ _ h => h))
    have HS3 := Lib.hid (SL.of_own (enc := encB) (xs := br) HO3.out rfl)
    obtain ⟨i0, hi0, hz0, hz1, hz2⟩ := info_parts info_u8
    have Hsz := Lib.hid (Nat.le_trans HG2.out.size HG3.out.size)
    go_wp2_with (
      at_builtin
      refine wpList_append_sl _ encB rfl _ _ 28 rfl w1.heap.size 5 i0 (.int .u8 0) 1 1 Try.underlying28 hi0 hz0 hz1 hz2 rfl (by decide) t2 _ _ rfl HO4.out t3 br rfl HS3.out (fun _ => rfl) encB_one (by have := Hlen.out; simp only [maxLen]; omega) (by have := Hlen.out; omega) Hsz.out ?_
      intro v4 w4 ho hf hat
      have HO5 := Lib.hid ho
      have HF5 := Lib.hid hf
      clear ho hf hat)
    go_ret
    rw [Hex.out]
    refine ⟨_, rfl, ?_, ((HG.out.trans HG2.out (fun _ _ h => h)).trans HG3.out (fun _ _ h => h)).trans HF5.out (fun k hk h => by have := (HO2.out.lt k h).1; have := HG.out.size; omega)⟩
    rw [List.length_append, List.flatMap_append]
    exact own_base HO5.out HG.out.size
set_option maxRecDepth 20000 in
set_option maxHeartbeats 4000000 in
theorem rexpand_any {w : World} {v : Value} {xs : List Pc} (n : Int) (HS : SL encP w v xs) (hw : ∀ q ∈ xs, wfP q) (hl : xs.length ≤ 1048576) (hmx : (expE xs n).length ≤ 1048576) :
    Calls Try.prog 75 #[.agg #[v], .int .i64 n] w fun e w' => ∃ tv, e = .returned (.tuple #[tv, .int .i64 (sizeE xs n).2]) ∧ w'.ownsRow w.heap.size 5 1 tv (expE xs n).length ((expE xs n).flatMap encB) ∧ Gr w w' := by
  have HS1 := Lib.hid HS
  obtain ⟨A, cap, rfl⟩ := SL.form HS
  have HG := Lib.hid ((Fr.refl w NoneS).alloc (.cells #[.slice A xs.length cap] 41))
  have HB := Lib.hid (Blk.new w 41 #[.slice A xs.length cap])
  have hsz : (w.alloc (.cells #[.slice A xs.length cap] 41)).heap.size = w.heap.size + 1 := by simp
  have Hsz := Lib.hid hsz
  clear hsz
  obtain ⟨b, hb⟩ : ∃ b, decide ((checkE xs).1 = 0) = b := ⟨_, rfl⟩
  have HM := Lib.hid (may_any (HS.gr HG.out) hw hl b hb)
  obtain ⟨⟨r1, r2⟩, hr⟩ : ∃ x, sizeE xs n = x := ⟨_, rfl⟩
  have HX := Lib.hid (show r2 = 0 → Ok xs (szF [] xs) ∧ 0 ≤ n ∧ n < xs.length ∧ expE xs n = expB xs (n.toNat + 1) n from fun h => by
    have h2 : (sizeE xs n).2 = 0 := by rw [hr]; exact h
    obtain ⟨a, _, c, d, e⟩ := size_ok h2
    exact ⟨a, c, d, by unfold expE; rw [if_pos h2]⟩)
  have HY := Lib.hid (show r2 ≠ 0 → expE xs n = [] from fun h => by unfold expE; rw [hr, if_neg h])
  have HZ := Lib.hid (show (b = false → r2 = 11) ∧ (b = true → (n < 0 ∨ (xs.length : Int) ≤ n) → r2 = 2) ∧ (b = true → ¬ (n < 0 ∨ (xs.length : Int) ≤ n) → r2 = 0) from by
    unfold sizeE at hr
    refine ⟨fun h => ?_, fun h h1 => ?_, fun h h1 => ?_⟩
    · rw [h] at hb
      rw [if_pos (of_decide_eq_false hb)] at hr
      injection hr with _ hr; exact hr.symm
    · rw [h] at hb
      rw [if_neg (by simpa using of_decide_eq_true hb), if_pos h1] at hr
      injection hr with _ hr; exact hr.symm
    · rw [h] at hb
      rw [if_neg (by simpa using of_decide_eq_true hb), if_neg h1] at hr
      injection hr with _ hr; exact hr.symm)
  rw [hr]
  simp only
  have Hmx := Lib.hid hmx
  clear HS hw hl hb hr hmx
  generalize hbs : expE xs n = bs at HX HY Hmx ⊢
  clear hbs
  go_enter Try.func75, Try.ntmps75
  generalize hx : World.alloc w (.cells #[.slice A xs.length cap] 41) = wa at HG HB HM Hsz
  have f0 : wa.cell? ⟨w.heap.size, 0, none⟩ = some (.slice A xs.length cap) := by rw [HB.out.cell]; rfl
  have HXX := Lib.hid hx
  clear hx
  cases b with
  | false =>
    obtain rfl := HZ.out.1 rfl
    go_wp2_with (go_at_call 44; rw [HXX.out]; refine HM.out.mono ?_; rintro e w3 ⟨rfl, hg⟩; have HG3 := Lib.hid hg; clear hg)
    go_ret2
    exact ⟨_, rfl, by rw [HY.out (by decide)]; exact World.ownsRow_nil _ _ _ _, HG.out.trans HG3.out (fun _ _ h => h)⟩
  | true =>
    go_upto_region 3 with (go_at_call 44; rw [HXX.out]; refine HM.out.mono ?_; rintro e w3 ⟨rfl, hg⟩; have HG3 := Lib.hid hg; clear hg)
    have c3 := (HG3.out.cell (p := ⟨w.heap.size, 0, none⟩) HB.out.lt (fun h => h)).trans f0
    have HG4 := Lib.hid (HG.out.trans HG3.out (fun _ _ h => h))
    by_cases hn : n < 0 ∨ (xs.length : Int) ≤ n
    · obtain rfl := HZ.out.2.1 (by trivial) hn
      rcases hn with hn | hn
      · go_wp2_with fail
        go_ret2
        exact ⟨_, rfl, by rw [HY.out (by decide)]; exact World.ownsRow_nil _ _ _ _, HG4.out⟩
      · by_cases hn0 : n < 0
        · go_wp2_with fail
          go_ret2
          exact ⟨_, rfl, by rw [HY.out (by decide)]; exact World.ownsRow_nil _ _ _ _, HG4.out⟩
        · have hge : n ≥ (xs.length : Int) := hn
          go_wp2_with fail
          go_ret2
          exact ⟨_, rfl, by rw [HY.out (by decide)]; exact World.ownsRow_nil _ _ _ _, HG4.out⟩
    · obtain rfl := HZ.out.2.2 (by trivial) hn
      obtain ⟨hok, hn0, hn1, rfl⟩ := HX.out rfl
      obtain ⟨i, rfl⟩ : ∃ i : Nat, n = i := ⟨n.toNat, by omega⟩
      have HC := Lib.hid (rbytes_any hok.back (i + 1) i (by omega) (by omega) w3 ((HS1.out.gr HG.out).gr HG3.out) Hmx.out)
      have hi0 : (i : Int) < xs.length := hn1
      have hi1 : ¬ (i : Int) ≥ xs.length := by omega
      clear hn hn0 hn1
      go_wp2_with (
        go_at_call 90
        refine HC.out.mono ?_
        rintro e w4 ⟨tv, rfl, ho, hg⟩
        have HO := Lib.hid ho
        have HG5 := Lib.hid hg
        clear ho hg)
      go_ret2
      exact ⟨_, rfl, own_base HO.out HG4.out.size, HG4.out.trans HG5.out (fun _ _ h => h)⟩
end Voc
end Go.Proofs.Ytobedpohoellkaa

namespace Go.Proofs.Ytobedpohoellkaa
open Go.RowKit
open Voc
namespace Bpe
theorem szAt_len {xs : List Pc} (hc : (checkE xs).1 = 0) {n : Nat} (hn : n < xs.length) : szAt (szF [] xs) (n : Int) = (expE xs n).length := by
  have h := size_len xs n
  unfold sizeE at h
  rw [if_neg (by rw [hc]; decide), if_neg (by omega)] at h
  simp only at h
  omega
set_option maxRecDepth 20000 in
set_option maxHeartbeats 6400000 in
theorem rdecode_any {w : World} {v vl : Value} {xs : List Pc} {l : List Int} (HS : SL encP w v xs) (HV : SL encI w vl l) (hw : ∀ q ∈ xs, wfP q) (hl : xs.length ≤ 1048576) (hll : l.length ≤ 1048576) :
    Calls Try.prog 48 #[.agg #[v], vl] w fun e w' => ∃ r, e = .returned (.tuple #[r, .int .i64 (decE xs l).2]) ∧ OB w' w.heap.size r (decE xs l).1 ∧ Gr w w' := by
  obtain ⟨A, cap, rfl⟩ := SL.form HS
  obtain ⟨A2, cap2, rfl⟩ := SL.form HV
  have HG := Lib.hid ((Fr.refl w NoneS).alloc (.cells #[.slice A xs.length cap] 41))
  have HB := Lib.hid (Blk.new w 41 #[.slice A xs.length cap])
  have HS0 := Lib.hid HS
  have HV0 := Lib.hid HV
  have Hw := Lib.hid hw
  have Hl := Lib.hid hl
  have Hll := Lib.hid hll
  have hli : (l.length : Int) ≤ 1048576 := by omega
  have hxi : (xs.length : Int) ≤ 1048576 := by omega
  obtain ⟨⟨L, E⟩, hE⟩ : ∃ y, decE xs l = y := ⟨_, rfl⟩
  rw [hE]
  have HE := Lib.hid hE
  simp only
  obtain ⟨⟨E0, at0⟩, hC⟩ : ∃ y, checkE xs = y := ⟨_, rfl⟩
  have HSz := Lib.hid (rsizes_any (HS.gr HG.out) hw hl E0 at0 hC)
  have HC := Lib.hid hC
  obtain ⟨q1, hq1⟩ : ∃ q, w.heap.size = q := ⟨_, rfl⟩
  rw [hq1] at HB
  have Hq1 := Lib.hid hq1
  clear HS HV hw hl hll hE hC
  go_enter Try.func48, Try.ntmps48
  go_upto_region 1 with (fail)
  clear hq1
  generalize World.alloc w _ = wa at HG HB HSz ⊢
  have f0 : wa.cell? ⟨q1, 0, none⟩ = some (.slice A xs.length cap) := by rw [HB.out.cell]; rfl
  by_cases hE0 : E0 = 0
  case neg =>
    have he := HE.out
    unfold decE at he
    rw [HC.out, if_pos hE0] at he
    injection he with e1 e2
    subst e1 e2
    have hE1 : (E0 != 0) = true := bne_iff_ne.2 hE0
    have HSn := Lib.hid (HSz.out.mono fun e w' h => (show Gr wa w' ∧ e = .returned (.tuple #[.slice none 0 0, .int .i64 E0, .int .i64 at0]) from ⟨h.1, (h.2.resolve_right (fun h' => hE0 h'.1)).2⟩))
    clear hE0
    go_wp2_with (go_at_call 67; refine HSn.out.mono ?_; rintro e w3 ⟨hg, rfl⟩; have HG3 := Lib.hid hg; clear hg)
    go_ret2
    exact ⟨_, rfl, OB.nil _ _, HG.out.trans HG3.out (fun _ _ h => h)⟩
  subst hE0
  have Hc := Lib.hid (show (checkE xs).1 = 0 by rw [HC.out])
  have HSy := Lib.hid (HSz.out.mono fun e w' h => (show Gr wa w' ∧ ∃ sv, e = .returned (.tuple #[sv, .int .i64 0, .int .i64 0]) ∧ w'.ownsRow (wa.heap.size + 1) TI 1 sv xs.length ((szF [] xs).flatMap Voc.encN) from by
    obtain ⟨h1, h2⟩ := h
    rcases h2 with ⟨h3, _⟩ | ⟨_, h3, sv, h4, h5⟩
    · exact absurd rfl h3
    · exact ⟨h1, sv, h4, h5⟩))
  have Hszl := Lib.hid (show (szF [] xs).length = xs.length from (good_of Hc.out).ok.len)
  have Hsza := Lib.hid (fun n (hn : n < xs.length) => szAt_len Hc.out hn)
  go_upto_block 0 with (go_at_call 67; refine HSy.out.mono ?_; rintro e w3 ⟨hg, sv, rfl, hsv⟩; obtain ⟨Az, cz, rfl⟩ := own_formN hsv; have HSV := Lib.hid (show SL Voc.encN w3 (.slice Az xs.length cz) (szF [] xs) from SL.of_own (enc := Voc.encN) hsv Hszl.out.symm); have HG3 := Lib.hid (HG.out.trans hg (fun _ _ h => h)); have HB3 := Lib.hid (HB.out.fr hg (fun h => h)); clear hg hsv)
  clear f0
  go_cut [] (fun wx => Hid (Gr w3 wx ∧ ∀ x ∈ l, badX xs x = false))
  case first =>
    go_wp2_with fail
    go_loopg [9] (l.length + 1) (fun m s9 wr => ∃ k : Nat, s9 = .int .i64 k ∧ Hid (k ≤ l.length ∧ l.length - k < m ∧ ∀ x ∈ l.take k, badX xs x = false) ∧ Hid (Gr w3 wr))
    case atStart => exact ⟨0, rfl, ⟨Nat.zero_le _, by omega, fun x hx => by simp at hx⟩, Fr.refl _ _⟩
    case round =>
      obtain ⟨k, rfl, HK, HD⟩ := hrel
      have f0 : wr.cell? ⟨q1, 0, none⟩ = some (.slice A xs.length cap) := by rw [(HB3.out.fr HD.out (fun h => h)).cell]; rfl
      by_cases hk : k < l.length
      · obtain ⟨ba, oa, rfl, hba, hcell⟩ := (HV0.out.gr (HG3.out.trans HD.out (fun _ _ h => h))).at_ (s := 1) (fun _ => rfl) rfl hk
        have d0 := hcell 0 (by omega)
        simp [encI] at d0
        have hki : (k : Int) < l.length := by omega
        have Hk := Lib.hid hk
        obtain ⟨x, hx⟩ : ∃ x, l[k]'hk = x := ⟨_, rfl⟩
        rw [hx] at d0
        have Hmem := Lib.hid (show x ∈ l by rw [← hx]; exact List.getElem_mem hk)
        have Htk := Lib.hid (show badX xs x = false → ∀ y ∈ l.take (k + 1), badX xs y = false from fun hb y hy => by
          rw [List.take_succ_eq_append_getElem hk] at hy
          rcases List.mem_append.1 hy with h | h
          · exact HK.out.2.2 y h
          · simp at h; rw [h, hx, hb])
        clear hcell hba hx hk
        have Hbad := Lib.hid (fun (hb : badX xs x = true) => (show decE xs l = ([], 2) by
          unfold decE
          rw [if_neg (by rw [Hc.out]; decide), if_pos (List.any_eq_true.2 ⟨x, Hmem.out, hb⟩)]))
        by_cases h1 : x < 0
        case pos =>
          have Hb := Lib.hid (Hbad.out (show badX xs x = true by unfold badX; rw [decide_eq_true h1]; rfl))
          have h1' : decide (x < 0) = true := decide_eq_true h1
          clear h1
          go_upto_region 7 with (fail)
          go_quiet (fail)
          go_wp2_with fail
          go_ret2
          have he := HE.out
          rw [Hb.out] at he
          injection he with e1 e2
          subst e1 e2
          exact ⟨_, rfl, OB.nil _ _, (HG3.out.trans HD.out (fun _ _ h => h)).drewN _⟩
        by_cases h2 : (xs.length : Int) ≤ x
        case pos =>
          have Hb := Lib.hid (Hbad.out (show badX xs x = true by unfold badX; rw [decide_eq_true h2, Bool.or_true]))
          have h1' : decide (x < 0) = false := decide_eq_false h1
          have h2' : decide ((xs.length : Int) ≤ x) = true := decide_eq_true h2
          clear h1
          go_upto_region 7 with (fail)
          go_quiet (fail)
          go_wp2_with fail
          go_ret2
          have he := HE.out
          rw [Hb.out] at he
          injection he with e1 e2
          subst e1 e2
          exact ⟨_, rfl, OB.nil _ _, (HG3.out.trans HD.out (fun _ _ h => h)).drewN _⟩
        have Hb := Lib.hid (show badX xs x = false by unfold badX; rw [decide_eq_false h1, decide_eq_false h2]; rfl)
        have h1' : decide (x < 0) = false := decide_eq_false h1
        have h2' : decide ((xs.length : Int) ≤ x) = false := decide_eq_false h2
        clear h1 h2
        go_upto_region 7 with (fail)
        go_quiet (fail)
        go_wp2_with fail
        go_roundg (gk - 1)
        case measure => have := HK.out; have := Hk.out; omega
        case rel => exact ⟨k + 1, by go_num, ⟨Hk.out, by have := HK.out; have := Hk.out; omega, Htk.out Hb.out⟩, HD.out.drewN _⟩
      · have Hk := Lib.hid (show k = l.length by have := HK.out; omega)
        go_wp2_with fail
        go_meet
        refine Lib.hid ⟨HD.out, fun x hx => HK.out.2.2 x (by rw [Hk.out, List.take_of_length_le (Nat.le_refl _)]; exact hx)⟩
  case rest =>
  obtain ⟨hg4, hin⟩ := hcut.out
  have HG4 := Lib.hid hg4
  have Hin := Lib.hid hin
  clear hg4 hin hcut
  have Hany := Lib.hid (show ¬ (l.any (badX xs) = true) by rw [List.any_eq_true]; rintro ⟨y, hy, hy2⟩; rw [Hin.out y hy] at hy2; cases hy2)
  go_upto_block 2 with (fail)
  go_cut [] (fun wx => Hid (Gr w3 wx ∧ (flatE xs l).length ≤ 4096))
  case first =>
    go_wp2_with fail
    go_loopg [10, 11] (l.length + 1) (fun m s10 s11 wr => ∃ k : Nat, s11 = .int .i64 k ∧ s10 = .int .i64 ((flatE xs (l.take k)).length : Nat) ∧ Hid (k ≤ l.length ∧ l.length - k < m ∧ (flatE xs (l.take k)).length ≤ 4096) ∧ Hid (Gr w3 wr))
    case atStart => exact ⟨0, rfl, rfl, ⟨Nat.zero_le _, by omega, Nat.zero_le _⟩, HG4.out⟩
    case round =>
      obtain ⟨k, rfl, rfl, HK, HD⟩ := hrel
      by_cases hk : k < l.length
      · obtain ⟨ba, oa, rfl, hba, hcell⟩ := (HV0.out.gr (HG3.out.trans HD.out (fun _ _ h => h))).at_ (s := 1) (fun _ => rfl) rfl hk
        have d0 := hcell 0 (by omega)
        simp [encI] at d0
        have hki : (k : Int) < l.length := by omega
        have Hk := Lib.hid hk
        obtain ⟨xn, hx⟩ : ∃ x : Nat, l[k]'hk = x := by
          have h := Hin.out _ (List.getElem_mem hk)
          unfold badX at h
          simp at h
          exact ⟨(l[k]'hk).toNat, by omega⟩
        have hxn : xn < xs.length := by
          have h := Hin.out _ (List.getElem_mem hk)
          unfold badX at h
          simp at h
          omega
        rw [hx] at d0
        have Hft := Lib.hid (show (flatE xs (l.take (k + 1))).length = (flatE xs (l.take k)).length + (expE xs xn).length by rw [flatE_take xs l hk, hx, List.length_append])
        obtain ⟨bz, oz, rfl, hbz, hcz⟩ := (HSV.out.gr HD.out).at_ (s := 1) (fun _ => rfl) rfl (show xn < (szF [] xs).length by rw [Hszl.out]; exact hxn)
        have d1 := hcz 0 (by omega)
        have hz : (szF [] xs)[xn]'(by rw [Hszl.out]; exact hxn) = (expE xs xn).length := by
          have h := Hsza.out xn hxn
          unfold szAt at h
          rw [Int.toNat_natCast, List.getD_eq_getElem?_getD, List.getElem?_eq_getElem (by rw [Hszl.out]; exact hxn)] at h
          exact h
        simp [Voc.encN] at d1
        rw [hz] at d1
        have hxi2 : (xn : Int) < (xs.length : Int) := by omega
        have Hel := Lib.hid (expE_le xs xn)
        have hml : ((flatE xs (l.take k)).length : Int) ≤ 4096 := by have := HK.out.2.2; omega
        have hel : ((expE xs xn).length : Int) ≤ 256 := by have := Hel.out; omega
        clear hcell hcz hz hba hbz hx hk hxn
        generalize (flatE xs (l.take k)).length = a at HK Hft hml ⊢
        generalize (expE xs xn).length = b at Hft hel d1 Hel
        by_cases hbig : 4096 < a + b
        · have hb1 : (4096 : Int) < (a : Int) + (b : Int) := by omega
          have Hbig := Lib.hid hbig
          clear hbig
          go_wp2_with fail
          go_ret2
          have he := HE.out
          unfold decE at he
          have hf := flatE_le xs l (k + 1)
          rw [Hft.out] at hf
          rw [if_neg (by rw [Hc.out]; decide), if_neg Hany.out, if_pos (by have := Hbig.out; omega)] at he
          injection he with e1 e2
          subst e1 e2
          exact ⟨_, rfl, OB.nil _ _, HG3.out.trans HD.out (fun _ _ h => h)⟩
        · have hb1 : ¬ (4096 : Int) < (a : Int) + (b : Int) := by omega
          have Hbig := Lib.hid hbig
          clear hbig
          go_wp2_with fail
          go_roundg (gk - 1)
          case measure => have := HK.out; have := Hk.out; omega
          case rel => exact ⟨k + 1, by go_num, by rw [Hft.out]; go_num, ⟨Hk.out, by have := HK.out; have := Hk.out; omega, by rw [Hft.out]; have := Hbig.out; omega⟩, HD.out⟩
      · have Hk := Lib.hid (show k = l.length by have := HK.out; omega)
        go_wp2_with fail
        go_meet
        refine Lib.hid ⟨HD.out, ?_⟩
        have h := HK.out.2.2
        rw [Hk.out, List.take_of_length_le (Nat.le_refl _)] at h
        exact h
  case rest =>
  obtain ⟨hg5, hle⟩ := hcut.out
  have HG5 := Lib.hid hg5
  have Hle := Lib.hid hle
  clear hg5 hle hcut HG4
  have Hfin := Lib.hid (show decE xs l = (flatE xs l, 0) by
    unfold decE
    rw [if_neg (by rw [Hc.out]; decide), if_neg Hany.out, if_neg (by have := Hle.out; omega)])
  have HX := Lib.hid (fun wx (hg : Gr w wx) n => rexpand_any n (HS0.out.gr hg) Hw.out Hl.out (by have := expE_le xs n; omega))
  obtain ⟨i1, hi1, hx0, hx1, hx2⟩ := info_parts info_u8
  go_upto_block 4 with (fail)
  go_wp2_with fail
  go_loopg [12, 13] (l.length + 1) (fun m s12 s13 wr => ∃ (k : Nat) (v : Value), v = s12 ∧ s13 = .int .i64 k ∧ Hid (k ≤ l.length ∧ l.length - k < m) ∧ Hid (Gr w3 wr ∧ OB wr w3.heap.size v (flatE xs (l.take k))))
  case atStart => exact ⟨0, .slice none 0 0, rfl, rfl, ⟨Nat.zero_le _, by omega⟩, HG5.out, OB.nil _ _⟩
  case round =>
    obtain ⟨k, v, rfl, rfl, HK, HP⟩ := hrel
    have HGr := Lib.hid (HG3.out.trans HP.out.1 (fun _ _ h => h))
    by_cases hk : k < l.length
    · have f0 : wr.cell? ⟨q1, 0, none⟩ = some (.slice A xs.length cap) := by rw [(HB3.out.fr HP.out.1 (fun h => h)).cell]; rfl
      obtain ⟨ba, oa, rfl, hba, hcell⟩ := (HV0.out.gr HGr.out).at_ (s := 1) (fun _ => rfl) rfl hk
      have d0 := hcell 0 (by omega)
      simp [encI] at d0
      have hki : (k : Int) < l.length := by omega
      have Hk := Lib.hid hk
      obtain ⟨x, hx⟩ : ∃ x, l[k]'hk = x := ⟨_, rfl⟩
      rw [hx] at d0
      have Hft := Lib.hid (show flatE xs (l.take (k + 1)) = flatE xs (l.take k) ++ expE xs x by rw [flatE_take xs l hk, hx])
      have Hsum := Lib.hid (show (flatE xs (l.take k)).length + (expE xs x).length ≤ 4096 from by
        have h := flatE_le xs l (k + 1)
        rw [Hft.out, List.length_append] at h
        have := Hle.out
        omega)
      have Hlt := Lib.hid (And.intro (HB3.out.fr HP.out.1 (fun h => h)).lt hba)
      have HXx := Lib.hid (HX.out wr.drew HGr.out.drew x)
      clear hcell hba hx hk
      go_upto_region 20 with (fail)
      go_region_held3 (fun wx => wx.cell? ⟨q1, 0, none⟩ = some (.slice A xs.length cap) ∧ wx.cell? ⟨ba, oa + k, none⟩ = some (.int .i64 x))
        (first | with_reducible exact ⟨f0', d0'⟩ | exact ⟨f0, d0⟩)
        (first | (go_at_call 75
                  refine HXx.out.mono ?_
                  rintro e w5 ⟨tv, rfl, ho, hg⟩
                  have HG6 := Lib.hid (((Fr.refl wr NoneS).drew).trans hg (fun _ _ h => h))
                  have HT := Lib.hid (show SL encB w5 tv (expE xs x) from SL.of_own (enc := encB) ho rfl)
                  have f0' := (HG6.out.cell (p := ⟨q1, 0, none⟩) Hlt.out.1 (fun h => h)).trans f0
                  have d0' := (HG6.out.cell (p := ⟨ba, oa + k, none⟩) Hlt.out.2 (fun h => h)).trans d0
                  clear ho hg))
      clear f0 d0 f0' d0'
      have HO5 := Lib.hid (HP.out.2.gr HG6.out)
      generalize flatE xs (l.take k) = l1 at HP HO5 Hft Hsum
      generalize expE xs x = l2 at HT Hft Hsum
      go_wp2_with (
        at_builtin
        refine wpList_append_st _ encB rfl (.tmp 77) (.tmp 78) TSB rfl w3.heap.size TU8 i1 (.int .u8 0) 1 1 Try.underlying28 hi1 hx0 hx1 hx2 rfl (by decide) v l1.length _ rfl HO5.out.own tv l2 rfl HT.out (fun _ => rfl) encB_one (by have := Hsum.out; unfold maxLen; omega) (by have := Hsum.out; omega) (HP.out.1.trans HG6.out (fun _ _ h => h)).size ?_
        intro v3 w6 hown3 hg3 hat3 hsp3
        rw [← List.flatMap_append] at hown3
        have HO3 := Lib.hid (show OB w6 w3.heap.size v3 (l1 ++ l2) from ⟨by rw [List.length_append]; exact hown3, hsp3 IsB (fun u hu => by simp [Value.cells] at hu; subst hu; exact ⟨0, rfl⟩) (fun u hu => encB_isB _ u hu) HO5.out.spare⟩)
        have HG7 := Lib.hid (show Gr w3 w6 from (HP.out.1.trans HG6.out (fun _ _ h => h)).trans hg3 (fun i hi e => by have := (HO5.out.own.lt i e).1; omega))
        clear hown3 hg3 hat3 hsp3)
      go_roundg (gk - 1)
      case measure => have := HK.out; have := Hk.out; omega
      case rel => exact ⟨k + 1, _, rfl, by go_num, ⟨Hk.out, by have := HK.out; have := Hk.out; omega⟩, HG7.out, by rw [Hft.out]; exact HO3.out⟩
    · have Hk := Lib.hid (show k = l.length by have := HK.out; omega)
      go_wp2_with fail
      go_ret2
      have he := HE.out
      rw [Hfin.out] at he
      injection he with e1 e2
      subst e1 e2
      refine ⟨v, rfl, ?_, HGr.out⟩
      have h := HP.out.2
      rw [Hk.out, List.take_of_length_le (Nat.le_refl _)] at h
      exact h.base HG3.out.size
end Bpe
end Go.Proofs.Ytobedpohoellkaa
