/- the reference's Decode. -/
import Derived.Test.YtildhlneldoffaaEWh
import Derived.Test.YtildhlneldoffaaFbytes
import Derived.Deep.DeepCutAuto
set_option linter.unusedVariables false
set_option linter.unusedSimpArgs false
namespace Go.Proofs.Ytildhlneldoffaa
open Go.RowKit
open Voc
namespace Bpe
theorem szAt_len {xs : List Pc} (hc : (checkE xs).1 = 0) {n : Nat} (hn : n < xs.length) : szAt (szF [] xs) (n : Int) = (expE xs n).length := by
  have h := size_len xs n
  unfold sizeE at h
  rw [if_neg (by rw [hc]; decide), if_neg (by omega)] at h
  simp only at h
  omega
set_option maxRecDepth 20000 in
set_option maxHeartbeats 6400000 in
theorem rdecode_any {w : World} {v vl : Value} {xs : List Pc} {l : List Int} (HS : SL encP w v xs) (HV : SL encI w vl l) (hw : ∀ q ∈ xs, wfP q) (hl : xs.length ≤ 1048576) (hll : l.length ≤ 1048576) :
    Calls Try.prog 19 #[.agg #[v], vl] w fun e w' => ∃ r, e = .returned (.tuple #[r, .int .i64 (decE xs l).2]) ∧ OB w' w.heap.size r (decE xs l).1 ∧ Gr w w' := by
  obtain ⟨A, cap, rfl⟩ := SL.form HS
  obtain ⟨A2, cap2, rfl⟩ := SL.form HV
  have HG := Lib.hid ((Fr.refl w NoneS).alloc (.cells #[.slice A xs.length cap] 24))
  have HB := Lib.hid (Blk.new w 24 #[.slice A xs.length cap])
  have HS0 := Lib.hid HS
  have HV0 := Lib.hid HV
  have Hw := Lib.hid hw
  have Hl := Lib.hid hl
  have Hll := Lib.hid hll
  have hli : (l.length : Int) ≤ 1048576 := by omega
  have hxi : (xs.length : Int) ≤ 1048576 := by omega
  obtain ⟨⟨L, E⟩, hE⟩ : ∃ y, decE xs l = y := ⟨_, rfl⟩
  rw [hE]
  have HE := Lib.hid hE
  simp only
  obtain ⟨⟨E0, at0⟩, hC⟩ : ∃ y, checkE xs = y := ⟨_, rfl⟩
  have HSz := Lib.hid (rsizes_any (HS.gr HG.out) hw hl E0 at0 hC)
  have HC := Lib.hid hC
  obtain ⟨q1, hq1⟩ : ∃ q, w.heap.size = q := ⟨_, rfl⟩
  rw [hq1] at HB
  have Hq1 := Lib.hid hq1
  clear HS HV hw hl hll hE hC
  go_enter Try.func19, Try.ntmps19
  go_upto_region 1 with (fail)
  clear hq1
  generalize World.alloc w _ = wa at HG HB HSz ⊢
  have f0 : wa.cell? ⟨q1, 0, none⟩ = some (.slice A xs.length cap) := by rw [HB.out.cell]; rfl
  by_cases hE0 : E0 = 0
  case neg =>
    have he := HE.out
    unfold decE at he
    rw [HC.out, if_pos hE0] at he
    injection he with e1 e2
    subst e1 e2
    have hE1 : (E0 != 0) = true := bne_iff_ne.2 hE0
    have HSn := Lib.hid (HSz.out.mono fun e w' h => (show Gr wa w' ∧ e = .returned (.tuple #[.slice none 0 0, .int .i64 E0, .int .i64 at0]) from ⟨h.1, (h.2.resolve_right (fun h' => hE0 h'.1)).2⟩))
    clear hE0
    go_wp2_with (go_at_call 45; refine HSn.out.mono ?_; rintro e w3 ⟨hg, rfl⟩; have HG3 := Lib.hid hg; clear hg)
    go_ret2
    exact ⟨_, rfl, OB.nil _ _, HG.out.trans HG3.out (fun _ _ h => h)⟩
  subst hE0
  have Hc := Lib.hid (show (checkE xs).1 = 0 by rw [HC.out])
  have HSy := Lib.hid (HSz.out.mono fun e w' h => (show Gr wa w' ∧ ∃ sv, e = .returned (.tuple #[sv, .int .i64 0, .int .i64 0]) ∧ w'.ownsRow (wa.heap.size + 1) TI 1 sv xs.length ((szF [] xs).flatMap encN) from by
    obtain ⟨h1, h2⟩ := h
    rcases h2 with ⟨h3, _⟩ | ⟨_, h3, sv, h4, h5⟩
    · exact absurd rfl h3
    · exact ⟨h1, sv, h4, h5⟩))
  have Hszl := Lib.hid (show (szF [] xs).length = xs.length from (good_of Hc.out).ok.len)
  have Hsza := Lib.hid (fun n (hn : n < xs.length) => szAt_len Hc.out hn)
  go_upto_block 0 with (go_at_call 45; refine HSy.out.mono ?_; rintro e w3 ⟨hg, sv, rfl, hsv⟩; obtain ⟨Az, cz, rfl⟩ := own_formN hsv; have HSV := Lib.hid (show SL encN w3 (.slice Az xs.length cz) (szF [] xs) from SL.of_own (enc := encN) hsv Hszl.out.symm); have HG3 := Lib.hid (HG.out.trans hg (fun _ _ h => h)); have HB3 := Lib.hid (HB.out.fr hg (fun h => h)); clear hg hsv)
  clear f0
  go_cut [] (fun wx => Hid (Gr w3 wx ∧ ∀ x ∈ l, badX xs x = false))
  case first =>
    go_wp2_with fail
    go_loopg [9] (l.length + 1) (fun m s9 wr => ∃ k : Nat, s9 = .int .i64 k ∧ Hid (k ≤ l.length ∧ l.length - k < m ∧ ∀ x ∈ l.take k, badX xs x = false) ∧ Hid (Gr w3 wr))
    case atStart => exact ⟨0, rfl, ⟨Nat.zero_le _, by omega, fun x hx => by simp at hx⟩, Fr.refl _ _⟩
    case round =>
      obtain ⟨k, rfl, HK, HD⟩ := hrel
      have f0 : wr.cell? ⟨q1, 0, none⟩ = some (.slice A xs.length cap) := by rw [(HB3.out.fr HD.out (fun h => h)).cell]; rfl
      by_cases hk : k < l.length
      · obtain ⟨ba, oa, rfl, hba, hcell⟩ := (HV0.out.gr (HG3.out.trans HD.out (fun _ _ h => h))).at_ (s := 1) (fun _ => rfl) rfl hk
        have d0 := hcell 0 (by omega)
        simp [encI] at d0
        have hki : (k : Int) < l.length := by omega
        have Hk := Lib.hid hk
        obtain ⟨x, hx⟩ : ∃ x, l[k]'hk = x := ⟨_, rfl⟩
        rw [hx] at d0
        have Hmem := Lib.hid (show x ∈ l by rw [← hx]; exact List.getElem_mem hk)
        have Htk := Lib.hid (show badX xs x = false → ∀ y ∈ l.take (k + 1), badX xs y = false from fun hb y hy => by
          rw [List.take_succ_eq_append_getElem hk] at hy
          rcases List.mem_append.1 hy with h | h
          · exact HK.out.2.2 y h
          · simp at h; rw [h, hx, hb])
        clear hcell hba hx hk
        have Hbad := Lib.hid (fun (hb : badX xs x = true) => (show decE xs l = ([], 2) by
          unfold decE
          rw [if_neg (by rw [Hc.out]; decide), if_pos (List.any_eq_true.2 ⟨x, Hmem.out, hb⟩)]))
        by_cases h1 : x < 0
        case pos =>
          have Hb := Lib.hid (Hbad.out (show badX xs x = true by unfold badX; rw [decide_eq_true h1]; rfl))
          have h1' : decide (x < 0) = true := decide_eq_true h1
          clear h1
          go_upto_region 7 with (fail)
          go_quiet (fail)
          go_wp2_with fail
          go_ret2
          have he := HE.out
          rw [Hb.out] at he
          injection he with e1 e2
          subst e1 e2
          exact ⟨_, rfl, OB.nil _ _, (HG3.out.trans HD.out (fun _ _ h => h)).drewN _⟩
        by_cases h2 : (xs.length : Int) ≤ x
        case pos =>
          have Hb := Lib.hid (Hbad.out (show badX xs x = true by unfold badX; rw [decide_eq_true h2, Bool.or_true]))
          have h1' : decide (x < 0) = false := decide_eq_false h1
          have h2' : decide ((xs.length : Int) ≤ x) = true := decide_eq_true h2
          clear h1
          go_upto_region 7 with (fail)
          go_quiet (fail)
          go_wp2_with fail
          go_ret2
          have he := HE.out
          rw [Hb.out] at he
          injection he with e1 e2
          subst e1 e2
          exact ⟨_, rfl, OB.nil _ _, (HG3.out.trans HD.out (fun _ _ h => h)).drewN _⟩
        have Hb := Lib.hid (show badX xs x = false by unfold badX; rw [decide_eq_false h1, decide_eq_false h2]; rfl)
        have h1' : decide (x < 0) = false := decide_eq_false h1
        have h2' : decide ((xs.length : Int) ≤ x) = false := decide_eq_false h2
        clear h1 h2
        go_upto_region 7 with (fail)
        go_quiet (fail)
        go_wp2_with fail
        go_roundg (gk - 1)
        case measure => have := HK.out; have := Hk.out; omega
        case rel => exact ⟨k + 1, by go_num, ⟨Hk.out, by have := HK.out; have := Hk.out; omega, Htk.out Hb.out⟩, HD.out.drewN _⟩
      · have Hk := Lib.hid (show k = l.length by have := HK.out; omega)
        go_wp2_with fail
        go_meet
        refine Lib.hid ⟨HD.out, fun x hx => HK.out.2.2 x (by rw [Hk.out, List.take_of_length_le (Nat.le_refl _)]; exact hx)⟩
  case rest =>
  obtain ⟨hg4, hin⟩ := hcut.out
  have HG4 := Lib.hid hg4
  have Hin := Lib.hid hin
  clear hg4 hin hcut
  have Hany := Lib.hid (show ¬ (l.any (badX xs) = true) by rw [List.any_eq_true]; rintro ⟨y, hy, hy2⟩; rw [Hin.out y hy] at hy2; cases hy2)
  go_upto_block 2 with (fail)
  go_cut [] (fun wx => Hid (Gr w3 wx ∧ (flatE xs l).length ≤ 4096))
  case first =>
    go_wp2_with fail
    go_loopg [10, 11] (l.length + 1) (fun m s10 s11 wr => ∃ k : Nat, s11 = .int .i64 k ∧ s10 = .int .i64 ((flatE xs (l.take k)).length : Nat) ∧ Hid (k ≤ l.length ∧ l.length - k < m ∧ (flatE xs (l.take k)).length ≤ 4096) ∧ Hid (Gr w3 wr))
    case atStart => exact ⟨0, rfl, rfl, ⟨Nat.zero_le _, by omega, Nat.zero_le _⟩, HG4.out⟩
    case round =>
      obtain ⟨k, rfl, rfl, HK, HD⟩ := hrel
      by_cases hk : k < l.length
      · obtain ⟨ba, oa, rfl, hba, hcell⟩ := (HV0.out.gr (HG3.out.trans HD.out (fun _ _ h => h))).at_ (s := 1) (fun _ => rfl) rfl hk
        have d0 := hcell 0 (by omega)
        simp [encI] at d0
        have hki : (k : Int) < l.length := by omega
        have Hk := Lib.hid hk
        obtain ⟨xn, hx⟩ : ∃ x : Nat, l[k]'hk = x := by
          have h := Hin.out _ (List.getElem_mem hk)
          unfold badX at h
          simp at h
          exact ⟨(l[k]'hk).toNat, by omega⟩
        have hxn : xn < xs.length := by
          have h := Hin.out _ (List.getElem_mem hk)
          unfold badX at h
          simp at h
          omega
        rw [hx] at d0
        have Hft := Lib.hid (show (flatE xs (l.take (k + 1))).length = (flatE xs (l.take k)).length + (expE xs xn).length by rw [flatE_take xs l hk, hx, List.length_append])
        obtain ⟨bz, oz, rfl, hbz, hcz⟩ := (HSV.out.gr HD.out).at_ (s := 1) (fun _ => rfl) rfl (show xn < (szF [] xs).length by rw [Hszl.out]; exact hxn)
        have d1 := hcz 0 (by omega)
        have hz : (szF [] xs)[xn]'(by rw [Hszl.out]; exact hxn) = (expE xs xn).length := by
          have h := Hsza.out xn hxn
          unfold szAt at h
          rw [Int.toNat_natCast, List.getD_eq_getElem?_getD, List.getElem?_eq_getElem (by rw [Hszl.out]; exact hxn)] at h
          exact h
        simp [encN] at d1
        rw [hz] at d1
        have hxi2 : (xn : Int) < (xs.length : Int) := by omega
        have Hel := Lib.hid (expE_le xs xn)
        have hml : ((flatE xs (l.take k)).length : Int) ≤ 4096 := by have := HK.out.2.2; omega
        have hel : ((expE xs xn).length : Int) ≤ 256 := by have := Hel.out; omega
        clear hcell hcz hz hba hbz hx hk hxn
        generalize (flatE xs (l.take k)).length = a at HK Hft hml ⊢
        generalize (expE xs xn).length = b at Hft hel d1 Hel
        by_cases hbig : 4096 < a + b
        · have hb1 : (4096 : Int) < (a : Int) + (b : Int) := by omega
          have Hbig := Lib.hid hbig
          clear hbig
          go_wp2_with fail
          go_ret2
          have he := HE.out
          unfold decE at he
          have hf := flatE_le xs l (k + 1)
          rw [Hft.out] at hf
          rw [if_neg (by rw [Hc.out]; decide), if_neg Hany.out, if_pos (by have := Hbig.out; omega)] at he
          injection he with e1 e2
          subst e1 e2
          exact ⟨_, rfl, OB.nil _ _, HG3.out.trans HD.out (fun _ _ h => h)⟩
        · have hb1 : ¬ (4096 : Int) < (a : Int) + (b : Int) := by omega
          have Hbig := Lib.hid hbig
          clear hbig
          go_wp2_with fail
          go_roundg (gk - 1)
          case measure => have := HK.out; have := Hk.out; omega
          case rel => exact ⟨k + 1, by go_num, by rw [Hft.out]; go_num, ⟨Hk.out, by have := HK.out; have := Hk.out; omega, by rw [Hft.out]; have := Hbig.out; omega⟩, HD.out⟩
      · have Hk := Lib.hid (show k = l.length by have := HK.out; omega)
        go_wp2_with fail
        go_meet
        refine Lib.hid ⟨HD.out, ?_⟩
        have h := HK.out.2.2
        rw [Hk.out, List.take_of_length_le (Nat.le_refl _)] at h
        exact h
  case rest =>
  obtain ⟨hg5, hle⟩ := hcut.out
  have HG5 := Lib.hid hg5
  have Hle := Lib.hid hle
  clear hg5 hle hcut HG4
  have Hfin := Lib.hid (show decE xs l = (flatE xs l, 0) by
    unfold decE
    rw [if_neg (by rw [Hc.out]; decide), if_neg Hany.out, if_neg (by have := Hle.out; omega)])
  have HX := Lib.hid (fun wx (hg : Gr w wx) n => rexpand_any n (HS0.out.gr hg) Hw.out Hl.out (by have := expE_le xs n; omega))
  obtain ⟨i1, hi1, hx0, hx1, hx2⟩ := info_parts info_u8
  go_upto_block 4 with (fail)
  go_wp2_with fail
  go_loopg [12, 13] (l.length + 1) (fun m s12 s13 wr => ∃ (k : Nat) (v : Value), v = s12 ∧ s13 = .int .i64 k ∧ Hid (k ≤ l.length ∧ l.length - k < m) ∧ Hid (Gr w3 wr ∧ OB wr w3.heap.size v (flatE xs (l.take k))))
  case atStart => exact ⟨0, .slice none 0 0, rfl, rfl, ⟨Nat.zero_le _, by omega⟩, HG5.out, OB.nil _ _⟩
  case round =>
    obtain ⟨k, v, rfl, rfl, HK, HP⟩ := hrel
    have HGr := Lib.hid (HG3.out.trans HP.out.1 (fun _ _ h => h))
    by_cases hk : k < l.length
    · have f0 : wr.cell? ⟨q1, 0, none⟩ = some (.slice A xs.length cap) := by rw [(HB3.out.fr HP.out.1 (fun h => h)).cell]; rfl
      obtain ⟨ba, oa, rfl, hba, hcell⟩ := (HV0.out.gr HGr.out).at_ (s := 1) (fun _ => rfl) rfl hk
      have d0 := hcell 0 (by omega)
      simp [encI] at d0
      have hki : (k : Int) < l.length := by omega
      have Hk := Lib.hid hk
      obtain ⟨x, hx⟩ : ∃ x, l[k]'hk = x := ⟨_, rfl⟩
      rw [hx] at d0
      have Hft := Lib.hid (show flatE xs (l.take (k + 1)) = flatE xs (l.take k) ++ expE xs x by rw [flatE_take xs l hk, hx])
      have Hsum := Lib.hid (show (flatE xs (l.take k)).length + (expE xs x).length ≤ 4096 from by
        have h := flatE_le xs l (k + 1)
        rw [Hft.out, List.length_append] at h
        have := Hle.out
        omega)
      have Hlt := Lib.hid (And.intro (HB3.out.fr HP.out.1 (fun h => h)).lt hba)
      have HXx := Lib.hid (HX.out wr.drew HGr.out.drew x)
      clear hcell hba hx hk
      go_upto_region 20 with (fail)
      go_region_held3 (fun wx => wx.cell? ⟨q1, 0, none⟩ = some (.slice A xs.length cap) ∧ wx.cell? ⟨ba, oa + k, none⟩ = some (.int .i64 x))
        (first | with_reducible exact ⟨f0', d0'⟩ | exact ⟨f0, d0⟩)
        (first | (go_at_call 46
                  refine HXx.out.mono ?_
                  rintro e w5 ⟨tv, rfl, ho, hg⟩
                  have HG6 := Lib.hid (((Fr.refl wr NoneS).drew).trans hg (fun _ _ h => h))
                  have HT := Lib.hid (show SL encB w5 tv (expE xs x) from SL.of_own (enc := encB) ho rfl)
                  have f0' := (HG6.out.cell (p := ⟨q1, 0, none⟩) Hlt.out.1 (fun h => h)).trans f0
                  have d0' := (HG6.out.cell (p := ⟨ba, oa + k, none⟩) Hlt.out.2 (fun h => h)).trans d0
                  clear ho hg))
      clear f0 d0 f0' d0'
      have HO5 := Lib.hid (HP.out.2.gr HG6.out)
      generalize flatE xs (l.take k) = l1 at HP HO5 Hft Hsum
      generalize expE xs x = l2 at HT Hft Hsum
      go_wp2_with (
        at_builtin
        refine wpList_append_st _ encB rfl (.tmp 77) (.tmp 78) TSB rfl w3.heap.size TU8 i1 (.int .u8 0) 1 1 Try.underlying25 hi1 hx0 hx1 hx2 rfl (by decide) v l1.length _ rfl HO5.out.own tv l2 rfl HT.out (fun _ => rfl) encB_one (by have := Hsum.out; unfold maxLen; omega) (by have := Hsum.out; omega) (HP.out.1.trans HG6.out (fun _ _ h => h)).size ?_
        intro v3 w6 hown3 hg3 hat3 hsp3
        rw [← List.flatMap_append] at hown3
        have HO3 := Lib.hid (show OB w6 w3.heap.size v3 (l1 ++ l2) from ⟨by rw [List.length_append]; exact hown3, hsp3 IsB (fun u hu => by simp [Value.cells] at hu; subst hu; exact ⟨0, rfl⟩) (fun u hu => encB_isB _ u hu) HO5.out.spare⟩)
        have HG7 := Lib.hid (show Gr w3 w6 from (HP.out.1.trans HG6.out (fun _ _ h => h)).trans hg3 (fun i hi e => by have := (HO5.out.own.lt i e).1; omega))
        clear hown3 hg3 hat3 hsp3)
      go_roundg (gk - 1)
      case measure => have := HK.out; have := Hk.out; omega
      case rel => exact ⟨k + 1, _, rfl, by go_num, ⟨Hk.out, by have := HK.out; have := Hk.out; omega⟩, HG7.out, by rw [Hft.out]; exact HO3.out⟩
    · have Hk := Lib.hid (show k = l.length by have := HK.out; omega)
      go_wp2_with fail
      go_ret2
      have he := HE.out
      rw [Hfin.out] at he
      injection he with e1 e2
      subst e1 e2
      refine ⟨v, rfl, ?_, HGr.out⟩
      have h := HP.out.2
      rw [Hk.out, List.take_of_length_le (Nat.le_refl _)] at h
      exact h.base HG3.out.size
end Bpe
end Go.Proofs.Ytildhlneldoffaa
