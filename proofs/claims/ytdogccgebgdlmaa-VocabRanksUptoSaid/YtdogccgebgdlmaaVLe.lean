/- The walk of VocabRanks. -/
import Derived.Test.YtdogccgebgdlmaaVWk
import Derived.Test.YtdogccgebgdlmaaVRd
set_option linter.unusedVariables false
set_option linter.unusedSimpArgs false
namespace Go.Proofs.Ytdogccgebgdlmaa
open Go.RowKit
open Voc
theorem jF_at {xs : List Pc} {i a : Nat} (h : (joinsF xs)[i]? = some a) : isJ xs a = true ∧ a < xs.length := by
  have := mem_joinsN.1 (List.mem_of_getElem? h)
  exact ⟨this.2, this.1⟩
theorem jF_asc {xs : List Pc} (H : Inv xs) {i a b : Nat} (h1 : (joinsF xs)[i]? = some a) (h2 : (joinsF xs)[i + 1]? = some b) : rk xs a < rk xs b := by
  have h := joinsN_asc H xs.length
  unfold Asc at h
  rw [List.pairwise_iff_getElem] at h
  obtain ⟨l1, e1⟩ := List.getElem?_eq_some_iff.1 h1
  obtain ⟨l2, e2⟩ := List.getElem?_eq_some_iff.1 h2
  have := h i (i + 1) l1 l2 (by omega)
  rw [← e1, ← e2]
  exact this
set_option maxRecDepth 20000 in
set_option maxHeartbeats 4000000 in
theorem VocabRanks_walk (w : World) (v : Value) (xs : List Pc) (hs : SL encP w v xs) (hw : ∀ x ∈ xs, wfP x) (hl : xs.length ≤ 1048576) :
    Calls Try.prog 6 #[.agg #[v]] w fun e w' => e = .returned (.bool true) ∧ Gr w w' := by
  have HS := Lib.hid hs
  obtain ⟨A, cap, rfl⟩ := SL.form hs
  have HG := Lib.hid ((Fr.refl w NoneS).alloc (.cells #[.slice A xs.length cap] 24))
  have HB := Lib.hid (Blk.new w 24 #[.slice A xs.length cap])
  have HM := Lib.hid (many_any (HS.out.gr HG.out))
  have HE4 := Lib.hid (fun w' (hg : Gr w w') => joins_all (hs.gr hg) hw hl)
  have HE1 := Lib.hid (fun w' (hg : Gr w w') => check_any (hs.gr hg) hw hl)
  have Hl := Lib.hid hl
  have HX := Lib.hid (show ((checkE xs).1 = 0 → Voc.Good xs ∧ jE xs = jI xs) ∧ ((checkE xs).1 ≠ 0 → jE xs = []) from ⟨fun h => ⟨good_of h, by unfold jE; rw [if_pos h]⟩, fun h => by unfold jE; rw [if_neg h]⟩)
  generalize (checkE xs).2 = at_ at HE1
  generalize (checkE xs).1 = E at HE1 HX
  clear hs hw hl
  go_enter Try.func6, Try.ntmps6
  go_upto_region 1 with (fail)
  generalize World.alloc w _ = w1 at HB HG HM ⊢
  obtain ⟨q, hq⟩ : ∃ q, w.heap.size = q := ⟨_, rfl⟩
  rw [hq] at HB ⊢
  have Hq := Lib.hid hq
  have c0 : w1.cell? ⟨q, 0, none⟩ = some (.slice A xs.length cap) := by rw [HB.out.cell]; rfl
  clear hq
  by_cases h7 : 700 < xs.length
  · rw [decide_eq_true h7] at HM
    go_wp2_with (first
      | (go_at_call 11; refine HM.out.mono ?_; rintro e w2 ⟨rfl, hg⟩; have HG2 := Lib.hid hg; clear hg)
      | (go_at_call 13; refine (works_any w2).mono ?_; rintro e w3 ⟨rfl, hg⟩; have HG3 := Lib.hid hg; clear hg))
    go_ret
    exact ⟨rfl, (HG.out.trans HG2.out (fun _ _ h => h)).trans HG3.out (fun _ _ h => h)⟩
  rw [decide_eq_false h7] at HM
  have H7 := Lib.hid h7
  have hx7 : (xs.length : Int) ≤ 700 := by omega
  clear h7
  go_upto_region 3 with (go_at_call 11; refine HM.out.mono ?_; rintro e w2 ⟨rfl, hg⟩; have HG2 := Lib.hid (HG.out.trans hg (fun _ _ h => h)); have HB2 := Lib.hid (HB.out.fr hg (fun h => h)); clear hg)
  have c2 : w2.cell? ⟨q, 0, none⟩ = some (.slice A xs.length cap) := by rw [HB2.out.cell]; rfl
  go_upto_region 4 with (go_at_call 21; refine (HE4.out _ HG2.out).mono ?_; rintro e w3 ⟨ja, rfl, ho, _, hg⟩; have HO3 := Lib.hid ho; have HG3 := Lib.hid (HG2.out.trans hg (fun _ _ h => h)); have HB3 := Lib.hid (HB2.out.fr hg (fun h => h)); clear hg ho)
  have c3 : w3.cell? ⟨q, 0, none⟩ = some (.slice A xs.length cap) := by rw [HB3.out.cell]; rfl
  obtain ⟨Aj, cj, rfl⟩ := own_formN HO3.out
  go_upto_region 5 with (go_at_call 12; refine (HE1.out _ HG3.out).mono ?_; rintro e w4 ⟨rfl, hg⟩; have HO4 := Lib.hid (hg.owns HO3.out (fun _ _ h => h)); have HG4 := Lib.hid (HG3.out.trans hg (fun _ _ h => h)); have HB4 := Lib.hid (HB3.out.fr hg (fun h => h)); clear hg)
  have c4 : w4.cell? ⟨q, 0, none⟩ = some (.slice A xs.length cap) := by rw [HB4.out.cell]; rfl
  by_cases h0 : E = 0
  · obtain ⟨hgd, hj⟩ := HX.out.1 h0
    subst h0
    have hjl : (jE xs).length = (jl xs xs.length).length := by rw [hj, jI_len]
    have HSj : SL Voc.encI w4 (.slice Aj (jE xs).length cj) (jE xs) := SL.of_own HO4.out rfl
    rw [hj, jI_len] at HSj
    replace HSj := Lib.hid HSj
    have Hjle := Lib.hid (jl_le xs xs.length)
    rw [hjl]
    have Hgd := Lib.hid hgd
    have Hjl := Lib.hid (show (jI xs).length = (jl xs xs.length).length from jI_len xs)
    clear hgd hj hjl
    have HSp := Lib.hid (HS.out.gr HG4.out)
    obtain ⟨nj, hnj⟩ : ∃ n, (jl xs xs.length).length = n := ⟨_, rfl⟩
    rw [hnj] at HSj Hjle Hjl ⊢
    have Hnj := Lib.hid hnj
    clear hnj
    have hnj7 : (nj : Int) ≤ 700 := by have := Hjle.out; omega
    go_upto_block 0 with (fail)
    go_cut [6] (fun s6 wx => s6 = .int .i64 (nj : Nat) ∧ wx = w4)
    case first =>
      go_wp2_with fail
      go_loopg [6, 7] (xs.length + 1) (fun m s6 s7 wr => ∃ k : Nat, s6 = .int .i64 ((jl xs k).length : Nat) ∧ s7 = .int .i64 k ∧ wr = w4 ∧ Hid (k ≤ xs.length ∧ xs.length - k < m))
      case atStart => exact ⟨0, rfl, rfl, rfl, Nat.zero_le _, by omega⟩
      case round =>
        obtain ⟨k, rfl, rfl, rfl, HK⟩ := hrel
        by_cases hk : k < xs.length
        · obtain ⟨b1, o1, rfl, _, hc1⟩ := HSp.out.at_ (s := 5) (fun _ => rfl) rfl hk
          have x0 := hc1 0 (by omega)
          clear hc1
          have Hxj := Lib.hid (isJ_of (List.getElem?_eq_getElem hk))
          generalize xs[k] = x at x0 Hxj
          obtain ⟨j1, p1, l1, r1, k1⟩ := x
          simp [encP] at x0
          simp only at Hxj
          have hki : (k : Int) < xs.length := by omega
          have hjk : ((jl xs k).length : Int) ≤ 700 := by have := jl_le xs k; omega
          have hk7 : (k : Int) ≤ 700 := by omega
          have Hst := Lib.hid (jl_succ xs k)
          rw [Hxj.out] at Hst
          have Hk := Lib.hid hk
          clear hk
          cases j1 with
          | false =>
            have hs : (jl xs (k + 1)).length = (jl xs k).length := by rw [Hst.out]; rfl
            have Hs := Lib.hid hs
            clear hs
            generalize (jl xs k).length = jk at hjk Hs ⊢
            go_wp2_with fail
            go_roundg (gk - 1)
            case measure => have := HK.out; omega
            case rel => exact ⟨k + 1, by rw [Hs.out], by go_num, rfl, by have := Hk.out; omega, by have := HK.out; omega⟩
          | true =>
            have hs : (jl xs (k + 1)).length = (jl xs k).length + 1 := by rw [Hst.out]; simp
            have Hs := Lib.hid hs
            clear hs
            generalize (jl xs k).length = jk at hjk Hs ⊢
            go_wp2_with fail
            go_roundg (gk - 1)
            case measure => have := HK.out; omega
            case rel => exact ⟨k + 1, by rw [Hs.out]; go_num, by go_num, rfl, by have := Hk.out; omega, by have := HK.out; omega⟩
        · have hkk : decide ((k : Int) < xs.length) = false := decide_eq_false (by omega)
          obtain rfl : k = xs.length := by have := HK.out; omega
          go_wp2_with fail
          go_meet
          exact ⟨by rw [Hnj.out], rfl⟩
    case rest =>
    obtain ⟨rfl, rfl⟩ := hcut
    go_wp2_with fail
    go_loopg [8] (nj + 1) (fun m s8 wr => ∃ k : Nat, s8 = .int .i64 k ∧ Hid (Dr wc wr) ∧ Hid (k ≤ nj ∧ nj - k < m))
    case atStart => exact ⟨0, rfl, Dr.refl _, Nat.zero_le _, by omega⟩
    case round =>
      obtain ⟨k, rfl, HD, HK⟩ := hrel
      by_cases hk : k < nj
      · have e0 : wr.cell? ⟨q, 0, none⟩ = some (.slice A xs.length cap) := by rw [(HB4.out.fr HD.out.gr (fun h => h)).cell]; rfl
        have hkl : k < (joinsF xs).length := by have := Hjl.out; unfold jI at this; rw [List.length_map] at this; omega
        obtain ⟨b2, o2, rfl, _, hc2⟩ := (HSj.out.gr HD.out.gr).at_ (s := 1) (fun _ => rfl) rfl (show k < (jI xs).length by rw [Hjl.out]; exact hk)
        have y0 := hc2 0 (by omega)
        have hga := List.getElem?_eq_getElem hkl
        have hla : (jI xs)[k]'(by rw [Hjl.out]; exact hk) = (((joinsF xs)[k] : Nat) : Int) := by simp [jI]
        rw [hla] at y0
        generalize (joinsF xs)[k] = a at y0 hga
        simp [Voc.encI] at y0
        clear hla hc2
        have Hga := Lib.hid hga
        clear hga
        obtain ⟨haj, hax⟩ := jF_at Hga.out
        obtain ⟨b1, o1, rfl, _, hc1⟩ := (HSp.out.gr HD.out.gr).at_ (s := 5) (fun _ => rfl) rfl hax
        have x0 := hc1 0 (by omega)
        have x4 := hc1 4 (by omega)
        clear hc1
        have hgx := List.getElem?_eq_getElem hax
        have Hrk := Lib.hid (rk_of hgx)
        rw [isJ_of hgx] at haj
        have hai : (a : Int) < xs.length := by omega
        have hag : decide (xs.length ≤ a) = false := decide_eq_false (by omega)
        have ha0 : decide ((a : Int) < 0) = false := decide_eq_false (by omega)
        clear hgx
        generalize xs[a] = x at x0 x4 haj Hrk
        clear hax hkl
        obtain ⟨j1, p1, l1, r1, k1⟩ := x
        simp only at haj Hrk
        subst haj
        simp [encP] at x0 x4
        rw [← Nat.add_assoc] at x4
        have hki : (k : Int) < nj := by omega
        have Hk := Lib.hid hk
        clear hk
        rcases Nat.eq_zero_or_pos k with h0 | hpos
        · have hgt : decide (0 < k) = false := decide_eq_false (by omega)
          have H0 := Lib.hid h0
          clear h0
          go_wp2_with fail
          go_quiet (fail)
          go_wp2_with fail
          go_roundg (gk - 1)
          case measure => have := HK.out; omega
          case rel => exact ⟨k + 1, by go_num, HD.out.drewN _, by have := Hk.out; omega, by have := HK.out; omega⟩
        · obtain ⟨m, hm⟩ : ∃ m, k = m + 1 := ⟨k - 1, by omega⟩
          have Hm := Lib.hid hm
          have hkl2 : m < (joinsF xs).length := by have := Hjl.out; unfold jI at this; rw [List.length_map] at this; have := Hk.out; have := Hm.out; omega
          obtain ⟨b3, o3, hA3, _, hc3⟩ := (HSj.out.gr HD.out.gr).at_ (s := 1) (fun _ => rfl) rfl (show m < (jI xs).length by rw [Hjl.out]; have := Hk.out; have := Hm.out; omega)
          injection hA3 with hA3
          injection hA3 with hA3 hA4
          subst hA3 hA4
          have y1 := hc3 0 (by omega)
          have hgb := List.getElem?_eq_getElem hkl2
          have hlb : (jI xs)[m]'(by rw [Hjl.out]; have := Hk.out; have := Hm.out; omega) = (((joinsF xs)[m] : Nat) : Int) := by simp [jI]
          rw [hlb] at y1
          generalize (joinsF xs)[m] = b at y1 hgb
          simp [Voc.encI] at y1
          clear hlb hc3
          have hlt := jF_asc Hgd.out.inv hgb (by rw [← Hm.out]; exact Hga.out)
          obtain ⟨hbj, hbx⟩ := jF_at hgb
          obtain ⟨b4, o4, hA3, _, hc4⟩ := (HSp.out.gr HD.out.gr).at_ (s := 5) (fun _ => rfl) rfl hbx
          injection hA3 with hA3
          injection hA3 with hA3 hA4
          subst hA3 hA4
          have z4 := hc4 4 (by omega)
          clear hc4
          have hgy := List.getElem?_eq_getElem hbx
          have hbi : (b : Int) < xs.length := by omega
          have hrb := rk_of hgy
          simp [encP] at z4
          rw [← hrb, ← Nat.add_assoc] at z4
          rw [Hrk.out] at hlt
          clear hgy hrb hgb hkl2 hbj hbx
          generalize rk xs b = kb at z4 hlt
          have hge : decide (kb ≥ k1) = false := decide_eq_false (by omega)
          have hge' : ¬ kb ≥ k1 := by omega
          have hm1 : (k : Int) - 1 = (m : Int) := by omega
          have hw1 : IntKind.i64.wrap ((k : Int) - 1) = (m : Int) := by rw [hm1]; exact IntWalk.i64_in _ ⟨by omega, by omega⟩
          have hmn : (m : Int) < nj := by omega
          have hgt : decide (0 < k) = true := decide_eq_true (by omega)
          clear hlt hm hpos
          go_wp2_with fail
          go_quiet (fail)
          go_wp2_with fail
          go_roundg (gk - 1)
          case measure => have := HK.out; omega
          case rel => exact ⟨k + 1, by go_num, HD.out.drewN _, by have := Hk.out; have := Hm.out; omega, by have := HK.out; omega⟩
      · have hkk : decide ((k : Int) < nj) = false := decide_eq_false (by omega)
        obtain rfl : k = nj := by have := HK.out; omega
        go_wp2_with (go_at_call 13; refine (works_any wr).mono ?_; rintro e w5 ⟨rfl, hg⟩; have HG5 := Lib.hid hg; clear hg)
        go_ret
        exact ⟨by simp, (HG4.out.trans HD.out.gr (fun _ _ h => h)).trans HG5.out (fun _ _ h => h)⟩
  · have H0 := Lib.hid h0
    have hj := HX.out.2 h0
    have h1 : (E != 0) = true := bne_iff_ne.2 h0
    rw [hj]
    clear hj h0
    go_wp2_with (go_at_call 13; refine (works_any w4).mono ?_; rintro e w5 ⟨rfl, hg⟩; have HG5 := Lib.hid hg; clear hg)
    go_ret
    exact ⟨rfl, HG4.out.trans HG5.out (fun _ _ h => h)⟩
end Go.Proofs.Ytdogccgebgdlmaa
