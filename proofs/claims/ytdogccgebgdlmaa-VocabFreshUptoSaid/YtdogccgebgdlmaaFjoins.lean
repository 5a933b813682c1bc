/- the reference's Joins. -/
import Derived.Test.YtdogccgebgdlmaaVJc
import Derived.Test.YtdogccgebgdlmaaFmay
set_option linter.unusedVariables false
set_option linter.unusedSimpArgs false
namespace Go.Proofs.Ytdogccgebgdlmaa
open Go.RowKit
namespace Voc
def iL (l : List Nat) : List Int := l.map fun i : Nat => (i : Int)
theorem iL_app (a b : List Nat) : iL (a ++ b) = iL a ++ iL b := List.map_append
theorem iL_len (a : List Nat) : (iL a).length = a.length := List.length_map ..
theorem tw_step {xs : List Pc} {i : Nat} : ∀ (l : List Nat) (n : Nat), n ≤ (l.takeWhile (below xs i)).length → n < l.length → (rk xs (l.getD n 0) < rk xs i → n + 1 ≤ (l.takeWhile (below xs i)).length) ∧ (¬ rk xs (l.getD n 0) < rk xs i → n = (l.takeWhile (below xs i)).length)
  | [], n, _, h => by simp at h
  | x :: l, 0, _, _ => by
    rw [List.takeWhile_cons]
    simp only [List.getD_cons_zero]
    refine ⟨fun h => ?_, fun h => ?_⟩
    · rw [if_pos (by simpa [below] using h)]; simp
    · rw [if_neg (by simpa [below] using h)]; rfl
  | x :: l, n + 1, h1, h2 => by
    rw [List.takeWhile_cons] at h1 ⊢
    split at h1
    · rename_i hx
      rw [if_pos hx]
      simp only [List.length_cons] at h1 h2 ⊢
      simp only [List.getD_cons_succ]
      have := tw_step (xs := xs) (i := i) l n (by omega) (by omega)
      exact ⟨fun h => by have := this.1 h; omega, fun h => by have := this.2 h; omega⟩
    · simp at h1
theorem tw_take {xs : List Pc} {i : Nat} : ∀ l : List Nat, l.take (l.takeWhile (below xs i)).length = l.takeWhile (below xs i) ∧ l.drop (l.takeWhile (below xs i)).length = l.dropWhile (below xs i)
  | [] => ⟨rfl, rfl⟩
  | x :: l => by
    have h := tw_take (xs := xs) (i := i) l
    rw [List.takeWhile_cons, List.dropWhile_cons]
    split
    · rw [List.length_cons, List.take_succ_cons, List.drop_succ_cons, h.1, h.2]; exact ⟨rfl, rfl⟩
    · exact ⟨rfl, rfl⟩
theorem tw_le {xs : List Pc} {i : Nat} (l : List Nat) : (l.takeWhile (below xs i)).length ≤ l.length := (List.takeWhile_sublist _).length_le
theorem insR_eq (xs : List Pc) (l : List Nat) (i : Nat) : insR xs l i = l.take (l.takeWhile (below xs i)).length ++ [i] ++ l.drop (l.takeWhile (below xs i)).length := by
  rw [(tw_take l).1, (tw_take l).2]
  unfold insR
  simp
theorem encI_one : ∀ x : Int, ∀ u ∈ encI x, u.oneCell' = true := by intro x u hu; simp [encI] at hu; subst hu; rfl
theorem joinsN_len (xs : List Pc) (n : Nat) : (joinsN xs n).length ≤ n := by
  rw [(joinsN_perm xs n).length_eq]
  exact jl_le xs n

set_option maxRecDepth 20000 in
set_option maxHeartbeats 4000000 in
theorem rjoins_any {w : World} {v : Value} {xs : List Pc} (HS : SL encP w v xs) (hw : ∀ q ∈ xs, wfP q) (hl : xs.length ≤ 1048576) :
    Calls Try.prog 26 #[.agg #[v]] w fun e w' => ∃ sv, e = .returned sv ∧ w'.ownsRow w.heap.size 3 1 sv (jE xs).length ((jE xs).flatMap encI) ∧ Gr w w' := by
  have HS1 := Lib.hid HS
  obtain ⟨A, cap, rfl⟩ := SL.form HS
  have HG := Lib.hid ((Fr.refl w NoneS).alloc (.cells #[.slice A xs.length cap] 24))
  have HB := Lib.hid (Blk.new w 24 #[.slice A xs.length cap])
  obtain ⟨b, hb⟩ : ∃ b, decide ((checkE xs).1 = 0) = b := ⟨_, rfl⟩
  have HM := Lib.hid (may_any (HS.gr HG.out) hw hl b hb)
  have HJ := Lib.hid (show (b = true → xs.length ≤ 4096 ∧ jE xs = iL (joinsF xs)) ∧ (b = false → jE xs = []) from
    ⟨fun h => by rw [h] at hb; exact ⟨(good_of (of_decide_eq_true hb)).len, by unfold jE; rw [if_pos (of_decide_eq_true hb)]; rfl⟩, fun h => by rw [h] at hb; unfold jE; rw [if_neg (of_decide_eq_false hb)]⟩)
  clear HS hw hl hb
  go_enter Try.func26, Try.ntmps26
  generalize hx : World.alloc w (.cells #[.slice A xs.length cap] 24) = wa at HG HM HB
  have f0 : wa.cell? ⟨w.heap.size, 0, none⟩ = some (.slice A xs.length cap) := by rw [HB.out.cell]; rfl
  have HX := Lib.hid hx
  clear hx
  cases b with
  | false =>
    go_wp2_with (go_at_call 32; rw [HX.out]; refine HM.out.mono ?_; rintro e w3 ⟨rfl, hg⟩; have HG3 := Lib.hid hg; clear hg)
    go_ret
    exact ⟨_, rfl, by rw [HJ.out.2 (by trivial)]; exact World.ownsRow_nil _ _ _ _, HG.out.trans HG3.out (fun _ _ h => h)⟩
  | true =>
    have H4 := Lib.hid (HJ.out.1 (by trivial)).1
    have HJ2 := Lib.hid (HJ.out.1 (by trivial)).2
    go_upto_region 3 with (go_at_call 32; rw [HX.out]; refine HM.out.mono ?_; rintro e w3 ⟨rfl, hg⟩; have HG3 := Lib.hid hg; clear hg)
    clear HM HJ
    have HB3 := Lib.hid (HB.out.fr HG3.out (fun h => h))
    have HG4 := Lib.hid (HG.out.trans HG3.out (fun _ _ h => h))
    have HSL := Lib.hid (HS1.out.gr HG4.out)
    obtain ⟨q, hq⟩ : ∃ q, w.heap.size = q := ⟨_, rfl⟩
    rw [hq] at HB3 ⊢
    have Hq := Lib.hid hq
    clear hq f0
    obtain ⟨i0, hi0, hz0, hz1, hz2⟩ := info_parts info_int
    go_wp2_with fail
    go_loopg [3, 4] (xs.length + 1) (fun m s3 s4 wr => ∃ (k : Nat) (va : Value), va = s3 ∧ s4 = .int .i64 k ∧ Hid (k ≤ xs.length ∧ xs.length - k < m) ∧ Hid (Gr w3 wr ∧ wr.ownsRow w3.heap.size 3 1 va (joinsN xs k).length ((iL (joinsN xs k)).flatMap encI)))
    case atStart => exact ⟨0, _, rfl, rfl, ⟨Nat.zero_le _, by omega⟩, Fr.refl _ _, World.ownsRow_nil _ _ _ _⟩
    case round =>
      obtain ⟨k, va, rfl, rfl, HK, HP⟩ := hrel
      have c0 : wr.cell? ⟨q, 0, none⟩ = some (.slice A xs.length cap) := by rw [(HB3.out.fr HP.out.1 (fun h => h)).cell]; rfl
      by_cases hk : k < xs.length
      · obtain ⟨b1, o1, rfl, hb1, hc1⟩ := (HSL.out.gr HP.out.1).at_ (s := 5) (fun _ => rfl) rfl hk
        have x0 := hc1 0 (by omega)
        have x4 := hc1 4 (by omega)
        clear hc1
        have G1 := Lib.hid (List.getElem?_eq_getElem hk)
        have Hxj := Lib.hid (isJ_of G1.out)
        have Hxk := Lib.hid (rk_of G1.out)
        generalize xs[k] = x at x0 x4 Hxj Hxk G1
        obtain ⟨j1, p1, l1, r1, k1⟩ := x
        simp [encP] at x0 x4
        simp only at Hxj Hxk
        rw [← Nat.add_assoc] at x4
        have hki : (k : Int) < xs.length := by omega
        have hk4 : (k : Int) ≤ 4096 := by have := H4.out; omega
        have Hk := Lib.hid hk
        have Hb1 := Lib.hid hb1
        clear hk hb1
        cases j1 with
        | false =>
          have Hst := Lib.hid (show joinsN xs (k + 1) = joinsN xs k from by rw [joinsN_succ, Hxj.out]; rfl)
          go_wp2_with fail
          go_roundg (gk - 1)
          case measure => have := HK.out; omega
          case rel => exact ⟨k + 1, _, rfl, by go_num, ⟨by have := Hk.out; omega, by have := HK.out; omega⟩, by rw [Hst.out]; exact HP.out⟩
        | true =>
          have Hst := Lib.hid (show joinsN xs (k + 1) = insR xs (joinsN xs k) k from by rw [joinsN_succ, Hxj.out]; rfl)
          obtain ⟨n, hn⟩ : ∃ n, (joinsN xs k).length = n := ⟨_, rfl⟩
          obtain ⟨Av, cv, rfl⟩ := own_formN HP.out.2
          rw [hn] at HP ⊢
          have Hn := Lib.hid hn
          have Hn4 := Lib.hid (Nat.le_trans (joinsN_len xs k) (show k ≤ 4096 by have := Hk.out; have := H4.out; omega))
          have HSo := Lib.hid (SL.of_own (enc := encI) (xs := iL (joinsN xs k)) HP.out.2 (by rw [iL_len]; exact hn.symm))
          have Hmem := Lib.hid (fun i (hi : i ∈ joinsN xs k) => (mem_joinsN.1 hi).2)
          have Htw := Lib.hid (tw_step (xs := xs) (i := k) (joinsN xs k))
          have Htl := Lib.hid (tw_le (xs := xs) (i := k) (joinsN xs k))
          have Hins := Lib.hid (insR_eq xs (joinsN xs k) k)
          clear hn
          rw [Hins.out] at Hst
          generalize (List.takeWhile (below xs k) (joinsN xs k)).length = tw at Htw Htl Hst
          generalize joinsN xs k = l at HP Hn Hn4 HSo Hmem Htw Htl Hst
          have hn4 : (n : Int) ≤ 4096 := by have := Hn.out; have := Hn4.out; omega
          go_upto_block 2 with (fail)
          go_cut [5] (fun s5 wx => s5 = .int .i64 (tw : Nat) ∧ Hid (Dr wr wx))
          case first =>
            go_wp2_with fail
            obtain ⟨wo, rfl⟩ : ∃ wo : World, wo = wr := ⟨_, rfl⟩
            go_loopg [5] (n + 1) (fun m s5 wx => ∃ a : Nat, s5 = .int .i64 a ∧ Hid (a ≤ tw ∧ n - a < m) ∧ Hid (Dr wo wx))
            case atStart => exact ⟨0, rfl, ⟨Nat.zero_le _, by omega⟩, Dr.refl _⟩
            case round =>
              obtain ⟨a, rfl, HA, HD⟩ := hrel
              by_cases ha : a < n
              · have hs := Htw.out a HA.out.1 (by rw [Hn.out]; exact ha)
                have hal : a < l.length := by rw [Hn.out]; exact ha
                obtain ⟨b2, o2, rfl, _, hc2⟩ := (HSo.out.gr HD.out.gr).at_ (s := 1) (fun _ => rfl) rfl (show a < (iL l).length by rw [iL_len]; exact hal)
                have y0 := hc2 0 (by omega)
                clear hc2
                have hla : (iL l)[a]'(by rw [iL_len]; exact hal) = ((l.getD a 0 : Nat) : Int) := by simp [iL, hal]
                have hmj := Hmem.out (l.getD a 0) (by simp [hal])
                rw [hla] at y0
                simp [encI] at y0
                simp only [List.getD_eq_getElem?_getD] at hs hmj
                generalize l[a]?.getD 0 = c at y0 hmj hs
                obtain ⟨b3, o3, hA3, _, hc3⟩ := ((HSL.out.gr HP.out.1).gr HD.out.gr).at_ (s := 5) (fun _ => rfl) rfl (isJ_lt hmj)
                injection hA3 with hA3
                injection hA3 with hA3 hA4
                subst hA3 hA4
                have z4 := hc3 4 (by omega)
                clear hc3
                have hrc := rk_of (List.getElem?_eq_getElem (isJ_lt hmj))
                have hcx : (c : Int) < xs.length := by have := isJ_lt hmj; omega
                simp [encP] at z4
                rw [← hrc, ← Nat.add_assoc] at z4
                clear hrc hmj hla
                have w4 := (HD.out.gr.cell (p := ⟨b1, o1 + k * 5 + 4, none⟩) Hb1.out (fun h => h)).trans x4
                have w0 : wr.cell? ⟨q, 0, none⟩ = some (.slice (some ⟨b1, o1, none⟩) xs.length cap) := by rw [((HB3.out.fr HP.out.1 (fun h => h)).fr HD.out.gr (fun h => h)).cell]; rfl
                rw [Hxk.out] at hs
                generalize rk xs c = rc at z4 hs
                have hai : (a : Int) < n := by omega
                by_cases hlt : rc < k1
                · have Hs := Lib.hid (hs.1 hlt)
                  clear hs
                  go_wp2_with fail
                  go_quiet (fail)
                  go_wp2_with fail
                  go_roundg (gk - 1)
                  case measure => have := HA.out; omega
                  case rel => exact ⟨a + 1, by go_num, ⟨Hs.out, by have := HA.out; omega⟩, HD.out.drewN _⟩
                · have Hs := Lib.hid (hs.2 (by omega))
                  have hlt' : decide (rc < k1) = false := decide_eq_false hlt
                  clear hs
                  go_wp2_with fail
                  go_quiet (fail)
                  go_wp2_with fail
                  go_meet
                  exact ⟨by rw [Hs.out], HD.out.drewN _⟩
              · have hai : decide (a < n) = false := decide_eq_false ha
                go_wp2_with fail
                go_quiet (fail)
                go_wp2_with fail
                go_meet
                exact ⟨by have := HA.out.1; have := Htl.out; have := Hn.out; have e : a = tw := by omega
                          rw [e], HD.out.drewN _⟩
          case rest =>
          obtain ⟨rfl, HD⟩ := hcut
          have Hcv := Lib.hid (show n ≤ cv by
            obtain ⟨A', c', h1, h2⟩ := HSo.out.len
            injection h1 with _ h3 h4
            subst h3 h4
            exact h2)
          have hsl1 := fun w => run_slice_to (P := Try.prog) 41 3 i0 Try.underlying41 hi0 Av n cv tw (by have := Hcv.out; have := Htl.out; have := Hn.out; omega) w
          obtain ⟨S', hsl2, hsd, _⟩ := slice_from_ex (P := Try.prog) encI 41 3 i0 1 Try.underlying41 hi0 hz1 (fun _ => rfl) Av n cv tw (by have := Htl.out; have := Hn.out; omega)
          have Hw := Lib.hid (HP.out.1.trans HD.out.gr (fun _ _ h => h))
          have HSw := Lib.hid (HSo.out.gr HD.out.gr)
          have HST := Lib.hid (show SL encI wc (.slice Av tw cv) (iL (l.take tw)) from by
            have h := HSw.out.take (k := tw) (by rw [iL_len]; exact Htl.out)
            unfold iL at h ⊢
            rw [List.map_take]
            exact h)
          have HSD := Lib.hid (show SL encI wc S' (iL (l.drop tw)) from by
            have h := hsd wc _ HSw.out
            unfold iL at h ⊢
            rw [List.map_drop]
            exact h)
          have HwB := Lib.hid (show w3.heap.size ≤ wc.heap.size from Hw.out.size)
          clear hsd
          have Hll := Lib.hid (show (l.take tw).length + 1 + (l.drop tw).length ≤ 4097 from by rw [List.length_take, List.length_drop]; have := Hn.out; have := Hn4.out; omega)
          go_upto_region 13 with (
            at_builtin
            refine wpList_append_sl _ encI rfl _ _ 41 rfl wc.heap.size 3 i0 (.int .i64 0) 1 8 Try.underlying41 hi0 hz0 hz1 hz2 rfl (by decide) (.slice none 0 0) 0 [] rfl (World.ownsRow_nil _ _ _ _) (.slice Av tw cv) (iL (l.take tw)) rfl HST.out (fun _ => rfl) encI_one (by have := Hll.out; rw [iL_len]; simp only [maxLen]; omega) (by have := Hll.out; rw [iL_len]; omega) (Nat.le_refl _) ?_
            intro v4 w4 ho hf hat
            rw [Nat.zero_add, List.nil_append] at ho
            have HO4 := Lib.hid ho
            have HG5 := Lib.hid (show Gr wc w4 from hf.mono (fun i hi h => by simp [Value.ownBlock] at h))
            clear ho hf hat)
          go_upto_region 14 with (
            at_builtin
            refine wpList_append_sl _ encI rfl _ _ 41 rfl wc.heap.size 3 i0 (.int .i64 0) 1 8 Try.underlying41 hi0 hz0 hz1 hz2 rfl (by decide) v4 _ _ rfl (HO4.out.alloc _) (.slice (some ⟨w4.heap.size, 0, none⟩) 1 1) [(k : Int)] rfl (sl_one (enc := encI) w4 (k : Int) #[.int .i64 (k : Int)] rfl 3) (fun _ => rfl) encI_one (by have := Hll.out; rw [iL_len]; simp only [maxLen, List.length_singleton]; omega) (by have := Hll.out; rw [iL_len]; simp only [List.length_singleton]; omega) (by have := HG5.out.size; simp; omega) ?_
            intro v5 w5 ho hf hat
            have HO5 := Lib.hid ho
            have HG6 := Lib.hid (show Gr wc w5 from (HG5.out.alloc _).trans hf (fun i hi h => by have := (HO4.out.lt i h).1; omega))
            clear ho hf hat)
          go_wp2_with (
            at_builtin
            refine wpList_append_sl _ encI rfl _ _ 41 rfl wc.heap.size 3 i0 (.int .i64 0) 1 8 Try.underlying41 hi0 hz0 hz1 hz2 rfl (by decide) v5 _ _ rfl HO5.out S' (iL (l.drop tw)) rfl (HSD.out.gr HG6.out) (fun _ => rfl) encI_one (by have := Hll.out; rw [iL_len, iL_len]; simp only [maxLen, List.length_singleton]; omega) (by have := Hll.out; rw [iL_len, iL_len]; simp only [List.length_singleton]; omega) HG6.out.size ?_
            intro v6 w6 ho hf hat
            have HO6 := Lib.hid ho
            have HG7 := Lib.hid (show Gr wc w6 from HG6.out.trans hf (fun i hi h => by have := (HO5.out.lt i h).1; omega))
            clear ho hf hat)
          go_roundg (gk - 1)
          case measure => have := HK.out; omega
          case rel =>
            refine ⟨k + 1, _, rfl, by go_num, ⟨by have := Hk.out; omega, by have := HK.out; omega⟩, Hw.out.trans HG7.out (fun _ _ h => h), ?_⟩
            have h := own_base HO6.out HwB.out
            rw [iL_len, iL_len] at h
            rw [Hst.out, List.length_append, List.length_append, iL_app, iL_app, List.flatMap_append, List.flatMap_append]
            exact h
      · have hkk : decide ((k : Int) < xs.length) = false := decide_eq_false (by omega)
        go_wp2_with fail
        go_ret
        obtain rfl : k = xs.length := by have := HK.out; omega
        refine ⟨_, rfl, ?_, HG4.out.trans HP.out.1 (fun _ _ h => h)⟩
        rw [HJ2.out, iL_len]
        exact own_base HP.out.2 (by have := HG4.out.size; have := Hq.out; omega)
end Voc
end Go.Proofs.Ytdogccgebgdlmaa
