/- law 10: works; Long. -/
import Derived.Test.YtildhlneldoffaaEWi
import Derived.Test.YtildhlneldoffaaFplain
import Derived.Test.YtildhlneldoffaaFints
import Derived.Laws.IdiomStrings
import Derived.Lib.SlBytesConst
set_option linter.unusedVariables false
set_option linter.unusedSimpArgs false
namespace Go.Proofs.Ytildhlneldoffaa
open Go.RowKit
open Voc
namespace Bpe
instance (q : Pc) : Decidable (wfP q) := by unfold wfP; infer_instance
def wv : List Pc := pls 256 ++ [⟨true, 0, 97, 98, 5⟩, ⟨true, 0, 256, 99, 2⟩]
theorem wv_check : checkE wv = (0, 0) := by decide +kernel
theorem wv_wf : ∀ q ∈ wv, wfP q := by decide +kernel
theorem wv_len : wv.length = 258 := by decide +kernel
theorem wv_enc : encE wv [97, 98, 99, 97, 98] = ([257, 256], 0) := by unfold encE; rw [wv_check]; decide +kernel
theorem wv_dec : decE wv [257, 256] = ([97, 98, 99, 97, 98], 0) := by unfold decE flatE expE sizeE; rw [wv_check]; decide +kernel
theorem encP_one : ∀ x : Pc, ∀ u ∈ encP x, u.oneCell' = true := by intro x u hu; simp [encP] at hu; rcases hu with rfl | rfl | rfl | rfl | rfl <;> rfl
theorem flatMap_one {α β : Type} (f : α → List β) (l : List α) (x : α) : (l ++ [x]).flatMap f = l.flatMap f ++ [x].flatMap f := List.flatMap_append
set_option maxRecDepth 20000 in
set_option maxHeartbeats 4000000 in
theorem works_any (w : World) : Calls Try.prog 14 #[] w fun e w' => e = .returned (.bool true) ∧ Gr w w' := by
  obtain ⟨i0, hi0, hz0, hz1, hz2⟩ := info_parts info_pc
  have Hp := Lib.hid (rplain_any w)
  have kc := fun (w : World) (C : Array Value) (n c : Nat) => Lib.run_convert_bytes_const (P := Try.prog) w 25 5 C n c Try.underlying25 Try.underlying5
  go_enter Try.func14, Try.ntmps14
  go_upto_region 2 with (go_at_call 33; refine Hp.out.mono ?_; rintro e w1 ⟨sv, rfl, ho, hg⟩; obtain ⟨Av1, cv1, rfl⟩ := own_formN ho; have HO1 := Lib.hid ho; have HG1 := Lib.hid hg; clear ho hg)
  have HB2 := Lib.hid (Blk.new w1 24 #[.slice Av1 256 cv1])
  have HG2 := Lib.hid (HG1.out.alloc (.cells #[.slice Av1 256 cv1] 24))
  have HO2 := Lib.hid (HO1.out.alloc (.cells #[.slice Av1 256 cv1] 24))
  obtain ⟨p, hp⟩ : ∃ p, w1.heap.size = p := ⟨_, rfl⟩
  rw [hp] at HB2 ⊢
  have Hp1 := Lib.hid (show w.heap.size ≤ p by rw [← hp]; exact HG1.out.size)
  have HN2 := Lib.hid (show ∀ k, (Value.slice Av1 256 cv1).ownBlock = some k → k ≠ p from fun k hk e => by have := (HO1.out.lt k hk).2; omega)
  clear hp
  generalize World.alloc w1 _ = w2 at HB2 HG2 HO2 ⊢
  have Hsz2 := Lib.hid HG2.out.size
  have c2 : w2.cell? ⟨p, 0, none⟩ = some (.slice Av1 256 cv1) := by rw [HB2.out.cell]; rfl
  have f2 := HB2.out.frozen 0
  go_upto_region 3 with (
    at_builtin
    refine wpList_append_sl _ encP rfl _ _ 22 rfl w.heap.size TPc i0 (.agg #[.bool false, .int .u8 0, .int .i64 0, .int .i64 0, .int .u32 0]) 5 32 Try.underlying22 hi0 hz0 hz1 hz2 rfl (by omega) (.slice Av1 256 cv1) _ _ rfl (HO2.out.alloc _) (.slice (some ⟨w2.heap.size, 0, none⟩) 1 1) [(⟨true, 0, 97, 98, 5⟩ : Pc)] rfl (sl_one w2 (⟨true, 0, 97, 98, 5⟩ : Pc) _ rfl TPc) (fun _ => rfl) encP_one (by simp only [maxLen, List.length_singleton]; omega) (by simp only [List.length_singleton]; omega) (Nat.le_trans Hsz2.out (by simp)) ?_
    intro v2 w3 ho hf hat
    rw [← flatMap_one] at ho
    simp only [List.length_singleton, Nat.reduceAdd] at ho
    obtain ⟨Av2, cv2, rfl⟩ := own_formN ho
    have HOx2 := Lib.hid ho
    have HFx2 := Lib.hid (((Fr.refl w2 _).alloc _).trans hf (fun _ _ h => h))
    have hne : ∀ k, Value.ownBlock (.slice Av1 256 cv1) = some k → k ≠ p := HN2.out
    have HBx2 := Lib.hid (HB2.out.fr HFx2.out (fun h => hne _ h rfl))
    have HNx2 := Lib.hid (show ∀ k, (Value.slice Av2 _ cv2).ownBlock = some k → k ≠ p from by
      intro k hk e
      rcases hat with h | h
      · exact HN2.out k (by rw [← h]; exact hk) e
      · rw [h] at hk; injection hk with hk; have := HB2.out.lt; simp only [World.size_alloc] at hk; omega)
    have c := HBx2.out.cell 0
    have f := HBx2.out.frozen 0
    clear ho hf hat hne)
  have HB3 := Lib.hid (HBx2.out.set_ 0 (.slice Av2 257 cv2))
  have hst2 : Fr w3 (w3.setCell ⟨p, 0, none⟩ (.slice Av2 257 cv2)) (fun k => k = p) := (Fr.refl w3 (fun k => k = p)).setCell (p := ⟨p, 0, none⟩) (fun _ => rfl) _
  have HO3 := Lib.hid (hst2.owns HOx2.out (fun k hk e => HNx2.out k hk e))
  have HG3 := Lib.hid ((HG2.out.trans HFx2.out (fun k hk h => by have := (HO2.out.lt k h).1; omega)).trans hst2 (fun k hk h => by have := Hp1.out; omega))
  have HN3 := HNx2
  clear hst2
  generalize World.setCell w3 _ _ = w3b at HB3 HO3 HG3 ⊢
  have Hsz3 := Lib.hid HG3.out.size
  have c3 : w3b.cell? ⟨p, 0, none⟩ = some (.slice Av2 257 cv2) := by rw [HB3.out.cell]; rfl
  have f3 := HB3.out.frozen 0
  go_upto_region 4 with (
    at_builtin
    refine wpList_append_sl _ encP rfl _ _ 22 rfl w.heap.size TPc i0 (.agg #[.bool false, .int .u8 0, .int .i64 0, .int .i64 0, .int .u32 0]) 5 32 Try.underlying22 hi0 hz0 hz1 hz2 rfl (by omega) (.slice Av2 257 cv2) _ _ rfl (HO3.out.alloc _) (.slice (some ⟨w3b.heap.size, 0, none⟩) 1 1) [(⟨true, 0, 256, 99, 2⟩ : Pc)] rfl (sl_one w3b (⟨true, 0, 256, 99, 2⟩ : Pc) _ rfl TPc) (fun _ => rfl) encP_one (by simp only [maxLen, List.length_singleton]; omega) (by simp only [List.length_singleton]; omega) (Nat.le_trans Hsz3.out (by simp)) ?_
    intro v3 w4 ho hf hat
    rw [← flatMap_one] at ho
    simp only [List.length_singleton, Nat.reduceAdd] at ho
    obtain ⟨Av3, cv3, rfl⟩ := own_formN ho
    have HOx3 := Lib.hid ho
    have HFx3 := Lib.hid (((Fr.refl w3b _).alloc _).trans hf (fun _ _ h => h))
    have hne : ∀ k, Value.ownBlock (.slice Av2 257 cv2) = some k → k ≠ p := HN3.out
    have HBx3 := Lib.hid (HB3.out.fr HFx3.out (fun h => hne _ h rfl))
    have HNx3 := Lib.hid (show ∀ k, (Value.slice Av3 _ cv3).ownBlock = some k → k ≠ p from by
      intro k hk e
      rcases hat with h | h
      · exact HN3.out k (by rw [← h]; exact hk) e
      · rw [h] at hk; injection hk with hk; have := HB3.out.lt; simp only [World.size_alloc] at hk; omega)
    have c := HBx3.out.cell 0
    have f := HBx3.out.frozen 0
    clear ho hf hat hne)
  have HB4 := Lib.hid (HBx3.out.set_ 0 (.slice Av3 258 cv3))
  have hst3 : Fr w4 (w4.setCell ⟨p, 0, none⟩ (.slice Av3 258 cv3)) (fun k => k = p) := (Fr.refl w4 (fun k => k = p)).setCell (p := ⟨p, 0, none⟩) (fun _ => rfl) _
  have HO4 := Lib.hid (hst3.owns HOx3.out (fun k hk e => HNx3.out k hk e))
  have HG4 := Lib.hid ((HG3.out.trans HFx3.out (fun k hk h => by have := (HO3.out.lt k h).1; omega)).trans hst3 (fun k hk h => by have := Hp1.out; omega))
  clear hst3
  generalize World.setCell w4 _ _ = w4b at HB4 HO4 HG4 ⊢
  have HS4 := Lib.hid (show SL encP w4b (.slice Av3 258 cv3) wv from SL.of_own (xs := wv) (by have h := HO4.out; rw [List.append_assoc] at h; exact h) rfl)
  have c4 : w4b.cell? ⟨p, 0, none⟩ = some (.slice Av3 258 cv3) := by rw [HB4.out.cell]; rfl
  have HE := Lib.hid (fun wx (hg : Gr w4b wx) (v : Value) (h : SL encB wx v [97, 98, 99, 97, 98]) => encode_any (HS4.out.gr hg) h wv_wf (by decide) (by rw [wv_len]; decide))
  have HDc := Lib.hid (fun wx (hg : Gr w4b wx) (v : Value) (h : SL encI wx v [257, 256]) => decode_any (HS4.out.gr hg) h wv_wf (by rw [wv_len]; decide) (by decide))
  rw [wv_enc] at HE
  rw [wv_dec] at HDc
  clear c2 f2 c3 f3
  have HSa := Lib.hid (show SL encB (w4b.alloc (.cells #[.int .u8 97, .int .u8 98, .int .u8 99, .int .u8 97, .int .u8 98] TU8 (5, 6))) (.slice (some ⟨w4b.heap.size, 0, none⟩) 5 5) [97, 98, 99, 97, 98] from by
    refine ⟨_, 5, rfl, by simp, fun _ => ⟨w4b.heap.size, 0, rfl, by simp, fun i u hu => ?_⟩⟩
    rw [Nat.zero_add, cell_of_row _ _ i _ _ (5, 6) (heap_alloc_new w4b _)]
    simpa [encB] using hu)
  have HEa := Lib.hid (HE.out _ ((Fr.refl w4b NoneS).alloc (.cells #[.int .u8 97, .int .u8 98, .int .u8 99, .int .u8 97, .int .u8 98] TU8 (5, 6))) _ HSa.out)
  go_upto_region 5 with (
    go_at_call 15
    refine HEa.out.mono ?_
    rintro e w5 ⟨r5, rfl, ho, hg⟩
    have HO5 := Lib.hid ho
    have HG5 := Lib.hid (((Fr.refl w4b NoneS).alloc (.cells #[.int .u8 97, .int .u8 98, .int .u8 99, .int .u8 97, .int .u8 98] TU8 (5, 6))).trans hg (fun _ _ h => h))
    clear ho hg)
  have c5 : w5.cell? ⟨p, 0, none⟩ = some (.slice Av3 258 cv3) := (HG5.out.cell (p := ⟨p, 0, none⟩) HB4.out.lt (fun h => h)).trans c4
  have HSb := Lib.hid (show SL encI (w5.alloc (.cells #[.int .i64 257, .int .i64 256] TI)) (.slice (some ⟨w5.heap.size, 0, none⟩) 2 2) [257, 256] from by
    refine ⟨_, 2, rfl, by simp, fun _ => ⟨w5.heap.size, 0, rfl, by simp, fun i u hu => ?_⟩⟩
    rw [Nat.zero_add, World.cell?_alloc_new]
    simpa [encI] using hu)
  have HDa := Lib.hid (HDc.out _ (HG5.out.alloc (.cells #[.int .i64 257, .int .i64 256] TI)) _ HSb.out)
  clear c4 HE HDc
  go_upto_region 6 with (
    go_at_call 18
    refine HDa.out.mono ?_
    rintro e w6 ⟨r6, rfl, ho, hg⟩
    have HO6 := Lib.hid ho
    have HG6 := Lib.hid (((Fr.refl w5 NoneS).alloc (.cells #[.int .i64 257, .int .i64 256] TI)).trans hg (fun _ _ h => h))
    clear ho hg)
  obtain ⟨tb, tc, rfl⟩ : ∃ tb tc, r6 = .slice (some ⟨tb, 0, none⟩) 5 tc := by
    rcases HO6.out.own.2 with ⟨_, h⟩ | ⟨b, c, _, h, _⟩
    · exact absurd h (by decide)
    · exact ⟨b, c, h⟩
  have HSk := Lib.hid (show SL encI (w6.alloc (.cells #[.int .i64 257, .int .i64 256] TI)) (.slice (some ⟨w6.heap.size, 0, none⟩) 2 2) [257, 256] from by
    refine ⟨_, 2, rfl, by simp, fun _ => ⟨w6.heap.size, 0, rfl, by simp, fun i u hu => ?_⟩⟩
    rw [Nat.zero_add, World.cell?_alloc_new]
    simpa [encI] using hu)
  have HI := Lib.hid (Ints_any _ _ [257, 256] [257, 256] _ ((HO5.out.gr HG6.out).sl.gr ((Fr.refl w6 NoneS).alloc (.cells #[.int .i64 257, .int .i64 256] TI))) HSk.out (by decide))
  have hcv : ∀ wx, Gr w6 wx → (convert 25 9 (.slice (some ⟨tb, 0, none⟩) 5 tc)).run Try.prog wx = .ok (.string ⟨[97, 98, 99, 97, 98].toArray⟩) wx := fun wx hg =>
    run_convert_bytes_back (P := Try.prog) wx 25 9 5 ⟨tb, 0, none⟩ tc [97, 98, 99, 97, 98] Try.underlying25 Try.underlying5 Try.underlying9 (fun j hj => by
      have hj' : j < 5 := hj
      have hc := (HO6.out.gr hg).own.cells (g := tb) rfl j
      match j, hj' with
      | 0, _ => exact hc _ rfl
      | 1, _ => exact hc _ rfl
      | 2, _ => exact hc _ rfl
      | 3, _ => exact hc _ rfl
      | 4, _ => exact hc _ rfl)
  have Hcv := Lib.hid hcv
  clear hcv c5
  go_wp2_with (
    go_at_call 17
    refine HI.out.mono ?_
    rintro e w8 ⟨rfl, hd⟩
    have HD8 := Lib.hid (((Fr.refl w6 NoneS).alloc (.cells #[.int .i64 257, .int .i64 256] TI)).trans hd.gr (fun _ _ h => h))
    have hcv := Hcv.out _ HD8.out
    clear hd)
  go_ret
  exact ⟨rfl, ((HG4.out.trans HG5.out (fun _ _ h => h)).trans HG6.out (fun _ _ h => h)).trans HD8.out (fun _ _ h => h)⟩
set_option maxHeartbeats 1600000 in
theorem long_any {w : World} {v : Value} {xs : List Pc} (HS : SL encP w v xs) (hl : xs.length ≤ 1048576) (n : Nat) (hn : n ≤ 1048576) :
    Calls Try.prog 13 #[.agg #[v], .int .i64 (n : Nat)] w fun e w' => e = .returned (.bool (decide (500 < xs.length ∨ (300 < n ∧ n ≤ 4096)))) ∧ Gr w w' := by
  obtain ⟨A, cap, rfl⟩ := SL.form HS
  have HG := Lib.hid ((Fr.refl w NoneS).alloc (.cells #[.slice A xs.length cap] 24))
  have HB := Lib.hid (Blk.new w 24 #[.slice A xs.length cap])
  obtain ⟨R, hR⟩ : ∃ R, decide (500 < xs.length ∨ (300 < n ∧ n ≤ 4096)) = R := ⟨_, rfl⟩
  rw [hR]
  have HR := Lib.hid hR
  have hxi : (xs.length : Int) ≤ 1048576 := by omega
  have hni : (n : Int) ≤ 1048576 := by omega
  clear HS hl hn hR
  go_enter Try.func13, Try.ntmps13
  go_upto_region 1 with (fail)
  generalize w.heap.size = q at HB ⊢
  generalize World.alloc w _ = w1 at HG HB ⊢
  have f0 : w1.cell? ⟨q, 0, none⟩ = some (.slice A xs.length cap) := by rw [HB.out.cell]; rfl
  by_cases h1 : 500 < xs.length
  · have e1 : (500 : Int) < (xs.length : Int) := by omega
    have H := Lib.hid (show R = true by rw [← HR.out]; exact decide_eq_true (Or.inl h1))
    clear h1
    go_wp2_with fail
    go_ret
    rw [H.out]
    exact ⟨rfl, HG.out⟩
  · have e1 : ¬ (500 : Int) < (xs.length : Int) := by omega
    by_cases h2 : 300 < n
    · have e2 : (300 : Int) < (n : Int) := by omega
      by_cases h3 : n ≤ 4096
      · have e3 : (n : Int) ≤ 4096 := by omega
        have H := Lib.hid (show R = true by rw [← HR.out]; exact decide_eq_true (Or.inr ⟨h2, h3⟩))
        clear h1 h2 h3
        go_wp2_with fail
        go_ret
        rw [H.out]
        exact ⟨rfl, HG.out⟩
      · have e3 : ¬ (n : Int) ≤ 4096 := by omega
        have H := Lib.hid (show R = false by rw [← HR.out]; exact decide_eq_false (by omega))
        clear h1 h2 h3
        go_wp2_with fail
        go_ret
        rw [H.out]
        exact ⟨rfl, HG.out⟩
    · have e2 : ¬ (300 : Int) < (n : Int) := by omega
      have H := Lib.hid (show R = false by rw [← HR.out]; exact decide_eq_false (by omega))
      clear h1 h2
      go_wp2_with fail
      go_ret
      rw [H.out]
      exact ⟨rfl, HG.out⟩
end Bpe
end Go.Proofs.Ytildhlneldoffaa
