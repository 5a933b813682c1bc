/- vocab: works. -/
import Derived.Test.YtdogccgebgdlmaaVWp
import Derived.Test.YtdogccgebgdlmaaFsame
import Derived.Test.YtdogccgebgdlmaaFints
import Derived.Laws.IdiomStrings
set_option linter.unusedVariables false
set_option linter.unusedSimpArgs false
namespace Go.Proofs.Ytdogccgebgdlmaa
open Go.RowKit
namespace Voc
theorem encP_one : ∀ x : Pc, ∀ u ∈ encP x, u.oneCell' = true := by intro x u hu; simp [encP] at hu; rcases hu with rfl | rfl | rfl | rfl | rfl <;> rfl
theorem pls_own {w : World} {g base : Nat} (h : Blk w g TPc (pcells 256)) (hb : base ≤ g) : w.ownsRow base TPc 5 (.slice (some ⟨g, 0, none⟩) 256 256) 256 ((pls 256).flatMap encP) := by
  have hl : ((pls 256).flatMap encP).length = 256 * 5 := by rw [len_flatMap encP 5 encP_len, pls_len]
  refine ⟨hl, .inr ⟨g, 256, pcells 256, rfl, hb, h, Nat.le_refl _, by unfold maxLen; omega, pcells_size 256, ?_⟩⟩
  unfold pcells
  simp only []
  rw [List.take_of_length_le (by rw [hl]; exact Nat.le_refl _)]
theorem flatMap_one {α β : Type} (f : α → List β) (l : List α) (x : α) : (l ++ [x]).flatMap f = l.flatMap f ++ [x].flatMap f := List.flatMap_append
set_option maxRecDepth 20000 in
set_option maxHeartbeats 4000000 in
theorem works_any (w : World) : Calls Try.prog 13 #[] w fun e w' => e = .returned (.bool true) ∧ Gr w w' := by
  obtain ⟨i0, hi0, hz0, hz1, hz2⟩ := info_parts info_pc
  have Hp := Lib.hid (plain_any w)
  go_enter Try.func13, Try.ntmps13
  go_upto_region 2 with (go_at_call 15; refine Hp.out.mono ?_; rintro e w1 ⟨g, rfl, hg1, hg2, hg3⟩; have HP1 := Lib.hid (And.intro hg1 (And.intro hg2 hg3)); clear hg1 hg2 hg3)
  have Hgp := Lib.hid (show g < w1.heap.size from HP1.out.2.1.lt)
  have HB2 := Lib.hid (Blk.new w1 24 #[.slice (some ⟨g, 0, none⟩) 256 256])
  have HG2 := Lib.hid (HP1.out.2.2.alloc (.cells #[.slice (some ⟨g, 0, none⟩) 256 256] 24))
  have HO2 := Lib.hid (pls_own (HP1.out.2.1.alloc (.cells #[.slice (some ⟨g, 0, none⟩) 256 256] 24)) HP1.out.1)
  obtain ⟨p, hp⟩ : ∃ p, w1.heap.size = p := ⟨_, rfl⟩
  rw [hp] at HB2 Hgp ⊢
  have Hp1 := Lib.hid (show w.heap.size ≤ p by rw [← hp]; exact HP1.out.2.2.size)
  have HN2 := Lib.hid (show ∀ k, (Value.slice (some ⟨g, 0, none⟩) 256 256).ownBlock = some k → k ≠ p from fun k hk e => by simp [Value.ownBlock] at hk; have := Hgp.out; omega)
  clear hp
  generalize World.alloc w1 _ = w2 at HB2 HG2 HO2 ⊢
  have Hsz2 := Lib.hid HG2.out.size

  have c2 : w2.cell? ⟨p, 0, none⟩ = some (.slice (some ⟨g, 0, none⟩) 256 256) := by rw [HB2.out.cell]; rfl
  have f2 := HB2.out.frozen 0
  go_upto_region 3 with (
    at_builtin
    refine wpList_append_sl _ encP rfl _ _ 22 rfl w.heap.size TPc i0 (.agg #[.bool false, .int .u8 0, .int .i64 0, .int .i64 0, .int .u32 0]) 5 32 Try.underlying22 hi0 hz0 hz1 hz2 rfl (by omega) (.slice (some ⟨g, 0, none⟩) 256 256) _ _ rfl (HO2.out.alloc _) (.slice (some ⟨w2.heap.size, 0, none⟩) 1 1) [(⟨true, 0, 97, 98, 5⟩ : Pc)] rfl (sl_one w2 (⟨true, 0, 97, 98, 5⟩ : Pc) _ rfl TPc) (fun _ => rfl) encP_one (by unfold maxLen; simp only [List.length_singleton]; omega) (by simp only [List.length_singleton]; omega) (by have := Hsz2.out; simp only [World.size_alloc]; omega) ?_
    intro v2 w3 ho hf hat
    rw [← flatMap_one] at ho
    simp only [List.length_singleton, Nat.reduceAdd] at ho
    obtain ⟨Av2, cv2, rfl⟩ := own_formN ho
    have HOx2 := Lib.hid ho
    have HFx2 := Lib.hid (((Fr.refl w2 _).alloc _).trans hf (fun _ _ h => h))
    have hne : ∀ k, Value.ownBlock (.slice (some ⟨g, 0, none⟩) 256 256) = some k → k ≠ p := HN2.out
    have HBx2 := Lib.hid (HB2.out.fr HFx2.out (fun h => hne _ h rfl))
    have HNx2 := Lib.hid (show ∀ k, (Value.slice Av2 _ cv2).ownBlock = some k → k ≠ p from by
      intro k hk e
      rcases hat with h | h
      · exact HN2.out k (by rw [← h]; exact hk) e
      · rw [h] at hk; injection hk with hk; have := HB2.out.lt; simp only [World.size_alloc] at hk; omega)
    have c := HBx2.out.cell 0
    have f := HBx2.out.frozen 0
    clear ho hf hat hne)
  have HB3 := Lib.hid (HBx2.out.set_ 0 (.slice Av2 257 cv2))
  have hst2 : Fr w3 (w3.setCell ⟨p, 0, none⟩ (.slice Av2 257 cv2)) (fun k => k = p) := (Fr.refl w3 (fun k => k = p)).setCell (p := ⟨p, 0, none⟩) (fun _ => rfl) _
  have HO3 := Lib.hid (hst2.owns HOx2.out (fun k hk e => HNx2.out k hk e))
  have HG3 := Lib.hid ((HG2.out.trans HFx2.out (fun k hk h => by have := (HO2.out.lt k h).1; omega)).trans hst2 (fun k hk h => by have := Hp1.out; omega))
  have HN3 := HNx2
  clear hst2
  generalize World.setCell w3 _ _ = w3b at HB3 HO3 HG3 ⊢
  have Hsz3 := Lib.hid HG3.out.size
  have c3 : w3b.cell? ⟨p, 0, none⟩ = some (.slice Av2 257 cv2) := by rw [HB3.out.cell]; rfl
  have f3 := HB3.out.frozen 0
  go_upto_region 4 with (
    at_builtin
    refine wpList_append_sl _ encP rfl _ _ 22 rfl w.heap.size TPc i0 (.agg #[.bool false, .int .u8 0, .int .i64 0, .int .i64 0, .int .u32 0]) 5 32 Try.underlying22 hi0 hz0 hz1 hz2 rfl (by omega) (.slice Av2 257 cv2) _ _ rfl (HO3.out.alloc _) (.slice (some ⟨w3b.heap.size, 0, none⟩) 1 1) [(⟨true, 0, 256, 99, 2⟩ : Pc)] rfl (sl_one w3b (⟨true, 0, 256, 99, 2⟩ : Pc) _ rfl TPc) (fun _ => rfl) encP_one (by unfold maxLen; simp only [List.length_singleton]; omega) (by simp only [List.length_singleton]; omega) (by have := Hsz3.out; simp only [World.size_alloc]; omega) ?_
    intro v3 w4 ho hf hat
    rw [← flatMap_one] at ho
    simp only [List.length_singleton, Nat.reduceAdd] at ho
    obtain ⟨Av3, cv3, rfl⟩ := own_formN ho
    have HOx3 := Lib.hid ho
    have HFx3 := Lib.hid (((Fr.refl w3b _).alloc _).trans hf (fun _ _ h => h))
    have hne : ∀ k, Value.ownBlock (.slice Av2 257 cv2) = some k → k ≠ p := HN3.out
    have HBx3 := Lib.hid (HB3.out.fr HFx3.out (fun h => hne _ h rfl))
    have HNx3 := Lib.hid (show ∀ k, (Value.slice Av3 _ cv3).ownBlock = some k → k ≠ p from by
      intro k hk e
      rcases hat with h | h
      · exact HN3.out k (by rw [← h]; exact hk) e
      · rw [h] at hk; injection hk with hk; have := HB3.out.lt; simp only [World.size_alloc] at hk; omega)
    have c := HBx3.out.cell 0
    have f := HBx3.out.frozen 0
    clear ho hf hat hne)
  have HB4 := Lib.hid (HBx3.out.set_ 0 (.slice Av3 258 cv3))
  have hst3 : Fr w4 (w4.setCell ⟨p, 0, none⟩ (.slice Av3 258 cv3)) (fun k => k = p) := (Fr.refl w4 (fun k => k = p)).setCell (p := ⟨p, 0, none⟩) (fun _ => rfl) _
  have HO4 := Lib.hid (hst3.owns HOx3.out (fun k hk e => HNx3.out k hk e))
  have HG4 := Lib.hid ((HG3.out.trans HFx3.out (fun k hk h => by have := (HO3.out.lt k h).1; omega)).trans hst3 (fun k hk h => by have := Hp1.out; omega))
  have HN4 := HNx3
  clear hst3
  generalize World.setCell w4 _ _ = w4b at HB4 HO4 HG4 ⊢
  have Hsz4 := Lib.hid HG4.out.size
  have HS4 := Lib.hid (show SL encP w4b (.slice Av3 258 cv3) wv from SL.of_own (xs := wv) (by have h := HO4.out; rw [List.append_assoc] at h; exact h) rfl)
  have c4 : w4b.cell? ⟨p, 0, none⟩ = some (.slice Av3 258 cv3) := by rw [HB4.out.cell]; rfl
  have HE := Lib.hid (Expand_any 257 HS4.out wv_wf (by decide) (by rw [wv_exp.2]; decide))
  rw [wv_exp.1, wv_exp.2] at HE
  go_upto_region 5 with (
    go_at_call 19
    refine HE.out.mono ?_
    rintro e w5 ⟨tv, rfl, ho, hg, _⟩
    have HO5 := Lib.hid ho
    have HG5 := Lib.hid hg
    clear ho hg)
  clear HE c2 f2 c3 f3 c4
  obtain ⟨tb, tc, rfl⟩ : ∃ tb tc, tv = .slice (some ⟨tb, 0, none⟩) 3 tc := by
    rcases HO5.out.2 with ⟨_, h⟩ | ⟨b, c, _, h, _⟩
    · exact absurd h (by decide)
    · exact ⟨b, c, h⟩
  have HG5w := Lib.hid (HG4.out.trans HG5.out (fun _ _ h => h))
  have HC := Lib.hid (check_any (w := w5) (SL.nil (enc := encP) w5) (by intro q h; cases h) (by decide))
  rw [nil_check] at HC
  go_upto_region 6 with (
    go_at_call 12
    refine HC.out.mono ?_
    rintro e w6 ⟨rfl, hg⟩
    have HG6 := Lib.hid hg
    clear hg)
  have HO6 := Lib.hid (HG6.out.owns HO5.out (fun _ _ h => h))
  have hcv : (convert 37 9 (.slice (some ⟨tb, 0, none⟩) 3 tc)).run Try.prog w6 = .ok (.string ⟨[97, 98, 99].toArray⟩) w6 :=
    run_convert_bytes_back (P := Try.prog) w6 37 9 5 ⟨tb, 0, none⟩ tc [97, 98, 99] Try.underlying37 Try.underlying5 Try.underlying9 (fun j hj => by
      have hj' : j < 3 := hj
      have hc := HO6.out.cells (g := tb) rfl j
      match j, hj' with
      | 0, _ => exact hc _ rfl
      | 1, _ => exact hc _ rfl
      | 2, _ => exact hc _ rfl)
  have HB6 := Lib.hid ((HB4.out.fr HG5.out (fun h => h)).fr HG6.out (fun h => h))
  have c6 : w6.cell? ⟨p, 0, none⟩ = some (.slice Av3 258 cv3) := by rw [HB6.out.cell]; rfl
  have HJ := Lib.hid (joins_all (HS4.out.gr (HG5.out.trans HG6.out (fun _ _ h => h))) wv_wf (by decide))
  rw [wv_joins] at HJ
  go_wp2_with (
    go_at_call 21
    refine HJ.out.mono ?_
    rintro e w7 ⟨jv, rfl, ho, _, hg⟩
    have HO7 := Lib.hid ho
    have HG7 := Lib.hid hg
    clear ho hg)
  have HSj := Lib.hid (SL.of_own (enc := encI) (xs := [257, 256]) HO7.out rfl)
  have HSk := Lib.hid (show SL encI (w7.alloc (.cells #[.int .i64 257, .int .i64 256] 3)) (.slice (some ⟨w7.heap.size, 0, none⟩) 2 2) [257, 256] from by
    refine ⟨_, 2, rfl, by simp, fun _ => ⟨w7.heap.size, 0, rfl, by simp, fun i u hu => ?_⟩⟩
    rw [Nat.zero_add, World.cell?_alloc_new]
    simpa [encI] using hu)
  have HI := Lib.hid (Ints_any _ _ [257, 256] [257, 256] _ (HSj.out.gr ((Fr.refl w7 NoneS).alloc (.cells #[.int .i64 257, .int .i64 256] 3))) HSk.out (by decide))
  refine HI.out.mono ?_
  rintro e w8 ⟨rfl, hd⟩
  have HD := Lib.hid hd
  clear hd
  go_wp2_with fail
  go_ret
  exact ⟨by simp, (((HG5w.out.trans HG6.out (fun _ _ h => h)).trans HG7.out (fun _ _ h => h)).trans ((Fr.refl w7 NoneS).alloc _) (fun _ _ h => h)).trans HD.out.gr (fun _ _ h => h)⟩
end Voc
end Go.Proofs.Ytdogccgebgdlmaa
