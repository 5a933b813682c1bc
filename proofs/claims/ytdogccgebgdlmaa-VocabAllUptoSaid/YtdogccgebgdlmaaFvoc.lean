/- The reference's Vocab (the same pieces?) and CopyVocab. -/
import Derived.Test.YtdogccgebgdlmaaVTa
import Derived.Test.YtdogccgebgdlmaaVPl
import Derived.Test.YtdogccgebgdlmaaLib
set_option linter.unusedVariables false
set_option linter.unusedSimpArgs false
namespace Go.Proofs.Ytdogccgebgdlmaa
open Go.RowKit
namespace Voc
theorem encP_one : ∀ x : Pc, ∀ u ∈ encP x, u.oneCell' = true := by intro x u hu; simp [encP] at hu; rcases hu with rfl | rfl | rfl | rfl | rfl <;> rfl
set_option maxRecDepth 20000 in
set_option maxHeartbeats 1600000 in
theorem copyVocab_any {w : World} {v : Value} {xs : List Pc} (HS : SL encP w v xs) (hl : xs.length ≤ 1048576) :
    Calls Try.prog 18 #[.agg #[v]] w fun e w' => ∃ sv, e = .returned (.agg #[sv]) ∧ w'.ownsRow w.heap.size TPc 5 sv xs.length (xs.flatMap encP) ∧ Gr w w' := by
  obtain ⟨i0, hi0, hz0, hz1, hz2⟩ := info_parts info_pc
  have HS1 := Lib.hid HS
  obtain ⟨A, cap, rfl⟩ := SL.form HS
  have Hl := Lib.hid hl
  clear HS hl
  go_enter Try.func18, Try.ntmps18
  go_upto_region 2 with (fail)
  have HB0 := Lib.hid ((Blk.new w 24 #[.slice A xs.length cap]).alloc (.cells #[.slice none 0 0] 24))
  have HB1 := Lib.hid (Blk.new (w.alloc (.cells #[.slice A xs.length cap] 24)) 24 #[.slice none 0 0])
  have HG0 := Lib.hid (((Fr.refl w NoneS).alloc (.cells #[.slice A xs.length cap] 24)).alloc (.cells #[.slice none 0 0] 24))
  have hsz : (w.alloc (.cells #[.slice A xs.length cap] 24)).heap.size = w.heap.size + 1 := by simp
  rw [hsz] at HB1
  clear hsz
  generalize World.alloc (World.alloc w _) _ = w1 at HB0 HB1 HG0 ⊢
  obtain ⟨q, hq⟩ : ∃ q, w.heap.size = q := ⟨_, rfl⟩
  rw [hq] at HB0 HB1 ⊢
  obtain ⟨g, hg⟩ : ∃ g, q + 1 = g := ⟨_, rfl⟩
  rw [hg] at HB1 ⊢
  have Hqg := Lib.hid (And.intro hq hg)
  clear hq hg
  have c0 : w1.cell? ⟨q, 0, none⟩ = some (.slice A xs.length cap) := by rw [HB0.out.cell]; rfl
  have HSL := Lib.hid (HS1.out.gr HG0.out)
  have c1 : w1.cell? ⟨g, 0, none⟩ = some (.slice none 0 0) := by rw [HB1.out.cell]; rfl
  have f1 := HB1.out.frozen 0
  have Hg1 := Lib.hid HB1.out.lt
  go_wp2_with (at_builtin; refine wpList_append_sl _ encP rfl _ _ 22 rfl w1.heap.size TPc i0 (.agg #[.bool false, .int .u8 0, .int .i64 0, .int .i64 0, .int .u32 0]) 5 32 Try.underlying22 hi0 hz0 hz1 hz2 rfl (by omega) (.slice none 0 0) 0 [] rfl (World.ownsRow_nil _ _ _ _) (.slice A xs.length cap) xs rfl (by exact HSL.out) (fun _ => rfl) encP_one (by have := Hl.out; unfold maxLen; omega) (by have := Hl.out; omega) (Nat.le_refl _) ?_
               intro v1 w2 ho hf hat
               rw [Nat.zero_add, List.nil_append] at ho
               obtain ⟨Av, cv, rfl⟩ := own_formN ho
               have HO2 := Lib.hid ho
               have HG2 := Lib.hid (show Gr w1 w2 from hf.mono (fun i hi h => by simp [Value.ownBlock] at h))
               have c2 := (HG2.out.cell (p := ⟨g, 0, none⟩) Hg1.out (fun h => h)).trans c1
               have f2 := (HG2.out.frozen (p := ⟨g, 0, none⟩) Hg1.out (fun h => h)).trans f1
               clear ho hf hat)
  have hB := (HB1.out.fr HG2.out (fun h => h)).set_ 0 (.slice Av xs.length cv)
  try simp only [Exit.inBlock, Exit.then]
  refine bodyPost_ret (results_cell_row Try.results18 _ _ g _ #[.slice Av xs.length cv] (0, 0) _ rfl hB Try.underlying24 rfl (by kernel_rfl)) rfl ?_
  have h := HO2.out
  have hne : ∀ k, (Value.slice Av xs.length cv).ownBlock = some k → ¬ (k = g) := fun k hk e => by have := (h.lt k hk).1; have := Hg1.out; omega
  have hset : Fr w2 (w2.setCell ⟨g, 0, none⟩ (.slice Av xs.length cv)) (fun k => k = g) := (Fr.refl w2 (fun k => k = g)).setCell (p := ⟨g, 0, none⟩) (fun _ => rfl) _
  exact ⟨_, rfl, own_base (hset.owns h hne) (by have := HG0.out.size; omega), (HG0.out.trans HG2.out (fun _ _ h => h)).trans hset (fun k hk e => by have := Hqg.out; omega)⟩
end Voc
end Go.Proofs.Ytdogccgebgdlmaa
