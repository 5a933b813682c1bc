/- vocab: Plain, the walk. -/
import Derived.Test.YtlodbhlidgepfaaVPl
set_option linter.unusedVariables false
set_option linter.unusedSimpArgs false
namespace Go.Proofs.Ytlodbhlidgepfaa
open Go.RowKit
namespace Voc
set_option maxRecDepth 20000 in
set_option maxHeartbeats 4000000 in
theorem plain_any (w : World) : Calls Try.prog 19 #[] w fun e w' => ∃ g, e = .returned (.agg #[.slice (some ⟨g, 0, none⟩) 256 256]) ∧ w.heap.size ≤ g ∧ Blk w' g TPc (pcells 256) ∧ Gr w w' := by
  obtain ⟨i0, hi0, hz0, hz1, hz2⟩ := info_parts info_pc
  have hmk := fun w => run_make (P := Try.prog) w 25 TPc i0 (.agg #[.bool false, .int .u8 0, .int .i64 0, .int .i64 0, .int .u32 0]) Try.underlying25 hi0 hz0 .i64 .i64 256 256 (by omega) (by omega) (by rw [hz2]; omega) (by omega)
  have h1280 : (256 : Int).toNat * i0.size = 1280 := by rw [hz1]; rfl
  rw [h1280, made_pc] at hmk
  have h256 : (256 : Int).toNat = 256 := rfl
  rw [h256] at hmk
  clear hi0 hz0 hz1 hz2 h1280 h256
  go_enter Try.func19, Try.ntmps19
  go_upto_region 2 with (fail)
  have HB0 := Lib.hid ((Blk.new w 27 #[.slice none 0 0]).alloc (.cells (pcells 0) TPc))
  have HP0 := Lib.hid (Blk.new (w.alloc (.cells #[.slice none 0 0] 27)) TPc (pcells 0))
  have HG0 := Lib.hid (((Fr.refl w NoneS).alloc (.cells #[.slice none 0 0] 27)).alloc (.cells (pcells 0) TPc))
  have hsz : (w.alloc (.cells #[.slice none 0 0] 27)).heap.size = w.heap.size + 1 := by simp
  rw [hsz] at HP0
  generalize World.alloc (World.alloc w _) _ = w1 at HB0 HP0 HG0 ⊢
  obtain ⟨q, hq⟩ : ∃ q, w.heap.size = q := ⟨_, rfl⟩
  rw [hq] at HB0 HP0 ⊢
  obtain ⟨g, hg⟩ : ∃ g, q + 1 = g := ⟨_, rfl⟩
  rw [hg] at HP0 ⊢
  have Hqg := Lib.hid (And.intro hq hg)
  clear hq hg hmk hsz
  go_wp2_with fail
  go_loopg [6] 257 (fun m s6 wr => ∃ k : Nat, s6 = .int .i64 k ∧ Hid (k ≤ 256 ∧ 256 - k < m) ∧ Hid (Blk wr q 27 #[.slice none 0 0] ∧ Blk wr g TPc (pcells k) ∧ Gr w wr))
  case atStart => exact ⟨0, rfl, ⟨by omega, by omega⟩, HB0.out, HP0.out, HG0.out⟩
  case round =>
    obtain ⟨k, rfl, HK, HP⟩ := hrel
    by_cases hk : k < 256
    · have hki : (k : Int) < 256 := by omega
      have hconv : IntKind.u8.wrap (k : Int) = (k : Int) := by have h8 : IntKind.u8.wrap (k : Int) = (k : Int) % 256 := rfl; rw [h8]; omega
      have hwk : IntKind.i64.wrap ((k : Int) + 1) = (k : Int) + 1 := IntWalk.i64_in _ ⟨by omega, by omega⟩
      have hsome : ∃ u, wr.cell? ⟨g, k * 5 + 1, none⟩ = some u := by
        rw [HP.out.2.1.cell]
        have : k * 5 + 1 < (pcells k).size := by rw [pcells_size]; omega
        exact ⟨_, Array.getElem?_eq_getElem this⟩
      obtain ⟨u, hu⟩ := hsome
      have hf := HP.out.2.1.frozen (k * 5 + 1)
      go_wp2_with fail
      go_roundg (gk - 1)
      case measure => have := HK.out; omega
      case rel =>
        have hne : q ≠ g := by have := Hqg.out; omega
        have hB := HP.out.2.1.set_ (k * 5 + 1) (.int .u8 (k : Int))
        rw [pcells_set hk] at hB
        exact ⟨k + 1, by simp, ⟨by omega, by have := HK.out; omega⟩, HP.out.1.far (p := ⟨g, k * 5 + 1, none⟩) hne _, hB, HP.out.2.2.setCell (p := ⟨g, k * 5 + 1, none⟩) (fun h => by have := Hqg.out; simp only at h; omega) _⟩
    · obtain rfl : k = 256 := by have := HK.out; omega
      have c0 : wr.cell? ⟨q, 0, none⟩ = some (.slice none 0 0) := by rw [HP.out.1.cell]; rfl
      have f0 := HP.out.1.frozen 0
      go_wp2_with fail
      have hne : g ≠ q := by have := Hqg.out; omega
      have hB := HP.out.1.set_ 0 (.slice (some ⟨g, 0, none⟩) 256 256)
      try simp only [Exit.inBlock, Exit.then]
      refine bodyPost_ret (results_cell_row Try.results19 _ _ q _ #[.slice (some ⟨g, 0, none⟩) 256 256] (0, 0) _ rfl hB Try.underlying27 rfl (by kernel_rfl)) rfl ?_
      exact ⟨g, rfl, by have := Hqg.out; omega, HP.out.2.1.far (p := ⟨q, 0, none⟩) hne _, HP.out.2.2.setCell (p := ⟨q, 0, none⟩) (fun h => by have := Hqg.out; simp only at h; omega) _⟩
end Voc
end Go.Proofs.Ytlodbhlidgepfaa
