/- vocab: Plain. the reference's Plain. -/
import Derived.Test.YtdogccgebgdlmaaVTa
import Derived.Laws.MakeOwn
import Derived.Test.YtdogccgebgdlmaaLib
set_option linter.unusedVariables false
set_option linter.unusedSimpArgs false
namespace Go.Proofs.Ytdogccgebgdlmaa
open Go.RowKit
namespace Voc
def pk (k i : Nat) : Pc := ⟨false, if i < k then (i : Int) else 0, 0, 0, 0⟩
def pls (k : Nat) : List Pc := (List.range 256).map (pk k)
def pcells (k : Nat) : Array Value := ((pls k).flatMap encP).toArray
theorem pls_len (k : Nat) : (pls k).length = 256 := by simp [pls]
theorem pcells_size (k : Nat) : (pcells k).size = 1280 := by
  unfold pcells
  rw [List.size_toArray, len_flatMap encP 5 (fun _ => rfl), pls_len]
theorem pls_set {k : Nat} (hk : k < 256) : (pls k).set k ⟨false, k, 0, 0, 0⟩ = pls (k + 1) := by
  apply List.ext_getElem?
  intro m
  rw [List.getElem?_set]
  by_cases hm : m < 256
  · have e1 : (pls (k + 1))[m]? = some (pk (k + 1) m) := by unfold pls; rw [List.getElem?_map, List.getElem?_range hm]; rfl
    have e0 : (pls k)[m]? = some (pk k m) := by unfold pls; rw [List.getElem?_map, List.getElem?_range hm]; rfl
    rw [e1, e0, pls_len]
    by_cases he : k = m
    · subst he; simp [pk, hk]
    · rw [if_neg he]
      have : (m < k + 1) ↔ (m < k) := by omega
      simp [pk, this]
  · rw [List.getElem?_eq_none (l := pls (k + 1)) (by rw [pls_len]; omega), List.getElem?_eq_none (l := pls k) (by rw [pls_len]; omega)]
    split
    · rename_i he; subst he; rw [pls_len, if_neg hm]
    · rfl
theorem pcells_set {k : Nat} (hk : k < 256) : (pcells k).setIfInBounds (k * 5 + 1) (.int .u8 (k : Int)) = pcells (k + 1) := by
  unfold pcells
  rw [List.setIfInBounds_toArray, ← pls_set hk]
  congr 1
  have hl : ((pls k).flatMap encP).length = 1280 := by rw [len_flatMap encP 5 (fun _ => rfl), pls_len]
  apply set_flatMap encP 5 (by omega) (fun _ => rfl)
  · simp
  · intro j hj hi
    rw [List.getElem?_set, hl]
    by_cases h1 : k * 5 + 1 = k * 5 + j
    · have : j = 1 := by omega
      subst this
      rw [if_pos rfl, if_pos (by omega)]; rfl
    · rw [if_neg h1, get_flatMap encP 5 (fun _ => rfl) _ _ _ hj]
      have e0 : (pls k)[k]? = some (pk k k) := by unfold pls; rw [List.getElem?_map, List.getElem?_range hk]; rfl
      rw [e0]
      have hj' : j = 0 ∨ j = 2 ∨ j = 3 ∨ j = 4 := by omega
      rcases hj' with rfl | rfl | rfl | rfl <;> simp [encP, pk]
  · intro m hm
    rw [List.getElem?_set, if_neg (by intro h; omega)]
theorem info_pc : (Try.prog.info? TPc).map (fun i => (i.zero, i.size, i.bytes)) = some (some (.agg #[.bool false, .int .u8 0, .int .i64 0, .int .i64 0, .int .u32 0]), 5, 32) := by kernel_rfl
theorem made_pc : madeCells (Value.agg #[.bool false, .int .u8 0, .int .i64 0, .int .i64 0, .int .u32 0]).cells 1280 = pcells 0 := by
  apply Array.ext'
  apply List.ext_getElem?
  intro m
  have hl : ((pls 0).flatMap encP).length = 1280 := by rw [len_flatMap encP 5 (fun _ => rfl), pls_len]
  by_cases hm : m < 1280
  · have h5 : m % 5 < 5 := Nat.mod_lt _ (by omega)
    have hd : m / 5 < 256 := by omega
    have e0 : (pls 0)[m / 5]? = some (pk 0 (m / 5)) := by unfold pls; rw [List.getElem?_map, List.getElem?_range hd]; rfl
    unfold pcells
    rw [List.toList_toArray, get_flatMap' encP 5 (by omega) (fun _ => rfl), e0]
    simp only [madeCells, Array.toList_map, Array.toList_range, List.getElem?_map, List.getElem?_range hm, Option.map_some, Option.bind_some]
    have h6 : m % 5 = 0 ∨ m % 5 = 1 ∨ m % 5 = 2 ∨ m % 5 = 3 ∨ m % 5 = 4 := by omega
    rcases h6 with h | h | h | h | h <;> (have : (Value.agg #[.bool false, .int .u8 0, .int .i64 0, .int .i64 0, .int .u32 0]).cells.size = 5 := rfl) <;> rw [this, h] <;> rfl
  · rw [List.getElem?_eq_none (by rw [Array.length_toList, size_madeCells]; omega), List.getElem?_eq_none (by unfold pcells; rw [List.toList_toArray, hl]; omega)]
end Voc
end Go.Proofs.Ytdogccgebgdlmaa

namespace Go.Proofs.Ytdogccgebgdlmaa
open Go.RowKit
namespace Voc
theorem pls_at {k : Nat} (hk : k < 256) : (pls 256).take (k + 1) = (pls 256).take k ++ [⟨false, (k : Int), 0, 0, 0⟩] := by
  rw [List.take_succ_eq_append_getElem (by rw [pls_len]; exact hk)]
  congr 2
  unfold pls
  rw [List.getElem_map, List.getElem_range]
  unfold pk
  rw [if_pos hk]
set_option maxRecDepth 20000 in
set_option maxHeartbeats 4000000 in
theorem rplain_any (w : World) : Calls Try.prog 17 #[] w fun e w' => ∃ sv, e = .returned (.agg #[sv]) ∧ w'.ownsRow w.heap.size TPc 5 sv 256 ((pls 256).flatMap encP) ∧ Gr w w' := by
  have encP_one : ∀ x : Pc, ∀ u ∈ encP x, u.oneCell' = true := by intro x u hu; simp [encP] at hu; rcases hu with rfl | rfl | rfl | rfl | rfl <;> rfl
  have H1 := Lib.hid encP_one
  clear encP_one
  obtain ⟨i0, hi0, hz0, hz1, hz2⟩ := info_parts info_pc
  go_enter Try.func17, Try.ntmps17
  go_upto_region 2 with (fail)
  have HB0 := Lib.hid ((Blk.new w 24 #[.slice none 0 0]).alloc (.cells #[.slice none 0 0] 24))
  have HB1 := Lib.hid (Blk.new (w.alloc (.cells #[.slice none 0 0] 24)) 24 #[.slice none 0 0])
  have HG0 := Lib.hid (((Fr.refl w NoneS).alloc (.cells #[.slice none 0 0] 24)).alloc (.cells #[.slice none 0 0] 24))
  have hsz : (w.alloc (.cells #[.slice none 0 0] 24)).heap.size = w.heap.size + 1 := by simp
  have Hw1 := Lib.hid (show ((w.alloc (.cells #[.slice none 0 0] 24)).alloc (.cells #[.slice none 0 0] 24)).heap.size = w.heap.size + 2 by simp)
  rw [hsz] at HB1
  clear hsz
  generalize World.alloc (World.alloc w _) _ = w1 at HB0 HB1 HG0 Hw1 ⊢
  obtain ⟨q, hq⟩ : ∃ q, w.heap.size = q := ⟨_, rfl⟩
  rw [hq] at HB0 HB1 Hw1 ⊢
  obtain ⟨p, hp⟩ : ∃ p, q + 1 = p := ⟨_, rfl⟩
  rw [hp] at HB1 ⊢
  have Hqp := Lib.hid (And.intro hq hp)
  clear hq hp
  go_wp2_with fail
  go_loopg [2] 257 (fun m s2 wr => ∃ (k : Nat) (va : Value), s2 = .int .i64 k ∧ Hid (k ≤ 256 ∧ 256 - k < m) ∧ Hid (Blk wr q 24 #[.slice none 0 0] ∧ Blk wr p 24 #[va] ∧ wr.ownsRow w1.heap.size TPc 5 va k (((pls 256).take k).flatMap encP) ∧ Gr w wr ∧ w1.heap.size ≤ wr.heap.size))
  case atStart => exact ⟨0, _, rfl, ⟨by omega, by omega⟩, HB0.out, HB1.out, World.ownsRow_nil _ _ _ _, HG0.out, Nat.le_refl _⟩
  case round =>
    obtain ⟨k, va, rfl, HK, HP⟩ := hrel
    obtain ⟨Av, cv, rfl⟩ := own_formN HP.out.2.2.1
    have c0 : wr.cell? ⟨p, 0, none⟩ = some (.slice Av k cv) := by rw [HP.out.2.1.cell]; rfl
    have f0 := HP.out.2.1.frozen 0
    by_cases hk : k < 256
    · have hki : (k : Int) < 256 := by omega
      have hconv : IntKind.u8.wrap (k : Int) = (k : Int) := by have h8 : IntKind.u8.wrap (k : Int) = (k : Int) % 256 := rfl; rw [h8]; omega
      have Hk := Lib.hid hk
      clear hk
      go_wp2_with (
        at_builtin
        refine wpList_append_sl _ encP rfl _ _ 22 rfl w1.heap.size TPc i0 (.agg #[.bool false, .int .u8 0, .int .i64 0, .int .i64 0, .int .u32 0]) 5 32 Try.underlying22 hi0 hz0 hz1 hz2 rfl (by omega) (.slice Av k cv) _ _ rfl (HP.out.2.2.1.alloc _) (.slice (some ⟨wr.heap.size, 0, none⟩) 1 1) [(⟨false, (k : Int), 0, 0, 0⟩ : Pc)] rfl (sl_one wr (⟨false, (k : Int), 0, 0, 0⟩ : Pc) _ rfl TPc) (fun _ => rfl) H1.out (by have := Hk.out; unfold maxLen; simp only [List.length_singleton]; omega) (by have := Hk.out; simp only [List.length_singleton]; omega) (by have := HP.out.2.2.2.2; simp only [World.size_alloc]; omega) ?_
        intro v2 w2 ho hf hat
        rw [← List.flatMap_append, ← pls_at Hk.out] at ho
        simp only [List.length_singleton] at ho
        obtain ⟨A2, c2, rfl⟩ := own_formN ho
        have HO := Lib.hid ho
        have HF := Lib.hid (((Fr.refl wr _).alloc _).trans hf (fun _ _ h => h))
        have hnew : ∀ k', Value.ownBlock (.slice Av k cv) = some k' → w1.heap.size ≤ k' := fun k' h => (HP.out.2.2.1.lt k' h).1
        have HNew := Lib.hid hnew
        have HBp := Lib.hid (HP.out.2.1.fr HF.out (fun h => by have := hnew _ h; have := Hw1.out; have := Hqp.out; omega))
        have HBq := Lib.hid (HP.out.1.fr HF.out (fun h => by have := hnew _ h; have := Hw1.out; have := Hqp.out; omega))
        have c := HBp.out.cell 0
        have f := HBp.out.frozen 0
        clear ho hf hat hnew)
      go_roundg (gk - 1)
      case measure => have := HK.out; omega
      case rel =>
        have hset : Fr w2 (w2.setCell ⟨p, 0, none⟩ (.slice A2 (k + 1) c2)) (fun k => k = p) := (Fr.refl w2 (fun k => k = p)).setCell (p := ⟨p, 0, none⟩) (fun _ => rfl) _
        refine ⟨k + 1, .slice A2 (k + 1) c2, by go_num, ⟨Hk.out, by have := HK.out; omega⟩, HBq.out.fr hset (fun h => by have := Hqp.out; omega), HBp.out.set_ 0 _, hset.owns HO.out (fun k' hk' e => by have := (HO.out.lt k' hk').1; have := Hw1.out; have := Hqp.out; omega), (HP.out.2.2.2.1.trans HF.out (fun k' hk' h => by have := HNew.out _ h; have := Hw1.out; have := Hqp.out; omega)).trans hset (fun k' hk' h => by have := Hqp.out; omega), ?_⟩
        have := HF.out.size
        have := hset.size
        have := HP.out.2.2.2.2
        omega
    · obtain rfl : k = 256 := by have := HK.out; omega
      have g0 := HP.out.1.frozen 0
      have e0 : wr.cell? ⟨q, 0, none⟩ = some (.slice none 0 0) := by rw [HP.out.1.cell]; rfl
      go_wp2_with fail
      have hB := HP.out.1.set_ 0 (.slice Av 256 cv)
      try simp only [Exit.inBlock, Exit.then]
      refine bodyPost_ret (results_cell_row Try.results17 _ _ q _ #[.slice Av 256 cv] (0, 0) _ rfl hB Try.underlying24 rfl (by kernel_rfl)) rfl ?_
      have h := HP.out.2.2.1
      rw [List.take_of_length_le (by rw [pls_len]; exact Nat.le_refl _)] at h
      have hset : Fr wr (wr.setCell ⟨q, 0, none⟩ (.slice Av 256 cv)) (fun k => k = q) := (Fr.refl wr (fun k => k = q)).setCell (p := ⟨q, 0, none⟩) (fun _ => rfl) _
      exact ⟨_, rfl, own_base (hset.owns h (fun k' hk' e => by have := (h.lt k' hk').1; have := Hw1.out; omega)) (by have := Hw1.out; have := Hqp.out; omega), HP.out.2.2.2.1.trans hset (fun k' hk' h => by have := Hqp.out; omega)⟩
end Voc
end Go.Proofs.Ytdogccgebgdlmaa
