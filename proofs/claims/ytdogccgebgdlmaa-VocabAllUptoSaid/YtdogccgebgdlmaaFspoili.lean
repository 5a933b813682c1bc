/- The reference's SpoilInts. -/
import Derived.Test.YtdogccgebgdlmaaVTa
import Derived.Test.YtdogccgebgdlmaaLib
set_option linter.unusedVariables false
set_option linter.unusedSimpArgs false
namespace Go.Proofs.Ytdogccgebgdlmaa
open Go.RowKit
namespace Voc
def IsI (u : Value) : Prop := ∃ x : Int, u = .int .i64 x
set_option maxHeartbeats 1600000 in
theorem spoilInts_any (v : Value) (B n : Nat) (xs : List Value) (b : Int) (w : World) (ho : w.ownsRow B 3 1 v n xs) (hT : SpareT IsI w v) :
    Calls Try.prog 22 #[v, .int .i64 b] w fun e w' => e = .returned (.tuple #[]) ∧ Fr w w' (fun k => v.ownBlock = some k) := by
  obtain ⟨i0, hi0, hz0, hz1, hz2⟩ := info_parts info_int
  rcases ho.2 with ⟨rfl, rfl⟩ | ⟨g, cap, cur, rfl, hb, hg, hnc, hcm, hcs, htake⟩
  · clear ho hT
    go_enter Try.func22, Try.ntmps22
    go_wp2
    refine wp_loop_rounds 1 ?_
    rw [rounds_succ]
    go_wp2
    all_goals go_end0
    all_goals exact ⟨rfl, Fr.refl _ _⟩
  · have HB := Lib.hid (show Blk w g 3 cur from hg)
    have HT := Lib.hid (fun u (hu : u ∈ cur.toList) => hT g cur 3 (0, 0) rfl hg u hu)
    have Hsz := Lib.hid (show cur.size = cap by rw [hcs, Nat.mul_one])
    have hcm' : (cap : Int) ≤ 9223372036854775807 := by unfold maxLen at hcm; omega
    have Hnc := Lib.hid hnc
    have hs1 := fun w => run_slice_to (P := Try.prog) 41 3 i0 Try.underlying41 hi0 (some ⟨g, 0, none⟩) n cap cap (Nat.le_refl _) w
    clear ho hT hg hcs htake hcm hb hnc
    go_enter Try.func22, Try.ntmps22
    go_wp2_with fail
    go_loopg [4] (cap + 1) (fun m s4 wr => ∃ (k : Nat) (cs : Array Value), s4 = .int .i64 k ∧ Hid (k ≤ cap ∧ cap - k < m) ∧ Hid (Blk wr g 3 cs ∧ cs.size = cap ∧ ∀ u ∈ cs.toList, IsI u) ∧ Hid (Fr w wr (fun k => Value.ownBlock (.slice (some ⟨g, 0, none⟩) n cap) = some k)))
    case atStart => exact ⟨0, cur, rfl, ⟨Nat.zero_le _, by omega⟩, ⟨HB.out, Hsz.out, HT.out⟩, Fr.refl _ _⟩
    case round =>
      obtain ⟨k, cs, rfl, HK, HC, HF⟩ := hrel
      by_cases hk : k < cap
      · have hlt : k < cs.size := by rw [HC.out.2.1]; exact hk
        obtain ⟨x, hx⟩ := HC.out.2.2 cs[k] (Array.mem_toList_iff.2 (Array.getElem_mem hlt))
        have c1 : wr.cell? ⟨g, k, none⟩ = some (.int .i64 x) := by rw [HC.out.1.cell, Array.getElem?_eq_getElem hlt, hx]
        have f1 := HC.out.1.frozen k
        have hki : (k : Int) < (cap : Int) := by omega
        clear hx hlt
        go_wp2_with fail
        go_roundg (gk - 1)
        case measure => have := HK.out; omega
        case rel =>
          refine ⟨k + 1, _, by go_num, ⟨hk, by have := HK.out; omega⟩, ⟨HC.out.1.set_ k _, ?_, ?_⟩, HF.out.setCell (p := ⟨g, k, none⟩) (fun _ => rfl) _⟩
          · rw [Array.size_setIfInBounds]; exact HC.out.2.1
          · intro u hu
            rw [Array.toList_setIfInBounds] at hu
            rcases List.mem_or_eq_of_mem_set hu with h | h
            · exact HC.out.2.2 u h
            · exact ⟨_, h⟩
      · have hki : decide ((k : Int) < (cap : Int)) = false := decide_eq_false (by omega)
        go_wp2_with fail
        go_end0
        exact ⟨rfl, HF.out⟩

end Voc
end Go.Proofs.Ytdogccgebgdlmaa
