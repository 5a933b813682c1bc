/- QueueFresh: copies and spoils of ints; the walk. -/
import Derived.Test.YtngmlelocgnbiaaQSorts
set_option linter.unusedVariables false
set_option linter.unusedSimpArgs false
namespace Go.Proofs.Ytngmlelocgnbiaa
open Go.RowKit

def IsI (u : Value) : Prop := ∃ x : Int, u = .int .i64 x

set_option maxHeartbeats 1600000 in
theorem SpoilInts_any (v : Value) (B n : Nat) (xs : List Value) (b : Int) (w : World) (ho : w.ownsRow B 3 1 v n xs) (hT : SpareT IsI w v) :
    Calls Try.prog 20 #[v, .int .i64 b] w fun e w' => e = .returned (.tuple #[]) ∧ Fr w w' (fun k => v.ownBlock = some k) := by
  obtain ⟨i0, hi0, hz0, hz1, hz2⟩ := info_parts info_int
  rcases ho.2 with ⟨rfl, rfl⟩ | ⟨g, cap, cur, rfl, hb, hg, hnc, hcm, hcs, htake⟩
  · clear ho hT
    go_enter Try.func20, Try.ntmps20
    go_wp2
    refine wp_loop_rounds 1 ?_
    rw [rounds_succ]
    go_wp2
    all_goals go_end0
    all_goals exact ⟨rfl, Fr.refl _ _⟩
  · have HB := Lib.hid (show Blk w g 3 cur from hg)
    have HT := Lib.hid (fun u (hu : u ∈ cur.toList) => hT g cur 3 (0, 0) rfl hg u hu)
    have Hsz := Lib.hid (show cur.size = cap by rw [hcs, Nat.mul_one])
    have hcm' : (cap : Int) ≤ 9223372036854775807 := by unfold maxLen at hcm; omega
    have Hnc := Lib.hid hnc
    have hs1 := fun w => run_slice_to (P := Try.prog) 22 3 i0 Try.underlying22 hi0 (some ⟨g, 0, none⟩) n cap cap (Nat.le_refl _) w
    clear ho hT hg hcs htake hcm hb hnc
    go_enter Try.func20, Try.ntmps20
    go_wp2_with fail
    go_loopg [4] (cap + 1) (fun m s4 wr => ∃ (k : Nat) (cs : Array Value), s4 = .int .i64 k ∧ Hid (k ≤ cap ∧ cap - k < m) ∧ Hid (Blk wr g 3 cs ∧ cs.size = cap ∧ ∀ u ∈ cs.toList, IsI u) ∧ Hid (Fr w wr (fun k => Value.ownBlock (.slice (some ⟨g, 0, none⟩) n cap) = some k)))
    case atStart => exact ⟨0, cur, rfl, ⟨Nat.zero_le _, by omega⟩, ⟨HB.out, Hsz.out, HT.out⟩, Fr.refl _ _⟩
    case round =>
      obtain ⟨k, cs, rfl, HK, HC, HF⟩ := hrel
      by_cases hk : k < cap
      · have hlt : k < cs.size := by rw [HC.out.2.1]; exact hk
        obtain ⟨x, hx⟩ := HC.out.2.2 cs[k] (Array.mem_toList_iff.2 (Array.getElem_mem hlt))
        have c1 : wr.cell? ⟨g, k, none⟩ = some (.int .i64 x) := by rw [HC.out.1.cell, Array.getElem?_eq_getElem hlt, hx]
        have f1 := HC.out.1.frozen k
        have hki : (k : Int) < (cap : Int) := by omega
        clear hx hlt
        go_wp2_with fail
        go_roundg (gk - 1)
        case measure => have := HK.out; omega
        case rel =>
          refine ⟨k + 1, _, by go_num, ⟨hk, by have := HK.out; omega⟩, ⟨HC.out.1.set_ k _, ?_, ?_⟩, HF.out.setCell (p := ⟨g, k, none⟩) (fun _ => rfl) _⟩
          · rw [Array.size_setIfInBounds]; exact HC.out.2.1
          · intro u hu
            rw [Array.toList_setIfInBounds] at hu
            rcases List.mem_or_eq_of_mem_set hu with h | h
            · exact HC.out.2.2 u h
            · exact ⟨_, h⟩
      · have hki : decide ((k : Int) < (cap : Int)) = false := decide_eq_false (by omega)
        go_wp2_with fail
        go_end0
        exact ⟨rfl, HF.out⟩

theorem CopyInts_any (v : Value) (xs : List Int) (w : World) (hs : SL encI w v xs) (hl : xs.length ≤ 4194304) :
    Calls Try.prog 18 #[v] w fun e w' => ∃ r, e = .returned r ∧ w'.ownsRow w.heap.size 3 1 r xs.length (xs.flatMap encI) ∧ Gr w w' := by
  obtain ⟨i0, hi0, hz0, hz1, hz2⟩ := info_parts info_int
  have HS := Lib.hid hs
  clear hs
  go_enter Try.func18, Try.ntmps18
  go_wp2_with (at_builtin; refine wpList_append_sl _ encI rfl (.tmp 4) (.tmp 5) 22 rfl w.heap.size 3 i0 (.int .i64 0) 1 8 Try.underlying22 hi0 hz0 hz1 hz2 rfl (by omega) (.slice none 0 0) 0 [] rfl (World.ownsRow_nil _ _ _ _) v xs rfl (by exact HS.out) (fun _ => rfl) (by intro x u hu; simp [encI] at hu; subst hu; rfl) (by unfold maxLen; omega) (by omega) (Nat.le_refl _) ?_
               intro v1 w2 ho hf hat
               have HO2 := Lib.hid ho
               have HG2 := Lib.hid (show Gr w w2 from hf.mono (fun i hi h => by simp [Value.ownBlock] at h))
               clear ho hf hat)
  go_ret
  refine ⟨_, rfl, ?_, HG2.out⟩
  have h := HO2.out
  rw [List.nil_append, Nat.zero_add] at h
  exact h

set_option maxHeartbeats 3200000 in
theorem QueueFresh_walk (w : World) (v : Value) (xs : List Int) (hs : SL encI w v xs) (hwf : ∀ x ∈ xs, (Lit.int .i64 x).wf = true) (hl : xs.length ≤ 1048576) :
    Calls Try.prog 5 #[v] w fun e w' => e = .returned (.bool true) ∧ Gr w w' := by
  have HS := Lib.hid hs
  clear hs hwf
  have Hl := Lib.hid hl
  clear hl
  go_enter Try.func5, Try.ntmps5
  go_wp2_with fail
  refine (CopyInts_any v xs w HS.out (by have := Hl.out; omega)).mono ?_
  rintro e w2 ⟨r, rfl, ho, hg⟩
  have HO := Lib.hid ho
  have HG := Lib.hid hg
  clear ho hg
  go_wp2_with fail
  refine (Qi.sorted_full IsI ⟨0, rfl⟩ (fun x => ⟨x, rfl⟩) (fun a b => decide (a < b)) _ r xs w2 (SL.of_own HO.out rfl) (less_Fresh _ _) (by have := Hl.out; omega)).mono ?_
  rintro e w3 ⟨r2, rfl, ho, hg, ht⟩
  have HO2 := Lib.hid ho
  have HG2 := Lib.hid hg
  have HT2 := Lib.hid ht
  clear ho hg ht
  go_wp2_with fail
  refine (SpoilInts_any r2 _ _ _ 1 w3 HO2.out HT2.out).mono ?_
  rintro e w4 ⟨rfl, hf⟩
  have HF := Lib.hid hf
  clear hf
  go_wp2_with fail
  have HG4 := Lib.hid (show Gr w2 w4 from gr_keep' HG2.out HO2.out HF.out)
  refine (Ints_any r v xs xs w4 (SL.gr (SL.of_own HO.out rfl) HG4.out) ((HS.out.gr HG.out).gr HG4.out) (by have := Hl.out; omega)).mono ?_
  rintro e w5 ⟨rfl, hd⟩
  have HD := Lib.hid hd
  clear hd
  simp only [decide_true]
  go_wp2_with fail
  refine (works_any w5).mono ?_
  rintro e w6 ⟨rfl, hg⟩
  have HG6 := Lib.hid hg
  clear hg
  go_wp2_with fail
  go_ret
  exact ⟨rfl, ((HG.out.trans HG4.out (fun _ _ h => h)).trans HD.out.gr (fun _ _ h => h)).trans HG6.out (fun _ _ h => h)⟩
end Go.Proofs.Ytngmlelocgnbiaa
