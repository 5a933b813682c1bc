/- The references of chapter 7: Push, Sorted. -/
import Derived.Test.YtngmlelocgnbiaaQRef
import Derived.Test.YtngmlelocgnbiaaQLaw
import Derived.Deep.CutBlock
set_option linter.unusedVariables false
set_option linter.unusedSimpArgs false
namespace Go.Proofs.Ytngmlelocgnbiaa
open Go.RowKit

/-- the order by ranks -/
def ltR (b : Int) (x y : Int) : Bool := decide (rank x b < rank y b)
theorem swo_ltR (b : Int) : QP.SWO (ltR b) := QP.SWO.of_key (fun x => rank x b) (fun a b => decide (a < b)) QP.swo_int

theorem while_at {α : Type} (p : α → Bool) (xs : List α) (k : Nat) (hk : k ≤ xs.length) (h1 : ∀ y ∈ xs.take k, p y = true) (h2 : ∀ y, xs[k]? = some y → p y = false) :
    xs.takeWhile p = xs.take k ∧ xs.dropWhile p = xs.drop k := by
  have e : xs = xs.take k ++ xs.drop k := (List.take_append_drop k xs).symm
  have hd : (xs.drop k).takeWhile p = [] ∧ (xs.drop k).dropWhile p = xs.drop k := by
    cases hd : xs.drop k with
    | nil => exact ⟨rfl, rfl⟩
    | cons y r =>
      have : xs[k]? = some y := by rw [← List.head?_drop, hd]; rfl
      have := h2 y this
      simp [List.takeWhile_cons, List.dropWhile_cons, this]
  have a1 : (xs.take k ++ xs.drop k).takeWhile p = xs.take k ++ (xs.drop k).takeWhile p := List.takeWhile_append_of_pos h1
  have a2 : (xs.take k ++ xs.drop k).dropWhile p = (xs.drop k).dropWhile p := List.dropWhile_append_of_pos h1
  rw [← e] at a1 a2
  rw [a1, a2, hd.1, hd.2, List.append_nil]
  exact ⟨rfl, rfl⟩

set_option maxHeartbeats 3200000 in
set_option maxRecDepth 100000 in
theorem Push_any (v : Value) (xs : List Int) (x b : Int) (w : World) (hs : SL encI w v xs) (hx : xs.length ≤ 4194304) :
    Calls Try.prog 25 #[v, .int .i64 x, .int .i64 b] w fun e w' => ∃ r, e = .returned r ∧ w'.ownsRow w.heap.size 3 1 r (xs.length + 1) ((QP.ins (ltR b) xs x).flatMap encI) ∧ Gr w w' := by
  obtain ⟨i0, hi0, hz0, hz1, hz2⟩ := info_parts info_int
  have HS := Lib.hid hs
  obtain ⟨A, cap, rfl, hc⟩ := hs.len
  clear hs
  have hx' : (xs.length : Int) ≤ 4194304 := by omega
  go_enter Try.func25, Try.ntmps25
  go_upto_block 0 with (fail)
  go_cut [7] (fun s7 w' => ∃ k : Nat, s7 = .int .i64 k ∧ Hid (k ≤ xs.length ∧ xs.takeWhile (fun y => !ltR b x y) = xs.take k ∧ xs.dropWhile (fun y => !ltR b x y) = xs.drop k) ∧ Hid (Dr w w'))
  case first =>
    go_wp2_with fail
    go_loopg [7] (xs.length + 1) (fun m s7 wr => ∃ k : Nat, s7 = .int .i64 k ∧ Hid (k ≤ xs.length ∧ xs.length - k < m) ∧ Hid (Dr w wr) ∧ Hid (∀ y ∈ xs.take k, (!ltR b x y) = true))
    case atStart => exact ⟨0, rfl, ⟨Nat.zero_le _, by omega⟩, Dr.refl _, by simp [Hid]⟩
    case round =>
      obtain ⟨k, rfl, HK, HD, HE⟩ := hrel
      by_cases hk : k < xs.length
      · obtain ⟨b1, o1, rfl, _, hc1⟩ := (HS.out.gr HD.out.gr).at_ (s := 1) (fun _ => rfl) rfl hk
        have c1 := hc1 0 (by omega)
        clear hc1
        simp [encI] at c1
        have E1 := Lib.hid (List.take_succ_eq_append_getElem hk)
        have G1 := Lib.hid (List.getElem?_eq_getElem hk)
        generalize xs[k] = y at c1 E1 G1
        have hki : (k : Int) < xs.length := by omega
        have hr1 := Lib.hid (Rank_any y b wr)
        have hr2 := Lib.hid (Rank_any x b wr)
        by_cases hxy : rank y b ≤ rank x b
        · have Hp := Lib.hid (show (!ltR b x y) = true by unfold ltR; simp; omega)
          go_wp2_with fail
          refine hr1.out.mono ?_
          rintro e w' ⟨rfl, rfl⟩
          go_wp2_with fail
          refine hr2.out.mono ?_
          rintro e w' ⟨rfl, rfl⟩
          go_wp2_with fail
          go_roundg (gk - 1)
          case measure => have := HK.out; omega
          case rel => exact ⟨k + 1, by go_num, ⟨hk, by have := HK.out; omega⟩, HD.out, by
            show ∀ y ∈ xs.take (k + 1), _
            rw [E1.out]
            intro z hz
            rcases List.mem_append.1 hz with h | h
            · exact HE.out z h
            · simp at h; subst h; exact Hp.out⟩
        · have hxy' : decide (rank y b ≤ rank x b) = false := decide_eq_false hxy
          have Hp := Lib.hid (show (!ltR b x y) = false by unfold ltR; simp; omega)
          go_wp2_with fail
          refine hr1.out.mono ?_
          rintro e w' ⟨rfl, rfl⟩
          go_wp2_with fail
          refine hr2.out.mono ?_
          rintro e w' ⟨rfl, rfl⟩
          go_wp2_with fail
          go_meet
          have h := while_at (fun y => !ltR b x y) xs k (Nat.le_of_lt hk) HE.out (fun z hz => by
            have := G1.out.symm.trans hz
            injection this with this
            subst this; exact Hp.out)
          exact ⟨k, rfl, ⟨Nat.le_of_lt hk, h⟩, HD.out⟩
      · have hkk : decide ((k : Int) < xs.length) = false := decide_eq_false (by omega)
        go_wp2_with fail
        go_meet
        have h := while_at (fun y => !ltR b x y) xs k HK.out.1 HE.out (fun z hz => by rw [List.getElem?_eq_none (by omega)] at hz; cases hz)
        exact ⟨k, rfl, ⟨HK.out.1, h⟩, HD.out⟩
  case rest =>
  obtain ⟨k, rfl, HK, HD⟩ := hcut
  have hk := HK.out.1
  have hki : (k : Int) ≤ xs.length := by omega
  have hkc : (k : Int) ≤ (cap : Int) := by omega
  have hxc : (xs.length : Int) ≤ (cap : Int) := by omega
  go_upto_region 5 with (fail)
  have hs1 := fun w => run_slice_to (P := Try.prog) 22 3 i0 Try.underlying22 hi0 A xs.length cap k (by omega) w
  obtain ⟨S, hs2, hsS, _⟩ := slice_from_ex (P := Try.prog) encI 22 3 i0 1 Try.underlying22 hi0 hz1 (fun _ => rfl) A xs.length cap k hk
  have HSS := Lib.hid hsS
  clear hsS
  have hoc : ∀ x : Int, ∀ u ∈ encI x, u.oneCell' = true := by intro x u hu; simp [encI] at hu; subst hu; rfl
  have Hoc := Lib.hid hoc
  have HG0 := Lib.hid HD.out.gr
  have Htk := Lib.hid (show (xs.take k).length = k from by rw [List.length_take, Nat.min_eq_left hk])
  have Hdk := Lib.hid (show (xs.drop k).length = xs.length - k from List.length_drop ..)
  clear hoc
  go_wp2_with (first
    | (at_builtin
       refine wpList_append_sl _ encI rfl (.tmp 27) (.tmp 30) 22 rfl w.heap.size 3 i0 (.int .i64 0) 1 8 Try.underlying22 hi0 hz0 hz1 hz2 rfl (by omega) (.slice none 0 0) 0 [] rfl (World.ownsRow_nil _ _ _ _) (.slice A k cap) (xs.take k) rfl (by exact (HS.out.gr HG0.out).take hk) (fun _ => rfl) Hoc.out (by rw [Htk.out]; unfold maxLen; omega) (by rw [Htk.out]; omega) (by exact HG0.out.size) ?_
       intro v1 w1 hown1 hf1 hat1
       have HO1 := Lib.hid hown1
       have HG1 := Lib.hid (show Gr w w1 from HG0.out.trans hf1 (fun i hi h => by simp [Value.ownBlock] at h))
       clear hown1 hf1 hat1)
    | (at_builtin
       refine wpList_append_own _ rfl (.tmp 32) (.tmp 34) 22 rfl w.heap.size 3 i0 (.int .i64 0) 1 8 Try.underlying22 hi0 hz0 hz1 hz2 rfl (by decide) v1 _ _ rfl (HO1.out.alloc _) ⟨w1.heap.size, 0, none⟩ 1 1 [.int .i64 x] rfl rfl (cell_one_new w1 _ _) (by simp [Value.oneCell']) (by rw [Htk.out]; unfold maxLen; omega) (by rw [Htk.out]; omega) (by have := HG1.out.size; simp; omega) ?_
       intro v2 w2 hown2 hg2 hiff2
       have HO2 := Lib.hid hown2
       have HG2 := Lib.hid (show Gr w w2 from HG1.out.trans ((((Fr.refl w1 (fun k => v1.ownBlock = some k)).alloc _).grown hg2 (fun k hk _ => hk))) (fun i hi h => by have := (HO1.out.lt i h).1; omega))
       clear hown2 hg2 hiff2)
    | (at_builtin
       refine wpList_append_sl _ encI rfl (.tmp 36) (.tmp 39) 22 rfl w.heap.size 3 i0 (.int .i64 0) 1 8 Try.underlying22 hi0 hz0 hz1 hz2 rfl (by omega) v2 _ _ rfl HO2.out _ (xs.drop k) rfl (by exact HSS.out _ _ (HS.out.gr HG2.out)) (fun _ => rfl) Hoc.out (by rw [Htk.out, Hdk.out]; unfold maxLen; omega) (by rw [Htk.out, Hdk.out]; omega) (by exact HG2.out.size) ?_
       intro v3 w3 hown3 hf3 hat3
       have HO3 := Lib.hid hown3
       have HG3 := Lib.hid (show Gr w w3 from HG2.out.trans hf3 (fun i hi h => by have := (HO2.out.lt i h).1; omega))
       clear hown3 hf3 hat3))
  go_ret
  refine ⟨_, rfl, ?_, HG3.out⟩
  have h := HO3.out
  have e : (QP.ins (ltR b) xs x).flatMap encI = ((([] : List Value) ++ (xs.take k).flatMap encI) ++ [.int .i64 x]) ++ (xs.drop k).flatMap encI := by
    unfold QP.ins
    rw [HK.out.2.1, HK.out.2.2, List.flatMap_append, List.flatMap_cons]
    simp [encI]
  rw [e]
  have e2 : xs.length + 1 = 0 + (xs.take k).length + 1 + (xs.drop k).length := by rw [Htk.out, Hdk.out]; omega
  rw [e2]
  exact h
end Go.Proofs.Ytngmlelocgnbiaa
