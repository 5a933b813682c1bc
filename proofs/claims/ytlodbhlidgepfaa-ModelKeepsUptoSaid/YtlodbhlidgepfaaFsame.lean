/- The reference's Same. -/
import Derived.Test.YtlodbhlidgepfaaVTa
set_option linter.unusedVariables false
set_option linter.unusedSimpArgs false
namespace Go.Proofs.Ytlodbhlidgepfaa
open Go.RowKit
namespace Voc
set_option maxHeartbeats 1600000 in
theorem same_any (va vb : Value) (xs ys : List Int) (w : World) (ha : SL encB w va xs) (hb : SL encB w vb ys) (hx : xs.length ≤ 4194304) :
    Calls Try.prog 10 #[va, vb] w fun e w' => e = .returned (.bool (decide (xs = ys))) ∧ Dr w w' := by
  have HA := Lib.hid ha
  have HB := Lib.hid hb
  obtain ⟨A, ca, rfl, _⟩ := ha.len
  obtain ⟨B, cb, rfl, _⟩ := hb.len
  clear ha hb
  by_cases hl : xs.length = ys.length
  · have hl1 : ((xs.length : Int) != (ys.length : Int)) = false := by rw [bne_eq_false_iff_eq]; omega
    have hx' : (xs.length : Int) ≤ 4194304 := by omega
    have Hl := Lib.hid hl
    clear hl
    go_enter Try.func10, Try.ntmps10
    go_wp2
    go_loopg [5] (xs.length + 1) (fun m s5 wr => ∃ k : Nat, s5 = .int .i64 k ∧ Hid (k ≤ xs.length ∧ xs.length - k < m) ∧ Hid (Dr w wr) ∧ Hid (xs.take k = ys.take k))
    case atStart => exact ⟨0, rfl, ⟨Nat.zero_le _, by omega⟩, Dr.refl _, by simp [Hid]⟩
    case round =>
      obtain ⟨k, rfl, HK, HD, HE⟩ := hrel
      by_cases hk : k < xs.length
      · have hk2 : k < ys.length := by have := Hl.out; omega
        obtain ⟨b1, o1, rfl, _, hc1⟩ := (HA.out.gr HD.out.gr).at_ (s := 1) (fun _ => rfl) rfl hk
        obtain ⟨b2, o2, rfl, _, hc2⟩ := (HB.out.gr HD.out.gr).at_ (s := 1) (fun _ => rfl) rfl hk2
        have c1 := hc1 0 (by omega)
        have c2 := hc2 0 (by omega)
        clear hc1 hc2
        simp [encB] at c1 c2
        have E1 := Lib.hid (List.take_succ_eq_append_getElem hk)
        have E2 := Lib.hid (List.take_succ_eq_append_getElem hk2)
        have G1 := Lib.hid (List.getElem?_eq_getElem hk)
        have G2 := Lib.hid (List.getElem?_eq_getElem hk2)
        generalize xs[k] = x at c1 E1 G1
        generalize ys[k] = y at c2 E2 G2
        have hki : (k : Int) < xs.length := by omega
        have hki2 : (k : Int) < ys.length := by omega
        by_cases hxy : x = y
        · have hb1 : (x != y) = false := by rw [bne_eq_false_iff_eq]; exact hxy
          have Hxy := Lib.hid hxy
          clear hxy
          go_wp2_with fail
          go_quiet (fail)
          go_wp2_with fail
          go_roundg (gk - 1)
          case measure => have := HK.out; omega
          case rel => exact ⟨k + 1, by go_num, ⟨hk, by have := HK.out; omega⟩, HD.out.drewN _, show _ = _ by rw [E1.out, E2.out, HE.out, Hxy.out]⟩
        · have hb1 : (x != y) = true := by rw [bne_iff_ne]; exact hxy
          have Hxy := Lib.hid hxy
          clear hxy
          go_wp2_with fail
          go_quiet (fail)
          go_wp2_with fail
          go_ret
          refine ⟨?_, HD.out.drewN _⟩
          have : decide (xs = ys) = false := decide_eq_false (fun e => by
            subst e
            have := G1.out.symm.trans G2.out
            injection this with this
            exact Hxy.out this)
          rw [this]; rfl
      · have hkk : decide ((k : Int) < xs.length) = false := decide_eq_false (by omega)
        go_wp2_with fail
        go_ret
        refine ⟨?_, HD.out⟩
        have : decide (xs = ys) = true := decide_eq_true (by
          have h1 := HE.out
          rw [List.take_of_length_le (by omega), List.take_of_length_le (by have := Hl.out; omega)] at h1
          exact h1)
        rw [this]; rfl
  · have hl1 : ((xs.length : Int) != (ys.length : Int)) = true := by rw [bne_iff_ne]; omega
    have Hn := Lib.hid (show decide (xs = ys) = false from decide_eq_false (fun e => hl (by rw [e])))
    go_enter Try.func10, Try.ntmps10
    go_wp2
    go_ret
    refine ⟨?_, Dr.refl _⟩
    rw [Hn.out]; rfl

end Voc
end Go.Proofs.Ytlodbhlidgepfaa
