/- the reference: Long. -/
import Derived.Test.YtobedpohoellkaaEWi
set_option linter.unusedVariables false
set_option linter.unusedSimpArgs false
namespace Go.Proofs.Ytobedpohoellkaa
open Go.RowKit
open Voc
namespace Bpe
set_option maxHeartbeats 1600000 in
theorem long_any {w : World} {v : Value} {xs : List Pc} (HS : SL encP w v xs) (hl : xs.length ≤ 1048576) (n : Nat) (hn : n ≤ 1048576) :
    Calls Try.prog 18 #[.agg #[v], .int .i64 (n : Nat)] w fun e w' => e = .returned (.bool (decide (500 < xs.length ∨ (300 < n ∧ n ≤ 4096)))) ∧ Gr w w' := by
  obtain ⟨A, cap, rfl⟩ := SL.form HS
  have HG := Lib.hid ((Fr.refl w NoneS).alloc (.cells #[.slice A xs.length cap] 41))
  have HB := Lib.hid (Blk.new w 41 #[.slice A xs.length cap])
  obtain ⟨R, hR⟩ : ∃ R, decide (500 < xs.length ∨ (300 < n ∧ n ≤ 4096)) = R := ⟨_, rfl⟩
  rw [hR]
  have HR := Lib.hid hR
  have hxi : (xs.length : Int) ≤ 1048576 := by omega
  have hni : (n : Int) ≤ 1048576 := by omega
  clear HS hl hn hR
  go_enter Try.func18, Try.ntmps18
  go_upto_region 1 with (fail)
  generalize w.heap.size = q at HB ⊢
  generalize World.alloc w _ = w1 at HG HB ⊢
  have f0 : w1.cell? ⟨q, 0, none⟩ = some (.slice A xs.length cap) := by rw [HB.out.cell]; rfl
  by_cases h1 : 500 < xs.length
  · have e1 : (500 : Int) < (xs.length : Int) := by omega
    have H := Lib.hid (show R = true by rw [← HR.out]; exact decide_eq_true (Or.inl h1))
    clear h1
    go_wp2_with fail
    go_ret
    rw [H.out]
    exact ⟨rfl, HG.out⟩
  · have e1 : ¬ (500 : Int) < (xs.length : Int) := by omega
    by_cases h2 : 300 < n
    · have e2 : (300 : Int) < (n : Int) := by omega
      by_cases h3 : n ≤ 4096
      · have e3 : (n : Int) ≤ 4096 := by omega
        have H := Lib.hid (show R = true by rw [← HR.out]; exact decide_eq_true (Or.inr ⟨h2, h3⟩))
        clear h1 h2 h3
        go_wp2_with fail
        go_ret
        rw [H.out]
        exact ⟨rfl, HG.out⟩
      · have e3 : ¬ (n : Int) ≤ 4096 := by omega
        have H := Lib.hid (show R = false by rw [← HR.out]; exact decide_eq_false (by omega))
        clear h1 h2 h3
        go_wp2_with fail
        go_ret
        rw [H.out]
        exact ⟨rfl, HG.out⟩
    · have e2 : ¬ (300 : Int) < (n : Int) := by omega
      have H := Lib.hid (show R = false by rw [← HR.out]; exact decide_eq_false (by omega))
      clear h1 h2
      go_wp2_with fail
      go_ret
      rw [H.out]
      exact ⟨rfl, HG.out⟩
end Bpe
end Go.Proofs.Ytobedpohoellkaa
