/- vocab: how long a token's bytes are. -/
import Derived.Test.YtildhlneldoffaaVGd
set_option linter.unusedVariables false
set_option linter.unusedSimpArgs false
namespace Go.Proofs.Ytildhlneldoffaa
open Go.RowKit
namespace Voc
theorem size_len (xs : List Pc) (n : Int) : (sizeE xs n).1 = ((expE xs n).length : Int) := by
  by_cases h : (sizeE xs n).2 = 0
  · exact (size_ok h).2.2.2.2
  · have h0 : expE xs n = [] := by unfold expE; rw [if_neg h]
    rw [h0]
    unfold sizeE at h ⊢
    split
    · rfl
    · rename_i h1
      rw [if_neg h1] at h
      split
      · rfl
      · rename_i h2
        rw [if_neg h2] at h
        exact absurd rfl h
theorem expE_le (xs : List Pc) (n : Int) : (expE xs n).length ≤ 256 := by
  have h := size_len xs n
  have h2 : (sizeE xs n).1 ≤ 256 := by
    unfold sizeE
    split
    · simp
    · rename_i hc
      split
      · simp
      · have hg := good_of (xs := xs) (by simpa using hc)
        have := szAt_le hg.le n
        simp only
        omega
  omega
end Voc
end Go.Proofs.Ytildhlneldoffaa
