/- vocab: the vocabulary that works makes, in plain Lean. -/
import Derived.Test.YtdogccgebgdlmaaVJc
import Derived.Test.YtdogccgebgdlmaaVPm
set_option linter.unusedVariables false
set_option linter.unusedSimpArgs false
namespace Go.Proofs.Ytdogccgebgdlmaa
open Go.RowKit
namespace Voc
instance (q : Pc) : Decidable (wfP q) := by unfold wfP; infer_instance
def wv : List Pc := pls 256 ++ [⟨true, 0, 97, 98, 5⟩, ⟨true, 0, 256, 99, 2⟩]
theorem wv_check : checkE wv = (0, 0) := by decide +kernel
theorem wv_exp : (sizeE wv 257).2 = 0 ∧ expE wv 257 = [97, 98, 99] := by unfold expE sizeE; rw [wv_check]; decide +kernel
theorem wv_joins : jE wv = [257, 256] := by unfold jE; rw [wv_check]; decide +kernel
theorem wv_wf : ∀ q ∈ wv, wfP q := by decide +kernel
theorem pls_check : checkE (pls 256) = (0, 0) := by decide +kernel
theorem nil_check : checkE [] = (7, 0) := by decide +kernel
end Voc
end Go.Proofs.Ytdogccgebgdlmaa
