/- The reference's CopyInts. -/
import Derived.Test.YtobedpohoellkaaVTa
set_option linter.unusedVariables false
set_option linter.unusedSimpArgs false
namespace Go.Proofs.Ytobedpohoellkaa
open Go.RowKit
namespace Voc
theorem copyInts_any (v : Value) (xs : List Int) (w : World) (hs : SL encI w v xs) (hl : xs.length ≤ 4194304) :
    Calls Try.prog 21 #[v] w fun e w' => ∃ r, e = .returned r ∧ w'.ownsRow w.heap.size 3 1 r xs.length (xs.flatMap encI) ∧ Gr w w' := by
  obtain ⟨i0, hi0, hz0, hz1, hz2⟩ := info_parts info_int
  have HS := Lib.hid hs
  clear hs
  go_enter Try.func21, Try.ntmps21
  go_wp2_with (at_builtin; refine wpList_append_sl _ encI rfl (.tmp 4) (.tmp 5) 25 rfl w.heap.size 3 i0 (.int .i64 0) 1 8 Try.underlying25 hi0 hz0 hz1 hz2 rfl (by omega) (.slice none 0 0) 0 [] rfl (World.ownsRow_nil _ _ _ _) v xs rfl (by exact HS.out) (fun _ => rfl) (by intro x u hu; simp [encI] at hu; subst hu; rfl) (by unfold maxLen; omega) (by omega) (Nat.le_refl _) ?_
               intro v1 w2 ho hf hat
               have HO2 := Lib.hid ho
               have HG2 := Lib.hid (show Gr w w2 from hf.mono (fun i hi h => by simp [Value.ownBlock] at h))
               clear ho hf hat)
  go_ret
  refine ⟨_, rfl, ?_, HG2.out⟩
  have h := HO2.out
  rw [List.nil_append, Nat.zero_add] at h
  exact h

end Voc
end Go.Proofs.Ytobedpohoellkaa
