/- the reference's vocab: Check; what both Checks answer; Many. -/
import Derived.Test.YtdogccgebgdlmaaVRa
import Derived.Test.YtdogccgebgdlmaaVTa
set_option linter.unusedVariables false
set_option linter.unusedSimpArgs false
namespace Go.Proofs.Ytdogccgebgdlmaa
open Go.RowKit
namespace Voc
theorem rcheck_any {w : World} {v : Value} {xs : List Pc} (HS : SL encP w v xs) (hw : ∀ q ∈ xs, wfP q) (hl : xs.length ≤ 1048576) :
    Calls Try.prog 14 #[.agg #[v]] w fun e w' => e = .returned (.tuple #[.int .i64 (checkE xs).1, .int .i64 ((checkE xs).2 : Nat)]) ∧ Gr w w' := by
  obtain ⟨⟨E, at_⟩, hE⟩ : ∃ x, checkE xs = x := ⟨_, rfl⟩
  rw [hE]
  simp only
  obtain ⟨A, cap, rfl⟩ := SL.form HS
  have HG := Lib.hid ((Fr.refl w NoneS).alloc (.cells #[.slice A xs.length cap] 24))
  have HL := Lib.hid (rsizes_any (HS.gr HG.out) hw hl E at_ hE)
  clear HS hw hl hE
  go_enter Try.func14, Try.ntmps14
  generalize hx : World.alloc w (.cells #[.slice A xs.length cap] 24) = wa at HG HL
  have f0 : wa.cell? ⟨w.heap.size, 0, none⟩ = some (.slice A xs.length cap) := by rw [← hx]; simp
  have HX := Lib.hid hx
  clear hx
  go_wp2_with (go_at_call 37; rw [HX.out]; refine HL.out.mono ?_; rintro e w3 ⟨hg, ⟨h0, rfl⟩ | ⟨h0, h1, p, rfl, _⟩⟩ <;> have HG3 := Lib.hid hg <;> clear hg)
  all_goals (go_ret2; first | exact ⟨rfl, HG.out.trans HG3.out (fun _ _ h => h)⟩ | (subst h0 h1; exact ⟨rfl, HG.out.trans HG3.out (fun _ _ h => h)⟩))
theorem many_any {w : World} {v : Value} {xs : List Pc} (HS : SL encP w v xs) :
    Calls Try.prog 11 #[.agg #[v]] w fun e w' => e = .returned (.bool (decide (700 < xs.length))) ∧ Gr w w' := by
  obtain ⟨A, cap, rfl⟩ := SL.form HS
  clear HS
  have HG := Lib.hid ((Fr.refl w NoneS).alloc (.cells #[.slice A xs.length cap] 24))
  go_enter Try.func11, Try.ntmps11
  by_cases h : 700 < xs.length
  · have h' : (700 : Int) < (xs.length : Int) := by omega
    go_wp2_with fail
    go_ret
    exact ⟨by simp [h], HG.out⟩
  · have h' : ¬ (700 : Int) < (xs.length : Int) := by omega
    go_wp2_with fail
    go_ret
    exact ⟨by simp [h], HG.out⟩
end Voc
end Go.Proofs.Ytdogccgebgdlmaa
