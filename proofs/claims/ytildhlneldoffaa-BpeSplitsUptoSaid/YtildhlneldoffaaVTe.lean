/- vocab: Check. -/
import Derived.Test.YtildhlneldoffaaVTd
set_option linter.unusedVariables false
set_option linter.unusedSimpArgs false
namespace Go.Proofs.Ytildhlneldoffaa
open Go.RowKit
namespace Voc
theorem SL.form {α : Type} {enc : α → List Value} {w : World} {v : Value} {xs : List α} (h : SL enc w v xs) : ∃ A cap, v = .slice A xs.length cap := by obtain ⟨A, cap, h, _⟩ := h; exact ⟨A, cap, h⟩
theorem check_any {w : World} {v : Value} {xs : List Pc} (HS : SL encP w v xs) (hw : ∀ q ∈ xs, wfP q) (hl : xs.length ≤ 1048576) :
    Calls Try.prog 43 #[.agg #[v]] w fun e w' => e = .returned (.tuple #[.int .i64 (checkE xs).1, .int .i64 ((checkE xs).2 : Nat)]) ∧ Gr w w' := by
  obtain ⟨⟨E, at_⟩, hE⟩ : ∃ x, checkE xs = x := ⟨_, rfl⟩
  rw [hE]
  simp only
  obtain ⟨A, cap, rfl⟩ := SL.form HS
  have HG := Lib.hid ((Fr.refl w NoneS).alloc (.cells #[.slice A xs.length cap] 24))
  have HL := Lib.hid (look_any (HS.gr HG.out) hw hl E at_ hE)
  clear HS hw hl hE
  go_enter Try.func43, Try.ntmps43
  generalize hx : World.alloc w (.cells #[.slice A xs.length cap] 24) = wa at HG HL
  have f0 : wa.cell? ⟨w.heap.size, 0, none⟩ = some (.slice A xs.length cap) := by rw [← hx]; simp
  have HX := Lib.hid hx
  clear hx
  go_wp2_with (go_at_call 52; rw [HX.out]; refine HL.out.mono ?_; rintro e w3 ⟨hg, ⟨h0, rfl⟩ | ⟨h0, h1, p, rfl, _⟩⟩ <;> have HG3 := Lib.hid hg <;> clear hg)
  all_goals (go_ret2; first | exact ⟨rfl, HG.out.trans HG3.out (fun _ _ h => h)⟩ | (subst h0 h1; exact ⟨rfl, HG.out.trans HG3.out (fun _ _ h => h)⟩))
end Voc
end Go.Proofs.Ytildhlneldoffaa
