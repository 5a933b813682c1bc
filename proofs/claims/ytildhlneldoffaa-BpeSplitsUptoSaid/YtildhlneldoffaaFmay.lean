/- the reference's vocab: May. -/
import Derived.Test.YtildhlneldoffaaVRc
import Derived.Test.YtildhlneldoffaaVTe
set_option linter.unusedVariables false
set_option linter.unusedSimpArgs false
namespace Go.Proofs.Ytildhlneldoffaa
open Go.RowKit
namespace Voc
theorem may_any {w : World} {v : Value} {xs : List Pc} (HS : SL encP w v xs) (hw : ∀ q ∈ xs, wfP q) (hl : xs.length ≤ 1048576) (b : Bool) (hb : decide ((checkE xs).1 = 0) = b) :
    Calls Try.prog 47 #[.agg #[v]] w fun e w' => e = .returned (.bool b) ∧ Gr w w' := by
  obtain ⟨⟨E, at_⟩, hE⟩ : ∃ x, checkE xs = x := ⟨_, rfl⟩
  rw [hE] at hb
  simp only at hb
  obtain ⟨A, cap, rfl⟩ := SL.form HS
  have HG := Lib.hid ((Fr.refl w NoneS).alloc (.cells #[.slice A xs.length cap] 24))
  have HL := Lib.hid (rsizes_any (HS.gr HG.out) hw hl E at_ hE)
  clear HS hw hl hE
  go_enter Try.func47, Try.ntmps47
  generalize hx : World.alloc w (.cells #[.slice A xs.length cap] 24) = wa at HG HL
  have f0 : wa.cell? ⟨w.heap.size, 0, none⟩ = some (.slice A xs.length cap) := by rw [← hx]; simp
  have HX := Lib.hid hx
  clear hx
  have Hb := Lib.hid hb
  clear hb
  go_wp2_with (go_at_call 45; rw [HX.out]; refine HL.out.mono ?_; rintro e w3 ⟨hg, ⟨h0, rfl⟩ | ⟨h0, h1, p, rfl, _⟩⟩ <;> have HG3 := Lib.hid hg <;> clear hg)
  all_goals (go_ret; refine ⟨?_, HG.out.trans HG3.out (fun _ _ h => h)⟩; have := Hb.out; simp_all)
end Voc
end Go.Proofs.Ytildhlneldoffaa
