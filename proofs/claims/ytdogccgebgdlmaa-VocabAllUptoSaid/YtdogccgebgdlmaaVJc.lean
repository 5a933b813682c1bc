/- vocab: Joins, of whatever pieces. -/
import Derived.Test.YtdogccgebgdlmaaVJb
set_option linter.unusedVariables false
set_option linter.unusedSimpArgs false
namespace Go.Proofs.Ytdogccgebgdlmaa
open Go.RowKit
namespace Voc
/-- what Joins answers -/
def jE (xs : List Pc) : List Int := if (checkE xs).1 = 0 then jI xs else []
set_option maxRecDepth 20000 in
theorem joins_no {w : World} {v : Value} {xs : List Pc} (HS : SL encP w v xs) (hw : ∀ q ∈ xs, wfP q) (hl : xs.length ≤ 1048576) (hE : (checkE xs).1 ≠ 0) :
    Calls Try.prog 21 #[.agg #[v]] w fun e w' => e = .returned (.slice none 0 0) ∧ Gr w w' := by
  obtain ⟨⟨E, at_⟩, he⟩ : ∃ x, checkE xs = x := ⟨_, rfl⟩
  rw [he] at hE
  simp only at hE
  obtain ⟨A, cap, rfl⟩ := SL.form HS
  have HG := Lib.hid ((Fr.refl w NoneS).alloc (.cells #[.slice A xs.length cap] 24))
  have HL := Lib.hid ((look_any (HS.gr HG.out) hw hl E at_ he).mono fun e w' h => (show Gr _ w' ∧ e = .returned (.tuple #[.pointer none, .int .i64 E, .int .i64 at_]) from ⟨h.1, (h.2.resolve_right (fun h' => hE h'.1)).2⟩))
  have h0 : (E == 0) = false := beq_eq_false_iff_ne.2 hE
  have h1 : (E != 0) = true := bne_iff_ne.2 hE
  clear HS hw hl he hE
  go_enter Try.func21, Try.ntmps21
  generalize hx : World.alloc w (.cells #[.slice A xs.length cap] 24) = wa at HG HL
  have f0 : wa.cell? ⟨w.heap.size, 0, none⟩ = some (.slice A xs.length cap) := by rw [← hx]; simp
  have HX := Lib.hid hx
  clear hx
  go_wp2_with (go_at_call 36; rw [HX.out]; refine HL.out.mono ?_; rintro e w3 ⟨hg, rfl⟩; have HG3 := Lib.hid hg; clear hg)
  go_ret
  exact ⟨rfl, HG.out.trans HG3.out (fun _ _ h => h)⟩
theorem joins_all {w : World} {v : Value} {xs : List Pc} (HS : SL encP w v xs) (hw : ∀ q ∈ xs, wfP q) (hl : xs.length ≤ 1048576) :
    Calls Try.prog 21 #[.agg #[v]] w fun e w' => ∃ sv, e = .returned sv ∧ w'.ownsRow w.heap.size 3 1 sv (jE xs).length ((jE xs).flatMap encI) ∧ SpareT IsI w' sv ∧ Gr w w' := by
  by_cases h : (checkE xs).1 = 0
  · unfold jE
    rw [if_pos h]
    exact joins_any HS hw hl (checkE xs).2 (by rw [← h])
  · unfold jE
    rw [if_neg h]
    exact (joins_no HS hw hl h).mono fun e w' ⟨he, hg⟩ => ⟨_, he, World.ownsRow_nil _ _ _ _, SpareT.nil _ _, hg⟩
end Voc
end Go.Proofs.Ytdogccgebgdlmaa
