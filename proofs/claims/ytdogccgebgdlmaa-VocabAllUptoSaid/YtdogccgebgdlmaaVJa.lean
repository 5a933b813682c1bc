/- vocab: Joins' comparison. -/
import Derived.Test.YtdogccgebgdlmaaVTa
set_option linter.unusedVariables false
set_option linter.unusedSimpArgs false
namespace Go.Proofs.Ytdogccgebgdlmaa
open Go.RowKit
namespace Voc
/-- the rank of piece i -/
def rk (xs : List Pc) (i : Nat) : Int := ((xs[i]?).map (·.k)).getD 0
theorem less_any {w : World} {p : Nat} {v : Value} {xs : List Pc} (HS : SL encP w v xs) (hv : w.cell? ⟨p, 0, none⟩ = some v) (a b : Nat) (ha : a < xs.length) (hb : b < xs.length) :
    Calls Try.prog 40 #[.int .i64 (a : Int), .int .i64 (b : Int), .pointer (some ⟨p, 0, none⟩)] w fun e w' => e = .returned (.int .i64 (if rk xs a < rk xs b then -1 else 1)) ∧ Dr w w' := by
  obtain ⟨A, cap, rfl⟩ := SL.form HS
  obtain ⟨b1, o1, rfl, _, hc1⟩ := HS.at_ (s := 5) (fun _ => rfl) rfl ha
  obtain ⟨b2, o2, hA2, _, hc2⟩ := HS.at_ (s := 5) (fun _ => rfl) rfl hb
  injection hA2 with hA2
  injection hA2 with h1 h2
  subst h1 h2
  have c1 := hc1 4 (by omega)
  have c2 := hc2 4 (by omega)
  clear hc1 hc2
  have r1 : rk xs a = (xs[a]'ha).k := by simp [rk, ha]
  have r2 : rk xs b = (xs[b]'hb).k := by simp [rk, hb]
  simp only [encP, List.getElem?_cons_succ, List.getElem?_cons_zero] at c1 c2
  rw [← r1, ← Nat.add_assoc] at c1
  rw [← r2, ← Nat.add_assoc] at c2
  clear r1 r2
  generalize rk xs a = x at c1 ⊢
  generalize rk xs b = y at c2 ⊢
  have hai : (a : Int) < xs.length := by omega
  have hbi : (b : Int) < xs.length := by omega
  clear HS
  by_cases h : x < y
  · rw [if_pos h]
    go_enter Try.func40, Try.ntmps40
    go_wp2_with fail
    go_quiet (fail)
    go_wp2_with fail
    go_ret
    exact ⟨rfl, (Dr.refl _).drewN _⟩
  · rw [if_neg h]
    go_enter Try.func40, Try.ntmps40
    go_wp2_with fail
    go_quiet (fail)
    go_wp2_with fail
    go_ret
    exact ⟨rfl, (Dr.refl _).drewN _⟩
end Voc
end Go.Proofs.Ytdogccgebgdlmaa
