/- The queue of strings: the walks of its methods (printed by gen_str.py out of those of the queue of ints). -/
import Derived.Test.YtngmlelocgnbiaaSWa
import Derived.Test.YtngmlelocgnbiaaQWb
set_option linter.unusedVariables false
set_option linter.unusedSimpArgs false
namespace Go.Proofs.Ytngmlelocgnbiaa
open Go.RowKit

namespace Qs
theorem made_yes (qb : Nat) (f : Fn) (x y : Array Value) (w : World)
    (h0 : w.cell? ⟨qb, 0, none⟩ = some (.func f x y)) :
    Calls Try.prog 43 #[.pointer (some ⟨qb, 0, none⟩)] w fun e w' => e = .returned (.bool true) ∧ w = w' := by
  have hn := fun w f x y => run_neq_func_nil (P := Try.prog) w 32 _ _ _ f x y Try.underlying32
  go_enter Try.func43, Try.ntmps43
  go_wp2
  go_ret
  exact ⟨rfl, rfl⟩

theorem peek_some (fv hv : Value) (B qb : Nat) (w : World) (l : List (ByteArray × Nat)) (next : Nat) (hq : Q w B qb fv hv l next) (f : Fn) (x y : Array Value) (hfv : fv = .func f x y) (z : ByteArray) (tz : Nat) (hz : l[0]? = some (z, tz)) :
    Calls Try.prog 45 #[.pointer (some ⟨qb, 0, none⟩)] w fun e w' => e = .returned (.tuple #[.string z, .bool true]) ∧ w = w' := by
  subst hfv
  obtain ⟨hl, hz⟩ := List.getElem?_eq_some_iff.1 hz
  have c0 := hq.cell0
  have c1 := hq.cell1
  obtain ⟨hb, cap, rfl, hBhb, hhb, hne, hlc, hcm⟩ := hq.form (by omega)
  have x0 := hq.entry (fun _ => rfl) hl 0 (by omega)
  rw [hz] at x0
  simp [enc] at x0
  clear hz
  have hl' : ((l.length : Int) == 0) = false := beq_eq_false_iff_ne.2 (by omega)
  clear hq
  go_enter Try.func45, Try.ntmps45
  go_wp2_with (go_at_call 43; refine (made_yes _ _ _ _ _ c0).mono ?_; rintro e w' ⟨rfl, rfl⟩)
  go_ret2
  exact ⟨rfl, rfl⟩

theorem peek_none (fv hv : Value) (B qb : Nat) (w : World) (next : Nat) (hq : Q w B qb fv hv [] next) (f : Fn) (x y : Array Value) (hfv : fv = .func f x y) :
    Calls Try.prog 45 #[.pointer (some ⟨qb, 0, none⟩)] w fun e w' => e = .returned (.tuple #[.string (⟨#[]⟩ : ByteArray), .bool false]) ∧ w = w' := by
  subst hfv
  have c0 := hq.cell0
  have c1 := hq.cell1
  obtain ⟨a, cap, rfl⟩ : ∃ a cap, hv = .slice a 0 cap := by
    rcases hq.own.2 with ⟨h, h0⟩ | ⟨g, cap, cur, h, _⟩
    · exact ⟨none, 0, by rw [h]⟩
    · exact ⟨_, cap, h⟩
  clear hq
  go_enter Try.func45, Try.ntmps45
  go_wp2_with (go_at_call 43; refine (made_yes _ _ _ _ _ c0).mono ?_; rintro e w' ⟨rfl, rfl⟩)
  go_ret2
  exact ⟨rfl, rfl⟩

theorem new_any (f : Fn) (x y : Array Value) (w : World) :
    Calls Try.prog 35 #[.func f x y] w fun e w' => e = .returned (.pointer (some ⟨w.heap.size, 0, none⟩)) ∧ w' = w.alloc (.cells #[.func f x y, .slice none 0 0, .int .i64 0] 77) := by
  have hn := fun w f x y => run_eql_func_nil (P := Try.prog) w 32 _ _ _ f x y Try.underlying32
  go_enter Try.func35, Try.ntmps35
  go_wp2
  go_ret
  exact ⟨rfl, rfl⟩
end Qs
end Go.Proofs.Ytngmlelocgnbiaa
