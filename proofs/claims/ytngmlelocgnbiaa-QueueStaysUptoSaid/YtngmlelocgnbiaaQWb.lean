/- The queue of ints: the walks of its methods, on. -/
import Derived.Test.YtngmlelocgnbiaaQWa
import Derived.WalkSpells
set_option linter.unusedVariables false
set_option linter.unusedSimpArgs false
namespace Go.Proofs.Ytngmlelocgnbiaa
open Go.RowKit

theorem run_equalIn_func_nil {P : Program} (w : World) (d : Nat) (t : TypeId) (ps rs : Array TypeId) (vr : Bool) (f : Fn) (x y : Array Value) (h : P.underlying t = some (.func ps rs vr)) :
    (Op.equalIn (d + 1) t (.func f x y) .nilFunc).run P w = .ok false w := by
  simp [Op.equalIn, run_underlying h]
theorem run_neq_func_nil {P : Program} (w : World) (t : TypeId) (ps rs : Array TypeId) (vr : Bool) (f : Fn) (x y : Array Value) (h : P.underlying t = some (.func ps rs vr)) :
    (binOp .neq t (.func f x y) .nilFunc).run P w = .ok (.bool true) w := by
  simp only [binOp]
  simp [Op.equal, Op.maxDepth, run_equalIn_func_nil w 9999 t ps rs vr f x y h]
theorem run_eql_func_nil {P : Program} (w : World) (t : TypeId) (ps rs : Array TypeId) (vr : Bool) (f : Fn) (x y : Array Value) (h : P.underlying t = some (.func ps rs vr)) :
    (binOp .eql t (.func f x y) .nilFunc).run P w = .ok (.bool false) w := by
  simp only [binOp]
  simp [Op.equal, Op.maxDepth, run_equalIn_func_nil w 9999 t ps rs vr f x y h]

namespace Qi
theorem made_yes (qb : Nat) (f : Fn) (x y : Array Value) (w : World)
    (h0 : w.cell? ⟨qb, 0, none⟩ = some (.func f x y)) :
    Calls Try.prog 38 #[.pointer (some ⟨qb, 0, none⟩)] w fun e w' => e = .returned (.bool true) ∧ w = w' := by
  have hn := fun w f x y => run_neq_func_nil (P := Try.prog) w 25 _ _ _ f x y Try.underlying25
  go_enter Try.func38, Try.ntmps38
  go_wp2
  go_ret
  exact ⟨rfl, rfl⟩

theorem len_any (fv hv : Value) (B qb : Nat) (w : World) (l : List (Int × Nat)) (next : Nat) (hq : Q w B qb fv hv l next) (f : Fn) (x y : Array Value) (hfv : fv = .func f x y) :
    Calls Try.prog 28 #[.pointer (some ⟨qb, 0, none⟩)] w fun e w' => e = .returned (.int .i64 l.length) ∧ w = w' := by
  subst hfv
  have c0 := hq.cell0
  have c1 := hq.cell1
  obtain ⟨a, cap, rfl⟩ : ∃ a cap, hv = .slice a l.length cap := by
    rcases hq.own.2 with ⟨h, h0⟩ | ⟨g, cap, cur, h, _⟩
    · exact ⟨none, 0, by rw [h, h0]⟩
    · exact ⟨_, cap, h⟩
  clear hq
  go_enter Try.func28, Try.ntmps28
  go_wp2_with (go_at_call 38; refine (made_yes _ _ _ _ _ c0).mono ?_; rintro e w' ⟨rfl, rfl⟩)
  go_ret
  exact ⟨rfl, rfl⟩

theorem peek_some (fv hv : Value) (B qb : Nat) (w : World) (l : List (Int × Nat)) (next : Nat) (hq : Q w B qb fv hv l next) (f : Fn) (x y : Array Value) (hfv : fv = .func f x y) (z : Int) (tz : Nat) (hz : l[0]? = some (z, tz)) :
    Calls Try.prog 26 #[.pointer (some ⟨qb, 0, none⟩)] w fun e w' => e = .returned (.tuple #[.int .i64 z, .bool true]) ∧ w = w' := by
  subst hfv
  obtain ⟨hl, hz⟩ := List.getElem?_eq_some_iff.1 hz
  have c0 := hq.cell0
  have c1 := hq.cell1
  obtain ⟨hb, cap, rfl, hBhb, hhb, hne, hlc, hcm⟩ := hq.form (by omega)
  have x0 := hq.entry (fun _ => rfl) hl 0 (by omega)
  rw [hz] at x0
  simp [enc] at x0
  clear hz
  have hl' : ((l.length : Int) == 0) = false := beq_eq_false_iff_ne.2 (by omega)
  clear hq
  go_enter Try.func26, Try.ntmps26
  go_wp2_with (go_at_call 38; refine (made_yes _ _ _ _ _ c0).mono ?_; rintro e w' ⟨rfl, rfl⟩)
  go_ret2
  exact ⟨rfl, rfl⟩

theorem peek_none (fv hv : Value) (B qb : Nat) (w : World) (next : Nat) (hq : Q w B qb fv hv [] next) (f : Fn) (x y : Array Value) (hfv : fv = .func f x y) :
    Calls Try.prog 26 #[.pointer (some ⟨qb, 0, none⟩)] w fun e w' => e = .returned (.tuple #[.int .i64 0, .bool false]) ∧ w = w' := by
  subst hfv
  have c0 := hq.cell0
  have c1 := hq.cell1
  obtain ⟨a, cap, rfl⟩ : ∃ a cap, hv = .slice a 0 cap := by
    rcases hq.own.2 with ⟨h, h0⟩ | ⟨g, cap, cur, h, _⟩
    · exact ⟨none, 0, by rw [h]⟩
    · exact ⟨_, cap, h⟩
  clear hq
  go_enter Try.func26, Try.ntmps26
  go_wp2_with (go_at_call 38; refine (made_yes _ _ _ _ _ c0).mono ?_; rintro e w' ⟨rfl, rfl⟩)
  go_ret2
  exact ⟨rfl, rfl⟩

theorem new_any (f : Fn) (x y : Array Value) (w : World) :
    Calls Try.prog 22 #[.func f x y] w fun e w' => e = .returned (.pointer (some ⟨w.heap.size, 0, none⟩)) ∧ w' = w.alloc (.cells #[.func f x y, .slice none 0 0, .int .i64 0] 62) := by
  have hn := fun w f x y => run_eql_func_nil (P := Try.prog) w 25 _ _ _ f x y Try.underlying25
  go_enter Try.func22, Try.ntmps22
  go_wp2
  go_ret
  exact ⟨rfl, rfl⟩
end Qi
end Go.Proofs.Ytngmlelocgnbiaa
