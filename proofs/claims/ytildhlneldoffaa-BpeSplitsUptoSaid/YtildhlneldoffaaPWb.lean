/- The queue of stook/bpe.pair: made, Len, Peek, New (printed by gen_struct.py). -/
import Derived.Test.YtildhlneldoffaaPWa
set_option linter.unusedVariables false
set_option linter.unusedSimpArgs false
namespace Go.Proofs.Ytildhlneldoffaa
open Go.RowKit

namespace Qp

theorem results_cell_tmp {P : Program} {fn : Func} {p q : Tmp} {ty : TypeId} (h : fn.results = #[.cell p ty, .tmp q]) (tmps : Array Value) (w : World) (g : Nat) (t : TypeId) (cs : Array Value) (fr : Nat × Nat) (d : TypeDesc) (u : Value)
    (hp : tmps.getD p undef = .pointer (some ⟨g, 0, none⟩)) (hq : tmps.getD q undef = u) (hg : w.heap[g]? = some (.cells cs t fr))
    (hu : P.underlying ty = some d) (hd : (match d with | .struct _ | .array _ _ => true | _ => false) = true) (hi : (P.info? ty).map (·.size) = some cs.size) :
    (results fn tmps).run P w = .ok (.tuple #[.agg cs, u]) w := by
  have hp' : tmps[p]?.getD undef = .pointer (some ⟨g, 0, none⟩) := by simpa using hp
  have hq' : tmps[q]?.getD undef = u := by simpa using hq
  simp [results, h, hp', hq', asAddr, run_loadVar_row w g t ty cs fr d hg hu hd hi]

theorem made_yes (qb : Nat) (f : Fn) (x y : Array Value) (w : World)
    (h0 : w.cell? ⟨qb, 0, none⟩ = some (.func f x y)) :
    Calls Try.prog 56 #[.pointer (some ⟨qb, 0, none⟩)] w fun e w' => e = .returned (.bool true) ∧ w = w' := by
  have hn := fun w f x y => run_neq_func_nil (P := Try.prog) w 66 _ _ _ f x y Try.underlying66
  go_enter Try.func56, Try.ntmps56
  go_wp2
  go_ret
  exact ⟨rfl, rfl⟩


theorem peek_some (fv hv : Value) (B qb : Nat) (w : World) (l : List ((Int × Int × Int × Int × Int) × Nat)) (next : Nat) (hq : Q w B qb fv hv l next) (f : Fn) (x y : Array Value) (hfv : fv = .func f x y) (z : Int × Int × Int × Int × Int) (tz : Nat) (hz : l[0]? = some (z, tz)) :
    Calls Try.prog 50 #[.pointer (some ⟨qb, 0, none⟩)] w fun e w' => e = .returned (.tuple #[.agg #[.int .u32 z.1, .int .i64 z.2.1, .int .i64 z.2.2.1, .int .i64 z.2.2.2.1, .int .i64 z.2.2.2.2], .bool true]) ∧ Gr w w' := by
  subst hfv
  obtain ⟨za, zb, zc, zd, ze⟩ := z
  obtain ⟨hl, hz⟩ := List.getElem?_eq_some_iff.1 hz
  have c0 := hq.cell0
  have c1 := hq.cell1
  obtain ⟨hb, cap, rfl, hBhb, hhb, hne, hlc, hcm⟩ := hq.form (by omega)
  have z0 := hq.entry (fun _ => rfl) hl 0 (by omega)
  have z1 := hq.entry (fun _ => rfl) hl 1 (by omega)
  have z2 := hq.entry (fun _ => rfl) hl 2 (by omega)
  have z3 := hq.entry (fun _ => rfl) hl 3 (by omega)
  have z4 := hq.entry (fun _ => rfl) hl 4 (by omega)
  rw [hz] at z0 z1 z2 z3 z4
  simp [enc] at z0 z1 z2 z3 z4
  clear hz
  have hl' : ((l.length : Int) == 0) = false := beq_eq_false_iff_ne.2 (by omega)
  have hqb := hq.blk.lt
  clear hq
  have c0' : (w.alloc (.cells #[.int .u32 0, .int .i64 0, .int .i64 0, .int .i64 0, .int .i64 0] 65)).cell? ⟨qb, 0, none⟩ = some (.func f x y) := (((Fr.refl w NoneS).alloc _).cell (p := ⟨qb, 0, none⟩) hqb (fun h => h)).trans c0
  go_enter Try.func50, Try.ntmps50
  go_wp2_with (go_at_call 56; refine (made_yes _ _ _ _ _ c0').mono ?_; rintro e w' ⟨rfl, rfl⟩)
  refine bodyPost_ret (results_cell_tmp Try.results50 _ _ w.heap.size _ #[.int .u32 za, .int .i64 zb, .int .i64 zc, .int .i64 zd, .int .i64 ze] (0, 0) _ (.bool true) rfl rfl (heap_alloc_new w _) Try.underlying65 rfl (by kernel_rfl)) rfl ?_
  exact ⟨rfl, (Fr.refl _ _).alloc _⟩

theorem peek_none (fv hv : Value) (B qb : Nat) (w : World) (next : Nat) (hq : Q w B qb fv hv [] next) (f : Fn) (x y : Array Value) (hfv : fv = .func f x y) :
    Calls Try.prog 50 #[.pointer (some ⟨qb, 0, none⟩)] w fun e w' => e = .returned (.tuple #[.agg #[.int .u32 0, .int .i64 0, .int .i64 0, .int .i64 0, .int .i64 0], .bool false]) ∧ Gr w w' := by
  subst hfv
  have c0 := hq.cell0
  have c1 := hq.cell1
  obtain ⟨a, cap, rfl⟩ : ∃ a cap, hv = .slice a 0 cap := by
    rcases hq.own.2 with ⟨h, h0⟩ | ⟨g, cap, cur, h, _⟩
    · exact ⟨none, 0, by rw [h]⟩
    · exact ⟨_, cap, h⟩
  have hqb := hq.blk.lt
  clear hq
  have c0' : (w.alloc (.cells #[.int .u32 0, .int .i64 0, .int .i64 0, .int .i64 0, .int .i64 0] 65)).cell? ⟨qb, 0, none⟩ = some (.func f x y) := (((Fr.refl w NoneS).alloc _).cell (p := ⟨qb, 0, none⟩) hqb (fun h => h)).trans c0
  go_enter Try.func50, Try.ntmps50
  go_wp2_with (go_at_call 56; refine (made_yes _ _ _ _ _ c0').mono ?_; rintro e w' ⟨rfl, rfl⟩)
  refine bodyPost_ret (results_cell_tmp Try.results50 _ _ w.heap.size _ #[.int .u32 0, .int .i64 0, .int .i64 0, .int .i64 0, .int .i64 0] (0, 0) _ (.bool false) rfl rfl ((Blk.new w 65 #[.int .u32 0, .int .i64 0, .int .i64 0, .int .i64 0, .int .i64 0]).alloc _) Try.underlying65 rfl (by kernel_rfl)) rfl ?_
  exact ⟨rfl, ((Fr.refl _ _).alloc _).alloc _⟩

theorem new_any (f : Fn) (x y : Array Value) (w : World) :
    Calls Try.prog 36 #[.func f x y] w fun e w' => e = .returned (.pointer (some ⟨w.heap.size, 0, none⟩)) ∧ w' = w.alloc (.cells #[.func f x y, .slice none 0 0, .int .i64 0] 90) := by
  have hn := fun w f x y => run_eql_func_nil (P := Try.prog) w 66 _ _ _ f x y Try.underlying66
  go_enter Try.func36, Try.ntmps36
  go_wp2
  go_ret
  exact ⟨rfl, rfl⟩
end Qp
end Go.Proofs.Ytildhlneldoffaa
