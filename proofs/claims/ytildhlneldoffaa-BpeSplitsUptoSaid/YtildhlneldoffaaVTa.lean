/- vocab: what is seen, in memory; take of a byte. -/
import Derived.Test.YtildhlneldoffaaVPlain
import Derived.Test.YtildhlneldoffaaLib
import Derived.Test.YtildhlneldoffaaRows
import Derived.BigQuiet
import Derived.BigRegion
import Derived.Deep.QuietTactic
import Derived.Deep.LoopGhost
import Derived.Deep.DeepCutAuto
import Derived.Deep.CutBlock
import Derived.Deep.WholeRow
import Derived.Deep.RegionHeld3
import Derived.Laws.StructEq
set_option linter.unusedVariables false
set_option linter.unusedSimpArgs false
namespace Go.Proofs.Ytildhlneldoffaa
open Go.RowKit
namespace Voc
abbrev TPc : TypeId := 40
abbrev TSn : TypeId := 108
abbrev MT1 : TypeId := 105
abbrev MT2 : TypeId := 84
abbrev MT3 : TypeId := 106
def encN (n : Nat) : List Value := [.int .i64 (n : Int)]
theorem encN_one : ∀ x : Nat, ∀ u ∈ encN x, u.oneCell' = true := by intro x u hu; simp [encN] at hu; subst hu; rfl
theorem info_int : (Try.prog.info? 3).map (fun i => (i.zero, i.size, i.bytes)) = some (some (.int .i64 0), 1, 8) := by kernel_rfl
theorem K1 : Maps.Keyed Try.prog 5 := Maps.int_keyed Try.underlying5
theorem K3 : Maps.Keyed Try.prog 38 := Maps.int_keyed Try.underlying38
theorem A2 : WideMaps.ArrKey Try.prog 87 3 2 := ⟨Try.underlying87, by kernel_rfl, by kernel_rfl, by kernel_rfl⟩
theorem K2 : Maps.Keyed Try.prog 87 := Maps.Keyed.of_law A2.law
theorem zeroI (w : World) : (zeroValue 3).run Try.prog w = .ok (.int .i64 0) w := by kernel_rfl
theorem tsz : ∃ m, Try.prog.types.size = m + 1 := ⟨Try.prog.types.size - 1, by kernel_rfl⟩

/-- what is seen: block p, three maps, the sizes -/
structure SN (w : World) (base p : Nat) (ps : List Pc) (sz : List Nat) (sv : Value) (b1 b2 b3 : Nat) : Prop where
  bs : base ≤ p ∧ base ≤ b1 ∧ base ≤ b2 ∧ base ≤ b3
  blk : Blk w p TSn #[sv, .map (some b1), .map (some b2), .map (some b3)]
  own : w.ownsRow base 3 1 sv ps.length (sz.flatMap encN)
  m1 : MB w b1 (be ps)
  m2 : MB w b2 (pe ps)
  m3 : MB w b3 (re ps)
  ne : b1 ≠ b2 ∧ b1 ≠ b3 ∧ b2 ≠ b3
  len : sz.length = ps.length
def SS (p b1 b2 b3 : Nat) (sv : Value) : Nat → Prop := fun k => k = p ∨ k = b1 ∨ k = b2 ∨ k = b3 ∨ sv.ownBlock = some k
section
variable {w w' : World} {base p b1 b2 b3 : Nat} {ps : List Pc} {sz : List Nat} {sv : Value}
theorem SN.gr (H : SN w base p ps sz sv b1 b2 b3) (hg : Gr w w') : SN w' base p ps sz sv b1 b2 b3 :=
  ⟨H.bs, H.blk.fr hg (fun h => h), hg.owns H.own (fun _ _ h => h), H.m1.fr hg (fun h => h), H.m2.fr hg (fun h => h), H.m3.fr hg (fun h => h), H.ne, H.len⟩
theorem own_map {g : Nat} {l : List (Value × Value)} {base n : Nat} {e : TypeId} {s : Nat} {v : Value} {xs : List Value} (h : w.ownsRow base e s v n xs) (hm : MB w g l) : v.ownBlock ≠ some g := by
  rcases h.2 with ⟨rfl, _⟩ | ⟨g', cap, cur, rfl, _, hh, _⟩
  · simp [Value.ownBlock]
  · intro he
    have : g' = g := by simpa [Value.ownBlock] using he
    subst this
    unfold MB at hm
    rw [hh] at hm; cases hm
/-- all keys are keys -/
theorem keys1 (h : ∀ q ∈ ps, wfP q) : ∀ x ∈ be ps, ∃ lx, keyOf Try.prog 5 x.1 = some lx := by
  intro x hx
  obtain ⟨q, i, hi, _, rfl⟩ := mem_be hx
  exact ⟨_, Maps.keyOf_int_mk Try.underlying5 (h q (List.mem_of_getElem? hi)).1⟩
theorem keys2 (h : ∀ q ∈ ps, wfP q) : ∀ x ∈ pe ps, ∃ lx, keyOf Try.prog 87 x.1 = some lx := by
  intro x hx
  obtain ⟨q, i, hi, _, rfl⟩ := mem_pe hx
  have hw := h q (List.mem_of_getElem? hi)
  exact ⟨_, WideMaps.keyOf_pair A2 Try.underlying3 tsz hw.2.1 hw.2.2.1⟩
theorem keys3 (h : ∀ q ∈ ps, wfP q) : ∀ x ∈ re ps, ∃ lx, keyOf Try.prog 38 x.1 = some lx := by
  intro x hx
  obtain ⟨q, i, hi, _, rfl⟩ := mem_re hx
  exact ⟨_, Maps.keyOf_int_mk Try.underlying38 (h q (List.mem_of_getElem? hi)).2.2.2⟩
end
theorem neq_piece (b l r k : Int) (w : World) : (binOp .neq TPc (.agg #[.bool false, .int .u8 b, .int .i64 l, .int .i64 r, .int .u32 k]) (.agg #[.bool false, .int .u8 b, .int .i64 0, .int .i64 0, .int .u32 0])).run Try.prog w = .ok (.bool (!(l == 0 && (r == 0 && k == 0)))) w := by
  rw [run_neq_struct]
  by_cases h1 : l = 0 <;> by_cases h2 : r = 0 <;> by_cases h3 : k = 0 <;> (try subst h1) <;> (try subst h2) <;> (try subst h3) <;> simp [go_sem, *]
end Voc
end Go.Proofs.Ytildhlneldoffaa
