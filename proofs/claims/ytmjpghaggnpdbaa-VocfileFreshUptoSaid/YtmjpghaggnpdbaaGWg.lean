/- vocfile: Get's deferred function. -/
import Derived.Test.YtmjpghaggnpdbaaGWf
import Derived.Test.YtmjpghaggnpdbaaGWe
import Derived.Defers
import Derived.Recover
import Derived.Laws.Pointers
set_option linter.unusedVariables false
set_option linter.unusedSimpArgs false
namespace Go.Proofs.Ytmjpghaggnpdbaa
open Go.RowKit
open Voc Leb Crc
namespace Vf
def Fr3 (w w' : World) (q1 q2 q3 : Nat) : Prop := Fr w w' (fun k => k = q1 ∨ k = q2 ∨ k = q3)
theorem ta_fault (E : Int) (x : Nat) (w : World) : (Instr.typeAssert (.iface 48 (.agg #[.int .i64 E, .int .i64 (x : Int)])) 20 48 true).run Try.prog w = .ok (.tuple #[.agg #[.int .i64 E, .int .i64 (x : Int)], .bool true]) w := by kernel_rfl
theorem ta_nil (w : World) : (Instr.typeAssert .nilIface 20 48 true).run Try.prog w = .ok (.tuple #[.agg #[.int .i64 0, .int .i64 0], .bool false]) w := by kernel_rfl
set_option maxRecDepth 20000 in
set_option maxHeartbeats 1000000 in
theorem catch_panicking (q1 q2 q3 : Nat) (a1 a2 a3 : Value) (E : Int) (x : Nat) (w : World) (h1 : Blk w q1 26 #[a1]) (h2 : Blk w q2 3 #[a2]) (h3 : Blk w q3 27 #[a3]) :
    CallsD Try.prog 22 #[.pointer (some ⟨q1, 0, none⟩), .pointer (some ⟨q2, 0, none⟩), .pointer (some ⟨q3, 0, none⟩)] (.panicking (flt E x)) w fun e u' w' =>
      e = .returned (.tuple #[]) ∧ u' = .panicking [{ v := .iface 48 (.agg #[.int .i64 E, .int .i64 (x : Int)]), recovered := true }] ∧
      Blk w' q1 26 #[.slice none 0 0] ∧ Blk w' q2 3 #[.int .i64 (x : Int)] ∧ Blk w' q3 27 #[.int .i64 E] ∧ Fr3 w w' q1 q2 q3 := by
  have H1 := Lib.hid h1
  have H2 := Lib.hid h2
  have H3 := Lib.hid h3
  clear h1 h2 h3
  refine callsD_of_wpS Try.func22 rfl fun c₀ cs hu => ?_
  apply wpS_seq
  apply wpS_region
  simp [wpOpsS, go_sem, recoverD, hu, Try.ntmps22, Exit.thenS, flt, ta_fault]
  refine wpS_of_wp ?_
  rw [show Array.replicate 13 undef = #[undef, undef, undef, undef, undef, undef, undef, undef, undef, undef, undef, undef, undef] from rfl]
  simp only [List.setIfInBounds_toArray, List.set_cons_zero, List.set_cons_succ, List.append_toArray, List.cons_append, List.nil_append]
  have HG := Lib.hid ((Fr.refl w NoneS).alloc (.cells #[.int .i64 E, .int .i64 (x : Int)] 48))
  have HBf := Lib.hid (Blk.new w 48 #[.int .i64 E, .int .i64 (x : Int)])
  have B1 := Lib.hid (H1.out.fr HG.out (fun h => h))
  have B2 := Lib.hid (H2.out.fr HG.out (fun h => h))
  have B3 := Lib.hid (H3.out.fr HG.out (fun h => h))
  obtain ⟨f, hf⟩ : ∃ f, w.heap.size = f := ⟨_, rfl⟩
  have Hf := Lib.hid hf
  rw [hf] at HBf ⊢
  clear hf
  generalize World.alloc w _ = w1 at HG HBf B1 B2 B3 ⊢
  have d1 : w1.cell? ⟨f, 0, none⟩ = some (.int .i64 E) := by rw [HBf.out.cell]; rfl
  have d2 : w1.cell? ⟨f, 1, none⟩ = some (.int .i64 (x : Int)) := by rw [HBf.out.cell]; rfl
  have c1 : w1.cell? ⟨q1, 0, none⟩ = some a1 := by rw [B1.out.cell]; rfl
  have c2 : w1.cell? ⟨q2, 0, none⟩ = some a2 := by rw [B2.out.cell]; rfl
  have c3 : w1.cell? ⟨q3, 0, none⟩ = some a3 := by rw [B3.out.cell]; rfl
  have z1 : w1.frozen? ⟨q1, 0, none⟩ = false := B1.out.frozen 0
  have z2 : w1.frozen? ⟨q2, 0, none⟩ = false := B2.out.frozen 0
  have z3 : w1.frozen? ⟨q3, 0, none⟩ = false := B3.out.frozen 0
  have n12 : q1 ≠ q2 := H1.out.ne_ H2.out (by decide)
  have n13 : q1 ≠ q3 := H1.out.ne_ H3.out (by decide)
  have n23 : q2 ≠ q3 := H2.out.ne_ H3.out (by decide)
  have nf1 : q1 ≠ f := B1.out.ne_ HBf.out (by decide)
  have nf2 : q2 ≠ f := B2.out.ne_ HBf.out (by decide)
  have nf3 : q3 ≠ f := B3.out.ne_ HBf.out (by decide)
  have n21 := n12.symm
  have n31 := n13.symm
  have n32 := n23.symm
  have mf1 := nf1.symm
  have mf2 := nf2.symm
  have mf3 := nf3.symm
  go_upto_region 2 with (fail)
  go_region
  go_wp2_with fail
  refine ⟨rfl, _, rfl, .tuple #[], by kernel_rfl, rfl, rfl, ?_⟩
  have b1 := (((B1.out.set_ 0 (.slice none 0 0)).far (p := ⟨q2, 0, none⟩) n12 (.int .i64 (x : Int))).far (p := ⟨q3, 0, none⟩) n13 (.int .i64 E)).drew
  have b2 := (((B2.out.far (p := ⟨q1, 0, none⟩) n21 (.slice none 0 0)).set_ 0 (.int .i64 (x : Int))).far (p := ⟨q3, 0, none⟩) n23 (.int .i64 E)).drew
  have b3 := (((B3.out.far (p := ⟨q1, 0, none⟩) n31 (.slice none 0 0)).far (p := ⟨q2, 0, none⟩) n32 (.int .i64 (x : Int))).set_ 0 (.int .i64 E)).drew
  refine ⟨b1, b2, b3, ?_⟩
  exact ((((HG.out.mono (fun _ _ h => h.elim)).setCell (p := ⟨q1, 0, none⟩) (fun _ => .inl rfl) _).setCell (p := ⟨q2, 0, none⟩) (fun _ => .inr (.inl rfl)) _).setCell (p := ⟨q3, 0, none⟩) (fun _ => .inr (.inr rfl)) _).drew
set_option maxRecDepth 20000 in
set_option maxHeartbeats 1000000 in
theorem catch_idle (p1 p2 p3 : Value) (w : World) :
    CallsD Try.prog 22 #[p1, p2, p3] .returning w fun e u' w' => e = .returned (.tuple #[]) ∧ u' = .returning ∧ Gr w w' := by
  refine callsD_of_wpS Try.func22 rfl fun c₀ cs hu => ?_
  apply wpS_seq
  apply wpS_region
  simp [wpOpsS, go_sem, recoverD, hu, Try.ntmps22, Exit.thenS, ta_nil]
  refine wpS_of_wp ?_
  rw [show Array.replicate 13 undef = #[undef, undef, undef, undef, undef, undef, undef, undef, undef, undef, undef, undef, undef] from rfl]
  simp only [List.setIfInBounds_toArray, List.set_cons_zero, List.set_cons_succ, List.append_toArray, List.cons_append, List.nil_append]
  go_wp2_with fail
  refine ⟨rfl, .returning, ?_, .tuple #[], by kernel_rfl, rfl, rfl, (Fr.refl w NoneS).alloc _⟩
  cases c₀
  simp_all
end Vf
end Go.Proofs.Ytmjpghaggnpdbaa
