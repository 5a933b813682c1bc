/- sha: a hash that is not there. -/
import Derived.Test.YtfpgfnmidkkgjaaHWi
set_option linter.unusedVariables false
set_option linter.unusedSimpArgs false
namespace Go.Proofs.Ytfpgfnmidkkgjaa
open Go.RowKit
namespace Sha

/-- the digest of nothing: 32 zeros -/
abbrev Z32 : Array Value := #[.int .u8 0, .int .u8 0, .int .u8 0, .int .u8 0, .int .u8 0, .int .u8 0, .int .u8 0, .int .u8 0, .int .u8 0, .int .u8 0, .int .u8 0, .int .u8 0, .int .u8 0, .int .u8 0, .int .u8 0, .int .u8 0, .int .u8 0, .int .u8 0, .int .u8 0, .int .u8 0, .int .u8 0, .int .u8 0, .int .u8 0, .int .u8 0, .int .u8 0, .int .u8 0, .int .u8 0, .int .u8 0, .int .u8 0, .int .u8 0, .int .u8 0, .int .u8 0]

theorem write_nil (v : Value) (w : World) : Calls Try.prog 19 #[.pointer none, v] w fun e w' => e = .returned (.int .i64 1) ∧ w = w' := by
  go_enter Try.func19, Try.ntmps19
  go_wp2_with fail
  go_ret
  exact ⟨rfl, rfl⟩
theorem write_zero (v : Value) (p : Nat) (w : World) (h : w.cell? ⟨p, 0, none⟩ = some (.bool false)) : Calls Try.prog 19 #[.pointer (some ⟨p, 0, none⟩), v] w fun e w' => e = .returned (.int .i64 1) ∧ w = w' := by
  go_enter Try.func19, Try.ntmps19
  go_wp2_with fail
  go_ret
  exact ⟨rfl, rfl⟩
theorem copy_nil (w : World) : Calls Try.prog 21 #[.pointer none] w fun e w' => e = .returned (.pointer none) ∧ w = w' := by
  go_enter Try.func21, Try.ntmps21
  go_wp2_with fail
  go_ret
  exact ⟨rfl, rfl⟩
theorem copy_zero (p : Nat) (w : World) (h : w.cell? ⟨p, 0, none⟩ = some (.bool false)) : Calls Try.prog 21 #[.pointer (some ⟨p, 0, none⟩)] w fun e w' => e = .returned (.pointer none) ∧ w = w' := by
  go_enter Try.func21, Try.ntmps21
  go_wp2_with fail
  go_ret
  exact ⟨rfl, rfl⟩
set_option maxRecDepth 100000 in
theorem hsum_nil (w : World) : Calls Try.prog 20 #[.pointer none] w fun e w' => e = .returned (.agg Z32) ∧ Gr w w' := by
  go_enter Try.func20, Try.ntmps20
  go_wp2_with (first
    | refine wpList_build_to rfl _ _ rfl Z32 (by kernel_rfl) ?_
    | refine wpList_store_new (w0 := w) rfl _ _ _ rfl Z32 _ _ rfl rfl rfl (by kernel_rfl) (by kernel_rfl) (by kernel_rfl) ?_)
  refine bodyPost_ret (results_cell_row Try.results20 _ _ w.heap.size _ Z32 (0, 0) _ rfl (heap_alloc_last _ _) Try.underlying30 rfl (by kernel_rfl)) rfl ?_
  exact ⟨rfl, (Fr.refl _ _).alloc _⟩
set_option maxRecDepth 100000 in
theorem hsum_zero (p : Nat) (w : World) (h : w.cell? ⟨p, 0, none⟩ = some (.bool false)) (hp : p < w.heap.size) : Calls Try.prog 20 #[.pointer (some ⟨p, 0, none⟩)] w fun e w' => e = .returned (.agg Z32) ∧ Gr w w' := by
  go_enter Try.func20, Try.ntmps20
  go_wp2_with (first
    | refine wpList_build_to rfl _ _ rfl Z32 (by kernel_rfl) ?_
    | refine wpList_store_new (w0 := w) rfl _ _ _ rfl Z32 _ _ rfl rfl rfl (by kernel_rfl) (by kernel_rfl) (by kernel_rfl) ?_)
  refine bodyPost_ret (results_cell_row Try.results20 _ _ w.heap.size _ Z32 (0, 0) _ rfl (heap_alloc_last _ _) Try.underlying30 rfl (by kernel_rfl)) rfl ?_
  exact ⟨rfl, (Fr.refl _ _).alloc _⟩
theorem eq_z32 (w : World) : (binOp .eql TD (.agg #[.int .u8 0, .int .u8 0, .int .u8 0, .int .u8 0, .int .u8 0, .int .u8 0, .int .u8 0, .int .u8 0, .int .u8 0, .int .u8 0, .int .u8 0, .int .u8 0, .int .u8 0, .int .u8 0, .int .u8 0, .int .u8 0, .int .u8 0, .int .u8 0, .int .u8 0, .int .u8 0, .int .u8 0, .int .u8 0, .int .u8 0, .int .u8 0, .int .u8 0, .int .u8 0, .int .u8 0, .int .u8 0, .int .u8 0, .int .u8 0, .int .u8 0, .int .u8 0]) (.agg #[.int .u8 0, .int .u8 0, .int .u8 0, .int .u8 0, .int .u8 0, .int .u8 0, .int .u8 0, .int .u8 0, .int .u8 0, .int .u8 0, .int .u8 0, .int .u8 0, .int .u8 0, .int .u8 0, .int .u8 0, .int .u8 0, .int .u8 0, .int .u8 0, .int .u8 0, .int .u8 0, .int .u8 0, .int .u8 0, .int .u8 0, .int .u8 0, .int .u8 0, .int .u8 0, .int .u8 0, .int .u8 0, .int .u8 0, .int .u8 0, .int .u8 0, .int .u8 0])).run Try.prog w = .ok (.bool true) w := by kernel_rfl
end Sha
open Sha
set_option maxHeartbeats 1600000 in
set_option maxRecDepth 100000 in
theorem ShaNil_walk (w : World) (v : Value) (xs : List Int) (hs : SL (fun x : Int => [Value.int .u8 x]) w v xs) (hwf : ∀ x ∈ xs, (Lit.int .u8 x).wf = true) (hlen : xs.length ≤ 1048576) :
    Calls Try.prog 7 #[v] w fun e w' => e = .returned (.bool true) ∧ Gr w w' := by
  obtain ⟨A, cap, rfl, _⟩ := hs.len
  clear hs hwf
  have hz := fun w => eq_z32 w
  go_enter Try.func7, Try.ntmps7
  go_upto_region 3 with (fail)
  have HB := Lib.hid (Blk.new w TH #[.bool false, .int .u32 0, .int .u32 0, .int .u32 0, .int .u32 0, .int .u32 0, .int .u32 0, .int .u32 0, .int .u32 0, .slice none 0 0, .int .i64 0])
  have HG := Lib.hid ((Fr.refl w NoneS).alloc (.cells #[.bool false, .int .u32 0, .int .u32 0, .int .u32 0, .int .u32 0, .int .u32 0, .int .u32 0, .int .u32 0, .int .u32 0, .slice none 0 0, .int .i64 0] TH))
  generalize w.heap.size = z at HB ⊢
  generalize World.alloc w _ = w1 at HB HG ⊢
  go_wp2_with (first
    | (go_at_call 19; have hc := c0; refine (write_zero _ z w2 hc).mono ?_; rintro e w' ⟨rfl, rfl⟩; clear hc)
    | (go_at_call 20; have hc := c0; refine (hsum_zero z w2 hc HB2.out.lt).mono ?_; rintro e w3 ⟨rfl, hg⟩; have HG3 := Lib.hid hg; have HB3 := Lib.hid (HB2.out.fr hg (fun h => h)); have c0' : w3.cell? ⟨z, 0, none⟩ = some (.bool false) := HB3.out.cell 0; clear hg hc)
    | (go_at_call 21; have hc := c0'; refine (copy_zero z w3 hc).mono ?_; rintro e w' ⟨rfl, rfl⟩; clear hc)
    | (go_at_call 19; refine (write_nil _ _).mono ?_; rintro e w' ⟨rfl, rfl⟩)
    | (go_at_call 20; refine (hsum_nil _).mono ?_; rintro e w2 ⟨rfl, hg⟩; have HG2 := Lib.hid hg; have HB2 := Lib.hid (HB.out.fr hg (fun h => h)); have c0 : w2.cell? ⟨z, 0, none⟩ = some (.bool false) := HB2.out.cell 0; clear hg)
    | (go_at_call 21; refine (copy_nil _).mono ?_; rintro e w' ⟨rfl, rfl⟩)
    | (go_at_call 12; refine (works_any _).mono ?_; rintro e w4 ⟨rfl, hg⟩; have HG4 := Lib.hid hg; clear hg))
  go_ret
  exact ⟨rfl, ((HG.out.trans HG2.out (fun _ _ h => h)).trans HG3.out (fun _ _ h => h)).trans HG4.out (fun _ _ h => h)⟩
end Go.Proofs.Ytfpgfnmidkkgjaa
