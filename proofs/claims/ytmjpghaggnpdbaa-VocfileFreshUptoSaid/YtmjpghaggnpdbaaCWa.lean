/- crc: the walks of both packages. -/
import Derived.Test.YtmjpghaggnpdbaaVTa
import Derived.Test.YtmjpghaggnpdbaaGPl
set_option linter.unusedVariables false
set_option linter.unusedSimpArgs false
namespace Go.Proofs.Ytmjpghaggnpdbaa
open Go.RowKit
open Voc
namespace Crc
theorem step_bits (r : Nat) (hr : r < 2 ^ 32) : bits BinOp.xor IntKind.u32 ((r : Int) / 2) (bits BinOp.and IntKind.u32 2197175160 (-bits BinOp.and IntKind.u32 (r : Int) 1 % 4294967296)) = ((stepN r : Nat) : Int) := by
  have e1 : bits BinOp.and IntKind.u32 (r : Int) 1 = ((r % 2 : Nat) : Int) := by
    have := and32 hr (show 1 < 2 ^ 32 by decide)
    rw [and_1] at this
    exact this
  have e2 : (r : Int) / 2 = ((r / 2 : Nat) : Int) := by omega
  rw [e1, e2]
  unfold stepN
  by_cases h : r % 2 = 0
  · rw [if_pos h, h]
    have e3 : bits BinOp.and IntKind.u32 2197175160 (-((0 : Nat) : Int) % 4294967296) = ((0 : Nat) : Int) := by
      have := and32 (show 2197175160 < 2 ^ 32 by decide) (show 0 < 2 ^ 32 by decide)
      rw [Nat.and_zero] at this
      exact this
    rw [e3]
    have := xor32 (show r / 2 < 2 ^ 32 by omega) (show 0 < 2 ^ 32 by decide)
    rw [Nat.xor_zero] at this
    exact this
  · have h1 : r % 2 = 1 := by omega
    rw [if_neg h, h1]
    have e3 : bits BinOp.and IntKind.u32 2197175160 (-((1 : Nat) : Int) % 4294967296) = ((2197175160 : Nat) : Int) := by
      have := and32 (show 2197175160 < 2 ^ 32 by decide) (show 4294967295 < 2 ^ 32 by decide)
      rw [and_all32 (by decide)] at this
      exact this
    rw [e3]
    exact xor32 (show r / 2 < 2 ^ 32 by omega) (show 2197175160 < 2 ^ 32 by decide)
def big32 : Int := 4294967296
theorem step_any (r : Nat) (hr : r < 2 ^ 32) (w : World) : Calls Try.prog 69 #[.int .u32 (r : Int)] w fun e w' => e = .returned (.int .u32 (stepN r : Nat)) ∧ w = w' := by
  have Hb := Lib.hid (step_bits r hr)
  clear hr
  go_enter Try.func69, Try.ntmps69
  go_wp2
  go_ret
  refine ⟨?_, rfl⟩
  rw [← Hb.out]
  rfl
theorem rstep_any (r : Nat) (hr : r < 2 ^ 32) (w : World) : Calls Try.prog 68 #[.int .u32 (r : Int)] w fun e w' => e = .returned (.int .u32 (stepN r : Nat)) ∧ w = w' := by
  by_cases h : r % 2 = 0
  · have hs := Lib.hid (show stepN r = r / 2 by unfold stepN; rw [if_pos h])
    have h2 : ((r : Int) % 2 == 0) = true := by rw [beq_iff_eq]; omega
    have hd := Lib.hid (show (r : Int) / 2 % 4294967296 = ((r / 2 : Nat) : Int) by omega)
    clear h hr
    go_enter Try.func68, Try.ntmps68
    go_wp2
    go_ret
    refine ⟨?_, rfl⟩
    show Ending.returned (.int .u32 ((r : Int) / 2 % 4294967296)) = _
    rw [hs.out, hd.out]
  · have hs := Lib.hid (show stepN r = (r / 2) ^^^ 2197175160 by unfold stepN; rw [if_neg h])
    have h2 : ((r : Int) % 2 == 0) = false := by rw [beq_eq_false_iff_ne]; omega
    have hd := Lib.hid (show (r : Int) / 2 % 4294967296 = ((r / 2 : Nat) : Int) by omega)
    have hx := Lib.hid (xor32 (show r / 2 < 2 ^ 32 by omega) (show 2197175160 < 2 ^ 32 by decide))
    clear h hr
    go_enter Try.func68, Try.ntmps68
    go_wp2
    go_ret
    refine ⟨?_, rfl⟩
    show Ending.returned (.int .u32 (bits BinOp.xor IntKind.u32 ((r : Int) / 2 % 4294967296) 2197175160)) = _
    rw [hs.out, ← hx.out, hd.out]
    rfl
def stepK : Nat → Nat → Nat
  | 0, x => x
  | i + 1, x => stepN (stepK i x)
theorem stepK_lt {x : Nat} (h : x < 2 ^ 32) : ∀ i, stepK i x < 2 ^ 32
  | 0 => h
  | i + 1 => stepN_lt (stepK_lt h i)
theorem takeN_eq (r c : Nat) : takeN r c = stepK 8 (r ^^^ c) := rfl
theorem take_any (r c : Nat) (hr : r < 2 ^ 32) (hc : c < 2 ^ 8) (w : World) : Calls Try.prog 61 #[.int .u32 (r : Int), .int .u8 (c : Int)] w fun e w' => e = .returned (.int .u32 (takeN r c : Nat)) ∧ w = w' := by
  have Hx := Lib.hid (xor32 hr (show c < 2 ^ 32 by omega))
  have Hc := Lib.hid (show (c : Int) % 4294967296 = (c : Int) by omega)
  have Hl := Lib.hid (stepK_lt (xor_lt hr (show c < 2 ^ 32 by omega)))
  rw [takeN_eq]
  generalize hy : r ^^^ c = y at Hx Hl ⊢
  clear hr hc hy
  go_enter Try.func61, Try.ntmps61
  go_wp2
  go_loop [0, 9] (fun s0 s9 => ∃ k : Nat, k ≤ 8 ∧ s0 = .int .u32 (stepK k y : Nat) ∧ s9 = .int .i64 k) (fun _ i => 8 - (intOf i).toNat)
  case atStart =>
    refine ⟨0, by omega, ?_, rfl⟩
    first
      | rw [Hx.out]
      | rw [Hc.out, Hx.out]
    rfl
  case round =>
    obtain ⟨k, hk, rfl, rfl⟩ := hrel
    by_cases hlt : k < 8
    · have HS := Lib.hid (step_any (stepK k y) (Hl.out k))
      have hki : (k : Int) < 8 := by omega
      go_wp2_with (go_at_call 69; refine (HS.out _).mono ?_; rintro e w' ⟨rfl, rfl⟩)
      go_round
      case rel => exact ⟨k + 1, by omega, rfl, by go_num⟩
      case measure => simp [intOf]; omega
    · obtain rfl : k = 8 := by omega
      go_wp2
      go_ret
      exact ⟨rfl, rfl⟩
theorem rtake_any (r c : Nat) (hr : r < 2 ^ 32) (hc : c < 2 ^ 8) (w : World) : Calls Try.prog 58 #[.int .u32 (r : Int), .int .u8 (c : Int)] w fun e w' => e = .returned (.int .u32 (takeN r c : Nat)) ∧ w = w' := by
  have Hx := Lib.hid (xor32 hr (show c < 2 ^ 32 by omega))
  have Hc := Lib.hid (show (c : Int) % 4294967296 = (c : Int) by omega)
  have Hl := Lib.hid (stepK_lt (xor_lt hr (show c < 2 ^ 32 by omega)))
  rw [takeN_eq]
  generalize hy : r ^^^ c = y at Hx Hl ⊢
  clear hr hc hy
  go_enter Try.func58, Try.ntmps58
  go_wp2
  go_loop [0, 5] (fun s0 s9 => ∃ k : Nat, k ≤ 8 ∧ s0 = .int .u32 (stepK k y : Nat) ∧ s9 = .int .i64 k) (fun _ i => 8 - (intOf i).toNat)
  case atStart =>
    refine ⟨0, by omega, ?_, rfl⟩
    first
      | rw [Hx.out]
      | rw [Hc.out, Hx.out]
    rfl
  case round =>
    obtain ⟨k, hk, rfl, rfl⟩ := hrel
    by_cases hlt : k < 8
    · have HS := Lib.hid (rstep_any (stepK k y) (Hl.out k))
      have hki : (k : Int) < 8 := by omega
      go_wp2_with (go_at_call 68; refine (HS.out _).mono ?_; rintro e w' ⟨rfl, rfl⟩)
      go_round
      case rel => exact ⟨k + 1, by omega, rfl, by go_num⟩
      case measure => simp [intOf]; omega
    · obtain rfl : k = 8 := by omega
      go_wp2
      go_ret
      exact ⟨rfl, rfl⟩
end Crc
end Go.Proofs.Ytmjpghaggnpdbaa
