/- crc: the walks of both packages. crc: More, Of; the four bytes of a sum. -/
import Derived.Test.YtlodbhlidgepfaaVTa
import Derived.Test.YtlodbhlidgepfaaGPl
import Derived.Test.YtlodbhlidgepfaaFsame
set_option linter.unusedVariables false
set_option linter.unusedSimpArgs false
namespace Go.Proofs.Ytlodbhlidgepfaa
open Go.RowKit
open Voc
namespace Crc
theorem step_bits (r : Nat) (hr : r < 2 ^ 32) : bits BinOp.xor IntKind.u32 ((r : Int) / 2) (bits BinOp.and IntKind.u32 2197175160 (-bits BinOp.and IntKind.u32 (r : Int) 1 % 4294967296)) = ((stepN r : Nat) : Int) := by
  have e1 : bits BinOp.and IntKind.u32 (r : Int) 1 = ((r % 2 : Nat) : Int) := by
    have := and32 hr (show 1 < 2 ^ 32 by decide)
    rw [and_1] at this
    exact this
  have e2 : (r : Int) / 2 = ((r / 2 : Nat) : Int) := by omega
  rw [e1, e2]
  unfold stepN
  by_cases h : r % 2 = 0
  · rw [if_pos h, h]
    have e3 : bits BinOp.and IntKind.u32 2197175160 (-((0 : Nat) : Int) % 4294967296) = ((0 : Nat) : Int) := by
      have := and32 (show 2197175160 < 2 ^ 32 by decide) (show 0 < 2 ^ 32 by decide)
      rw [Nat.and_zero] at this
      exact this
    rw [e3]
    have := xor32 (show r / 2 < 2 ^ 32 by omega) (show 0 < 2 ^ 32 by decide)
    rw [Nat.xor_zero] at this
    exact this
  · have h1 : r % 2 = 1 := by omega
    rw [if_neg h, h1]
    have e3 : bits BinOp.and IntKind.u32 2197175160 (-((1 : Nat) : Int) % 4294967296) = ((2197175160 : Nat) : Int) := by
      have := and32 (show 2197175160 < 2 ^ 32 by decide) (show 4294967295 < 2 ^ 32 by decide)
      rw [and_all32 (by decide)] at this
      exact this
    rw [e3]
    exact xor32 (show r / 2 < 2 ^ 32 by omega) (show 2197175160 < 2 ^ 32 by decide)
def big32 : Int := 4294967296
theorem step_any (r : Nat) (hr : r < 2 ^ 32) (w : World) : Calls Try.prog 98 #[.int .u32 (r : Int)] w fun e w' => e = .returned (.int .u32 (stepN r : Nat)) ∧ w = w' := by
  have Hb := Lib.hid (step_bits r hr)
  clear hr
  go_enter Try.func98, Try.ntmps98
  go_wp2
  go_ret
  refine ⟨?_, rfl⟩
  rw [← Hb.out]
  rfl
def stepK : Nat → Nat → Nat
  | 0, x => x
  | i + 1, x => stepN (stepK i x)
theorem stepK_lt {x : Nat} (h : x < 2 ^ 32) : ∀ i, stepK i x < 2 ^ 32
  | 0 => h
  | i + 1 => stepN_lt (stepK_lt h i)
theorem takeN_eq (r c : Nat) : takeN r c = stepK 8 (r ^^^ c) := rfl
theorem take_any (r c : Nat) (hr : r < 2 ^ 32) (hc : c < 2 ^ 8) (w : World) : Calls Try.prog 94 #[.int .u32 (r : Int), .int .u8 (c : Int)] w fun e w' => e = .returned (.int .u32 (takeN r c : Nat)) ∧ w = w' := by
  have Hx := Lib.hid (xor32 hr (show c < 2 ^ 32 by omega))
  have Hc := Lib.hid (show (c : Int) % 4294967296 = (c : Int) by omega)
  have Hl := Lib.hid (stepK_lt (xor_lt hr (show c < 2 ^ 32 by omega)))
  rw [takeN_eq]
  generalize hy : r ^^^ c = y at Hx Hl ⊢
  clear hr hc hy
  go_enter Try.func94, Try.ntmps94
  go_wp2
  go_loop [0, 9] (fun s0 s9 => ∃ k : Nat, k ≤ 8 ∧ s0 = .int .u32 (stepK k y : Nat) ∧ s9 = .int .i64 k) (fun _ i => 8 - (intOf i).toNat)
  case atStart =>
    refine ⟨0, by omega, ?_, rfl⟩
    first
      | rw [Hx.out]
      | rw [Hc.out, Hx.out]
    rfl
  case round =>
    obtain ⟨k, hk, rfl, rfl⟩ := hrel
    by_cases hlt : k < 8
    · have HS := Lib.hid (step_any (stepK k y) (Hl.out k))
      have hki : (k : Int) < 8 := by omega
      go_wp2_with (go_at_call 98; refine (HS.out _).mono ?_; rintro e w' ⟨rfl, rfl⟩)
      go_round
      case rel => exact ⟨k + 1, by omega, rfl, by go_num⟩
      case measure => simp [intOf]; omega
    · obtain rfl : k = 8 := by omega
      go_wp2
      go_ret
      exact ⟨rfl, rfl⟩
end Crc
end Go.Proofs.Ytlodbhlidgepfaa

namespace Go.Proofs.Ytlodbhlidgepfaa
open Go.RowKit
open Voc
namespace Crc
def Bs (bs : List Int) : Prop := ∀ c ∈ bs, 0 ≤ c ∧ c < 256
theorem moreN_take {bs : List Int} {k : Nat} (h : k < bs.length) (r : Nat) : moreN r (bs.take (k + 1)) = takeN (moreN r (bs.take k)) (bs[k]).toNat := by
  rw [List.take_succ_eq_append_getElem h, moreN_app]; rfl
theorem not0 : bits .xor .u32 IntKind.u32.max 0 = ((4294967295 : Nat) : Int) := by decide
theorem not_any {r : Nat} (hr : r < 2 ^ 32) : bits .xor .u32 IntKind.u32.max (r : Int) = ((r ^^^ 4294967295 : Nat) : Int) := by
  have := xor32 (show 4294967295 < 2 ^ 32 by decide) hr
  rw [Nat.xor_comm r]
  exact this
set_option maxHeartbeats 1600000 in
theorem more_any {w : World} {v : Value} {bs : List Int} (hs : SL encB w v bs) (hb : Bs bs) (hl : bs.length ≤ 4194304) :
    Calls Try.prog 87 #[.int .u32 0, v] w fun e w' => e = .returned (.int .u32 (crcN bs : Nat)) ∧ w = w' := by
  have HS := Lib.hid hs
  obtain ⟨A, cap, rfl⟩ := SL.form hs
  have HB := Lib.hid hb
  have hl' : (bs.length : Int) ≤ 4194304 := by omega
  have Hn0 := Lib.hid not0
  have Hlt := Lib.hid (show ∀ k, moreN 4294967295 (bs.take k) < 2 ^ 32 from fun k => moreN_lt _ _ (fun c hc => hb c (List.mem_of_mem_take hc)) (by decide))
  have Hfin := Lib.hid (show bits .xor .u32 IntKind.u32.max ((moreN 4294967295 bs : Nat) : Int) = ((crcN bs : Nat) : Int) from not_any (moreN_lt _ _ hb (by decide)))
  clear hs hb hl
  go_enter Try.func87, Try.ntmps87
  go_wp2
  go_loop [5, 12] (fun s5 s12 => ∃ k : Nat, k ≤ bs.length ∧ s5 = .int .u32 (moreN 4294967295 (bs.take k) : Nat) ∧ s12 = .int .i64 k) (fun _ i => bs.length - (intOf i).toNat)
  case atStart => exact ⟨0, by omega, by rw [show moreN 4294967295 (bs.take 0) = 4294967295 from rfl]; first | rfl | rw [Hn0.out], rfl⟩
  case round =>
    obtain ⟨k, hk, rfl, rfl⟩ := hrel
    by_cases hlt : k < bs.length
    · obtain ⟨b1, o1, rfl, _, hc1⟩ := HS.out.at_ (s := 1) (fun _ => rfl) rfl hlt
      have c1 := hc1 0 (by omega)
      clear hc1
      simp [encB] at c1
      have Hx := Lib.hid (HB.out _ (List.getElem_mem hlt))
      have Hst := Lib.hid (moreN_take hlt 4294967295)
      generalize bs[k] = x at c1 Hx Hst
      obtain ⟨y, rfl⟩ : ∃ y : Nat, x = y := ⟨x.toNat, by have := Hx.out; omega⟩
      have HT := Lib.hid (take_any (moreN 4294967295 (bs.take k)) y (Hlt.out k) (by have := Hx.out; omega))
      have hki : (k : Int) < bs.length := by omega
      go_wp2_with (go_at_call 94; refine (HT.out _).mono ?_; rintro e w' ⟨rfl, rfl⟩)
      go_round
      case rel => exact ⟨k + 1, by omega, by rw [Hst.out, Int.toNat_natCast], by go_num⟩
      case measure => simp [intOf]; omega
    · obtain rfl : k = bs.length := by omega
      have hfull : bs.take bs.length = bs := List.take_length
      rw [hfull]
      clear hfull
      go_wp2
      go_ret
      refine ⟨?_, rfl⟩
      rw [← Hfin.out]
      rfl
theorem of_any {w : World} {v : Value} {bs : List Int} (hs : SL encB w v bs) (hb : Bs bs) (hl : bs.length ≤ 4194304) :
    Calls Try.prog 76 #[v] w fun e w' => e = .returned (.int .u32 (crcN bs : Nat)) ∧ w = w' := by
  have HM := Lib.hid (more_any hs hb hl)
  clear hs hb hl
  go_enter Try.func76, Try.ntmps76
  go_wp2_with (go_at_call 87; refine HM.out.mono ?_; rintro e w' ⟨rfl, rfl⟩)
  go_ret
  exact ⟨rfl, rfl⟩
def FourPost (w : World) (n : Nat) (e : Ending) (w' : World) : Prop := ∃ g, e = .returned (.slice (some ⟨g, 0, none⟩) 4 4) ∧ w.heap.size ≤ g ∧ w'.ownsRow w.heap.size 5 1 (.slice (some ⟨g, 0, none⟩) 4 4) 4 ((four n).flatMap encB) ∧ Gr w w'
theorem four_any (n : Nat) (hn : n < 2 ^ 32) (w : World) : Calls Try.prog 75 #[.int .u32 (n : Int)] w (FourPost w n) := by
  clear hn
  go_enter Try.func75, Try.ntmps75
  go_wp2
  go_ret
  refine ⟨w.heap.size, rfl, Nat.le_refl _, ⟨by simp [four, encB], .inr ⟨w.heap.size, 4, _, rfl, Nat.le_refl _, heap_alloc_new w _, Nat.le_refl _, by unfold maxLen; omega, rfl, ?_⟩⟩, (Fr.refl w NoneS).alloc _⟩
  simp [four, encB]
end Crc
end Go.Proofs.Ytlodbhlidgepfaa
