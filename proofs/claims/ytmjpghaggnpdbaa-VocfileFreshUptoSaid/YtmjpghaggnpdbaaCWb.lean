/- crc: More, Of; the four bytes of a sum. -/
import Derived.Test.YtmjpghaggnpdbaaCWa
import Derived.Test.YtmjpghaggnpdbaaFsame
set_option linter.unusedVariables false
set_option linter.unusedSimpArgs false
namespace Go.Proofs.Ytmjpghaggnpdbaa
open Go.RowKit
open Voc
namespace Crc
def Bs (bs : List Int) : Prop := ∀ c ∈ bs, 0 ≤ c ∧ c < 256
theorem moreN_take {bs : List Int} {k : Nat} (h : k < bs.length) (r : Nat) : moreN r (bs.take (k + 1)) = takeN (moreN r (bs.take k)) (bs[k]).toNat := by
  rw [List.take_succ_eq_append_getElem h, moreN_app]; rfl
theorem not0 : bits .xor .u32 IntKind.u32.max 0 = ((4294967295 : Nat) : Int) := by decide
theorem not_any {r : Nat} (hr : r < 2 ^ 32) : bits .xor .u32 IntKind.u32.max (r : Int) = ((r ^^^ 4294967295 : Nat) : Int) := by
  have := xor32 (show 4294967295 < 2 ^ 32 by decide) hr
  rw [Nat.xor_comm r]
  exact this
set_option maxHeartbeats 1600000 in
theorem more_any {w : World} {v : Value} {bs : List Int} (hs : SL encB w v bs) (hb : Bs bs) (hl : bs.length ≤ 4194304) :
    Calls Try.prog 50 #[.int .u32 0, v] w fun e w' => e = .returned (.int .u32 (crcN bs : Nat)) ∧ w = w' := by
  have HS := Lib.hid hs
  obtain ⟨A, cap, rfl⟩ := SL.form hs
  have HB := Lib.hid hb
  have hl' : (bs.length : Int) ≤ 4194304 := by omega
  have Hn0 := Lib.hid not0
  have Hlt := Lib.hid (show ∀ k, moreN 4294967295 (bs.take k) < 2 ^ 32 from fun k => moreN_lt _ _ (fun c hc => hb c (List.mem_of_mem_take hc)) (by decide))
  have Hfin := Lib.hid (show bits .xor .u32 IntKind.u32.max ((moreN 4294967295 bs : Nat) : Int) = ((crcN bs : Nat) : Int) from not_any (moreN_lt _ _ hb (by decide)))
  clear hs hb hl
  go_enter Try.func50, Try.ntmps50
  go_wp2
  go_loop [5, 12] (fun s5 s12 => ∃ k : Nat, k ≤ bs.length ∧ s5 = .int .u32 (moreN 4294967295 (bs.take k) : Nat) ∧ s12 = .int .i64 k) (fun _ i => bs.length - (intOf i).toNat)
  case atStart => exact ⟨0, by omega, by rw [show moreN 4294967295 (bs.take 0) = 4294967295 from rfl]; first | rfl | rw [Hn0.out], rfl⟩
  case round =>
    obtain ⟨k, hk, rfl, rfl⟩ := hrel
    by_cases hlt : k < bs.length
    · obtain ⟨b1, o1, rfl, _, hc1⟩ := HS.out.at_ (s := 1) (fun _ => rfl) rfl hlt
      have c1 := hc1 0 (by omega)
      clear hc1
      simp [encB] at c1
      have Hx := Lib.hid (HB.out _ (List.getElem_mem hlt))
      have Hst := Lib.hid (moreN_take hlt 4294967295)
      generalize bs[k] = x at c1 Hx Hst
      obtain ⟨y, rfl⟩ : ∃ y : Nat, x = y := ⟨x.toNat, by have := Hx.out; omega⟩
      have HT := Lib.hid (take_any (moreN 4294967295 (bs.take k)) y (Hlt.out k) (by have := Hx.out; omega))
      have hki : (k : Int) < bs.length := by omega
      go_wp2_with (go_at_call 61; refine (HT.out _).mono ?_; rintro e w' ⟨rfl, rfl⟩)
      go_round
      case rel => exact ⟨k + 1, by omega, by rw [Hst.out, Int.toNat_natCast], by go_num⟩
      case measure => simp [intOf]; omega
    · obtain rfl : k = bs.length := by omega
      have hfull : bs.take bs.length = bs := List.take_length
      rw [hfull]
      clear hfull
      go_wp2
      go_ret
      refine ⟨?_, rfl⟩
      rw [← Hfin.out]
      rfl
theorem of_any {w : World} {v : Value} {bs : List Int} (hs : SL encB w v bs) (hb : Bs bs) (hl : bs.length ≤ 4194304) :
    Calls Try.prog 35 #[v] w fun e w' => e = .returned (.int .u32 (crcN bs : Nat)) ∧ w = w' := by
  have HM := Lib.hid (more_any hs hb hl)
  clear hs hb hl
  go_enter Try.func35, Try.ntmps35
  go_wp2_with (go_at_call 50; refine HM.out.mono ?_; rintro e w' ⟨rfl, rfl⟩)
  go_ret
  exact ⟨rfl, rfl⟩
set_option maxHeartbeats 1600000 in
theorem rmore_any {w : World} {v : Value} {bs : List Int} (hs : SL encB w v bs) (hb : Bs bs) (hl : bs.length ≤ 4194304) :
    Calls Try.prog 47 #[.int .u32 0, v] w fun e w' => e = .returned (.int .u32 (crcN bs : Nat)) ∧ w = w' := by
  have HS := Lib.hid hs
  obtain ⟨A, cap, rfl⟩ := SL.form hs
  have HB := Lib.hid hb
  have hl' : (bs.length : Int) ≤ 4194304 := by omega
  have Hn0 := Lib.hid not0
  have Hlt := Lib.hid (show ∀ k, moreN 4294967295 (bs.take k) < 2 ^ 32 from fun k => moreN_lt _ _ (fun c hc => hb c (List.mem_of_mem_take hc)) (by decide))
  have Hfin := Lib.hid (show bits .xor .u32 IntKind.u32.max ((moreN 4294967295 bs : Nat) : Int) = ((crcN bs : Nat) : Int) from not_any (moreN_lt _ _ hb (by decide)))
  clear hs hb hl
  go_enter Try.func47, Try.ntmps47
  go_wp2
  go_loop [5, 6] (fun s5 s12 => ∃ k : Nat, k ≤ bs.length ∧ s5 = .int .u32 (moreN 4294967295 (bs.take k) : Nat) ∧ s12 = .int .i64 k) (fun _ i => bs.length - (intOf i).toNat)
  case atStart => exact ⟨0, by omega, by rw [show moreN 4294967295 (bs.take 0) = 4294967295 from rfl]; first | rfl | rw [Hn0.out], rfl⟩
  case round =>
    obtain ⟨k, hk, rfl, rfl⟩ := hrel
    by_cases hlt : k < bs.length
    · obtain ⟨b1, o1, rfl, _, hc1⟩ := HS.out.at_ (s := 1) (fun _ => rfl) rfl hlt
      have c1 := hc1 0 (by omega)
      clear hc1
      simp [encB] at c1
      have Hx := Lib.hid (HB.out _ (List.getElem_mem hlt))
      have Hst := Lib.hid (moreN_take hlt 4294967295)
      generalize bs[k] = x at c1 Hx Hst
      obtain ⟨y, rfl⟩ : ∃ y : Nat, x = y := ⟨x.toNat, by have := Hx.out; omega⟩
      have HT := Lib.hid (rtake_any (moreN 4294967295 (bs.take k)) y (Hlt.out k) (by have := Hx.out; omega))
      have hki : (k : Int) < bs.length := by omega
      go_wp2_with (go_at_call 58; refine (HT.out _).mono ?_; rintro e w' ⟨rfl, rfl⟩)
      go_round
      case rel => exact ⟨k + 1, by omega, by rw [Hst.out, Int.toNat_natCast], by go_num⟩
      case measure => simp [intOf]; omega
    · obtain rfl : k = bs.length := by omega
      have hfull : bs.take bs.length = bs := List.take_length
      rw [hfull]
      clear hfull
      go_wp2
      go_ret
      refine ⟨?_, rfl⟩
      rw [← Hfin.out]
      rfl
theorem rof_any {w : World} {v : Value} {bs : List Int} (hs : SL encB w v bs) (hb : Bs bs) (hl : bs.length ≤ 4194304) :
    Calls Try.prog 31 #[v] w fun e w' => e = .returned (.int .u32 (crcN bs : Nat)) ∧ w = w' := by
  have HM := Lib.hid (rmore_any hs hb hl)
  clear hs hb hl
  go_enter Try.func31, Try.ntmps31
  go_wp2_with (go_at_call 47; refine HM.out.mono ?_; rintro e w' ⟨rfl, rfl⟩)
  go_ret
  exact ⟨rfl, rfl⟩
def FourPost (w : World) (n : Nat) (e : Ending) (w' : World) : Prop := ∃ g, e = .returned (.slice (some ⟨g, 0, none⟩) 4 4) ∧ w.heap.size ≤ g ∧ w'.ownsRow w.heap.size 5 1 (.slice (some ⟨g, 0, none⟩) 4 4) 4 ((four n).flatMap encB) ∧ Gr w w'
theorem four_any (n : Nat) (hn : n < 2 ^ 32) (w : World) : Calls Try.prog 34 #[.int .u32 (n : Int)] w (FourPost w n) := by
  clear hn
  go_enter Try.func34, Try.ntmps34
  go_wp2
  go_ret
  refine ⟨w.heap.size, rfl, Nat.le_refl _, ⟨by simp [four, encB], .inr ⟨w.heap.size, 4, _, rfl, Nat.le_refl _, heap_alloc_new w _, Nat.le_refl _, by unfold maxLen; omega, rfl, ?_⟩⟩, (Fr.refl w NoneS).alloc _⟩
  simp [four, encB]
theorem rfour_any (n : Nat) (hn : n < 2 ^ 32) (w : World) : Calls Try.prog 30 #[.int .u32 (n : Int)] w (FourPost w n) := by
  clear hn
  go_enter Try.func30, Try.ntmps30
  go_wp2
  go_ret
  refine ⟨w.heap.size, rfl, Nat.le_refl _, ⟨by simp [four, encB], .inr ⟨w.heap.size, 4, _, rfl, Nat.le_refl _, heap_alloc_new w _, Nat.le_refl _, by unfold maxLen; omega, rfl, ?_⟩⟩, (Fr.refl w NoneS).alloc _⟩
  simp [four, encB]
end Crc
end Go.Proofs.Ytmjpghaggnpdbaa
