/- leb: Put of both packages. -/
import Derived.Test.YtmjpghaggnpdbaaBWa
set_option linter.unusedVariables false
set_option linter.unusedSimpArgs false
namespace Go.Proofs.Ytmjpghaggnpdbaa
open Go.RowKit
open Voc
namespace Leb
theorem Put_any (n : Nat) (hn : n < 2 ^ 64) (w : World) :
    Calls Try.prog 33 #[.int .u64 (n : Int)] w fun e w' => ∃ tv, e = .returned tv ∧ SL encB w' tv (putL n) ∧ (∀ k, tv.ownBlock = some k → w.heap.size ≤ k) ∧ Gr w w' := by
  have HG := Lib.hid ((Fr.refl w NoneS).alloc (.cells #[.int .u64 (n : Int)] 43))
  have HP := Lib.hid (put_any (w := w.alloc (.cells #[.int .u64 (n : Int)] 43)) (v := .slice (some ⟨w.heap.size, 0, none⟩) 1 1) (ls := [n]) (sl_one (enc := encW) w n _ rfl _) (by intro m hm; simp at hm; subst hm; exact hn) (by simp))
  have hone : [n].flatMap putL = putL n := by simp
  rw [hone] at HP
  clear hn hone
  go_enter Try.func33, Try.ntmps33
  go_wp2_with (
    go_at_call 49
    refine HP.out.mono ?_
    rintro e w' ⟨tv, rfl, hs, hk, hg⟩
    have HX := Lib.hid (And.intro hs (And.intro hk hg))
    clear hs hk hg)
  go_ret
  exact ⟨tv, rfl, HX.out.1, fun k hk => by have := HX.out.2.1 k hk; simp at this; omega, HG.out.trans HX.out.2.2 (fun _ _ h => h)⟩
set_option maxRecDepth 20000 in
set_option maxHeartbeats 1600000 in
theorem rput_any : ∀ (f n : Nat), n < 128 ^ (f + 1) → f ≤ 9 → n < 2 ^ 64 → ∀ w : World,
    Calls Try.prog 37 #[.int .u64 (n : Int)] w fun e w' => ∃ tv, e = .returned tv ∧ w'.ownsRow w.heap.size 5 1 tv (putN (f + 1) n).length ((putN (f + 1) n).flatMap encB) ∧ Gr w w' := by
  intro f
  induction f with
  | zero =>
    intro n hn _ _ w
    have h1 : n < 128 := by simpa using hn
    have hn1 : (n : Int) < 128 := by omega
    have hm2 : (n : Int) % 256 = (n : Int) := by omega
    have Hm2 := Lib.hid hm2
    have He := Lib.hid (show putN (0 + 1) n = [(n : Int)] by simp only [putN]; rw [if_pos h1])
    clear hn h1 hm2
    go_enter Try.func37, Try.ntmps37
    go_wp2
    go_ret
    rw [He.out]
    exact ⟨_, rfl, ⟨rfl, .inr ⟨w.heap.size, 1, _, rfl, Nat.le_refl _, heap_alloc_new w _, Nat.le_refl _, by unfold maxLen; omega, rfl, rfl⟩⟩, (Fr.refl w NoneS).alloc _⟩
  | succ f ih =>
    intro n hn hf h64 w
    by_cases h1 : n < 128
    · have hn1 : (n : Int) < 128 := by omega
      have He := Lib.hid (show putN (f + 1 + 1) n = [(n : Int)] by rw [putN, if_pos h1])
      clear hn h1 ih
      go_enter Try.func37, Try.ntmps37
      go_wp2
      go_ret
      rw [He.out]
      exact ⟨_, rfl, ⟨rfl, .inr ⟨w.heap.size, 1, _, rfl, Nat.le_refl _, heap_alloc_new w _, Nat.le_refl _, by unfold maxLen; omega, rfl, rfl⟩⟩, (Fr.refl w NoneS).alloc _⟩
    · have hn1 : ¬ (n : Int) < 128 := by omega
      have h2 : n / 128 < 128 ^ (f + 1) := by
        rw [Nat.div_lt_iff_lt_mul (by omega)]
        rw [Nat.pow_succ] at hn
        exact hn
      have He := Lib.hid (show putN (f + 1 + 1) n = ((n % 128 + 128 : Nat) : Int) :: putN (f + 1) (n / 128) by rw [putN, if_neg h1])
      have hd : (n : Int) / 128 = ((n / 128 : Nat) : Int) := by omega
      have Hlen := Lib.hid (putN_len (f + 1) (n / 128))
      have Hf := Lib.hid hf
      have HI := Lib.hid (fun w' => ih (n / 128) h2 (by omega) (by omega) w')
      rw [← hd] at HI
      have hwr : IntKind.u64.wrap ((n : Int) / 128) = (n : Int) / 128 := by show (n : Int) / 128 % 18446744073709551616 = _; omega
      clear hn h1 h2 ih hd hf h64
      obtain ⟨i0, hi0, hz0, hz1, hz2⟩ := info_parts info_u8
      generalize putN (f + 1) (n / 128) = bs at He Hlen HI
      have Hval := Lib.hid (show (n : Int) % 128 + 128 = ((n % 128 + 128 : Nat) : Int) by omega)
      have HG1 := Lib.hid ((Fr.refl w NoneS).alloc (.cells #[.int .u8 ((n : Int) % 128 + 128)] 5))
      have HO1 := Lib.hid (show (w.alloc (.cells #[.int .u8 ((n : Int) % 128 + 128)] 5)).ownsRow w.heap.size 5 1 (.slice (some ⟨w.heap.size, 0, none⟩) 1 1) 1 ([(n : Int) % 128 + 128].flatMap encB) from
        ⟨rfl, .inr ⟨w.heap.size, 1, _, rfl, Nat.le_refl _, heap_alloc_new w _, Nat.le_refl _, by unfold maxLen; omega, rfl, rfl⟩⟩)
      go_enter Try.func37, Try.ntmps37
      go_wp2_with (first
        | (go_at_call 37
           refine (HI.out _).mono ?_
           rintro e w2 ⟨tv, rfl, ho, hg⟩
           have HO2 := Lib.hid ho
           have HG2 := Lib.hid hg
           have HO1' := Lib.hid (hg.owns HO1.out (fun _ _ h => h))
           have HS2 := Lib.hid (SL.of_own (enc := encB) (xs := bs) ho rfl)
           clear ho hg)
        | (at_builtin
           refine wpList_append_sl _ encB rfl _ _ 22 rfl w.heap.size 5 i0 (.int .u8 0) 1 1 Try.underlying22 hi0 hz0 hz1 hz2 rfl (by decide) (.slice (some ⟨w.heap.size, 0, none⟩) 1 1) _ _ rfl HO1'.out tv bs rfl HS2.out (fun _ => rfl) encB_one (by have := Hlen.out; have := Hf.out; simp only [maxLen]; omega) (by have := Hlen.out; have := Hf.out; omega) (by have := HG2.out.size; have := HG1.out.size; omega) ?_
           intro v4 w4 ho hf hat
           have HO4 := Lib.hid ho
           have HF4 := Lib.hid hf
           clear ho hf hat))
      go_ret
      rw [He.out]
      refine ⟨_, rfl, ?_, (HG1.out.trans HG2.out (fun _ _ h => h)).trans HF4.out (fun k hk h => by simp [Value.ownBlock] at h; omega)⟩
      have h := HO4.out
      rw [Hval.out, Nat.add_comm] at h
      exact h
theorem rPut_any (n : Nat) (hn : n < 2 ^ 64) (w : World) :
    Calls Try.prog 37 #[.int .u64 (n : Int)] w fun e w' => ∃ tv, e = .returned tv ∧ w'.ownsRow w.heap.size 5 1 tv (putL n).length ((putL n).flatMap encB) ∧ Gr w w' :=
  rput_any 9 n (by have : (2 : Nat) ^ 64 < 128 ^ (9 + 1) := by decide
                   omega) (Nat.le_refl _) hn w
end Leb
end Go.Proofs.Ytmjpghaggnpdbaa
