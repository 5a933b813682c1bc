/- sha: stookref04.Behind, sha.Behind, Same. -/
import Derived.Test.YtfpgfnmidkkgjaaHWi
import Derived.Test.YtfpgfnmidkkgjaaSpare
import Derived.BigQuiet
import Derived.Deep.QuietTactic
set_option linter.unusedVariables false
set_option linter.unusedSimpArgs false
namespace Go.Proofs.Ytfpgfnmidkkgjaa
open Go.RowKit
namespace Sha

theorem shab_err (n : Int) (h : n < 0 ∨ 1099511627776 < n) (w : World) : Calls Try.prog 15 #[.int .i64 n] w fun e w' => e = .returned (.tuple #[.slice none 0 0, .int .i64 2]) ∧ w = w' := by
  rcases h with h | h
  · go_enter Try.func15, Try.ntmps15
    go_wp2_with fail
    go_ret2
    exact ⟨rfl, rfl⟩
  · have h0 : ¬ n < 0 := by omega
    go_enter Try.func15, Try.ntmps15
    go_wp2_with fail
    go_ret2
    exact ⟨rfl, rfl⟩
theorem rbehind_err (n : Int) (h : n < 0 ∨ 1099511627776 < n) (w : World) : Calls Try.prog 16 #[.int .i64 n] w fun e w' => e = .returned (.tuple #[.slice none 0 0, .int .i64 2]) ∧ w = w' := by
  rcases h with h | h
  · go_enter Try.func16, Try.ntmps16
    go_wp2_with fail
    go_ret2
    exact ⟨rfl, rfl⟩
  · have h0 : ¬ n < 0 := by omega
    go_enter Try.func16, Try.ntmps16
    go_wp2_with fail
    go_ret2
    exact ⟨rfl, rfl⟩

/-- the value 'behind' gives, read as a row -/
theorem pad_own {w : World} {g base : Nat} {n : Nat} (h : Blk w g TU8 (brr (pad n))) (hb : base ≤ g) : w.ownsRow base TU8 1 (.slice (some ⟨g, 0, none⟩) (psize n) (psize n)) (psize n) ((pad n).flatMap eb) := by
  have h1 := own_blk h hb (by rw [pad_len]; have := psize_mod n; unfold maxLen; omega)
  rw [pad_len] at h1
  exact h1
theorem shab_any (n : Nat) (hn : n ≤ 1099511627776) (w : World) : Calls Try.prog 15 #[.int .i64 n] w fun e w' => ∃ v, e = .returned (.tuple #[v, .int .i64 0]) ∧ w'.ownsRow w.heap.size TU8 1 v (psize n) ((pad n).flatMap eb) ∧ Gr w w' := by
  have h1 : ¬ (1099511627776 : Int) < n := by omega
  have Hn := Lib.hid hn
  clear hn
  go_enter Try.func15, Try.ntmps15
  go_wp2_with (go_at_call 36; refine (behind_any n Hn.out w).mono ?_; rintro e w' ⟨g, rfl, hg, hb, hgr⟩; have HO := Lib.hid (pad_own hb hg); have HG := Lib.hid hgr; clear hg hb hgr)
  go_ret2
  exact ⟨_, rfl, HO.out, HG.out⟩

/-- what the reference has laid -/
def rpadI (n k i : Nat) : List B := 128#8 :: List.replicate k 0#8 ++ ((List.range i).map fun j => pby n (7 - j))
theorem rpad_succ0 (n k : Nat) : rpadI n k 0 ++ [0#8] = rpadI n (k + 1) 0 := by
  simp [rpadI, List.replicate_succ']
theorem rpad_succ (n k i : Nat) : rpadI n k i ++ [pby n (7 - i)] = rpadI n k (i + 1) := by
  simp [rpadI, List.range_succ]
theorem rpad_end (n : Nat) : rpadI n (psize n - 9) 8 = pad n := by
  rw [pad_eq]; rfl
theorem rpad_len (n k i : Nat) : (rpadI n k i).length = 1 + k + i := by simp [rpadI]; omega

set_option maxHeartbeats 1600000 in
theorem rbehind_any (n : Nat) (hn : n ≤ 1099511627776) (w : World) : Calls Try.prog 16 #[.int .i64 n] w fun e w' => ∃ v, e = .returned (.tuple #[v, .int .i64 0]) ∧ w'.ownsRow w.heap.size TU8 1 v (psize n) ((pad n).flatMap eb) ∧ Gr w w' := by
  obtain ⟨i0, hi0, hz0, hz1, hz2⟩ := info_parts info_b
  have h1 : ¬ (1099511627776 : Int) < n := by omega
  have hn' : (n : Int) ≤ 1099511627776 := by omega
  have Hn := Lib.hid hn
  have Hps := Lib.hid (psize_mod n)
  have Hpe := Lib.hid (rpad_end n)
  have Hpl := Lib.hid (rpad_len n)
  have Hps2 := Lib.hid (show psize n = (64 - (n + 9) % 64) % 64 + 9 from rfl)
  generalize hs : psize n = s at Hps Hpe Hps2 ⊢
  clear hn hs
  have HB0 := Lib.hid (Blk.new w TU8 (brr (rpadI n 0 0)))
  have HG0 := Lib.hid ((Fr.refl w NoneS).alloc (.cells (brr (rpadI n 0 0)) TU8))
  have HO0 := Lib.hid (own_blk HB0.out (Nat.le_refl _) (by rw [Hpl.out]; unfold maxLen; omega))
  rw [Hpl.out] at HO0
  clear HB0
  go_enter Try.func16, Try.ntmps16
  go_upto_block 0 with (fail)
  change Code.wp _ _ _ _ (w.alloc (.cells (brr (rpadI n 0 0)) TU8))
  generalize hw1 : World.alloc w (.cells (brr (rpadI n 0 0)) TU8) = w1 at HO0 HG0 ⊢
  clear hw1
  go_cut [4] (fun s4 wx => ∃ A c, s4 = .slice A (s - 8) c ∧ Hid (wx.ownsRow w.heap.size TU8 1 (.slice A (s - 8) c) (s - 8) ((rpadI n (s - 9) 0).flatMap eb) ∧ Gr w wx))
  case first =>
    go_wp2_with fail
    go_loopg [4] 65 (fun m s4 wr => ∃ (l : Nat) (A : Option Addr) (c : Nat), s4 = .slice A l c ∧ Hid (1 ≤ l ∧ l ≤ s - 8 ∧ s - 8 - l < m) ∧ Hid (wr.ownsRow w.heap.size TU8 1 (.slice A l c) l ((rpadI n (l - 1) 0).flatMap eb) ∧ Gr w wr))
    case atStart => exact ⟨1, _, _, rfl, ⟨by omega, by have := Hps.out; omega, by have := Hps.out; omega⟩, HO0.out, HG0.out⟩
    case round =>
      obtain ⟨l, A, c, rfl, HK, HP⟩ := hrel
      have hl : (l : Int) ≤ 64 := by have := HK.out; have := Hps.out; omega
      by_cases hk : l < s - 8
      · have hb : (((n : Int) + (l : Int) + 8) % 64 != 0) = true := by rw [bne_iff_ne]; have := HK.out; have := Hps2.out; omega
        go_wp2_with (at_builtin; refine wpList_append_sl _ eb rfl _ _ TS8 rfl w.heap.size TU8 i0 (.int .u8 0) 1 1 Try.underlying28 hi0 hz0 hz1 hz2 rfl (by decide) _ _ _ rfl (HP.out.1.alloc _) (.slice (some ⟨wr.heap.size, 0, none⟩) 1 1) [0#8] rfl (sl_one wr (0#8) _ rfl _) (fun _ => rfl) eb_one (by simp only [List.length_singleton]; unfold maxLen; omega) (by simp only [List.length_singleton]; omega) (by have := HP.out.2.size; simp; omega) ?_
                     intro v1 w2 ho hf hat
                     have HO2 := Lib.hid ho
                     have HG2 := Lib.hid (gr_keep' (HP.out.2.alloc _) (HP.out.1.alloc _) hf)
                     clear ho hf hat)
        obtain ⟨A2, c2, rfl⟩ := own_form HO2.out
        go_roundg (gk - 1)
        case measure => have := HK.out; omega
        case rel =>
          refine ⟨l + 1, A2, c2, rfl, ⟨by omega, by omega, by have := HK.out; omega⟩, ?_, HG2.out⟩
          have h := HO2.out
          rw [← List.flatMap_append, rpad_succ0] at h
          have e : l - 1 + 1 = l + 1 - 1 := by have := HK.out; omega
          rw [e] at h
          exact h
      · obtain rfl : l = s - 8 := by have := HK.out; omega
        have hb : (((n : Int) + ((s - 8 : Nat) : Int) + 8) % 64 != 0) = false := by rw [bne_eq_false_iff_eq]; have := HK.out; have := Hps2.out; omega
        go_wp2_with fail
        go_meet
        exact ⟨_, _, rfl, HP.out⟩
  case rest =>
  obtain ⟨A, c, rfl, HP⟩ := hcut
  clear HO0 HG0
  generalize hl : s - 8 = l0 at HP ⊢
  have Hl := Lib.hid hl
  have hl0 : (l0 : Int) ≤ 64 := by have := Hps.out; omega
  clear hl
  go_wp2_with fail
  go_loopg [4, 5] 9 (fun m s4 s5 wr => ∃ (i : Nat) (A : Option Addr) (c : Nat), s4 = .slice A (l0 + i) c ∧ s5 = .int .i64 (7 - (i : Int)) ∧ Hid (i ≤ 8 ∧ 8 - i < m) ∧ Hid (wr.ownsRow w.heap.size TU8 1 (.slice A (l0 + i) c) (l0 + i) ((rpadI n (s - 9) i).flatMap eb) ∧ Gr w wr))
  case atStart => exact ⟨0, _, _, rfl, rfl, ⟨by omega, by omega⟩, HP.out⟩
  case round =>
    clear HP
    obtain ⟨i, A, c, rfl, rfl, HK, HP⟩ := hrel
    by_cases hi : i < 8
    · have h7 : (0 : Int) ≤ 7 - (i : Int) := by omega
      obtain ⟨j, hj⟩ : ∃ j : Nat, j = 7 - i := ⟨_, rfl⟩
      have hj' : (7 : Int) - (i : Int) = (j : Int) := by omega
      have Hj := Lib.hid hj
      rw [hj']
      have hj7 : (j : Int) ≤ 7 := by omega
      clear hj hj' h7
      have HSL := Lib.hid (show SL eb (wr.alloc (.cells #[.int .u8 (8 * (n : Int) / 2 ^ (8 * j) % 256)] TU8)) (.slice (some ⟨wr.heap.size, 0, none⟩) 1 1) [pby n j] from sl_one wr (pby n j) _ (by rw [pby_val]; rfl) TU8)
      go_wp2_with (at_builtin; refine wpList_append_sl _ eb rfl _ _ TS8 rfl w.heap.size TU8 i0 (.int .u8 0) 1 1 Try.underlying28 hi0 hz0 hz1 hz2 rfl (by decide) _ _ _ rfl (HP.out.1.alloc _) (.slice (some ⟨wr.heap.size, 0, none⟩) 1 1) [pby n j] rfl HSL.out (fun _ => rfl) eb_one (by simp only [List.length_singleton]; unfold maxLen; omega) (by simp only [List.length_singleton]; omega) (by have := HP.out.2.size; simp; omega) ?_
                   intro v1 w2 ho hf hat
                   have HO2 := Lib.hid ho
                   have HG2 := Lib.hid (gr_keep' (HP.out.2.alloc _) (HP.out.1.alloc _) hf)
                   clear ho hf hat)
      obtain ⟨A2, c2, rfl⟩ := own_form HO2.out
      go_roundg (gk - 1)
      case measure => have := HK.out; omega
      case rel =>
        refine ⟨i + 1, A2, c2, rfl, ?_, ⟨by omega, by have := HK.out; omega⟩, ?_, HG2.out⟩
        · have := Hj.out; congr 1; omega
        have h := HO2.out
        rw [← List.flatMap_append, Hj.out, rpad_succ] at h
        exact h
    · obtain rfl : i = 8 := by have := HK.out; omega
      go_wp2_with fail
      go_ret2
      refine ⟨_, rfl, ?_, HP.out.2⟩
      have h := HP.out.1
      rw [Hpe.out] at h
      have e : l0 + 8 = s := by have := Hl.out; have := Hps.out; omega
      rw [e] at h ⊢
      exact h
end Sha
end Go.Proofs.Ytfpgfnmidkkgjaa
