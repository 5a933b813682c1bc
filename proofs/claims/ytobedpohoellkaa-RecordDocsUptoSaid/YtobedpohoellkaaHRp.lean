/- sha: stookref04.Behind. sha: stookref04.Sum. -/
import Derived.Test.YtobedpohoellkaaHSpec
import Derived.Test.YtobedpohoellkaaLib
import Derived.BigQuiet
import Derived.Deep.QuietTactic
set_option linter.unusedVariables false
set_option linter.unusedSimpArgs false
namespace Go.Proofs.Ytobedpohoellkaa
open Go.RowKit
namespace Sha

theorem rbehind_err (n : Int) (h : n < 0 ∨ 1099511627776 < n) (w : World) : Calls Try.prog 71 #[.int .i64 n] w fun e w' => e = .returned (.tuple #[.slice none 0 0, .int .i64 2]) ∧ w = w' := by
  rcases h with h | h
  · go_enter Try.func71, Try.ntmps71
    go_wp2_with fail
    go_ret2
    exact ⟨rfl, rfl⟩
  · have h0 : ¬ n < 0 := by omega
    go_enter Try.func71, Try.ntmps71
    go_wp2_with fail
    go_ret2
    exact ⟨rfl, rfl⟩

/-- the value 'behind' gives, read as a row -/
theorem pad_own {w : World} {g base : Nat} {n : Nat} (h : Blk w g TU8 (brr (pad n))) (hb : base ≤ g) : w.ownsRow base TU8 1 (.slice (some ⟨g, 0, none⟩) (psize n) (psize n)) (psize n) ((pad n).flatMap eb) := by
  have h1 := own_blk h hb (by rw [pad_len]; have := psize_mod n; unfold maxLen; omega)
  rw [pad_len] at h1
  exact h1
/-- what the reference has laid -/
def rpadI (n k i : Nat) : List B := 128#8 :: List.replicate k 0#8 ++ ((List.range i).map fun j => pby n (7 - j))
theorem rpad_succ0 (n k : Nat) : rpadI n k 0 ++ [0#8] = rpadI n (k + 1) 0 := by
  simp [rpadI, List.replicate_succ']
theorem rpad_succ (n k i : Nat) : rpadI n k i ++ [pby n (7 - i)] = rpadI n k (i + 1) := by
  simp [rpadI, List.range_succ]
theorem rpad_end (n : Nat) : rpadI n (psize n - 9) 8 = pad n := by
  rw [pad_eq]; rfl
theorem rpad_len (n k i : Nat) : (rpadI n k i).length = 1 + k + i := by simp [rpadI]; omega

set_option maxRecDepth 100000 in
set_option maxHeartbeats 1600000 in
theorem rbehind_any (n : Nat) (hn : n ≤ 1099511627776) (w : World) : Calls Try.prog 71 #[.int .i64 n] w fun e w' => ∃ v, e = .returned (.tuple #[v, .int .i64 0]) ∧ w'.ownsRow w.heap.size TU8 1 v (psize n) ((pad n).flatMap eb) ∧ Gr w w' := by
  obtain ⟨i0, hi0, hz0, hz1, hz2⟩ := info_parts info_b
  have h1 : ¬ (1099511627776 : Int) < n := by omega
  have hn' : (n : Int) ≤ 1099511627776 := by omega
  have Hn := Lib.hid hn
  have Hps := Lib.hid (psize_mod n)
  have Hpe := Lib.hid (rpad_end n)
  have Hpl := Lib.hid (rpad_len n)
  have Hps2 := Lib.hid (show psize n = (64 - (n + 9) % 64) % 64 + 9 from rfl)
  generalize hs : psize n = s at Hps Hpe Hps2 ⊢
  clear hn hs
  have HB0 := Lib.hid (Blk.new w TU8 (brr (rpadI n 0 0)))
  have HG0 := Lib.hid ((Fr.refl w NoneS).alloc (.cells (brr (rpadI n 0 0)) TU8))
  have HO0 := Lib.hid (own_blk HB0.out (Nat.le_refl _) (by rw [Hpl.out]; unfold maxLen; omega))
  rw [Hpl.out] at HO0
  clear HB0
  go_enter Try.func71, Try.ntmps71
  go_upto_block 0 with (fail)
  change Code.wp _ _ _ _ (w.alloc (.cells (brr (rpadI n 0 0)) TU8))
  generalize hw1 : World.alloc w (.cells (brr (rpadI n 0 0)) TU8) = w1 at HO0 HG0 ⊢
  clear hw1
  go_cut [4] (fun s4 wx => ∃ A c, s4 = .slice A (s - 8) c ∧ Hid (wx.ownsRow w.heap.size TU8 1 (.slice A (s - 8) c) (s - 8) ((rpadI n (s - 9) 0).flatMap eb) ∧ Gr w wx))
  case first =>
    go_wp2_with fail
    go_loopg [4] 65 (fun m s4 wr => ∃ (l : Nat) (A : Option Addr) (c : Nat), s4 = .slice A l c ∧ Hid (1 ≤ l ∧ l ≤ s - 8 ∧ s - 8 - l < m) ∧ Hid (wr.ownsRow w.heap.size TU8 1 (.slice A l c) l ((rpadI n (l - 1) 0).flatMap eb) ∧ Gr w wr))
    case atStart => exact ⟨1, _, _, rfl, ⟨by omega, by have := Hps.out; omega, by have := Hps.out; omega⟩, HO0.out, HG0.out⟩
    case round =>
      obtain ⟨l, A, c, rfl, HK, HP⟩ := hrel
      have hl : (l : Int) ≤ 64 := by have := HK.out; have := Hps.out; omega
      by_cases hk : l < s - 8
      · have hb : (((n : Int) + (l : Int) + 8) % 64 != 0) = true := by rw [bne_iff_ne]; have := HK.out; have := Hps2.out; omega
        go_wp2_with (at_builtin; refine wpList_append_sl _ eb rfl _ _ TS8 rfl w.heap.size TU8 i0 (.int .u8 0) 1 1 Try.underlying28 hi0 hz0 hz1 hz2 rfl (by decide) _ _ _ rfl (HP.out.1.alloc _) (.slice (some ⟨wr.heap.size, 0, none⟩) 1 1) [0#8] rfl (sl_one wr (0#8) _ rfl _) (fun _ => rfl) eb_one (by simp only [List.length_singleton]; unfold maxLen; omega) (by simp only [List.length_singleton]; omega) (by have := HP.out.2.size; simp; omega) ?_
                     intro v1 w2 ho hf hat
                     have HO2 := Lib.hid ho
                     have HG2 := Lib.hid (gr_keep' (HP.out.2.alloc _) (HP.out.1.alloc _) hf)
                     clear ho hf hat)
        obtain ⟨A2, c2, rfl⟩ := own_form HO2.out
        go_roundg (gk - 1)
        case measure => have := HK.out; omega
        case rel =>
          refine ⟨l + 1, A2, c2, rfl, ⟨by omega, by omega, by have := HK.out; omega⟩, ?_, HG2.out⟩
          have h := HO2.out
          rw [← List.flatMap_append, rpad_succ0] at h
          have e : l - 1 + 1 = l + 1 - 1 := by have := HK.out; omega
          rw [e] at h
          exact h
      · obtain rfl : l = s - 8 := by have := HK.out; omega
        have hb : (((n : Int) + ((s - 8 : Nat) : Int) + 8) % 64 != 0) = false := by rw [bne_eq_false_iff_eq]; have := HK.out; have := Hps2.out; omega
        go_wp2_with fail
        go_meet
        exact ⟨_, _, rfl, HP.out⟩
  case rest =>
  obtain ⟨A, c, rfl, HP⟩ := hcut
  clear HO0 HG0
  generalize hl : s - 8 = l0 at HP ⊢
  have Hl := Lib.hid hl
  have hl0 : (l0 : Int) ≤ 64 := by have := Hps.out; omega
  clear hl
  go_wp2_with fail
  go_loopg [4, 5] 9 (fun m s4 s5 wr => ∃ (i : Nat) (A : Option Addr) (c : Nat), s4 = .slice A (l0 + i) c ∧ s5 = .int .i64 (7 - (i : Int)) ∧ Hid (i ≤ 8 ∧ 8 - i < m) ∧ Hid (wr.ownsRow w.heap.size TU8 1 (.slice A (l0 + i) c) (l0 + i) ((rpadI n (s - 9) i).flatMap eb) ∧ Gr w wr))
  case atStart => exact ⟨0, _, _, rfl, rfl, ⟨by omega, by omega⟩, HP.out⟩
  case round =>
    clear HP
    obtain ⟨i, A, c, rfl, rfl, HK, HP⟩ := hrel
    by_cases hi : i < 8
    · have h7 : (0 : Int) ≤ 7 - (i : Int) := by omega
      obtain ⟨j, hj⟩ : ∃ j : Nat, j = 7 - i := ⟨_, rfl⟩
      have hj' : (7 : Int) - (i : Int) = (j : Int) := by omega
      have Hj := Lib.hid hj
      rw [hj']
      have hj7 : (j : Int) ≤ 7 := by omega
      clear hj hj' h7
      have HSL := Lib.hid (show SL eb (wr.alloc (.cells #[.int .u8 (8 * (n : Int) / 2 ^ (8 * j) % 256)] TU8)) (.slice (some ⟨wr.heap.size, 0, none⟩) 1 1) [pby n j] from sl_one wr (pby n j) _ (by rw [pby_val]; rfl) TU8)
      go_wp2_with (at_builtin; refine wpList_append_sl _ eb rfl _ _ TS8 rfl w.heap.size TU8 i0 (.int .u8 0) 1 1 Try.underlying28 hi0 hz0 hz1 hz2 rfl (by decide) _ _ _ rfl (HP.out.1.alloc _) (.slice (some ⟨wr.heap.size, 0, none⟩) 1 1) [pby n j] rfl HSL.out (fun _ => rfl) eb_one (by simp only [List.length_singleton]; unfold maxLen; omega) (by simp only [List.length_singleton]; omega) (by have := HP.out.2.size; simp; omega) ?_
                   intro v1 w2 ho hf hat
                   have HO2 := Lib.hid ho
                   have HG2 := Lib.hid (gr_keep' (HP.out.2.alloc _) (HP.out.1.alloc _) hf)
                   clear ho hf hat)
      obtain ⟨A2, c2, rfl⟩ := own_form HO2.out
      go_roundg (gk - 1)
      case measure => have := HK.out; omega
      case rel =>
        refine ⟨i + 1, A2, c2, rfl, ?_, ⟨by omega, by have := HK.out; omega⟩, ?_, HG2.out⟩
        · have := Hj.out; congr 1; omega
        have h := HO2.out
        rw [← List.flatMap_append, Hj.out, rpad_succ] at h
        exact h
    · obtain rfl : i = 8 := by have := HK.out; omega
      go_wp2_with fail
      go_ret2
      refine ⟨_, rfl, ?_, HP.out.2⟩
      have h := HP.out.1
      rw [Hpe.out] at h
      have e : l0 + 8 = s := by have := Hl.out; have := Hps.out; omega
      rw [e] at h ⊢
      exact h
/-- bytes as whole numbers, as words of eight bits -/
theorem ofInts_sl {w : World} {v : Value} {xs : List Int} (hs : SL (fun x : Int => [Value.int .u8 x]) w v xs) (h : ∀ x ∈ xs, 0 ≤ x ∧ x < 256) : SL eb w v (xs.map (BitVec.ofInt 8)) := by
  have hc : ∀ xs : List Int, (∀ x ∈ xs, 0 ≤ x ∧ x < 256) → (xs.map (BitVec.ofInt 8)).flatMap eb = xs.flatMap (fun x : Int => [Value.int .u8 x]) := by
    intro xs
    induction xs with
    | nil => intro _; rfl
    | cons x r ih =>
      intro h
      rw [List.map_cons, List.flatMap_cons, List.flatMap_cons, ih (fun y hy => h y (List.mem_cons_of_mem _ hy))]
      have := h x (by simp)
      have e : eb (BitVec.ofInt 8 x) = [Value.int .u8 x] := by
        show [C (BitVec.ofInt 8 x)] = _
        have : ((BitVec.ofInt 8 x).toNat : Int) = x := by rw [BitVec.toNat_ofInt]; omega
        simp only [C, this]
      rw [e]
  obtain ⟨A, cap, rfl, hl, hr⟩ := hs
  refine ⟨A, cap, by rw [List.length_map], by rw [List.length_map]; exact hl, fun h0 => ?_⟩
  rw [List.length_map] at h0
  obtain ⟨b, off, rfl, hq, hcell⟩ := hr h0
  exact ⟨b, off, rfl, hq, by rw [hc xs h]; exact hcell⟩
end Sha
end Go.Proofs.Ytobedpohoellkaa

namespace Go.Proofs.Ytobedpohoellkaa
open Go.RowKit
namespace Sha

/-- of these bytes i are laid, zeros behind them -/
def fill (c : List B) (n i : Nat) : List B := c.take i ++ List.replicate (n - i) 0
theorem fill_len (c : List B) (n i : Nat) (h : c.length = n) (hi : i ≤ n) : (fill c n i).length = n := by simp [fill]; omega
theorem fill_zero (c : List B) (n : Nat) : fill c n 0 = List.replicate n 0 := by simp [fill]
theorem fill_all (c : List B) (n : Nat) (h : c.length = n) : fill c n n = c := by simp [fill, ← h]
theorem fill_set (c : List B) (n i : Nat) (h : c.length = n) (hi : i < n) : (fill c n i).set i (c.getD i 0) = fill c n (i + 1) := by
  have hl : (c.take i).length = i := by rw [List.length_take]; omega
  obtain ⟨m, hm⟩ : ∃ m, n - i = m + 1 := ⟨n - i - 1, by omega⟩
  have hm' : n - (i + 1) = m := by omega
  unfold fill
  rw [List.set_append_right _ _ (by omega), hl, Nat.sub_self, hm, hm', List.replicate_succ, List.set_cons_zero, List.take_succ_eq_append_getElem (by omega)]
  rw [List.append_assoc, List.getD_eq_getElem?_getD, List.getElem?_eq_getElem (show i < c.length by omega)]; rfl

/-- a block of 64 of a row -/
theorem chunk_len (L : List B) (k : Nat) (h : 64 * k + 64 ≤ L.length) : ((L.drop (64 * k)).take 64).length = 64 := by simp; omega
theorem chunk_get (L : List B) (k i : Nat) (hi : i < 64) : ((L.drop (64 * k)).take 64).getD i 0 = L.getD (64 * k + i) 0 := by
  simp [List.getElem?_take, hi]

set_option maxHeartbeats 3200000 in
set_option maxRecDepth 100000 in
theorem rsum_any (v : Value) (all : List B) (w : World) (hs : SL eb w v all) (hn : all.length ≤ 4194304) :
    Calls Try.prog 46 #[v] w fun e w' => e = .returned (.agg (brr (sum all))) ∧ Gr w w' := by
  obtain ⟨i0, hi0, hz0, hz1, hz2⟩ := info_parts info_b
  have Hi0 := Lib.hid (And.intro hi0 (And.intro hz0 (And.intro hz1 hz2)))
  clear hi0 hz0 hz1 hz2
  have HS := Lib.hid hs
  have Hn := Lib.hid hn
  obtain ⟨A, cap, rfl, _⟩ := hs.len
  clear hs hn
  have HG0 := Lib.hid ((Fr.refl w NoneS).alloc (.cells (brr (List.replicate 32 (0 : B))) TD))
  go_enter Try.func46, Try.ntmps46
  go_upto_region 1 with (fail)
  change Code.wp _ _ _ _ (w.alloc (.cells (brr (List.replicate 32 (0 : B))) TD))
  have HB2 := Lib.hid (Blk.new w TD (brr (List.replicate 32 (0 : B))))
  generalize hp2 : w.heap.size = p2 at HB2 ⊢
  have Hp2 := Lib.hid (show w.heap.size ≤ p2 by rw [hp2]; exact Nat.le_refl _)
  clear hp2
  generalize World.alloc w _ = w1 at HB2 HG0 ⊢
  have HS1 := Lib.hid (HS.out.gr HG0.out)
  clear HS
  have Hlp := Lib.hid (show (pad all.length).length = psize all.length from pad_len _)
  have Hpm := Lib.hid (psize_mod all.length)
  go_upto_region 3 with (
    at_builtin
    refine wpList_append_sl _ eb rfl _ _ TS8 rfl w1.heap.size TU8 i0 (.int .u8 0) 1 1 Try.underlying28 Hi0.out.1 Hi0.out.2.1 Hi0.out.2.2.1 Hi0.out.2.2.2 rfl (by decide) (.slice none 0 0) 0 [] rfl (World.ownsRow_nil _ _ _ _) _ all rfl HS1.out (fun _ => rfl) eb_one (by have := Hn.out; unfold maxLen; omega) (by have := Hn.out; omega) (Nat.le_refl _) ?_
    intro v3 w3 ho hf hat
    rw [Nat.zero_add, List.nil_append] at ho
    obtain ⟨A3, c3, rfl⟩ := own_form ho
    have HO3 := Lib.hid ho
    have HG3 := Lib.hid (show Gr w1 w3 from hf.mono (fun k _ h => nil_own k h))
    clear ho hf hat)
  go_upto_region 4 with (go_at_call 71; refine (rbehind_any all.length (by have := Hn.out; omega) w3).mono ?_; rintro e w4 ⟨v4, rfl, ho4, hg4⟩; obtain ⟨A4, c4, rfl⟩ := own_form ho4; have HO4 := Lib.hid ho4; have HG4 := Lib.hid hg4; clear ho4 hg4)
  have HO34 := Lib.hid (HG4.out.owns HO3.out (fun _ _ h => h))
  have HS4 := Lib.hid (SL.of_own (enc := eb) HO4.out Hlp.out.symm)
  go_upto_region 5 with (
    at_builtin
    refine wpList_append_sl _ eb rfl _ _ TS8 rfl w1.heap.size TU8 i0 (.int .u8 0) 1 1 Try.underlying28 Hi0.out.1 Hi0.out.2.1 Hi0.out.2.2.1 Hi0.out.2.2.2 rfl (by decide) _ all.length _ rfl HO34.out _ (pad all.length) rfl HS4.out (fun _ => rfl) eb_one (by have := Hn.out; have := Hpm.out; rw [Hlp.out]; unfold maxLen; omega) (by have := Hn.out; have := Hpm.out; rw [Hlp.out]; omega) (Nat.le_trans HG3.out.size HG4.out.size) ?_
    intro v5 w5 ho hf hat
    rw [← List.flatMap_append, ← List.length_append] at ho
    obtain ⟨N, hN⟩ : ∃ N, N = (all ++ pad all.length).length := ⟨_, rfl⟩
    rw [← hN] at ho
    have HN := Lib.hid hN
    clear hN
    obtain ⟨A5, c5, rfl⟩ := own_form ho
    have HO5 := Lib.hid ho
    have HG5 := Lib.hid (gr_keep' (HG3.out.trans HG4.out (fun _ _ h => h)) HO34.out hf)
    clear ho hf hat)
  have Hsum := Lib.hid (show sum all = dig (stt (all ++ pad all.length)) from rfl)
  have Hstt := Lib.hid (show stt (all ++ pad all.length) = eat HU (all ++ pad all.length) ((all ++ pad all.length).length / 64) from rfl)
  have HLK := Lib.hid (show (all ++ pad all.length).length = 64 * ((all ++ pad all.length).length / 64) ∧ (all ++ pad all.length).length ≤ 4194304 + 72 from by
    rw [List.length_append, Hlp.out]; have := Hpm.out; have := Hn.out; omega)
  have HS5 := Lib.hid (SL.of_own (enc := eb) HO5.out HN.out)
  have HO5' := Lib.hid HO5.out
  generalize all ++ pad all.length = L at Hsum Hstt HLK HS5 HO5 HO5' HN ⊢
  generalize hK : L.length / 64 = K at Hstt HLK
  clear hK HO5 HS4 HO34 HO4 HO3 HS1 Hlp Hpm
  have HG05 := Lib.hid (HG0.out.trans HG5.out (fun _ _ h => h))
  have HB25 := Lib.hid (HB2.out.fr HG5.out (fun h => h))
  clear HB2 HG0 HG3 HG4 HG5
  go_upto_block 0 with (first
    | (go_at_call 72; refine (rbegin_any _).mono ?_; rintro e w6 ⟨rfl, hg6⟩; have HG6 := Lib.hid hg6; clear hg6)
    | refine wpList_store_new (w0 := w6) rfl _ _ _ rfl HA _ _ rfl rfl rfl (by kernel_rfl) (by kernel_rfl) (by kernel_rfl) ?_)
  have HB6 := Lib.hid (show Blk (w6.alloc (.cells HA T8)) w6.heap.size T8 (arr (eat HU L 0)) from by rw [HA_eq]; exact Blk.new _ _ _)
  have Hne5 := Lib.hid (show ∀ k, (Value.slice A5 N c5).ownBlock = some k → k ≠ w6.heap.size from fun k hk => by have := (HO5'.out.lt k hk).2; have := HG6.out.size; omega)
  have HG7 := Lib.hid ((HG05.out.trans HG6.out (fun _ _ h => h)).alloc (.cells HA T8))
  have HS7 := Lib.hid ((HS5.out.gr HG6.out).gr ((Fr.refl w6 NoneS).alloc (.cells HA T8)))
  have HB27 := Lib.hid ((HB25.out.fr HG6.out (fun h => h)).alloc (.cells HA T8))
  have Hp26 := Lib.hid (show p2 < w6.heap.size from (HB25.out.fr HG6.out (fun h => h)).lt)
  have Hp6 := Lib.hid (show w.heap.size ≤ w6.heap.size from (HG05.out.trans HG6.out (fun _ _ h => h)).size)
  generalize w6.heap.size = p6 at HB6 Hp26 Hp6 Hne5 ⊢
  generalize World.alloc w6 _ = w7 at HB6 HG7 HS7 HB27 ⊢
  clear HG05 HB25 HG6 HS5
  go_cut [] (fun wx => Hid (Blk wx p6 T8 (arr (eat HU L K)) ∧ Blk wx p2 TD (brr (List.replicate 32 (0 : B))) ∧ Gr w wx))
  case first =>
    go_wp2_with fail
    go_loopg [7] (K + 1) (fun m s7 wr => ∃ (k a : Nat), s7 = .int .i64 a ∧ Hid (a = 64 * k ∧ k ≤ K ∧ K - k < m) ∧ Hid (Blk wr p6 T8 (arr (eat HU L k)) ∧ Blk wr p2 TD (brr (List.replicate 32 (0 : B))) ∧ SL eb wr (.slice A5 N c5) L ∧ Gr w wr))
    case atStart => exact ⟨0, 0, rfl, ⟨rfl, Nat.zero_le _, by omega⟩, HB6.out, HB27.out, HS7.out, HG7.out⟩
    case round =>
      clear HB6 HS7 HG7 HB27
      obtain ⟨k, a, rfl, HK, HP⟩ := hrel
      have hLi : (N : Int) ≤ 4194376 := by have := HLK.out; have := HN.out; omega
      have hai : (a : Int) ≤ 4194376 := by have := HLK.out; have := HK.out; omega
      by_cases hk : k < K
      · have hlt : (a : Int) < (N : Int) := by have := HLK.out; have := HK.out; have := HN.out; omega
        have Hk := Lib.hid hk
        have Hc := Lib.hid (chunk_len L k (by have := HLK.out; omega))
        have Hcg := Lib.hid (fun i hi => chunk_get L k i hi)
        have Heat := Lib.hid (show eat HU L (k + 1) = press (eat HU L k) ((L.drop (64 * k)).take 64) from rfl)
        have Hst := Lib.hid (eat_len HU L rfl k)
        generalize (L.drop (64 * k)).take 64 = ch at Hc Hcg Heat
        generalize hst : eat HU L k = st at HP Heat Hst
        clear hst hk
        go_upto_region 10 with (fail)
        change Code.wp _ _ _ _ (wr.alloc (.cells (brr (List.replicate 64 (0 : B))) TB))
        have HB8 := Lib.hid (show Blk (wr.alloc (.cells (brr (List.replicate 64 (0 : B))) TB)) wr.heap.size TB (brr (fill ch 64 0)) from by rw [fill_zero]; exact Blk.new _ _ _)
        have HG8 := Lib.hid ((Fr.refl wr NoneS).alloc (.cells (brr (List.replicate 64 (0 : B))) TB))
        have Hp8 := Lib.hid (Nat.le_refl wr.heap.size)
        generalize hp8 : wr.heap.size = p8 at HB8 ⊢
        rw [hp8] at Hp8
        generalize World.alloc wr _ = wb at HB8 HG8 ⊢
        have Hp8' := Lib.hid hp8
        clear hp8 Hp8
        go_upto_block 2 with (fail)
        go_cut [] (fun wx => Hid (Blk wx p8 TB (brr ch) ∧ Gr wr wx))
        case first =>
          go_wp2_with fail
          go_loopg [9] 65 (fun m s9 wx => ∃ (i : Nat), s9 = .int .i64 i ∧ Hid (i ≤ 64 ∧ 64 - i < m) ∧ Hid (Blk wx p8 TB (brr (fill ch 64 i)) ∧ Gr wr wx))
          case atStart => exact ⟨0, rfl, ⟨by omega, by omega⟩, HB8.out, HG8.out⟩
          case round =>
            clear HB8 HG8
            obtain ⟨i, rfl, HI, HQ⟩ := hrel
            by_cases hi : i < 64
            · have hi1 : (i : Int) < 64 := by omega
              have Hi := Lib.hid hi
              have hail : a + i < L.length := by have := HLK.out; have := HK.out; have := Hk.out; omega
              obtain ⟨b1, o1, rfl, _, hc1⟩ := (HP.out.2.2.1.gr HQ.out.2).at_ (s := 1) (fun _ => rfl) rfl hail
              have c1 := hc1 0 (by omega)
              simp only [eb, Nat.mul_one, Nat.add_zero, List.getElem?_cons_zero] at c1
              have e0 : L[a + i] = ch.getD i 0 := by rw [Hcg.out i Hi.out]; have := HK.out.1; rw [← this, List.getD_eq_getElem?_getD, List.getElem?_eq_getElem hail]; rfl
              rw [e0] at c1
              have e1 : ((a : Int) + (i : Int)).toNat = a + i := by omega
              have e2 : (0 : Int) ≤ (a : Int) + (i : Int) := by omega
              have e3 : (a : Int) + (i : Int) < (N : Int) := by have := HN.out; omega
              have q0 := bcell HQ.out.1 (i := i) (by rw [fill_len _ _ _ Hc.out HI.out.1]; exact hi)
              have q1 := HQ.out.1.frozen i
              clear hc1 e0 hail
              go_wp2_with fail
              go_roundg (gk - 1)
              case measure => have := HI.out; omega
              case rel =>
                refine ⟨i + 1, by go_num, ⟨by omega, by have := HI.out; omega⟩, ?_, HQ.out.2.setCell (p := ⟨p8, i, none⟩) (by have := Hp8'.out; simp; omega) _⟩
                have h := HQ.out.1.set_ i (C (ch.getD i 0))
                rw [brr_set, fill_set _ _ _ Hc.out Hi.out] at h
                exact h
            · obtain rfl : i = 64 := by have := HI.out; omega
              go_wp2_with fail
              go_meet
              have h := HQ.out
              rw [fill_all _ _ Hc.out] at h
              exact h
        case rest =>
        have HR := Lib.hid hcut.out
        clear hcut HB8 HG8
        have HP2 := Lib.hid (show Blk wc p6 T8 (arr st) ∧ Blk wc p2 TD (brr (List.replicate 32 (0 : B))) ∧ SL eb wc (.slice A5 N c5) L ∧ Gr w wc from ⟨HP.out.1.fr HR.out.2 (fun h => h), HP.out.2.1.fr HR.out.2 (fun h => h), HP.out.2.2.1.gr HR.out.2, HP.out.2.2.2.trans HR.out.2 (fun _ _ h => h)⟩)
        clear HP
        have Hpl := Lib.hid (press_len st ch Hst.out)
        go_wp2_with (first
          | refine wpList_load_row rfl _ _ rfl p6 rfl T8 (arr st) (0, 0) _ HP2.out.1 Try.underlying106 rfl (by rw [arr_size, Hst.out]; kernel_rfl) ?_
          | refine wpList_load_row rfl _ _ rfl p8 rfl TB (brr ch) (0, 0) _ HR.out.1 Try.underlying108 rfl (by rw [brr_size, Hc.out]; kernel_rfl) ?_
          | (go_at_call 73; refine (rpress_any st ch Hst.out Hc.out _).mono ?_; rintro e w9 ⟨rfl, hg⟩; have HG9 := Lib.hid hg; have HB9 := Lib.hid (HP2.out.1.fr hg (fun h => h)); clear hg)
          | refine wpList_store_row rfl _ _ _ rfl p6 (arr (press st ch)) rfl rfl T8 _ HB9.out (by rw [arr_size, Hpl.out]; kernel_rfl) (by rw [arr_size, arr_size, Hpl.out, Hst.out]) (arr_one _) ?_)
        go_roundg (gk - 1)
        case measure => have := HK.out; have := Hk.out; omega
        case rel =>
          refine ⟨k + 1, a + 64, by go_num, ⟨by have := HK.out; omega, by have := Hk.out; omega, by have := HK.out; have := Hk.out; omega⟩, ?_⟩
          rw [Heat.out]
          have hne : p2 ≠ p6 := by have := Hp26.out; omega
          refine ⟨blk_setRow HB9.out _, blk_setRow_ne (HP2.out.2.1.fr HG9.out (fun h => h)) hne _, ?_, fr_setRow (HP2.out.2.2.2.trans HG9.out (fun _ _ h => h)) (fun h => by have := Hp6.out; omega) _⟩
          refine (HP2.out.2.2.1.gr HG9.out).fr (fr_setRow (S := fun k => k = p6) (Fr.refl w9 _) (fun _ => rfl) _) (fun k hk hkp => ?_)
          subst hkp
          exact Hne5.out k hk rfl
      · obtain rfl : k = K := by have := HK.out; omega
        have hlt : decide (a < N) = false := decide_eq_false (by have := HLK.out; have := HK.out; have := HN.out; omega)
        go_wp2_with fail
        go_meet
        exact ⟨HP.out.1, HP.out.2.1, HP.out.2.2.2⟩
  case rest =>
  have HR := Lib.hid hcut.out
  clear hcut HB6 HG7 HS7 HB27
  rw [← Hstt.out] at HR
  have Hsl := Lib.hid (stt_len L)
  generalize stt L = hs at HR Hsum Hsl
  have Hdl := Lib.hid (dig_len hs)
  go_upto_region 16 with (fail)
  change Code.wp _ _ _ _ (wc.alloc (.cells (brr (List.replicate 32 (0 : B))) TD))
  have HB10 := Lib.hid (show Blk (wc.alloc (.cells (brr (List.replicate 32 (0 : B))) TD)) wc.heap.size TD (brr (fill (dig hs) 32 0)) from by rw [fill_zero]; exact Blk.new _ _ _)
  have HR2 := Lib.hid (And.intro (HR.out.1.alloc (.cells (brr (List.replicate 32 (0 : B))) TD)) (And.intro (HR.out.2.1.alloc (.cells (brr (List.replicate 32 (0 : B))) TD)) (HR.out.2.2.alloc (.cells (brr (List.replicate 32 (0 : B))) TD))))
  have Hp10 := Lib.hid (show p6 < wc.heap.size ∧ p2 < wc.heap.size ∧ w.heap.size ≤ wc.heap.size from ⟨HR.out.1.lt, HR.out.2.1.lt, HR.out.2.2.size⟩)
  generalize wc.heap.size = p10 at HB10 Hp10 ⊢
  generalize World.alloc wc _ = wd at HB10 HR2 ⊢
  clear HR
  go_upto_block 4 with (fail)
  go_cut [] (fun wx => Hid (Blk wx p10 TD (brr (dig hs)) ∧ Blk wx p2 TD (brr (List.replicate 32 (0 : B))) ∧ Gr w wx))
  case first =>
    go_wp2_with fail
    go_loopg [11] 33 (fun m s11 wr => ∃ (i : Nat), s11 = .int .i64 i ∧ Hid (i ≤ 32 ∧ 32 - i < m) ∧ Hid (Blk wr p10 TD (brr (fill (dig hs) 32 i)) ∧ Blk wr p6 T8 (arr hs) ∧ Blk wr p2 TD (brr (List.replicate 32 (0 : B))) ∧ Gr w wr))
    case atStart => exact ⟨0, rfl, ⟨by omega, by omega⟩, HB10.out, HR2.out⟩
    case round =>
      obtain ⟨i, rfl, HI, HQ⟩ := hrel
      by_cases hi : i < 32
      · have hi1 : (i : Int) < 32 := by omega
        have Hi := Lib.hid hi
        obtain ⟨q, hq⟩ : ∃ q, q = i / 4 := ⟨_, rfl⟩
        obtain ⟨s, hs'⟩ : ∃ s, s = 24 - 8 * (i % 4) := ⟨_, rfl⟩
        have e1 : (i : Int) / 4 = (q : Int) := by omega
        have e2 : (24 : Int) - 8 * ((i : Int) % 4) = (s : Int) := by omega
        have e3 : (q : Int) < 8 := by omega
        have e4 : (s : Int) ≤ 24 := by omega
        have e5 : min s 32 = s := by omega
        have c1 := wcell HQ.out.2.1 (i := q) (by rw [Hsl.out]; omega)
        have hx : (dig hs).getD i 0 = byt (gt hs q) s := by rw [List.getD_eq_getElem?_getD, dig_get hs i hi, hq, hs']; rfl
        have Hx := Lib.hid hx
        have q0 := bcell HQ.out.1 (i := i) (by rw [fill_len _ _ _ Hdl.out HI.out.1]; exact hi)
        have q1 := HQ.out.1.frozen i
        clear hx hq hs' hi
        go_wp2_with fail
        go_roundg (gk - 1)
        case measure => have := HI.out; omega
        case rel =>
          refine ⟨i + 1, by go_num, ⟨Hi.out, by have := HI.out; have := Hi.out; omega⟩, ?_⟩
          have e6 : ((gt hs q).toNat : Int) / 2 ^ s % 256 = ((byt (gt hs q) s).toNat : Int) := by
            unfold byt; rw [BitVec.toNat_setWidth, BitVec.toNat_ushiftRight, Nat.shiftRight_eq_div_pow]; simp
          rw [show hs[q]?.getD 0#32 = gt hs q from (List.getD_eq_getElem?_getD ..).symm, e6, ← Hx.out]
          have h := HQ.out.1.set_ i (C ((dig hs).getD i 0))
          rw [brr_set, fill_set _ _ _ Hdl.out Hi.out] at h
          have n6 : p6 ≠ p10 := by have := Hp10.out; omega
          have n2 : p2 ≠ p10 := by have := Hp10.out; omega
          exact ⟨h, HQ.out.2.1.far (p := ⟨p10, i, none⟩) n6 _, HQ.out.2.2.1.far (p := ⟨p10, i, none⟩) n2 _, HQ.out.2.2.2.setCell (p := ⟨p10, i, none⟩) (by have := Hp10.out; simp; omega) _⟩
      · obtain rfl : i = 32 := by have := HI.out; omega
        go_wp2_with fail
        go_meet
        have h := HQ.out
        rw [fill_all _ _ Hdl.out] at h
        exact ⟨h.1, h.2.2⟩
  case rest =>
  have HR := Lib.hid hcut.out
  clear hcut
  rw [← Hsum.out] at HR Hdl
  go_wp2_with (first
    | refine wpList_load_row rfl _ _ rfl p10 rfl TD (brr (sum all)) (0, 0) _ HR.out.1 Try.underlying23 rfl (by rw [brr_size, Hdl.out]; kernel_rfl) ?_
    | refine wpList_store_row rfl _ _ _ rfl p2 (brr (sum all)) rfl rfl TD _ HR.out.2.1 (by rw [brr_size, Hdl.out]; kernel_rfl) (by rw [brr_size, brr_size, Hdl.out]; rfl) (brr_one _) ?_)
  refine bodyPost_ret (results_cell_row Try.results46 _ _ p2 TD (brr (sum all)) (0, 0) _ rfl (blk_setRow HR.out.2.1 _) Try.underlying23 rfl (by rw [brr_size, Hdl.out]; kernel_rfl)) rfl ?_
  exact ⟨rfl, fr_setRow HR.out.2.2 (fun h => by have := Hp2.out; omega) _⟩
end Sha
end Go.Proofs.Ytobedpohoellkaa
