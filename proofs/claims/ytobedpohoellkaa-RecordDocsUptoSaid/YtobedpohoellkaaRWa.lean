/- pack: Fold, Unfold, Put. -/
import Derived.Test.YtobedpohoellkaaRPl
set_option linter.unusedVariables false
set_option linter.unusedSimpArgs false
namespace Go.Proofs.Ytobedpohoellkaa
open Go.RowKit
open Voc Leb
namespace Rec
theorem xor64_all {a : Int} (h : 0 ≤ a ∧ a < 18446744073709551616) : bits .xor .u64 a 18446744073709551615 = 18446744073709551615 - a := by
  show IntKind.u64.wrap ((BitVec.ofInt 64 a ^^^ BitVec.ofInt 64 18446744073709551615).toNat : Int) = _
  rw [show BitVec.ofInt 64 18446744073709551615 = BitVec.allOnes 64 by decide, BitVec.xor_allOnes, BitVec.toNat_not]
  have e : (BitVec.ofInt 64 a).toNat = a.toNat := by rw [BitVec.toNat_ofInt]; omega
  rw [e]
  show ((2 ^ 64 - 1 - a.toNat : Nat) : Int) % 18446744073709551616 = _
  have : (2 : Nat) ^ 64 = 18446744073709551616 := by decide
  omega
theorem xor64_zero {a : Int} (h : 0 ≤ a ∧ a < 18446744073709551616) : bits .xor .u64 a 0 = a := by
  show IntKind.u64.wrap ((BitVec.ofInt 64 a ^^^ BitVec.ofInt 64 0).toNat : Int) = _
  rw [show BitVec.ofInt 64 0 = 0#64 by decide, BitVec.xor_zero]
  have e : (BitVec.ofInt 64 a).toNat = a.toNat := by rw [BitVec.toNat_ofInt]; omega
  rw [e]
  show (a.toNat : Int) % 18446744073709551616 = _
  omega
theorem xors_zero {a : Int} (h : 0 ≤ a ∧ a < 9223372036854775808) : bits .xor .i64 a 0 = a := by
  show IntKind.i64.wrap ((BitVec.ofInt 64 a ^^^ BitVec.ofInt 64 0).toNat : Int) = _
  rw [show BitVec.ofInt 64 0 = 0#64 by decide, BitVec.xor_zero]
  have e : (BitVec.ofInt 64 a).toNat = a.toNat := by rw [BitVec.toNat_ofInt]; omega
  rw [e]
  exact IntWalk.i64_in _ ⟨by omega, by omega⟩ |>.trans (by omega)
theorem xors_all {a : Int} (h : 0 ≤ a ∧ a < 9223372036854775808) : bits .xor .i64 a (-1) = -a - 1 := by
  show IntKind.i64.wrap ((BitVec.ofInt 64 a ^^^ BitVec.ofInt 64 (-1)).toNat : Int) = _
  rw [show BitVec.ofInt 64 (-1) = BitVec.allOnes 64 by decide, BitVec.xor_allOnes, BitVec.toNat_not]
  have e : (BitVec.ofInt 64 a).toNat = a.toNat := by rw [BitVec.toNat_ofInt]; omega
  rw [e, IntKind.wrap_i64]
  have : (2 : Nat) ^ 64 = 18446744073709551616 := by decide
  omega
theorem fold_bits {n : Int} (hn : -1048576 ≤ n ∧ n ≤ 1048576) : bits .xor .u64 (IntKind.u64.wrap (IntKind.u64.wrap n * 2)) (IntKind.u64.wrap (n / 9223372036854775808)) = ((foldN n : Nat) : Int) := by
  unfold foldN
  by_cases h : 0 ≤ n
  · rw [if_pos h, show n / 9223372036854775808 = 0 by omega, show IntKind.u64.wrap 0 = 0 by rfl, show IntKind.u64.wrap n = n by show n % 18446744073709551616 = _; omega, show IntKind.u64.wrap (n * 2) = n * 2 by show (n * 2) % 18446744073709551616 = _; omega, xor64_zero (by omega)]
    omega
  · rw [if_neg h, show n / 9223372036854775808 = -1 by omega, show IntKind.u64.wrap (-1) = 18446744073709551615 by rfl, show IntKind.u64.wrap n = n + 18446744073709551616 by show n % 18446744073709551616 = _; omega, show IntKind.u64.wrap ((n + 18446744073709551616) * 2) = n * 2 + 18446744073709551616 by show ((n + 18446744073709551616) * 2) % 18446744073709551616 = _; omega, xor64_all (by omega)]
    omega
theorem and64_1 {u : Nat} (h : u < 2 ^ 64) : bits .and .u64 (u : Int) 1 = ((u % 2 : Nat) : Int) := by
  show IntKind.u64.wrap ((BitVec.ofInt 64 (u : Int) &&& BitVec.ofInt 64 1).toNat : Int) = _
  rw [BitVec.toNat_and, show (BitVec.ofInt 64 1).toNat = 1 by decide]
  have e : (BitVec.ofInt 64 (u : Int)).toNat = u := by rw [BitVec.toNat_ofInt]; omega
  rw [e, and_1]
  show ((u % 2 : Nat) : Int) % 18446744073709551616 = _
  omega
theorem unfold_bits {u : Nat} (h : u < 2 ^ 64) : bits .xor .i64 ((u : Int) / 2) (wrap64 (-wrap64 (bits .and .u64 (u : Int) 1))) = unfI u := by
  rw [and64_1 h]
  have h2 : (2 : Nat) ^ 64 = 18446744073709551616 := by decide
  unfold unfI
  by_cases h0 : u % 2 = 0
  · rw [if_pos h0, h0, show wrap64 (-wrap64 ((0 : Nat) : Int)) = 0 by decide +kernel, xors_zero (by omega)]; omega
  · rw [if_neg h0, show u % 2 = 1 by omega, show wrap64 (-wrap64 ((1 : Nat) : Int)) = -1 by decide +kernel, xors_all (by omega)]; omega
theorem Fold_any (n : Int) (hn : -1048576 ≤ n ∧ n ≤ 1048576) (w : World) :
    Calls Try.prog 50 #[.int .i64 n] w fun e w' => e = .returned (.int .u64 ((foldN n : Nat) : Int)) ∧ w = w' := by
  go_enter Try.func50, Try.ntmps50
  go_wp2_with fail
  go_ret
  show Ending.returned (.int .u64 (bits .xor .u64 (IntKind.u64.wrap (IntKind.u64.wrap n * 2)) (IntKind.u64.wrap (n / 9223372036854775808)))) = _ ∧ _
  rw [fold_bits hn]
  exact ⟨rfl, rfl⟩
theorem Unfold_any (u : Nat) (hu : u < 2 ^ 64) (w : World) :
    Calls Try.prog 53 #[.int .u64 (u : Int)] w fun e w' => e = .returned (.int .i64 (unfI u)) ∧ w = w' := by
  go_enter Try.func53, Try.ntmps53
  go_wp2_with fail
  go_ret
  show Ending.returned (.int .i64 (bits .xor .i64 ((u : Int) / 2) (wrap64 (-wrap64 (bits .and .u64 (u : Int) 1))))) = _ ∧ _
  rw [unfold_bits hu]
  exact ⟨rfl, rfl⟩
theorem encB_1' : ∀ x : Int, ∀ u ∈ encB x, u.oneCell' = true := by intro x u hu; simp [encB] at hu; subst hu; rfl
/-- bytes of one's own memory, that are appended to: a full slice, or a row -/
def Outs (b : Nat) (w : World) (v : Value) (ps : List Int) : Prop :=
  SL encB w v ps ∧ (∀ k, v.ownBlock = some k → b ≤ k) ∧ ((FullS v ∧ 0 < ps.length) ∨ w.ownsRow b 5 1 v ps.length (ps.flatMap encB))
theorem Outs.gr {b : Nat} {w w' : World} {v : Value} {ps : List Int} (h : Outs b w v ps) (hg : Gr w w') : Outs b w' v ps :=
  ⟨h.1.gr hg, h.2.1, h.2.2.imp (fun h => h) (fun h => hg.owns h (fun _ _ h => h))⟩
theorem Outs.row {b : Nat} {w : World} {v : Value} {ps : List Int} (h : w.ownsRow b 5 1 v ps.length (ps.flatMap encB)) : Outs b w v ps :=
  ⟨SL.of_own (enc := encB) h rfl, fun k hk => (h.lt k hk).1, Or.inr h⟩
theorem flatB_len (ps : List Int) : (ps.flatMap encB).length = ps.length := by rw [len_flatMap encB 1 (fun _ => rfl)]; omega
theorem wpList_outs {ops : Array Oper} {rest : List Oper} {o : Oper} {a : Act} {Q : Exit → Act → World → Prop} (hgd : o.guard = none) (s x : Operand) (t : TypeId) (ht : Try.prog.underlying t = some (.slice 5))
    (ho : o.op = .call { callee := .builtin .append, args := #[s, x], argTypes := #[t, t] })
    {wB w : World} (v sv : Value) (ps xs : List Int) (hsv : a.eval s = v) (hO : Outs wB.heap.size w v ps) (hG : Gr wB w) (hxv : a.eval x = sv) (hs : SL encB w sv xs) (h0 : 0 < xs.length) (hb : ps.length + xs.length ≤ 1048576)
    (K : ∀ v' w', Gr wB w' → Outs wB.heap.size w' v' (ps ++ xs) → (∀ (f : Nat) (tv : Value) (ys : List Int), SL encB w tv ys → (∀ k, tv.ownBlock = some k → k < wB.heap.size) → SL encB w' tv ys) → wpList Try.prog ops Q rest (a.put o.dst v') w') : wpList Try.prog ops Q (o :: rest) a w := by
  obtain ⟨i0, hi0, hz0, hz1, hz2⟩ := info_parts info_u8
  rcases hO.2.2 with ⟨⟨Av, nv, rfl⟩, hp0⟩ | hrow
  · obtain ⟨A', cap', he, hc', hr'⟩ := hO.1
    obtain ⟨b', off', hA', _, hcell'⟩ := hr' hp0
    injection he with e1 e2 e3
    subst e1 e2
    subst hA'
    obtain ⟨A, cap, rfl, hc, hr⟩ := hs
    obtain ⟨b, off, rfl, _, hcell⟩ := hr h0
    refine wpList_append_grows w hgd s x t ho 5 i0 (.int .u8 0) 1 1 ht hi0 hz0 hz1 hz2 rfl (by decide) (some ⟨b', off', none⟩) ps.length ps.length (ps.flatMap encB) hsv (by intro h; cases h) (by rw [flatB_len]; omega)
      (by intro q hq j u hu; cases hq; rw [addr_add]; exact hcell' j u hu) ⟨b, off, none⟩ xs.length cap (xs.flatMap encB) hxv (by rw [flatB_len]; omega) (by intro j u hu; rw [addr_add]; exact hcell j u hu)
      (fun u hu => by obtain ⟨x, _, hx⟩ := List.mem_flatMap.1 hu; exact encB_1' x u hx) (by omega) (by unfold maxLen; omega) (by omega) ?_
    intro v' w' h1 h2
    have hgr : Gr w w' := (Fr.refl w NoneS).grown h2 (by intro k hk; cases hk)
    refine K v' w' (hG.trans hgr (fun _ _ h => h)) (Outs.row ?_) (fun f tv ys h _ => h.gr hgr)
    rw [List.length_append, List.flatMap_append]
    exact own_base h1 hG.size
  · refine wpList_append_sl w encB hgd s x t ho wB.heap.size 5 i0 (.int .u8 0) 1 1 ht hi0 hz0 hz1 hz2 rfl (by decide) v ps.length _ hsv hrow sv xs hxv hs (fun _ => rfl) encB_1' (by unfold maxLen; omega) (by omega) hG.size ?_
    intro v' w' h1 h2 h3
    refine K v' w' (gr_keep' hG hrow h2) (Outs.row ?_) (fun f tv ys h hk => h.fr h2 (fun k hk' he => by have := hk k hk'; have := (hrow.lt k he).1; omega))
    rw [List.length_append, List.flatMap_append]
    exact h1
theorem deltas_snoc : ∀ (l : List Int) (was x : Int), deltas was (l ++ [x]) = deltas was l ++ putL (foldN (x - l.getLastD was))
  | [], was, x => by simp [deltas]
  | y :: l, was, x => by
    simp only [List.cons_append, deltas]
    rw [deltas_snoc l y x, List.append_assoc, List.getLastD_cons]
theorem deltas_len : ∀ (l : List Int) (was : Int), (deltas was l).length ≤ 10 * l.length
  | [], _ => by simp [deltas]
  | x :: l, was => by
    simp only [deltas, List.length_append, List.length_cons]
    have := putL_len (foldN (x - was))
    have := deltas_len l x
    omega
theorem putL_pos (n : Nat) : 0 < (putL n).length := putN_pos 9 n
set_option maxRecDepth 20000 in
set_option maxHeartbeats 4000000 in
theorem packPut_any {w : World} {v : Value} {l : List Int} (hs : SL encI w v l) (hl : l.length ≤ 1048576) :
    Calls Try.prog 30 #[v] w fun e w' => ∃ tv, e = .returned (.tuple #[tv, .int .i64 (packE l).2]) ∧ SL encB w' tv (packE l).1 ∧ (∀ k, tv.ownBlock = some k → w.heap.size ≤ k) ∧ Gr w w' := by
  have HS := Lib.hid hs
  obtain ⟨A, cap, rfl⟩ := SL.form hs
  obtain ⟨P, hP⟩ : ∃ P, packE l = P := ⟨_, rfl⟩
  rw [hP]
  have HP := Lib.hid hP
  have hli : (l.length : Int) ≤ 1048576 := by omega
  clear hs hP
  by_cases h65 : 65536 < l.length
  · have h65i : (65536 : Int) < (l.length : Int) := by omega
    have Hp := Lib.hid (show P = ([], 3) by rw [← HP.out]; unfold packE; rw [if_pos h65])
    clear h65 HP
    go_enter Try.func30, Try.ntmps30
    go_wp2_with fail
    go_ret2
    rw [Hp.out]
    exact ⟨_, rfl, SL.nil _, fun k hk => by simp [Value.ownBlock] at hk, Fr.refl _ _⟩
  have h65i : ¬ (65536 : Int) < (l.length : Int) := by omega
  have H65 := Lib.hid h65
  have hwl : IntKind.u64.wrap (l.length : Int) = (l.length : Int) := by show (l.length : Int) % 18446744073709551616 = _; omega
  have HPl := Lib.hid (fun (n : Nat) (hn : n < 2 ^ 64) wx => Put_full n hn wx)
  have h264 : (2 : Nat) ^ 64 = 18446744073709551616 := by decide
  have HPn := Lib.hid (HPl.out l.length (by omega) w)
  clear h65 h264
  go_enter Try.func30, Try.ntmps30
  go_upto_region 5 with (go_at_call 32; refine HPn.out.mono ?_; rintro e w2 ⟨tv, rfl, hs, hk, hg, hA⟩; have HO2 := Lib.hid (show Outs w.heap.size w2 tv (putL l.length) from ⟨hs, hk, Or.inl ⟨hA, putL_pos _⟩⟩); have HG2 := Lib.hid hg; clear hs hk hg hA)
  have H264 := Lib.hid (show (2 : Nat) ^ 64 = 18446744073709551616 by decide)
  go_wp2_with fail
  go_loopg [2, 3, 4, 5, 17] (l.length + 1) (fun m s2 s3 s4 s5 s17 wr => ∃ (k : Nat) (va : Value) (was : Int), s2 = .slice none 0 0 ∧ s3 = .int .i64 0 ∧ va = s4 ∧ s5 = .int .i64 was ∧ s17 = .int .i64 k ∧ Hid (k ≤ l.length ∧ l.length - k < m ∧ (∀ x ∈ l.take k, badT x = false) ∧ was = (l.take k).getLastD 0 ∧ 0 ≤ was ∧ was ≤ 1048575) ∧ Hid (Outs w.heap.size wr va (putL l.length ++ deltas 0 (l.take k))) ∧ Hid (Gr w wr))
  case atStart => exact ⟨0, tv, 0, rfl, rfl, rfl, rfl, rfl, ⟨Nat.zero_le _, by omega, fun x hx => by simp at hx, rfl, by omega, by omega⟩, Lib.hid (by simpa [deltas] using HO2.out), HG2.out⟩
  case round =>
    obtain ⟨k, va, was, rfl, rfl, rfl, rfl, rfl, HK, HO, HG⟩ := hrel
    by_cases hk : k < l.length
    · obtain ⟨ba, oa, rfl, hba, hcell⟩ := (HS.out.gr HG.out).at_ (s := 1) (fun _ => rfl) rfl hk
      have d0 := hcell 0 (by omega)
      simp [encI] at d0
      have hki : (k : Int) < (l.length : Int) := by omega
      have Hk := Lib.hid hk
      have Hmem := Lib.hid (List.getElem_mem hk)
      have Htk := Lib.hid (List.take_succ_eq_append_getElem hk)
      generalize l[k]'hk = x at d0 Hmem Htk
      clear hcell hba hk
      by_cases hb : badT x = true
      · have Hp := Lib.hid (show P = ([], 2) by rw [← HP.out]; unfold packE; rw [if_neg H65.out, if_pos (List.any_eq_true.2 ⟨x, Hmem.out, hb⟩)])
        unfold badT at hb
        by_cases h1 : x < 0
        · have h1' : decide (x < 0) = true := decide_eq_true h1
          clear hb h1
          go_wp2_with fail
          go_ret2
          rw [Hp.out]
          exact ⟨_, rfl, SL.nil _, fun k hk => by simp [Value.ownBlock] at hk, HG.out⟩
        · have h1' : decide (x < 0) = false := decide_eq_false h1
          rw [h1', Bool.false_or] at hb
          clear h1
          go_wp2_with fail
          go_ret2
          rw [Hp.out]
          exact ⟨_, rfl, SL.nil _, fun k hk => by simp [Value.ownBlock] at hk, HG.out⟩
      · have Hb := Lib.hid (show badT x = false by simpa using hb)
        have Hx := Lib.hid (badT_no Hb.out)
        have h1' : decide (x < 0) = false := decide_eq_false (by have := Hx.out; omega)
        have h2' : decide (1048575 < x) = false := decide_eq_false (by have := Hx.out; omega)
        have hsub : IntKind.i64.wrap (x - was) = x - was := IntWalk.i64_in _ ⟨by have := Hx.out; have := HK.out; omega, by have := Hx.out; have := HK.out; omega⟩
        have HF := Lib.hid (fun wx => Fold_any (x - was) (by have := Hx.out; have := HK.out; omega) wx)
        have HPf := Lib.hid (fun wx => HPl.out (foldN (x - was)) (foldN_lt (by have := Hx.out; have := HK.out; omega)) wx)
        have Hsn := Lib.hid (show putL l.length ++ deltas 0 (l.take (k + 1)) = (putL l.length ++ deltas 0 (l.take k)) ++ putL (foldN (x - was)) by
          rw [Htk.out, deltas_snoc, ← HK.out.2.2.2.1, List.append_assoc])
        have Hln := Lib.hid (show (putL l.length ++ deltas 0 (l.take k)).length + (putL (foldN (x - was))).length ≤ 1048576 by
          have h1 := putL_len l.length
          have h2 := deltas_len (l.take k) 0
          have h3 := putL_len (foldN (x - was))
          have h4 : (l.take k).length ≤ l.length := by rw [List.length_take]; omega
          have := H65.out
          rw [List.length_append]; omega)
        clear hb
        go_upto_region 11 with (first
          | (go_at_call 50; refine (HF.out _).mono ?_; rintro e w3 ⟨rfl, rfl⟩)
          | (go_at_call 32; refine (HPf.out _).mono ?_; rintro e w4 ⟨t4, rfl, hs4, hk4, hg4, hA4⟩; have HT4 := Lib.hid hs4; have HG4 := Lib.hid hg4; clear hs4 hk4 hg4 hA4)
          | (at_builtin
             refine wpList_outs rfl _ _ 28 Try.underlying28 rfl (wB := w) va t4 _ _ rfl (HO.out.gr HG4.out) (HG.out.trans HG4.out (fun _ _ h => h)) rfl HT4.out (putL_pos _) Hln.out ?_
             intro v5 w5 hg5 ho5 hf5
             have HO5 := Lib.hid ho5
             have HG5 := Lib.hid hg5
             clear hg5 ho5 hf5))
        go_wp2_with fail
        go_roundg (gk - 1)
        case measure => have := HK.out; have := Hk.out; omega
        case rel =>
          refine ⟨k + 1, v5, x, rfl, rfl, rfl, rfl, by go_num, ⟨Hk.out, by have := HK.out; have := Hk.out; omega, ?_, ?_, Hx.out.1, Hx.out.2⟩, ?_, HG5.out⟩
          · intro y hy
            rw [Htk.out] at hy
            rcases List.mem_append.1 hy with h | h
            · exact HK.out.2.2.1 y h
            · simp at h; rw [h]; exact Hb.out
          · rw [Htk.out]; simp
          · rw [Hsn.out]; exact HO5.out
    · have Hk := Lib.hid (show k = l.length by have := HK.out; omega)
      have hki : decide ((k : Int) < (l.length : Int)) = false := decide_eq_false (by omega)
      have Hp := Lib.hid (show P = (putL l.length ++ deltas 0 (l.take k), 0) by
        have h := HK.out.2.2.1
        rw [Hk.out, List.take_of_length_le (Nat.le_refl _)] at h ⊢
        rw [← HP.out]
        exact packE_of (by have := H65.out; omega) h)
      go_wp2_with fail
      go_ret2
      rw [Hp.out]
      exact ⟨va, rfl, HO.out.1, HO.out.2.1, HG.out⟩
end Rec
end Go.Proofs.Ytobedpohoellkaa
