/- model: bytes.Clone, slices.Clone of pieces, bytes.Equal, slices.Equal of pieces, deed.May and Changes. -/
import Derived.Test.YtlodbhlidgepfaaMPl
import Derived.Test.YtlodbhlidgepfaaFvocq
import Derived.Laws.StructEq
set_option linter.unusedVariables false
set_option linter.unusedSimpArgs false
namespace Go.Proofs.Ytlodbhlidgepfaa
open Go.RowKit
open Voc Leb Bpe
namespace Mod
theorem encB_1' : ∀ x : Int, ∀ u ∈ encB x, u.oneCell' = true := by intro x u hu; simp [encB] at hu; subst hu; rfl
theorem wpList_ob {ops : Array Oper} {rest : List Oper} {o : Oper} {a : Act} {Q : Exit → Act → World → Prop} (hgd : o.guard = none) (s x : Operand) (t : TypeId) (ht : Try.prog.underlying t = some (.slice 5))
    (ho : o.op = .call { callee := .builtin .append, args := #[s, x], argTypes := #[t, t] })
    {wB w : World} (v sv : Value) (ps xs : List Int) (hsv : a.eval s = v) (hO : OB w wB.heap.size v ps) (hG : Gr wB w) (hxv : a.eval x = sv) (hs : SL encB w sv xs) (hb : ps.length + xs.length ≤ 4194304)
    (K : ∀ v' w', Gr wB w' → OB w' wB.heap.size v' (ps ++ xs) → Fr w w' (fun k => v.ownBlock = some k) → wpList Try.prog ops Q rest (a.put o.dst v') w') : wpList Try.prog ops Q (o :: rest) a w := by
  obtain ⟨i0, hi0, hz0, hz1, hz2⟩ := info_parts info_u8
  refine wpList_append_st w encB hgd s x t ho wB.heap.size 5 i0 (.int .u8 0) 1 1 ht hi0 hz0 hz1 hz2 rfl (by decide) v ps.length _ hsv hO.own sv xs hxv hs (fun _ => rfl) encB_1' (by unfold maxLen; omega) (by omega) hG.size ?_
  intro v' w' h1 h2 h3 h4
  refine K v' w' (gr_keep' hG hO.own h2) ⟨?_, h4 IsB (fun u hu => by simp [Value.cells] at hu; subst hu; exact ⟨0, rfl⟩) (fun u hu => encB_isB _ u hu) hO.spare⟩ h2
  rw [List.length_append, List.flatMap_append]
  exact h1
theorem ob_empty (w : World) : OB (w.alloc (.cells #[] 5)) w.heap.size (.slice (some ⟨w.heap.size, 0, none⟩) 0 0) [] :=
  ⟨⟨rfl, Or.inr ⟨w.heap.size, 0, #[], rfl, Nat.le_refl _, Blk.new w 5 _, Nat.le_refl _, by unfold maxLen; decide, rfl, rfl⟩⟩, fun g cs t fr hg hc u hu => by
    have : w.heap.size = g := by simpa [Value.ownBlock] using hg
    subst this
    rw [heap_alloc_new] at hc
    injection hc with hc
    injection hc with hc
    subst hc
    simp at hu⟩
theorem equalIn_nilS {t e : TypeId} (ht : Try.prog.underlying t = some (.slice e)) (w : World) (d : Nat) (a : Option Addr) (l c : Nat) : (Op.equalIn (d + 1) t (.slice a l c) (.slice none 0 0)).run Try.prog w = .ok a.isNone w := by
  cases a <;> simp [Op.equalIn, run_underlying ht]
theorem eql_nilB (w : World) (a : Option Addr) (l c : Nat) : (binOp .eql 32 (.slice a l c) (.slice none 0 0)).run Try.prog w = .ok (.bool a.isNone) w := by
  simp only [binOp]
  simp [Op.equal, Op.maxDepth, equalIn_nilS Try.underlying32 w 9999 a l c]
set_option maxRecDepth 20000 in
set_option maxHeartbeats 1600000 in
theorem cloneB_any {w : World} {v : Value} {xs : List Int} (hs : SL encB w v xs) (hl : xs.length ≤ 4194304) :
    Calls Try.prog 25 #[v] w fun e w' => ∃ r, e = .returned r ∧ OB w' w.heap.size r xs ∧ Gr w w' := by
  have HS := Lib.hid hs
  obtain ⟨A, cap, rfl, _, hr⟩ := hs
  have Hl := Lib.hid hl
  have hq := eql_nilB
  cases A with
  | none =>
    have hx : xs = [] := by
      cases xs with
      | nil => rfl
      | cons x r => obtain ⟨b, off, h, _⟩ := hr (by simp); cases h
    subst hx
    clear hr hl
    go_enter Try.func25, Try.ntmps25
    go_wp2
    go_ret
    exact ⟨_, rfl, OB.nil _ _, Fr.refl _ _⟩
  | some ad =>
    clear hr hl
    go_enter Try.func25, Try.ntmps25
    go_wp2_with (
      at_builtin
      refine wpList_ob rfl _ _ 32 Try.underlying32 rfl (wB := w) (.slice (some ⟨w.heap.size, 0, none⟩) 0 0) (.slice (some ad) xs.length cap) [] xs rfl (ob_empty w) ((Fr.refl w NoneS).alloc _) rfl (HS.out.gr ((Fr.refl w NoneS).alloc _)) (by have := Hl.out; simp; omega) ?_
      intro v2 w2 hg ho hf
      have HG := Lib.hid hg
      have HO := Lib.hid ho
      clear hg ho hf)
    go_ret
    exact ⟨v2, rfl, by simpa using HO.out, HG.out⟩
theorem eql_nilP (w : World) (a : Option Addr) (l c : Nat) : (binOp .eql 25 (.slice a l c) (.slice none 0 0)).run Try.prog w = .ok (.bool a.isNone) w := by
  simp only [binOp]
  simp [Op.equal, Op.maxDepth, equalIn_nilS Try.underlying25 w 9999 a l c]
theorem encP_oneC : ∀ x : Pc, ∀ u ∈ encP x, u.oneCell' = true := by intro x u hu; simp [encP] at hu; rcases hu with rfl | rfl | rfl | rfl | rfl <;> rfl
set_option maxRecDepth 20000 in
set_option maxHeartbeats 1600000 in
theorem cloneP_any {w : World} {v : Value} {xs : List Pc} (hs : SL encP w v xs) (hl : xs.length ≤ 1048576) :
    Calls Try.prog 39 #[v] w fun e w' => ∃ r, e = .returned r ∧ w'.ownsRow w.heap.size TPc 5 r xs.length (xs.flatMap encP) ∧ Gr w w' := by
  have HS := Lib.hid hs
  obtain ⟨A, cap, rfl, _, hr⟩ := hs
  have Hl := Lib.hid hl
  have hq := eql_nilP
  cases A with
  | none =>
    have hx : xs = [] := by
      cases xs with
      | nil => rfl
      | cons x r => obtain ⟨b, off, h, _⟩ := hr (by simp); cases h
    subst hx
    clear hr hl
    go_enter Try.func39, Try.ntmps39
    go_wp2
    go_ret
    exact ⟨_, rfl, World.ownsRow_nil _ _ _ _, Fr.refl _ _⟩
  | some ad =>
    clear hr hl
    obtain ⟨i0, hi0, hz0, hz1, hz2⟩ := info_parts info_pc
    have HE := Lib.hid (show (w.alloc (.cells #[] TPc)).ownsRow w.heap.size TPc 5 (.slice (some ⟨w.heap.size, 0, none⟩) 0 0) 0 [] from ⟨rfl, Or.inr ⟨w.heap.size, 0, #[], rfl, Nat.le_refl _, Blk.new w TPc _, Nat.le_refl _, by unfold maxLen; decide, rfl, rfl⟩⟩)
    go_enter Try.func39, Try.ntmps39
    go_wp2_with (
      at_builtin
      refine wpList_append_sl _ encP rfl _ _ 25 rfl w.heap.size TPc i0 (.agg #[.bool false, .int .u8 0, .int .i64 0, .int .i64 0, .int .u32 0]) 5 32 Try.underlying25 hi0 hz0 hz1 hz2 rfl (by omega) (.slice (some ⟨w.heap.size, 0, none⟩) 0 0) 0 [] rfl HE.out (.slice (some ad) xs.length cap) xs rfl (HS.out.gr ((Fr.refl w NoneS).alloc _)) (fun _ => rfl) encP_oneC (by have := Hl.out; unfold maxLen; omega) (by have := Hl.out; omega) (by simp) ?_
      intro v2 w2 ho hf hat
      have HG := Lib.hid (gr_keep' ((Fr.refl w NoneS).alloc _) HE.out hf)
      have HO := Lib.hid ho
      clear ho hf hat)
    go_ret
    exact ⟨v2, rfl, by simpa using HO.out, HG.out⟩
theorem run_str0 {w : World} (A : Option Addr) (cap : Nat) : (convert 32 9 (.slice A 0 cap)).run Try.prog w = .ok (.string (Vf.strB [])) w := by
  rw [run_convert_bytes_string w 32 9 5 A 0 cap Try.underlying32 Try.underlying5 Try.underlying9]
  have e0 : (⟨#[]⟩ : ByteArray) = ByteArray.empty := rfl
  cases A <;> simp [Conv.bytesToString, loadCells, loadCellsFrom, Vf.strB, e0]
theorem run_strAny {w : World} {v : Value} {bs : List Int} (hs : SL encB w v bs) (hb : Leb.Bs bs) : (convert 32 9 v).run Try.prog w = .ok (.string (Vf.strB bs)) w := by
  rcases Nat.eq_zero_or_pos bs.length with h | h
  · have : bs = [] := List.eq_nil_of_length_eq_zero h
    subst this
    obtain ⟨A, cap, rfl, _⟩ := hs
    exact run_str0 A cap
  · exact Vf.run_str hs hb h
set_option maxRecDepth 20000 in
set_option maxHeartbeats 1600000 in
theorem equalB_any {w : World} {va vb : Value} {xs ys : List Int} (ha : SL encB w va xs) (hb : SL encB w vb ys) (hx : Leb.Bs xs) (hy : Leb.Bs ys) :
    Calls Try.prog 31 #[va, vb] w fun e w' => e = .returned (.bool (decide (xs = ys))) ∧ Gr w w' := by
  have h1 := run_strAny ha hx
  have h2 := run_strAny hb hy
  have h3 := Vf.strB_eq hx hy _ rfl
  generalize Vf.strB xs = sx at h1 h3
  generalize Vf.strB ys = sy at h2 h3
  generalize decide (xs = ys) = R at h3 ⊢
  obtain ⟨A, ca, rfl, _⟩ := ha.len
  obtain ⟨B, cb, rfl, _⟩ := hb.len
  clear ha hb hx hy
  go_enter Try.func31, Try.ntmps31
  go_wp2
  go_ret
  exact ⟨rfl, Fr.refl _ _⟩
set_option maxRecDepth 20000 in
set_option maxHeartbeats 1600000 in
theorem equalP_any (va vb : Value) (xs ys : List Pc) (w : World) (ha : SL encP w va xs) (hb : SL encP w vb ys) (hx : xs.length ≤ 4194304) :
    Calls Try.prog 28 #[va, vb] w fun e w' => e = .returned (.bool (decide (xs = ys))) ∧ Gr w w' := by
  have HA := Lib.hid ha
  have HB := Lib.hid hb
  obtain ⟨A, ca, rfl, _⟩ := ha.len
  obtain ⟨B, cb, rfl, _⟩ := hb.len
  obtain ⟨R, hR⟩ : ∃ R, decide (xs = ys) = R := ⟨_, rfl⟩
  rw [hR]
  have HR := Lib.hid hR
  clear ha hb hR
  have hx' : (xs.length : Int) ≤ 4194304 := by omega
  by_cases hl : xs.length = ys.length
  case neg =>
    have hl1 : ((xs.length : Int) != (ys.length : Int)) = true := by rw [bne_iff_ne]; omega
    have Hf := Lib.hid (show R = false by rw [← HR.out]; exact decide_eq_false (fun h => hl (by rw [h])))
    clear hl
    go_enter Try.func28, Try.ntmps28
    go_wp2_with fail
    go_ret
    rw [Hf.out]
    exact ⟨rfl, Fr.refl _ _⟩
  have hl1 : ((xs.length : Int) != (ys.length : Int)) = false := by rw [bne_eq_false_iff_eq]; omega
  have Hl := Lib.hid hl
  clear hl
  go_enter Try.func28, Try.ntmps28
  go_wp2_with fail
  go_loopg [4, 13] (xs.length + 1) (fun m s4 s13 wr => ∃ k : Nat, s4 = .bool false ∧ s13 = .int .i64 k ∧ Hid (k ≤ xs.length ∧ xs.length - k < m ∧ xs.take k = ys.take k) ∧ Hid (Gr w wr))
  case atStart => exact ⟨0, rfl, rfl, ⟨Nat.zero_le _, by omega, rfl⟩, Fr.refl _ _⟩
  case round =>
    obtain ⟨k, rfl, rfl, HK, HD⟩ := hrel
    by_cases hk : k < xs.length
    · have hk2 : k < ys.length := by have := Hl.out; omega
      obtain ⟨b1, o1, rfl, hb1, hc1⟩ := (HA.out.gr HD.out).at_ (s := 5) (fun _ => rfl) rfl hk
      obtain ⟨b2, o2, rfl, hb2, hc2⟩ := (HB.out.gr HD.out).at_ (s := 5) (fun _ => rfl) rfl hk2
      have x0 := hc1 0 (by omega)
      have x1 := hc1 1 (by omega)
      have x2 := hc1 2 (by omega)
      have x3 := hc1 3 (by omega)
      have x4 := hc1 4 (by omega)
      have y0 := hc2 0 (by omega)
      have y1 := hc2 1 (by omega)
      have y2 := hc2 2 (by omega)
      have y3 := hc2 3 (by omega)
      have y4 := hc2 4 (by omega)
      clear hc1 hc2
      have hki : (k : Int) < (xs.length : Int) := by omega
      have hki2 : (k : Int) < (ys.length : Int) := by omega
      have Htx := Lib.hid (List.take_succ_eq_append_getElem hk)
      have Hty := Lib.hid (List.take_succ_eq_append_getElem hk2)
      have Hne := Lib.hid (show xs[k]'hk ≠ ys[k]'hk2 → R = false from fun h => by
        rw [← HR.out]
        refine decide_eq_false (fun he => h ?_)
        subst he
        rfl)
      generalize xs[k]'hk = x at x0 x1 x2 x3 x4 Htx Hne
      generalize ys[k]'hk2 = y at y0 y1 y2 y3 y4 Hty Hne
      obtain ⟨j1, p1, l1, r1, k1⟩ := x
      obtain ⟨j2, p2, l2, r2, k2⟩ := y
      simp [encP] at x0 x1 x2 x3 x4 y0 y1 y2 y3 y4
      rw [← Nat.add_assoc] at x1 x2 x3 x4 y1 y2 y3 y4
      have Hk := Lib.hid hk
      clear hb1 hb2 hk hk2
      have hneq := fun w => neq_pc j1 j2 p1 l1 r1 k1 p2 l2 r2 k2 w
      by_cases hxy : (⟨j1, p1, l1, r1, k1⟩ : Pc) = ⟨j2, p2, l2, r2, k2⟩
      · rw [decide_eq_false (by simp [hxy])] at hneq
        have Hxy := Lib.hid hxy
        clear hxy
        go_wp2_with fail
        go_quiet (fail)
        go_wp2_with fail
        go_roundg (gk - 1)
        case measure => have := HK.out; omega
        case rel => exact ⟨k + 1, rfl, by go_num, ⟨Hk.out, by have := HK.out; have := Hk.out; omega, by rw [Htx.out, Hty.out, HK.out.2.2, Hxy.out]⟩, HD.out.drewN _⟩
      · rw [decide_eq_true hxy] at hneq
        have Hf := Lib.hid (Hne.out hxy)
        clear hxy
        go_wp2_with fail
        go_quiet (fail)
        go_wp2_with fail
        go_ret
        rw [Hf.out]
        exact ⟨rfl, HD.out.drewN _⟩
    · have hkk : decide ((k : Int) < (xs.length : Int)) = false := decide_eq_false (by omega)
      have Ht := Lib.hid (show R = true by
        rw [← HR.out]
        refine decide_eq_true ?_
        have h1 := HK.out.2.2
        rw [List.take_of_length_le (by omega), List.take_of_length_le (by have := Hl.out; omega)] at h1
        exact h1)
      go_wp2_with fail
      go_ret
      rw [Ht.out]
      exact ⟨rfl, HD.out⟩
abbrev TDd : TypeId := 34
def ddA (d : Dd) (bv : Value) : Array Value := #[.int .u8 d.k, .int .u64 d.id, .int .i64 d.n, bv]
set_option maxRecDepth 20000 in
set_option maxHeartbeats 4000000 in
theorem dmay_any {w : World} {bv : Value} (d : Dd) (HS : SL encB w bv d.b) (hl : d.b.length ≤ 1048576) :
    Calls Try.prog 20 #[.agg (ddA d bv)] w fun e w' => e = .returned (.bool (dmayE d)) ∧ Gr w w' := by
  obtain ⟨A, cap, rfl, _⟩ := HS.len
  obtain ⟨k, id, n, b⟩ := d
  have HG := Lib.hid ((Fr.refl w NoneS).alloc (.cells (ddA ⟨k, id, n, b⟩ (.slice A b.length cap)) TDd))
  have HB := Lib.hid (Blk.new w TDd (ddA ⟨k, id, n, b⟩ (.slice A b.length cap)))
  obtain ⟨R, hR⟩ : ∃ R, dmayE ⟨k, id, n, b⟩ = R := ⟨_, rfl⟩
  rw [hR]
  unfold dmayE at hR
  simp only at hR hl
  clear HS
  unfold ddA
  go_enter Try.func20, Try.ntmps20
  go_upto_region 1 with (fail)
  change Code.wp _ _ _ _ (w.alloc (.cells (ddA ⟨k, id, n, b⟩ (.slice A b.length cap)) TDd))
  generalize w.heap.size = q at HB ⊢
  generalize hx : World.alloc w _ = w1 at HG HB ⊢
  clear hx
  have c0 : w1.cell? ⟨q, 0, none⟩ = some (.int .u8 k) := by rw [HB.out.cell]; rfl
  have c1 : w1.cell? ⟨q, 1, none⟩ = some (.int .u64 id) := by rw [HB.out.cell]; rfl
  have c2 : w1.cell? ⟨q, 2, none⟩ = some (.int .i64 n) := by rw [HB.out.cell]; rfl
  have c3 : w1.cell? ⟨q, 3, none⟩ = some (.slice A b.length cap) := by rw [HB.out.cell]; rfl
  have hl' : (b.length : Int) ≤ 1048576 := by omega
  by_cases hA : k = 6 ∨ k = 7 ∨ k = 8
  · rw [if_pos hA] at hR
    by_cases hid : id = 0
    · subst hid
      by_cases hn : n = 0
      · subst hn
        by_cases hb : b.length = 0
        · have Hr := Lib.hid (show R = true by rw [← hR]; exact decide_eq_true ⟨rfl, rfl, hb⟩)
          have hb1 : ((b.length : Int) == 0) = true := by rw [hb]; rfl
          clear hR hb
          rcases hA with rfl | rfl | rfl
          all_goals
            go_wp2_with fail
            go_ret
            rw [Hr.out]
            exact ⟨rfl, HG.out⟩
        · have Hr := Lib.hid (show R = false by rw [← hR]; exact decide_eq_false (fun h => hb h.2.2))
          have hb1 : ((b.length : Int) == 0) = false := by rw [beq_eq_false_iff_ne]; omega
          clear hR hb
          rcases hA with rfl | rfl | rfl
          all_goals
            go_wp2_with fail
            go_ret
            rw [Hr.out]
            exact ⟨rfl, HG.out⟩
      · have Hr := Lib.hid (show R = false by rw [← hR]; exact decide_eq_false (fun h => hn h.2.1))
        have hn1 : (n != 0) = true := bne_iff_ne.2 hn
        clear hR hn
        rcases hA with rfl | rfl | rfl
        all_goals
          go_wp2_with fail
          go_ret
          rw [Hr.out]
          exact ⟨rfl, HG.out⟩
    · have Hr := Lib.hid (show R = false by rw [← hR]; exact decide_eq_false (fun h => hid h.1))
      have hn1 : (id != 0) = true := bne_iff_ne.2 hid
      clear hR hid
      rcases hA with rfl | rfl | rfl
      all_goals
        go_wp2_with fail
        go_ret
        rw [Hr.out]
        exact ⟨rfl, HG.out⟩
  rw [if_neg hA] at hR
  by_cases hB : k = 2 ∨ k = 3 ∨ k = 4
  · rw [if_pos hB] at hR
    clear hA
    by_cases hn : n = 0
    · subst hn
      by_cases hb : b.length = 0
      · have Hr := Lib.hid (show R = true by rw [← hR]; exact decide_eq_true ⟨rfl, hb⟩)
        have hb1 : ((b.length : Int) == 0) = true := by rw [hb]; rfl
        clear hR hb
        rcases hB with rfl | rfl | rfl
        all_goals
          go_wp2_with fail
          go_ret
          rw [Hr.out]
          exact ⟨rfl, HG.out⟩
      · have Hr := Lib.hid (show R = false by rw [← hR]; exact decide_eq_false (fun h => hb h.2))
        have hb1 : ((b.length : Int) == 0) = false := by rw [beq_eq_false_iff_ne]; omega
        clear hR hb
        rcases hB with rfl | rfl | rfl
        all_goals
          go_wp2_with fail
          go_ret
          rw [Hr.out]
          exact ⟨rfl, HG.out⟩
    · have Hr := Lib.hid (show R = false by rw [← hR]; exact decide_eq_false (fun h => hn h.1))
      have hn1 : (n != 0) = true := bne_iff_ne.2 hn
      clear hR hn
      rcases hB with rfl | rfl | rfl
      all_goals
        go_wp2_with fail
        go_ret
        rw [Hr.out]
        exact ⟨rfl, HG.out⟩
  rw [if_neg hB] at hR
  by_cases hC : k = 5
  · subst hC
    rw [if_pos rfl] at hR
    clear hA hB
    by_cases hb : b.length = 0
    · have hb1 : ((b.length : Int) == 0) = true := by rw [hb]; rfl
      by_cases h0 : 0 ≤ n
      · by_cases h6 : n ≤ 65536
        · have Hr := Lib.hid (show R = true by rw [← hR]; exact decide_eq_true ⟨hb, h0, h6⟩)
          clear hR hb
          go_wp2_with fail
          go_ret
          rw [Hr.out]
          exact ⟨rfl, HG.out⟩
        · have Hr := Lib.hid (show R = false by rw [← hR]; exact decide_eq_false (fun h => h6 h.2.2))
          clear hR hb
          go_wp2_with fail
          go_ret
          rw [Hr.out]
          exact ⟨rfl, HG.out⟩
      · have Hr := Lib.hid (show R = false by rw [← hR]; exact decide_eq_false (fun h => h0 h.2.1))
        clear hR hb
        go_wp2_with fail
        go_ret
        rw [Hr.out]
        exact ⟨rfl, HG.out⟩
    · have Hr := Lib.hid (show R = false by rw [← hR]; exact decide_eq_false (fun h => hb h.1))
      have hb1 : ((b.length : Int) == 0) = false := by rw [beq_eq_false_iff_ne]; omega
      clear hR hb
      go_wp2_with fail
      go_ret
      rw [Hr.out]
      exact ⟨rfl, HG.out⟩
  rw [if_neg hC] at hR
  by_cases hD : k = 1 ∨ k = 9
  · rw [if_pos hD] at hR
    clear hA hB hC
    by_cases hid : id = 0
    · subst hid
      by_cases hn : n = 0
      · subst hn
        have Hr := Lib.hid (show R = true by rw [← hR]; exact decide_eq_true ⟨rfl, rfl⟩)
        clear hR
        rcases hD with rfl | rfl
        all_goals
          go_wp2_with fail
          go_ret
          rw [Hr.out]
          exact ⟨rfl, HG.out⟩
      · have Hr := Lib.hid (show R = false by rw [← hR]; exact decide_eq_false (fun h => hn h.2))
        have hn1 : (n == 0) = false := beq_eq_false_iff_ne.2 hn
        clear hR hn
        rcases hD with rfl | rfl
        all_goals
          go_wp2_with fail
          go_ret
          rw [Hr.out]
          exact ⟨rfl, HG.out⟩
    · have Hr := Lib.hid (show R = false by rw [← hR]; exact decide_eq_false (fun h => hid h.1))
      have hn1 : (id == 0) = false := beq_eq_false_iff_ne.2 hid
      clear hR hid
      rcases hD with rfl | rfl
      all_goals
        go_wp2_with fail
        go_ret
        rw [Hr.out]
        exact ⟨rfl, HG.out⟩
  rw [if_neg hD] at hR
  have Hr := Lib.hid hR.symm
  have e6 : (k == 6) = false := beq_eq_false_iff_ne.2 (by omega)
  have e7 : (k == 7) = false := beq_eq_false_iff_ne.2 (by omega)
  have e8 : (k == 8) = false := beq_eq_false_iff_ne.2 (by omega)
  have e2 : (k == 2) = false := beq_eq_false_iff_ne.2 (by omega)
  have e3 : (k == 3) = false := beq_eq_false_iff_ne.2 (by omega)
  have e4 : (k == 4) = false := beq_eq_false_iff_ne.2 (by omega)
  have e5 : (k == 5) = false := beq_eq_false_iff_ne.2 (by omega)
  have e1 : (k == 1) = false := beq_eq_false_iff_ne.2 (by omega)
  have e9 : (k == 9) = false := beq_eq_false_iff_ne.2 (by omega)
  clear hA hB hC hD hR
  go_wp2_with fail
  go_ret
  rw [Hr.out]
  exact ⟨rfl, HG.out⟩
end Mod
end Go.Proofs.Ytlodbhlidgepfaa
