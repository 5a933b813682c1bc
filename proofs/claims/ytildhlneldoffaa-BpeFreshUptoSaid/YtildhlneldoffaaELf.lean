/- The reference's Vocab: the same pieces? The reference's CopyInts. The reference's Spoil. law 10: BpeFresh. -/
import Derived.Test.YtildhlneldoffaaVPe
import Derived.Laws.StructEq
import Derived.Test.YtildhlneldoffaaLib
import Derived.Test.YtildhlneldoffaaELs
import Derived.Test.YtildhlneldoffaaFvoc
import Derived.Test.YtildhlneldoffaaFwide
set_option linter.unusedVariables false
set_option linter.unusedSimpArgs false
namespace Go.Proofs.Ytildhlneldoffaa
open Go.RowKit
namespace Voc
theorem neq_pc (j j' : Bool) (b l r k b' l' r' k' : Int) (w : World) : (binOp .neq TPc (.agg #[.bool j, .int .u8 b, .int .i64 l, .int .i64 r, .int .u32 k]) (.agg #[.bool j', .int .u8 b', .int .i64 l', .int .i64 r', .int .u32 k'])).run Try.prog w = .ok (.bool (decide ((⟨j, b, l, r, k⟩ : Pc) ≠ ⟨j', b', l', r', k'⟩))) w := by
  rw [run_neq_struct]
  by_cases h0 : j = j'
  · subst h0
    by_cases h1 : b = b'
    · subst h1
      by_cases h2 : l = l'
      · subst h2
        by_cases h3 : r = r'
        · subst h3
          by_cases h4 : k = k'
          · subst h4
            simp [go_sem]
          · simp [go_sem, h4]
        · simp [go_sem, h3]
      · simp [go_sem, h2]
    · simp [go_sem, h1]
  · simp [go_sem, h0]
set_option maxRecDepth 20000 in
set_option maxHeartbeats 1600000 in
theorem vocab_any {w : World} {va vb : Value} {xs ys : List Pc} (ha : SL encP w va xs) (hb : SL encP w vb ys) (hx : xs.length ≤ 4194304) :
    Calls Try.prog 31 #[.agg #[va], .agg #[vb]] w fun e w' => e = .returned (.bool (decide (xs = ys))) ∧ Gr w w' := by
  have HA1 := Lib.hid ha
  have HB1 := Lib.hid hb
  obtain ⟨A, ca, rfl⟩ := SL.form ha
  obtain ⟨B, cb, rfl⟩ := SL.form hb
  clear ha hb
  have HW0 := Lib.hid ((Blk.new w 24 #[.slice A xs.length ca]).alloc (.cells #[.slice B ys.length cb] 24))
  have HW1 := Lib.hid (Blk.new (w.alloc (.cells #[.slice A xs.length ca] 24)) 24 #[.slice B ys.length cb])
  have HG0 := Lib.hid (((Fr.refl w NoneS).alloc (.cells #[.slice A xs.length ca] 24)).alloc (.cells #[.slice B ys.length cb] 24))
  have hsz : (w.alloc (.cells #[.slice A xs.length ca] 24)).heap.size = w.heap.size + 1 := by simp
  rw [hsz] at HW1
  clear hsz
  go_enter Try.func31, Try.ntmps31
  go_upto_region 1 with (fail)
  generalize World.alloc (World.alloc w _) _ = w1 at HW0 HW1 HG0 ⊢
  obtain ⟨q, hq⟩ : ∃ q, w.heap.size = q := ⟨_, rfl⟩
  rw [hq] at HW0 HW1 ⊢
  obtain ⟨g, hg⟩ : ∃ g, q + 1 = g := ⟨_, rfl⟩
  rw [hg] at HW1 ⊢
  clear hq hg
  have HA := Lib.hid (HA1.out.gr HG0.out)
  have HB := Lib.hid (HB1.out.gr HG0.out)
  have c0 : w1.cell? ⟨q, 0, none⟩ = some (.slice A xs.length ca) := by rw [HW0.out.cell]; rfl
  have c1 : w1.cell? ⟨g, 0, none⟩ = some (.slice B ys.length cb) := by rw [HW1.out.cell]; rfl
  by_cases hl : xs.length = ys.length
  · have hl1 : ((xs.length : Int) != (ys.length : Int)) = false := by rw [bne_eq_false_iff_eq]; omega
    have hx' : (xs.length : Int) ≤ 4194304 := by omega
    have Hl := Lib.hid hl
    clear hl
    go_wp2
    go_loopg [5] (xs.length + 1) (fun m s5 wr => ∃ k : Nat, s5 = .int .i64 k ∧ Hid (k ≤ xs.length ∧ xs.length - k < m) ∧ Hid (Dr w1 wr) ∧ Hid (xs.take k = ys.take k))
    case atStart => exact ⟨0, rfl, ⟨Nat.zero_le _, by omega⟩, Dr.refl _, by simp [Hid]⟩
    case round =>
      obtain ⟨k, rfl, HK, HD, HE⟩ := hrel
      have e0 : wr.cell? ⟨q, 0, none⟩ = some (.slice A xs.length ca) := by rw [(HW0.out.fr HD.out.gr (fun h => h)).cell]; rfl
      have e1 : wr.cell? ⟨g, 0, none⟩ = some (.slice B ys.length cb) := by rw [(HW1.out.fr HD.out.gr (fun h => h)).cell]; rfl
      by_cases hk : k < xs.length
      · have hk2 : k < ys.length := by have := Hl.out; omega
        obtain ⟨b1, o1, rfl, _, hc1⟩ := (HA.out.gr HD.out.gr).at_ (s := 5) (fun _ => rfl) rfl hk
        obtain ⟨b2, o2, rfl, _, hc2⟩ := (HB.out.gr HD.out.gr).at_ (s := 5) (fun _ => rfl) rfl hk2
        have E1 := Lib.hid (List.take_succ_eq_append_getElem hk)
        have E2 := Lib.hid (List.take_succ_eq_append_getElem hk2)
        have G1 := Lib.hid (List.getElem?_eq_getElem hk)
        have G2 := Lib.hid (List.getElem?_eq_getElem hk2)
        have x0 := hc1 0 (by omega)
        have x1 := hc1 1 (by omega)
        have x2 := hc1 2 (by omega)
        have x3 := hc1 3 (by omega)
        have x4 := hc1 4 (by omega)
        have y0 := hc2 0 (by omega)
        have y1 := hc2 1 (by omega)
        have y2 := hc2 2 (by omega)
        have y3 := hc2 3 (by omega)
        have y4 := hc2 4 (by omega)
        clear hc1 hc2
        generalize xs[k] = x at x0 x1 x2 x3 x4 E1 G1
        generalize ys[k] = y at y0 y1 y2 y3 y4 E2 G2
        obtain ⟨j1, p1, l1, r1, k1⟩ := x
        obtain ⟨j2, p2, l2, r2, k2⟩ := y
        simp [encP] at x0 x1 x2 x3 x4 y0 y1 y2 y3 y4
        rw [← Nat.add_assoc] at x1 x2 x3 x4 y1 y2 y3 y4
        have hki : (k : Int) < xs.length := by omega
        have hki2 : (k : Int) < ys.length := by omega
        have hneq := fun w => neq_pc j1 j2 p1 l1 r1 k1 p2 l2 r2 k2 w
        by_cases hxy : (⟨j1, p1, l1, r1, k1⟩ : Pc) = ⟨j2, p2, l2, r2, k2⟩
        · rw [decide_eq_false (by simp [hxy])] at hneq
          have Hxy := Lib.hid hxy
          clear hxy
          go_wp2_with fail
          go_quiet (fail)
          go_wp2_with fail
          go_roundg (gk - 1)
          case measure => have := HK.out; omega
          case rel => exact ⟨k + 1, by go_num, ⟨hk, by have := HK.out; omega⟩, HD.out.drewN _, show _ = _ by rw [E1.out, E2.out, HE.out, Hxy.out]⟩
        · rw [decide_eq_true hxy] at hneq
          have Hxy := Lib.hid hxy
          clear hxy
          go_wp2_with fail
          go_quiet (fail)
          go_wp2_with fail
          go_ret
          refine ⟨?_, HG0.out.trans (HD.out.drewN _).gr (fun _ _ h => h)⟩
          have : decide (xs = ys) = false := decide_eq_false (fun e => by
            subst e
            have := G1.out.symm.trans G2.out
            injection this with this
            exact Hxy.out this)
          rw [this]; rfl
      · have hkk : decide ((k : Int) < xs.length) = false := decide_eq_false (by omega)
        go_wp2_with fail
        go_ret
        refine ⟨?_, HG0.out.trans HD.out.gr (fun _ _ h => h)⟩
        have : decide (xs = ys) = true := decide_eq_true (by
          have h1 := HE.out
          rw [List.take_of_length_le (by omega), List.take_of_length_le (by have := Hl.out; omega)] at h1
          exact h1)
        rw [this]; rfl
  · have hl1 : ((xs.length : Int) != (ys.length : Int)) = true := by rw [bne_iff_ne]; omega
    have Hn := Lib.hid (show decide (xs = ys) = false from decide_eq_false (fun e => hl (by rw [e])))
    go_wp2
    go_ret
    refine ⟨?_, HG0.out⟩
    rw [Hn.out]; rfl
end Voc
end Go.Proofs.Ytildhlneldoffaa

namespace Go.Proofs.Ytildhlneldoffaa
open Go.RowKit
namespace Voc
theorem copyInts_any (v : Value) (xs : List Int) (w : World) (hs : SL encI w v xs) (hl : xs.length ≤ 4194304) :
    Calls Try.prog 28 #[v] w fun e w' => ∃ r, e = .returned r ∧ w'.ownsRow w.heap.size 3 1 r xs.length (xs.flatMap encI) ∧ Gr w w' := by
  obtain ⟨i0, hi0, hz0, hz1, hz2⟩ := info_parts info_int
  have HS := Lib.hid hs
  clear hs
  go_enter Try.func28, Try.ntmps28
  go_wp2_with (at_builtin; refine wpList_append_sl _ encI rfl (.tmp 4) (.tmp 5) 28 rfl w.heap.size 3 i0 (.int .i64 0) 1 8 Try.underlying28 hi0 hz0 hz1 hz2 rfl (by omega) (.slice none 0 0) 0 [] rfl (World.ownsRow_nil _ _ _ _) v xs rfl (by exact HS.out) (fun _ => rfl) (by intro x u hu; simp [encI] at hu; subst hu; rfl) (by unfold maxLen; omega) (by omega) (Nat.le_refl _) ?_
               intro v1 w2 ho hf hat
               have HO2 := Lib.hid ho
               have HG2 := Lib.hid (show Gr w w2 from hf.mono (fun i hi h => by simp [Value.ownBlock] at h))
               clear ho hf hat)
  go_ret
  refine ⟨_, rfl, ?_, HG2.out⟩
  have h := HO2.out
  rw [List.nil_append, Nat.zero_add] at h
  exact h

end Voc
end Go.Proofs.Ytildhlneldoffaa

namespace Go.Proofs.Ytildhlneldoffaa
open Go.RowKit
namespace Voc
set_option maxHeartbeats 1600000 in
theorem spoil_any (v : Value) (B n : Nat) (xs : List Value) (b : Int) (w : World) (ho : w.ownsRow B 5 1 v n xs) (hT : SpareT IsB w v) :
    Calls Try.prog 30 #[v, .int .u8 b] w fun e w' => e = .returned (.tuple #[]) ∧ Fr w w' (fun k => v.ownBlock = some k) := by
  obtain ⟨i0, hi0, hz0, hz1, hz2⟩ := info_parts info_u8
  rcases ho.2 with ⟨rfl, rfl⟩ | ⟨g, cap, cur, rfl, hb, hg, hnc, hcm, hcs, htake⟩
  · clear ho hT
    go_enter Try.func30, Try.ntmps30
    go_wp2
    refine wp_loop_rounds 1 ?_
    rw [rounds_succ]
    go_wp2
    all_goals go_end0
    all_goals exact ⟨rfl, Fr.refl _ _⟩
  · have HB := Lib.hid (show Blk w g 5 cur from hg)
    have HT := Lib.hid (fun u (hu : u ∈ cur.toList) => hT g cur 5 (0, 0) rfl hg u hu)
    have Hsz := Lib.hid (show cur.size = cap by rw [hcs, Nat.mul_one])
    have hcm' : (cap : Int) ≤ 9223372036854775807 := by unfold maxLen at hcm; omega
    have Hnc := Lib.hid hnc
    have hs1 := fun w => run_slice_to (P := Try.prog) 25 5 i0 Try.underlying25 hi0 (some ⟨g, 0, none⟩) n cap cap (Nat.le_refl _) w
    clear ho hT hg hcs htake hcm hb hnc
    go_enter Try.func30, Try.ntmps30
    go_wp2_with fail
    go_loopg [4] (cap + 1) (fun m s4 wr => ∃ (k : Nat) (cs : Array Value), s4 = .int .i64 k ∧ Hid (k ≤ cap ∧ cap - k < m) ∧ Hid (Blk wr g 5 cs ∧ cs.size = cap ∧ ∀ u ∈ cs.toList, IsB u) ∧ Hid (Fr w wr (fun k => Value.ownBlock (.slice (some ⟨g, 0, none⟩) n cap) = some k)))
    case atStart => exact ⟨0, cur, rfl, ⟨Nat.zero_le _, by omega⟩, ⟨HB.out, Hsz.out, HT.out⟩, Fr.refl _ _⟩
    case round =>
      obtain ⟨k, cs, rfl, HK, HC, HF⟩ := hrel
      by_cases hk : k < cap
      · have hlt : k < cs.size := by rw [HC.out.2.1]; exact hk
        obtain ⟨x, hx⟩ := HC.out.2.2 cs[k] (Array.mem_toList_iff.2 (Array.getElem_mem hlt))
        have c1 : wr.cell? ⟨g, k, none⟩ = some (.int .u8 x) := by rw [HC.out.1.cell, Array.getElem?_eq_getElem hlt, hx]
        have f1 := HC.out.1.frozen k
        have hki : (k : Int) < (cap : Int) := by omega
        clear hx hlt
        go_wp2_with fail
        go_roundg (gk - 1)
        case measure => have := HK.out; omega
        case rel =>
          refine ⟨k + 1, _, by go_num, ⟨hk, by have := HK.out; omega⟩, ⟨HC.out.1.set_ k _, ?_, ?_⟩, HF.out.setCell (p := ⟨g, k, none⟩) (fun _ => rfl) _⟩
          · rw [Array.size_setIfInBounds]; exact HC.out.2.1
          · intro u hu
            rw [Array.toList_setIfInBounds] at hu
            rcases List.mem_or_eq_of_mem_set hu with h | h
            · exact HC.out.2.2 u h
            · exact ⟨_, h⟩
      · have hki : decide ((k : Int) < (cap : Int)) = false := decide_eq_false (by omega)
        go_wp2_with fail
        go_end0
        exact ⟨rfl, HF.out⟩

end Voc
end Go.Proofs.Ytildhlneldoffaa

namespace Go.Proofs.Ytildhlneldoffaa
open Go.RowKit
open Voc Bpe
set_option maxRecDepth 20000 in
set_option maxHeartbeats 4000000 in
theorem BpeFresh_walk (w : World) (s0 : Value) (x0 : List Pc) (sl0 : SL encP w s0 x0) (wf0 : ∀ q ∈ x0, wfP q) (n0 : x0.length ≤ 1048576) (v1 : Value) (x1 : List Int) (sl1 : SL encB w v1 x1) (wf1 : ∀ x ∈ x1, (Lit.int .u8 x).wf = true) (n1 : x1.length ≤ 1048576) (v2 : Value) (x2 : List Int) (sl2 : SL encI w v2 x2) (wf2 : ∀ x ∈ x2, (Lit.int .i64 x).wf = true) (n2 : x2.length ≤ 1048576) :
    Calls Try.prog 12 #[.agg #[s0], v1, v2] w fun e w' => e = .returned (.bool true) ∧ Gr w w' := by
  obtain ⟨A, cap, rfl⟩ := SL.form sl0
  obtain ⟨A1, cap1, rfl⟩ := SL.form sl1
  obtain ⟨A2, cap2, rfl⟩ := SL.form sl2
  have HS0 := Lib.hid sl0
  have HS1 := Lib.hid sl1
  have HS2 := Lib.hid sl2
  have HN := Lib.hid (And.intro n0 (And.intro n1 n2))
  have HG := Lib.hid ((Fr.refl w NoneS).alloc (.cells #[.slice A x0.length cap] 24))
  have HB := Lib.hid (Blk.new w 24 #[.slice A x0.length cap])
  obtain ⟨q, hq⟩ : ∃ q, w.heap.size = q := ⟨_, rfl⟩
  rw [hq] at HB
  have HL1 := Lib.hid (long_any (sl0.gr HG.out) n0 x1.length n1)
  have HL2 := Lib.hid (fun wx (hg : Gr w wx) => long_any (sl0.gr hg) n0 x2.length n2)
  have HA := Lib.hid (fun (wx : World) (sv sb : Value) (h : SL encP wx sv x0) (hb : SL encB wx sb x1) => encode_any h hb wf0 (bs_in wf1) n0)
  have HBg := Lib.hid (fun (wx : World) (sv sb : Value) (h : SL encP wx sv x0) (hb : SL encB wx sb x1) => Begin_any h hb wf0 (bs_in wf1) n0 n1)
  have HSt := Lib.hid (fun (wx : World) (sv sb : Value) (h : SL encP wx sv x0) (hb : SL encI wx sb x2) => step_any h hb wf0 n0 wf2)
  have HDc := Lib.hid (fun (wx : World) (sv sb : Value) (h : SL encP wx sv x0) (hb : SL encI wx sb x2) => decode_any h hb wf0 n0 n2)
  generalize encE x0 x1 = rE at HA
  generalize beginE x0 x1 = rB at HBg
  generalize Bpe.stepE x0 x2 = rS at HSt
  generalize decE x0 x2 = rD at HDc
  obtain ⟨lE, eE⟩ := rE
  obtain ⟨lB, eB⟩ := rB
  obtain ⟨lS, dS, eS⟩ := rS
  obtain ⟨lD, eD⟩ := rD
  simp only at HA HBg HSt HDc
  clear sl0 sl1 sl2 wf0 wf1 wf2
  obtain ⟨b, hb⟩ : ∃ b, decide (500 < x0.length ∨ (300 < x1.length ∧ x1.length ≤ 4096)) = b := ⟨_, rfl⟩
  rw [hb] at HL1
  clear hb
  obtain ⟨b2, hb2⟩ : ∃ b, decide (500 < x0.length ∨ (300 < x2.length ∧ x2.length ≤ 4096)) = b := ⟨_, rfl⟩
  rw [hb2] at HL2
  clear hb2
  have hx1 : (x1.length : Int) ≤ 1048576 := by omega
  have hx2 : (x2.length : Int) ≤ 1048576 := by omega
  clear n0 n1 n2
  go_enter Try.func12, Try.ntmps12
  go_upto_region 1 with (fail)
  clear hq
  generalize hx : World.alloc w _ = wa at HG HB HL1 ⊢
  clear hx
  have c0 : wa.cell? ⟨q, 0, none⟩ = some (.slice A x0.length cap) := by rw [HB.out.cell]; rfl
  cases b with
  | true =>
    go_wp2_with (first
      | (go_at_call 13; refine HL1.out.mono ?_; rintro e w2 ⟨rfl, hg⟩; have HG2 := Lib.hid (HG.out.trans hg (fun _ _ h => h)); clear hg)
      | (go_at_call 14; refine (works_any _).mono ?_; rintro e wz ⟨rfl, hg⟩; have HGz := Lib.hid hg; clear hg))
    go_ret
    exact ⟨rfl, HG2.out.trans HGz.out (fun _ _ h => h)⟩
  | false =>
  cases b2 with
  | true =>
    go_wp2_with (first
      | (go_at_call 13; (with_reducible refine HL1.out.mono ?_); rintro e w2 ⟨rfl, hg⟩; have HG2 := Lib.hid (HG.out.trans hg (fun _ _ h => h)); have HB2 := Lib.hid (HB.out.fr hg (fun h => h)); have c2 : w2.cell? ⟨q, 0, none⟩ = some (.slice A x0.length cap) := (by rw [HB2.out.cell]; rfl); clear hg)
      | (go_at_call 13; (with_reducible refine (HL2.out _ HG2.out).mono ?_); rintro e w3 ⟨rfl, hg⟩; have HG3 := Lib.hid (HG2.out.trans hg (fun _ _ h => h)); clear hg)
      | (go_at_call 14; refine (works_any _).mono ?_; rintro e wz ⟨rfl, hg⟩; have HGz := Lib.hid hg; clear hg))
    go_ret
    exact ⟨rfl, HG3.out.trans HGz.out (fun _ _ h => h)⟩
  | false =>
    go_upto_region 3 with (first
      | (go_at_call 13; (with_reducible refine HL1.out.mono ?_); rintro e w2 ⟨rfl, hg⟩; have HG2 := Lib.hid (HG.out.trans hg (fun _ _ h => h)); have HB2 := Lib.hid (HB.out.fr hg (fun h => h)); have c2 : w2.cell? ⟨q, 0, none⟩ = some (.slice A x0.length cap) := (by rw [HB2.out.cell]; rfl); clear hg)
      | (go_at_call 13; (with_reducible refine (HL2.out _ HG2.out).mono ?_); rintro e w3 ⟨rfl, hg⟩; have HG3 := Lib.hid (HG2.out.trans hg (fun _ _ h => h)); have HB3 := Lib.hid (HB2.out.fr hg (fun h => h)); have c3 : w3.cell? ⟨q, 0, none⟩ = some (.slice A x0.length cap) := (by rw [HB3.out.cell]; rfl); clear hg))
    go_upto_region 4 with (go_at_call 21; refine (copyVocab_any (HS0.out.gr HG3.out) HN.out.1).mono ?_; rintro e w4 ⟨sv, rfl, ho, hg⟩; obtain ⟨Av, cv, rfl⟩ := own_formN ho; have HO4 := Lib.hid (own_base ho HG3.out.size); have HG4 := Lib.hid (HG3.out.trans hg (fun _ _ h => h)); have HB4 := Lib.hid (HB3.out.fr hg (fun h => h)); clear ho hg)
    have HC5 := Lib.hid (Blk.new w4 24 #[.slice Av x0.length cv])
    have HG5 := Lib.hid (HG4.out.alloc (.cells #[.slice Av x0.length cv] 24))
    have HB5 := Lib.hid (HB4.out.alloc (.cells #[.slice Av x0.length cv] 24))
    have HO5 := Lib.hid (HO4.out.alloc (.cells #[.slice Av x0.length cv] 24))
    obtain ⟨q7, hq7⟩ : ∃ q7, w4.heap.size = q7 := ⟨_, rfl⟩
    rw [hq7] at HC5 ⊢
    clear hq7
    generalize World.alloc w4 _ = w5 at HC5 HG5 HB5 HO5 ⊢
    clear c0 c2 c3
    go_upto_region 5 with (go_at_call 27; refine (wide_any _ x1 _ (HS1.out.gr HG5.out) (by omega)).mono ?_; rintro e w6 ⟨g8, rfl, hge, hw8, hg⟩; have HW6 := Lib.hid hw8; have HG6 := Lib.hid (HG5.out.trans hg (fun _ _ h => h)); have HB6 := Lib.hid (HB5.out.fr hg (fun h => h)); have HC6 := Lib.hid (HC5.out.fr hg (fun h => h)); have HO6 := Lib.hid (hg.owns HO5.out (fun _ _ h => h)); clear hge hw8 hg)
    go_upto_region 6 with (go_at_call 28; refine (copyInts_any _ x2 _ (HS2.out.gr HG6.out) (by omega)).mono ?_; rintro e w7 ⟨rv, rfl, hr, hg⟩; obtain ⟨Ar, cr, rfl⟩ := own_formN hr; have HR7 := Lib.hid (SL.of_own (enc := encI) hr rfl); have HW7 := Lib.hid (HW6.out.fr hg (fun h => h)); have HG7 := Lib.hid (HG6.out.trans hg (fun _ _ h => h)); have HB7 := Lib.hid (HB6.out.fr hg (fun h => h)); have HC7 := Lib.hid (HC6.out.fr hg (fun h => h)); have HO7 := Lib.hid (SL.of_own (enc := encP) (hg.owns HO6.out (fun _ _ h => h)) rfl); clear hr hg)
    have HD7 := Lib.hid (Fr.refl w7 NoneS)
    have HW7s := Lib.hid (show SL encB w7 (.slice (some ⟨g8, 0, none⟩) x1.length (x1.length + 3)) x1 from by
      have h := sl_blk HW7.out (by rw [wd_len _ _ (Nat.le_refl _)]; unfold maxLen; omega) x1.length (by rw [wd_len _ _ (Nat.le_refl _)]; omega)
      rw [wd_take, wd_len _ _ (Nat.le_refl _)] at h
      exact h)
    clear HO4 HO5 HO6 HB2 HB3 HB4 HB5 HB6 HC5 HC6 HW6
    have c7 : w7.cell? ⟨q7, 0, none⟩ = some (.slice Av x0.length cv) := by rw [HC7.out.cell]; rfl
    go_upto_region 7 with (go_at_call 15; refine (HA.out _ _ _ HO7.out HW7s.out).mono ?_; rintro e w8 ⟨rx, rfl, ho, hg⟩; have HX8 := Lib.hid ho; have HD8 := Lib.hid hg; clear ho hg)
    have c8 : w8.cell? ⟨q7, 0, none⟩ = some (.slice Av x0.length cv) := by rw [(HC7.out.fr HD8.out (fun h => h)).cell]; rfl
    go_upto_region 8 with (go_at_call 23; refine (HBg.out _ _ _ (HO7.out.gr HD8.out) (HW7s.out.gr HD8.out)).mono ?_; rintro e w9 ⟨ry, rfl, ho, hg⟩; have Hs9 := Lib.hid hg.size; have HY9 := Lib.hid ho; have HX9 := Lib.hid (HX8.out.gr hg); have HD9 := Lib.hid (HD8.out.trans hg (fun _ _ h => h)); clear ho hg)
    have c9 : w9.cell? ⟨q7, 0, none⟩ = some (.slice Av x0.length cv) := by rw [(HC7.out.fr HD9.out (fun h => h)).cell]; rfl
    go_upto_region 9 with (go_at_call 25; refine (HSt.out _ _ _ (HO7.out.gr HD9.out) (HR7.out.gr HD9.out)).mono ?_; rintro e w10 ⟨rz, rfl, ho, hg⟩; have Hs10 := Lib.hid hg.size; have HZ10 := Lib.hid ho; have HX10 := Lib.hid (HX9.out.gr hg); have HY10 := Lib.hid (HY9.out.gr hg); have HD10 := Lib.hid (HD9.out.trans hg (fun _ _ h => h)); clear ho hg)
    have c10 : w10.cell? ⟨q7, 0, none⟩ = some (.slice Av x0.length cv) := by rw [(HC7.out.fr HD10.out (fun h => h)).cell]; rfl
    go_upto_region 10 with (go_at_call 18; refine (HDc.out _ _ _ (HO7.out.gr HD10.out) (HR7.out.gr HD10.out)).mono ?_; rintro e w11 ⟨rc, rfl, ho, hg⟩; have HC11 := Lib.hid ho; have HX11 := Lib.hid (HX10.out.gr hg); have HY11 := Lib.hid (HY10.out.gr hg); have HZ11 := Lib.hid (HZ10.out.gr hg); have HD11 := Lib.hid (HD10.out.trans hg (fun _ _ h => h)); clear ho hg)
    clear c7 c8 c9 c10
    -- whose blocks lie where
    have hX : ∀ k, rx.ownBlock = some k → w7.heap.size ≤ k ∧ k < w8.heap.size := fun k hk => HX8.out.own.lt k hk
    have hY : ∀ k, ry.ownBlock = some k → w8.heap.size ≤ k ∧ k < w9.heap.size := fun k hk => HY9.out.own.lt k hk
    have hZ : ∀ k, rz.ownBlock = some k → w9.heap.size ≤ k ∧ k < w10.heap.size := fun k hk => HZ10.out.own.lt k hk
    have hC : ∀ k, rc.ownBlock = some k → w10.heap.size ≤ k := fun k hk => (HC11.out.own.lt k hk).1
    have HXb := Lib.hid hX
    have HYb := Lib.hid hY
    have HZb := Lib.hid hZ
    have HCb := Lib.hid hC
    have Hsz := Lib.hid (And.intro HD8.out.size (And.intro Hs9.out Hs10.out))
    clear hX hY hZ hC HX8 HX9 HX10 HY9 HY10 HZ10
    go_upto_region 11 with (go_at_call 29; refine (spoilInts_any _ _ _ _ 1 _ HX11.out.own HX11.out.spare).mono ?_; rintro e w12 ⟨rfl, hg⟩; have HD12 := Lib.hid (show Gr w7 w12 from HD11.out.trans hg (fun i hi h => by have := (HXb.out i h).1; omega)); have HY12 := Lib.hid (HY11.out.fr hg (fun k hk h => by have := (HYb.out k hk).1; have := (HXb.out k h).2; omega)); have HZ12 := Lib.hid (HZ11.out.fr hg (fun k hk h => by have := (HZb.out k hk).1; have := (HXb.out k h).2; have := Hsz.out; omega)); have HC12 := Lib.hid (HC11.out.fr hg (fun k hk h => by have := HCb.out k hk; have := (HXb.out k h).2; have := Hsz.out; omega)); clear hg)
    go_upto_region 12 with (go_at_call 29; refine (spoilInts_any _ _ _ _ 1 _ HY12.out.own HY12.out.spare).mono ?_; rintro e w13 ⟨rfl, hg⟩; have HD13 := Lib.hid (show Gr w7 w13 from HD12.out.trans hg (fun i hi h => by have := (HYb.out i h).1; have := Hsz.out; omega)); have HZ13 := Lib.hid (HZ12.out.fr hg (fun k hk h => by have := (HZb.out k hk).1; have := (HYb.out k h).2; omega)); have HC13 := Lib.hid (HC12.out.fr hg (fun k hk h => by have := HCb.out k hk; have := (HYb.out k h).2; have := Hsz.out; omega)); clear hg)
    go_upto_region 13 with (go_at_call 29; refine (spoilInts_any _ _ _ _ 1 _ HZ13.out.own HZ13.out.spare).mono ?_; rintro e w14 ⟨rfl, hg⟩; have HD14 := Lib.hid (show Gr w7 w14 from HD13.out.trans hg (fun i hi h => by have := (HZb.out i h).1; have := Hsz.out; omega)); have HC14 := Lib.hid (HC13.out.fr hg (fun k hk h => by have := HCb.out k hk; have := (HZb.out k h).2; omega)); clear hg)
    go_upto_region 14 with (go_at_call 30; refine (Voc.spoil_any _ _ _ _ 1 _ HC14.out.own HC14.out.spare).mono ?_; rintro e w15 ⟨rfl, hg⟩; have HD15 := Lib.hid (show Gr w7 w15 from HD14.out.trans hg (fun i hi h => by have := HCb.out i h; have := Hsz.out; omega)); clear hg)
    have HG15 := Lib.hid (HG7.out.trans HD15.out (fun _ _ h => h))
    have c15 : w15.cell? ⟨q, 0, none⟩ = some (.slice A x0.length cap) := by rw [(HB7.out.fr HD15.out (fun h => h)).cell]; rfl
    have d15 : w15.cell? ⟨q7, 0, none⟩ = some (.slice Av x0.length cv) := by rw [(HC7.out.fr HD15.out (fun h => h)).cell]; rfl
    have HV := Lib.hid (fun wx (h : Gr w15 wx) => vocab_any (xs := x0) (ys := x0) ((HO7.out.gr HD15.out).gr h) ((HS0.out.gr HG15.out).gr h) (by have := HN.out; omega))
    have HLf := Lib.hid (fun wx (h : Gr w15 wx) => left_any g8 _ x1 wx ((HW7.out.fr HD15.out (fun h => h)).fr h (fun h => h)) ((HS1.out.gr HG15.out).gr h) (by omega))
    have HI := Lib.hid (fun wx (h : Gr w15 wx) => Ints_any _ _ x2 x2 wx ((HR7.out.gr HD15.out).gr h) ((HS2.out.gr HG15.out).gr h) (by omega))
    rw [show decide (x0 = x0) = true from decide_eq_true rfl] at HV
    rw [show decide (x2 = x2) = true from decide_eq_true rfl] at HI
    go_wp2_with (first
      | (go_at_call 31; refine (HV.out _ (by first | exact Fr.refl _ _ | exact (Fr.refl _ _).drew | exact (Fr.refl _ _).drewN _)).mono ?_; rintro e w16 ⟨rfl, hg⟩; have HD16 := Lib.hid (show Gr w15 w16 from hg); clear hg)
      | (go_at_call 32; refine (HLf.out _ HD16.out).mono ?_; rintro e w17 ⟨rfl, hd⟩; have HD17 := Lib.hid (HD16.out.trans hd.gr (fun _ _ h => h)); clear hd)
      | (go_at_call 17; refine (HI.out _ HD17.out).mono ?_; rintro e w18 ⟨rfl, hd⟩; have HD18 := Lib.hid (HD17.out.trans hd.gr (fun _ _ h => h)); clear hd)
      | (go_at_call 14; refine (works_any _).mono ?_; rintro e wz ⟨rfl, hg⟩; have HGz := Lib.hid hg; clear hg))
    go_ret
    exact ⟨rfl, (HG15.out.trans HD18.out (fun _ _ h => h)).trans HGz.out (fun _ _ h => h)⟩
end Go.Proofs.Ytildhlneldoffaa
