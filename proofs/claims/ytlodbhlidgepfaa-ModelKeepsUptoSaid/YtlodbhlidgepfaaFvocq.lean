/- The reference's Vocab: the same pieces? -/
import Derived.Test.YtlodbhlidgepfaaVTa
import Derived.Laws.StructEq
set_option linter.unusedVariables false
set_option linter.unusedSimpArgs false
namespace Go.Proofs.Ytlodbhlidgepfaa
open Go.RowKit
namespace Voc
theorem neq_pc (j j' : Bool) (b l r k b' l' r' k' : Int) (w : World) : (binOp .neq TPc (.agg #[.bool j, .int .u8 b, .int .i64 l, .int .i64 r, .int .u32 k]) (.agg #[.bool j', .int .u8 b', .int .i64 l', .int .i64 r', .int .u32 k'])).run Try.prog w = .ok (.bool (decide ((⟨j, b, l, r, k⟩ : Pc) ≠ ⟨j', b', l', r', k'⟩))) w := by
  rw [run_neq_struct]
  by_cases h0 : j = j'
  · subst h0
    by_cases h1 : b = b'
    · subst h1
      by_cases h2 : l = l'
      · subst h2
        by_cases h3 : r = r'
        · subst h3
          by_cases h4 : k = k'
          · subst h4
            simp [go_sem]
          · simp [go_sem, h4]
        · simp [go_sem, h3]
      · simp [go_sem, h2]
    · simp [go_sem, h1]
  · simp [go_sem, h0]
set_option maxRecDepth 20000 in
set_option maxHeartbeats 1600000 in
theorem vocab_any {w : World} {va vb : Value} {xs ys : List Pc} (ha : SL encP w va xs) (hb : SL encP w vb ys) (hx : xs.length ≤ 4194304) :
    Calls Try.prog 32 #[.agg #[va], .agg #[vb]] w fun e w' => e = .returned (.bool (decide (xs = ys))) ∧ Gr w w' := by
  have HA1 := Lib.hid ha
  have HB1 := Lib.hid hb
  obtain ⟨A, ca, rfl⟩ := SL.form ha
  obtain ⟨B, cb, rfl⟩ := SL.form hb
  clear ha hb
  have HW0 := Lib.hid ((Blk.new w 27 #[.slice A xs.length ca]).alloc (.cells #[.slice B ys.length cb] 27))
  have HW1 := Lib.hid (Blk.new (w.alloc (.cells #[.slice A xs.length ca] 27)) 27 #[.slice B ys.length cb])
  have HG0 := Lib.hid (((Fr.refl w NoneS).alloc (.cells #[.slice A xs.length ca] 27)).alloc (.cells #[.slice B ys.length cb] 27))
  have hsz : (w.alloc (.cells #[.slice A xs.length ca] 27)).heap.size = w.heap.size + 1 := by simp
  rw [hsz] at HW1
  clear hsz
  go_enter Try.func32, Try.ntmps32
  go_upto_region 1 with (fail)
  generalize World.alloc (World.alloc w _) _ = w1 at HW0 HW1 HG0 ⊢
  obtain ⟨q, hq⟩ : ∃ q, w.heap.size = q := ⟨_, rfl⟩
  rw [hq] at HW0 HW1 ⊢
  obtain ⟨g, hg⟩ : ∃ g, q + 1 = g := ⟨_, rfl⟩
  rw [hg] at HW1 ⊢
  clear hq hg
  have HA := Lib.hid (HA1.out.gr HG0.out)
  have HB := Lib.hid (HB1.out.gr HG0.out)
  have c0 : w1.cell? ⟨q, 0, none⟩ = some (.slice A xs.length ca) := by rw [HW0.out.cell]; rfl
  have c1 : w1.cell? ⟨g, 0, none⟩ = some (.slice B ys.length cb) := by rw [HW1.out.cell]; rfl
  by_cases hl : xs.length = ys.length
  · have hl1 : ((xs.length : Int) != (ys.length : Int)) = false := by rw [bne_eq_false_iff_eq]; omega
    have hx' : (xs.length : Int) ≤ 4194304 := by omega
    have Hl := Lib.hid hl
    clear hl
    go_wp2
    go_loopg [5] (xs.length + 1) (fun m s5 wr => ∃ k : Nat, s5 = .int .i64 k ∧ Hid (k ≤ xs.length ∧ xs.length - k < m) ∧ Hid (Dr w1 wr) ∧ Hid (xs.take k = ys.take k))
    case atStart => exact ⟨0, rfl, ⟨Nat.zero_le _, by omega⟩, Dr.refl _, by simp [Hid]⟩
    case round =>
      obtain ⟨k, rfl, HK, HD, HE⟩ := hrel
      have e0 : wr.cell? ⟨q, 0, none⟩ = some (.slice A xs.length ca) := by rw [(HW0.out.fr HD.out.gr (fun h => h)).cell]; rfl
      have e1 : wr.cell? ⟨g, 0, none⟩ = some (.slice B ys.length cb) := by rw [(HW1.out.fr HD.out.gr (fun h => h)).cell]; rfl
      by_cases hk : k < xs.length
      · have hk2 : k < ys.length := by have := Hl.out; omega
        obtain ⟨b1, o1, rfl, _, hc1⟩ := (HA.out.gr HD.out.gr).at_ (s := 5) (fun _ => rfl) rfl hk
        obtain ⟨b2, o2, rfl, _, hc2⟩ := (HB.out.gr HD.out.gr).at_ (s := 5) (fun _ => rfl) rfl hk2
        have E1 := Lib.hid (List.take_succ_eq_append_getElem hk)
        have E2 := Lib.hid (List.take_succ_eq_append_getElem hk2)
        have G1 := Lib.hid (List.getElem?_eq_getElem hk)
        have G2 := Lib.hid (List.getElem?_eq_getElem hk2)
        have x0 := hc1 0 (by omega)
        have x1 := hc1 1 (by omega)
        have x2 := hc1 2 (by omega)
        have x3 := hc1 3 (by omega)
        have x4 := hc1 4 (by omega)
        have y0 := hc2 0 (by omega)
        have y1 := hc2 1 (by omega)
        have y2 := hc2 2 (by omega)
        have y3 := hc2 3 (by omega)
        have y4 := hc2 4 (by omega)
        clear hc1 hc2
        generalize xs[k] = x at x0 x1 x2 x3 x4 E1 G1
        generalize ys[k] = y at y0 y1 y2 y3 y4 E2 G2
        obtain ⟨j1, p1, l1, r1, k1⟩ := x
        obtain ⟨j2, p2, l2, r2, k2⟩ := y
        simp [encP] at x0 x1 x2 x3 x4 y0 y1 y2 y3 y4
        rw [← Nat.add_assoc] at x1 x2 x3 x4 y1 y2 y3 y4
        have hki : (k : Int) < xs.length := by omega
        have hki2 : (k : Int) < ys.length := by omega
        have hneq := fun w => neq_pc j1 j2 p1 l1 r1 k1 p2 l2 r2 k2 w
        by_cases hxy : (⟨j1, p1, l1, r1, k1⟩ : Pc) = ⟨j2, p2, l2, r2, k2⟩
        · rw [decide_eq_false (by simp [hxy])] at hneq
          have Hxy := Lib.hid hxy
          clear hxy
          go_wp2_with fail
          go_quiet (fail)
          go_wp2_with fail
          go_roundg (gk - 1)
          case measure => have := HK.out; omega
          case rel => exact ⟨k + 1, by go_num, ⟨hk, by have := HK.out; omega⟩, HD.out.drewN _, show _ = _ by rw [E1.out, E2.out, HE.out, Hxy.out]⟩
        · rw [decide_eq_true hxy] at hneq
          have Hxy := Lib.hid hxy
          clear hxy
          go_wp2_with fail
          go_quiet (fail)
          go_wp2_with fail
          go_ret
          refine ⟨?_, HG0.out.trans (HD.out.drewN _).gr (fun _ _ h => h)⟩
          have : decide (xs = ys) = false := decide_eq_false (fun e => by
            subst e
            have := G1.out.symm.trans G2.out
            injection this with this
            exact Hxy.out this)
          rw [this]; rfl
      · have hkk : decide ((k : Int) < xs.length) = false := decide_eq_false (by omega)
        go_wp2_with fail
        go_ret
        refine ⟨?_, HG0.out.trans HD.out.gr (fun _ _ h => h)⟩
        have : decide (xs = ys) = true := decide_eq_true (by
          have h1 := HE.out
          rw [List.take_of_length_le (by omega), List.take_of_length_le (by have := Hl.out; omega)] at h1
          exact h1)
        rw [this]; rfl
  · have hl1 : ((xs.length : Int) != (ys.length : Int)) = true := by rw [bne_iff_ne]; omega
    have Hn := Lib.hid (show decide (xs = ys) = false from decide_eq_false (fun e => hl (by rw [e])))
    go_wp2
    go_ret
    refine ⟨?_, HG0.out⟩
    rw [Hn.out]; rfl
end Voc
end Go.Proofs.Ytlodbhlidgepfaa
