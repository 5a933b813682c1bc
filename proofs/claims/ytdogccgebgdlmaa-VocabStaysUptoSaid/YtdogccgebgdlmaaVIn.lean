/- The reference's Ints (as XQRef). vocab.Size. -/
import Derived.Test.YtdogccgebgdlmaaVTe
set_option linter.unusedVariables false
set_option linter.unusedSimpArgs false
namespace Go.Proofs.Ytdogccgebgdlmaa
open Go.RowKit
namespace Voc
def encI (x : Int) : List Value := [.int .i64 x]
set_option maxHeartbeats 1600000 in
theorem Ints_any (va vb : Value) (xs ys : List Int) (w : World) (ha : SL encI w va xs) (hb : SL encI w vb ys) (hx : xs.length ≤ 4194304) :
    Calls Try.prog 25 #[va, vb] w fun e w' => e = .returned (.bool (decide (xs = ys))) ∧ Dr w w' := by
  have HA := Lib.hid ha
  have HB := Lib.hid hb
  obtain ⟨A, ca, rfl, _⟩ := ha.len
  obtain ⟨B, cb, rfl, _⟩ := hb.len
  clear ha hb
  by_cases hl : xs.length = ys.length
  · have hl1 : ((xs.length : Int) != (ys.length : Int)) = false := by rw [bne_eq_false_iff_eq]; omega
    have hx' : (xs.length : Int) ≤ 4194304 := by omega
    have Hl := Lib.hid hl
    clear hl
    go_enter Try.func25, Try.ntmps25
    go_wp2
    go_loopg [5] (xs.length + 1) (fun m s5 wr => ∃ k : Nat, s5 = .int .i64 k ∧ Hid (k ≤ xs.length ∧ xs.length - k < m) ∧ Hid (Dr w wr) ∧ Hid (xs.take k = ys.take k))
    case atStart => exact ⟨0, rfl, ⟨Nat.zero_le _, by omega⟩, Dr.refl _, by simp [Hid]⟩
    case round =>
      obtain ⟨k, rfl, HK, HD, HE⟩ := hrel
      by_cases hk : k < xs.length
      · have hk2 : k < ys.length := by have := Hl.out; omega
        obtain ⟨b1, o1, rfl, _, hc1⟩ := (HA.out.gr HD.out.gr).at_ (s := 1) (fun _ => rfl) rfl hk
        obtain ⟨b2, o2, rfl, _, hc2⟩ := (HB.out.gr HD.out.gr).at_ (s := 1) (fun _ => rfl) rfl hk2
        have c1 := hc1 0 (by omega)
        have c2 := hc2 0 (by omega)
        clear hc1 hc2
        simp [encI] at c1 c2
        have E1 := Lib.hid (List.take_succ_eq_append_getElem hk)
        have E2 := Lib.hid (List.take_succ_eq_append_getElem hk2)
        have G1 := Lib.hid (List.getElem?_eq_getElem hk)
        have G2 := Lib.hid (List.getElem?_eq_getElem hk2)
        generalize xs[k] = x at c1 E1 G1
        generalize ys[k] = y at c2 E2 G2
        have hki : (k : Int) < xs.length := by omega
        have hki2 : (k : Int) < ys.length := by omega
        by_cases hxy : x = y
        · have hb1 : (x != y) = false := by rw [bne_eq_false_iff_eq]; exact hxy
          have Hxy := Lib.hid hxy
          clear hxy
          go_wp2_with fail
          go_quiet (fail)
          go_wp2_with fail
          go_roundg (gk - 1)
          case measure => have := HK.out; omega
          case rel => exact ⟨k + 1, by go_num, ⟨hk, by have := HK.out; omega⟩, HD.out.drewN _, show _ = _ by rw [E1.out, E2.out, HE.out, Hxy.out]⟩
        · have hb1 : (x != y) = true := by rw [bne_iff_ne]; exact hxy
          have Hxy := Lib.hid hxy
          clear hxy
          go_wp2_with fail
          go_quiet (fail)
          go_wp2_with fail
          go_ret
          refine ⟨?_, HD.out.drewN _⟩
          have : decide (xs = ys) = false := decide_eq_false (fun e => by
            subst e
            have := G1.out.symm.trans G2.out
            injection this with this
            exact Hxy.out this)
          rw [this]; rfl
      · have hkk : decide ((k : Int) < xs.length) = false := decide_eq_false (by omega)
        go_wp2_with fail
        go_ret
        refine ⟨?_, HD.out⟩
        have : decide (xs = ys) = true := decide_eq_true (by
          have h1 := HE.out
          rw [List.take_of_length_le (by omega), List.take_of_length_le (by have := Hl.out; omega)] at h1
          exact h1)
        rw [this]; rfl
  · have hl1 : ((xs.length : Int) != (ys.length : Int)) = true := by rw [bne_iff_ne]; omega
    have Hn := Lib.hid (show decide (xs = ys) = false from decide_eq_false (fun e => hl (by rw [e])))
    go_enter Try.func25, Try.ntmps25
    go_wp2
    go_ret
    refine ⟨?_, Dr.refl _⟩
    rw [Hn.out]; rfl

/-- the size of piece n -/
def sizeE (xs : List Pc) (n : Int) : Int × Int := if (checkE xs).1 ≠ 0 then (0, 11) else if n < 0 ∨ (xs.length : Int) ≤ n then (0, 2) else ((szAt (szF [] xs) n : Nat), 0)
set_option maxRecDepth 20000 in
theorem size_any {w : World} {v : Value} {xs : List Pc} (n : Int) (HS : SL encP w v xs) (hw : ∀ q ∈ xs, wfP q) (hl : xs.length ≤ 1048576) :
    Calls Try.prog 27 #[.agg #[v], .int .i64 n] w fun e w' => e = .returned (.tuple #[.int .i64 (sizeE xs n).1, .int .i64 (sizeE xs n).2]) ∧ Gr w w' := by
  obtain ⟨⟨E, at_⟩, hE⟩ : ∃ x, checkE xs = x := ⟨_, rfl⟩
  obtain ⟨⟨r1, r2⟩, hr⟩ : ∃ x, sizeE xs n = x := ⟨_, rfl⟩
  rw [hr]
  simp only
  unfold sizeE at hr
  rw [hE] at hr
  simp only at hr
  obtain ⟨A, cap, rfl⟩ := SL.form HS
  have HG := Lib.hid ((Fr.refl w NoneS).alloc (.cells #[.slice A xs.length cap] 24))
  have HB := Lib.hid (Blk.new w 24 #[.slice A xs.length cap])
  have HL := Lib.hid (look_any (HS.gr HG.out) hw hl E at_ hE)
  have Hr := Lib.hid hr
  clear HS hw hE hr hl
  go_enter Try.func27, Try.ntmps27
  generalize hx : World.alloc w (.cells #[.slice A xs.length cap] 24) = wa at HG HL HB
  have f0 : wa.cell? ⟨w.heap.size, 0, none⟩ = some (.slice A xs.length cap) := by rw [HB.out.cell]; rfl
  have HX := Lib.hid hx
  clear hx
  by_cases h0 : E = 0
  · subst h0
    go_upto_region 4 with (go_at_call 36; rw [HX.out]; refine HL.out.mono ?_; rintro e w3 ⟨hg, ⟨h0, rfl⟩ | ⟨h0, h1, p, rfl, hsn⟩⟩ <;> have HG3 := Lib.hid hg <;> clear hg)
    · exact absurd rfl h0
    clear HL
    obtain ⟨b1, b2, b3, sv, hsn⟩ := hsn
    have HSN := Lib.hid hsn
    clear hsn
    have fq : w3.cell? ⟨w.heap.size, 0, none⟩ = some (.slice A xs.length cap) := (HG3.out.cell (p := ⟨w.heap.size, 0, none⟩) HB.out.lt (fun h => h)).trans f0
    have h := Hr.out
    rw [if_neg (by simp)] at h
    by_cases hr : n < 0 ∨ (xs.length : Int) ≤ n
    · rw [if_pos hr] at h
      injection h with e1 e2
      subst e1 e2
      have Hrr := Lib.hid hr
      clear hr Hr f0
      go_wp2_with fail
      all_goals first
        | (go_ret2; exact ⟨rfl, HG.out.trans HG3.out (fun _ _ h => h)⟩)
        | (exfalso; have := Hrr.out; omega)
    · rw [if_neg hr] at h
      injection h with e1 e2
      subst e2
      have He1 := Lib.hid e1
      obtain ⟨i, rfl⟩ : ∃ i : Nat, n = i := ⟨n.toNat, by omega⟩
      have hi : i < xs.length := by omega
      have hi2 : ¬ ((xs.length : Int) ≤ (i : Int)) := by omega
      have hi0 : ¬ ((i : Int) < 0) := by omega
      have hi3 : (i : Int) < xs.length := by omega
      obtain ⟨g, cz, hsv, hsc⟩ := HSN.out.sizes hi
      have c0 := HSN.out.cells.1
      rw [hsv] at c0
      have sa := hsc i hi
      rw [e1] at sa
      clear hsc hr Hr f0 e1 hsv
      go_wp2_with fail
      go_ret2
      exact ⟨rfl, HG.out.trans HG3.out (fun _ _ h => h)⟩
  · have H0 := Lib.hid h0
    go_wp2_with (go_at_call 36; rw [HX.out]; refine HL.out.mono ?_; rintro e w3 ⟨hg, ⟨h0, rfl⟩ | ⟨h0, h1, p, rfl, hsn⟩⟩ <;> have HG3 := Lib.hid hg <;> clear hg)
    all_goals first
      | (exfalso; exact H0.out h0)
      | (go_ret2
         have h := Hr.out
         rw [if_pos H0.out] at h
         injection h with h1 h2
         subst h1 h2
         exact ⟨rfl, HG.out.trans HG3.out (fun _ _ h => h)⟩)
end Voc
end Go.Proofs.Ytdogccgebgdlmaa
