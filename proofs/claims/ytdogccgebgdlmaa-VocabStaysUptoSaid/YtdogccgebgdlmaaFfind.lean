/- vocab: Find, and the reference's. -/
import Derived.Test.YtdogccgebgdlmaaVGd
import Derived.Test.YtdogccgebgdlmaaFmay
set_option linter.unusedVariables false
set_option linter.unusedSimpArgs false
namespace Go.Proofs.Ytdogccgebgdlmaa
open Go.RowKit
namespace Voc
/-- the first join of two tokens -/
def fndF (l r : Int) : List Pc → Option Nat
  | [] => none
  | q :: t => if q.j = true ∧ q.l = l ∧ q.r = r then some 0 else (fndF l r t).map (· + 1)
def fndV (o : Option Nat) : Int := match o with | some i => (i : Int) | none => 0
theorem fndF_some {l r : Int} : ∀ (xs : List Pc) (i : Nat), fndF l r xs = some i → ∃ q, xs[i]? = some q ∧ q.j = true ∧ q.l = l ∧ q.r = r
  | [], i, h => by simp [fndF] at h
  | p :: t, i, h => by
    simp only [fndF] at h
    split at h
    · rename_i h'
      injection h with h
      subst h
      exact ⟨p, rfl, h'⟩
    · cases hf : fndF l r t with
      | none => rw [hf] at h; cases h
      | some k =>
        rw [hf] at h
        injection h with h
        subst h
        obtain ⟨q, h1, h2⟩ := fndF_some t k hf
        exact ⟨q, by simpa using h1, h2⟩
theorem fndF_none {l r : Int} : ∀ (xs : List Pc), fndF l r xs = none → ∀ q ∈ xs, ¬ (q.j = true ∧ q.l = l ∧ q.r = r)
  | [], h, q, hq => by cases hq
  | p :: t, h, q, hq => by
    simp only [fndF] at h
    split at h
    · cases h
    · rename_i h'
      rcases List.mem_cons.1 hq with e | e
      · subst e; exact h'
      · refine fndF_none t ?_ q e
        cases hf : fndF l r t with
        | none => rfl
        | some k => rw [hf] at h; cases h
theorem fndF_lt {l r : Int} : ∀ (xs : List Pc) (k : Nat) (q : Pc), (∀ i, fndF l r xs = some i → k < i) → xs[k]? = some q → ¬ (q.j = true ∧ q.l = l ∧ q.r = r)
  | [], k, q, _, hq => by simp at hq
  | p :: t, 0, q, h, hq => by
    simp at hq
    subst hq
    intro h'
    have := h 0 (by simp [fndF, h'])
    omega
  | p :: t, k + 1, q, h, hq => by
    by_cases h' : p.j = true ∧ p.l = l ∧ p.r = r
    · have := h 0 (by simp [fndF, h'])
      omega
    · refine fndF_lt t k q (fun i hi => ?_) (by simpa using hq)
      have := h (i + 1) (by simp only [fndF]; rw [if_neg h', hi]; rfl)
      omega
theorem fndF_good {xs : List Pc} (H : Inv xs) {i : Nat} {q : Pc} {l r : Int} (h : xs[i]? = some q) (hj : q.j = true) (hl : q.l = l) (hr : q.r = r) : fndF l r xs = some i := by
  cases hf : fndF l r xs with
  | none => exact absurd ⟨hj, hl, hr⟩ (fndF_none xs hf q (List.mem_of_getElem? h))
  | some k =>
    obtain ⟨p, h1, h2, h3, h4⟩ := fndF_some xs k hf
    rcases Nat.lt_trichotomy k i with h' | h' | h'
    · exact absurd ⟨h3.trans hl.symm, h4.trans hr.symm⟩ ((H.one k i p q h' h1 h (h2.trans hj.symm)).2 hj).1
    · rw [h']
    · exact absurd ⟨hl.trans h3.symm, hr.trans h4.symm⟩ ((H.one i k q p h' h h1 (hj.trans h2.symm)).2 h2).1
/-- what Find answers -/
def findE (xs : List Pc) (l r : Int) : Option Nat := if (checkE xs).1 = 0 then fndF l r xs else none
set_option maxRecDepth 20000 in
set_option maxHeartbeats 1600000 in
theorem find_any {w : World} {v : Value} {xs : List Pc} (l r : Int) (hlw : (Lit.int .i64 l).wf = true) (hrw : (Lit.int .i64 r).wf = true) (HS : SL encP w v xs) (hw : ∀ q ∈ xs, wfP q) (hl : xs.length ≤ 1048576) :
    Calls Try.prog 30 #[.agg #[v], .int .i64 l, .int .i64 r] w fun e w' => e = .returned (.tuple #[.int .i64 (fndV (findE xs l r)), .bool (findE xs l r).isSome]) ∧ Gr w w' := by
  obtain ⟨⟨E, at_⟩, hE⟩ : ∃ x, checkE xs = x := ⟨_, rfl⟩
  obtain ⟨F, hF⟩ : ∃ F, findE xs l r = F := ⟨_, rfl⟩
  have Hgood := Lib.hid (fun h : E = 0 => good_of (xs := xs) (by rw [hE]; exact h))
  have HF := Lib.hid (show (E = 0 → F = fndF l r xs) ∧ (E ≠ 0 → F = none) from by
    unfold findE at hF
    rw [hE] at hF
    exact ⟨fun h => by rw [← hF, if_pos h], fun h => by rw [← hF, if_neg h]⟩)
  rw [hF]
  obtain ⟨A, cap, rfl⟩ := SL.form HS
  have HG := Lib.hid ((Fr.refl w NoneS).alloc (.cells #[.slice A xs.length cap] 24))
  have HB := Lib.hid (Blk.new w 24 #[.slice A xs.length cap])
  have HL := Lib.hid (look_any (HS.gr HG.out) hw hl E at_ hE)
  have Hlr := Lib.hid (And.intro hlw hrw)
  have HW := Lib.hid hw
  clear HS hw hE hF hl hlw hrw
  go_enter Try.func30, Try.ntmps30
  generalize hx : World.alloc w (.cells #[.slice A xs.length cap] 24) = wa at HG HL HB
  have f0 : wa.cell? ⟨w.heap.size, 0, none⟩ = some (.slice A xs.length cap) := by rw [HB.out.cell]; rfl
  have HX := Lib.hid hx
  clear hx
  by_cases h0 : E = 0
  · subst h0
    go_upto_region 4 with (go_at_call 36; rw [HX.out]; refine HL.out.mono ?_; rintro e w3 ⟨hg, ⟨h0, rfl⟩ | ⟨h0, h1, p, rfl, hsn⟩⟩ <;> have HG3 := Lib.hid hg <;> clear hg)
    · exact absurd rfl h0
    clear HL
    obtain ⟨b1, b2, b3, sv, hsn⟩ := hsn
    have HSN := Lib.hid hsn
    obtain ⟨c0, c1, c2, c3⟩ := hsn.cells
    clear hsn
    obtain rfl := HF.out.1 trivial
    have hgood := Hgood.out trivial
    have kb := Lib.hid (WideMaps.keyOf_pair A2 Try.underlying3 tsz Hlr.out.1 Hlr.out.2)
    have hlk : (Instr.lookup MT2 (.map (some b2)) (.agg #[.int .i64 l, .int .i64 r]) true).run Try.prog w3 = .ok (.tuple #[.int .i64 (fndV (fndF l r xs)), .bool (fndF l r xs).isSome]) w3 := by
      cases hf : fndF l r xs with
      | none => exact HSN.out.m2.look_no K2 Try.underlying67 (zeroI _) (keys2 HW.out) kb.out (pe_no (p := ⟨true, 0, l, r, 0⟩) (by
          rw [List.any_eq_false]
          intro q hq
          have := fndF_none xs hf q hq
          simpa [sameP] using this))
      | some i =>
        obtain ⟨q, hi, hj, hl, hr⟩ := fndF_some xs i hf
        have hin := in_pe hi hj
        rw [hl, hr] at hin
        obtain ⟨v', hv', hrun⟩ := HSN.out.m2.look_yes K2 Try.underlying67 (keys2 HW.out) kb.out hin
        obtain ⟨q', i', hi', hj', he'⟩ := mem_pe hv'
        injection he' with h1 h2
        simp at h1
        have := fndF_good hgood.inv hi' hj' h1.1.symm h1.2.symm
        rw [hf] at this
        injection this with this
        subst this
        rw [hrun, h2]
        rfl
    clear hgood
    go_wp2_with fail
    go_ret2
    exact ⟨rfl, HG.out.trans HG3.out (fun _ _ h => h)⟩
  · have H0 := Lib.hid h0
    obtain rfl := HF.out.2 h0
    have HL2 := Lib.hid (HL.out.mono fun e w' h => (show Gr _ w' ∧ e = .returned (.tuple #[.pointer none, .int .i64 E, .int .i64 at_]) from ⟨h.1, (h.2.resolve_right (fun h' => H0.out h'.1)).2⟩))
    have h1 : (E != 0) = true := bne_iff_ne.2 h0
    clear h0
    go_wp2_with (go_at_call 36; rw [HX.out]; refine HL2.out.mono ?_; rintro e w3 ⟨hg, rfl⟩; have HG3 := Lib.hid hg; clear hg)
    go_ret2
    exact ⟨rfl, HG.out.trans HG3.out (fun _ _ h => h)⟩
set_option maxRecDepth 20000 in
set_option maxHeartbeats 1600000 in
theorem rfind_any {w : World} {v : Value} {xs : List Pc} (l r : Int) (HS : SL encP w v xs) (hl : xs.length ≤ 1048576) :
    Calls Try.prog 31 #[.agg #[v], .int .i64 l, .int .i64 r] w fun e w' => e = .returned (.tuple #[.int .i64 (fndV (fndF l r xs)), .bool (fndF l r xs).isSome]) ∧ Gr w w' := by
  obtain ⟨A, cap, rfl⟩ := SL.form HS
  have HG := Lib.hid ((Fr.refl w NoneS).alloc (.cells #[.slice A xs.length cap] 24))
  have HB := Lib.hid (Blk.new w 24 #[.slice A xs.length cap])
  have HS1 := Lib.hid HS
  have hl' : (xs.length : Int) ≤ 1048576 := by omega
  have Hlt := Lib.hid (fndF_lt (l := l) (r := r) xs)
  have Hsm := Lib.hid (fndF_some (l := l) (r := r) xs)
  generalize fndF l r xs = F at Hlt Hsm ⊢
  clear HS hl
  go_enter Try.func31, Try.ntmps31
  go_upto_region 1 with (fail)
  generalize World.alloc w _ = w1 at HB HG ⊢
  obtain ⟨q, hq⟩ : ∃ q, w.heap.size = q := ⟨_, rfl⟩
  rw [hq] at HB ⊢
  clear hq
  have HSL := Lib.hid (HS1.out.gr HG.out)
  go_wp2_with fail
  go_loopg [8] (xs.length + 1) (fun m s8 wr => ∃ k : Nat, s8 = .int .i64 k ∧ Hid (Gr w1 wr) ∧ Hid (k ≤ xs.length ∧ xs.length - k < m ∧ ∀ i, F = some i → k ≤ i))
  case atStart => exact ⟨0, rfl, Fr.refl _ _, Nat.zero_le _, by omega, fun _ _ => Nat.zero_le _⟩
  case round =>
    obtain ⟨k, rfl, HD, HK⟩ := hrel
    have c0 : wr.cell? ⟨q, 0, none⟩ = some (.slice A xs.length cap) := by rw [(HB.out.fr HD.out (fun h => h)).cell]; rfl
    by_cases hk : k < xs.length
    · obtain ⟨b1, o1, rfl, _, hc1⟩ := (HSL.out.gr HD.out).at_ (s := 5) (fun _ => rfl) rfl hk
      have x0 := hc1 0 (by omega)
      have x1 := hc1 1 (by omega)
      have x2 := hc1 2 (by omega)
      have x3 := hc1 3 (by omega)
      have x4 := hc1 4 (by omega)
      clear hc1
      have G1 := Lib.hid (List.getElem?_eq_getElem hk)
      generalize xs[k] = x at x0 x1 x2 x3 x4 G1
      obtain ⟨j1, p1, l1, r1, k1⟩ := x
      simp [encP] at x0 x1 x2 x3 x4
      rw [← Nat.add_assoc] at x1 x2 x3 x4
      have hki : (k : Int) < xs.length := by omega
      have Hk := Lib.hid hk
      clear hk
      by_cases hm : j1 = true ∧ l1 = l ∧ r1 = r
      · obtain ⟨rfl, rfl, rfl⟩ := hm
        have HFk : F = some k := by
          apply Decidable.byContradiction
          intro hne
          refine Hlt.out k _ (fun i hi => ?_) G1.out ⟨rfl, rfl, rfl⟩
          have := HK.out.2.2 i hi
          rcases Nat.lt_or_eq_of_le this with h | h
          · exact h
          · subst h; exact absurd hi hne
        subst HFk
        go_wp2_with fail
        go_ret2
        exact ⟨rfl, HG.out.trans (HD.out.alloc _) (fun _ _ h => h)⟩
      · have Hno := Lib.hid hm
        have Hnx := Lib.hid (show ∀ i, F = some i → k + 1 ≤ i from fun i hi => by
          have h1 := HK.out.2.2 i hi
          rcases Nat.lt_or_eq_of_le h1 with h | h
          · exact h
          · subst h
            obtain ⟨q', h2, h3⟩ := Hsm.out _ hi
            have := G1.out.symm.trans h2
            injection this with this
            subst this
            exact absurd h3 Hno.out)
        cases j1 with
        | false =>
          clear hm
          go_wp2_with fail
          go_roundg (gk - 1)
          case measure => have := HK.out; omega
          case rel => exact ⟨k + 1, by go_num, HD.out.alloc _, by have := Hk.out; omega, by have := HK.out; omega, Hnx.out⟩
        | true =>
          by_cases hl1 : l1 = l
          · subst hl1
            have hne : (r1 == r) = false := beq_eq_false_iff_ne.2 (fun e => hm ⟨rfl, rfl, e⟩)
            clear hm
            go_wp2_with fail
            go_roundg (gk - 1)
            case measure => have := HK.out; omega
            case rel => exact ⟨k + 1, by go_num, HD.out.alloc _, by have := Hk.out; omega, by have := HK.out; omega, Hnx.out⟩
          · have hne : (l1 == l) = false := beq_eq_false_iff_ne.2 hl1
            clear hm hl1
            go_wp2_with fail
            go_roundg (gk - 1)
            case measure => have := HK.out; omega
            case rel => exact ⟨k + 1, by go_num, HD.out.alloc _, by have := Hk.out; omega, by have := HK.out; omega, Hnx.out⟩
    · have hkk : decide ((k : Int) < xs.length) = false := decide_eq_false (by omega)
      have HFn : F = none := by
        cases F with
        | none => rfl
        | some i =>
          exfalso
          obtain ⟨q', h2, _⟩ := Hsm.out i rfl
          have h3 := (List.getElem?_eq_some_iff.1 h2).1
          have := HK.out.2.2 i rfl
          omega
      subst HFn
      go_wp2_with fail
      go_ret2
      exact ⟨rfl, HG.out.trans HD.out (fun _ _ h => h)⟩
end Voc
end Go.Proofs.Ytdogccgebgdlmaa
