/- the reference's Find. -/
import Derived.Test.YtildhlneldoffaaVFp
import Derived.Test.YtildhlneldoffaaFmay
set_option linter.unusedVariables false
set_option linter.unusedSimpArgs false
namespace Go.Proofs.Ytildhlneldoffaa
open Go.RowKit
namespace Voc
set_option maxRecDepth 20000 in
set_option maxHeartbeats 1600000 in
theorem rfind_any {w : World} {v : Value} {xs : List Pc} (l r : Int) (HS : SL encP w v xs) (hl : xs.length ≤ 1048576) :
    Calls Try.prog 22 #[.agg #[v], .int .i64 l, .int .i64 r] w fun e w' => e = .returned (.tuple #[.int .i64 (fndV (fndF l r xs)), .bool (fndF l r xs).isSome]) ∧ Gr w w' := by
  obtain ⟨A, cap, rfl⟩ := SL.form HS
  have HG := Lib.hid ((Fr.refl w NoneS).alloc (.cells #[.slice A xs.length cap] 24))
  have HB := Lib.hid (Blk.new w 24 #[.slice A xs.length cap])
  have HS1 := Lib.hid HS
  have hl' : (xs.length : Int) ≤ 1048576 := by omega
  have Hlt := Lib.hid (fndF_lt (l := l) (r := r) xs)
  have Hsm := Lib.hid (fndF_some (l := l) (r := r) xs)
  generalize fndF l r xs = F at Hlt Hsm ⊢
  clear HS hl
  go_enter Try.func22, Try.ntmps22
  go_upto_region 1 with (fail)
  generalize World.alloc w _ = w1 at HB HG ⊢
  obtain ⟨q, hq⟩ : ∃ q, w.heap.size = q := ⟨_, rfl⟩
  rw [hq] at HB ⊢
  clear hq
  have HSL := Lib.hid (HS1.out.gr HG.out)
  go_wp2_with fail
  go_loopg [8] (xs.length + 1) (fun m s8 wr => ∃ k : Nat, s8 = .int .i64 k ∧ Hid (Gr w1 wr) ∧ Hid (k ≤ xs.length ∧ xs.length - k < m ∧ ∀ i, F = some i → k ≤ i))
  case atStart => exact ⟨0, rfl, Fr.refl _ _, Nat.zero_le _, by omega, fun _ _ => Nat.zero_le _⟩
  case round =>
    obtain ⟨k, rfl, HD, HK⟩ := hrel
    have c0 : wr.cell? ⟨q, 0, none⟩ = some (.slice A xs.length cap) := by rw [(HB.out.fr HD.out (fun h => h)).cell]; rfl
    by_cases hk : k < xs.length
    · obtain ⟨b1, o1, rfl, _, hc1⟩ := (HSL.out.gr HD.out).at_ (s := 5) (fun _ => rfl) rfl hk
      have x0 := hc1 0 (by omega)
      have x1 := hc1 1 (by omega)
      have x2 := hc1 2 (by omega)
      have x3 := hc1 3 (by omega)
      have x4 := hc1 4 (by omega)
      clear hc1
      have G1 := Lib.hid (List.getElem?_eq_getElem hk)
      generalize xs[k] = x at x0 x1 x2 x3 x4 G1
      obtain ⟨j1, p1, l1, r1, k1⟩ := x
      simp [encP] at x0 x1 x2 x3 x4
      rw [← Nat.add_assoc] at x1 x2 x3 x4
      have hki : (k : Int) < xs.length := by omega
      have Hk := Lib.hid hk
      clear hk
      by_cases hm : j1 = true ∧ l1 = l ∧ r1 = r
      · obtain ⟨rfl, rfl, rfl⟩ := hm
        have HFk : F = some k := by
          apply Decidable.byContradiction
          intro hne
          refine Hlt.out k _ (fun i hi => ?_) G1.out ⟨rfl, rfl, rfl⟩
          have := HK.out.2.2 i hi
          rcases Nat.lt_or_eq_of_le this with h | h
          · exact h
          · subst h; exact absurd hi hne
        subst HFk
        go_wp2_with fail
        go_ret2
        exact ⟨rfl, HG.out.trans (HD.out.alloc _) (fun _ _ h => h)⟩
      · have Hno := Lib.hid hm
        have Hnx := Lib.hid (show ∀ i, F = some i → k + 1 ≤ i from fun i hi => by
          have h1 := HK.out.2.2 i hi
          rcases Nat.lt_or_eq_of_le h1 with h | h
          · exact h
          · subst h
            obtain ⟨q', h2, h3⟩ := Hsm.out _ hi
            have := G1.out.symm.trans h2
            injection this with this
            subst this
            exact absurd h3 Hno.out)
        cases j1 with
        | false =>
          clear hm
          go_wp2_with fail
          go_roundg (gk - 1)
          case measure => have := HK.out; omega
          case rel => exact ⟨k + 1, by go_num, HD.out.alloc _, by have := Hk.out; omega, by have := HK.out; omega, Hnx.out⟩
        | true =>
          by_cases hl1 : l1 = l
          · subst hl1
            have hne : (r1 == r) = false := beq_eq_false_iff_ne.2 (fun e => hm ⟨rfl, rfl, e⟩)
            clear hm
            go_wp2_with fail
            go_roundg (gk - 1)
            case measure => have := HK.out; omega
            case rel => exact ⟨k + 1, by go_num, HD.out.alloc _, by have := Hk.out; omega, by have := HK.out; omega, Hnx.out⟩
          · have hne : (l1 == l) = false := beq_eq_false_iff_ne.2 hl1
            clear hm hl1
            go_wp2_with fail
            go_roundg (gk - 1)
            case measure => have := HK.out; omega
            case rel => exact ⟨k + 1, by go_num, HD.out.alloc _, by have := Hk.out; omega, by have := HK.out; omega, Hnx.out⟩
    · have hkk : decide ((k : Int) < xs.length) = false := decide_eq_false (by omega)
      have HFn : F = none := by
        cases F with
        | none => rfl
        | some i =>
          exfalso
          obtain ⟨q', h2, _⟩ := Hsm.out i rfl
          have h3 := (List.getElem?_eq_some_iff.1 h2).1
          have := HK.out.2.2 i rfl
          omega
      subst HFn
      go_wp2_with fail
      go_ret2
      exact ⟨rfl, HG.out.trans HD.out (fun _ _ h => h)⟩
end Voc
end Go.Proofs.Ytildhlneldoffaa
