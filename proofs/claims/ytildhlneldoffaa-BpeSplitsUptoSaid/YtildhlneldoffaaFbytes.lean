/- the reference's vocab: bytes, Expand. -/
import Derived.Test.YtildhlneldoffaaVPe
import Derived.Test.YtildhlneldoffaaFmay
set_option linter.unusedVariables false
set_option linter.unusedSimpArgs false
namespace Go.Proofs.Ytildhlneldoffaa
open Go.RowKit
namespace Voc
set_option maxRecDepth 20000 in
set_option maxHeartbeats 4000000 in
theorem rbytes_any {v : Value} {xs : List Pc} (hb : Back xs) : ∀ (f n : Nat), n < f → n < xs.length → ∀ (w : World), SL encP w v xs → (expB xs f n).length ≤ 1048576 →
    Calls Try.prog 55 #[.agg #[v], .int .i64 (n : Int)] w fun e w' => ∃ tv, e = .returned tv ∧ w'.ownsRow w.heap.size 5 1 tv (expB xs f n).length ((expB xs f n).flatMap encB) ∧ Gr w w' := by
  intro f
  induction f with
  | zero => intro n h; omega
  | succ f ih =>
  intro n hnf hnx w hsl hmax
  obtain ⟨A, cap, rfl⟩ := SL.form hsl
  obtain ⟨ba, oa, rfl, hba, hcell⟩ := hsl.at_ (s := 5) (fun _ => rfl) rfl hnx
  have d0 := hcell 0 (by omega)
  have d1 := hcell 1 (by omega)
  have d2 := hcell 2 (by omega)
  have d3 := hcell 3 (by omega)
  have d4 := hcell 4 (by omega)
  clear hcell
  simp [encP] at d0 d1 d2 d3 d4
  rw [← Nat.add_assoc] at d1 d2 d3 d4
  have Hget := Lib.hid (show xs[n]? = some (xs[n]'hnx) from List.getElem?_eq_getElem hnx)
  generalize xs[n]'hnx = q at d0 d1 d2 d3 d4 Hget
  obtain ⟨jj, bb, l, r, kk⟩ := q
  simp only at d0 d1 d2 d3 d4
  have hki : (n : Int) < xs.length := by omega
  have HSL := Lib.hid hsl
  have HM := Lib.hid hmax
  have Hba := Lib.hid hba
  have Hn := Lib.hid hnf
  clear hsl hmax hba hnf
  go_enter Try.func55, Try.ntmps55
  go_upto_region 1 with (fail)
  have HB3 := Lib.hid (Blk.new w 24 #[.slice (some ⟨ba, oa, none⟩) xs.length cap])
  have HG3 := Lib.hid ((Fr.refl w NoneS).alloc (.cells #[.slice (some ⟨ba, oa, none⟩) xs.length cap] 24))
  obtain ⟨p3, hp3⟩ : ∃ p, w.heap.size = p := ⟨_, rfl⟩
  rw [hp3] at HB3 ⊢
  have Hp3 := Lib.hid hp3
  clear hp3
  generalize World.alloc w _ = w0 at HB3 HG3 ⊢
  replace d0 := (HG3.out.cell (p := ⟨ba, oa + n * 5, none⟩) Hba.out (fun h => h)).trans d0
  replace d1 := (HG3.out.cell (p := ⟨ba, oa + n * 5 + 1, none⟩) Hba.out (fun h => h)).trans d1
  replace d2 := (HG3.out.cell (p := ⟨ba, oa + n * 5 + 2, none⟩) Hba.out (fun h => h)).trans d2
  replace d3 := (HG3.out.cell (p := ⟨ba, oa + n * 5 + 3, none⟩) Hba.out (fun h => h)).trans d3
  replace d4 := (HG3.out.cell (p := ⟨ba, oa + n * 5 + 4, none⟩) Hba.out (fun h => h)).trans d4
  have e0 : w0.cell? ⟨p3, 0, none⟩ = some (.slice (some ⟨ba, oa, none⟩) xs.length cap) := by rw [HB3.out.cell]; rfl
  go_upto_region 2 with (fail)
  clear d0 d1 d2 d3 d4 e0
  have HB7 := Lib.hid (Blk.new w0 TPc #[.bool jj, .int .u8 bb, .int .i64 l, .int .i64 r, .int .u32 kk])
  have HGx := Lib.hid ((Fr.refl w0 NoneS).alloc (.cells #[.bool jj, .int .u8 bb, .int .i64 l, .int .i64 r, .int .u32 kk] TPc))
  have HG := Lib.hid (HG3.out.trans HGx.out (fun _ _ h => h))
  have HB3 := Lib.hid (HB3.out.fr HGx.out (fun h => h))
  obtain ⟨p7, hp7⟩ : ∃ p, w0.heap.size = p := ⟨_, rfl⟩
  rw [hp7] at HB7 ⊢
  clear HGx HG3 hp7
  generalize World.alloc w0 _ = w1 at HB7 HB3 HG ⊢
  have e0 : w1.cell? ⟨p3, 0, none⟩ = some (.slice (some ⟨ba, oa, none⟩) xs.length cap) := by rw [HB3.out.cell]; rfl
  have f0 : w1.cell? ⟨p7, 0, none⟩ = some (.bool jj) := by rw [HB7.out.cell]; rfl
  have f1 : w1.cell? ⟨p7, 1, none⟩ = some (.int .u8 bb) := by rw [HB7.out.cell]; rfl
  have f2 : w1.cell? ⟨p7, 2, none⟩ = some (.int .i64 l) := by rw [HB7.out.cell]; rfl
  have f3 : w1.cell? ⟨p7, 3, none⟩ = some (.int .i64 r) := by rw [HB7.out.cell]; rfl
  cases jj with
  | false =>
    have hex : expB xs (f + 1) (n : Int) = [bb] := by simp only [expB, Int.toNat_natCast, Hget.out]; rfl
    have Hex := Lib.hid hex
    clear hex ih
    go_wp2_with fail
    go_ret
    rw [Hex.out]
    refine ⟨_, rfl, ?_, HG.out.alloc _⟩
    refine ⟨rfl, .inr ⟨w1.heap.size, 1, _, rfl, HG.out.size, heap_alloc_new w1 _, Nat.le_refl _, by unfold maxLen; omega, rfl, rfl⟩⟩
  | true =>
    obtain ⟨⟨hl0, hl1⟩, hr0, hr1⟩ := hb n _ Hget.out rfl
    simp only at hl0 hl1 hr0 hr1
    obtain ⟨i, rfl⟩ : ∃ i : Nat, l = i := ⟨l.toNat, by omega⟩
    obtain ⟨j, rfl⟩ : ∃ j : Nat, r = j := ⟨r.toNat, by omega⟩
    have hi : i < n := by omega
    have hj : j < n := by omega
    have hex : expB xs (f + 1) (n : Int) = expB xs f i ++ expB xs f j := by simp only [expB, Int.toNat_natCast, Hget.out]; rfl
    rw [hex] at HM
    have Hex := Lib.hid hex
    clear hl0 hl1 hr0 hr1 hex
    have hlen := HM.out
    rw [List.length_append] at hlen
    have Hlen := Lib.hid hlen
    have HI := Lib.hid (ih i (by have := Hn.out; omega) (by omega) w1 (HSL.out.gr HG.out) (by omega))
    have HJ := Lib.hid (show ∀ w2, Gr w1 w2 → Calls Try.prog 55 #[.agg #[.slice (some ⟨ba, oa, none⟩) xs.length cap], .int .i64 (j : Int)] w2 fun e w' => ∃ tv, e = .returned tv ∧ w'.ownsRow w2.heap.size 5 1 tv (expB xs f j).length ((expB xs f j).flatMap encB) ∧ Gr w2 w' from fun w2 h =>
      ih j (by have := Hn.out; omega) (by omega) w2 ((HSL.out.gr HG.out).gr h) (by omega))
    clear hlen ih
    generalize expB xs f i = bl at HI HM Hex Hlen
    generalize expB xs f j = br at HJ HM Hex Hlen
    go_upto_region 5 with (
      go_at_call 55
      refine HI.out.mono ?_
      rintro e w2 ⟨t2, rfl, ho, hg⟩
      have HO2 := Lib.hid ho
      have HG2 := Lib.hid hg
      clear ho hg)
    clear e0 f0 f1 f2 f3
    have e0 : w2.cell? ⟨p3, 0, none⟩ = some (.slice (some ⟨ba, oa, none⟩) xs.length cap) := by rw [(HB3.out.fr HG2.out (fun h => h)).cell]; rfl
    have f3 : w2.cell? ⟨p7, 3, none⟩ = some (.int .i64 j) := by rw [(HB7.out.fr HG2.out (fun h => h)).cell]; rfl
    go_upto_region 6 with (
      go_at_call 55
      refine (HJ.out w2 HG2.out).mono ?_
      rintro e w3 ⟨t3, rfl, ho, hg⟩
      have HO3 := Lib.hid ho
      have HG3 := Lib.hid hg
      clear ho hg)
    have HO4 := Lib.hid (HG3.out.owns HO2.out (fun _ _ h => h))
    have HS3 := Lib.hid (SL.of_own (enc := encB) (xs := br) HO3.out rfl)
    obtain ⟨i0, hi0, hz0, hz1, hz2⟩ := info_parts info_u8
    have Hsz := Lib.hid (Nat.le_trans HG2.out.size HG3.out.size)
    go_wp2_with (
      at_builtin
      refine wpList_append_sl _ encB rfl _ _ 25 rfl w1.heap.size 5 i0 (.int .u8 0) 1 1 Try.underlying25 hi0 hz0 hz1 hz2 rfl (by decide) t2 _ _ rfl HO4.out t3 br rfl HS3.out (fun _ => rfl) encB_one (by have := Hlen.out; simp only [maxLen]; omega) (by have := Hlen.out; omega) Hsz.out ?_
      intro v4 w4 ho hf hat
      have HO5 := Lib.hid ho
      have HF5 := Lib.hid hf
      clear ho hf hat)
    go_ret
    rw [Hex.out]
    refine ⟨_, rfl, ?_, ((HG.out.trans HG2.out (fun _ _ h => h)).trans HG3.out (fun _ _ h => h)).trans HF5.out (fun k hk h => by have := (HO2.out.lt k h).1; have := HG.out.size; omega)⟩
    rw [List.length_append, List.flatMap_append]
    exact own_base HO5.out HG.out.size
set_option maxRecDepth 20000 in
set_option maxHeartbeats 4000000 in
theorem rexpand_any {w : World} {v : Value} {xs : List Pc} (n : Int) (HS : SL encP w v xs) (hw : ∀ q ∈ xs, wfP q) (hl : xs.length ≤ 1048576) (hmx : (expE xs n).length ≤ 1048576) :
    Calls Try.prog 46 #[.agg #[v], .int .i64 n] w fun e w' => ∃ tv, e = .returned (.tuple #[tv, .int .i64 (sizeE xs n).2]) ∧ w'.ownsRow w.heap.size 5 1 tv (expE xs n).length ((expE xs n).flatMap encB) ∧ Gr w w' := by
  have HS1 := Lib.hid HS
  obtain ⟨A, cap, rfl⟩ := SL.form HS
  have HG := Lib.hid ((Fr.refl w NoneS).alloc (.cells #[.slice A xs.length cap] 24))
  have HB := Lib.hid (Blk.new w 24 #[.slice A xs.length cap])
  have hsz : (w.alloc (.cells #[.slice A xs.length cap] 24)).heap.size = w.heap.size + 1 := by simp
  have Hsz := Lib.hid hsz
  clear hsz
  obtain ⟨b, hb⟩ : ∃ b, decide ((checkE xs).1 = 0) = b := ⟨_, rfl⟩
  have HM := Lib.hid (may_any (HS.gr HG.out) hw hl b hb)
  obtain ⟨⟨r1, r2⟩, hr⟩ : ∃ x, sizeE xs n = x := ⟨_, rfl⟩
  have HX := Lib.hid (show r2 = 0 → Ok xs (szF [] xs) ∧ 0 ≤ n ∧ n < xs.length ∧ expE xs n = expB xs (n.toNat + 1) n from fun h => by
    have h2 : (sizeE xs n).2 = 0 := by rw [hr]; exact h
    obtain ⟨a, _, c, d, e⟩ := size_ok h2
    exact ⟨a, c, d, by unfold expE; rw [if_pos h2]⟩)
  have HY := Lib.hid (show r2 ≠ 0 → expE xs n = [] from fun h => by unfold expE; rw [hr, if_neg h])
  have HZ := Lib.hid (show (b = false → r2 = 11) ∧ (b = true → (n < 0 ∨ (xs.length : Int) ≤ n) → r2 = 2) ∧ (b = true → ¬ (n < 0 ∨ (xs.length : Int) ≤ n) → r2 = 0) from by
    unfold sizeE at hr
    refine ⟨fun h => ?_, fun h h1 => ?_, fun h h1 => ?_⟩
    · rw [h] at hb
      rw [if_pos (of_decide_eq_false hb)] at hr
      injection hr with _ hr; exact hr.symm
    · rw [h] at hb
      rw [if_neg (by simpa using of_decide_eq_true hb), if_pos h1] at hr
      injection hr with _ hr; exact hr.symm
    · rw [h] at hb
      rw [if_neg (by simpa using of_decide_eq_true hb), if_neg h1] at hr
      injection hr with _ hr; exact hr.symm)
  rw [hr]
  simp only
  have Hmx := Lib.hid hmx
  clear HS hw hl hb hr hmx
  generalize hbs : expE xs n = bs at HX HY Hmx ⊢
  clear hbs
  go_enter Try.func46, Try.ntmps46
  generalize hx : World.alloc w (.cells #[.slice A xs.length cap] 24) = wa at HG HB HM Hsz
  have f0 : wa.cell? ⟨w.heap.size, 0, none⟩ = some (.slice A xs.length cap) := by rw [HB.out.cell]; rfl
  have HXX := Lib.hid hx
  clear hx
  cases b with
  | false =>
    obtain rfl := HZ.out.1 rfl
    go_wp2_with (go_at_call 47; rw [HXX.out]; refine HM.out.mono ?_; rintro e w3 ⟨rfl, hg⟩; have HG3 := Lib.hid hg; clear hg)
    go_ret2
    exact ⟨_, rfl, by rw [HY.out (by decide)]; exact World.ownsRow_nil _ _ _ _, HG.out.trans HG3.out (fun _ _ h => h)⟩
  | true =>
    go_upto_region 3 with (go_at_call 47; rw [HXX.out]; refine HM.out.mono ?_; rintro e w3 ⟨rfl, hg⟩; have HG3 := Lib.hid hg; clear hg)
    have c3 := (HG3.out.cell (p := ⟨w.heap.size, 0, none⟩) HB.out.lt (fun h => h)).trans f0
    have HG4 := Lib.hid (HG.out.trans HG3.out (fun _ _ h => h))
    by_cases hn : n < 0 ∨ (xs.length : Int) ≤ n
    · obtain rfl := HZ.out.2.1 (by trivial) hn
      rcases hn with hn | hn
      · go_wp2_with fail
        go_ret2
        exact ⟨_, rfl, by rw [HY.out (by decide)]; exact World.ownsRow_nil _ _ _ _, HG4.out⟩
      · by_cases hn0 : n < 0
        · go_wp2_with fail
          go_ret2
          exact ⟨_, rfl, by rw [HY.out (by decide)]; exact World.ownsRow_nil _ _ _ _, HG4.out⟩
        · have hge : n ≥ (xs.length : Int) := hn
          go_wp2_with fail
          go_ret2
          exact ⟨_, rfl, by rw [HY.out (by decide)]; exact World.ownsRow_nil _ _ _ _, HG4.out⟩
    · obtain rfl := HZ.out.2.2 (by trivial) hn
      obtain ⟨hok, hn0, hn1, rfl⟩ := HX.out rfl
      obtain ⟨i, rfl⟩ : ∃ i : Nat, n = i := ⟨n.toNat, by omega⟩
      have HC := Lib.hid (rbytes_any hok.back (i + 1) i (by omega) (by omega) w3 ((HS1.out.gr HG.out).gr HG3.out) Hmx.out)
      have hi0 : (i : Int) < xs.length := hn1
      have hi1 : ¬ (i : Int) ≥ xs.length := by omega
      clear hn hn0 hn1
      go_wp2_with (
        go_at_call 55
        refine HC.out.mono ?_
        rintro e w4 ⟨tv, rfl, ho, hg⟩
        have HO := Lib.hid ho
        have HG5 := Lib.hid hg
        clear ho hg)
      go_ret2
      exact ⟨_, rfl, own_base HO.out HG4.out.size, HG4.out.trans HG5.out (fun _ _ h => h)⟩
end Voc
end Go.Proofs.Ytildhlneldoffaa
