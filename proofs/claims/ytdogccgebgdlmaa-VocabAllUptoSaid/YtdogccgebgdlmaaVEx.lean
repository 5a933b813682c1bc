/- vocab: expand. -/
import Derived.Test.YtdogccgebgdlmaaVIn
import Derived.Test.YtdogccgebgdlmaaLib
set_option linter.unusedVariables false
set_option linter.unusedSimpArgs false
namespace Go.Proofs.Ytdogccgebgdlmaa
open Go.RowKit
namespace Voc
def EX (w : World) (base : Nat) (tv tv' : Value) (m : Nat) (ts bs : List Int) (w' : World) : Prop :=
  w'.ownsRow base 5 1 tv' (m + bs.length) ((ts ++ bs).flatMap encB) ∧ Fr w w' (fun k => tv.ownBlock = some k) ∧ (tv'.ownBlock = tv.ownBlock ∨ ∃ k, tv'.ownBlock = some k ∧ w.heap.size ≤ k) ∧ (SpareT IsB w tv → SpareT IsB w' tv')

set_option maxRecDepth 20000 in
set_option maxHeartbeats 4000000 in
theorem expand_any {v : Value} {xs : List Pc} (hb : Back xs) : ∀ (f n : Nat), n < f → n < xs.length → ∀ (w : World) (base : Nat) (tv : Value) (m : Nat) (ts : List Int), SL encP w v xs → (∀ k, v.ownBlock = some k → k < base) → base ≤ w.heap.size → w.ownsRow base 5 1 tv m (ts.flatMap encB) → m + (expB xs f n).length ≤ 1048576 →
    Calls Try.prog 38 #[.agg #[v], .int .i64 (n : Int), tv] w fun e w' => ∃ tv', e = .returned tv' ∧ EX w base tv tv' m ts (expB xs f n) w' := by
  intro f
  induction f with
  | zero => intro n h; omega
  | succ f ih =>
  intro n hnf hnx w base tv m ts hsl hlow hbase hown hmax
  obtain ⟨A, cap, rfl⟩ := SL.form hsl
  obtain ⟨ba, oa, rfl, hba, hcell⟩ := hsl.at_ (s := 5) (fun _ => rfl) rfl hnx
  have d0 := hcell 0 (by omega)
  have d1 := hcell 1 (by omega)
  have d2 := hcell 2 (by omega)
  have d3 := hcell 3 (by omega)
  have d4 := hcell 4 (by omega)
  clear hcell
  simp [encP] at d0 d1 d2 d3 d4
  rw [← Nat.add_assoc] at d1 d2 d3 d4
  have Hget := Lib.hid (show xs[n]? = some (xs[n]'hnx) from List.getElem?_eq_getElem hnx)
  generalize xs[n]'hnx = q at d0 d1 d2 d3 d4 Hget
  obtain ⟨jj, bb, l, r, kk⟩ := q
  simp only at d0 d1 d2 d3 d4
  have hki : (n : Int) < xs.length := by omega
  have HSL := Lib.hid hsl
  have HLow := Lib.hid hlow
  have HO := Lib.hid hown
  have HM := Lib.hid hmax
  have Hba := Lib.hid hba
  have Hbs := Lib.hid hbase
  have Hn := Lib.hid hnf
  obtain ⟨At, ct, rfl⟩ := own_formN hown
  clear hsl hlow hown hmax hba hbase hnf
  go_enter Try.func38, Try.ntmps38
  go_upto_region 1 with (fail)
  have HB3 := Lib.hid (Blk.new w 24 #[.slice (some ⟨ba, oa, none⟩) xs.length cap])
  have HG3 := Lib.hid ((Fr.refl w NoneS).alloc (.cells #[.slice (some ⟨ba, oa, none⟩) xs.length cap] 24))
  obtain ⟨p3, hp3⟩ : ∃ p, w.heap.size = p := ⟨_, rfl⟩
  rw [hp3] at HB3 ⊢
  have Hp3 := Lib.hid hp3
  clear hp3
  generalize World.alloc w _ = w0 at HB3 HG3 ⊢
  replace d0 := (HG3.out.cell (p := ⟨ba, oa + n * 5, none⟩) Hba.out (fun h => h)).trans d0
  replace d1 := (HG3.out.cell (p := ⟨ba, oa + n * 5 + 1, none⟩) Hba.out (fun h => h)).trans d1
  replace d2 := (HG3.out.cell (p := ⟨ba, oa + n * 5 + 2, none⟩) Hba.out (fun h => h)).trans d2
  replace d3 := (HG3.out.cell (p := ⟨ba, oa + n * 5 + 3, none⟩) Hba.out (fun h => h)).trans d3
  replace d4 := (HG3.out.cell (p := ⟨ba, oa + n * 5 + 4, none⟩) Hba.out (fun h => h)).trans d4
  have e0 : w0.cell? ⟨p3, 0, none⟩ = some (.slice (some ⟨ba, oa, none⟩) xs.length cap) := by rw [HB3.out.cell]; rfl
  go_upto_region 2 with (fail)
  clear d0 d1 d2 d3 d4 e0
  have HB7 := Lib.hid (Blk.new w0 TPc #[.bool jj, .int .u8 bb, .int .i64 l, .int .i64 r, .int .u32 kk])
  have HGx := Lib.hid ((Fr.refl w0 NoneS).alloc (.cells #[.bool jj, .int .u8 bb, .int .i64 l, .int .i64 r, .int .u32 kk] TPc))
  have HG := Lib.hid (HG3.out.trans HGx.out (fun _ _ h => h))
  have HB3 := Lib.hid (HB3.out.fr HGx.out (fun h => h))
  obtain ⟨p7, hp7⟩ : ∃ p, w0.heap.size = p := ⟨_, rfl⟩
  rw [hp7] at HB7 ⊢
  have Hp7 := Lib.hid (show w.heap.size ≤ p7 by rw [← hp7]; exact HG3.out.size)
  clear HGx HG3 hp7
  generalize World.alloc w0 _ = w1 at HB7 HB3 HG ⊢
  have e0 : w1.cell? ⟨p3, 0, none⟩ = some (.slice (some ⟨ba, oa, none⟩) xs.length cap) := by rw [HB3.out.cell]; rfl
  have f0 : w1.cell? ⟨p7, 0, none⟩ = some (.bool jj) := by rw [HB7.out.cell]; rfl
  have f1 : w1.cell? ⟨p7, 1, none⟩ = some (.int .u8 bb) := by rw [HB7.out.cell]; rfl
  have f2 : w1.cell? ⟨p7, 2, none⟩ = some (.int .i64 l) := by rw [HB7.out.cell]; rfl
  have f3 : w1.cell? ⟨p7, 3, none⟩ = some (.int .i64 r) := by rw [HB7.out.cell]; rfl
  have HO1 := Lib.hid (HG.out.owns HO.out (fun _ _ h => h))
  cases jj with
  | false =>
    have hex : expB xs (f + 1) (n : Int) = [bb] := by simp only [expB, Int.toNat_natCast, Hget.out]; rfl
    have Hex := Lib.hid hex
    have hmx : m + 1 ≤ 1048576 := by have h := HM.out; rw [hex] at h; exact h
    have Hmx := Lib.hid hmx
    clear hex hmx
    obtain ⟨i0, hi0, hz0, hz1, hz2⟩ := info_parts info_u8
    have Hsz := Lib.hid (Nat.le_trans Hbs.out HG.out.size)
    go_wp2_with (
      at_builtin
      go_loud (refine wpList_append_st _ encB rfl (.tmp 16) (.tmp 19) 37 rfl base 5 i0 (.int .u8 0) 1 1 Try.underlying37 hi0 hz0 hz1 hz2 rfl (by decide) (.slice At m ct) m _ rfl (HO1.out.alloc _) (.slice (some ⟨w1.heap.size, 0, none⟩) 1 1) [bb] rfl (sl_one (enc := encB) w1 bb #[.int .u8 bb] rfl 5) (fun _ => rfl) encB_one (by have := Hmx.out; simp only [maxLen, List.length_singleton]; omega) (by have := Hmx.out; simp only [List.length_singleton]; omega) (by have := Hsz.out; simp; omega) ?_)
      intro v4 w4 hown3 hg3 hat3 hsp3
      rw [← List.flatMap_append] at hown3
      obtain ⟨A3, cap3, rfl⟩ := own_formN hown3
      have HE := Lib.hid (show EX w base (.slice At m ct) (.slice A3 (m + [bb].length) cap3) m ts [bb] w4 from ⟨hown3, ((HG.out.alloc _).mono (fun _ _ h => h.elim)).trans hg3 (fun _ _ h => h), hat3.elim .inl (fun h => .inr ⟨_, h, by have := HG.out.size; simp; omega⟩), fun h => hsp3 IsB (by intro u hu; simp [Value.cells] at hu; exact ⟨0, hu⟩) (encB_isB _) (h.own HO.out (HG.out.alloc _) (fun _ _ h => h))⟩)
      clear hown3 hg3 hat3 hsp3)
    go_ret
    exact ⟨_, rfl, by rw [Hex.out]; exact HE.out⟩
  | true =>
    obtain ⟨⟨hl0, hl1⟩, hr0, hr1⟩ := hb n _ Hget.out rfl
    simp only at hl0 hl1 hr0 hr1
    obtain ⟨i, rfl⟩ : ∃ i : Nat, l = i := ⟨l.toNat, by omega⟩
    obtain ⟨j, rfl⟩ : ∃ j : Nat, r = j := ⟨r.toNat, by omega⟩
    have hi : i < n := by omega
    have hj : j < n := by omega
    have hex : expB xs (f + 1) (n : Int) = expB xs f i ++ expB xs f j := by simp only [expB, Int.toNat_natCast, Hget.out]; rfl
    rw [hex] at HM
    have Hex := Lib.hid hex
    clear hl0 hl1 hr0 hr1 hex
    have hlen := HM.out
    rw [List.length_append] at hlen
    have Hlen := Lib.hid hlen
    have HI := Lib.hid (ih i (by have := Hn.out; omega) (by omega) w1.drew base (.slice At m ct) m ts ((HSL.out.gr HG.out).drew) HLow.out (Nat.le_trans Hbs.out HG.out.size) (HO1.out.drew) (by omega))
    have HJ := Lib.hid (show ∀ tv2 w2, EX w1.drew base (.slice At m ct) tv2 m ts (expB xs f i) w2 → Calls Try.prog 38 #[.agg #[.slice (some ⟨ba, oa, none⟩) xs.length cap], .int .i64 (j : Int), tv2] w2 fun e w' => ∃ tv', e = .returned tv' ∧ EX w2 base tv2 tv' (m + (expB xs f i).length) (ts ++ expB xs f i) (expB xs f j) w' from fun tv2 w2 h =>
      ih j (by have := Hn.out; omega) (by omega) w2 base tv2 _ _ (((HSL.out.gr HG.out).drew).fr h.2.1 (fun k hk e => by have h1 := HLow.out k hk; have h2 := (HO.out.lt k e).1; omega)) HLow.out (Nat.le_trans Hbs.out (Nat.le_trans HG.out.size h.2.1.size)) h.1 (by have := Hlen.out; omega))
    have HK2 := Lib.hid (show ∀ tv2 w2, EX w1.drew base (.slice At m ct) tv2 m ts (expB xs f i) w2 → w2.cell? ⟨p3, 0, none⟩ = some (.slice (some ⟨ba, oa, none⟩) xs.length cap) ∧ w2.cell? ⟨p7, 2, none⟩ = some (.int .i64 (i : Int)) ∧ w2.cell? ⟨p7, 3, none⟩ = some (.int .i64 (j : Int)) from fun tv2 w2 h =>
      ⟨(h.2.1.cell (p := ⟨p3, 0, none⟩) HB3.out.lt (fun e => by have := (HO.out.lt _ e).2; have := Hp3.out; simp only at *; omega)).trans e0,
       (h.2.1.cell (p := ⟨p7, 2, none⟩) HB7.out.lt (fun e => by have := (HO.out.lt _ e).2; have := Hp7.out; simp only at *; omega)).trans f2,
       (h.2.1.cell (p := ⟨p7, 3, none⟩) HB7.out.lt (fun e => by have := (HO.out.lt _ e).2; have := Hp7.out; simp only at *; omega)).trans f3⟩)
    have HK3 := Lib.hid (show ∀ tv2 w2 tv3 w3, EX w1.drew base (.slice At m ct) tv2 m ts (expB xs f i) w2 → EX w2 base tv2 tv3 (m + (expB xs f i).length) (ts ++ expB xs f i) (expB xs f j) w3 → w3.cell? ⟨p3, 0, none⟩ = some (.slice (some ⟨ba, oa, none⟩) xs.length cap) ∧ w3.cell? ⟨p7, 2, none⟩ = some (.int .i64 (i : Int)) ∧ w3.cell? ⟨p7, 3, none⟩ = some (.int .i64 (j : Int)) from fun tv2 w2 tv3 w3 h h' => by
      obtain ⟨k0, k2, k3⟩ := HK2.out tv2 w2 h
      have far : ∀ p, w.heap.size ≤ p → p < w1.heap.size → p < w2.heap.size ∧ ¬ tv2.ownBlock = some p := by
        intro p hp1 hp2
        refine ⟨Nat.lt_of_lt_of_le hp2 h.2.1.size, fun e => ?_⟩
        rcases h.2.2.1 with h2 | ⟨k, h2, h3⟩
        · rw [h2] at e; have := (HO.out.lt _ e).2; omega
        · rw [h2] at e; injection e with e; subst e; have : w1.drew.heap.size = w1.heap.size := rfl; omega
      have a3 := far p3 (by have := Hp3.out; omega) HB3.out.lt
      have a7 := far p7 Hp7.out HB7.out.lt
      exact ⟨(h'.2.1.cell (p := ⟨p3, 0, none⟩) a3.1 a3.2).trans k0, (h'.2.1.cell (p := ⟨p7, 2, none⟩) a7.1 a7.2).trans k2, (h'.2.1.cell (p := ⟨p7, 3, none⟩) a7.1 a7.2).trans k3⟩)
    have HF := Lib.hid (show ∀ tv2 w2 tv3 w3, EX w1.drew base (.slice At m ct) tv2 m ts (expB xs f i) w2 → EX w2 base tv2 tv3 (m + (expB xs f i).length) (ts ++ expB xs f i) (expB xs f j) w3 → EX w base (.slice At m ct) tv3 m ts (expB xs f i ++ expB xs f j) w3 from fun tv2 w2 tv3 w3 h h' => by
      refine ⟨?_, ?_, ?_, fun hs => h'.2.2.2 (h.2.2.2 (hs.own HO.out HG.out.drew (fun _ _ h => h)))⟩
      · rw [List.length_append, ← Nat.add_assoc, ← List.append_assoc]; exact h'.1
      · refine ((HG.out.drew.mono (fun _ _ h => h.elim)).trans h.2.1 (fun _ _ h => h)).trans h'.2.1 (fun k hk e => ?_)
        rcases h.2.2.1 with h2 | ⟨k', h2, h3⟩
        · rw [← h2]; exact e
        · rw [h2] at e; injection e with e; subst e; have := HG.out.size; have : w1.drew.heap.size = w1.heap.size := rfl; omega
      · rcases h'.2.2.1 with h2 | ⟨k', h2, h3⟩
        · rcases h.2.2.1 with h4 | ⟨k', h4, h5⟩
          · exact .inl (h2.trans h4)
          · exact .inr ⟨k', h2.trans h4, by have := HG.out.size; have : w1.drew.heap.size = w1.heap.size := rfl; omega⟩
        · exact .inr ⟨k', h2, by have := HG.out.size; have := h.2.1.size; have : w1.drew.heap.size = w1.heap.size := rfl; omega⟩)
    clear ih
    go_upto_region 4 with (fail)
    refine wp_region_held_drew (S := fun wx => wx.cell? ⟨p3, 0, none⟩ = some (.slice (some ⟨ba, oa, none⟩) xs.length cap) ∧ wx.cell? ⟨p7, 2, none⟩ = some (.int .i64 (i : Int)) ∧ wx.cell? ⟨p7, 3, none⟩ = some (.int .i64 (j : Int))) (by kernel_rfl) ⟨e0, f2, f3⟩ (fun hHeld => ?_)
    refine wpAnyH_take (i := 0) (v := (.agg #[.slice (some ⟨ba, oa, none⟩) xs.length cap])) rfl (by kernel_rfl) (by kernel_rfl) (by kernel_rfl) (fun _ _ _ h => h) (Or.inl ⟨by kernel_rfl, ?_⟩) (by with_reducible assumption) ?_
    focus (intro w hSw; (try dsimp only at hSw); go_simp)
    try simp only [Act.put, List.getElem_toArray, List.getElem_cons_succ, List.getElem_cons_zero, List.setIfInBounds_toArray, List.set_cons_zero, List.set_cons_succ]
    refine wpAnyH_take (i := 1) (v := (.pointer (some ⟨p7, 3, none⟩))) rfl (by kernel_rfl) (by kernel_rfl) (by kernel_rfl) (fun _ _ _ h => h) (Or.inl ⟨by kernel_rfl, ?_⟩) (by with_reducible assumption) ?_
    focus (intro w hSw; (try dsimp only at hSw); go_simp)
    try simp only [Act.put, List.getElem_toArray, List.getElem_cons_succ, List.getElem_cons_zero, List.setIfInBounds_toArray, List.set_cons_zero, List.set_cons_succ]
    refine wpAnyH_take (i := 2) (v := (.int .i64 (j : Int))) rfl (by kernel_rfl) (by kernel_rfl) (by kernel_rfl) (fun _ _ _ h => h) (Or.inl ⟨by kernel_rfl, ?_⟩) (by with_reducible assumption) ?_
    focus (intro w hSw; (try dsimp only at hSw); go_simp)
    try simp only [Act.put, List.getElem_toArray, List.getElem_cons_succ, List.getElem_cons_zero, List.setIfInBounds_toArray, List.set_cons_zero, List.set_cons_succ]
    refine wpAnyH_take (i := 3) (v := (.agg #[.slice (some ⟨ba, oa, none⟩) xs.length cap])) rfl (by kernel_rfl) (by kernel_rfl) (by kernel_rfl) (fun _ _ _ h => h) (Or.inl ⟨by kernel_rfl, ?_⟩) (by with_reducible assumption) ?_
    focus (intro w hSw; (try dsimp only at hSw); go_simp)
    try simp only [Act.put, List.getElem_toArray, List.getElem_cons_succ, List.getElem_cons_zero, List.setIfInBounds_toArray, List.set_cons_zero, List.set_cons_succ]
    refine wpAnyH_take (i := 4) (v := (.pointer (some ⟨p7, 2, none⟩))) rfl (by kernel_rfl) (by kernel_rfl) (by kernel_rfl) (fun _ _ _ h => h) (Or.inl ⟨by kernel_rfl, ?_⟩) (by with_reducible assumption) ?_
    focus (intro w hSw; (try dsimp only at hSw); go_simp)
    try simp only [Act.put, List.getElem_toArray, List.getElem_cons_succ, List.getElem_cons_zero, List.setIfInBounds_toArray, List.set_cons_zero, List.set_cons_succ]
    refine wpAnyH_take (i := 5) (v := (.int .i64 (i : Int))) rfl (by kernel_rfl) (by kernel_rfl) (by kernel_rfl) (fun _ _ _ h => h) (Or.inl ⟨by kernel_rfl, ?_⟩) (by with_reducible assumption) ?_
    focus (intro w hSw; (try dsimp only at hSw); go_simp)
    try simp only [Act.put, List.getElem_toArray, List.getElem_cons_succ, List.getElem_cons_zero, List.setIfInBounds_toArray, List.set_cons_zero, List.set_cons_succ]
    refine wpAnyH_take (i := 6) (v := (.slice At m ct)) rfl (by kernel_rfl) (by kernel_rfl) (by kernel_rfl) (fun _ _ _ h => h) (Or.inl ⟨by kernel_rfl, ?_⟩) (by with_reducible assumption) ?_
    focus (intro w hSw; (try dsimp only at hSw); go_simp)
    try simp only [Act.put, List.getElem_toArray, List.getElem_cons_succ, List.getElem_cons_zero, List.setIfInBounds_toArray, List.set_cons_zero, List.set_cons_succ]
    refine wpAnyH_ready (rs := [7]) (by kernel_rfl) (by simp) ?_
    refine AllReadyH.cons rfl ?_ AllReadyH.nil
    intro K hK
    go_simp
    go_at_call 38
    refine HI.out.mono ?_
    rintro e w2 ⟨tv2, rfl, hx2⟩
    have HX2 := Lib.hid hx2
    clear hx2
    refine hK.out _ _ (HK2.out _ _ HX2.out) (fun hHeld => ?_)
    clear hK K
    try simp only [Act.put, List.getElem_toArray, List.getElem_cons_succ, List.getElem_cons_zero, List.setIfInBounds_toArray, List.set_cons_zero, List.set_cons_succ]
    refine wpAnyH_ready (rs := [8]) (by kernel_rfl) (by simp) ?_
    refine AllReadyH.cons rfl ?_ AllReadyH.nil
    intro K hK
    go_simp
    go_at_call 38
    refine (HJ.out tv2 w2 HX2.out).mono ?_
    rintro e w3 ⟨tv3, rfl, hx3⟩
    have HX3 := Lib.hid hx3
    clear hx3
    refine hK.out _ _ (HK3.out _ _ _ _ HX2.out HX3.out) (fun hHeld => ?_)
    clear hK K
    try simp only [Act.put, List.getElem_toArray, List.getElem_cons_succ, List.getElem_cons_zero, List.setIfInBounds_toArray, List.set_cons_zero, List.set_cons_succ]
    refine wpAnyH_take (i := 9) (v := tv3) rfl (by kernel_rfl) (by kernel_rfl) (by kernel_rfl) (fun _ _ _ h => h) (Or.inl ⟨by kernel_rfl, ?_⟩) (by with_reducible assumption) ?_
    focus (intro w hSw; (try dsimp only at hSw); go_simp)
    try simp only [Act.put, List.getElem_toArray, List.getElem_cons_succ, List.getElem_cons_zero, List.setIfInBounds_toArray, List.set_cons_zero, List.set_cons_succ]
    refine wpAnyH_done (by kernel_rfl) ?_ _
    clear hHeld
    go_wp2_with fail
    go_ret
    exact ⟨_, rfl, by rw [Hex.out]; exact HF.out _ _ _ _ HX2.out HX3.out⟩
end Voc
end Go.Proofs.Ytdogccgebgdlmaa
