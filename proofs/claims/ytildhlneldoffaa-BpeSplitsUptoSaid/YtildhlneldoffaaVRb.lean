/- the reference's vocab: a join. -/
import Derived.Test.YtildhlneldoffaaVRa
set_option linter.unusedVariables false
set_option linter.unusedSimpArgs false
namespace Go.Proofs.Ytildhlneldoffaa
open Go.RowKit
namespace Voc
def hit (q x : Pc) : Bool := x.j && ((x.l == q.l && x.r == q.r) || x.k == q.k)
theorem any_hit (q : Pc) : ∀ ps : List Pc, (ps.any (sameP q) || ps.any (sameK q)) = ps.any (hit q)
  | [] => rfl
  | x :: r => by
    have ih := any_hit q r
    simp only [List.any_cons, ← ih]
    simp only [sameP, sameK, hit]
    cases x.j <;> cases (x.l == q.l && x.r == q.r) <;> cases (x.k == q.k) <;> simp
theorem RN.sizes {w : World} {base p : Nat} {ps : List Pc} {sz : List Nat} {sv : Value} (H : RN w base p ps sz sv) {i : Nat} (hi : i < ps.length) :
    ∃ g cap, sv = .slice (some ⟨g, 0, none⟩) ps.length cap ∧ ∀ m, m < ps.length → w.cell? ⟨g, m, none⟩ = some (.int .i64 (szAt sz (m : Int))) := by
  have hO := H.own
  rcases hO.2 with ⟨rfl, h0⟩ | ⟨g, cap, cur, rfl, _, _, _, _, _, _⟩
  · omega
  · refine ⟨g, cap, rfl, fun m hm => ?_⟩
    rw [hO.cellAt (g := g) (cap := cap) m (by omega)]
    have h1 := get_flatMap' encN 1 (by omega) (fun _ => rfl) sz m
    rw [h1, Nat.div_one, Nat.mod_one]
    have hm' : m < sz.length := by rw [H.len]; exact hm
    rw [List.getElem?_eq_getElem hm']
    simp [encN, szAt, hm']

set_option maxRecDepth 20000 in
set_option maxHeartbeats 4000000 in
theorem rjoin {w : World} {base p : Nat} {xs : List Pc} {sz : List Nat} {v sv : Value} (n : Nat) (b l r k : Int) (H : RN w base p (xs.take n) sz sv) (hsl : SL encP w v xs) (hq : xs[n]? = some ⟨true, b, l, r, k⟩) (hs : ∀ s ∈ sz, s ≤ 256) (hn : n < 4096) (hb : base ≤ w.heap.size) (E : Int) (hE : stepE (xs.take n) sz ⟨true, b, l, r, k⟩ = E) :
    Calls Try.prog 53 #[.pointer (some ⟨p, 0, none⟩), .agg #[v], .int .i64 (n : Int)] w fun e w' => e = .returned (.int .i64 E) ∧
      ((E ≠ 0 ∧ Gr w w') ∨ (E = 0 ∧ Fr w w' (RS p sv) ∧ ∃ sv', RN w' base p (xs.take n ++ [⟨true, b, l, r, k⟩]) (sz ++ [szAt sz l + szAt sz r]) sv')) := by
  obtain ⟨A, cap, rfl⟩ : ∃ A cap, v = .slice A xs.length cap := by obtain ⟨A, cap, h, _⟩ := hsl; exact ⟨A, cap, h⟩
  have hnx : n < xs.length := (List.getElem?_eq_some_iff.1 hq).1
  obtain ⟨ba, oa, rfl, hba, hcell⟩ := hsl.at_ (s := 5) (fun _ => rfl) rfl hnx
  have hqq : xs[n]'hnx = ⟨true, b, l, r, k⟩ := (List.getElem?_eq_some_iff.1 hq).2
  have d0 := hcell 0 (by omega)
  have d1 := hcell 1 (by omega)
  have d2 := hcell 2 (by omega)
  have d3 := hcell 3 (by omega)
  have d4 := hcell 4 (by omega)
  clear hcell
  rw [hqq] at d0 d1 d2 d3 d4
  simp [encP] at d0 d1 d2 d3 d4
  rw [← Nat.add_assoc] at d1 d2 d3 d4
  have hki : (n : Int) < xs.length := by omega
  have HS := Lib.hid H
  have HSL := Lib.hid hsl
  have Hn := Lib.hid (And.intro hn (And.intro hb (show (xs.take n).length = n by rw [List.length_take]; omega)))
  have HE := Lib.hid hE
  have Hsz := Lib.hid hs
  have Hba := Lib.hid hba
  have Hnx := Lib.hid hnx
  clear H hn hb hE hs hsl hba hqq hq
  go_enter Try.func53, Try.ntmps53
  go_upto_region 1 with (fail)
  have HB4 := Lib.hid (Blk.new w 24 #[.slice (some ⟨ba, oa, none⟩) xs.length cap])
  have HG4 := Lib.hid ((Fr.refl w NoneS).alloc (.cells #[.slice (some ⟨ba, oa, none⟩) xs.length cap] 24))
  generalize w.heap.size = q4 at HB4 ⊢
  generalize World.alloc w _ = w0 at HB4 HG4 ⊢
  replace d0 := (HG4.out.cell (p := ⟨ba, oa + n * 5, none⟩) Hba.out (fun h => h)).trans d0
  replace d1 := (HG4.out.cell (p := ⟨ba, oa + n * 5 + 1, none⟩) Hba.out (fun h => h)).trans d1
  replace d2 := (HG4.out.cell (p := ⟨ba, oa + n * 5 + 2, none⟩) Hba.out (fun h => h)).trans d2
  replace d3 := (HG4.out.cell (p := ⟨ba, oa + n * 5 + 3, none⟩) Hba.out (fun h => h)).trans d3
  replace d4 := (HG4.out.cell (p := ⟨ba, oa + n * 5 + 4, none⟩) Hba.out (fun h => h)).trans d4
  have e0 : w0.cell? ⟨q4, 0, none⟩ = some (.slice (some ⟨ba, oa, none⟩) xs.length cap) := by rw [HB4.out.cell]; rfl
  go_upto_region 2 with (fail)
  clear d0 d1 d2 d3 d4 e0
  have HB := Lib.hid (Blk.new w0 TPc #[.bool true, .int .u8 b, .int .i64 l, .int .i64 r, .int .u32 k])
  have HGx := Lib.hid ((Fr.refl w0 NoneS).alloc (.cells #[.bool true, .int .u8 b, .int .i64 l, .int .i64 r, .int .u32 k] TPc))
  have HG := Lib.hid (HG4.out.trans HGx.out (fun _ _ h => h))
  have HB4 := Lib.hid (HB4.out.fr HGx.out (fun h => h))
  have HS1 := Lib.hid (HS.out.gr HG.out)
  clear HGx HG4
  generalize w0.heap.size = q7 at HB ⊢
  generalize World.alloc w0 _ = w1 at HB HB4 HG HS1 ⊢
  have e0 : w1.cell? ⟨q4, 0, none⟩ = some (.slice (some ⟨ba, oa, none⟩) xs.length cap) := by rw [HB4.out.cell]; rfl
  have f1 : w1.cell? ⟨q7, 1, none⟩ = some (.int .u8 b) := by rw [HB.out.cell]; rfl
  have f2 : w1.cell? ⟨q7, 2, none⟩ = some (.int .i64 l) := by rw [HB.out.cell]; rfl
  have f3 : w1.cell? ⟨q7, 3, none⟩ = some (.int .i64 r) := by rw [HB.out.cell]; rfl
  have f4 : w1.cell? ⟨q7, 4, none⟩ = some (.int .u32 k) := by rw [HB.out.cell]; rfl
  by_cases hz : b = 0
  case neg =>
    have e5 : E = 5 := by rw [← HE.out]; simp [stepE, hz]
    have He5 := Lib.hid e5
    clear e5 HE
    go_wp2_with fail
    go_ret
    exact ⟨by rw [He5.out]; rfl, .inl ⟨by rw [He5.out]; decide, HG.out⟩⟩
  subst hz
  by_cases hr : l < 0 ∨ (n : Int) ≤ l ∨ r < 0 ∨ (n : Int) ≤ r
  case pos =>
    have e2 : E = 2 := by
      rw [← HE.out]
      simp only [stepE]
      rw [if_neg (by decide), if_neg (by decide), Hn.out.2.2, if_pos hr]
    have He := Lib.hid e2
    have Hr := Lib.hid hr
    clear e2 HE hr
    go_wp2_with fail
    all_goals first
      | (go_ret; exact ⟨by rw [He.out]; rfl, .inl ⟨by rw [He.out]; decide, HG.out⟩⟩)
      | (exfalso; have := Hr.out; omega)
  obtain ⟨i, rfl⟩ : ∃ i : Nat, l = i := ⟨l.toNat, by omega⟩
  obtain ⟨j, rfl⟩ : ∃ j : Nat, r = j := ⟨r.toNat, by omega⟩
  have hi : i < n := by omega
  have hj : j < n := by omega
  have e1 : E = if 256 < szAt sz i + szAt sz j then 3 else if (xs.take n).any (hit ⟨true, 0, i, j, k⟩) then 8 else 0 := by
    rw [← HE.out, ← any_hit]
    simp only [stepE]
    rw [if_neg (by decide), if_neg (by decide), Hn.out.2.2, if_neg hr]
  have HE1 := Lib.hid e1
  clear HE e1 hr
  have hx : ¬ ((n : Int) ≤ (i : Int)) := by omega
  have hy : ¬ ((n : Int) ≤ (j : Int)) := by omega
  have hx0 : ¬ ((i : Int) < 0) := by omega
  have hy0 : ¬ ((j : Int) < 0) := by omega
  go_upto_region 6 with (fail)
  obtain ⟨g, capz, hsv, hsc⟩ := HS1.out.sizes (i := i) (by rw [Hn.out.2.2]; exact hi)
  rw [Hn.out.2.2] at hsv hsc
  have c0 := HS1.out.c0
  have sa := hsc i hi
  have sb := hsc j hj
  have Hij := Lib.hid (And.intro hi hj)
  have Haw := Lib.hid (ra (szAt_le Hsz.out (i : Int)) (szAt_le Hsz.out (j : Int)))
  clear hsc
  generalize hA : szAt sz (i : Int) = A at HE1 sa Haw ⊢
  generalize hB : szAt sz (j : Int) = B at HE1 sb Haw ⊢
  have HAB := Lib.hid (And.intro hA hB)
  clear hA hB
  have c0' : w1.cell? ⟨p, 0, none⟩ = some (.slice (some ⟨g, 0, none⟩) n capz) := by rw [c0, hsv]
  have haw := Haw.out
  refine wp_region_held_drew (S := fun wx => wx.cell? ⟨p, 0, none⟩ = some (.slice (some ⟨g, 0, none⟩) n capz) ∧ wx.cell? ⟨q7, 2, none⟩ = some (.int .i64 (i : Int)) ∧ wx.cell? ⟨q7, 3, none⟩ = some (.int .i64 (j : Int)) ∧ wx.cell? ⟨g, i, none⟩ = some (.int .i64 (A : Int)) ∧ wx.cell? ⟨g, j, none⟩ = some (.int .i64 (B : Int))) (by kernel_rfl) ⟨c0', f2, f3, sa, sb⟩ (fun hHeld => ?_)
  refine wpAnyH_take (i := 0) (v := (.pointer (some ⟨p, 0, none⟩))) rfl (by kernel_rfl) (by kernel_rfl) (by kernel_rfl) (fun _ _ _ h => h) (Or.inl ⟨by kernel_rfl, ?_⟩) (by with_reducible assumption) ?_
  focus (intro w hSw; (try dsimp only at hSw); go_simp)
  try simp only [Act.put, List.getElem_toArray, List.getElem_cons_succ, List.getElem_cons_zero, List.setIfInBounds_toArray, List.set_cons_zero, List.set_cons_succ]
  refine wpAnyH_take (i := 1) (v := (.pointer (some ⟨p, 0, none⟩))) rfl (by kernel_rfl) (by kernel_rfl) (by kernel_rfl) (fun _ _ _ h => h) (Or.inl ⟨by kernel_rfl, ?_⟩) (by with_reducible assumption) ?_
  focus (intro w hSw; (try dsimp only at hSw); go_simp)
  try simp only [Act.put, List.getElem_toArray, List.getElem_cons_succ, List.getElem_cons_zero, List.setIfInBounds_toArray, List.set_cons_zero, List.set_cons_succ]
  refine wpAnyH_take (i := 2) (v := (.pointer (some ⟨p, 0, none⟩))) rfl (by kernel_rfl) (by kernel_rfl) (by kernel_rfl) (fun _ _ _ h => h) (Or.inl ⟨by kernel_rfl, ?_⟩) (by with_reducible assumption) ?_
  focus (intro w hSw; (try dsimp only at hSw); go_simp)
  try simp only [Act.put, List.getElem_toArray, List.getElem_cons_succ, List.getElem_cons_zero, List.setIfInBounds_toArray, List.set_cons_zero, List.set_cons_succ]
  refine wpAnyH_take (i := 3) (v := (.slice (some ⟨g, 0, none⟩) n capz)) rfl (by kernel_rfl) (by kernel_rfl) (by kernel_rfl) (fun _ _ _ h => h) (Or.inl ⟨by kernel_rfl, ?_⟩) (by with_reducible assumption) ?_
  focus (intro w hSw; (try dsimp only at hSw); go_simp)
  try simp only [Act.put, List.getElem_toArray, List.getElem_cons_succ, List.getElem_cons_zero, List.setIfInBounds_toArray, List.set_cons_zero, List.set_cons_succ]
  refine wpAnyH_take (i := 4) (v := (.pointer (some ⟨q7, 2, none⟩))) rfl (by kernel_rfl) (by kernel_rfl) (by kernel_rfl) (fun _ _ _ h => h) (Or.inl ⟨by kernel_rfl, ?_⟩) (by with_reducible assumption) ?_
  focus (intro w hSw; (try dsimp only at hSw); go_simp)
  try simp only [Act.put, List.getElem_toArray, List.getElem_cons_succ, List.getElem_cons_zero, List.setIfInBounds_toArray, List.set_cons_zero, List.set_cons_succ]
  refine wpAnyH_take (i := 5) (v := (.int .i64 (i : Int))) rfl (by kernel_rfl) (by kernel_rfl) (by kernel_rfl) (fun _ _ _ h => h) (Or.inl ⟨by kernel_rfl, ?_⟩) (by with_reducible assumption) ?_
  focus (intro w hSw; (try dsimp only at hSw); go_simp)
  try simp only [Act.put, List.getElem_toArray, List.getElem_cons_succ, List.getElem_cons_zero, List.setIfInBounds_toArray, List.set_cons_zero, List.set_cons_succ]
  refine wpAnyH_take (i := 6) (v := (.pointer (some ⟨g, i, none⟩))) rfl (by kernel_rfl) (by kernel_rfl) (by kernel_rfl) (fun _ _ _ h => h) (Or.inl ⟨by kernel_rfl, ?_⟩) (by with_reducible assumption) ?_
  focus (intro w hSw; (try dsimp only at hSw); go_simp)
  try simp only [Act.put, List.getElem_toArray, List.getElem_cons_succ, List.getElem_cons_zero, List.setIfInBounds_toArray, List.set_cons_zero, List.set_cons_succ]
  refine wpAnyH_take (i := 7) (v := (.int .i64 (A : Int))) rfl (by kernel_rfl) (by kernel_rfl) (by kernel_rfl) (fun _ _ _ h => h) (Or.inl ⟨by kernel_rfl, ?_⟩) (by with_reducible assumption) ?_
  focus (intro w hSw; (try dsimp only at hSw); go_simp)
  try simp only [Act.put, List.getElem_toArray, List.getElem_cons_succ, List.getElem_cons_zero, List.setIfInBounds_toArray, List.set_cons_zero, List.set_cons_succ]
  refine wpAnyH_take (i := 8) (v := (.pointer (some ⟨p, 0, none⟩))) rfl (by kernel_rfl) (by kernel_rfl) (by kernel_rfl) (fun _ _ _ h => h) (Or.inl ⟨by kernel_rfl, ?_⟩) (by with_reducible assumption) ?_
  focus (intro w hSw; (try dsimp only at hSw); go_simp)
  try simp only [Act.put, List.getElem_toArray, List.getElem_cons_succ, List.getElem_cons_zero, List.setIfInBounds_toArray, List.set_cons_zero, List.set_cons_succ]
  refine wpAnyH_take (i := 9) (v := (.pointer (some ⟨p, 0, none⟩))) rfl (by kernel_rfl) (by kernel_rfl) (by kernel_rfl) (fun _ _ _ h => h) (Or.inl ⟨by kernel_rfl, ?_⟩) (by with_reducible assumption) ?_
  focus (intro w hSw; (try dsimp only at hSw); go_simp)
  try simp only [Act.put, List.getElem_toArray, List.getElem_cons_succ, List.getElem_cons_zero, List.setIfInBounds_toArray, List.set_cons_zero, List.set_cons_succ]
  refine wpAnyH_take (i := 10) (v := (.pointer (some ⟨p, 0, none⟩))) rfl (by kernel_rfl) (by kernel_rfl) (by kernel_rfl) (fun _ _ _ h => h) (Or.inl ⟨by kernel_rfl, ?_⟩) (by with_reducible assumption) ?_
  focus (intro w hSw; (try dsimp only at hSw); go_simp)
  try simp only [Act.put, List.getElem_toArray, List.getElem_cons_succ, List.getElem_cons_zero, List.setIfInBounds_toArray, List.set_cons_zero, List.set_cons_succ]
  refine wpAnyH_take (i := 11) (v := (.slice (some ⟨g, 0, none⟩) n capz)) rfl (by kernel_rfl) (by kernel_rfl) (by kernel_rfl) (fun _ _ _ h => h) (Or.inl ⟨by kernel_rfl, ?_⟩) (by with_reducible assumption) ?_
  focus (intro w hSw; (try dsimp only at hSw); go_simp)
  try simp only [Act.put, List.getElem_toArray, List.getElem_cons_succ, List.getElem_cons_zero, List.setIfInBounds_toArray, List.set_cons_zero, List.set_cons_succ]
  refine wpAnyH_take (i := 12) (v := (.pointer (some ⟨q7, 3, none⟩))) rfl (by kernel_rfl) (by kernel_rfl) (by kernel_rfl) (fun _ _ _ h => h) (Or.inl ⟨by kernel_rfl, ?_⟩) (by with_reducible assumption) ?_
  focus (intro w hSw; (try dsimp only at hSw); go_simp)
  try simp only [Act.put, List.getElem_toArray, List.getElem_cons_succ, List.getElem_cons_zero, List.setIfInBounds_toArray, List.set_cons_zero, List.set_cons_succ]
  refine wpAnyH_take (i := 13) (v := (.int .i64 (j : Int))) rfl (by kernel_rfl) (by kernel_rfl) (by kernel_rfl) (fun _ _ _ h => h) (Or.inl ⟨by kernel_rfl, ?_⟩) (by with_reducible assumption) ?_
  focus (intro w hSw; (try dsimp only at hSw); go_simp)
  try simp only [Act.put, List.getElem_toArray, List.getElem_cons_succ, List.getElem_cons_zero, List.setIfInBounds_toArray, List.set_cons_zero, List.set_cons_succ]
  refine wpAnyH_take (i := 14) (v := (.pointer (some ⟨g, j, none⟩))) rfl (by kernel_rfl) (by kernel_rfl) (by kernel_rfl) (fun _ _ _ h => h) (Or.inl ⟨by kernel_rfl, ?_⟩) (by with_reducible assumption) ?_
  focus (intro w hSw; (try dsimp only at hSw); go_simp)
  try simp only [Act.put, List.getElem_toArray, List.getElem_cons_succ, List.getElem_cons_zero, List.setIfInBounds_toArray, List.set_cons_zero, List.set_cons_succ]
  refine wpAnyH_take (i := 15) (v := (.int .i64 (B : Int))) rfl (by kernel_rfl) (by kernel_rfl) (by kernel_rfl) (fun _ _ _ h => h) (Or.inl ⟨by kernel_rfl, ?_⟩) (by with_reducible assumption) ?_
  focus (intro w hSw; (try dsimp only at hSw); go_simp)
  try simp only [Act.put, List.getElem_toArray, List.getElem_cons_succ, List.getElem_cons_zero, List.setIfInBounds_toArray, List.set_cons_zero, List.set_cons_succ]
  refine wpAnyH_take (i := 16) (v := (.int .i64 ((A : Int) + (B : Int)))) rfl (by kernel_rfl) (by kernel_rfl) (by kernel_rfl) (fun _ _ _ h => h) (Or.inl ⟨by kernel_rfl, ?_⟩) (by with_reducible assumption) ?_
  focus (intro w hSw; (try dsimp only at hSw); go_simp)
  try simp only [Act.put, List.getElem_toArray, List.getElem_cons_succ, List.getElem_cons_zero, List.setIfInBounds_toArray, List.set_cons_zero, List.set_cons_succ]
  refine wpAnyH_take (i := 17) (v := (.int .i64 ((A : Int) + (B : Int)))) rfl (by kernel_rfl) (by kernel_rfl) (by kernel_rfl) (fun _ _ _ h => h) (Or.inl ⟨by kernel_rfl, ?_⟩) (by with_reducible assumption) ?_
  focus (intro w hSw; (try dsimp only at hSw); go_simp)
  try simp only [Act.put, List.getElem_toArray, List.getElem_cons_succ, List.getElem_cons_zero, List.setIfInBounds_toArray, List.set_cons_zero, List.set_cons_succ]
  refine wpAnyH_done (by kernel_rfl) ?_ _
  have Hsv := Lib.hid hsv
  clear hHeld c0' sa sb haw hsv hi hj hx hy hx0 hy0 c0
  by_cases h3 : 256 < A + B
  case pos =>
    have h3' : (256 : Int) < (A : Int) + (B : Int) := by omega
    have e3 : E = 3 := by rw [HE1.out, if_pos h3]
    have He := Lib.hid e3
    clear e3 h3
    go_wp2_with fail
    go_ret
    exact ⟨by rw [He.out]; rfl, .inl ⟨by rw [He.out]; decide, HG.out.drew⟩⟩
  have h3' : ¬ (256 : Int) < (A : Int) + (B : Int) := by omega
  have e1 : E = if (xs.take n).any (hit ⟨true, 0, i, j, k⟩) then 8 else 0 := by rw [HE1.out, if_neg h3]
  have HE := Lib.hid e1
  clear HE1 e1 h3
  go_upto_block 0 with (fail)
  have HGd := Lib.hid ((Fr.refl w1 NoneS).drew)
  have HSd := Lib.hid (HS1.out.gr HGd.out)
  go_cut [] (fun wx => Hid (Gr w1 wx ∧ (xs.take n).any (hit ⟨true, 0, i, j, k⟩) = false))
  case first =>
    go_wp2_with fail
    go_loopg [9] (n + 1) (fun m s9 wr => ∃ kk : Nat, s9 = .int .i64 kk ∧ Hid (kk ≤ n ∧ n - kk < m) ∧ Hid (Gr w1 wr ∧ (xs.take kk).any (hit ⟨true, 0, i, j, k⟩) = false))
    case atStart => exact ⟨0, rfl, ⟨Nat.zero_le _, by omega⟩, HGd.out, rfl⟩
    case round =>
      obtain ⟨kk, rfl, HK, HP⟩ := hrel
      have a0 : wr.cell? ⟨q4, 0, none⟩ = some (.slice (some ⟨ba, oa, none⟩) xs.length cap) := (HP.out.1.cell (p := ⟨q4, 0, none⟩) HB4.out.lt (fun h => h)).trans e0
      by_cases hk : kk < n
      · have hkx : kk < xs.length := by have := Hnx.out; omega
        have HSLr := Lib.hid ((HSL.out.gr HG.out).gr HP.out.1)
        obtain ⟨b9, o9, hA9, hb9, hcell⟩ := HSLr.out.at_ (s := 5) (fun _ => rfl) rfl hkx
        injection hA9 with hA9
        injection hA9 with hA9 hO9
        subst hA9 hO9
        have d0 := hcell 0 (by omega)
        have d1 := hcell 1 (by omega)
        have d2 := hcell 2 (by omega)
        have d3 := hcell 3 (by omega)
        have d4 := hcell 4 (by omega)
        clear hcell
        simp [encP] at d0 d1 d2 d3 d4
        rw [← Nat.add_assoc] at d1 d2 d3 d4
        have Hxk := Lib.hid (show xs.take (kk + 1) = xs.take kk ++ [xs[kk]'hkx] from by rw [List.take_add_one, List.getElem?_eq_getElem hkx]; rfl)
        generalize xs[kk]'hkx = q at d0 d1 d2 d3 d4 Hxk
        obtain ⟨jj, bb, ll, rr, rk⟩ := q
        simp only at d0 d1 d2 d3 d4
        have hki' : (kk : Int) < xs.length := by omega
        have hki2 : (kk : Int) < n := by omega
        go_upto_region 13 with (fail)
        have HGa := Lib.hid (HP.out.1.alloc (.cells #[.bool jj, .int .u8 bb, .int .i64 ll, .int .i64 rr, .int .u32 rk] TPc))
        have HBa := Lib.hid (Blk.new wr TPc #[.bool jj, .int .u8 bb, .int .i64 ll, .int .i64 rr, .int .u32 rk])
        generalize wr.alloc (.cells #[.bool jj, .int .u8 bb, .int .i64 ll, .int .i64 rr, .int .u32 rk] TPc) = wa at HGa HBa ⊢
        generalize wr.heap.size = ob at HBa ⊢
        clear d0 d1 d2 d3 d4 a0 e0 f1 f2 f3 f4
        have g0 : wa.cell? ⟨ob, 0, none⟩ = some (.bool jj) := by rw [HBa.out.cell]; rfl
        have g2 : wa.cell? ⟨ob, 2, none⟩ = some (.int .i64 ll) := by rw [HBa.out.cell]; rfl
        have g3 : wa.cell? ⟨ob, 3, none⟩ = some (.int .i64 rr) := by rw [HBa.out.cell]; rfl
        have g4 : wa.cell? ⟨ob, 4, none⟩ = some (.int .u32 rk) := by rw [HBa.out.cell]; rfl
        have HB7 := Lib.hid (HB.out.fr HGa.out (fun h => h))
        have f2 : wa.cell? ⟨q7, 2, none⟩ = some (.int .i64 (i : Int)) := by rw [HB7.out.cell]; rfl
        have f3 : wa.cell? ⟨q7, 3, none⟩ = some (.int .i64 (j : Int)) := by rw [HB7.out.cell]; rfl
        have f4 : wa.cell? ⟨q7, 4, none⟩ = some (.int .u32 k) := by rw [HB7.out.cell]; rfl
        have Hkk := Lib.hid hk
        clear hk hkx hki' hki2 h3'
        by_cases hh : hit ⟨true, 0, i, j, k⟩ ⟨jj, bb, ll, rr, rk⟩ = true
        · have e8 : E = 8 := by
            rw [HE.out, if_pos]
            rw [List.any_eq_true]
            exact ⟨⟨jj, bb, ll, rr, rk⟩, List.mem_of_mem_take (i := kk + 1) (by rw [List.take_take, Nat.min_eq_left (by have := Hkk.out; omega), Hxk.out]; simp), hh⟩
          have He := Lib.hid e8
          have Hh := Lib.hid (show jj = true ∧ ((ll = (i : Int) ∧ rr = (j : Int)) ∨ rk = k) from by simpa [hit] using hh)
          clear e8 hh HE
          obtain ⟨rfl, hor⟩ := Hh.out
          by_cases h1 : ll = (i : Int) <;> by_cases h2 : rr = (j : Int) <;> by_cases h3 : rk = k <;> (try (exfalso; simp [h1, h2, h3] at hor; done)) <;> clear hor Hh <;> (try subst h1) <;> (try subst h2) <;> (try subst h3) <;> (go_wp2_with fail) <;> (go_ret) <;> exact ⟨by rw [He.out]; rfl, .inl ⟨by rw [He.out]; decide, HG.out.trans HGa.out (fun _ _ h => h)⟩⟩
        · have HR := Lib.hid (show (xs.take (kk + 1)).any (hit ⟨true, 0, i, j, k⟩) = false from by
            rw [Hxk.out, List.any_append, HP.out.2]; simp at hh; simp [hh])
          have Hh := Lib.hid (show jj = true → (ll = (i : Int) → ¬ rr = (j : Int)) ∧ ¬ rk = k from by
            intro h; subst h; simpa [hit] using hh)
          clear hh HE
          have hwk : IntKind.i64.wrap ((kk : Int) + 1) = (kk : Int) + 1 := IntWalk.i64_in _ ⟨by omega, by have := Hkk.out; have := Hn.out.1; omega⟩
          have HRel := Lib.hid (show ∃ k' : Nat, Value.int .i64 ((kk : Int) + 1) = Value.int .i64 (k' : Int) ∧ Hid (k' ≤ n ∧ n - k' < gk - 1) ∧ Hid (Gr w1 wa ∧ (xs.take k').any (hit ⟨true, 0, i, j, k⟩) = false) from
            ⟨kk + 1, by simp, ⟨by have := Hkk.out; omega, by have := HK.out; have := Hkk.out; omega⟩, HGa.out, HR.out⟩)
          cases jj with
          | false =>
            clear Hh
            go_wp2_with fail
            go_roundg (gk - 1)
            case measure => have := HK.out; omega
            case rel => exact HRel.out
          | true =>
            obtain ⟨hor, hnk⟩ := Hh.out rfl
            clear Hh
            by_cases h1 : ll = (i : Int)
            · have h2 : ¬ rr = (j : Int) := hor h1
              have H2 := Lib.hid (And.intro h2 hnk)
              clear hor
              subst h1
              have hb2 : (rr == (j : Int)) = false := by rw [beq_eq_false_iff_ne]; exact h2
              have hbk : (rk == k) = false := by rw [beq_eq_false_iff_ne]; exact hnk
              go_wp2_with fail
              all_goals first
                | (exfalso; have := H2.out; omega)
                | (go_roundg (gk - 1); (case measure => have := HK.out; omega); (case rel => exact HRel.out))
            · have H2 := Lib.hid (And.intro h1 hnk)
              clear hor
              have hb2 : (ll == (i : Int)) = false := by rw [beq_eq_false_iff_ne]; exact h1
              have hbk : (rk == k) = false := by rw [beq_eq_false_iff_ne]; exact hnk
              go_wp2_with fail
              all_goals first
                | (exfalso; have := H2.out; omega)
                | (go_roundg (gk - 1); (case measure => have := HK.out; omega); (case rel => exact HRel.out))
      · obtain rfl : kk = n := by have := HK.out; omega
        clear f1 f2 f3 f4 a0 e0 h3'
        go_wp2_with fail
        go_meet
        exact HP.out
  case rest =>
  obtain ⟨hgr, hno⟩ := hcut.out
  have e0' : E = 0 := by rw [HE.out, hno]; rfl
  have He := Lib.hid e0'
  have HP := Lib.hid hgr
  have HG' := Lib.hid (HG.out.trans hgr (fun _ _ h => h))
  have HS2 := Lib.hid (HS1.out.gr hgr)
  clear HE e0' hno hgr hcut e0 f1 f2 f3 f4 h3'
  have c0 := HS2.out.c0
  have HB2 := HS2.out.blk
  obtain ⟨i0, hi0, hz0, hz1, hz2⟩ := info_parts info_int
  have Hbs := Lib.hid (Nat.le_trans Hn.out.2.1 HG'.out.size)
  have HO2 := Lib.hid (show _ from HS2.out.own)
  rw [Hn.out.2.2] at HO2
  go_wp2_with (
    at_builtin
    go_loud (refine wpList_append_sl _ encN rfl (.tmp 95) (.tmp 97) 28 rfl base 3 i0 (.int .i64 0) 1 8 Try.underlying28 hi0 hz0 hz1 hz2 rfl (by decide) sv n _ rfl (HO2.out.alloc _) (.slice (some ⟨_, 0, none⟩) 1 1) [A + B] rfl (sl_one (enc := encN) _ (A + B) #[.int .i64 ((A : Int) + (B : Int))] rfl 3) (fun _ => rfl) encN_one (by have := Hn.out.1; simp only [maxLen, List.length_singleton]; omega) (by have := Hn.out.1; simp only [List.length_singleton]; omega) (by have := Hbs.out; simp; omega) ?_)
    intro v4 w4 hown3 hg3 hat3
    rw [← List.flatMap_append] at hown3
    obtain ⟨A3, cap3, rfl⟩ := own_formN hown3
    have HQ := Lib.hid (HS2.out.push (w3 := w4) (sv' := .slice A3 (n + 1) cap3) ⟨true, 0, i, j, k⟩ (A + B) (Fr.refl _ _)
      (by rw [bset_snoc_join _ _ rfl, be_snoc, if_pos rfl, List.append_nil]; exact HS2.out.blk)
      (((Fr.refl _ _).alloc _).trans hg3 (fun _ _ h => h)) (by rw [Hn.out.2.2]; exact hown3))
    have HB4' := Lib.hid (HS2.out.blk.fr (((Fr.refl _ _).alloc _).trans hg3 (fun _ _ h => h)) (own_blk_ne HS2.out.own HS2.out.blk TRs_int))
    have c3 : w4.cell? ⟨p, 0, none⟩ = some sv := by rw [HB4'.out.cell]; rfl
    have g3 := HB4'.out.frozen 0
    clear hown3 hg3 hat3)
  go_ret
  exact ⟨by rw [He.out]; rfl, .inr ⟨He.out, (Gr.mono HG'.out _).trans HQ.out.2 (fun _ _ h => h), _, by rw [HAB.out.1, HAB.out.2]; exact HQ.out.1⟩⟩
end Voc
end Go.Proofs.Ytildhlneldoffaa
