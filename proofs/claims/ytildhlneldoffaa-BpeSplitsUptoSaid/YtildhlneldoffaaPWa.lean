/- The queue of stook/bpe.pair: the walks of its methods (printed by gen_struct.py). -/
import Derived.Test.YtildhlneldoffaaPQ
import Derived.Deep.RegionHeld3
set_option linter.unusedVariables false
set_option linter.unusedSimpArgs false
namespace Go.Proofs.Ytildhlneldoffaa
open Go.RowKit

namespace Qp

/-- an order, as a function value: it makes memory of its own alone -/
def LessGr (fv : Value) (lt : (Int × Int × Int × Int × Int) → (Int × Int × Int × Int × Int) → Bool) (Bl : Nat) (W0 : World) : Prop :=
  ∃ f c, fv = .func (.func f) #[] c ∧ (∀ args w, (callFunc f args).run Try.prog w = .ok (.enter f args) w) ∧
    ∀ (x y : Int × Int × Int × Int × Int) w, Below Bl W0 w → Calls Try.prog f (#[.agg #[.int .u32 x.1, .int .i64 x.2.1, .int .i64 x.2.2.1, .int .i64 x.2.2.2.1, .int .i64 x.2.2.2.2], .agg #[.int .u32 y.1, .int .i64 y.2.1, .int .i64 y.2.2.1, .int .i64 y.2.2.2.1, .int .i64 y.2.2.2.2]] ++ c) w fun e w' => e = .returned (.bool (lt x y)) ∧ Gr w w'

def enc (x : Int × Int × Int × Int × Int) : List Value := [.int .u32 x.1, .int .i64 x.2.1, .int .i64 x.2.2.1, .int .i64 x.2.2.2.1, .int .i64 x.2.2.2.2]
abbrev Q := QR enc 5 93 90

set_option maxHeartbeats 6400000 in
set_option maxRecDepth 100000 in
theorem ahead_any (lt : (Int × Int × Int × Int × Int) → (Int × Int × Int × Int × Int) → Bool) (fv hv : Value) (B qb Bl : Nat) (W0 w : World) (l : List ((Int × Int × Int × Int × Int) × Nat)) (next : Nat) (hq : Q w B qb fv hv l next)
    (hl : LessGr fv lt Bl W0) (hW : Below Bl W0 w) (hBl : Bl ≤ w.heap.size) (i k : Int) (hi0 : 0 ≤ i) (hi : i < l.length) (hk0 : 0 ≤ k) (hk : k < l.length) :
    Calls Try.prog 51 #[.pointer (some ⟨qb, 0, none⟩), .int .i64 i, .int .i64 k] w fun e w' => e = .returned (.bool (QP.aheadAt lt l i.toNat k.toNat)) ∧ Gr w w' := by
  obtain ⟨f, c, rfl, hcf, hless⟩ := hl
  obtain ⟨hb, cap, rfl, hBhb, hhb, hne, hlc, hcm⟩ := hq.form (by omega)
  obtain ⟨i, rfl⟩ := Int.eq_ofNat_of_zero_le hi0
  obtain ⟨k, rfl⟩ := Int.eq_ofNat_of_zero_le hk0
  have hi' : i < l.length := by omega
  have hk' : k < l.length := by omega
  have c0 := hq.cell0
  have c1 := hq.cell1
  have hqb : qb < w.heap.size := hq.blk.lt
  have x0 := hq.entry (fun _ => rfl) hi' 0 (by omega)
  have y0 := hq.entry (fun _ => rfl) hk' 0 (by omega)
  have x1 := hq.entry (fun _ => rfl) hi' 1 (by omega)
  have y1 := hq.entry (fun _ => rfl) hk' 1 (by omega)
  have x2 := hq.entry (fun _ => rfl) hi' 2 (by omega)
  have y2 := hq.entry (fun _ => rfl) hk' 2 (by omega)
  have x3 := hq.entry (fun _ => rfl) hi' 3 (by omega)
  have y3 := hq.entry (fun _ => rfl) hk' 3 (by omega)
  have x4 := hq.entry (fun _ => rfl) hi' 4 (by omega)
  have y4 := hq.entry (fun _ => rfl) hk' 4 (by omega)
  have x5 := hq.entry (fun _ => rfl) hi' 5 (by omega)
  have y5 := hq.entry (fun _ => rfl) hk' 5 (by omega)
  obtain ⟨⟨⟨xa, xb, xc, xd, xe⟩, tx⟩, hx⟩ : ∃ e, e = l[i] := ⟨_, rfl⟩
  obtain ⟨⟨⟨ya, yb, yc, yd, ye⟩, ty⟩, hy⟩ : ∃ e, e = l[k] := ⟨_, rfl⟩
  have hres : QP.aheadAt lt l i k = (lt (xa, xb, xc, xd, xe) (ya, yb, yc, yd, ye) || (!lt (ya, yb, yc, yd, ye) (xa, xb, xc, xd, xe) && decide (tx < ty))) := by
    unfold QP.aheadAt; rw [List.getElem?_eq_getElem hi', List.getElem?_eq_getElem hk', ← hx, ← hy]; rfl
  rw [← hx] at x0 x1 x2 x3 x4 x5
  rw [← hy] at y0 y1 y2 y3 y4 y5
  simp [enc] at x0 x1 x2 x3 x4 x5 y0 y1 y2 y3 y4 y5
  rw [Int.toNat_natCast, Int.toNat_natCast, hres]
  clear hres hx hy hq hlc hcm hBhb
  have Hless := Lib.hid hless
  clear hless
  have HW := Lib.hid hW
  clear hW
  go_enter Try.func51, Try.ntmps51
  go_upto_region 1 with (fail)
  go_cut [7, 8] (fun s7 s8 w1 => ∃ p r : Nat, s7 = .pointer (some ⟨p, 0, none⟩) ∧ s8 = .pointer (some ⟨r, 0, none⟩) ∧ Hid (p < w1.heap.size ∧ r < w1.heap.size) ∧ Hid (Gr w w1) ∧
    w1.cell? ⟨p, 0, none⟩ = some (.int .u32 xa) ∧ w1.cell? ⟨p, 1, none⟩ = some (.int .i64 xb) ∧ w1.cell? ⟨p, 2, none⟩ = some (.int .i64 xc) ∧ w1.cell? ⟨p, 3, none⟩ = some (.int .i64 xd) ∧ w1.cell? ⟨p, 4, none⟩ = some (.int .i64 xe) ∧ w1.cell? ⟨p, 5, none⟩ = some (.int .i64 tx) ∧ w1.cell? ⟨r, 0, none⟩ = some (.int .u32 ya) ∧ w1.cell? ⟨r, 1, none⟩ = some (.int .i64 yb) ∧ w1.cell? ⟨r, 2, none⟩ = some (.int .i64 yc) ∧ w1.cell? ⟨r, 3, none⟩ = some (.int .i64 yd) ∧ w1.cell? ⟨r, 4, none⟩ = some (.int .i64 ye) ∧ w1.cell? ⟨r, 5, none⟩ = some (.int .i64 ty))
  case first =>
    go_region
    all_goals go_wp2_with fail
    all_goals go_meet
    all_goals exact ⟨_, _, rfl, rfl, ⟨by (simp <;> omega), by (simp <;> omega)⟩, (((Fr.refl w _).alloc _).alloc _).drew, by simp, by simp, by simp, by simp, by simp, by simp, by simp, by simp, by simp, by simp, by simp, by simp⟩
  case rest =>
  obtain ⟨p, r, rfl, rfl, Hpr, Hg, d0, d1, d2, d3, d4, d5, e0, e1, e2, e3, e4, e5⟩ := hcut
  have c0' : wc.cell? ⟨qb, 0, none⟩ = some (.func (.func f) #[] c) := (Hg.out.cell hqb (fun h => h)).trans c0
  have HW1 := Lib.hid (below_of_gr HW.out Hg.out hBl)
  have Hqb := Lib.hid (Nat.lt_of_lt_of_le hqb Hg.out.size)
  have HBl := Lib.hid (Nat.le_trans hBl Hg.out.size)
  clear c0 c1 x0 x1 x2 x3 x4 x5 y0 y1 y2 y3 y4 y5 HW hBl hqb hhb
  have key := Lib.hid (show ∀ wx, Gr wc wx → (Hid (Gr wc wx) ∧ wx.cell? ⟨qb, 0, none⟩ = some (.func (.func f) #[] c) ∧ wx.cell? ⟨p, 0, none⟩ = some (.int .u32 xa) ∧ wx.cell? ⟨p, 1, none⟩ = some (.int .i64 xb) ∧ wx.cell? ⟨p, 2, none⟩ = some (.int .i64 xc) ∧ wx.cell? ⟨p, 3, none⟩ = some (.int .i64 xd) ∧ wx.cell? ⟨p, 4, none⟩ = some (.int .i64 xe) ∧ wx.cell? ⟨p, 5, none⟩ = some (.int .i64 tx) ∧ wx.cell? ⟨r, 0, none⟩ = some (.int .u32 ya) ∧ wx.cell? ⟨r, 1, none⟩ = some (.int .i64 yb) ∧ wx.cell? ⟨r, 2, none⟩ = some (.int .i64 yc) ∧ wx.cell? ⟨r, 3, none⟩ = some (.int .i64 yd) ∧ wx.cell? ⟨r, 4, none⟩ = some (.int .i64 ye) ∧ wx.cell? ⟨r, 5, none⟩ = some (.int .i64 ty)) from fun wx hx =>
    ⟨hx, (hx.cell (p := ⟨qb, 0, none⟩) Hqb.out (fun h => h)).trans c0', (hx.cell (p := ⟨p, 0, none⟩) Hpr.out.1 (fun h => h)).trans d0, (hx.cell (p := ⟨p, 1, none⟩) Hpr.out.1 (fun h => h)).trans d1, (hx.cell (p := ⟨p, 2, none⟩) Hpr.out.1 (fun h => h)).trans d2, (hx.cell (p := ⟨p, 3, none⟩) Hpr.out.1 (fun h => h)).trans d3, (hx.cell (p := ⟨p, 4, none⟩) Hpr.out.1 (fun h => h)).trans d4, (hx.cell (p := ⟨p, 5, none⟩) Hpr.out.1 (fun h => h)).trans d5, (hx.cell (p := ⟨r, 0, none⟩) Hpr.out.2 (fun h => h)).trans e0, (hx.cell (p := ⟨r, 1, none⟩) Hpr.out.2 (fun h => h)).trans e1, (hx.cell (p := ⟨r, 2, none⟩) Hpr.out.2 (fun h => h)).trans e2, (hx.cell (p := ⟨r, 3, none⟩) Hpr.out.2 (fun h => h)).trans e3, (hx.cell (p := ⟨r, 4, none⟩) Hpr.out.2 (fun h => h)).trans e4, (hx.cell (p := ⟨r, 5, none⟩) Hpr.out.2 (fun h => h)).trans e5⟩)
  have Hc1 := Lib.hid (show ∀ wx, Gr wc wx → Calls Try.prog f (#[.agg #[.int .u32 xa, .int .i64 xb, .int .i64 xc, .int .i64 xd, .int .i64 xe], .agg #[.int .u32 ya, .int .i64 yb, .int .i64 yc, .int .i64 yd, .int .i64 ye]] ++ c) wx (fun e w' => e = .returned (.bool (lt (xa, xb, xc, xd, xe) (ya, yb, yc, yd, ye))) ∧ (Hid (Gr wc w') ∧ w'.cell? ⟨qb, 0, none⟩ = some (.func (.func f) #[] c) ∧ w'.cell? ⟨p, 0, none⟩ = some (.int .u32 xa) ∧ w'.cell? ⟨p, 1, none⟩ = some (.int .i64 xb) ∧ w'.cell? ⟨p, 2, none⟩ = some (.int .i64 xc) ∧ w'.cell? ⟨p, 3, none⟩ = some (.int .i64 xd) ∧ w'.cell? ⟨p, 4, none⟩ = some (.int .i64 xe) ∧ w'.cell? ⟨p, 5, none⟩ = some (.int .i64 tx) ∧ w'.cell? ⟨r, 0, none⟩ = some (.int .u32 ya) ∧ w'.cell? ⟨r, 1, none⟩ = some (.int .i64 yb) ∧ w'.cell? ⟨r, 2, none⟩ = some (.int .i64 yc) ∧ w'.cell? ⟨r, 3, none⟩ = some (.int .i64 yd) ∧ w'.cell? ⟨r, 4, none⟩ = some (.int .i64 ye) ∧ w'.cell? ⟨r, 5, none⟩ = some (.int .i64 ty))) from fun wx hx =>
    (Hless.out (xa, xb, xc, xd, xe) (ya, yb, yc, yd, ye) wx (below_of_gr HW1.out hx HBl.out)).mono (fun e w' hh => ⟨hh.1, key.out w' (hx.trans hh.2 (fun _ _ h => h))⟩))
  have Hc2 := Lib.hid (show ∀ wx, Gr wc wx → Calls Try.prog f (#[.agg #[.int .u32 ya, .int .i64 yb, .int .i64 yc, .int .i64 yd, .int .i64 ye], .agg #[.int .u32 xa, .int .i64 xb, .int .i64 xc, .int .i64 xd, .int .i64 xe]] ++ c) wx (fun e w' => e = .returned (.bool (lt (ya, yb, yc, yd, ye) (xa, xb, xc, xd, xe))) ∧ (Hid (Gr wc w') ∧ w'.cell? ⟨qb, 0, none⟩ = some (.func (.func f) #[] c) ∧ w'.cell? ⟨p, 0, none⟩ = some (.int .u32 xa) ∧ w'.cell? ⟨p, 1, none⟩ = some (.int .i64 xb) ∧ w'.cell? ⟨p, 2, none⟩ = some (.int .i64 xc) ∧ w'.cell? ⟨p, 3, none⟩ = some (.int .i64 xd) ∧ w'.cell? ⟨p, 4, none⟩ = some (.int .i64 xe) ∧ w'.cell? ⟨p, 5, none⟩ = some (.int .i64 tx) ∧ w'.cell? ⟨r, 0, none⟩ = some (.int .u32 ya) ∧ w'.cell? ⟨r, 1, none⟩ = some (.int .i64 yb) ∧ w'.cell? ⟨r, 2, none⟩ = some (.int .i64 yc) ∧ w'.cell? ⟨r, 3, none⟩ = some (.int .i64 yd) ∧ w'.cell? ⟨r, 4, none⟩ = some (.int .i64 ye) ∧ w'.cell? ⟨r, 5, none⟩ = some (.int .i64 ty))) from fun wx hx =>
    (Hless.out (ya, yb, yc, yd, ye) (xa, xb, xc, xd, xe) wx (below_of_gr HW1.out hx HBl.out)).mono (fun e w' hh => ⟨hh.1, key.out w' (hx.trans hh.2 (fun _ _ h => h))⟩))
  clear Hless
  have HD := Lib.hid ((Fr.refl wc NoneS).drew)
  have Hk0 := Lib.hid (key.out wc.drew HD.out)
  clear d0 d1 d2 d3 d4 d5 e0 e1 e2 e3 e4 e5 c0'
  obtain ⟨b1, hxy⟩ : ∃ b, b = lt (xa, xb, xc, xd, xe) (ya, yb, yc, yd, ye) := ⟨_, rfl⟩
  obtain ⟨b2, hyx⟩ : ∃ b, b = lt (ya, yb, yc, yd, ye) (xa, xb, xc, xd, xe) := ⟨_, rfl⟩
  rw [← hxy] at Hc1
  rw [← hyx] at Hc2
  have Hxy := Lib.hid (And.intro hxy hyx)
  clear hxy hyx
  go_upto_region 2 with (fail)
  go_region_held3 (fun wx => Hid (Gr wc wx) ∧ wx.cell? ⟨qb, 0, none⟩ = some (.func (.func f) #[] c) ∧ wx.cell? ⟨p, 0, none⟩ = some (.int .u32 xa) ∧ wx.cell? ⟨p, 1, none⟩ = some (.int .i64 xb) ∧ wx.cell? ⟨p, 2, none⟩ = some (.int .i64 xc) ∧ wx.cell? ⟨p, 3, none⟩ = some (.int .i64 xd) ∧ wx.cell? ⟨p, 4, none⟩ = some (.int .i64 xe) ∧ wx.cell? ⟨p, 5, none⟩ = some (.int .i64 tx) ∧ wx.cell? ⟨r, 0, none⟩ = some (.int .u32 ya) ∧ wx.cell? ⟨r, 1, none⟩ = some (.int .i64 yb) ∧ wx.cell? ⟨r, 2, none⟩ = some (.int .i64 yc) ∧ wx.cell? ⟨r, 3, none⟩ = some (.int .i64 yd) ∧ wx.cell? ⟨r, 4, none⟩ = some (.int .i64 ye) ∧ wx.cell? ⟨r, 5, none⟩ = some (.int .i64 ty))
    (first | with_reducible exact hS' | with_reducible exact Hk0.out)
    (((with_reducible refine (Hc1.out _ HD.out).mono ?_); rintro e w2 ⟨rfl, hS'⟩))
  cases b1 with
  | true =>
    go_wp2
    go_ret
    exact ⟨by simp [← Hxy.out.1, ← Hxy.out.2], Hg.out.trans hS'.1.out (fun _ _ h => h)⟩
  | false =>
    have HD2 := Lib.hid hS'.1.out.drew
    have Hk2 := Lib.hid (key.out w2.drew HD2.out)
    obtain ⟨Hg2, k0, d0, d1, d2, d3, d4, d5, e0, e1, e2, e3, e4, e5⟩ := hS'
    go_upto_region 4 with (fail)
    cases b2 with
    | true =>
      refine wp_region_held_drew (S := (fun wx => Hid (Gr wc wx) ∧ wx.cell? ⟨qb, 0, none⟩ = some (.func (.func f) #[] c) ∧ wx.cell? ⟨p, 0, none⟩ = some (.int .u32 xa) ∧ wx.cell? ⟨p, 1, none⟩ = some (.int .i64 xb) ∧ wx.cell? ⟨p, 2, none⟩ = some (.int .i64 xc) ∧ wx.cell? ⟨p, 3, none⟩ = some (.int .i64 xd) ∧ wx.cell? ⟨p, 4, none⟩ = some (.int .i64 xe) ∧ wx.cell? ⟨p, 5, none⟩ = some (.int .i64 tx) ∧ wx.cell? ⟨r, 0, none⟩ = some (.int .u32 ya) ∧ wx.cell? ⟨r, 1, none⟩ = some (.int .i64 yb) ∧ wx.cell? ⟨r, 2, none⟩ = some (.int .i64 yc) ∧ wx.cell? ⟨r, 3, none⟩ = some (.int .i64 yd) ∧ wx.cell? ⟨r, 4, none⟩ = some (.int .i64 ye) ∧ wx.cell? ⟨r, 5, none⟩ = some (.int .i64 ty))) (by kernel_rfl) Hk2.out (fun hHeld => ?_)
      refine wpAnyH_take (i := 0) (v := .pointer (some ⟨qb, 0, none⟩)) rfl (by kernel_rfl) (by kernel_rfl) (by kernel_rfl) (fun _ _ _ h => h) (Or.inl ⟨by kernel_rfl, ?_⟩) hHeld ?_
      · intro w hSw; obtain ⟨_, k0, d0, d1, d2, d3, d4, d5, e0, e1, e2, e3, e4, e5⟩ := hSw; go_simp
      try simp only [Act.put, List.getElem_toArray, List.getElem_cons_succ, List.getElem_cons_zero, List.setIfInBounds_toArray, List.set_cons_zero, List.set_cons_succ]
      refine wpAnyH_take (i := 1) (v := .pointer (some ⟨qb, 0, none⟩)) rfl (by kernel_rfl) (by kernel_rfl) (by kernel_rfl) (fun _ _ _ h => h) (Or.inl ⟨by kernel_rfl, ?_⟩) hHeld ?_
      · intro w hSw; obtain ⟨_, k0, d0, d1, d2, d3, d4, d5, e0, e1, e2, e3, e4, e5⟩ := hSw; go_simp
      try simp only [Act.put, List.getElem_toArray, List.getElem_cons_succ, List.getElem_cons_zero, List.setIfInBounds_toArray, List.set_cons_zero, List.set_cons_succ]
      refine wpAnyH_take (i := 2) (v := .pointer (some ⟨qb, 0, none⟩)) rfl (by kernel_rfl) (by kernel_rfl) (by kernel_rfl) (fun _ _ _ h => h) (Or.inl ⟨by kernel_rfl, ?_⟩) hHeld ?_
      · intro w hSw; obtain ⟨_, k0, d0, d1, d2, d3, d4, d5, e0, e1, e2, e3, e4, e5⟩ := hSw; go_simp
      try simp only [Act.put, List.getElem_toArray, List.getElem_cons_succ, List.getElem_cons_zero, List.setIfInBounds_toArray, List.set_cons_zero, List.set_cons_succ]
      refine wpAnyH_take (i := 3) (v := .func (.func f) #[] c) rfl (by kernel_rfl) (by kernel_rfl) (by kernel_rfl) (fun _ _ _ h => h) (Or.inl ⟨by kernel_rfl, ?_⟩) hHeld ?_
      · intro w hSw; obtain ⟨_, k0, d0, d1, d2, d3, d4, d5, e0, e1, e2, e3, e4, e5⟩ := hSw; go_simp
      try simp only [Act.put, List.getElem_toArray, List.getElem_cons_succ, List.getElem_cons_zero, List.setIfInBounds_toArray, List.set_cons_zero, List.set_cons_succ]
      refine wpAnyH_take (i := 4) (v := .pointer (some ⟨r, 0, none⟩)) rfl (by kernel_rfl) (by kernel_rfl) (by kernel_rfl) (fun _ _ _ h => h) (Or.inl ⟨by kernel_rfl, ?_⟩) hHeld ?_
      · intro w hSw; obtain ⟨_, k0, d0, d1, d2, d3, d4, d5, e0, e1, e2, e3, e4, e5⟩ := hSw; go_simp
      try simp only [Act.put, List.getElem_toArray, List.getElem_cons_succ, List.getElem_cons_zero, List.setIfInBounds_toArray, List.set_cons_zero, List.set_cons_succ]
      refine wpAnyH_take (i := 5) (v := .agg #[.int .u32 ya, .int .i64 yb, .int .i64 yc, .int .i64 yd, .int .i64 ye]) rfl (by kernel_rfl) (by kernel_rfl) (by kernel_rfl) (fun _ _ _ h => h) (Or.inl ⟨by kernel_rfl, ?_⟩) hHeld ?_
      · intro w hSw; obtain ⟨_, k0, d0, d1, d2, d3, d4, d5, e0, e1, e2, e3, e4, e5⟩ := hSw; go_simp
      try simp only [Act.put, List.getElem_toArray, List.getElem_cons_succ, List.getElem_cons_zero, List.setIfInBounds_toArray, List.set_cons_zero, List.set_cons_succ]
      refine wpAnyH_take (i := 6) (v := .pointer (some ⟨p, 0, none⟩)) rfl (by kernel_rfl) (by kernel_rfl) (by kernel_rfl) (fun _ _ _ h => h) (Or.inl ⟨by kernel_rfl, ?_⟩) hHeld ?_
      · intro w hSw; obtain ⟨_, k0, d0, d1, d2, d3, d4, d5, e0, e1, e2, e3, e4, e5⟩ := hSw; go_simp
      try simp only [Act.put, List.getElem_toArray, List.getElem_cons_succ, List.getElem_cons_zero, List.setIfInBounds_toArray, List.set_cons_zero, List.set_cons_succ]
      refine wpAnyH_take (i := 7) (v := .agg #[.int .u32 xa, .int .i64 xb, .int .i64 xc, .int .i64 xd, .int .i64 xe]) rfl (by kernel_rfl) (by kernel_rfl) (by kernel_rfl) (fun _ _ _ h => h) (Or.inl ⟨by kernel_rfl, ?_⟩) hHeld ?_
      · intro w hSw; obtain ⟨_, k0, d0, d1, d2, d3, d4, d5, e0, e1, e2, e3, e4, e5⟩ := hSw; go_simp
      try simp only [Act.put, List.getElem_toArray, List.getElem_cons_succ, List.getElem_cons_zero, List.setIfInBounds_toArray, List.set_cons_zero, List.set_cons_succ]
      refine wpAnyH_ready (rs := [8]) (by kernel_rfl) (by simp) ?_
      refine AllReadyH.cons rfl (fun K hK => ?_) AllReadyH.nil
      go_simp
      (with_reducible refine (Hc2.out _ HD2.out).mono ?_)
      rintro e w3 ⟨rfl, hS'⟩
      refine hK.out _ _ hS' (fun hHeld => ?_)
      clear hK K
      try simp only [Act.put, List.getElem_toArray, List.getElem_cons_succ, List.getElem_cons_zero, List.setIfInBounds_toArray, List.set_cons_zero, List.set_cons_succ]
      refine wpAnyH_take (i := 9) (v := .bool false) rfl (by kernel_rfl) (by kernel_rfl) (by kernel_rfl) (fun _ _ _ h => h) (Or.inl ⟨by kernel_rfl, ?_⟩) hHeld ?_
      · intro w hSw; obtain ⟨_, k0, d0, d1, d2, d3, d4, d5, e0, e1, e2, e3, e4, e5⟩ := hSw; go_simp
      try simp only [Act.put, List.getElem_toArray, List.getElem_cons_succ, List.getElem_cons_zero, List.setIfInBounds_toArray, List.set_cons_zero, List.set_cons_succ]
      refine wpAnyH_take (i := 10) (v := .bool false) rfl (by kernel_rfl) (by kernel_rfl) (by kernel_rfl) (fun _ _ _ h => h) (Or.inl ⟨by kernel_rfl, ?_⟩) hHeld ?_
      · intro w hSw; obtain ⟨_, k0, d0, d1, d2, d3, d4, d5, e0, e1, e2, e3, e4, e5⟩ := hSw; go_simp
      try simp only [Act.put, List.getElem_toArray, List.getElem_cons_succ, List.getElem_cons_zero, List.setIfInBounds_toArray, List.set_cons_zero, List.set_cons_succ]
      refine wpAnyH_take (i := 11) (v := undef) rfl (by kernel_rfl) (by kernel_rfl) (by kernel_rfl) (fun _ _ _ h => h) (Or.inr ⟨by kernel_rfl, rfl⟩) hHeld ?_
      try simp only [Act.put, List.getElem_toArray, List.getElem_cons_succ, List.getElem_cons_zero, List.setIfInBounds_toArray, List.set_cons_zero, List.set_cons_succ]
      refine wpAnyH_take (i := 12) (v := undef) rfl (by kernel_rfl) (by kernel_rfl) (by kernel_rfl) (fun _ _ _ h => h) (Or.inr ⟨by kernel_rfl, rfl⟩) hHeld ?_
      try simp only [Act.put, List.getElem_toArray, List.getElem_cons_succ, List.getElem_cons_zero, List.setIfInBounds_toArray, List.set_cons_zero, List.set_cons_succ]
      refine wpAnyH_take (i := 13) (v := undef) rfl (by kernel_rfl) (by kernel_rfl) (by kernel_rfl) (fun _ _ _ h => h) (Or.inr ⟨by kernel_rfl, rfl⟩) hHeld ?_
      try simp only [Act.put, List.getElem_toArray, List.getElem_cons_succ, List.getElem_cons_zero, List.setIfInBounds_toArray, List.set_cons_zero, List.set_cons_succ]
      refine wpAnyH_take (i := 14) (v := undef) rfl (by kernel_rfl) (by kernel_rfl) (by kernel_rfl) (fun _ _ _ h => h) (Or.inr ⟨by kernel_rfl, rfl⟩) hHeld ?_
      try simp only [Act.put, List.getElem_toArray, List.getElem_cons_succ, List.getElem_cons_zero, List.setIfInBounds_toArray, List.set_cons_zero, List.set_cons_succ]
      refine wpAnyH_take (i := 15) (v := undef) rfl (by kernel_rfl) (by kernel_rfl) (by kernel_rfl) (fun _ _ _ h => h) (Or.inr ⟨by kernel_rfl, rfl⟩) hHeld ?_
      try simp only [Act.put, List.getElem_toArray, List.getElem_cons_succ, List.getElem_cons_zero, List.setIfInBounds_toArray, List.set_cons_zero, List.set_cons_succ]
      refine wpAnyH_take (i := 16) (v := .bool false) rfl (by kernel_rfl) (by kernel_rfl) (by kernel_rfl) (fun _ _ _ h => h) (Or.inl ⟨by kernel_rfl, ?_⟩) hHeld ?_
      · intro w hSw; obtain ⟨_, k0, d0, d1, d2, d3, d4, d5, e0, e1, e2, e3, e4, e5⟩ := hSw; go_simp
      try simp only [Act.put, List.getElem_toArray, List.getElem_cons_succ, List.getElem_cons_zero, List.setIfInBounds_toArray, List.set_cons_zero, List.set_cons_succ]
      refine wpAnyH_take (i := 17) (v := .bool false) rfl (by kernel_rfl) (by kernel_rfl) (by kernel_rfl) (fun _ _ _ h => h) (Or.inl ⟨by kernel_rfl, ?_⟩) hHeld ?_
      · intro w hSw; obtain ⟨_, k0, d0, d1, d2, d3, d4, d5, e0, e1, e2, e3, e4, e5⟩ := hSw; go_simp
      try simp only [Act.put, List.getElem_toArray, List.getElem_cons_succ, List.getElem_cons_zero, List.setIfInBounds_toArray, List.set_cons_zero, List.set_cons_succ]
      refine wpAnyH_done (by kernel_rfl) ?_ _
      go_wp2_with fail
      go_ret
      exact ⟨by simp [← Hxy.out.1, ← Hxy.out.2], Hg.out.trans hS'.1.out (fun _ _ h => h)⟩
    | false =>
      clear k0 d0 d1 d2 d3 d4 d5 e0 e1 e2 e3 e4 e5
      go_region_held3 (fun wx => Hid (Gr wc wx) ∧ wx.cell? ⟨qb, 0, none⟩ = some (.func (.func f) #[] c) ∧ wx.cell? ⟨p, 0, none⟩ = some (.int .u32 xa) ∧ wx.cell? ⟨p, 1, none⟩ = some (.int .i64 xb) ∧ wx.cell? ⟨p, 2, none⟩ = some (.int .i64 xc) ∧ wx.cell? ⟨p, 3, none⟩ = some (.int .i64 xd) ∧ wx.cell? ⟨p, 4, none⟩ = some (.int .i64 xe) ∧ wx.cell? ⟨p, 5, none⟩ = some (.int .i64 tx) ∧ wx.cell? ⟨r, 0, none⟩ = some (.int .u32 ya) ∧ wx.cell? ⟨r, 1, none⟩ = some (.int .i64 yb) ∧ wx.cell? ⟨r, 2, none⟩ = some (.int .i64 yc) ∧ wx.cell? ⟨r, 3, none⟩ = some (.int .i64 yd) ∧ wx.cell? ⟨r, 4, none⟩ = some (.int .i64 ye) ∧ wx.cell? ⟨r, 5, none⟩ = some (.int .i64 ty))
        (first | with_reducible exact hS' | with_reducible exact Hk2.out)
        (((with_reducible refine (Hc2.out _ HD2.out).mono ?_); rintro e w3 ⟨rfl, hS'⟩))
      go_wp2_with fail
      go_ret
      exact ⟨by simp [← Hxy.out.1, ← Hxy.out.2], Hg.out.trans hS'.1.out (fun _ _ h => h)⟩
end Qp
end Go.Proofs.Ytildhlneldoffaa
