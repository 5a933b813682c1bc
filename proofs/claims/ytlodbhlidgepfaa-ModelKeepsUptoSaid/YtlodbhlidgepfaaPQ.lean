/- Words of every queue: an order that is entered; a function value beside nil; a row that is cut. The queue of stook/bpe.pair: the walks of its methods (printed by gen_struct.py). The queue of stook/bpe.pair: made, Len, Peek, New (printed by gen_struct.py). The queue of stook/bpe.pair: Push (printed by gen_struct.py). The queue of stook/bpe.pair: Pop (printed by gen_struct.py). -/
import Derived.Test.YtlodbhlidgepfaaEPa
import Derived.Test.YtlodbhlidgepfaaEWb
import Derived.BigQuiet
import Derived.BigRegion
import Derived.Deep.QuietTactic
import Derived.Deep.LoopGhost
import Derived.Deep.DeepCutAuto
import Derived.WalkSpells
import Derived.Deep.RegionLaw
import Derived.Deep.CutBlock
import Derived.Deep.RegionHeld3
import Derived.Deep.WholeRow
set_option linter.unusedVariables false
set_option linter.unusedSimpArgs false
namespace Go.Proofs.Ytlodbhlidgepfaa
open Go.RowKit

/-- a function with a body is entered -/
theorem callFunc_enters {P : Program} {f : FuncId} {fn : Func} (hf : P.funcs[f]? = some fn) (hn : (fn.name == "runtime.NumGoroutine") = false) (hb : fn.body.isNone = false) (args : Array Value) (w : World) :
    (callFunc f args).run P w = .ok (.enter f args) w := by
  unfold callFunc program
  simp only [Sem.run_bind]
  show (Sem.run P (match P.funcs[f]? with | none => _ | some fn => _) w) = _
  rw [hf]
  simp only [hn, hb]
  rfl

theorem below_of_gr {B : Nat} {a w w' : World} (h : Below B a w) (hg : Gr w w') (hB : B ≤ w.heap.size) : Below B a w' := h.trans (Fr.below hg hB (fun _ _ h => h))

theorem run_equalIn_func_nil {P : Program} (w : World) (d : Nat) (t : TypeId) (ps rs : Array TypeId) (vr : Bool) (f : Fn) (x y : Array Value) (h : P.underlying t = some (.func ps rs vr)) :
    (Op.equalIn (d + 1) t (.func f x y) .nilFunc).run P w = .ok false w := by
  simp [Op.equalIn, run_underlying h]
theorem run_neq_func_nil {P : Program} (w : World) (t : TypeId) (ps rs : Array TypeId) (vr : Bool) (f : Fn) (x y : Array Value) (h : P.underlying t = some (.func ps rs vr)) :
    (binOp .neq t (.func f x y) .nilFunc).run P w = .ok (.bool true) w := by
  simp only [binOp]
  simp [Op.equal, Op.maxDepth, run_equalIn_func_nil w 9999 t ps rs vr f x y h]
theorem run_eql_func_nil {P : Program} (w : World) (t : TypeId) (ps rs : Array TypeId) (vr : Bool) (f : Fn) (x y : Array Value) (h : P.underlying t = some (.func ps rs vr)) :
    (binOp .eql t (.func f x y) .nilFunc).run P w = .ok (.bool false) w := by
  simp only [binOp]
  simp [Op.equal, Op.maxDepth, run_equalIn_func_nil w 9999 t ps rs vr f x y h]
theorem own_take {w : World} {base : Nat} {e : TypeId} {size g m cap k : Nat} {xs : List Value} (h : w.ownsRow base e size (.slice (some ⟨g, 0, none⟩) m cap) m xs) (hk : k ≤ m) :
    w.ownsRow base e size (.slice (some ⟨g, 0, none⟩) k cap) k (xs.take (k * size)) := by
  have hks : k * size ≤ m * size := Nat.mul_le_mul_right _ hk
  rcases h.2 with ⟨h', _⟩ | ⟨g', cap', cur, h', hb, hg, hnc, hcm, hcs, htake⟩
  · simp at h'
  · simp only [Value.slice.injEq, Option.some.injEq, Addr.mk.injEq, and_true, true_and] at h'
    obtain ⟨rfl, rfl⟩ := h'
    refine ⟨by rw [List.length_take, h.1]; omega, .inr ⟨g, cap, cur, rfl, hb, hg, by omega, hcm, hcs, ?_⟩⟩
    rw [← htake, List.take_take, Nat.min_eq_left hks]

end Go.Proofs.Ytlodbhlidgepfaa

namespace Go.Proofs.Ytlodbhlidgepfaa
open Go.RowKit

namespace Qp

/-- an order, as a function value: it makes memory of its own alone -/
def LessGr (fv : Value) (lt : (Int × Int × Int × Int × Int) → (Int × Int × Int × Int × Int) → Bool) (Bl : Nat) (W0 : World) : Prop :=
  ∃ f c, fv = .func (.func f) #[] c ∧ (∀ args w, (callFunc f args).run Try.prog w = .ok (.enter f args) w) ∧
    ∀ (x y : Int × Int × Int × Int × Int) w, Below Bl W0 w → Calls Try.prog f (#[.agg #[.int .u32 x.1, .int .i64 x.2.1, .int .i64 x.2.2.1, .int .i64 x.2.2.2.1, .int .i64 x.2.2.2.2], .agg #[.int .u32 y.1, .int .i64 y.2.1, .int .i64 y.2.2.1, .int .i64 y.2.2.2.1, .int .i64 y.2.2.2.2]] ++ c) w fun e w' => e = .returned (.bool (lt x y)) ∧ Gr w w'

def enc (x : Int × Int × Int × Int × Int) : List Value := [.int .u32 x.1, .int .i64 x.2.1, .int .i64 x.2.2.1, .int .i64 x.2.2.2.1, .int .i64 x.2.2.2.2]
abbrev Q := QR enc 5 127 123

set_option maxHeartbeats 6400000 in
set_option maxRecDepth 100000 in
theorem ahead_any (lt : (Int × Int × Int × Int × Int) → (Int × Int × Int × Int × Int) → Bool) (fv hv : Value) (B qb Bl : Nat) (W0 w : World) (l : List ((Int × Int × Int × Int × Int) × Nat)) (next : Nat) (hq : Q w B qb fv hv l next)
    (hl : LessGr fv lt Bl W0) (hW : Below Bl W0 w) (hBl : Bl ≤ w.heap.size) (i k : Int) (hi0 : 0 ≤ i) (hi : i < l.length) (hk0 : 0 ≤ k) (hk : k < l.length) :
    Calls Try.prog 61 #[.pointer (some ⟨qb, 0, none⟩), .int .i64 i, .int .i64 k] w fun e w' => e = .returned (.bool (QP.aheadAt lt l i.toNat k.toNat)) ∧ Gr w w' := by
  obtain ⟨f, c, rfl, hcf, hless⟩ := hl
  obtain ⟨hb, cap, rfl, hBhb, hhb, hne, hlc, hcm⟩ := hq.form (by omega)
  obtain ⟨i, rfl⟩ := Int.eq_ofNat_of_zero_le hi0
  obtain ⟨k, rfl⟩ := Int.eq_ofNat_of_zero_le hk0
  have hi' : i < l.length := by omega
  have hk' : k < l.length := by omega
  have c0 := hq.cell0
  have c1 := hq.cell1
  have hqb : qb < w.heap.size := hq.blk.lt
  have x0 := hq.entry (fun _ => rfl) hi' 0 (by omega)
  have y0 := hq.entry (fun _ => rfl) hk' 0 (by omega)
  have x1 := hq.entry (fun _ => rfl) hi' 1 (by omega)
  have y1 := hq.entry (fun _ => rfl) hk' 1 (by omega)
  have x2 := hq.entry (fun _ => rfl) hi' 2 (by omega)
  have y2 := hq.entry (fun _ => rfl) hk' 2 (by omega)
  have x3 := hq.entry (fun _ => rfl) hi' 3 (by omega)
  have y3 := hq.entry (fun _ => rfl) hk' 3 (by omega)
  have x4 := hq.entry (fun _ => rfl) hi' 4 (by omega)
  have y4 := hq.entry (fun _ => rfl) hk' 4 (by omega)
  have x5 := hq.entry (fun _ => rfl) hi' 5 (by omega)
  have y5 := hq.entry (fun _ => rfl) hk' 5 (by omega)
  obtain ⟨⟨⟨xa, xb, xc, xd, xe⟩, tx⟩, hx⟩ : ∃ e, e = l[i] := ⟨_, rfl⟩
  obtain ⟨⟨⟨ya, yb, yc, yd, ye⟩, ty⟩, hy⟩ : ∃ e, e = l[k] := ⟨_, rfl⟩
  have hres : QP.aheadAt lt l i k = (lt (xa, xb, xc, xd, xe) (ya, yb, yc, yd, ye) || (!lt (ya, yb, yc, yd, ye) (xa, xb, xc, xd, xe) && decide (tx < ty))) := by
    unfold QP.aheadAt; rw [List.getElem?_eq_getElem hi', List.getElem?_eq_getElem hk', ← hx, ← hy]; rfl
  rw [← hx] at x0 x1 x2 x3 x4 x5
  rw [← hy] at y0 y1 y2 y3 y4 y5
  simp [enc] at x0 x1 x2 x3 x4 x5 y0 y1 y2 y3 y4 y5
  rw [Int.toNat_natCast, Int.toNat_natCast, hres]
  clear hres hx hy hq hlc hcm hBhb
  have Hless := Lib.hid hless
  clear hless
  have HW := Lib.hid hW
  clear hW
  go_enter Try.func61, Try.ntmps61
  go_upto_region 1 with (fail)
  go_cut [7, 8] (fun s7 s8 w1 => ∃ p r : Nat, s7 = .pointer (some ⟨p, 0, none⟩) ∧ s8 = .pointer (some ⟨r, 0, none⟩) ∧ Hid (p < w1.heap.size ∧ r < w1.heap.size) ∧ Hid (Gr w w1) ∧
    w1.cell? ⟨p, 0, none⟩ = some (.int .u32 xa) ∧ w1.cell? ⟨p, 1, none⟩ = some (.int .i64 xb) ∧ w1.cell? ⟨p, 2, none⟩ = some (.int .i64 xc) ∧ w1.cell? ⟨p, 3, none⟩ = some (.int .i64 xd) ∧ w1.cell? ⟨p, 4, none⟩ = some (.int .i64 xe) ∧ w1.cell? ⟨p, 5, none⟩ = some (.int .i64 tx) ∧ w1.cell? ⟨r, 0, none⟩ = some (.int .u32 ya) ∧ w1.cell? ⟨r, 1, none⟩ = some (.int .i64 yb) ∧ w1.cell? ⟨r, 2, none⟩ = some (.int .i64 yc) ∧ w1.cell? ⟨r, 3, none⟩ = some (.int .i64 yd) ∧ w1.cell? ⟨r, 4, none⟩ = some (.int .i64 ye) ∧ w1.cell? ⟨r, 5, none⟩ = some (.int .i64 ty))
  case first =>
    go_region
    all_goals go_wp2_with fail
    all_goals go_meet
    all_goals exact ⟨_, _, rfl, rfl, ⟨by (simp <;> omega), by (simp <;> omega)⟩, (((Fr.refl w _).alloc _).alloc _).drew, by simp, by simp, by simp, by simp, by simp, by simp, by simp, by simp, by simp, by simp, by simp, by simp⟩
  case rest =>
  obtain ⟨p, r, rfl, rfl, Hpr, Hg, d0, d1, d2, d3, d4, d5, e0, e1, e2, e3, e4, e5⟩ := hcut
  have c0' : wc.cell? ⟨qb, 0, none⟩ = some (.func (.func f) #[] c) := (Hg.out.cell hqb (fun h => h)).trans c0
  have HW1 := Lib.hid (below_of_gr HW.out Hg.out hBl)
  have Hqb := Lib.hid (Nat.lt_of_lt_of_le hqb Hg.out.size)
  have HBl := Lib.hid (Nat.le_trans hBl Hg.out.size)
  clear c0 c1 x0 x1 x2 x3 x4 x5 y0 y1 y2 y3 y4 y5 HW hBl hqb hhb
  have key := Lib.hid (show ∀ wx, Gr wc wx → (Hid (Gr wc wx) ∧ wx.cell? ⟨qb, 0, none⟩ = some (.func (.func f) #[] c) ∧ wx.cell? ⟨p, 0, none⟩ = some (.int .u32 xa) ∧ wx.cell? ⟨p, 1, none⟩ = some (.int .i64 xb) ∧ wx.cell? ⟨p, 2, none⟩ = some (.int .i64 xc) ∧ wx.cell? ⟨p, 3, none⟩ = some (.int .i64 xd) ∧ wx.cell? ⟨p, 4, none⟩ = some (.int .i64 xe) ∧ wx.cell? ⟨p, 5, none⟩ = some (.int .i64 tx) ∧ wx.cell? ⟨r, 0, none⟩ = some (.int .u32 ya) ∧ wx.cell? ⟨r, 1, none⟩ = some (.int .i64 yb) ∧ wx.cell? ⟨r, 2, none⟩ = some (.int .i64 yc) ∧ wx.cell? ⟨r, 3, none⟩ = some (.int .i64 yd) ∧ wx.cell? ⟨r, 4, none⟩ = some (.int .i64 ye) ∧ wx.cell? ⟨r, 5, none⟩ = some (.int .i64 ty)) from fun wx hx =>
    ⟨hx, (hx.cell (p := ⟨qb, 0, none⟩) Hqb.out (fun h => h)).trans c0', (hx.cell (p := ⟨p, 0, none⟩) Hpr.out.1 (fun h => h)).trans d0, (hx.cell (p := ⟨p, 1, none⟩) Hpr.out.1 (fun h => h)).trans d1, (hx.cell (p := ⟨p, 2, none⟩) Hpr.out.1 (fun h => h)).trans d2, (hx.cell (p := ⟨p, 3, none⟩) Hpr.out.1 (fun h => h)).trans d3, (hx.cell (p := ⟨p, 4, none⟩) Hpr.out.1 (fun h => h)).trans d4, (hx.cell (p := ⟨p, 5, none⟩) Hpr.out.1 (fun h => h)).trans d5, (hx.cell (p := ⟨r, 0, none⟩) Hpr.out.2 (fun h => h)).trans e0, (hx.cell (p := ⟨r, 1, none⟩) Hpr.out.2 (fun h => h)).trans e1, (hx.cell (p := ⟨r, 2, none⟩) Hpr.out.2 (fun h => h)).trans e2, (hx.cell (p := ⟨r, 3, none⟩) Hpr.out.2 (fun h => h)).trans e3, (hx.cell (p := ⟨r, 4, none⟩) Hpr.out.2 (fun h => h)).trans e4, (hx.cell (p := ⟨r, 5, none⟩) Hpr.out.2 (fun h => h)).trans e5⟩)
  have Hc1 := Lib.hid (show ∀ wx, Gr wc wx → Calls Try.prog f (#[.agg #[.int .u32 xa, .int .i64 xb, .int .i64 xc, .int .i64 xd, .int .i64 xe], .agg #[.int .u32 ya, .int .i64 yb, .int .i64 yc, .int .i64 yd, .int .i64 ye]] ++ c) wx (fun e w' => e = .returned (.bool (lt (xa, xb, xc, xd, xe) (ya, yb, yc, yd, ye))) ∧ (Hid (Gr wc w') ∧ w'.cell? ⟨qb, 0, none⟩ = some (.func (.func f) #[] c) ∧ w'.cell? ⟨p, 0, none⟩ = some (.int .u32 xa) ∧ w'.cell? ⟨p, 1, none⟩ = some (.int .i64 xb) ∧ w'.cell? ⟨p, 2, none⟩ = some (.int .i64 xc) ∧ w'.cell? ⟨p, 3, none⟩ = some (.int .i64 xd) ∧ w'.cell? ⟨p, 4, none⟩ = some (.int .i64 xe) ∧ w'.cell? ⟨p, 5, none⟩ = some (.int .i64 tx) ∧ w'.cell? ⟨r, 0, none⟩ = some (.int .u32 ya) ∧ w'.cell? ⟨r, 1, none⟩ = some (.int .i64 yb) ∧ w'.cell? ⟨r, 2, none⟩ = some (.int .i64 yc) ∧ w'.cell? ⟨r, 3, none⟩ = some (.int .i64 yd) ∧ w'.cell? ⟨r, 4, none⟩ = some (.int .i64 ye) ∧ w'.cell? ⟨r, 5, none⟩ = some (.int .i64 ty))) from fun wx hx =>
    (Hless.out (xa, xb, xc, xd, xe) (ya, yb, yc, yd, ye) wx (below_of_gr HW1.out hx HBl.out)).mono (fun e w' hh => ⟨hh.1, key.out w' (hx.trans hh.2 (fun _ _ h => h))⟩))
  have Hc2 := Lib.hid (show ∀ wx, Gr wc wx → Calls Try.prog f (#[.agg #[.int .u32 ya, .int .i64 yb, .int .i64 yc, .int .i64 yd, .int .i64 ye], .agg #[.int .u32 xa, .int .i64 xb, .int .i64 xc, .int .i64 xd, .int .i64 xe]] ++ c) wx (fun e w' => e = .returned (.bool (lt (ya, yb, yc, yd, ye) (xa, xb, xc, xd, xe))) ∧ (Hid (Gr wc w') ∧ w'.cell? ⟨qb, 0, none⟩ = some (.func (.func f) #[] c) ∧ w'.cell? ⟨p, 0, none⟩ = some (.int .u32 xa) ∧ w'.cell? ⟨p, 1, none⟩ = some (.int .i64 xb) ∧ w'.cell? ⟨p, 2, none⟩ = some (.int .i64 xc) ∧ w'.cell? ⟨p, 3, none⟩ = some (.int .i64 xd) ∧ w'.cell? ⟨p, 4, none⟩ = some (.int .i64 xe) ∧ w'.cell? ⟨p, 5, none⟩ = some (.int .i64 tx) ∧ w'.cell? ⟨r, 0, none⟩ = some (.int .u32 ya) ∧ w'.cell? ⟨r, 1, none⟩ = some (.int .i64 yb) ∧ w'.cell? ⟨r, 2, none⟩ = some (.int .i64 yc) ∧ w'.cell? ⟨r, 3, none⟩ = some (.int .i64 yd) ∧ w'.cell? ⟨r, 4, none⟩ = some (.int .i64 ye) ∧ w'.cell? ⟨r, 5, none⟩ = some (.int .i64 ty))) from fun wx hx =>
    (Hless.out (ya, yb, yc, yd, ye) (xa, xb, xc, xd, xe) wx (below_of_gr HW1.out hx HBl.out)).mono (fun e w' hh => ⟨hh.1, key.out w' (hx.trans hh.2 (fun _ _ h => h))⟩))
  clear Hless
  have HD := Lib.hid ((Fr.refl wc NoneS).drew)
  have Hk0 := Lib.hid (key.out wc.drew HD.out)
  clear d0 d1 d2 d3 d4 d5 e0 e1 e2 e3 e4 e5 c0'
  obtain ⟨b1, hxy⟩ : ∃ b, b = lt (xa, xb, xc, xd, xe) (ya, yb, yc, yd, ye) := ⟨_, rfl⟩
  obtain ⟨b2, hyx⟩ : ∃ b, b = lt (ya, yb, yc, yd, ye) (xa, xb, xc, xd, xe) := ⟨_, rfl⟩
  rw [← hxy] at Hc1
  rw [← hyx] at Hc2
  have Hxy := Lib.hid (And.intro hxy hyx)
  clear hxy hyx
  go_upto_region 2 with (fail)
  go_region_held3 (fun wx => Hid (Gr wc wx) ∧ wx.cell? ⟨qb, 0, none⟩ = some (.func (.func f) #[] c) ∧ wx.cell? ⟨p, 0, none⟩ = some (.int .u32 xa) ∧ wx.cell? ⟨p, 1, none⟩ = some (.int .i64 xb) ∧ wx.cell? ⟨p, 2, none⟩ = some (.int .i64 xc) ∧ wx.cell? ⟨p, 3, none⟩ = some (.int .i64 xd) ∧ wx.cell? ⟨p, 4, none⟩ = some (.int .i64 xe) ∧ wx.cell? ⟨p, 5, none⟩ = some (.int .i64 tx) ∧ wx.cell? ⟨r, 0, none⟩ = some (.int .u32 ya) ∧ wx.cell? ⟨r, 1, none⟩ = some (.int .i64 yb) ∧ wx.cell? ⟨r, 2, none⟩ = some (.int .i64 yc) ∧ wx.cell? ⟨r, 3, none⟩ = some (.int .i64 yd) ∧ wx.cell? ⟨r, 4, none⟩ = some (.int .i64 ye) ∧ wx.cell? ⟨r, 5, none⟩ = some (.int .i64 ty))
    (first | with_reducible exact hS' | with_reducible exact Hk0.out)
    (((with_reducible refine (Hc1.out _ HD.out).mono ?_); rintro e w2 ⟨rfl, hS'⟩))
  cases b1 with
  | true =>
    go_wp2
    go_ret
    exact ⟨by simp [← Hxy.out.1, ← Hxy.out.2], Hg.out.trans hS'.1.out (fun _ _ h => h)⟩
  | false =>
    have HD2 := Lib.hid hS'.1.out.drew
    have Hk2 := Lib.hid (key.out w2.drew HD2.out)
    obtain ⟨Hg2, k0, d0, d1, d2, d3, d4, d5, e0, e1, e2, e3, e4, e5⟩ := hS'
    go_upto_region 4 with (fail)
    cases b2 with
    | true =>
      refine wp_region_held_drew (S := (fun wx => Hid (Gr wc wx) ∧ wx.cell? ⟨qb, 0, none⟩ = some (.func (.func f) #[] c) ∧ wx.cell? ⟨p, 0, none⟩ = some (.int .u32 xa) ∧ wx.cell? ⟨p, 1, none⟩ = some (.int .i64 xb) ∧ wx.cell? ⟨p, 2, none⟩ = some (.int .i64 xc) ∧ wx.cell? ⟨p, 3, none⟩ = some (.int .i64 xd) ∧ wx.cell? ⟨p, 4, none⟩ = some (.int .i64 xe) ∧ wx.cell? ⟨p, 5, none⟩ = some (.int .i64 tx) ∧ wx.cell? ⟨r, 0, none⟩ = some (.int .u32 ya) ∧ wx.cell? ⟨r, 1, none⟩ = some (.int .i64 yb) ∧ wx.cell? ⟨r, 2, none⟩ = some (.int .i64 yc) ∧ wx.cell? ⟨r, 3, none⟩ = some (.int .i64 yd) ∧ wx.cell? ⟨r, 4, none⟩ = some (.int .i64 ye) ∧ wx.cell? ⟨r, 5, none⟩ = some (.int .i64 ty))) (by kernel_rfl) Hk2.out (fun hHeld => ?_)
      refine wpAnyH_take (i := 0) (v := .pointer (some ⟨qb, 0, none⟩)) rfl (by kernel_rfl) (by kernel_rfl) (by kernel_rfl) (fun _ _ _ h => h) (Or.inl ⟨by kernel_rfl, ?_⟩) hHeld ?_
      · intro w hSw; obtain ⟨_, k0, d0, d1, d2, d3, d4, d5, e0, e1, e2, e3, e4, e5⟩ := hSw; go_simp
      try simp only [Act.put, List.getElem_toArray, List.getElem_cons_succ, List.getElem_cons_zero, List.setIfInBounds_toArray, List.set_cons_zero, List.set_cons_succ]
      refine wpAnyH_take (i := 1) (v := .pointer (some ⟨qb, 0, none⟩)) rfl (by kernel_rfl) (by kernel_rfl) (by kernel_rfl) (fun _ _ _ h => h) (Or.inl ⟨by kernel_rfl, ?_⟩) hHeld ?_
      · intro w hSw; obtain ⟨_, k0, d0, d1, d2, d3, d4, d5, e0, e1, e2, e3, e4, e5⟩ := hSw; go_simp
      try simp only [Act.put, List.getElem_toArray, List.getElem_cons_succ, List.getElem_cons_zero, List.setIfInBounds_toArray, List.set_cons_zero, List.set_cons_succ]
      refine wpAnyH_take (i := 2) (v := .pointer (some ⟨qb, 0, none⟩)) rfl (by kernel_rfl) (by kernel_rfl) (by kernel_rfl) (fun _ _ _ h => h) (Or.inl ⟨by kernel_rfl, ?_⟩) hHeld ?_
      · intro w hSw; obtain ⟨_, k0, d0, d1, d2, d3, d4, d5, e0, e1, e2, e3, e4, e5⟩ := hSw; go_simp
      try simp only [Act.put, List.getElem_toArray, List.getElem_cons_succ, List.getElem_cons_zero, List.setIfInBounds_toArray, List.set_cons_zero, List.set_cons_succ]
      refine wpAnyH_take (i := 3) (v := .func (.func f) #[] c) rfl (by kernel_rfl) (by kernel_rfl) (by kernel_rfl) (fun _ _ _ h => h) (Or.inl ⟨by kernel_rfl, ?_⟩) hHeld ?_
      · intro w hSw; obtain ⟨_, k0, d0, d1, d2, d3, d4, d5, e0, e1, e2, e3, e4, e5⟩ := hSw; go_simp
      try simp only [Act.put, List.getElem_toArray, List.getElem_cons_succ, List.getElem_cons_zero, List.setIfInBounds_toArray, List.set_cons_zero, List.set_cons_succ]
      refine wpAnyH_take (i := 4) (v := .pointer (some ⟨r, 0, none⟩)) rfl (by kernel_rfl) (by kernel_rfl) (by kernel_rfl) (fun _ _ _ h => h) (Or.inl ⟨by kernel_rfl, ?_⟩) hHeld ?_
      · intro w hSw; obtain ⟨_, k0, d0, d1, d2, d3, d4, d5, e0, e1, e2, e3, e4, e5⟩ := hSw; go_simp
      try simp only [Act.put, List.getElem_toArray, List.getElem_cons_succ, List.getElem_cons_zero, List.setIfInBounds_toArray, List.set_cons_zero, List.set_cons_succ]
      refine wpAnyH_take (i := 5) (v := .agg #[.int .u32 ya, .int .i64 yb, .int .i64 yc, .int .i64 yd, .int .i64 ye]) rfl (by kernel_rfl) (by kernel_rfl) (by kernel_rfl) (fun _ _ _ h => h) (Or.inl ⟨by kernel_rfl, ?_⟩) hHeld ?_
      · intro w hSw; obtain ⟨_, k0, d0, d1, d2, d3, d4, d5, e0, e1, e2, e3, e4, e5⟩ := hSw; go_simp
      try simp only [Act.put, List.getElem_toArray, List.getElem_cons_succ, List.getElem_cons_zero, List.setIfInBounds_toArray, List.set_cons_zero, List.set_cons_succ]
      refine wpAnyH_take (i := 6) (v := .pointer (some ⟨p, 0, none⟩)) rfl (by kernel_rfl) (by kernel_rfl) (by kernel_rfl) (fun _ _ _ h => h) (Or.inl ⟨by kernel_rfl, ?_⟩) hHeld ?_
      · intro w hSw; obtain ⟨_, k0, d0, d1, d2, d3, d4, d5, e0, e1, e2, e3, e4, e5⟩ := hSw; go_simp
      try simp only [Act.put, List.getElem_toArray, List.getElem_cons_succ, List.getElem_cons_zero, List.setIfInBounds_toArray, List.set_cons_zero, List.set_cons_succ]
      refine wpAnyH_take (i := 7) (v := .agg #[.int .u32 xa, .int .i64 xb, .int .i64 xc, .int .i64 xd, .int .i64 xe]) rfl (by kernel_rfl) (by kernel_rfl) (by kernel_rfl) (fun _ _ _ h => h) (Or.inl ⟨by kernel_rfl, ?_⟩) hHeld ?_
      · intro w hSw; obtain ⟨_, k0, d0, d1, d2, d3, d4, d5, e0, e1, e2, e3, e4, e5⟩ := hSw; go_simp
      try simp only [Act.put, List.getElem_toArray, List.getElem_cons_succ, List.getElem_cons_zero, List.setIfInBounds_toArray, List.set_cons_zero, List.set_cons_succ]
      refine wpAnyH_ready (rs := [8]) (by kernel_rfl) (by simp) ?_
      refine AllReadyH.cons rfl (fun K hK => ?_) AllReadyH.nil
      go_simp
      (with_reducible refine (Hc2.out _ HD2.out).mono ?_)
      rintro e w3 ⟨rfl, hS'⟩
      refine hK.out _ _ hS' (fun hHeld => ?_)
      clear hK K
      try simp only [Act.put, List.getElem_toArray, List.getElem_cons_succ, List.getElem_cons_zero, List.setIfInBounds_toArray, List.set_cons_zero, List.set_cons_succ]
      refine wpAnyH_take (i := 9) (v := .bool false) rfl (by kernel_rfl) (by kernel_rfl) (by kernel_rfl) (fun _ _ _ h => h) (Or.inl ⟨by kernel_rfl, ?_⟩) hHeld ?_
      · intro w hSw; obtain ⟨_, k0, d0, d1, d2, d3, d4, d5, e0, e1, e2, e3, e4, e5⟩ := hSw; go_simp
      try simp only [Act.put, List.getElem_toArray, List.getElem_cons_succ, List.getElem_cons_zero, List.setIfInBounds_toArray, List.set_cons_zero, List.set_cons_succ]
      refine wpAnyH_take (i := 10) (v := .bool false) rfl (by kernel_rfl) (by kernel_rfl) (by kernel_rfl) (fun _ _ _ h => h) (Or.inl ⟨by kernel_rfl, ?_⟩) hHeld ?_
      · intro w hSw; obtain ⟨_, k0, d0, d1, d2, d3, d4, d5, e0, e1, e2, e3, e4, e5⟩ := hSw; go_simp
      try simp only [Act.put, List.getElem_toArray, List.getElem_cons_succ, List.getElem_cons_zero, List.setIfInBounds_toArray, List.set_cons_zero, List.set_cons_succ]
      refine wpAnyH_take (i := 11) (v := undef) rfl (by kernel_rfl) (by kernel_rfl) (by kernel_rfl) (fun _ _ _ h => h) (Or.inr ⟨by kernel_rfl, rfl⟩) hHeld ?_
      try simp only [Act.put, List.getElem_toArray, List.getElem_cons_succ, List.getElem_cons_zero, List.setIfInBounds_toArray, List.set_cons_zero, List.set_cons_succ]
      refine wpAnyH_take (i := 12) (v := undef) rfl (by kernel_rfl) (by kernel_rfl) (by kernel_rfl) (fun _ _ _ h => h) (Or.inr ⟨by kernel_rfl, rfl⟩) hHeld ?_
      try simp only [Act.put, List.getElem_toArray, List.getElem_cons_succ, List.getElem_cons_zero, List.setIfInBounds_toArray, List.set_cons_zero, List.set_cons_succ]
      refine wpAnyH_take (i := 13) (v := undef) rfl (by kernel_rfl) (by kernel_rfl) (by kernel_rfl) (fun _ _ _ h => h) (Or.inr ⟨by kernel_rfl, rfl⟩) hHeld ?_
      try simp only [Act.put, List.getElem_toArray, List.getElem_cons_succ, List.getElem_cons_zero, List.setIfInBounds_toArray, List.set_cons_zero, List.set_cons_succ]
      refine wpAnyH_take (i := 14) (v := undef) rfl (by kernel_rfl) (by kernel_rfl) (by kernel_rfl) (fun _ _ _ h => h) (Or.inr ⟨by kernel_rfl, rfl⟩) hHeld ?_
      try simp only [Act.put, List.getElem_toArray, List.getElem_cons_succ, List.getElem_cons_zero, List.setIfInBounds_toArray, List.set_cons_zero, List.set_cons_succ]
      refine wpAnyH_take (i := 15) (v := undef) rfl (by kernel_rfl) (by kernel_rfl) (by kernel_rfl) (fun _ _ _ h => h) (Or.inr ⟨by kernel_rfl, rfl⟩) hHeld ?_
      try simp only [Act.put, List.getElem_toArray, List.getElem_cons_succ, List.getElem_cons_zero, List.setIfInBounds_toArray, List.set_cons_zero, List.set_cons_succ]
      refine wpAnyH_take (i := 16) (v := .bool false) rfl (by kernel_rfl) (by kernel_rfl) (by kernel_rfl) (fun _ _ _ h => h) (Or.inl ⟨by kernel_rfl, ?_⟩) hHeld ?_
      · intro w hSw; obtain ⟨_, k0, d0, d1, d2, d3, d4, d5, e0, e1, e2, e3, e4, e5⟩ := hSw; go_simp
      try simp only [Act.put, List.getElem_toArray, List.getElem_cons_succ, List.getElem_cons_zero, List.setIfInBounds_toArray, List.set_cons_zero, List.set_cons_succ]
      refine wpAnyH_take (i := 17) (v := .bool false) rfl (by kernel_rfl) (by kernel_rfl) (by kernel_rfl) (fun _ _ _ h => h) (Or.inl ⟨by kernel_rfl, ?_⟩) hHeld ?_
      · intro w hSw; obtain ⟨_, k0, d0, d1, d2, d3, d4, d5, e0, e1, e2, e3, e4, e5⟩ := hSw; go_simp
      try simp only [Act.put, List.getElem_toArray, List.getElem_cons_succ, List.getElem_cons_zero, List.setIfInBounds_toArray, List.set_cons_zero, List.set_cons_succ]
      refine wpAnyH_done (by kernel_rfl) ?_ _
      go_wp2_with fail
      go_ret
      exact ⟨by simp [← Hxy.out.1, ← Hxy.out.2], Hg.out.trans hS'.1.out (fun _ _ h => h)⟩
    | false =>
      clear k0 d0 d1 d2 d3 d4 d5 e0 e1 e2 e3 e4 e5
      go_region_held3 (fun wx => Hid (Gr wc wx) ∧ wx.cell? ⟨qb, 0, none⟩ = some (.func (.func f) #[] c) ∧ wx.cell? ⟨p, 0, none⟩ = some (.int .u32 xa) ∧ wx.cell? ⟨p, 1, none⟩ = some (.int .i64 xb) ∧ wx.cell? ⟨p, 2, none⟩ = some (.int .i64 xc) ∧ wx.cell? ⟨p, 3, none⟩ = some (.int .i64 xd) ∧ wx.cell? ⟨p, 4, none⟩ = some (.int .i64 xe) ∧ wx.cell? ⟨p, 5, none⟩ = some (.int .i64 tx) ∧ wx.cell? ⟨r, 0, none⟩ = some (.int .u32 ya) ∧ wx.cell? ⟨r, 1, none⟩ = some (.int .i64 yb) ∧ wx.cell? ⟨r, 2, none⟩ = some (.int .i64 yc) ∧ wx.cell? ⟨r, 3, none⟩ = some (.int .i64 yd) ∧ wx.cell? ⟨r, 4, none⟩ = some (.int .i64 ye) ∧ wx.cell? ⟨r, 5, none⟩ = some (.int .i64 ty))
        (first | with_reducible exact hS' | with_reducible exact Hk2.out)
        (((with_reducible refine (Hc2.out _ HD2.out).mono ?_); rintro e w3 ⟨rfl, hS'⟩))
      go_wp2_with fail
      go_ret
      exact ⟨by simp [← Hxy.out.1, ← Hxy.out.2], Hg.out.trans hS'.1.out (fun _ _ h => h)⟩
end Qp
end Go.Proofs.Ytlodbhlidgepfaa

namespace Go.Proofs.Ytlodbhlidgepfaa
open Go.RowKit

namespace Qp

theorem results_cell_tmp {P : Program} {fn : Func} {p q : Tmp} {ty : TypeId} (h : fn.results = #[.cell p ty, .tmp q]) (tmps : Array Value) (w : World) (g : Nat) (t : TypeId) (cs : Array Value) (fr : Nat × Nat) (d : TypeDesc) (u : Value)
    (hp : tmps.getD p undef = .pointer (some ⟨g, 0, none⟩)) (hq : tmps.getD q undef = u) (hg : w.heap[g]? = some (.cells cs t fr))
    (hu : P.underlying ty = some d) (hd : (match d with | .struct _ | .array _ _ => true | _ => false) = true) (hi : (P.info? ty).map (·.size) = some cs.size) :
    (results fn tmps).run P w = .ok (.tuple #[.agg cs, u]) w := by
  have hp' : tmps[p]?.getD undef = .pointer (some ⟨g, 0, none⟩) := by simpa using hp
  have hq' : tmps[q]?.getD undef = u := by simpa using hq
  simp [results, h, hp', hq', asAddr, run_loadVar_row w g t ty cs fr d hg hu hd hi]

theorem made_yes (qb : Nat) (f : Fn) (x y : Array Value) (w : World)
    (h0 : w.cell? ⟨qb, 0, none⟩ = some (.func f x y)) :
    Calls Try.prog 81 #[.pointer (some ⟨qb, 0, none⟩)] w fun e w' => e = .returned (.bool true) ∧ w = w' := by
  have hn := fun w f x y => run_neq_func_nil (P := Try.prog) w 92 _ _ _ f x y Try.underlying92
  go_enter Try.func81, Try.ntmps81
  go_wp2
  go_ret
  exact ⟨rfl, rfl⟩


theorem peek_some (fv hv : Value) (B qb : Nat) (w : World) (l : List ((Int × Int × Int × Int × Int) × Nat)) (next : Nat) (hq : Q w B qb fv hv l next) (f : Fn) (x y : Array Value) (hfv : fv = .func f x y) (z : Int × Int × Int × Int × Int) (tz : Nat) (hz : l[0]? = some (z, tz)) :
    Calls Try.prog 60 #[.pointer (some ⟨qb, 0, none⟩)] w fun e w' => e = .returned (.tuple #[.agg #[.int .u32 z.1, .int .i64 z.2.1, .int .i64 z.2.2.1, .int .i64 z.2.2.2.1, .int .i64 z.2.2.2.2], .bool true]) ∧ Gr w w' := by
  subst hfv
  obtain ⟨za, zb, zc, zd, ze⟩ := z
  obtain ⟨hl, hz⟩ := List.getElem?_eq_some_iff.1 hz
  have c0 := hq.cell0
  have c1 := hq.cell1
  obtain ⟨hb, cap, rfl, hBhb, hhb, hne, hlc, hcm⟩ := hq.form (by omega)
  have z0 := hq.entry (fun _ => rfl) hl 0 (by omega)
  have z1 := hq.entry (fun _ => rfl) hl 1 (by omega)
  have z2 := hq.entry (fun _ => rfl) hl 2 (by omega)
  have z3 := hq.entry (fun _ => rfl) hl 3 (by omega)
  have z4 := hq.entry (fun _ => rfl) hl 4 (by omega)
  rw [hz] at z0 z1 z2 z3 z4
  simp [enc] at z0 z1 z2 z3 z4
  clear hz
  have hl' : ((l.length : Int) == 0) = false := beq_eq_false_iff_ne.2 (by omega)
  have hqb := hq.blk.lt
  clear hq
  have c0' : (w.alloc (.cells #[.int .u32 0, .int .i64 0, .int .i64 0, .int .i64 0, .int .i64 0] 91)).cell? ⟨qb, 0, none⟩ = some (.func f x y) := (((Fr.refl w NoneS).alloc _).cell (p := ⟨qb, 0, none⟩) hqb (fun h => h)).trans c0
  go_enter Try.func60, Try.ntmps60
  go_wp2_with (go_at_call 81; refine (made_yes _ _ _ _ _ c0').mono ?_; rintro e w' ⟨rfl, rfl⟩)
  refine bodyPost_ret (results_cell_tmp Try.results60 _ _ w.heap.size _ #[.int .u32 za, .int .i64 zb, .int .i64 zc, .int .i64 zd, .int .i64 ze] (0, 0) _ (.bool true) rfl rfl (heap_alloc_new w _) Try.underlying91 rfl (by kernel_rfl)) rfl ?_
  exact ⟨rfl, (Fr.refl _ _).alloc _⟩

theorem peek_none (fv hv : Value) (B qb : Nat) (w : World) (next : Nat) (hq : Q w B qb fv hv [] next) (f : Fn) (x y : Array Value) (hfv : fv = .func f x y) :
    Calls Try.prog 60 #[.pointer (some ⟨qb, 0, none⟩)] w fun e w' => e = .returned (.tuple #[.agg #[.int .u32 0, .int .i64 0, .int .i64 0, .int .i64 0, .int .i64 0], .bool false]) ∧ Gr w w' := by
  subst hfv
  have c0 := hq.cell0
  have c1 := hq.cell1
  obtain ⟨a, cap, rfl⟩ : ∃ a cap, hv = .slice a 0 cap := by
    rcases hq.own.2 with ⟨h, h0⟩ | ⟨g, cap, cur, h, _⟩
    · exact ⟨none, 0, by rw [h]⟩
    · exact ⟨_, cap, h⟩
  have hqb := hq.blk.lt
  clear hq
  have c0' : (w.alloc (.cells #[.int .u32 0, .int .i64 0, .int .i64 0, .int .i64 0, .int .i64 0] 91)).cell? ⟨qb, 0, none⟩ = some (.func f x y) := (((Fr.refl w NoneS).alloc _).cell (p := ⟨qb, 0, none⟩) hqb (fun h => h)).trans c0
  go_enter Try.func60, Try.ntmps60
  go_wp2_with (go_at_call 81; refine (made_yes _ _ _ _ _ c0').mono ?_; rintro e w' ⟨rfl, rfl⟩)
  refine bodyPost_ret (results_cell_tmp Try.results60 _ _ w.heap.size _ #[.int .u32 0, .int .i64 0, .int .i64 0, .int .i64 0, .int .i64 0] (0, 0) _ (.bool false) rfl rfl ((Blk.new w 91 #[.int .u32 0, .int .i64 0, .int .i64 0, .int .i64 0, .int .i64 0]).alloc _) Try.underlying91 rfl (by kernel_rfl)) rfl ?_
  exact ⟨rfl, ((Fr.refl _ _).alloc _).alloc _⟩

theorem new_any (f : Fn) (x y : Array Value) (w : World) :
    Calls Try.prog 44 #[.func f x y] w fun e w' => e = .returned (.pointer (some ⟨w.heap.size, 0, none⟩)) ∧ w' = w.alloc (.cells #[.func f x y, .slice none 0 0, .int .i64 0] 123) := by
  have hn := fun w f x y => run_eql_func_nil (P := Try.prog) w 92 _ _ _ f x y Try.underlying92
  go_enter Try.func44, Try.ntmps44
  go_wp2
  go_ret
  exact ⟨rfl, rfl⟩
end Qp
end Go.Proofs.Ytlodbhlidgepfaa

namespace Go.Proofs.Ytlodbhlidgepfaa
open Go.RowKit

namespace Qp

theorem info_e : (Try.prog.info? 127).map (fun i => (i.zero, i.size, i.bytes)) = some (some (.agg #[.int .u32 0, .int .i64 0, .int .i64 0, .int .i64 0, .int .i64 0, .int .i64 0]), 6, 48) := by kernel_rfl
theorem cells_snoc (l : List ((Int × Int × Int × Int × Int) × Nat)) (xa xb xc xd xe : Int) (n : Nat) : QP.cells enc (l ++ [((xa, xb, xc, xd, xe), n)]) = QP.cells enc l ++ [.int .u32 xa, .int .i64 xb, .int .i64 xc, .int .i64 xd, .int .i64 xe, .int .i64 n] := by
  simp [QP.cells, enc]

/-- an entry's cells -/
theorem two {w : World} {B qb : Nat} {fv : Value} {g n cap : Nat} {h : List ((Int × Int × Int × Int × Int) × Nat)} {next : Nat} (hq : Q w B qb fv (.slice (some ⟨g, 0, none⟩) n cap) h next) (hn : h.length = n) {i : Nat} (hi : i < h.length) :
    ∃ xa xb xc xd xe tx, Hid (h[i]? = some ((xa, xb, xc, xd, xe), tx)) ∧ w.cell? ⟨g, i * 6, none⟩ = some (.int .u32 xa) ∧ w.cell? ⟨g, i * 6 + 1, none⟩ = some (.int .i64 xb) ∧ w.cell? ⟨g, i * 6 + 2, none⟩ = some (.int .i64 xc) ∧ w.cell? ⟨g, i * 6 + 3, none⟩ = some (.int .i64 xd) ∧ w.cell? ⟨g, i * 6 + 4, none⟩ = some (.int .i64 xe) ∧ w.cell? ⟨g, i * 6 + 5, none⟩ = some (.int .i64 (tx : Nat)) ∧ w.frozen? ⟨g, i * 6, none⟩ = false ∧ w.frozen? ⟨g, i * 6 + 1, none⟩ = false ∧ w.frozen? ⟨g, i * 6 + 2, none⟩ = false ∧ w.frozen? ⟨g, i * 6 + 3, none⟩ = false ∧ w.frozen? ⟨g, i * 6 + 4, none⟩ = false ∧ w.frozen? ⟨g, i * 6 + 5, none⟩ = false := by
  subst hn
  have x0 := hq.entry (fun _ => rfl) hi 0 (by omega)
  have x1 := hq.entry (fun _ => rfl) hi 1 (by omega)
  have x2 := hq.entry (fun _ => rfl) hi 2 (by omega)
  have x3 := hq.entry (fun _ => rfl) hi 3 (by omega)
  have x4 := hq.entry (fun _ => rfl) hi 4 (by omega)
  have x5 := hq.entry (fun _ => rfl) hi 5 (by omega)
  simp [enc] at x0 x1 x2 x3 x4 x5
  exact ⟨_, _, _, _, _, _, List.getElem?_eq_getElem hi, x0, x1, x2, x3, x4, x5, hq.froz _, hq.froz _, hq.froz _, hq.froz _, hq.froz _, hq.froz _⟩

/-- an entry is put anew -/
theorem put2 {w : World} {B qb : Nat} {fv : Value} {g n cap : Nat} {h : List ((Int × Int × Int × Int × Int) × Nat)} {next : Nat} (hq : Q w B qb fv (.slice (some ⟨g, 0, none⟩) n cap) h next) (hn : h.length = n) {i : Nat} (hi : i < h.length) (xa xb xc xd xe : Int) (t : Nat) :
    Q ((((((w.setCell ⟨g, i * 6, none⟩ (.int .u32 xa)).setCell ⟨g, i * 6 + 1, none⟩ (.int .i64 xb)).setCell ⟨g, i * 6 + 2, none⟩ (.int .i64 xc)).setCell ⟨g, i * 6 + 3, none⟩ (.int .i64 xd)).setCell ⟨g, i * 6 + 4, none⟩ (.int .i64 xe)).setCell ⟨g, i * 6 + 5, none⟩ (.int .i64 t)) B qb fv (.slice (some ⟨g, 0, none⟩) n cap) (h.set i ((xa, xb, xc, xd, xe), t)) next := by
  subst hn
  have hne : g ≠ qb := fun e => hq.ne (by rw [e]; rfl)
  have o1 := (hq.own.stored (i * 6) (.int .u32 xa)).1
  have o2 := (o1.stored (i * 6 + 1) (.int .i64 xb)).1
  have o3 := (o2.stored (i * 6 + 2) (.int .i64 xc)).1
  have o4 := (o3.stored (i * 6 + 3) (.int .i64 xd)).1
  have o5 := (o4.stored (i * 6 + 4) (.int .i64 xe)).1
  have o6 := (o5.stored (i * 6 + 5) (.int .i64 (t : Nat))).1
  have e2 : ((((((QP.cells enc h).set (i * 6) (.int .u32 xa)).set (i * 6 + 1) (.int .i64 xb)).set (i * 6 + 2) (.int .i64 xc)).set (i * 6 + 3) (.int .i64 xd)).set (i * 6 + 4) (.int .i64 xe)).set (i * 6 + 5) (.int .i64 (t : Nat)) = QP.cells enc (h.set i ((xa, xb, xc, xd, xe), t)) := by
    unfold QP.cells
    refine set_flatMap (fun e : (Int × Int × Int × Int × Int) × Nat => enc e.1 ++ [Value.int .i64 e.2]) 6 (by omega) (fun _ => rfl) h i ((xa, xb, xc, xd, xe), t) _ (by simp) ?_ ?_
    · intro j hj hi'
      have hL : (h.flatMap (fun e : (Int × Int × Int × Int × Int) × Nat => enc e.1 ++ [Value.int .i64 e.2])).length = h.length * 6 := len_flatMap _ 6 (fun _ => rfl) h
      match j, hj with
      | 0, _ => rw [List.getElem?_set_ne (by omega), List.getElem?_set_ne (by omega), List.getElem?_set_ne (by omega), List.getElem?_set_ne (by omega), List.getElem?_set_ne (by omega), Nat.add_zero, List.getElem?_set_self (by rw [hL]; omega)]; rfl
      | 1, _ => rw [List.getElem?_set_ne (by omega), List.getElem?_set_ne (by omega), List.getElem?_set_ne (by omega), List.getElem?_set_ne (by omega), List.getElem?_set_self (by simp only [List.length_set]; rw [hL]; omega)]; rfl
      | 2, _ => rw [List.getElem?_set_ne (by omega), List.getElem?_set_ne (by omega), List.getElem?_set_ne (by omega), List.getElem?_set_self (by simp only [List.length_set]; rw [hL]; omega)]; rfl
      | 3, _ => rw [List.getElem?_set_ne (by omega), List.getElem?_set_ne (by omega), List.getElem?_set_self (by simp only [List.length_set]; rw [hL]; omega)]; rfl
      | 4, _ => rw [List.getElem?_set_ne (by omega), List.getElem?_set_self (by simp only [List.length_set]; rw [hL]; omega)]; rfl
      | 5, _ => rw [List.getElem?_set_self (by simp only [List.length_set]; rw [hL]; omega)]; rfl
    · intro m hm
      rw [List.getElem?_set_ne (by omega), List.getElem?_set_ne (by omega), List.getElem?_set_ne (by omega), List.getElem?_set_ne (by omega), List.getElem?_set_ne (by omega), List.getElem?_set_ne (by omega)]
  rw [e2] at o6
  refine ⟨hq.base, ((((((hq.blk.far (p := ⟨g, i * 6, none⟩) (Ne.symm hne) _).far (p := ⟨g, i * 6 + 1, none⟩) (Ne.symm hne) _).far (p := ⟨g, i * 6 + 2, none⟩) (Ne.symm hne) _).far (p := ⟨g, i * 6 + 3, none⟩) (Ne.symm hne) _).far (p := ⟨g, i * 6 + 4, none⟩) (Ne.symm hne) _).far (p := ⟨g, i * 6 + 5, none⟩) (Ne.symm hne) _), ?_, hq.ne⟩
  rw [List.length_set]
  exact o6
theorem swap_world {w : World} {B qb : Nat} {fv : Value} {g n cap : Nat} {h : List ((Int × Int × Int × Int × Int) × Nat)} {next : Nat} (hq : Q w B qb fv (.slice (some ⟨g, 0, none⟩) n cap) h next) (hn : h.length = n) {i p : Nat} (hi : i < h.length) (hp : p < h.length)
    {xa xb xc xd xe ya yb yc yd ye : Int} {tx ty : Nat} (hx : h[i]? = some ((xa, xb, xc, xd, xe), tx)) (hy : h[p]? = some ((ya, yb, yc, yd, ye), ty)) :
    Q ((((((((((((w.setCell ⟨g, i * 6, none⟩ (.int .u32 ya)).setCell ⟨g, i * 6 + 1, none⟩ (.int .i64 yb)).setCell ⟨g, i * 6 + 2, none⟩ (.int .i64 yc)).setCell ⟨g, i * 6 + 3, none⟩ (.int .i64 yd)).setCell ⟨g, i * 6 + 4, none⟩ (.int .i64 ye)).setCell ⟨g, i * 6 + 5, none⟩ (.int .i64 ty)).setCell ⟨g, p * 6, none⟩ (.int .u32 xa)).setCell ⟨g, p * 6 + 1, none⟩ (.int .i64 xb)).setCell ⟨g, p * 6 + 2, none⟩ (.int .i64 xc)).setCell ⟨g, p * 6 + 3, none⟩ (.int .i64 xd)).setCell ⟨g, p * 6 + 4, none⟩ (.int .i64 xe)).setCell ⟨g, p * 6 + 5, none⟩ (.int .i64 tx)).drew B qb fv (.slice (some ⟨g, 0, none⟩) n cap) (QP.swp h i p) next := by
  have h1 := put2 hq hn hi ya yb yc yd ye ty
  have h2 := put2 h1 (by rw [List.length_set]; exact hn) (i := p) (by rw [List.length_set]; exact hp) xa xb xc xd xe tx
  have e : QP.swp h i p = (h.set i ((ya, yb, yc, yd, ye), ty)).set p ((xa, xb, xc, xd, xe), tx) := by unfold QP.swp; rw [hx, hy]
  rw [e]
  exact h2.gr ((Fr.refl _ _).drew)
theorem fr_four {w w' : World} {S : Nat → Prop} (hF : Fr w w' S) {g : Nat} (hg : g < w.heap.size → S g) (a0 a1 a2 a3 a4 a5 a6 a7 a8 a9 a10 a11 : Nat) (u0 u1 u2 u3 u4 u5 u6 u7 u8 u9 u10 u11 : Value) :
    Fr w ((((((((((((w'.setCell ⟨g, a0, none⟩ u0).setCell ⟨g, a1, none⟩ u1).setCell ⟨g, a2, none⟩ u2).setCell ⟨g, a3, none⟩ u3).setCell ⟨g, a4, none⟩ u4).setCell ⟨g, a5, none⟩ u5).setCell ⟨g, a6, none⟩ u6).setCell ⟨g, a7, none⟩ u7).setCell ⟨g, a8, none⟩ u8).setCell ⟨g, a9, none⟩ u9).setCell ⟨g, a10, none⟩ u10).setCell ⟨g, a11, none⟩ u11).drew S :=
  ((((((((((((hF.setCell (p := ⟨g, a0, none⟩) hg _).setCell (p := ⟨g, a1, none⟩) hg _).setCell (p := ⟨g, a2, none⟩) hg _).setCell (p := ⟨g, a3, none⟩) hg _).setCell (p := ⟨g, a4, none⟩) hg _).setCell (p := ⟨g, a5, none⟩) hg _).setCell (p := ⟨g, a6, none⟩) hg _).setCell (p := ⟨g, a7, none⟩) hg _).setCell (p := ⟨g, a8, none⟩) hg _).setCell (p := ⟨g, a9, none⟩) hg _).setCell (p := ⟨g, a10, none⟩) hg _).setCell (p := ⟨g, a11, none⟩) hg _).drew
theorem fr_two {w w' : World} {S : Nat → Prop} (hF : Fr w w' S) {g : Nat} (hg : g < w.heap.size → S g) (a0 a1 a2 a3 a4 a5 : Nat) (u0 u1 u2 u3 u4 u5 : Value) :
    Fr w ((((((w'.setCell ⟨g, a0, none⟩ u0).setCell ⟨g, a1, none⟩ u1).setCell ⟨g, a2, none⟩ u2).setCell ⟨g, a3, none⟩ u3).setCell ⟨g, a4, none⟩ u4).setCell ⟨g, a5, none⟩ u5).drew S :=
  ((((((hF.setCell (p := ⟨g, a0, none⟩) hg _).setCell (p := ⟨g, a1, none⟩) hg _).setCell (p := ⟨g, a2, none⟩) hg _).setCell (p := ⟨g, a3, none⟩) hg _).setCell (p := ⟨g, a4, none⟩) hg _).setCell (p := ⟨g, a5, none⟩) hg _).drew

/-- what the append and the store leave -/
def PushMid (w w1 : World) (B qb : Nat) (fv hv : Value) (l : List ((Int × Int × Int × Int × Int) × Nat)) (next g cap : Nat) (x : Int × Int × Int × Int × Int) : Prop :=
  g ≠ qb ∧ w1.ownsRow B 127 6 (.slice (some ⟨g, 0, none⟩) (l.length + 1) cap) (l.length + 1) (QP.cells enc (l ++ [(x, next)])) ∧
  Blk w1 qb 123 #[fv, .slice (some ⟨g, 0, none⟩) (l.length + 1) cap, .int .i64 next] ∧ Fr w w1 (QS qb hv) ∧ (hv.ownBlock = some g ∨ w.heap.size ≤ g)

theorem push_mid {w w1 : World} {B qb : Nat} {fv hv : Value} {l : List ((Int × Int × Int × Int × Int) × Nat)} {next g cap : Nat} {xa xb xc xd xe : Int} (hq : Q w B qb fv hv l next) (hF : Fr w w1 (fun k => hv.ownBlock = some k))
    (hO : w1.ownsRow B 127 6 (.slice (some ⟨g, 0, none⟩) (l.length + 1) cap) (l.length + 1) (QP.cells enc l ++ [.int .u32 xa, .int .i64 xb, .int .i64 xc, .int .i64 xd, .int .i64 xe, .int .i64 next]))
    (hA : hv.ownBlock = some g ∨ g = w.heap.size + 1) :
    PushMid w (w1.setCell ⟨qb, 1, none⟩ (.slice (some ⟨g, 0, none⟩) (l.length + 1) cap)) B qb fv hv l next g cap (xa, xb, xc, xd, xe) := by
  have hqb := hq.blk.lt
  have hne : g ≠ qb := by
    rcases hA with h | h
    · intro e; exact hq.ne (by rw [h, e])
    · omega
  have hst : Fr w1 (w1.setCell ⟨qb, 1, none⟩ (.slice (some ⟨g, 0, none⟩) (l.length + 1) cap)) (fun k => k = qb) := Fr.setCell (S := fun k => k = qb) (Fr.refl w1 _) (fun _ => rfl) _
  refine ⟨hne, ?_, ?_, ?_, ?_⟩
  · rw [cells_snoc]
    exact hst.owns hO (fun k hk e => by simp [Value.ownBlock] at hk; omega)
  · have := (hq.blk.fr hF hq.ne).set_ 1 (.slice (some ⟨g, 0, none⟩) (l.length + 1) cap)
    simpa using this
  · exact (hF.mono (fun k _ h => .inr h)).trans hst (fun i _ h => .inl h)
  · rcases hA with h | h
    · exact .inl h
    · exact .inr (by omega)

theorem push_start {w w1 : World} {B qb : Nat} {fv hv : Value} {l : List ((Int × Int × Int × Int × Int) × Nat)} {next g cap : Nat} {x : Int × Int × Int × Int × Int} (hq : Q w B qb fv hv l next) (hM : PushMid w w1 B qb fv hv l next g cap x) :
    Q (w1.setCell ⟨qb, 2, none⟩ (.int .i64 (next + 1))) B qb fv (.slice (some ⟨g, 0, none⟩) (l.length + 1) cap) (l ++ [(x, next)]) (next + 1) ∧
    Fr w (w1.setCell ⟨qb, 2, none⟩ (.int .i64 (next + 1))) (QS qb hv) := by
  obtain ⟨hne, hO, hB, hF, hA⟩ := hM
  have hst : Fr w1 (w1.setCell ⟨qb, 2, none⟩ (.int .i64 (next + 1))) (fun k => k = qb) := Fr.setCell (S := fun k => k = qb) (Fr.refl w1 _) (fun _ => rfl) _
  refine ⟨⟨hq.base, ?_, ?_, ?_⟩, hF.trans hst (fun i _ h => .inl h)⟩
  · have := hB.set_ 2 (.int .i64 (next + 1))
    simpa using this
  · have := hst.owns hO (fun k hk e => by simp [Value.ownBlock] at hk; omega)
    simpa using this
  · simp [Value.ownBlock]; exact hne
theorem cell_new_row (w : World) (cs : Array Value) (t : TypeId) : ∀ j u, cs.toList[j]? = some u → (w.alloc (.cells cs t)).cell? ((⟨w.heap.size, 0, none⟩ : Addr).add j) = some u := by
  intro j u hj
  rw [addr_add, Nat.zero_add, World.cell?_alloc_new]
  simpa using hj

set_option maxHeartbeats 3200000 in
set_option maxRecDepth 100000 in
theorem push_any (lt : (Int × Int × Int × Int × Int) → (Int × Int × Int × Int × Int) → Bool) (fv hv : Value) (B qb Bl : Nat) (W0 w0 : World) (l : List ((Int × Int × Int × Int × Int) × Nat)) (next : Nat) (hq0 : Q w0 B qb fv hv l next)
    (hless : LessGr fv lt Bl W0) (hW0 : Below Bl W0 w0) (hBl : Bl ≤ B) (xa xb xc xd xe : Int) (hlen : l.length ≤ 4194304) (hnx : next ≤ 4194304) :
    Calls Try.prog 59 #[.pointer (some ⟨qb, 0, none⟩), .agg #[.int .u32 xa, .int .i64 xb, .int .i64 xc, .int .i64 xd, .int .i64 xe]] w0 fun e w' => e = .returned (.int .i64 0) ∧
      ∃ hv', Q w' B qb fv hv' (QP.push lt l ((xa, xb, xc, xd, xe), next)) (next + 1) ∧ Fr w0 w' (QS qb hv) ∧ (hv'.ownBlock = hv.ownBlock ∨ ∃ g, hv'.ownBlock = some g ∧ w0.heap.size ≤ g) := by
  obtain ⟨i0, hi0, hz0, hz1, hz2⟩ := info_parts info_e
  obtain ⟨f, c, hfv, hcf, hl⟩ := hless
  have hless : LessGr fv lt Bl W0 := ⟨f, c, hfv, hcf, hl⟩
  have Hless := Lib.hid hless
  clear hl hcf hless
  have Hfv := Lib.hid hfv
  clear hfv
  have HBX := Lib.hid (Blk.new w0 91 #[.int .u32 xa, .int .i64 xb, .int .i64 xc, .int .i64 xd, .int .i64 xe])
  have HG0 := Lib.hid ((Fr.refl w0 NoneS).alloc (.cells #[.int .u32 xa, .int .i64 xb, .int .i64 xc, .int .i64 xd, .int .i64 xe] 91))
  have hBw0 : B ≤ w0.heap.size := Nat.le_of_lt (Nat.lt_of_le_of_lt hq0.base hq0.blk.lt)
  have HW0 := Lib.hid (below_of_gr hW0 HG0.out (Nat.le_trans hBl hBw0))
  have HQ0 := Lib.hid (hq0.gr HG0.out)
  have hqp : qb ≠ w0.heap.size := by have := hq0.blk.lt; omega
  clear hq0 hW0
  go_enter Try.func59, Try.ntmps59
  go_upto_region 1 with (fail)
  change Code.wp _ _ _ _ (w0.alloc (.cells #[.int .u32 xa, .int .i64 xb, .int .i64 xc, .int .i64 xd, .int .i64 xe] 91))
  generalize hw : w0.alloc (.cells #[.int .u32 xa, .int .i64 xb, .int .i64 xc, .int .i64 xd, .int .i64 xe] 91) = w at HBX HG0 HW0 HQ0 ⊢
  generalize hp3 : w0.heap.size = p3 at HBX hqp ⊢
  clear hw
  have Hp3 := Lib.hid hp3
  clear hp3
  have hW := HW0.out
  have hq := HQ0.out
  have c0 := hq.cell0
  rw [Hfv.out] at c0
  have c1 := hq.cell1
  have c2 := hq.cell2
  have b0 : w.cell? ⟨p3, 0, none⟩ = some (.int .u32 xa) := HBX.out.cell 0
  have b1 : w.cell? ⟨p3, 1, none⟩ = some (.int .i64 xb) := HBX.out.cell 1
  have b2 : w.cell? ⟨p3, 2, none⟩ = some (.int .i64 xc) := HBX.out.cell 2
  have b3 : w.cell? ⟨p3, 3, none⟩ = some (.int .i64 xd) := HBX.out.cell 3
  have b4 : w.cell? ⟨p3, 4, none⟩ = some (.int .i64 xe) := HBX.out.cell 4
  have hqb : qb < w.heap.size := hq.blk.lt
  have fz := hq.frozen
  have f1 := fz 1
  have f2 := fz 2
  clear fz
  have hBw : B ≤ w.heap.size := Nat.le_of_lt (Nat.lt_of_le_of_lt hq.base hqb)
  have Hq := Lib.hid hq
  have Hq0 := Lib.hid hq
  have HWw := Lib.hid hW
  clear hq hW hqp
  go_upto_region 3 with (go_at_call 81; refine (made_yes _ _ _ _ _ c0).mono ?_; rintro e w' ⟨rfl, rfl⟩)
  go_cut [] (fun w1 => ∃ g cap, Hid (PushMid w w1 B qb fv hv l next g cap (xa, xb, xc, xd, xe)))
  case first =>
    go_region_law (first
      | (refine step_append_lies _ rfl (.tmp 13) (.tmp 20) 121 rfl B 127 i0 _ 6 48 Try.underlying121 hi0 hz0 hz1 hz2 rfl (by omega) hv l.length (QP.cells enc l) rfl
          (by exact Fr.owns (S := NoneS) (by exact ((Fr.refl w _).alloc _).drew) Hq.out.own (fun _ _ h => h)) ⟨w.heap.size, 0, none⟩ 1 1 [.int .u32 xa, .int .i64 xb, .int .i64 xc, .int .i64 xd, .int .i64 xe, .int .i64 next] rfl rfl (by exact cell_new_row w _ _) (by simp [Value.oneCell']) (by omega) (by unfold maxLen; omega) (by omega) (by simp; omega) (w.heap.size + 1) (by simp) ?_; intro g cap w1 hown hg1 hat hlt; have HF := Lib.hid (Fr.grown (S := fun k => hv.ownBlock = some k) (by exact ((Fr.refl w _).alloc _).drew) hg1 (fun k hk _ => hk)); have k1 := (Hq.out.blk.fr HF.out Hq.out.ne).cell 1; have e1 := (Hq.out.blk.fr HF.out Hq.out.ne).frozen 1; simp at k1; have HO := Lib.hid hown; have HA := Lib.hid hat; have HL := Lib.hid hlt; clear hown hg1 hat hlt))
    all_goals go_wp2_with fail
    all_goals go_meet
    all_goals exact ⟨_, _, push_mid Hq.out HF.out HO.out HA.out⟩
  case rest =>
  obtain ⟨g, cap, HM⟩ := hcut
  have k1 := HM.out.2.2.1.cell 1
  have k2 := HM.out.2.2.1.cell 2
  have e1 := HM.out.2.2.1.frozen 1
  have e2 := HM.out.2.2.1.frozen 2
  simp at k1 k2
  have hnx' : (next : Int) ≤ 4194304 := by omega
  have hlen' : (l.length : Int) ≤ 4194304 := by omega
  clear c1 c2 f1 f2 b0 b1 b2 b3 b4
  go_wp2_with fail
  have HQ1 := Lib.hid (push_start Hq.out HM.out)
  have Hg := Lib.hid HM.out.2.2.2.2
  have Hgq := Lib.hid HM.out.1
  generalize hwl : wc.setCell _ _ = wl
  rw [hwl] at HQ1
  clear hwl k1 k2 e1 e2 HM Hq c0 hqb
  go_loopg [5] (l.length + 1) (fun m si wr => ∃ (i : Nat) (h : List ((Int × Int × Int × Int × Int) × Nat)), si = .int .i64 i ∧ Hid (i < h.length ∧ h.length = l.length + 1 ∧ i < m) ∧
    Hid (Q wr B qb fv (.slice (some ⟨g, 0, none⟩) (l.length + 1) cap) h (next + 1)) ∧ Hid (Fr w wr (QS qb hv)) ∧ Hid (∃ f, i ≤ f ∧ QP.up lt f h i = QP.push lt l ((xa, xb, xc, xd, xe), next)))
  case atStart => exact ⟨l.length, l ++ [((xa, xb, xc, xd, xe), next)], rfl, ⟨by simp, by simp, by omega⟩, HQ1.out.1, HQ1.out.2, ⟨l.length, Nat.le_refl _, rfl⟩⟩
  case round =>
    obtain ⟨i, h, rfl, HI, HQ, HF, HU⟩ := hrel
    clear HQ1 hlen' hnx'
    by_cases hi : 0 < i
    · have hi1 : (0 : Int) < i := by omega
      have hi2 : (1 : Int) ≤ i := by omega
      have hi3 : (i : Int) ≤ 4194304 := by have := HI.out; omega
      obtain ⟨p, hp0⟩ : ∃ p : Nat, p = (i - 1) / 2 := ⟨_, rfl⟩
      have hp : ((i : Int) - 1) / 2 = (p : Int) := by omega
      have Hp := Lib.hid hp0
      have Hpi := Lib.hid (show p < i by omega)
      clear hp0
      have hiL : (i : Int) < (l.length : Int) + 1 := by have := HI.out; omega
      have hpL : (p : Int) < (l.length : Int) + 1 := by have := HI.out; have := Hpi.out; omega
      have HWr := Lib.hid (show Below Bl W0 wr from HWw.out.trans (HF.out.below (Nat.le_trans hBl hBw) (fun k hk hs => by
        rcases hs with hs | hs
        · have := Hq0.out.base; omega
        · have := (Hq0.out.own.lt k hs).1; omega)))
      have hcall : Calls Try.prog 61 #[.pointer (some ⟨qb, 0, none⟩), .int .i64 i, .int .i64 p] wr fun e w' => e = .returned (.bool (QP.aheadAt lt h i p)) ∧ Hid (Gr wr w') :=
        ahead_any lt fv _ B qb Bl W0 wr h (next + 1) HQ.out Hless.out HWr.out (Nat.le_trans (Nat.le_trans hBl hBw) HF.out.size) i p (by omega) (by have := HI.out; omega) (by omega) (by have := HI.out; have := Hpi.out; omega)
      cases hA : QP.aheadAt lt h i p with
      | true =>
        rw [hA] at hcall
        have HA := Lib.hid hA
        have HC := Lib.hid hcall
        clear hA hcall
        go_upto_region 8 with (go_at_call 61; refine HC.out.mono ?_; rintro e w2 ⟨rfl, HG⟩)
        have HQ2 := Lib.hid (HQ.out.gr HG.out)
        have k1 := HQ2.out.cell1
        obtain ⟨xa', xb', xc', xd', xe', tx', EX, q0, q1, q2, q3, q4, q5, fq0, fq1, fq2, fq3, fq4, fq5⟩ := two HQ2.out HI.out.2.1 HI.out.1
        obtain ⟨ya', yb', yc', yd', ye', ty', EY, r0, r1, r2, r3, r4, r5, fr0, fr1, fr2, fr3, fr4, fr5⟩ := two HQ2.out HI.out.2.1 (Nat.lt_trans Hpi.out HI.out.1)
        go_region
        go_wp2
        go_roundg i
        case measure => exact HI.out.2.2
        case rel =>
          refine ⟨p, QP.swp h i p, by rw [hp], ⟨by rw [QP.length_swp]; exact Nat.lt_trans Hpi.out HI.out.1, by rw [QP.length_swp]; exact HI.out.2.1, Hpi.out⟩,
            swap_world HQ2.out HI.out.2.1 HI.out.1 (Nat.lt_trans Hpi.out HI.out.1) EX.out EY.out,
            fr_four (HF.out.trans (Gr.mono HG.out (QS qb hv)) (fun _ _ h => h)) (fun hlt => ?_) _ _ _ _ _ _ _ _ _ _ _ _ _ _ _ _ _ _ _ _ _ _ _ _, ?_⟩
          · rcases Hg.out with hh | hh
            · exact .inr hh
            · omega
          · obtain ⟨f0, hf0, hu⟩ := HU.out
            rw [QP.up_go lt f0 h i ⟨hi, by rw [← Hp.out]; exact HA.out⟩ (by omega), ← Hp.out] at hu
            exact ⟨f0 - 1, by have := Hpi.out; omega, hu⟩
      | false =>
        rw [hA] at hcall
        have HA := Lib.hid hA
        have HC := Lib.hid hcall
        clear hA hcall
        go_wp2_with (go_at_call 61; refine HC.out.mono ?_; rintro e w2 ⟨rfl, HG⟩)
        go_ret
        refine ⟨rfl, .slice (some ⟨g, 0, none⟩) (l.length + 1) cap, ?_, (Gr.mono HG0.out (QS qb hv)).trans (HF.out.trans (Gr.mono HG.out (QS qb hv)) (fun _ _ h => h)) (fun _ _ h => h), ?_⟩
        · obtain ⟨f0, hf0, hu⟩ := HU.out
          rw [← hu, QP.up_stop lt f0 h i (by rw [← Hp.out]; intro h'; rw [HA.out] at h'; simp at h')]
          exact HQ.out.gr HG.out
        · rcases Hg.out with hh | hh
          · exact .inl hh.symm
          · exact .inr ⟨g, rfl, Nat.le_trans HG0.out.size hh⟩
    · have hi1 : decide ((0 : Int) < (i : Int)) = false := decide_eq_false (by omega)
      go_wp2_with fail
      go_ret
      refine ⟨rfl, .slice (some ⟨g, 0, none⟩) (l.length + 1) cap, ?_, (Gr.mono HG0.out (QS qb hv)).trans HF.out (fun _ _ h => h), ?_⟩
      · obtain ⟨f0, hf0, hu⟩ := HU.out
        rw [← hu, QP.up_stop lt f0 h i (by intro h'; exact hi h'.1)]
        exact HQ.out
      · rcases Hg.out with hh | hh
        · exact .inl hh.symm
        · exact .inr ⟨g, rfl, Nat.le_trans HG0.out.size hh⟩
end Qp
end Go.Proofs.Ytlodbhlidgepfaa

namespace Go.Proofs.Ytlodbhlidgepfaa
open Go.RowKit

namespace Qp

theorem cells_take (l : List ((Int × Int × Int × Int × Int) × Nat)) (k : Nat) (hk : k ≤ l.length) : (QP.cells enc l).take (k * 6) = QP.cells enc (l.take k) := by
  have h1 : QP.cells enc l = QP.cells enc (l.take k) ++ QP.cells enc (l.drop k) := by unfold QP.cells; rw [← List.flatMap_append, List.take_append_drop]
  have h2 : (QP.cells enc (l.take k)).length = k * 6 := by unfold QP.cells; rw [len_flatMap _ 6 (fun _ => rfl), List.length_take, Nat.min_eq_left hk]
  rw [h1, ← h2, List.take_left]

/-- the slice is cut -/
theorem cut_world {w : World} {B qb : Nat} {fv : Value} {g n cap m : Nat} {h : List ((Int × Int × Int × Int × Int) × Nat)} {next : Nat} (hq : Q w B qb fv (.slice (some ⟨g, 0, none⟩) n cap) h next) (hn : h.length = n) (hm : m ≤ n) :
    Q (w.setCell ⟨qb, 1, none⟩ (.slice (some ⟨g, 0, none⟩) m cap)) B qb fv (.slice (some ⟨g, 0, none⟩) m cap) (h.take m) next := by
  subst hn
  have hne : g ≠ qb := fun e => hq.ne (by rw [e]; rfl)
  have hst : Fr w (w.setCell ⟨qb, 1, none⟩ (.slice (some ⟨g, 0, none⟩) m cap)) (fun k => k = qb) := Fr.setCell (S := fun k => k = qb) (Fr.refl w _) (fun _ => rfl) _
  refine ⟨hq.base, ?_, ?_, fun e => hne (by simpa [Value.ownBlock] using e)⟩
  · have := hq.blk.set_ 1 (.slice (some ⟨g, 0, none⟩) m cap)
    simpa using this
  · have := hst.owns (own_take hq.own hm) (fun k hk e => by simp [Value.ownBlock] at hk; omega)
    rw [cells_take h m hm] at this
    rw [List.length_take, Nat.min_eq_left hm]
    exact this
theorem wpList_store_new' {P : Program} {ops : Array Oper} {rest : List Oper} {o : Oper} {a : Act} {w w0 : World} {Q : Exit → Act → World → Prop} (hgd : o.guard = none) (ty : TypeId) (x y : Operand) (ho : o.op = .store ty x y)
    (cells : Array Value) (t : TypeId) (old : Array Value) (hx : a.eval x = .pointer (some ⟨w0.heap.size, 0, none⟩)) (hy : a.eval y = .agg cells)
    (hw : w = w0.alloc (.cells old t)) (hi : (P.info? ty).map (·.size) = some cells.size)
    (hold : old.size = cells.size) (h1 : cells.all (·.oneCell') = true)
    (h : wpList P ops Q rest (a.put o.dst undef) (w0.alloc (.cells cells t))) : wpList P ops Q (o :: rest) a w := by
  subst hw
  refine wpList_store_row hgd ty x y ho w0.heap.size cells hx hy t old (heap_alloc_new _ _) hi hold h1 ?_
  rw [World.setRow_alloc_new]
  exact h
theorem frow {w : World} (g : Nat) (cs : Array Value) : Fr w (w.setRow g cs) (fun k => k = g) :=
  ⟨rfl, rfl, rfl, by simp [World.setRow], fun k hk hn => by unfold World.setRow; simp [Array.getElem?_modify, Ne.symm hn]⟩

set_option maxHeartbeats 6400000 in
set_option maxRecDepth 100000 in
theorem pop_some (lt : (Int × Int × Int × Int × Int) → (Int × Int × Int × Int × Int) → Bool) (fv hv : Value) (B qb Bl : Nat) (W0 w0 : World) (l : List ((Int × Int × Int × Int × Int) × Nat)) (next : Nat) (hq0 : Q w0 B qb fv hv l next)
    (hless : LessGr fv lt Bl W0) (hW0 : Below Bl W0 w0) (hBl : Bl ≤ B) (n : Nat) (hn : l.length = n + 1) (hlen : l.length ≤ 4194304) (za zb zc zd ze : Int) (tz : Nat) (hz : l[0]? = some ((za, zb, zc, zd, ze), tz)) :
    Calls Try.prog 47 #[.pointer (some ⟨qb, 0, none⟩)] w0 fun e w' => e = .returned (.tuple #[.agg #[.int .u32 za, .int .i64 zb, .int .i64 zc, .int .i64 zd, .int .i64 ze], .bool true]) ∧
      ∃ hv', Q w' B qb fv hv' (QP.pop lt l) next ∧ Fr w0 w' (QS qb hv) ∧ hv'.ownBlock = hv.ownBlock := by
  obtain ⟨f, c, hfv, hcf, hl⟩ := hless
  have hless : LessGr fv lt Bl W0 := ⟨f, c, hfv, hcf, hl⟩
  have Hless := Lib.hid hless
  have HGa := Lib.hid ((Fr.refl w0 NoneS).alloc (.cells #[.int .u32 0, .int .i64 0, .int .i64 0, .int .i64 0, .int .i64 0] 91))
  have HBa := Lib.hid (Blk.new w0 91 #[.int .u32 0, .int .i64 0, .int .i64 0, .int .i64 0, .int .i64 0])
  have Hpeek := Lib.hid (peek_some fv hv B qb _ l next (hq0.gr HGa.out) _ _ _ hfv (za, zb, zc, zd, ze) tz hz)
  have Hq0 := Lib.hid hq0
  have HW0 := Lib.hid hW0
  have HBw0 := Lib.hid (show B ≤ w0.heap.size from Nat.le_of_lt (Nat.lt_of_le_of_lt hq0.base hq0.blk.lt))
  clear hl hcf hless hfv hq0 hW0
  go_enter Try.func47, Try.ntmps47
  go_upto_region 1 with (fail)
  change Code.wp _ _ _ _ (w0.alloc (.cells #[.int .u32 0, .int .i64 0, .int .i64 0, .int .i64 0, .int .i64 0] 91))
  have Hp2 := Lib.hid (Nat.le_refl w0.heap.size)
  generalize hp2 : w0.heap.size = p2 at HBa ⊢
  have Hp2e := Lib.hid hp2
  clear hp2
  generalize w0.alloc (.cells #[.int .u32 0, .int .i64 0, .int .i64 0, .int .i64 0, .int .i64 0] 91) = wa at HBa HGa Hpeek ⊢
  go_upto_region 4 with (first
    | (go_at_call 60; refine Hpeek.out.mono ?_; rintro e wb ⟨rfl, hgb⟩; have HGb := Lib.hid hgb; clear hgb)
    | refine wpList_store_new' (w0 := wb) rfl _ _ _ rfl #[.int .u32 za, .int .i64 zb, .int .i64 zc, .int .i64 zd, .int .i64 ze] _ _ rfl rfl rfl (by kernel_rfl) (by kernel_rfl) (by kernel_rfl) ?_)
  have HGp := Lib.hid ((HGa.out.trans HGb.out (fun _ _ h => h)).alloc (.cells #[.int .u32 za, .int .i64 zb, .int .i64 zc, .int .i64 zd, .int .i64 ze] 91))
  have HP2 := Lib.hid ((HBa.out.fr HGb.out (fun h => h)).alloc (.cells #[.int .u32 za, .int .i64 zb, .int .i64 zc, .int .i64 zd, .int .i64 ze] 91))
  have HP4 := Lib.hid (Blk.new wb 91 #[.int .u32 za, .int .i64 zb, .int .i64 zc, .int .i64 zd, .int .i64 ze])
  have Hp4 := Lib.hid (show w0.heap.size ≤ wb.heap.size from (HGa.out.trans HGb.out (fun _ _ h => h)).size)
  generalize wb.heap.size = p4 at HP4 Hp4 ⊢
  generalize hw : wb.alloc (.cells #[.int .u32 za, .int .i64 zb, .int .i64 zc, .int .i64 zd, .int .i64 ze] 91) = w at HGp HP2 HP4 ⊢
  clear hw HGb HGa HBa
  have hq := Hq0.out.gr HGp.out
  have hW := below_of_gr HW0.out HGp.out (Nat.le_trans hBl HBw0.out)
  obtain ⟨g, cap, rfl, hBg, hgw, hgq, hlc, hcm⟩ := hq.form (by omega)
  have hg0 : g < w0.heap.size := by have := (Hq0.out.own.lt g rfl).2; exact this
  have hq00 : qb < w0.heap.size := Hq0.out.blk.lt
  have Hne := Lib.hid (show p2 ≠ qb ∧ p2 ≠ g ∧ p4 ≠ qb ∧ p4 ≠ g ∧ w0.heap.size ≤ p2 from by have h1 := Hp2e.out; have h2 := Hp4.out; omega)
  rw [hn] at hq hlc
  have k1 := hq.cell1
  have hqb : qb < w.heap.size := hq.blk.lt
  have f1 := hq.frozen 1
  have hBw : B ≤ w.heap.size := Nat.le_of_lt (Nat.lt_of_le_of_lt hq.base hqb)
  obtain ⟨x0a, x0b, x0c, x0d, x0e, t0, E0, a0, a1, a2, a3, a4, a5, b0, b1, b2, b3, b4, b5⟩ := two hq hn (i := 0) (by omega)
  obtain ⟨xan, xbn, xcn, xdn, xen, tn, En, c0, c1, c2, c3, c4, c5, d0, d1, d2, d3, d4, d5⟩ := two hq hn (i := n) (by omega)
  simp only [Nat.zero_mul, Nat.zero_add] at a0 a1 a2 a3 a4 a5 b0 b1 b2 b3 b4 b5
  have hn' : (n : Int) ≤ 4194304 := by omega
  have hnc : (n : Int) ≤ (cap : Int) := by omega
  have Hn := Lib.hid hn
  have Hz := Lib.hid hz
  have Hq := Lib.hid hq
  have HW := Lib.hid hW
  clear hn hq hcm hW hz hg0 hq00
  go_upto_region 5 with (fail)
  go_region
  go_upto_region 6 with (fail)
  have H2 := Lib.hid (And.intro ((put2 Hq.out Hn.out (i := 0) (by have := Hn.out; omega) xan xbn xcn xdn xen tn).gr ((Fr.refl _ _).drew)) (fr_two (Fr.refl w (QS qb (.slice (some ⟨g, 0, none⟩) (n + 1) cap))) (fun _ => Or.inr rfl) (0 * 6) (0 * 6 + 1) (0 * 6 + 2) (0 * 6 + 3) (0 * 6 + 4) (0 * 6 + 5) (.int .u32 xan) (.int .i64 xbn) (.int .i64 xcn) (.int .i64 xdn) (.int .i64 xen) (.int .i64 tn)))
  simp only [Nat.zero_mul, Nat.zero_add] at H2
  generalize World.drew _ = w2 at H2 ⊢
  clear a0 a1 a2 a3 a4 a5 b0 b1 b2 b3 b4 b5 c0 c1 c2 c3 c4 c5 d0 d1 d2 d3 d4 d5 k1 f1
  have k1 := H2.out.1.cell1
  obtain ⟨x0a', x0b', x0c', x0d', x0e', t0', E0', a0, a1, a2, a3, a4, a5, b0, b1, b2, b3, b4, b5⟩ := two H2.out.1 (by rw [List.length_set]; exact Hn.out) (i := n) (by rw [List.length_set]; have := Hn.out; omega)
  go_upto_region 7 with (fail)
  have H3 := Lib.hid (put2 H2.out.1 (by rw [List.length_set]; exact Hn.out) (i := n) (by rw [List.length_set]; have := Hn.out; omega) 0 0 0 0 0 0)
  have F3 := Lib.hid (fr_two H2.out.2 (fun _ => Or.inr rfl) (n * 6) (n * 6 + 1) (n * 6 + 2) (n * 6 + 3) (n * 6 + 4) (n * 6 + 5) (.int .u32 0) (.int .i64 0) (.int .i64 0) (.int .i64 0) (.int .i64 0) (.int .i64 0))
  generalize hw3 : World.setCell _ _ _ = w3 at H3 ⊢
  have HF3 : Hid (Fr w w3 (QS qb (.slice (some ⟨g, 0, none⟩) (n + 1) cap))) := by
    rw [← hw3]; refine Lib.hid ?_; repeat (refine Fr.setCell ?_ (fun _ => Or.inr rfl) _)
    exact H2.out.2
  clear hw3 F3 a0 a1 a2 a3 a4 a5 b0 b1 b2 b3 b4 b5 k1 H2 E0'
  have k1 := H3.out.cell1
  have f1 := H3.out.frozen 1
  go_upto_region 8 with (fail)
  have H4 := Lib.hid (cut_world H3.out (by rw [List.length_set, List.length_set]; exact Hn.out) (Nat.le_succ n))
  have HF4 := Lib.hid (HF3.out.setCell (p := ⟨qb, 1, none⟩) (fun _ => Or.inl rfl) (.slice (some ⟨g, 0, none⟩) n cap))
  generalize World.setCell _ _ _ = w4 at H4 HF4 ⊢
  clear H3 HF3 k1 f1
  go_wp2_with fail
  go_loopg [7] (n + 1) (fun m s7 wr => ∃ (i : Nat) (h : List ((Int × Int × Int × Int × Int) × Nat)), s7 = .int .i64 i ∧ Hid (h.length = n ∧ (i < n ∨ i = 0) ∧ n - i < m) ∧
    Hid (Q wr B qb fv (.slice (some ⟨g, 0, none⟩) n cap) h next) ∧ Hid (Fr w wr (QS qb (.slice (some ⟨g, 0, none⟩) (n + 1) cap))) ∧ Hid (∃ f, n - i ≤ f ∧ QP.down lt f h i = QP.pop lt l))
  case atStart =>
    refine ⟨0, _, rfl, ⟨?_, .inr rfl, by omega⟩, H4.out, HF4.out, l.length, ?_, ?_⟩
    · have := Hn.out; simp; omega
    · have := Hn.out; omega
    · have hl := Hn.out
      have e : l.getLast? = some ((xan, xbn, xcn, xdn, xen), tn) := by rw [List.getLast?_eq_getElem?, hl]; exact En.out
      have e2 : (l.set 0 ((xan, xbn, xcn, xdn, xen), tn)).dropLast = (((l.set 0 ((xan, xbn, xcn, xdn, xen), tn)).set n ((0, 0, 0, 0, 0), 0)).take n) := by
        rw [List.dropLast_eq_take, List.length_set, hl, Nat.add_sub_cancel, List.take_set_of_le (Nat.le_refl n)]
      unfold QP.pop; rw [e]; simp only []; rw [e2]
  case round =>
    obtain ⟨i, h, rfl, HI, HQ, HF, HD⟩ := hrel
    have hin : (i : Int) ≤ 4194304 := by have := HI.out; omega
    have hi0 : (0 : Int) ≤ i := by omega
    go_upto_block 2 with (fail)
    go_cut [8] (fun s8 w' => s8 = .int .i64 (QP.least2 lt h i : Nat) ∧ Hid (Gr wr w'))
    case first =>
      obtain ⟨wi, hwi⟩ : ∃ wi : World, wi = wr := ⟨_, rfl⟩
      rw [← hwi]
      have Hwi := Lib.hid hwi
      clear hwi
      go_wp2_with fail
      go_loopg [8, 9] 4 (fun m s8 s9 wx => ∃ (t k lst : Nat), s9 = .int .i64 k ∧ s8 = .int .i64 lst ∧ Hid (k = 2 * i + 1 + t ∧ 3 < m + t ∧ t ≤ 2) ∧
        Hid ((t = 0 ∧ lst = i) ∨ (t = 1 ∧ 2 * i + 1 < n ∧ lst = QP.least1 lt h i) ∨ (t = 2 ∧ 2 * i + 2 < n ∧ lst = QP.least2 lt h i)) ∧ Hid (Gr wi wx))
      case atStart => exact ⟨0, 2 * i + 1, i, by go_num, rfl, ⟨by omega, by omega, by omega⟩, .inl ⟨rfl, rfl⟩, Fr.refl _ _⟩
      case round =>
        obtain ⟨t, k, lst, rfl, rfl, HT, HL, HG⟩ := hrel
        by_cases hk : k ≤ 2 * i + 2
        · by_cases hkn : k < n
          · have hk1 : (k : Int) ≤ 2 * (i : Int) + 2 := by omega
            have hk2 : (k : Int) < n := by omega
            have hin' : (k : Int) ≤ 4194304 := by omega
            have Hlst := Lib.hid (show lst < h.length from by
              have hl := HI.out.1
              have ht := HT.out
              rcases HL.out with ⟨h1, h2⟩ | ⟨h1, h2, h3⟩ | ⟨h1, h2, h3⟩
              · omega
              · rw [h3]; exact QP.least1_lt lt h i (by omega)
              · omega)
            have HWr := Lib.hid (show Below Bl W0 wr from below_of_gr (HW.out.trans ((Hwi.out ▸ HF.out : Fr w wi _).below (Nat.le_trans hBl hBw) (fun k hk hs => by
              rcases hs with hs | hs
              · have := Hq.out.base; omega
              · have : g = k := by simpa [Value.ownBlock] using hs
                omega))) HG.out (Nat.le_trans (Nat.le_trans hBl hBw) (Hwi.out ▸ HF.out : Fr w wi _).size))
            have hcall : Calls Try.prog 61 #[.pointer (some ⟨qb, 0, none⟩), .int .i64 k, .int .i64 lst] wr fun e w' => e = .returned (.bool (QP.aheadAt lt h k lst)) ∧ Hid (Gr wr w') :=
              ahead_any lt fv _ B qb Bl W0 wr h next ((Hwi.out ▸ HQ.out : Q wi _ _ _ _ _ _).gr HG.out) Hless.out HWr.out (Nat.le_trans (Nat.le_trans hBl hBw) (Nat.le_trans (Hwi.out ▸ HF.out : Fr w wi _).size HG.out.size)) k lst (by omega) (by have := HI.out; omega) (by omega) (by have := Hlst.out; omega)
            cases hA : QP.aheadAt lt h k lst with
            | true =>
              rw [hA] at hcall
              have HA := Lib.hid hA
              have HC := Lib.hid hcall
              clear hA hcall
              go_wp2_with (go_at_call 61; refine HC.out.mono ?_; rintro e w2 ⟨rfl, HG2⟩)
              go_roundg (gk - 1)
              case measure => have := HT.out; omega
              case rel =>
                refine ⟨t + 1, k + 1, k, by go_num, rfl, ?_, ?_, HG.out.trans HG2.out (fun _ _ h => h)⟩
                · have := HT.out; exact ⟨by omega, by omega, by omega⟩
                · have ht := HT.out
                  have hl := HI.out.1
                  rcases HL.out with ⟨h1, h2⟩ | ⟨h1, h2, h3⟩ | ⟨h1, h2, h3⟩
                  · refine .inr (.inl ⟨by omega, by omega, ?_⟩)
                    have e : k = 2 * i + 1 := by omega
                    have ha := HA.out
                    rw [h2, e] at ha
                    unfold QP.least1; rw [if_pos ⟨by omega, ha⟩, e]
                  · refine .inr (.inr ⟨by omega, by omega, ?_⟩)
                    have e : k = 2 * i + 2 := by omega
                    have ha := HA.out
                    rw [h3, e] at ha
                    unfold QP.least2; rw [if_pos ⟨by omega, ha⟩, e]
                  · omega
            | false =>
              rw [hA] at hcall
              have HA := Lib.hid hA
              have HC := Lib.hid hcall
              clear hA hcall
              go_wp2_with (go_at_call 61; refine HC.out.mono ?_; rintro e w2 ⟨rfl, HG2⟩)
              go_roundg (gk - 1)
              case measure => have := HT.out; omega
              case rel =>
                refine ⟨t + 1, k + 1, lst, by go_num, rfl, ?_, ?_, HG.out.trans HG2.out (fun _ _ h => h)⟩
                · have := HT.out; exact ⟨by omega, by omega, by omega⟩
                · have ht := HT.out
                  have hl := HI.out.1
                  rcases HL.out with ⟨h1, h2⟩ | ⟨h1, h2, h3⟩ | ⟨h1, h2, h3⟩
                  · refine .inr (.inl ⟨by omega, by omega, ?_⟩)
                    have e : k = 2 * i + 1 := by omega
                    have ha := HA.out
                    rw [h2, e] at ha
                    unfold QP.least1; rw [if_neg (by intro h'; rw [ha] at h'; simp at h'), h2]
                  · refine .inr (.inr ⟨by omega, by omega, ?_⟩)
                    have e : k = 2 * i + 2 := by omega
                    have ha := HA.out
                    rw [h3, e] at ha
                    unfold QP.least2; rw [if_neg (by intro h'; rw [ha] at h'; simp at h'), h3]
                  · omega
          · have hk1 : (k : Int) ≤ 2 * (i : Int) + 2 := by omega
            have hk2 : decide ((k : Int) < n) = false := decide_eq_false (by omega)
            go_wp2_with fail
            go_meet
            have ht := HT.out
            have hl := HI.out.1
            refine ⟨?_, Hwi.out ▸ HG.out⟩
            rcases HL.out with ⟨h1, h2⟩ | ⟨h1, h2, h3⟩ | ⟨h1, h2, h3⟩
            · have e : QP.least2 lt h i = i := by
                unfold QP.least2 QP.least1
                rw [if_neg (by intro h'; omega), if_neg (by intro h'; omega)]
              rw [e, h2]
            · have e : QP.least2 lt h i = QP.least1 lt h i := by
                unfold QP.least2
                rw [if_neg (by intro h'; omega)]
              rw [e, h3]
            · rw [h3]
        · have hk1 : decide ((k : Int) ≤ 2 * (i : Int) + 2) = false := decide_eq_false (by omega)
          go_wp2_with fail
          go_meet
          have ht := HT.out
          refine ⟨?_, Hwi.out ▸ HG.out⟩
          rcases HL.out with ⟨h1, h2⟩ | ⟨h1, h2, h3⟩ | ⟨h1, h2, h3⟩
          · omega
          · omega
          · rw [h3]
    case rest =>
      obtain ⟨rfl, HG⟩ := hcut
      have HQ2 := Lib.hid (HQ.out.gr HG.out)
      have HF2 := Lib.hid (HF.out.trans (Gr.mono HG.out (QS qb (.slice (some ⟨g, 0, none⟩) (n + 1) cap))) (fun _ _ h => h))
      by_cases hst : QP.least2 lt h i = i
      · have Hst := Lib.hid hst
        have hst' : ((QP.least2 lt h i : Nat) : Int) = (i : Int) := by omega
        clear hst
        have HP2' := Lib.hid (HP2.out.fr HF2.out (fun hs => by rcases hs with hs | hs; exact Hne.out.1 hs; exact Hne.out.2.1 (by simpa [Value.ownBlock] using hs.symm)))
        have HP4' := Lib.hid (HP4.out.fr HF2.out (fun hs => by rcases hs with hs | hs; exact Hne.out.2.2.1 hs; exact Hne.out.2.2.2.1 (by simpa [Value.ownBlock] using hs.symm)))
        go_wp2_with (first
          | refine wpList_load_row rfl _ _ rfl p4 rfl 91 #[.int .u32 za, .int .i64 zb, .int .i64 zc, .int .i64 zd, .int .i64 ze] (0, 0) _ HP4'.out Try.underlying91 rfl (by kernel_rfl) ?_
          | refine wpList_store_row rfl _ _ _ rfl p2 #[.int .u32 za, .int .i64 zb, .int .i64 zc, .int .i64 zd, .int .i64 ze] rfl rfl 91 _ HP2'.out (by kernel_rfl) (by kernel_rfl) (by kernel_rfl) ?_)
        refine bodyPost_ret (results_cell_tmp Try.results47 _ _ p2 91 #[.int .u32 za, .int .i64 zb, .int .i64 zc, .int .i64 zd, .int .i64 ze] (0, 0) _ (.bool true) rfl rfl (setRow_heap _ p2 _ _ _ (0, 0) HP2'.out) Try.underlying91 rfl (by kernel_rfl)) rfl ?_
        rw [show l.length = n + 1 from Hn.out]
        refine ⟨rfl, .slice (some ⟨g, 0, none⟩) n cap, ?_, ?_, rfl⟩
        · obtain ⟨f0, hf0, hu⟩ := HD.out
          rw [← hu, QP.down_stop lt f0 h i Hst.out]
          exact HQ2.out.fr (frow p2 _) (fun k hk hs => by subst hs; rcases hk with hk | hk; exact Hne.out.1 hk; exact Hne.out.2.1 (by simpa [Value.ownBlock] using hk.symm))
        · exact ((Gr.mono HGp.out _).trans HF2.out (fun _ _ h => h)).trans (frow p2 _) (fun i hi hs => by subst hs; have := Hne.out.2.2.2.2; omega)
      · obtain ⟨p, hp⟩ : ∃ p, p = QP.least2 lt h i := ⟨_, rfl⟩
        have hil : i < h.length := by
          have hl := HI.out.1
          rcases Nat.lt_or_ge i h.length with h' | h'
          · exact h'
          · exfalso; apply hst; unfold QP.least2 QP.least1; rw [if_neg (by intro h''; omega), if_neg (by intro h''; omega)]
        rw [← hp] at hst ⊢
        have hpl : p < h.length := by rw [hp]; exact QP.least2_lt lt h i hil
        have hpi : i < p := by have := QP.least2_ge lt h i; omega
        have hiL : (i : Int) < (n : Int) := by have := HI.out.1; omega
        have hpL : (p : Int) < (n : Int) := by have := HI.out.1; omega
        have Hp := Lib.hid hp
        have hst' : ((p : Nat) : Int) ≠ (i : Int) := by omega
        have hst2 : ((p : Int) == (i : Int)) = false := beq_eq_false_iff_ne.2 hst'
        have Hst := Lib.hid hst
        have Hil := Lib.hid hil
        have Hpl := Lib.hid hpl
        have Hpi := Lib.hid hpi
        clear hst hst' hp hil hpl
        have k1 := HQ2.out.cell1
        obtain ⟨xa', xb', xc', xd', xe', tx', EX, q0, q1, q2, q3, q4, q5, fq0, fq1, fq2, fq3, fq4, fq5⟩ := two HQ2.out HI.out.1 Hil.out
        obtain ⟨ya', yb', yc', yd', ye', ty', EY, r0, r1, r2, r3, r4, r5, fr0, fr1, fr2, fr3, fr4, fr5⟩ := two HQ2.out HI.out.1 Hpl.out
        go_upto_region 16 with (fail)
        go_region
        go_wp2
        go_roundg (gk - 1)
        case measure => have := HI.out; have := Hil.out; omega
        case rel =>
          refine ⟨p, QP.swp h i p, rfl, ⟨by rw [QP.length_swp]; exact HI.out.1, by have := HI.out.1; have := Hpl.out; omega, by have := HI.out; have := Hpi.out; have := Hpl.out; omega⟩,
            swap_world HQ2.out HI.out.1 Hil.out Hpl.out EX.out EY.out,
            fr_four HF2.out (fun _ => Or.inr rfl) _ _ _ _ _ _ _ _ _ _ _ _ _ _ _ _ _ _ _ _ _ _ _ _, ?_⟩
          obtain ⟨f0, hf0, hu⟩ := HD.out
          have hl := HI.out.1
          have h1 := Hil.out
          have h2 := Hpi.out
          rw [QP.down_go lt f0 h i (by rw [← Hp.out]; exact Hst.out) (by omega), ← Hp.out] at hu
          exact ⟨f0 - 1, by omega, hu⟩

set_option maxRecDepth 100000 in
set_option maxHeartbeats 1600000 in
theorem pop_none (fv hv : Value) (B qb : Nat) (w0 : World) (next : Nat) (hq0 : Q w0 B qb fv hv [] next) (f : Fn) (x y : Array Value) (hfv : fv = .func f x y) :
    Calls Try.prog 47 #[.pointer (some ⟨qb, 0, none⟩)] w0 fun e w' => e = .returned (.tuple #[.agg #[.int .u32 0, .int .i64 0, .int .i64 0, .int .i64 0, .int .i64 0], .bool false]) ∧ Gr w0 w' := by
  have HGa := Lib.hid ((Fr.refl w0 NoneS).alloc (.cells #[.int .u32 0, .int .i64 0, .int .i64 0, .int .i64 0, .int .i64 0] 91))
  have HBa := Lib.hid (Blk.new w0 91 #[.int .u32 0, .int .i64 0, .int .i64 0, .int .i64 0, .int .i64 0])
  have Hpeek := Lib.hid (peek_none fv hv B qb _ next (hq0.gr HGa.out) _ _ _ hfv)
  clear hfv hq0
  go_enter Try.func47, Try.ntmps47
  go_upto_region 1 with (fail)
  change Code.wp _ _ _ _ (w0.alloc (.cells #[.int .u32 0, .int .i64 0, .int .i64 0, .int .i64 0, .int .i64 0] 91))
  have Hp2 := Lib.hid (show ∀ p2, w0.heap.size = p2 → w0.heap.size ≤ p2 from fun p2 h => by omega)
  generalize hp2 : w0.heap.size = p2 at HBa ⊢
  have Hp2' := Lib.hid (Hp2.out p2 hp2)
  clear hp2
  generalize w0.alloc (.cells #[.int .u32 0, .int .i64 0, .int .i64 0, .int .i64 0, .int .i64 0] 91) = wa at HBa HGa Hpeek ⊢
  go_upto_region 2 with (first
    | (go_at_call 60; refine Hpeek.out.mono ?_; rintro e wb ⟨rfl, hgb⟩; have HGb := Lib.hid hgb; clear hgb)
    | refine wpList_store_new' (w0 := wb) rfl _ _ _ rfl #[.int .u32 0, .int .i64 0, .int .i64 0, .int .i64 0, .int .i64 0] _ _ rfl rfl rfl (by kernel_rfl) (by kernel_rfl) (by kernel_rfl) ?_)
  have HGp := Lib.hid ((HGa.out.trans HGb.out (fun _ _ h => h)).alloc (.cells #[.int .u32 0, .int .i64 0, .int .i64 0, .int .i64 0, .int .i64 0] 91))
  have HP2 := Lib.hid ((HBa.out.fr HGb.out (fun h => h)).alloc (.cells #[.int .u32 0, .int .i64 0, .int .i64 0, .int .i64 0, .int .i64 0] 91))
  have HP4 := Lib.hid (Blk.new wb 91 #[.int .u32 0, .int .i64 0, .int .i64 0, .int .i64 0, .int .i64 0])
  generalize wb.heap.size = p4 at HP4 ⊢
  generalize wb.alloc (.cells #[.int .u32 0, .int .i64 0, .int .i64 0, .int .i64 0, .int .i64 0] 91) = w at HGp HP2 HP4 ⊢
  clear HGb HGa HBa
  go_wp2_with (first
    | refine wpList_load_row rfl _ _ rfl p4 rfl 91 #[.int .u32 0, .int .i64 0, .int .i64 0, .int .i64 0, .int .i64 0] (0, 0) _ HP4.out Try.underlying91 rfl (by kernel_rfl) ?_
    | refine wpList_store_row rfl _ _ _ rfl p2 #[.int .u32 0, .int .i64 0, .int .i64 0, .int .i64 0, .int .i64 0] rfl rfl 91 _ HP2.out (by kernel_rfl) (by kernel_rfl) (by kernel_rfl) ?_)
  refine bodyPost_ret (results_cell_tmp Try.results47 _ _ p2 91 #[.int .u32 0, .int .i64 0, .int .i64 0, .int .i64 0, .int .i64 0] (0, 0) _ (.bool false) rfl rfl (setRow_heap _ p2 _ _ _ (0, 0) HP2.out) Try.underlying91 rfl (by kernel_rfl)) rfl ?_
  exact ⟨rfl, HGp.out.trans (frow p2 _) (fun i hi hs => by subst hs; have := Hp2'.out; omega)⟩
end Qp
end Go.Proofs.Ytlodbhlidgepfaa
