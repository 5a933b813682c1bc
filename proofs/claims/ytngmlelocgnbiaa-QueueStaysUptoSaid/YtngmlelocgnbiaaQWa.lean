/- The queue of ints: the walks of its methods. -/
import Derived.Test.YtngmlelocgnbiaaQPlain
import Derived.Test.YtngmlelocgnbiaaRows
import Derived.BigQuiet
import Derived.BigRegion
import Derived.Deep.QuietTactic
import Derived.Deep.LoopGhost
import Derived.Deep.DeepCutAuto
set_option linter.unusedVariables false
set_option linter.unusedSimpArgs false
namespace Go.Proofs.Ytngmlelocgnbiaa
open Go.RowKit

/-- a function with a body is entered -/
theorem callFunc_enters {P : Program} {f : FuncId} {fn : Func} (hf : P.funcs[f]? = some fn) (hn : (fn.name == "runtime.NumGoroutine") = false) (hb : fn.body.isNone = false) (args : Array Value) (w : World) :
    (callFunc f args).run P w = .ok (.enter f args) w := by
  unfold callFunc program
  simp only [Sem.run_bind]
  show (Sem.run P (match P.funcs[f]? with | none => _ | some fn => _) w) = _
  rw [hf]
  simp only [hn, hb]
  rfl

/-- an order, as a function value: it only reads, in every world that is as W0 below Bl -/
def LessOK {α : Type} (P : Program) (enc : α → List Value) (fv : Value) (lt : α → α → Bool) (Bl : Nat) (W0 : World) : Prop :=
  ∃ f c, fv = .func (.func f) #[] c ∧ (∀ args w, (callFunc f args).run P w = .ok (.enter f args) w) ∧ ∀ x y w, Below Bl W0 w → Calls P f ((enc x ++ enc y).toArray ++ c) w fun e w' => e = .returned (.bool (lt x y)) ∧ ∃ n, w' = w.drewN n

theorem below_of_gr {B : Nat} {a w w' : World} (h : Below B a w) (hg : Gr w w') (hB : B ≤ w.heap.size) : Below B a w' := h.trans (Fr.below hg hB (fun _ _ h => h))

namespace Qi
def enc (x : Int) : List Value := [.int .i64 x]
abbrev Q := QR enc 1 69 62

set_option maxHeartbeats 1600000 in
set_option maxRecDepth 100000 in
theorem ahead_any (lt : Int → Int → Bool) (fv hv : Value) (B qb Bl : Nat) (W0 w : World) (l : List (Int × Nat)) (next : Nat) (hq : Q w B qb fv hv l next)
    (hl : LessOK Try.prog enc fv lt Bl W0) (hW : Below Bl W0 w) (hBl : Bl ≤ w.heap.size) (i k : Int) (hi0 : 0 ≤ i) (hi : i < l.length) (hk0 : 0 ≤ k) (hk : k < l.length) :
    Calls Try.prog 39 #[.pointer (some ⟨qb, 0, none⟩), .int .i64 i, .int .i64 k] w fun e w' => e = .returned (.bool (QP.aheadAt lt l i.toNat k.toNat)) ∧ Gr w w' := by
  obtain ⟨f, c, rfl, hcf, hless⟩ := hl
  obtain ⟨hb, cap, rfl, hBhb, hhb, hne, hlc, hcm⟩ := hq.form (by omega)
  obtain ⟨i, rfl⟩ := Int.eq_ofNat_of_zero_le hi0
  obtain ⟨k, rfl⟩ := Int.eq_ofNat_of_zero_le hk0
  have hi' : i < l.length := by omega
  have hk' : k < l.length := by omega
  have c0 := hq.cell0
  have c1 := hq.cell1
  have hqb : qb < w.heap.size := hq.blk.lt
  have x0 := hq.entry (fun _ => rfl) hi' 0 (by omega)
  have x1 := hq.entry (fun _ => rfl) hi' 1 (by omega)
  have y0 := hq.entry (fun _ => rfl) hk' 0 (by omega)
  have y1 := hq.entry (fun _ => rfl) hk' 1 (by omega)
  obtain ⟨⟨x, tx⟩, hx⟩ : ∃ e, e = l[i] := ⟨_, rfl⟩
  obtain ⟨⟨y, ty⟩, hy⟩ : ∃ e, e = l[k] := ⟨_, rfl⟩
  have hres : QP.aheadAt lt l i k = (lt x y || (!lt y x && decide (tx < ty))) := by
    unfold QP.aheadAt; rw [List.getElem?_eq_getElem hi', List.getElem?_eq_getElem hk', ← hx, ← hy]; rfl
  rw [← hx] at x0 x1
  rw [← hy] at y0 y1
  simp [enc] at x0 x1 y0 y1
  rw [Int.toNat_natCast, Int.toNat_natCast, hres]
  clear hres hx hy hq hlc hcm hBhb
  have Hless := Lib.hid hless
  clear hless
  have HW := Lib.hid hW
  clear hW
  go_enter Try.func39, Try.ntmps39
  go_upto_region 1 with (fail)
  go_cut [7, 8] (fun s7 s8 w1 => ∃ p r : Nat, s7 = .pointer (some ⟨p, 0, none⟩) ∧ s8 = .pointer (some ⟨r, 0, none⟩) ∧ Hid (Gr w w1) ∧
    w1.cell? ⟨p, 0, none⟩ = some (.int .i64 x) ∧ w1.cell? ⟨p, 1, none⟩ = some (.int .i64 tx) ∧ w1.cell? ⟨r, 0, none⟩ = some (.int .i64 y) ∧ w1.cell? ⟨r, 1, none⟩ = some (.int .i64 ty))
  case first =>
    go_region
    all_goals go_wp2_with fail
    all_goals go_meet
    all_goals exact ⟨_, _, rfl, rfl, (((Fr.refl w _).alloc _).alloc _).drew, by simp, by simp, by simp, by simp⟩
  case rest =>
  obtain ⟨p, r, rfl, rfl, Hg, d0, d1, e0, e1⟩ := hcut
  have c0' : wc.cell? ⟨qb, 0, none⟩ = some (.func (.func f) #[] c) := (Hg.out.cell hqb (fun h => h)).trans c0
  have HW1 := Lib.hid (below_of_gr HW.out Hg.out hBl)
  clear c0 c1 x0 x1 y0 y1 HW hBl hqb hhb
  go_wp2_with fail
  go_quiet ((exact Calls.quiet_of (Hless.out x y _ (below_drewN HW1.out _))))
  cases hxy : lt x y with
  | true =>
    go_wp2
    go_ret
    exact ⟨by simp [hxy], Hg.out.drewN _⟩
  | false =>
    go_wp2_with fail
    generalize hw2 : World.drewN wc nq = w2
    have c0 : w2.cell? ⟨qb, 0, none⟩ = some (.func (.func f) #[] c) := by rw [← hw2]; exact c0'
    have d0 : w2.cell? ⟨p, 0, none⟩ = some (.int .i64 x) := by rw [← hw2]; exact d0
    have d1 : w2.cell? ⟨p, 1, none⟩ = some (.int .i64 tx) := by rw [← hw2]; exact d1
    have e0 : w2.cell? ⟨r, 0, none⟩ = some (.int .i64 y) := by rw [← hw2]; exact e0
    have e1 : w2.cell? ⟨r, 1, none⟩ = some (.int .i64 ty) := by rw [← hw2]; exact e1
    have HW2 := Lib.hid (show Below Bl W0 w2 by rw [← hw2]; exact below_drewN HW1.out _)
    have Hg2 := Lib.hid (show Gr w w2 by rw [← hw2]; exact Hg.out.drewN _)
    clear hw2 Hg HW1 c0'
    have Hxy := Lib.hid hxy
    clear hxy
    cases hyx : lt y x with
    | true =>
      have Hyx := Lib.hid hyx
      clear hyx
      go_quiet ((exact Calls.quiet_of ((Hless.out y x _ (below_drewN HW2.out _)).mono fun e w' h => by rw [Hyx.out] at h; exact h)))
      go_wp2
      go_ret
      exact ⟨by simp [Hxy.out, Hyx.out], Hg2.out.drewN _⟩
    | false =>
      have Hyx := Lib.hid hyx
      clear hyx
      go_quiet ((exact Calls.quiet_of ((Hless.out y x _ (below_drewN HW2.out _)).mono fun e w' h => by rw [Hyx.out] at h; exact h)))
      go_wp2
      go_ret
      exact ⟨by simp [Hxy.out, Hyx.out], Hg2.out.drewN _⟩
end Qi
end Go.Proofs.Ytngmlelocgnbiaa
