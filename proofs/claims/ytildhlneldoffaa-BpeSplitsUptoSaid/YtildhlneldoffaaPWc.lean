/- The queue of stook/bpe.pair: Push (printed by gen_struct.py). -/
import Derived.Test.YtildhlneldoffaaPWb
import Derived.Deep.RegionLaw
set_option linter.unusedVariables false
set_option linter.unusedSimpArgs false
namespace Go.Proofs.Ytildhlneldoffaa
open Go.RowKit

namespace Qp

theorem info_e : (Try.prog.info? 93).map (fun i => (i.zero, i.size, i.bytes)) = some (some (.agg #[.int .u32 0, .int .i64 0, .int .i64 0, .int .i64 0, .int .i64 0, .int .i64 0]), 6, 48) := by kernel_rfl
theorem cells_snoc (l : List ((Int × Int × Int × Int × Int) × Nat)) (xa xb xc xd xe : Int) (n : Nat) : QP.cells enc (l ++ [((xa, xb, xc, xd, xe), n)]) = QP.cells enc l ++ [.int .u32 xa, .int .i64 xb, .int .i64 xc, .int .i64 xd, .int .i64 xe, .int .i64 n] := by
  simp [QP.cells, enc]

/-- an entry's cells -/
theorem two {w : World} {B qb : Nat} {fv : Value} {g n cap : Nat} {h : List ((Int × Int × Int × Int × Int) × Nat)} {next : Nat} (hq : Q w B qb fv (.slice (some ⟨g, 0, none⟩) n cap) h next) (hn : h.length = n) {i : Nat} (hi : i < h.length) :
    ∃ xa xb xc xd xe tx, Hid (h[i]? = some ((xa, xb, xc, xd, xe), tx)) ∧ w.cell? ⟨g, i * 6, none⟩ = some (.int .u32 xa) ∧ w.cell? ⟨g, i * 6 + 1, none⟩ = some (.int .i64 xb) ∧ w.cell? ⟨g, i * 6 + 2, none⟩ = some (.int .i64 xc) ∧ w.cell? ⟨g, i * 6 + 3, none⟩ = some (.int .i64 xd) ∧ w.cell? ⟨g, i * 6 + 4, none⟩ = some (.int .i64 xe) ∧ w.cell? ⟨g, i * 6 + 5, none⟩ = some (.int .i64 (tx : Nat)) ∧ w.frozen? ⟨g, i * 6, none⟩ = false ∧ w.frozen? ⟨g, i * 6 + 1, none⟩ = false ∧ w.frozen? ⟨g, i * 6 + 2, none⟩ = false ∧ w.frozen? ⟨g, i * 6 + 3, none⟩ = false ∧ w.frozen? ⟨g, i * 6 + 4, none⟩ = false ∧ w.frozen? ⟨g, i * 6 + 5, none⟩ = false := by
  subst hn
  have x0 := hq.entry (fun _ => rfl) hi 0 (by omega)
  have x1 := hq.entry (fun _ => rfl) hi 1 (by omega)
  have x2 := hq.entry (fun _ => rfl) hi 2 (by omega)
  have x3 := hq.entry (fun _ => rfl) hi 3 (by omega)
  have x4 := hq.entry (fun _ => rfl) hi 4 (by omega)
  have x5 := hq.entry (fun _ => rfl) hi 5 (by omega)
  simp [enc] at x0 x1 x2 x3 x4 x5
  exact ⟨_, _, _, _, _, _, List.getElem?_eq_getElem hi, x0, x1, x2, x3, x4, x5, hq.froz _, hq.froz _, hq.froz _, hq.froz _, hq.froz _, hq.froz _⟩

/-- an entry is put anew -/
theorem put2 {w : World} {B qb : Nat} {fv : Value} {g n cap : Nat} {h : List ((Int × Int × Int × Int × Int) × Nat)} {next : Nat} (hq : Q w B qb fv (.slice (some ⟨g, 0, none⟩) n cap) h next) (hn : h.length = n) {i : Nat} (hi : i < h.length) (xa xb xc xd xe : Int) (t : Nat) :
    Q ((((((w.setCell ⟨g, i * 6, none⟩ (.int .u32 xa)).setCell ⟨g, i * 6 + 1, none⟩ (.int .i64 xb)).setCell ⟨g, i * 6 + 2, none⟩ (.int .i64 xc)).setCell ⟨g, i * 6 + 3, none⟩ (.int .i64 xd)).setCell ⟨g, i * 6 + 4, none⟩ (.int .i64 xe)).setCell ⟨g, i * 6 + 5, none⟩ (.int .i64 t)) B qb fv (.slice (some ⟨g, 0, none⟩) n cap) (h.set i ((xa, xb, xc, xd, xe), t)) next := by
  subst hn
  have hne : g ≠ qb := fun e => hq.ne (by rw [e]; rfl)
  have o1 := (hq.own.stored (i * 6) (.int .u32 xa)).1
  have o2 := (o1.stored (i * 6 + 1) (.int .i64 xb)).1
  have o3 := (o2.stored (i * 6 + 2) (.int .i64 xc)).1
  have o4 := (o3.stored (i * 6 + 3) (.int .i64 xd)).1
  have o5 := (o4.stored (i * 6 + 4) (.int .i64 xe)).1
  have o6 := (o5.stored (i * 6 + 5) (.int .i64 (t : Nat))).1
  have e2 : ((((((QP.cells enc h).set (i * 6) (.int .u32 xa)).set (i * 6 + 1) (.int .i64 xb)).set (i * 6 + 2) (.int .i64 xc)).set (i * 6 + 3) (.int .i64 xd)).set (i * 6 + 4) (.int .i64 xe)).set (i * 6 + 5) (.int .i64 (t : Nat)) = QP.cells enc (h.set i ((xa, xb, xc, xd, xe), t)) := by
    unfold QP.cells
    refine set_flatMap (fun e : (Int × Int × Int × Int × Int) × Nat => enc e.1 ++ [Value.int .i64 e.2]) 6 (by omega) (fun _ => rfl) h i ((xa, xb, xc, xd, xe), t) _ (by simp) ?_ ?_
    · intro j hj hi'
      have hL : (h.flatMap (fun e : (Int × Int × Int × Int × Int) × Nat => enc e.1 ++ [Value.int .i64 e.2])).length = h.length * 6 := len_flatMap _ 6 (fun _ => rfl) h
      match j, hj with
      | 0, _ => rw [List.getElem?_set_ne (by omega), List.getElem?_set_ne (by omega), List.getElem?_set_ne (by omega), List.getElem?_set_ne (by omega), List.getElem?_set_ne (by omega), Nat.add_zero, List.getElem?_set_self (by rw [hL]; omega)]; rfl
      | 1, _ => rw [List.getElem?_set_ne (by omega), List.getElem?_set_ne (by omega), List.getElem?_set_ne (by omega), List.getElem?_set_ne (by omega), List.getElem?_set_self (by simp only [List.length_set]; rw [hL]; omega)]; rfl
      | 2, _ => rw [List.getElem?_set_ne (by omega), List.getElem?_set_ne (by omega), List.getElem?_set_ne (by omega), List.getElem?_set_self (by simp only [List.length_set]; rw [hL]; omega)]; rfl
      | 3, _ => rw [List.getElem?_set_ne (by omega), List.getElem?_set_ne (by omega), List.getElem?_set_self (by simp only [List.length_set]; rw [hL]; omega)]; rfl
      | 4, _ => rw [List.getElem?_set_ne (by omega), List.getElem?_set_self (by simp only [List.length_set]; rw [hL]; omega)]; rfl
      | 5, _ => rw [List.getElem?_set_self (by simp only [List.length_set]; rw [hL]; omega)]; rfl
    · intro m hm
      rw [List.getElem?_set_ne (by omega), List.getElem?_set_ne (by omega), List.getElem?_set_ne (by omega), List.getElem?_set_ne (by omega), List.getElem?_set_ne (by omega), List.getElem?_set_ne (by omega)]
  rw [e2] at o6
  refine ⟨hq.base, ((((((hq.blk.far (p := ⟨g, i * 6, none⟩) (Ne.symm hne) _).far (p := ⟨g, i * 6 + 1, none⟩) (Ne.symm hne) _).far (p := ⟨g, i * 6 + 2, none⟩) (Ne.symm hne) _).far (p := ⟨g, i * 6 + 3, none⟩) (Ne.symm hne) _).far (p := ⟨g, i * 6 + 4, none⟩) (Ne.symm hne) _).far (p := ⟨g, i * 6 + 5, none⟩) (Ne.symm hne) _), ?_, hq.ne⟩
  rw [List.length_set]
  exact o6
theorem swap_world {w : World} {B qb : Nat} {fv : Value} {g n cap : Nat} {h : List ((Int × Int × Int × Int × Int) × Nat)} {next : Nat} (hq : Q w B qb fv (.slice (some ⟨g, 0, none⟩) n cap) h next) (hn : h.length = n) {i p : Nat} (hi : i < h.length) (hp : p < h.length)
    {xa xb xc xd xe ya yb yc yd ye : Int} {tx ty : Nat} (hx : h[i]? = some ((xa, xb, xc, xd, xe), tx)) (hy : h[p]? = some ((ya, yb, yc, yd, ye), ty)) :
    Q ((((((((((((w.setCell ⟨g, i * 6, none⟩ (.int .u32 ya)).setCell ⟨g, i * 6 + 1, none⟩ (.int .i64 yb)).setCell ⟨g, i * 6 + 2, none⟩ (.int .i64 yc)).setCell ⟨g, i * 6 + 3, none⟩ (.int .i64 yd)).setCell ⟨g, i * 6 + 4, none⟩ (.int .i64 ye)).setCell ⟨g, i * 6 + 5, none⟩ (.int .i64 ty)).setCell ⟨g, p * 6, none⟩ (.int .u32 xa)).setCell ⟨g, p * 6 + 1, none⟩ (.int .i64 xb)).setCell ⟨g, p * 6 + 2, none⟩ (.int .i64 xc)).setCell ⟨g, p * 6 + 3, none⟩ (.int .i64 xd)).setCell ⟨g, p * 6 + 4, none⟩ (.int .i64 xe)).setCell ⟨g, p * 6 + 5, none⟩ (.int .i64 tx)).drew B qb fv (.slice (some ⟨g, 0, none⟩) n cap) (QP.swp h i p) next := by
  have h1 := put2 hq hn hi ya yb yc yd ye ty
  have h2 := put2 h1 (by rw [List.length_set]; exact hn) (i := p) (by rw [List.length_set]; exact hp) xa xb xc xd xe tx
  have e : QP.swp h i p = (h.set i ((ya, yb, yc, yd, ye), ty)).set p ((xa, xb, xc, xd, xe), tx) := by unfold QP.swp; rw [hx, hy]
  rw [e]
  exact h2.gr ((Fr.refl _ _).drew)
theorem fr_four {w w' : World} {S : Nat → Prop} (hF : Fr w w' S) {g : Nat} (hg : g < w.heap.size → S g) (a0 a1 a2 a3 a4 a5 a6 a7 a8 a9 a10 a11 : Nat) (u0 u1 u2 u3 u4 u5 u6 u7 u8 u9 u10 u11 : Value) :
    Fr w ((((((((((((w'.setCell ⟨g, a0, none⟩ u0).setCell ⟨g, a1, none⟩ u1).setCell ⟨g, a2, none⟩ u2).setCell ⟨g, a3, none⟩ u3).setCell ⟨g, a4, none⟩ u4).setCell ⟨g, a5, none⟩ u5).setCell ⟨g, a6, none⟩ u6).setCell ⟨g, a7, none⟩ u7).setCell ⟨g, a8, none⟩ u8).setCell ⟨g, a9, none⟩ u9).setCell ⟨g, a10, none⟩ u10).setCell ⟨g, a11, none⟩ u11).drew S :=
  ((((((((((((hF.setCell (p := ⟨g, a0, none⟩) hg _).setCell (p := ⟨g, a1, none⟩) hg _).setCell (p := ⟨g, a2, none⟩) hg _).setCell (p := ⟨g, a3, none⟩) hg _).setCell (p := ⟨g, a4, none⟩) hg _).setCell (p := ⟨g, a5, none⟩) hg _).setCell (p := ⟨g, a6, none⟩) hg _).setCell (p := ⟨g, a7, none⟩) hg _).setCell (p := ⟨g, a8, none⟩) hg _).setCell (p := ⟨g, a9, none⟩) hg _).setCell (p := ⟨g, a10, none⟩) hg _).setCell (p := ⟨g, a11, none⟩) hg _).drew
theorem fr_two {w w' : World} {S : Nat → Prop} (hF : Fr w w' S) {g : Nat} (hg : g < w.heap.size → S g) (a0 a1 a2 a3 a4 a5 : Nat) (u0 u1 u2 u3 u4 u5 : Value) :
    Fr w ((((((w'.setCell ⟨g, a0, none⟩ u0).setCell ⟨g, a1, none⟩ u1).setCell ⟨g, a2, none⟩ u2).setCell ⟨g, a3, none⟩ u3).setCell ⟨g, a4, none⟩ u4).setCell ⟨g, a5, none⟩ u5).drew S :=
  ((((((hF.setCell (p := ⟨g, a0, none⟩) hg _).setCell (p := ⟨g, a1, none⟩) hg _).setCell (p := ⟨g, a2, none⟩) hg _).setCell (p := ⟨g, a3, none⟩) hg _).setCell (p := ⟨g, a4, none⟩) hg _).setCell (p := ⟨g, a5, none⟩) hg _).drew

/-- what the append and the store leave -/
def PushMid (w w1 : World) (B qb : Nat) (fv hv : Value) (l : List ((Int × Int × Int × Int × Int) × Nat)) (next g cap : Nat) (x : Int × Int × Int × Int × Int) : Prop :=
  g ≠ qb ∧ w1.ownsRow B 93 6 (.slice (some ⟨g, 0, none⟩) (l.length + 1) cap) (l.length + 1) (QP.cells enc (l ++ [(x, next)])) ∧
  Blk w1 qb 90 #[fv, .slice (some ⟨g, 0, none⟩) (l.length + 1) cap, .int .i64 next] ∧ Fr w w1 (QS qb hv) ∧ (hv.ownBlock = some g ∨ w.heap.size ≤ g)

theorem push_mid {w w1 : World} {B qb : Nat} {fv hv : Value} {l : List ((Int × Int × Int × Int × Int) × Nat)} {next g cap : Nat} {xa xb xc xd xe : Int} (hq : Q w B qb fv hv l next) (hF : Fr w w1 (fun k => hv.ownBlock = some k))
    (hO : w1.ownsRow B 93 6 (.slice (some ⟨g, 0, none⟩) (l.length + 1) cap) (l.length + 1) (QP.cells enc l ++ [.int .u32 xa, .int .i64 xb, .int .i64 xc, .int .i64 xd, .int .i64 xe, .int .i64 next]))
    (hA : hv.ownBlock = some g ∨ g = w.heap.size + 1) :
    PushMid w (w1.setCell ⟨qb, 1, none⟩ (.slice (some ⟨g, 0, none⟩) (l.length + 1) cap)) B qb fv hv l next g cap (xa, xb, xc, xd, xe) := by
  have hqb := hq.blk.lt
  have hne : g ≠ qb := by
    rcases hA with h | h
    · intro e; exact hq.ne (by rw [h, e])
    · omega
  have hst : Fr w1 (w1.setCell ⟨qb, 1, none⟩ (.slice (some ⟨g, 0, none⟩) (l.length + 1) cap)) (fun k => k = qb) := Fr.setCell (S := fun k => k = qb) (Fr.refl w1 _) (fun _ => rfl) _
  refine ⟨hne, ?_, ?_, ?_, ?_⟩
  · rw [cells_snoc]
    exact hst.owns hO (fun k hk e => by simp [Value.ownBlock] at hk; omega)
  · have := (hq.blk.fr hF hq.ne).set_ 1 (.slice (some ⟨g, 0, none⟩) (l.length + 1) cap)
    simpa using this
  · exact (hF.mono (fun k _ h => .inr h)).trans hst (fun i _ h => .inl h)
  · rcases hA with h | h
    · exact .inl h
    · exact .inr (by omega)

theorem push_start {w w1 : World} {B qb : Nat} {fv hv : Value} {l : List ((Int × Int × Int × Int × Int) × Nat)} {next g cap : Nat} {x : Int × Int × Int × Int × Int} (hq : Q w B qb fv hv l next) (hM : PushMid w w1 B qb fv hv l next g cap x) :
    Q (w1.setCell ⟨qb, 2, none⟩ (.int .i64 (next + 1))) B qb fv (.slice (some ⟨g, 0, none⟩) (l.length + 1) cap) (l ++ [(x, next)]) (next + 1) ∧
    Fr w (w1.setCell ⟨qb, 2, none⟩ (.int .i64 (next + 1))) (QS qb hv) := by
  obtain ⟨hne, hO, hB, hF, hA⟩ := hM
  have hst : Fr w1 (w1.setCell ⟨qb, 2, none⟩ (.int .i64 (next + 1))) (fun k => k = qb) := Fr.setCell (S := fun k => k = qb) (Fr.refl w1 _) (fun _ => rfl) _
  refine ⟨⟨hq.base, ?_, ?_, ?_⟩, hF.trans hst (fun i _ h => .inl h)⟩
  · have := hB.set_ 2 (.int .i64 (next + 1))
    simpa using this
  · have := hst.owns hO (fun k hk e => by simp [Value.ownBlock] at hk; omega)
    simpa using this
  · simp [Value.ownBlock]; exact hne
theorem cell_new_row (w : World) (cs : Array Value) (t : TypeId) : ∀ j u, cs.toList[j]? = some u → (w.alloc (.cells cs t)).cell? ((⟨w.heap.size, 0, none⟩ : Addr).add j) = some u := by
  intro j u hj
  rw [addr_add, Nat.zero_add, World.cell?_alloc_new]
  simpa using hj

set_option maxHeartbeats 3200000 in
set_option maxRecDepth 100000 in
theorem push_any (lt : (Int × Int × Int × Int × Int) → (Int × Int × Int × Int × Int) → Bool) (fv hv : Value) (B qb Bl : Nat) (W0 w0 : World) (l : List ((Int × Int × Int × Int × Int) × Nat)) (next : Nat) (hq0 : Q w0 B qb fv hv l next)
    (hless : LessGr fv lt Bl W0) (hW0 : Below Bl W0 w0) (hBl : Bl ≤ B) (xa xb xc xd xe : Int) (hlen : l.length ≤ 4194304) (hnx : next ≤ 4194304) :
    Calls Try.prog 49 #[.pointer (some ⟨qb, 0, none⟩), .agg #[.int .u32 xa, .int .i64 xb, .int .i64 xc, .int .i64 xd, .int .i64 xe]] w0 fun e w' => e = .returned (.int .i64 0) ∧
      ∃ hv', Q w' B qb fv hv' (QP.push lt l ((xa, xb, xc, xd, xe), next)) (next + 1) ∧ Fr w0 w' (QS qb hv) ∧ (hv'.ownBlock = hv.ownBlock ∨ ∃ g, hv'.ownBlock = some g ∧ w0.heap.size ≤ g) := by
  obtain ⟨i0, hi0, hz0, hz1, hz2⟩ := info_parts info_e
  obtain ⟨f, c, hfv, hcf, hl⟩ := hless
  have hless : LessGr fv lt Bl W0 := ⟨f, c, hfv, hcf, hl⟩
  have Hless := Lib.hid hless
  clear hl hcf hless
  have Hfv := Lib.hid hfv
  clear hfv
  have HBX := Lib.hid (Blk.new w0 65 #[.int .u32 xa, .int .i64 xb, .int .i64 xc, .int .i64 xd, .int .i64 xe])
  have HG0 := Lib.hid ((Fr.refl w0 NoneS).alloc (.cells #[.int .u32 xa, .int .i64 xb, .int .i64 xc, .int .i64 xd, .int .i64 xe] 65))
  have hBw0 : B ≤ w0.heap.size := Nat.le_of_lt (Nat.lt_of_le_of_lt hq0.base hq0.blk.lt)
  have HW0 := Lib.hid (below_of_gr hW0 HG0.out (Nat.le_trans hBl hBw0))
  have HQ0 := Lib.hid (hq0.gr HG0.out)
  have hqp : qb ≠ w0.heap.size := by have := hq0.blk.lt; omega
  clear hq0 hW0
  go_enter Try.func49, Try.ntmps49
  go_upto_region 1 with (fail)
  change Code.wp _ _ _ _ (w0.alloc (.cells #[.int .u32 xa, .int .i64 xb, .int .i64 xc, .int .i64 xd, .int .i64 xe] 65))
  generalize hw : w0.alloc (.cells #[.int .u32 xa, .int .i64 xb, .int .i64 xc, .int .i64 xd, .int .i64 xe] 65) = w at HBX HG0 HW0 HQ0 ⊢
  generalize hp3 : w0.heap.size = p3 at HBX hqp ⊢
  clear hw
  have Hp3 := Lib.hid hp3
  clear hp3
  have hW := HW0.out
  have hq := HQ0.out
  have c0 := hq.cell0
  rw [Hfv.out] at c0
  have c1 := hq.cell1
  have c2 := hq.cell2
  have b0 : w.cell? ⟨p3, 0, none⟩ = some (.int .u32 xa) := HBX.out.cell 0
  have b1 : w.cell? ⟨p3, 1, none⟩ = some (.int .i64 xb) := HBX.out.cell 1
  have b2 : w.cell? ⟨p3, 2, none⟩ = some (.int .i64 xc) := HBX.out.cell 2
  have b3 : w.cell? ⟨p3, 3, none⟩ = some (.int .i64 xd) := HBX.out.cell 3
  have b4 : w.cell? ⟨p3, 4, none⟩ = some (.int .i64 xe) := HBX.out.cell 4
  have hqb : qb < w.heap.size := hq.blk.lt
  have fz := hq.frozen
  have f1 := fz 1
  have f2 := fz 2
  clear fz
  have hBw : B ≤ w.heap.size := Nat.le_of_lt (Nat.lt_of_le_of_lt hq.base hqb)
  have Hq := Lib.hid hq
  have Hq0 := Lib.hid hq
  have HWw := Lib.hid hW
  clear hq hW hqp
  go_upto_region 3 with (go_at_call 56; refine (made_yes _ _ _ _ _ c0).mono ?_; rintro e w' ⟨rfl, rfl⟩)
  go_cut [] (fun w1 => ∃ g cap, Hid (PushMid w w1 B qb fv hv l next g cap (xa, xb, xc, xd, xe)))
  case first =>
    go_region_law (first
      | (refine step_append_lies _ rfl (.tmp 13) (.tmp 20) 88 rfl B 93 i0 _ 6 48 Try.underlying88 hi0 hz0 hz1 hz2 rfl (by omega) hv l.length (QP.cells enc l) rfl
          (by exact Fr.owns (S := NoneS) (by exact ((Fr.refl w _).alloc _).drew) Hq.out.own (fun _ _ h => h)) ⟨w.heap.size, 0, none⟩ 1 1 [.int .u32 xa, .int .i64 xb, .int .i64 xc, .int .i64 xd, .int .i64 xe, .int .i64 next] rfl rfl (by exact cell_new_row w _ _) (by simp [Value.oneCell']) (by omega) (by unfold maxLen; omega) (by omega) (by simp; omega) (w.heap.size + 1) (by simp) ?_; intro g cap w1 hown hg1 hat hlt; have HF := Lib.hid (Fr.grown (S := fun k => hv.ownBlock = some k) (by exact ((Fr.refl w _).alloc _).drew) hg1 (fun k hk _ => hk)); have k1 := (Hq.out.blk.fr HF.out Hq.out.ne).cell 1; have e1 := (Hq.out.blk.fr HF.out Hq.out.ne).frozen 1; simp at k1; have HO := Lib.hid hown; have HA := Lib.hid hat; have HL := Lib.hid hlt; clear hown hg1 hat hlt))
    all_goals go_wp2_with fail
    all_goals go_meet
    all_goals exact ⟨_, _, push_mid Hq.out HF.out HO.out HA.out⟩
  case rest =>
  obtain ⟨g, cap, HM⟩ := hcut
  have k1 := HM.out.2.2.1.cell 1
  have k2 := HM.out.2.2.1.cell 2
  have e1 := HM.out.2.2.1.frozen 1
  have e2 := HM.out.2.2.1.frozen 2
  simp at k1 k2
  have hnx' : (next : Int) ≤ 4194304 := by omega
  have hlen' : (l.length : Int) ≤ 4194304 := by omega
  clear c1 c2 f1 f2 b0 b1 b2 b3 b4
  go_wp2_with fail
  have HQ1 := Lib.hid (push_start Hq.out HM.out)
  have Hg := Lib.hid HM.out.2.2.2.2
  have Hgq := Lib.hid HM.out.1
  generalize hwl : wc.setCell _ _ = wl
  rw [hwl] at HQ1
  clear hwl k1 k2 e1 e2 HM Hq c0 hqb
  go_loopg [5] (l.length + 1) (fun m si wr => ∃ (i : Nat) (h : List ((Int × Int × Int × Int × Int) × Nat)), si = .int .i64 i ∧ Hid (i < h.length ∧ h.length = l.length + 1 ∧ i < m) ∧
    Hid (Q wr B qb fv (.slice (some ⟨g, 0, none⟩) (l.length + 1) cap) h (next + 1)) ∧ Hid (Fr w wr (QS qb hv)) ∧ Hid (∃ f, i ≤ f ∧ QP.up lt f h i = QP.push lt l ((xa, xb, xc, xd, xe), next)))
  case atStart => exact ⟨l.length, l ++ [((xa, xb, xc, xd, xe), next)], rfl, ⟨by simp, by simp, by omega⟩, HQ1.out.1, HQ1.out.2, ⟨l.length, Nat.le_refl _, rfl⟩⟩
  case round =>
    obtain ⟨i, h, rfl, HI, HQ, HF, HU⟩ := hrel
    clear HQ1 hlen' hnx'
    by_cases hi : 0 < i
    · have hi1 : (0 : Int) < i := by omega
      have hi2 : (1 : Int) ≤ i := by omega
      have hi3 : (i : Int) ≤ 4194304 := by have := HI.out; omega
      obtain ⟨p, hp0⟩ : ∃ p : Nat, p = (i - 1) / 2 := ⟨_, rfl⟩
      have hp : ((i : Int) - 1) / 2 = (p : Int) := by omega
      have Hp := Lib.hid hp0
      have Hpi := Lib.hid (show p < i by omega)
      clear hp0
      have hiL : (i : Int) < (l.length : Int) + 1 := by have := HI.out; omega
      have hpL : (p : Int) < (l.length : Int) + 1 := by have := HI.out; have := Hpi.out; omega
      have HWr := Lib.hid (show Below Bl W0 wr from HWw.out.trans (HF.out.below (Nat.le_trans hBl hBw) (fun k hk hs => by
        rcases hs with hs | hs
        · have := Hq0.out.base; omega
        · have := (Hq0.out.own.lt k hs).1; omega)))
      have hcall : Calls Try.prog 51 #[.pointer (some ⟨qb, 0, none⟩), .int .i64 i, .int .i64 p] wr fun e w' => e = .returned (.bool (QP.aheadAt lt h i p)) ∧ Hid (Gr wr w') :=
        ahead_any lt fv _ B qb Bl W0 wr h (next + 1) HQ.out Hless.out HWr.out (Nat.le_trans (Nat.le_trans hBl hBw) HF.out.size) i p (by omega) (by have := HI.out; omega) (by omega) (by have := HI.out; have := Hpi.out; omega)
      cases hA : QP.aheadAt lt h i p with
      | true =>
        rw [hA] at hcall
        have HA := Lib.hid hA
        have HC := Lib.hid hcall
        clear hA hcall
        go_upto_region 8 with (go_at_call 51; refine HC.out.mono ?_; rintro e w2 ⟨rfl, HG⟩)
        have HQ2 := Lib.hid (HQ.out.gr HG.out)
        have k1 := HQ2.out.cell1
        obtain ⟨xa', xb', xc', xd', xe', tx', EX, q0, q1, q2, q3, q4, q5, fq0, fq1, fq2, fq3, fq4, fq5⟩ := two HQ2.out HI.out.2.1 HI.out.1
        obtain ⟨ya', yb', yc', yd', ye', ty', EY, r0, r1, r2, r3, r4, r5, fr0, fr1, fr2, fr3, fr4, fr5⟩ := two HQ2.out HI.out.2.1 (Nat.lt_trans Hpi.out HI.out.1)
        go_region
        go_wp2
        go_roundg i
        case measure => exact HI.out.2.2
        case rel =>
          refine ⟨p, QP.swp h i p, by rw [hp], ⟨by rw [QP.length_swp]; exact Nat.lt_trans Hpi.out HI.out.1, by rw [QP.length_swp]; exact HI.out.2.1, Hpi.out⟩,
            swap_world HQ2.out HI.out.2.1 HI.out.1 (Nat.lt_trans Hpi.out HI.out.1) EX.out EY.out,
            fr_four (HF.out.trans (Gr.mono HG.out (QS qb hv)) (fun _ _ h => h)) (fun hlt => ?_) _ _ _ _ _ _ _ _ _ _ _ _ _ _ _ _ _ _ _ _ _ _ _ _, ?_⟩
          · rcases Hg.out with hh | hh
            · exact .inr hh
            · omega
          · obtain ⟨f0, hf0, hu⟩ := HU.out
            rw [QP.up_go lt f0 h i ⟨hi, by rw [← Hp.out]; exact HA.out⟩ (by omega), ← Hp.out] at hu
            exact ⟨f0 - 1, by have := Hpi.out; omega, hu⟩
      | false =>
        rw [hA] at hcall
        have HA := Lib.hid hA
        have HC := Lib.hid hcall
        clear hA hcall
        go_wp2_with (go_at_call 51; refine HC.out.mono ?_; rintro e w2 ⟨rfl, HG⟩)
        go_ret
        refine ⟨rfl, .slice (some ⟨g, 0, none⟩) (l.length + 1) cap, ?_, (Gr.mono HG0.out (QS qb hv)).trans (HF.out.trans (Gr.mono HG.out (QS qb hv)) (fun _ _ h => h)) (fun _ _ h => h), ?_⟩
        · obtain ⟨f0, hf0, hu⟩ := HU.out
          rw [← hu, QP.up_stop lt f0 h i (by rw [← Hp.out]; intro h'; rw [HA.out] at h'; simp at h')]
          exact HQ.out.gr HG.out
        · rcases Hg.out with hh | hh
          · exact .inl hh.symm
          · exact .inr ⟨g, rfl, Nat.le_trans HG0.out.size hh⟩
    · have hi1 : decide ((0 : Int) < (i : Int)) = false := decide_eq_false (by omega)
      go_wp2_with fail
      go_ret
      refine ⟨rfl, .slice (some ⟨g, 0, none⟩) (l.length + 1) cap, ?_, (Gr.mono HG0.out (QS qb hv)).trans HF.out (fun _ _ h => h), ?_⟩
      · obtain ⟨f0, hf0, hu⟩ := HU.out
        rw [← hu, QP.up_stop lt f0 h i (by intro h'; exact hi h'.1)]
        exact HQ.out
      · rcases Hg.out with hh | hh
        · exact .inl hh.symm
        · exact .inr ⟨g, rfl, Nat.le_trans HG0.out.size hh⟩
end Qp
end Go.Proofs.Ytildhlneldoffaa
