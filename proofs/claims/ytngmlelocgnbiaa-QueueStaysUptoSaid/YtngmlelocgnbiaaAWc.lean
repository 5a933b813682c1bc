/- The queue of stook/stooklaw07.at: Push (printed by gen_struct.py). -/
import Derived.Test.YtngmlelocgnbiaaAWb
import Derived.Deep.RegionLaw
set_option linter.unusedVariables false
set_option linter.unusedSimpArgs false
namespace Go.Proofs.Ytngmlelocgnbiaa
open Go.RowKit

namespace Qa

theorem info_e : (Try.prog.info? 74).map (fun i => (i.zero, i.size, i.bytes)) = some (some (.agg #[.int .i64 0, .int .i64 0, .int .i64 0]), 3, 24) := by kernel_rfl
theorem cells_snoc (l : List ((Int × Int) × Nat)) (xa xb : Int) (n : Nat) : QP.cells enc (l ++ [((xa, xb), n)]) = QP.cells enc l ++ [.int .i64 xa, .int .i64 xb, .int .i64 n] := by
  simp [QP.cells, enc]

/-- an entry's cells -/
theorem two {w : World} {B qb : Nat} {fv : Value} {g n cap : Nat} {h : List ((Int × Int) × Nat)} {next : Nat} (hq : Q w B qb fv (.slice (some ⟨g, 0, none⟩) n cap) h next) (hn : h.length = n) {i : Nat} (hi : i < h.length) :
    ∃ xa xb tx, Hid (h[i]? = some ((xa, xb), tx)) ∧ w.cell? ⟨g, i * 3, none⟩ = some (.int .i64 xa) ∧ w.cell? ⟨g, i * 3 + 1, none⟩ = some (.int .i64 xb) ∧ w.cell? ⟨g, i * 3 + 2, none⟩ = some (.int .i64 (tx : Nat)) ∧ w.frozen? ⟨g, i * 3, none⟩ = false ∧ w.frozen? ⟨g, i * 3 + 1, none⟩ = false ∧ w.frozen? ⟨g, i * 3 + 2, none⟩ = false := by
  subst hn
  have x0 := hq.entry (fun _ => rfl) hi 0 (by omega)
  have x1 := hq.entry (fun _ => rfl) hi 1 (by omega)
  have x2 := hq.entry (fun _ => rfl) hi 2 (by omega)
  simp [enc] at x0 x1 x2
  exact ⟨_, _, _, List.getElem?_eq_getElem hi, x0, x1, x2, hq.froz _, hq.froz _, hq.froz _⟩

/-- an entry is put anew -/
theorem put2 {w : World} {B qb : Nat} {fv : Value} {g n cap : Nat} {h : List ((Int × Int) × Nat)} {next : Nat} (hq : Q w B qb fv (.slice (some ⟨g, 0, none⟩) n cap) h next) (hn : h.length = n) {i : Nat} (hi : i < h.length) (xa xb : Int) (t : Nat) :
    Q (((w.setCell ⟨g, i * 3, none⟩ (.int .i64 xa)).setCell ⟨g, i * 3 + 1, none⟩ (.int .i64 xb)).setCell ⟨g, i * 3 + 2, none⟩ (.int .i64 t)) B qb fv (.slice (some ⟨g, 0, none⟩) n cap) (h.set i ((xa, xb), t)) next := by
  subst hn
  have hne : g ≠ qb := fun e => hq.ne (by rw [e]; rfl)
  have o1 := (hq.own.stored (i * 3) (.int .i64 xa)).1
  have o2 := (o1.stored (i * 3 + 1) (.int .i64 xb)).1
  have o3 := (o2.stored (i * 3 + 2) (.int .i64 (t : Nat))).1
  have e2 : (((QP.cells enc h).set (i * 3) (.int .i64 xa)).set (i * 3 + 1) (.int .i64 xb)).set (i * 3 + 2) (.int .i64 (t : Nat)) = QP.cells enc (h.set i ((xa, xb), t)) := by
    unfold QP.cells
    refine set_flatMap (fun e : (Int × Int) × Nat => enc e.1 ++ [Value.int .i64 e.2]) 3 (by omega) (fun _ => rfl) h i ((xa, xb), t) _ (by simp) ?_ ?_
    · intro j hj hi'
      have hL : (h.flatMap (fun e : (Int × Int) × Nat => enc e.1 ++ [Value.int .i64 e.2])).length = h.length * 3 := len_flatMap _ 3 (fun _ => rfl) h
      match j, hj with
      | 0, _ => rw [List.getElem?_set_ne (by omega), List.getElem?_set_ne (by omega), Nat.add_zero, List.getElem?_set_self (by rw [hL]; omega)]; rfl
      | 1, _ => rw [List.getElem?_set_ne (by omega), List.getElem?_set_self (by simp only [List.length_set]; rw [hL]; omega)]; rfl
      | 2, _ => rw [List.getElem?_set_self (by simp only [List.length_set]; rw [hL]; omega)]; rfl
    · intro m hm
      rw [List.getElem?_set_ne (by omega), List.getElem?_set_ne (by omega), List.getElem?_set_ne (by omega)]
  rw [e2] at o3
  refine ⟨hq.base, (((hq.blk.far (p := ⟨g, i * 3, none⟩) (Ne.symm hne) _).far (p := ⟨g, i * 3 + 1, none⟩) (Ne.symm hne) _).far (p := ⟨g, i * 3 + 2, none⟩) (Ne.symm hne) _), ?_, hq.ne⟩
  rw [List.length_set]
  exact o3
theorem swap_world {w : World} {B qb : Nat} {fv : Value} {g n cap : Nat} {h : List ((Int × Int) × Nat)} {next : Nat} (hq : Q w B qb fv (.slice (some ⟨g, 0, none⟩) n cap) h next) (hn : h.length = n) {i p : Nat} (hi : i < h.length) (hp : p < h.length)
    {xa xb ya yb : Int} {tx ty : Nat} (hx : h[i]? = some ((xa, xb), tx)) (hy : h[p]? = some ((ya, yb), ty)) :
    Q ((((((w.setCell ⟨g, i * 3, none⟩ (.int .i64 ya)).setCell ⟨g, i * 3 + 1, none⟩ (.int .i64 yb)).setCell ⟨g, i * 3 + 2, none⟩ (.int .i64 ty)).setCell ⟨g, p * 3, none⟩ (.int .i64 xa)).setCell ⟨g, p * 3 + 1, none⟩ (.int .i64 xb)).setCell ⟨g, p * 3 + 2, none⟩ (.int .i64 tx)).drew B qb fv (.slice (some ⟨g, 0, none⟩) n cap) (QP.swp h i p) next := by
  have h1 := put2 hq hn hi ya yb ty
  have h2 := put2 h1 (by rw [List.length_set]; exact hn) (i := p) (by rw [List.length_set]; exact hp) xa xb tx
  have e : QP.swp h i p = (h.set i ((ya, yb), ty)).set p ((xa, xb), tx) := by unfold QP.swp; rw [hx, hy]
  rw [e]
  exact h2.gr ((Fr.refl _ _).drew)
theorem fr_four {w w' : World} {S : Nat → Prop} (hF : Fr w w' S) {g : Nat} (hg : g < w.heap.size → S g) (a0 a1 a2 a3 a4 a5 : Nat) (u0 u1 u2 u3 u4 u5 : Value) :
    Fr w ((((((w'.setCell ⟨g, a0, none⟩ u0).setCell ⟨g, a1, none⟩ u1).setCell ⟨g, a2, none⟩ u2).setCell ⟨g, a3, none⟩ u3).setCell ⟨g, a4, none⟩ u4).setCell ⟨g, a5, none⟩ u5).drew S :=
  ((((((hF.setCell (p := ⟨g, a0, none⟩) hg _).setCell (p := ⟨g, a1, none⟩) hg _).setCell (p := ⟨g, a2, none⟩) hg _).setCell (p := ⟨g, a3, none⟩) hg _).setCell (p := ⟨g, a4, none⟩) hg _).setCell (p := ⟨g, a5, none⟩) hg _).drew
theorem fr_two {w w' : World} {S : Nat → Prop} (hF : Fr w w' S) {g : Nat} (hg : g < w.heap.size → S g) (a0 a1 a2 : Nat) (u0 u1 u2 : Value) :
    Fr w (((w'.setCell ⟨g, a0, none⟩ u0).setCell ⟨g, a1, none⟩ u1).setCell ⟨g, a2, none⟩ u2).drew S :=
  (((hF.setCell (p := ⟨g, a0, none⟩) hg _).setCell (p := ⟨g, a1, none⟩) hg _).setCell (p := ⟨g, a2, none⟩) hg _).drew

/-- what the append and the store leave -/
def PushMid (w w1 : World) (B qb : Nat) (fv hv : Value) (l : List ((Int × Int) × Nat)) (next g cap : Nat) (x : Int × Int) : Prop :=
  g ≠ qb ∧ w1.ownsRow B 74 3 (.slice (some ⟨g, 0, none⟩) (l.length + 1) cap) (l.length + 1) (QP.cells enc (l ++ [(x, next)])) ∧
  Blk w1 qb 72 #[fv, .slice (some ⟨g, 0, none⟩) (l.length + 1) cap, .int .i64 next] ∧ Fr w w1 (QS qb hv) ∧ (hv.ownBlock = some g ∨ w.heap.size ≤ g)

theorem push_mid {w w1 : World} {B qb : Nat} {fv hv : Value} {l : List ((Int × Int) × Nat)} {next g cap : Nat} {xa xb : Int} (hq : Q w B qb fv hv l next) (hF : Fr w w1 (fun k => hv.ownBlock = some k))
    (hO : w1.ownsRow B 74 3 (.slice (some ⟨g, 0, none⟩) (l.length + 1) cap) (l.length + 1) (QP.cells enc l ++ [.int .i64 xa, .int .i64 xb, .int .i64 next]))
    (hA : hv.ownBlock = some g ∨ g = w.heap.size + 1) :
    PushMid w (w1.setCell ⟨qb, 1, none⟩ (.slice (some ⟨g, 0, none⟩) (l.length + 1) cap)) B qb fv hv l next g cap (xa, xb) := by
  have hqb := hq.blk.lt
  have hne : g ≠ qb := by
    rcases hA with h | h
    · intro e; exact hq.ne (by rw [h, e])
    · omega
  have hst : Fr w1 (w1.setCell ⟨qb, 1, none⟩ (.slice (some ⟨g, 0, none⟩) (l.length + 1) cap)) (fun k => k = qb) := Fr.setCell (S := fun k => k = qb) (Fr.refl w1 _) (fun _ => rfl) _
  refine ⟨hne, ?_, ?_, ?_, ?_⟩
  · rw [cells_snoc]
    exact hst.owns hO (fun k hk e => by simp [Value.ownBlock] at hk; omega)
  · have := (hq.blk.fr hF hq.ne).set_ 1 (.slice (some ⟨g, 0, none⟩) (l.length + 1) cap)
    simpa using this
  · exact (hF.mono (fun k _ h => .inr h)).trans hst (fun i _ h => .inl h)
  · rcases hA with h | h
    · exact .inl h
    · exact .inr (by omega)

theorem push_start {w w1 : World} {B qb : Nat} {fv hv : Value} {l : List ((Int × Int) × Nat)} {next g cap : Nat} {x : Int × Int} (hq : Q w B qb fv hv l next) (hM : PushMid w w1 B qb fv hv l next g cap x) :
    Q (w1.setCell ⟨qb, 2, none⟩ (.int .i64 (next + 1))) B qb fv (.slice (some ⟨g, 0, none⟩) (l.length + 1) cap) (l ++ [(x, next)]) (next + 1) ∧
    Fr w (w1.setCell ⟨qb, 2, none⟩ (.int .i64 (next + 1))) (QS qb hv) := by
  obtain ⟨hne, hO, hB, hF, hA⟩ := hM
  have hst : Fr w1 (w1.setCell ⟨qb, 2, none⟩ (.int .i64 (next + 1))) (fun k => k = qb) := Fr.setCell (S := fun k => k = qb) (Fr.refl w1 _) (fun _ => rfl) _
  refine ⟨⟨hq.base, ?_, ?_, ?_⟩, hF.trans hst (fun i _ h => .inl h)⟩
  · have := hB.set_ 2 (.int .i64 (next + 1))
    simpa using this
  · have := hst.owns hO (fun k hk e => by simp [Value.ownBlock] at hk; omega)
    simpa using this
  · simp [Value.ownBlock]; exact hne
theorem cell_new_row (w : World) (cs : Array Value) (t : TypeId) : ∀ j u, cs.toList[j]? = some u → (w.alloc (.cells cs t)).cell? ((⟨w.heap.size, 0, none⟩ : Addr).add j) = some u := by
  intro j u hj
  rw [addr_add, Nat.zero_add, World.cell?_alloc_new]
  simpa using hj

set_option maxHeartbeats 3200000 in
set_option maxRecDepth 100000 in
theorem push_any (lt : (Int × Int) → (Int × Int) → Bool) (fv hv : Value) (B qb Bl : Nat) (W0 w0 : World) (l : List ((Int × Int) × Nat)) (next : Nat) (hq0 : Q w0 B qb fv hv l next)
    (hless : LessGr fv lt Bl W0) (hW0 : Below Bl W0 w0) (hBl : Bl ≤ B) (xa xb : Int) (hlen : l.length ≤ 4194304) (hnx : next ≤ 4194304) :
    Calls Try.prog 31 #[.pointer (some ⟨qb, 0, none⟩), .agg #[.int .i64 xa, .int .i64 xb]] w0 fun e w' => e = .returned (.int .i64 0) ∧
      ∃ hv', Q w' B qb fv hv' (QP.push lt l ((xa, xb), next)) (next + 1) ∧ Fr w0 w' (QS qb hv) ∧ (hv'.ownBlock = hv.ownBlock ∨ ∃ g, hv'.ownBlock = some g ∧ w0.heap.size ≤ g) := by
  obtain ⟨i0, hi0, hz0, hz1, hz2⟩ := info_parts info_e
  obtain ⟨f, c, hfv, hcf, hl⟩ := hless
  have hless : LessGr fv lt Bl W0 := ⟨f, c, hfv, hcf, hl⟩
  have Hless := Lib.hid hless
  clear hl hcf hless
  have Hfv := Lib.hid hfv
  clear hfv
  have HBX := Lib.hid (Blk.new w0 54 #[.int .i64 xa, .int .i64 xb])
  have HG0 := Lib.hid ((Fr.refl w0 NoneS).alloc (.cells #[.int .i64 xa, .int .i64 xb] 54))
  have hBw0 : B ≤ w0.heap.size := Nat.le_of_lt (Nat.lt_of_le_of_lt hq0.base hq0.blk.lt)
  have HW0 := Lib.hid (below_of_gr hW0 HG0.out (Nat.le_trans hBl hBw0))
  have HQ0 := Lib.hid (hq0.gr HG0.out)
  have hqp : qb ≠ w0.heap.size := by have := hq0.blk.lt; omega
  clear hq0 hW0
  go_enter Try.func31, Try.ntmps31
  go_upto_region 1 with (fail)
  change Code.wp _ _ _ _ (w0.alloc (.cells #[.int .i64 xa, .int .i64 xb] 54))
  generalize hw : w0.alloc (.cells #[.int .i64 xa, .int .i64 xb] 54) = w at HBX HG0 HW0 HQ0 ⊢
  generalize hp3 : w0.heap.size = p3 at HBX hqp ⊢
  clear hw
  have Hp3 := Lib.hid hp3
  clear hp3
  have hW := HW0.out
  have hq := HQ0.out
  have c0 := hq.cell0
  rw [Hfv.out] at c0
  have c1 := hq.cell1
  have c2 := hq.cell2
  have b0 : w.cell? ⟨p3, 0, none⟩ = some (.int .i64 xa) := HBX.out.cell 0
  have b1 : w.cell? ⟨p3, 1, none⟩ = some (.int .i64 xb) := HBX.out.cell 1
  have hqb : qb < w.heap.size := hq.blk.lt
  have fz := hq.frozen
  have f1 := fz 1
  have f2 := fz 2
  clear fz
  have hBw : B ≤ w.heap.size := Nat.le_of_lt (Nat.lt_of_le_of_lt hq.base hqb)
  have Hq := Lib.hid hq
  have Hq0 := Lib.hid hq
  have HWw := Lib.hid hW
  clear hq hW hqp
  go_upto_region 3 with (go_at_call 40; refine (made_yes _ _ _ _ _ c0).mono ?_; rintro e w' ⟨rfl, rfl⟩)
  go_cut [] (fun w1 => ∃ g cap, Hid (PushMid w w1 B qb fv hv l next g cap (xa, xb)))
  case first =>
    go_region_law (first
      | (refine step_append_lies _ rfl (.tmp 13) (.tmp 20) 70 rfl B 74 i0 _ 3 24 Try.underlying70 hi0 hz0 hz1 hz2 rfl (by omega) hv l.length (QP.cells enc l) rfl
          (by exact Fr.owns (S := NoneS) (by exact ((Fr.refl w _).alloc _).drew) Hq.out.own (fun _ _ h => h)) ⟨w.heap.size, 0, none⟩ 1 1 [.int .i64 xa, .int .i64 xb, .int .i64 next] rfl rfl (by exact cell_new_row w _ _) (by simp [Value.oneCell']) (by omega) (by unfold maxLen; omega) (by omega) (by simp; omega) (w.heap.size + 1) (by simp) ?_; intro g cap w1 hown hg1 hat hlt; have HF := Lib.hid (Fr.grown (S := fun k => hv.ownBlock = some k) (by exact ((Fr.refl w _).alloc _).drew) hg1 (fun k hk _ => hk)); have k1 := (Hq.out.blk.fr HF.out Hq.out.ne).cell 1; have e1 := (Hq.out.blk.fr HF.out Hq.out.ne).frozen 1; simp at k1; have HO := Lib.hid hown; have HA := Lib.hid hat; have HL := Lib.hid hlt; clear hown hg1 hat hlt))
    all_goals go_wp2_with fail
    all_goals go_meet
    all_goals exact ⟨_, _, push_mid Hq.out HF.out HO.out HA.out⟩
  case rest =>
  obtain ⟨g, cap, HM⟩ := hcut
  have k1 := HM.out.2.2.1.cell 1
  have k2 := HM.out.2.2.1.cell 2
  have e1 := HM.out.2.2.1.frozen 1
  have e2 := HM.out.2.2.1.frozen 2
  simp at k1 k2
  have hnx' : (next : Int) ≤ 4194304 := by omega
  have hlen' : (l.length : Int) ≤ 4194304 := by omega
  clear c1 c2 f1 f2 b0 b1
  go_wp2_with fail
  have HQ1 := Lib.hid (push_start Hq.out HM.out)
  have Hg := Lib.hid HM.out.2.2.2.2
  have Hgq := Lib.hid HM.out.1
  generalize hwl : wc.setCell _ _ = wl
  rw [hwl] at HQ1
  clear hwl k1 k2 e1 e2 HM Hq c0 hqb
  go_loopg [5] (l.length + 1) (fun m si wr => ∃ (i : Nat) (h : List ((Int × Int) × Nat)), si = .int .i64 i ∧ Hid (i < h.length ∧ h.length = l.length + 1 ∧ i < m) ∧
    Hid (Q wr B qb fv (.slice (some ⟨g, 0, none⟩) (l.length + 1) cap) h (next + 1)) ∧ Hid (Fr w wr (QS qb hv)) ∧ Hid (∃ f, i ≤ f ∧ QP.up lt f h i = QP.push lt l ((xa, xb), next)))
  case atStart => exact ⟨l.length, l ++ [((xa, xb), next)], rfl, ⟨by simp, by simp, by omega⟩, HQ1.out.1, HQ1.out.2, ⟨l.length, Nat.le_refl _, rfl⟩⟩
  case round =>
    obtain ⟨i, h, rfl, HI, HQ, HF, HU⟩ := hrel
    clear HQ1 hlen' hnx'
    by_cases hi : 0 < i
    · have hi1 : (0 : Int) < i := by omega
      have hi2 : (1 : Int) ≤ i := by omega
      have hi3 : (i : Int) ≤ 4194304 := by have := HI.out; omega
      obtain ⟨p, hp0⟩ : ∃ p : Nat, p = (i - 1) / 2 := ⟨_, rfl⟩
      have hp : ((i : Int) - 1) / 2 = (p : Int) := by omega
      have Hp := Lib.hid hp0
      have Hpi := Lib.hid (show p < i by omega)
      clear hp0
      have hiL : (i : Int) < (l.length : Int) + 1 := by have := HI.out; omega
      have hpL : (p : Int) < (l.length : Int) + 1 := by have := HI.out; have := Hpi.out; omega
      have HWr := Lib.hid (show Below Bl W0 wr from HWw.out.trans (HF.out.below (Nat.le_trans hBl hBw) (fun k hk hs => by
        rcases hs with hs | hs
        · have := Hq0.out.base; omega
        · have := (Hq0.out.own.lt k hs).1; omega)))
      have hcall : Calls Try.prog 41 #[.pointer (some ⟨qb, 0, none⟩), .int .i64 i, .int .i64 p] wr fun e w' => e = .returned (.bool (QP.aheadAt lt h i p)) ∧ Hid (Gr wr w') :=
        ahead_any lt fv _ B qb Bl W0 wr h (next + 1) HQ.out Hless.out HWr.out (Nat.le_trans (Nat.le_trans hBl hBw) HF.out.size) i p (by omega) (by have := HI.out; omega) (by omega) (by have := HI.out; have := Hpi.out; omega)
      cases hA : QP.aheadAt lt h i p with
      | true =>
        rw [hA] at hcall
        have HA := Lib.hid hA
        have HC := Lib.hid hcall
        clear hA hcall
        go_upto_region 8 with (go_at_call 41; refine HC.out.mono ?_; rintro e w2 ⟨rfl, HG⟩)
        have HQ2 := Lib.hid (HQ.out.gr HG.out)
        have k1 := HQ2.out.cell1
        obtain ⟨xa', xb', tx', EX, q0, q1, q2, fq0, fq1, fq2⟩ := two HQ2.out HI.out.2.1 HI.out.1
        obtain ⟨ya', yb', ty', EY, r0, r1, r2, fr0, fr1, fr2⟩ := two HQ2.out HI.out.2.1 (Nat.lt_trans Hpi.out HI.out.1)
        go_region
        go_wp2
        go_roundg i
        case measure => exact HI.out.2.2
        case rel =>
          refine ⟨p, QP.swp h i p, by rw [hp], ⟨by rw [QP.length_swp]; exact Nat.lt_trans Hpi.out HI.out.1, by rw [QP.length_swp]; exact HI.out.2.1, Hpi.out⟩,
            swap_world HQ2.out HI.out.2.1 HI.out.1 (Nat.lt_trans Hpi.out HI.out.1) EX.out EY.out,
            fr_four (HF.out.trans (Gr.mono HG.out (QS qb hv)) (fun _ _ h => h)) (fun hlt => ?_) _ _ _ _ _ _ _ _ _ _ _ _, ?_⟩
          · rcases Hg.out with hh | hh
            · exact .inr hh
            · omega
          · obtain ⟨f0, hf0, hu⟩ := HU.out
            rw [QP.up_go lt f0 h i ⟨hi, by rw [← Hp.out]; exact HA.out⟩ (by omega), ← Hp.out] at hu
            exact ⟨f0 - 1, by have := Hpi.out; omega, hu⟩
      | false =>
        rw [hA] at hcall
        have HA := Lib.hid hA
        have HC := Lib.hid hcall
        clear hA hcall
        go_wp2_with (go_at_call 41; refine HC.out.mono ?_; rintro e w2 ⟨rfl, HG⟩)
        go_ret
        refine ⟨rfl, .slice (some ⟨g, 0, none⟩) (l.length + 1) cap, ?_, (Gr.mono HG0.out (QS qb hv)).trans (HF.out.trans (Gr.mono HG.out (QS qb hv)) (fun _ _ h => h)) (fun _ _ h => h), ?_⟩
        · obtain ⟨f0, hf0, hu⟩ := HU.out
          rw [← hu, QP.up_stop lt f0 h i (by rw [← Hp.out]; intro h'; rw [HA.out] at h'; simp at h')]
          exact HQ.out.gr HG.out
        · rcases Hg.out with hh | hh
          · exact .inl hh.symm
          · exact .inr ⟨g, rfl, Nat.le_trans HG0.out.size hh⟩
    · have hi1 : decide ((0 : Int) < (i : Int)) = false := decide_eq_false (by omega)
      go_wp2_with fail
      go_ret
      refine ⟨rfl, .slice (some ⟨g, 0, none⟩) (l.length + 1) cap, ?_, (Gr.mono HG0.out (QS qb hv)).trans HF.out (fun _ _ h => h), ?_⟩
      · obtain ⟨f0, hf0, hu⟩ := HU.out
        rw [← hu, QP.up_stop lt f0 h i (by intro h'; exact hi h'.1)]
        exact HQ.out
      · rcases Hg.out with hh | hh
        · exact .inl hh.symm
        · exact .inr ⟨g, rfl, Nat.le_trans HG0.out.size hh⟩
end Qa
end Go.Proofs.Ytngmlelocgnbiaa
