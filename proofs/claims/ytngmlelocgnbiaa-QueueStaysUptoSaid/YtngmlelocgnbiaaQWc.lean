/- The queue of ints: Push. -/
import Derived.Test.YtngmlelocgnbiaaQWb
import Derived.Deep.RegionLaw
set_option linter.unusedVariables false
set_option linter.unusedSimpArgs false
namespace Go.Proofs.Ytngmlelocgnbiaa
open Go.RowKit

namespace Qi
theorem info_e : (Try.prog.info? 69).map (fun i => (i.zero, i.size, i.bytes)) = some (some (.agg #[.int .i64 0, .int .i64 0]), 2, 16) := by kernel_rfl

theorem cells_snoc (l : List (Int × Nat)) (x : Int) (n : Nat) : QP.cells enc (l ++ [(x, n)]) = QP.cells enc l ++ [.int .i64 x, .int .i64 n] := by
  simp [QP.cells, enc]

/-- an entry's cells -/
theorem two {w : World} {B qb : Nat} {fv : Value} {g n cap : Nat} {h : List (Int × Nat)} {next : Nat} (hq : Q w B qb fv (.slice (some ⟨g, 0, none⟩) n cap) h next) (hn : h.length = n) {i : Nat} (hi : i < h.length) :
    ∃ x tx, Hid (h[i]? = some (x, tx)) ∧ w.cell? ⟨g, i * 2, none⟩ = some (.int .i64 x) ∧ w.cell? ⟨g, i * 2 + 1, none⟩ = some (.int .i64 (tx : Nat)) ∧ w.frozen? ⟨g, i * 2, none⟩ = false ∧ w.frozen? ⟨g, i * 2 + 1, none⟩ = false := by
  subst hn
  have x0 := hq.entry (fun _ => rfl) hi 0 (by omega)
  have x1 := hq.entry (fun _ => rfl) hi 1 (by omega)
  simp [enc] at x0 x1
  exact ⟨_, _, List.getElem?_eq_getElem hi, x0, x1, hq.froz _, hq.froz _⟩

/-- an entry is put anew -/
theorem put2 {w : World} {B qb : Nat} {fv : Value} {g n cap : Nat} {h : List (Int × Nat)} {next : Nat} (hq : Q w B qb fv (.slice (some ⟨g, 0, none⟩) n cap) h next) (hn : h.length = n) {i : Nat} (hi : i < h.length) (x : Int) (t : Nat) :
    Q ((w.setCell ⟨g, i * 2, none⟩ (.int .i64 x)).setCell ⟨g, i * 2 + 1, none⟩ (.int .i64 t)) B qb fv (.slice (some ⟨g, 0, none⟩) n cap) (h.set i (x, t)) next := by
  subst hn
  have hne : g ≠ qb := fun e => hq.ne (by rw [e]; rfl)
  have o1 := (hq.own.stored (i * 2) (.int .i64 x)).1
  have o2 := (o1.stored (i * 2 + 1) (.int .i64 (t : Nat))).1
  have e2 : ((QP.cells enc h).set (i * 2) (.int .i64 x)).set (i * 2 + 1) (.int .i64 (t : Nat)) = QP.cells enc (h.set i (x, t)) := by
    unfold QP.cells
    refine set_flatMap (fun e : Int × Nat => enc e.1 ++ [Value.int .i64 e.2]) 2 (by omega) (fun _ => rfl) h i (x, t) _ (by simp) ?_ ?_
    · intro j hj hi'
      have hL : (h.flatMap (fun e : Int × Nat => enc e.1 ++ [Value.int .i64 e.2])).length = h.length * 2 := len_flatMap _ 2 (fun _ => rfl) h
      match j, hj with
      | 0, _ => rw [List.getElem?_set_ne (by omega), Nat.add_zero, List.getElem?_set_self (by rw [hL]; omega)]; rfl
      | 1, _ => rw [List.getElem?_set_self (by rw [List.length_set, hL]; omega)]; rfl
    · intro m hm
      rw [List.getElem?_set_ne (by omega), List.getElem?_set_ne (by omega)]
  rw [e2] at o2
  refine ⟨hq.base, (hq.blk.far (p := ⟨g, i * 2, none⟩) (Ne.symm hne) _).far (p := ⟨g, i * 2 + 1, none⟩) (Ne.symm hne) _, ?_, hq.ne⟩
  rw [List.length_set]
  exact o2
theorem swap_world {w : World} {B qb : Nat} {fv : Value} {g n cap : Nat} {h : List (Int × Nat)} {next : Nat} (hq : Q w B qb fv (.slice (some ⟨g, 0, none⟩) n cap) h next) (hn : h.length = n) {i p : Nat} (hi : i < h.length) (hp : p < h.length)
    {x y : Int} {tx ty : Nat} (hx : h[i]? = some (x, tx)) (hy : h[p]? = some (y, ty)) :
    Q ((((w.setCell ⟨g, i * 2, none⟩ (.int .i64 y)).setCell ⟨g, i * 2 + 1, none⟩ (.int .i64 ty)).setCell ⟨g, p * 2, none⟩ (.int .i64 x)).setCell ⟨g, p * 2 + 1, none⟩ (.int .i64 tx)).drew B qb fv (.slice (some ⟨g, 0, none⟩) n cap) (QP.swp h i p) next := by
  have h1 := put2 hq hn hi y ty
  have h2 := put2 h1 (by rw [List.length_set]; exact hn) (i := p) (by rw [List.length_set]; exact hp) x tx
  have e : QP.swp h i p = (h.set i (y, ty)).set p (x, tx) := by unfold QP.swp; rw [hx, hy]
  rw [e]
  exact h2.gr ((Fr.refl _ _).drew)
theorem fr_four {w w' : World} {S : Nat → Prop} (hF : Fr w w' S) {g : Nat} (hg : g < w.heap.size → S g) (a b c d : Nat) (u v x y : Value) :
    Fr w ((((w'.setCell ⟨g, a, none⟩ u).setCell ⟨g, b, none⟩ v).setCell ⟨g, c, none⟩ x).setCell ⟨g, d, none⟩ y).drew S :=
  ((((hF.setCell (p := ⟨g, a, none⟩) hg _).setCell (p := ⟨g, b, none⟩) hg _).setCell (p := ⟨g, c, none⟩) hg _).setCell (p := ⟨g, d, none⟩) hg _).drew

/-- what the append and the store leave -/
def PushMid (w w1 : World) (B qb : Nat) (fv hv : Value) (l : List (Int × Nat)) (next g cap : Nat) (x : Int) : Prop :=
  g ≠ qb ∧ w1.ownsRow B 69 2 (.slice (some ⟨g, 0, none⟩) (l.length + 1) cap) (l.length + 1) (QP.cells enc (l ++ [(x, next)])) ∧
  Blk w1 qb 62 #[fv, .slice (some ⟨g, 0, none⟩) (l.length + 1) cap, .int .i64 next] ∧ Fr w w1 (QS qb hv) ∧ (hv.ownBlock = some g ∨ w.heap.size ≤ g)

theorem push_mid {w w1 : World} {B qb : Nat} {fv hv : Value} {l : List (Int × Nat)} {next g cap : Nat} {x : Int} (hq : Q w B qb fv hv l next) (hF : Fr w w1 (fun k => hv.ownBlock = some k))
    (hO : w1.ownsRow B 69 2 (.slice (some ⟨g, 0, none⟩) (l.length + 1) cap) (l.length + 1) (QP.cells enc l ++ [.int .i64 x, .int .i64 next]))
    (hA : hv.ownBlock = some g ∨ g = w.heap.size + 1) :
    PushMid w (w1.setCell ⟨qb, 1, none⟩ (.slice (some ⟨g, 0, none⟩) (l.length + 1) cap)) B qb fv hv l next g cap x := by
  have hqb := hq.blk.lt
  have hne : g ≠ qb := by
    rcases hA with h | h
    · intro e; exact hq.ne (by rw [h, e])
    · omega
  have hst : Fr w1 (w1.setCell ⟨qb, 1, none⟩ (.slice (some ⟨g, 0, none⟩) (l.length + 1) cap)) (fun k => k = qb) := Fr.setCell (S := fun k => k = qb) (Fr.refl w1 _) (fun _ => rfl) _
  refine ⟨hne, ?_, ?_, ?_, ?_⟩
  · rw [cells_snoc]
    exact hst.owns hO (fun k hk e => by simp [Value.ownBlock] at hk; omega)
  · have := (hq.blk.fr hF hq.ne).set_ 1 (.slice (some ⟨g, 0, none⟩) (l.length + 1) cap)
    simpa using this
  · exact (hF.mono (fun k _ h => .inr h)).trans hst (fun i _ h => .inl h)
  · rcases hA with h | h
    · exact .inl h
    · exact .inr (by omega)

theorem push_start {w w1 : World} {B qb : Nat} {fv hv : Value} {l : List (Int × Nat)} {next g cap : Nat} {x : Int} (hq : Q w B qb fv hv l next) (hM : PushMid w w1 B qb fv hv l next g cap x) :
    Q (w1.setCell ⟨qb, 2, none⟩ (.int .i64 (next + 1))) B qb fv (.slice (some ⟨g, 0, none⟩) (l.length + 1) cap) (l ++ [(x, next)]) (next + 1) ∧
    Fr w (w1.setCell ⟨qb, 2, none⟩ (.int .i64 (next + 1))) (QS qb hv) := by
  obtain ⟨hne, hO, hB, hF, hA⟩ := hM
  have hst : Fr w1 (w1.setCell ⟨qb, 2, none⟩ (.int .i64 (next + 1))) (fun k => k = qb) := Fr.setCell (S := fun k => k = qb) (Fr.refl w1 _) (fun _ => rfl) _
  refine ⟨⟨hq.base, ?_, ?_, ?_⟩, hF.trans hst (fun i _ h => .inl h)⟩
  · have := hB.set_ 2 (.int .i64 (next + 1))
    simpa using this
  · have := hst.owns hO (fun k hk e => by simp [Value.ownBlock] at hk; omega)
    simpa using this
  · simp [Value.ownBlock]; exact hne

set_option maxHeartbeats 3200000 in
set_option maxRecDepth 100000 in
theorem push_any (lt : Int → Int → Bool) (fv hv : Value) (B qb Bl : Nat) (W0 w : World) (l : List (Int × Nat)) (next : Nat) (hq : Q w B qb fv hv l next)
    (hless : LessOK Try.prog enc fv lt Bl W0) (hW : Below Bl W0 w) (hBl : Bl ≤ B) (x : Int) (hlen : l.length ≤ 4194304) (hnx : next ≤ 4194304) :
    Calls Try.prog 24 #[.pointer (some ⟨qb, 0, none⟩), .int .i64 x] w fun e w' => e = .returned (.int .i64 0) ∧
      ∃ hv', Q w' B qb fv hv' (QP.push lt l (x, next)) (next + 1) ∧ Fr w w' (QS qb hv) ∧ (hv'.ownBlock = hv.ownBlock ∨ ∃ g, hv'.ownBlock = some g ∧ w.heap.size ≤ g) := by
  obtain ⟨i0, hi0, hz0, hz1, hz2⟩ := info_parts info_e
  obtain ⟨f, c, hfv, hcf, hl⟩ := hless
  have hless : LessOK Try.prog enc fv lt Bl W0 := ⟨f, c, hfv, hcf, hl⟩
  have Hless := Lib.hid hless
  clear hl hcf hless
  have Hfv := Lib.hid hfv
  clear hfv
  have c0 := hq.cell0
  rw [Hfv.out] at c0
  have c1 := hq.cell1
  have c2 := hq.cell2
  have hqb : qb < w.heap.size := hq.blk.lt
  have fz := hq.frozen
  have f1 := fz 1
  have f2 := fz 2
  clear fz
  have hBw : B ≤ w.heap.size := Nat.le_of_lt (Nat.lt_of_le_of_lt hq.base hqb)
  have Hq := Lib.hid hq
  have Hq0 := Lib.hid hq
  clear hq
  go_enter Try.func24, Try.ntmps24
  go_upto_region 3 with (go_at_call 38; refine (made_yes _ _ _ _ _ c0).mono ?_; rintro e w' ⟨rfl, rfl⟩)
  go_cut [] (fun w1 => ∃ g cap, Hid (PushMid w w1 B qb fv hv l next g cap x))
  case first =>
    go_region_law (first
      | (refine step_append_lies _ rfl (.tmp 13) (.tmp 20) 60 rfl B 69 i0 _ 2 16 Try.underlying60 hi0 hz0 hz1 hz2 rfl (by omega) hv l.length (QP.cells enc l) rfl
          (by exact Fr.owns (S := NoneS) (by exact ((Fr.refl w _).alloc _).drew) Hq.out.own (fun _ _ h => h)) ⟨w.heap.size, 0, none⟩ 1 1 [.int .i64 x, .int .i64 next] rfl rfl (by exact cell_two_new w _ _ _) (by simp [Value.oneCell']) (by omega) (by unfold maxLen; omega) (by omega) (by simp; omega) (w.heap.size + 1) (by simp) ?_; intro g cap w1 hown hg1 hat hlt; have HF := Lib.hid (Fr.grown (S := fun k => hv.ownBlock = some k) (by exact ((Fr.refl w _).alloc _).drew) hg1 (fun k hk _ => hk)); have k1 := (Hq.out.blk.fr HF.out Hq.out.ne).cell 1; have e1 := (Hq.out.blk.fr HF.out Hq.out.ne).frozen 1; simp at k1; have HO := Lib.hid hown; have HA := Lib.hid hat; have HL := Lib.hid hlt; clear hown hg1 hat hlt))
    all_goals go_wp2_with fail
    all_goals go_meet
    all_goals exact ⟨_, _, push_mid Hq.out HF.out HO.out HA.out⟩
  case rest =>
  obtain ⟨g, cap, HM⟩ := hcut
  have k1 := HM.out.2.2.1.cell 1
  have k2 := HM.out.2.2.1.cell 2
  have e1 := HM.out.2.2.1.frozen 1
  have e2 := HM.out.2.2.1.frozen 2
  simp at k1 k2
  have hnx' : (next : Int) ≤ 4194304 := by omega
  have hlen' : (l.length : Int) ≤ 4194304 := by omega
  clear c1 c2 f1 f2
  go_wp2_with fail
  have HQ1 := Lib.hid (push_start Hq.out HM.out)
  have Hg := Lib.hid HM.out.2.2.2.2
  have Hgq := Lib.hid HM.out.1
  generalize hwl : wc.setCell _ _ = wl
  rw [hwl] at HQ1
  clear hwl k1 k2 e1 e2 HM Hq c0 hqb
  go_loopg [5] (l.length + 1) (fun m si wr => ∃ (i : Nat) (h : List (Int × Nat)), si = .int .i64 i ∧ Hid (i < h.length ∧ h.length = l.length + 1 ∧ i < m) ∧
    Hid (Q wr B qb fv (.slice (some ⟨g, 0, none⟩) (l.length + 1) cap) h (next + 1)) ∧ Hid (Fr w wr (QS qb hv)) ∧ Hid (∃ f, i ≤ f ∧ QP.up lt f h i = QP.push lt l (x, next)))
  case atStart => exact ⟨l.length, l ++ [(x, next)], rfl, ⟨by simp, by simp, by omega⟩, HQ1.out.1, HQ1.out.2, ⟨l.length, Nat.le_refl _, rfl⟩⟩
  case round =>
    obtain ⟨i, h, rfl, HI, HQ, HF, HU⟩ := hrel
    clear HQ1 hlen' hnx'
    by_cases hi : 0 < i
    · have hi1 : (0 : Int) < i := by omega
      have hi2 : (1 : Int) ≤ i := by omega
      have hi3 : (i : Int) ≤ 4194304 := by have := HI.out; omega
      obtain ⟨p, hp0⟩ : ∃ p : Nat, p = (i - 1) / 2 := ⟨_, rfl⟩
      have hp : ((i : Int) - 1) / 2 = (p : Int) := by omega
      have Hp := Lib.hid hp0
      have Hpi := Lib.hid (show p < i by omega)
      clear hp0
      have hiL : (i : Int) < (l.length : Int) + 1 := by have := HI.out; omega
      have hpL : (p : Int) < (l.length : Int) + 1 := by have := HI.out; have := Hpi.out; omega
      have HWr := Lib.hid (show Below Bl W0 wr from hW.trans (HF.out.below (Nat.le_trans hBl hBw) (fun k hk hs => by
        rcases hs with hs | hs
        · have := Hq0.out.base; omega
        · have := (Hq0.out.own.lt k hs).1; omega)))
      have hcall : Calls Try.prog 39 #[.pointer (some ⟨qb, 0, none⟩), .int .i64 i, .int .i64 p] wr fun e w' => e = .returned (.bool (QP.aheadAt lt h i p)) ∧ Hid (Gr wr w') :=
        ahead_any lt fv _ B qb Bl W0 wr h (next + 1) HQ.out Hless.out HWr.out (Nat.le_trans (Nat.le_trans hBl hBw) HF.out.size) i p (by omega) (by have := HI.out; omega) (by omega) (by have := HI.out; have := Hpi.out; omega)
      cases hA : QP.aheadAt lt h i p with
      | true =>
        rw [hA] at hcall
        have HA := Lib.hid hA
        have HC := Lib.hid hcall
        clear hA hcall
        go_upto_region 8 with (go_at_call 39; refine HC.out.mono ?_; rintro e w2 ⟨rfl, HG⟩)
        have HQ2 := Lib.hid (HQ.out.gr HG.out)
        have k1 := HQ2.out.cell1
        obtain ⟨x', tx, EX, x0, x1, fx0, fx1⟩ := two HQ2.out HI.out.2.1 HI.out.1
        obtain ⟨y', ty, EY, y0, y1, fy0, fy1⟩ := two HQ2.out HI.out.2.1 (Nat.lt_trans Hpi.out HI.out.1)
        go_region
        go_wp2
        go_roundg i
        case measure => exact HI.out.2.2
        case rel =>
          refine ⟨p, QP.swp h i p, by rw [hp], ⟨by rw [QP.length_swp]; exact Nat.lt_trans Hpi.out HI.out.1, by rw [QP.length_swp]; exact HI.out.2.1, Hpi.out⟩,
            swap_world HQ2.out HI.out.2.1 HI.out.1 (Nat.lt_trans Hpi.out HI.out.1) EX.out EY.out,
            fr_four (HF.out.trans (Gr.mono HG.out (QS qb hv)) (fun _ _ h => h)) (fun hlt => ?_) _ _ _ _ _ _ _ _, ?_⟩
          · rcases Hg.out with hh | hh
            · exact .inr hh
            · omega
          · obtain ⟨f0, hf0, hu⟩ := HU.out
            rw [QP.up_go lt f0 h i ⟨hi, by rw [← Hp.out]; exact HA.out⟩ (by omega), ← Hp.out] at hu
            exact ⟨f0 - 1, by have := Hpi.out; omega, hu⟩
      | false =>
        rw [hA] at hcall
        have HA := Lib.hid hA
        have HC := Lib.hid hcall
        clear hA hcall
        go_wp2_with (go_at_call 39; refine HC.out.mono ?_; rintro e w2 ⟨rfl, HG⟩)
        go_ret
        refine ⟨rfl, .slice (some ⟨g, 0, none⟩) (l.length + 1) cap, ?_, HF.out.trans (Gr.mono HG.out (QS qb hv)) (fun _ _ h => h), ?_⟩
        · obtain ⟨f0, hf0, hu⟩ := HU.out
          rw [← hu, QP.up_stop lt f0 h i (by rw [← Hp.out]; intro h'; rw [HA.out] at h'; simp at h')]
          exact HQ.out.gr HG.out
        · rcases Hg.out with hh | hh
          · exact .inl hh.symm
          · exact .inr ⟨g, rfl, hh⟩
    · have hi1 : decide ((0 : Int) < (i : Int)) = false := decide_eq_false (by omega)
      go_wp2_with fail
      go_ret
      refine ⟨rfl, .slice (some ⟨g, 0, none⟩) (l.length + 1) cap, ?_, HF.out, ?_⟩
      · obtain ⟨f0, hf0, hu⟩ := HU.out
        rw [← hu, QP.up_stop lt f0 h i (by intro h'; exact hi h'.1)]
        exact HQ.out
      · rcases Hg.out with hh | hh
        · exact .inl hh.symm
        · exact .inr ⟨g, rfl, hh⟩
end Qi
end Go.Proofs.Ytngmlelocgnbiaa
