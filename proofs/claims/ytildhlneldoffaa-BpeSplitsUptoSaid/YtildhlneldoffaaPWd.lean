/- The queue of stook/bpe.pair: Pop (printed by gen_struct.py). -/
import Derived.Test.YtildhlneldoffaaPWc
import Derived.Test.YtildhlneldoffaaPQ
import Derived.Deep.CutBlock
import Derived.Deep.WholeRow
set_option linter.unusedVariables false
set_option linter.unusedSimpArgs false
namespace Go.Proofs.Ytildhlneldoffaa
open Go.RowKit

namespace Qp

theorem cells_take (l : List ((Int × Int × Int × Int × Int) × Nat)) (k : Nat) (hk : k ≤ l.length) : (QP.cells enc l).take (k * 6) = QP.cells enc (l.take k) := by
  have h1 : QP.cells enc l = QP.cells enc (l.take k) ++ QP.cells enc (l.drop k) := by unfold QP.cells; rw [← List.flatMap_append, List.take_append_drop]
  have h2 : (QP.cells enc (l.take k)).length = k * 6 := by unfold QP.cells; rw [len_flatMap _ 6 (fun _ => rfl), List.length_take, Nat.min_eq_left hk]
  rw [h1, ← h2, List.take_left]

/-- the slice is cut -/
theorem cut_world {w : World} {B qb : Nat} {fv : Value} {g n cap m : Nat} {h : List ((Int × Int × Int × Int × Int) × Nat)} {next : Nat} (hq : Q w B qb fv (.slice (some ⟨g, 0, none⟩) n cap) h next) (hn : h.length = n) (hm : m ≤ n) :
    Q (w.setCell ⟨qb, 1, none⟩ (.slice (some ⟨g, 0, none⟩) m cap)) B qb fv (.slice (some ⟨g, 0, none⟩) m cap) (h.take m) next := by
  subst hn
  have hne : g ≠ qb := fun e => hq.ne (by rw [e]; rfl)
  have hst : Fr w (w.setCell ⟨qb, 1, none⟩ (.slice (some ⟨g, 0, none⟩) m cap)) (fun k => k = qb) := Fr.setCell (S := fun k => k = qb) (Fr.refl w _) (fun _ => rfl) _
  refine ⟨hq.base, ?_, ?_, fun e => hne (by simpa [Value.ownBlock] using e)⟩
  · have := hq.blk.set_ 1 (.slice (some ⟨g, 0, none⟩) m cap)
    simpa using this
  · have := hst.owns (own_take hq.own hm) (fun k hk e => by simp [Value.ownBlock] at hk; omega)
    rw [cells_take h m hm] at this
    rw [List.length_take, Nat.min_eq_left hm]
    exact this
theorem wpList_store_new' {P : Program} {ops : Array Oper} {rest : List Oper} {o : Oper} {a : Act} {w w0 : World} {Q : Exit → Act → World → Prop} (hgd : o.guard = none) (ty : TypeId) (x y : Operand) (ho : o.op = .store ty x y)
    (cells : Array Value) (t : TypeId) (old : Array Value) (hx : a.eval x = .pointer (some ⟨w0.heap.size, 0, none⟩)) (hy : a.eval y = .agg cells)
    (hw : w = w0.alloc (.cells old t)) (hi : (P.info? ty).map (·.size) = some cells.size)
    (hold : old.size = cells.size) (h1 : cells.all (·.oneCell') = true)
    (h : wpList P ops Q rest (a.put o.dst undef) (w0.alloc (.cells cells t))) : wpList P ops Q (o :: rest) a w := by
  subst hw
  refine wpList_store_row hgd ty x y ho w0.heap.size cells hx hy t old (heap_alloc_new _ _) hi hold h1 ?_
  rw [World.setRow_alloc_new]
  exact h
theorem frow {w : World} (g : Nat) (cs : Array Value) : Fr w (w.setRow g cs) (fun k => k = g) :=
  ⟨rfl, rfl, rfl, by simp [World.setRow], fun k hk hn => by unfold World.setRow; simp [Array.getElem?_modify, Ne.symm hn]⟩

set_option maxHeartbeats 6400000 in
set_option maxRecDepth 100000 in
theorem pop_some (lt : (Int × Int × Int × Int × Int) → (Int × Int × Int × Int × Int) → Bool) (fv hv : Value) (B qb Bl : Nat) (W0 w0 : World) (l : List ((Int × Int × Int × Int × Int) × Nat)) (next : Nat) (hq0 : Q w0 B qb fv hv l next)
    (hless : LessGr fv lt Bl W0) (hW0 : Below Bl W0 w0) (hBl : Bl ≤ B) (n : Nat) (hn : l.length = n + 1) (hlen : l.length ≤ 4194304) (za zb zc zd ze : Int) (tz : Nat) (hz : l[0]? = some ((za, zb, zc, zd, ze), tz)) :
    Calls Try.prog 39 #[.pointer (some ⟨qb, 0, none⟩)] w0 fun e w' => e = .returned (.tuple #[.agg #[.int .u32 za, .int .i64 zb, .int .i64 zc, .int .i64 zd, .int .i64 ze], .bool true]) ∧
      ∃ hv', Q w' B qb fv hv' (QP.pop lt l) next ∧ Fr w0 w' (QS qb hv) ∧ hv'.ownBlock = hv.ownBlock := by
  obtain ⟨f, c, hfv, hcf, hl⟩ := hless
  have hless : LessGr fv lt Bl W0 := ⟨f, c, hfv, hcf, hl⟩
  have Hless := Lib.hid hless
  have HGa := Lib.hid ((Fr.refl w0 NoneS).alloc (.cells #[.int .u32 0, .int .i64 0, .int .i64 0, .int .i64 0, .int .i64 0] 65))
  have HBa := Lib.hid (Blk.new w0 65 #[.int .u32 0, .int .i64 0, .int .i64 0, .int .i64 0, .int .i64 0])
  have Hpeek := Lib.hid (peek_some fv hv B qb _ l next (hq0.gr HGa.out) _ _ _ hfv (za, zb, zc, zd, ze) tz hz)
  have Hq0 := Lib.hid hq0
  have HW0 := Lib.hid hW0
  have HBw0 := Lib.hid (show B ≤ w0.heap.size from Nat.le_of_lt (Nat.lt_of_le_of_lt hq0.base hq0.blk.lt))
  clear hl hcf hless hfv hq0 hW0
  go_enter Try.func39, Try.ntmps39
  go_upto_region 1 with (fail)
  change Code.wp _ _ _ _ (w0.alloc (.cells #[.int .u32 0, .int .i64 0, .int .i64 0, .int .i64 0, .int .i64 0] 65))
  have Hp2 := Lib.hid (Nat.le_refl w0.heap.size)
  generalize hp2 : w0.heap.size = p2 at HBa ⊢
  have Hp2e := Lib.hid hp2
  clear hp2
  generalize w0.alloc (.cells #[.int .u32 0, .int .i64 0, .int .i64 0, .int .i64 0, .int .i64 0] 65) = wa at HBa HGa Hpeek ⊢
  go_upto_region 4 with (first
    | (go_at_call 50; refine Hpeek.out.mono ?_; rintro e wb ⟨rfl, hgb⟩; have HGb := Lib.hid hgb; clear hgb)
    | refine wpList_store_new' (w0 := wb) rfl _ _ _ rfl #[.int .u32 za, .int .i64 zb, .int .i64 zc, .int .i64 zd, .int .i64 ze] _ _ rfl rfl rfl (by kernel_rfl) (by kernel_rfl) (by kernel_rfl) ?_)
  have HGp := Lib.hid ((HGa.out.trans HGb.out (fun _ _ h => h)).alloc (.cells #[.int .u32 za, .int .i64 zb, .int .i64 zc, .int .i64 zd, .int .i64 ze] 65))
  have HP2 := Lib.hid ((HBa.out.fr HGb.out (fun h => h)).alloc (.cells #[.int .u32 za, .int .i64 zb, .int .i64 zc, .int .i64 zd, .int .i64 ze] 65))
  have HP4 := Lib.hid (Blk.new wb 65 #[.int .u32 za, .int .i64 zb, .int .i64 zc, .int .i64 zd, .int .i64 ze])
  have Hp4 := Lib.hid (show w0.heap.size ≤ wb.heap.size from (HGa.out.trans HGb.out (fun _ _ h => h)).size)
  generalize wb.heap.size = p4 at HP4 Hp4 ⊢
  generalize hw : wb.alloc (.cells #[.int .u32 za, .int .i64 zb, .int .i64 zc, .int .i64 zd, .int .i64 ze] 65) = w at HGp HP2 HP4 ⊢
  clear hw HGb HGa HBa
  have hq := Hq0.out.gr HGp.out
  have hW := below_of_gr HW0.out HGp.out (Nat.le_trans hBl HBw0.out)
  obtain ⟨g, cap, rfl, hBg, hgw, hgq, hlc, hcm⟩ := hq.form (by omega)
  have hg0 : g < w0.heap.size := by have := (Hq0.out.own.lt g rfl).2; exact this
  have hq00 : qb < w0.heap.size := Hq0.out.blk.lt
  have Hne := Lib.hid (show p2 ≠ qb ∧ p2 ≠ g ∧ p4 ≠ qb ∧ p4 ≠ g ∧ w0.heap.size ≤ p2 from by have h1 := Hp2e.out; have h2 := Hp4.out; omega)
  rw [hn] at hq hlc
  have k1 := hq.cell1
  have hqb : qb < w.heap.size := hq.blk.lt
  have f1 := hq.frozen 1
  have hBw : B ≤ w.heap.size := Nat.le_of_lt (Nat.lt_of_le_of_lt hq.base hqb)
  obtain ⟨x0a, x0b, x0c, x0d, x0e, t0, E0, a0, a1, a2, a3, a4, a5, b0, b1, b2, b3, b4, b5⟩ := two hq hn (i := 0) (by omega)
  obtain ⟨xan, xbn, xcn, xdn, xen, tn, En, c0, c1, c2, c3, c4, c5, d0, d1, d2, d3, d4, d5⟩ := two hq hn (i := n) (by omega)
  simp only [Nat.zero_mul, Nat.zero_add] at a0 a1 a2 a3 a4 a5 b0 b1 b2 b3 b4 b5
  have hn' : (n : Int) ≤ 4194304 := by omega
  have hnc : (n : Int) ≤ (cap : Int) := by omega
  have Hn := Lib.hid hn
  have Hz := Lib.hid hz
  have Hq := Lib.hid hq
  have HW := Lib.hid hW
  clear hn hq hcm hW hz hg0 hq00
  go_upto_region 5 with (fail)
  go_region
  go_upto_region 6 with (fail)
  have H2 := Lib.hid (And.intro ((put2 Hq.out Hn.out (i := 0) (by have := Hn.out; omega) xan xbn xcn xdn xen tn).gr ((Fr.refl _ _).drew)) (fr_two (Fr.refl w (QS qb (.slice (some ⟨g, 0, none⟩) (n + 1) cap))) (fun _ => Or.inr rfl) (0 * 6) (0 * 6 + 1) (0 * 6 + 2) (0 * 6 + 3) (0 * 6 + 4) (0 * 6 + 5) (.int .u32 xan) (.int .i64 xbn) (.int .i64 xcn) (.int .i64 xdn) (.int .i64 xen) (.int .i64 tn)))
  simp only [Nat.zero_mul, Nat.zero_add] at H2
  generalize World.drew _ = w2 at H2 ⊢
  clear a0 a1 a2 a3 a4 a5 b0 b1 b2 b3 b4 b5 c0 c1 c2 c3 c4 c5 d0 d1 d2 d3 d4 d5 k1 f1
  have k1 := H2.out.1.cell1
  obtain ⟨x0a', x0b', x0c', x0d', x0e', t0', E0', a0, a1, a2, a3, a4, a5, b0, b1, b2, b3, b4, b5⟩ := two H2.out.1 (by rw [List.length_set]; exact Hn.out) (i := n) (by rw [List.length_set]; have := Hn.out; omega)
  go_upto_region 7 with (fail)
  have H3 := Lib.hid (put2 H2.out.1 (by rw [List.length_set]; exact Hn.out) (i := n) (by rw [List.length_set]; have := Hn.out; omega) 0 0 0 0 0 0)
  have F3 := Lib.hid (fr_two H2.out.2 (fun _ => Or.inr rfl) (n * 6) (n * 6 + 1) (n * 6 + 2) (n * 6 + 3) (n * 6 + 4) (n * 6 + 5) (.int .u32 0) (.int .i64 0) (.int .i64 0) (.int .i64 0) (.int .i64 0) (.int .i64 0))
  generalize hw3 : World.setCell _ _ _ = w3 at H3 ⊢
  have HF3 : Hid (Fr w w3 (QS qb (.slice (some ⟨g, 0, none⟩) (n + 1) cap))) := by
    rw [← hw3]; refine Lib.hid ?_; repeat (refine Fr.setCell ?_ (fun _ => Or.inr rfl) _)
    exact H2.out.2
  clear hw3 F3 a0 a1 a2 a3 a4 a5 b0 b1 b2 b3 b4 b5 k1 H2 E0'
  have k1 := H3.out.cell1
  have f1 := H3.out.frozen 1
  go_upto_region 8 with (fail)
  have H4 := Lib.hid (cut_world H3.out (by rw [List.length_set, List.length_set]; exact Hn.out) (Nat.le_succ n))
  have HF4 := Lib.hid (HF3.out.setCell (p := ⟨qb, 1, none⟩) (fun _ => Or.inl rfl) (.slice (some ⟨g, 0, none⟩) n cap))
  generalize World.setCell _ _ _ = w4 at H4 HF4 ⊢
  clear H3 HF3 k1 f1
  go_wp2_with fail
  go_loopg [7] (n + 1) (fun m s7 wr => ∃ (i : Nat) (h : List ((Int × Int × Int × Int × Int) × Nat)), s7 = .int .i64 i ∧ Hid (h.length = n ∧ (i < n ∨ i = 0) ∧ n - i < m) ∧
    Hid (Q wr B qb fv (.slice (some ⟨g, 0, none⟩) n cap) h next) ∧ Hid (Fr w wr (QS qb (.slice (some ⟨g, 0, none⟩) (n + 1) cap))) ∧ Hid (∃ f, n - i ≤ f ∧ QP.down lt f h i = QP.pop lt l))
  case atStart =>
    refine ⟨0, _, rfl, ⟨?_, .inr rfl, by omega⟩, H4.out, HF4.out, l.length, ?_, ?_⟩
    · have := Hn.out; simp; omega
    · have := Hn.out; omega
    · have hl := Hn.out
      have e : l.getLast? = some ((xan, xbn, xcn, xdn, xen), tn) := by rw [List.getLast?_eq_getElem?, hl]; exact En.out
      have e2 : (l.set 0 ((xan, xbn, xcn, xdn, xen), tn)).dropLast = (((l.set 0 ((xan, xbn, xcn, xdn, xen), tn)).set n ((0, 0, 0, 0, 0), 0)).take n) := by
        rw [List.dropLast_eq_take, List.length_set, hl, Nat.add_sub_cancel, List.take_set_of_le (Nat.le_refl n)]
      unfold QP.pop; rw [e]; simp only []; rw [e2]
  case round =>
    obtain ⟨i, h, rfl, HI, HQ, HF, HD⟩ := hrel
    have hin : (i : Int) ≤ 4194304 := by have := HI.out; omega
    have hi0 : (0 : Int) ≤ i := by omega
    go_upto_block 2 with (fail)
    go_cut [8] (fun s8 w' => s8 = .int .i64 (QP.least2 lt h i : Nat) ∧ Hid (Gr wr w'))
    case first =>
      obtain ⟨wi, hwi⟩ : ∃ wi : World, wi = wr := ⟨_, rfl⟩
      rw [← hwi]
      have Hwi := Lib.hid hwi
      clear hwi
      go_wp2_with fail
      go_loopg [8, 9] 4 (fun m s8 s9 wx => ∃ (t k lst : Nat), s9 = .int .i64 k ∧ s8 = .int .i64 lst ∧ Hid (k = 2 * i + 1 + t ∧ 3 < m + t ∧ t ≤ 2) ∧
        Hid ((t = 0 ∧ lst = i) ∨ (t = 1 ∧ 2 * i + 1 < n ∧ lst = QP.least1 lt h i) ∨ (t = 2 ∧ 2 * i + 2 < n ∧ lst = QP.least2 lt h i)) ∧ Hid (Gr wi wx))
      case atStart => exact ⟨0, 2 * i + 1, i, by go_num, rfl, ⟨by omega, by omega, by omega⟩, .inl ⟨rfl, rfl⟩, Fr.refl _ _⟩
      case round =>
        obtain ⟨t, k, lst, rfl, rfl, HT, HL, HG⟩ := hrel
        by_cases hk : k ≤ 2 * i + 2
        · by_cases hkn : k < n
          · have hk1 : (k : Int) ≤ 2 * (i : Int) + 2 := by omega
            have hk2 : (k : Int) < n := by omega
            have hin' : (k : Int) ≤ 4194304 := by omega
            have Hlst := Lib.hid (show lst < h.length from by
              have hl := HI.out.1
              have ht := HT.out
              rcases HL.out with ⟨h1, h2⟩ | ⟨h1, h2, h3⟩ | ⟨h1, h2, h3⟩
              · omega
              · rw [h3]; exact QP.least1_lt lt h i (by omega)
              · omega)
            have HWr := Lib.hid (show Below Bl W0 wr from below_of_gr (HW.out.trans ((Hwi.out ▸ HF.out : Fr w wi _).below (Nat.le_trans hBl hBw) (fun k hk hs => by
              rcases hs with hs | hs
              · have := Hq.out.base; omega
              · have : g = k := by simpa [Value.ownBlock] using hs
                omega))) HG.out (Nat.le_trans (Nat.le_trans hBl hBw) (Hwi.out ▸ HF.out : Fr w wi _).size))
            have hcall : Calls Try.prog 51 #[.pointer (some ⟨qb, 0, none⟩), .int .i64 k, .int .i64 lst] wr fun e w' => e = .returned (.bool (QP.aheadAt lt h k lst)) ∧ Hid (Gr wr w') :=
              ahead_any lt fv _ B qb Bl W0 wr h next ((Hwi.out ▸ HQ.out : Q wi _ _ _ _ _ _).gr HG.out) Hless.out HWr.out (Nat.le_trans (Nat.le_trans hBl hBw) (Nat.le_trans (Hwi.out ▸ HF.out : Fr w wi _).size HG.out.size)) k lst (by omega) (by have := HI.out; omega) (by omega) (by have := Hlst.out; omega)
            cases hA : QP.aheadAt lt h k lst with
            | true =>
              rw [hA] at hcall
              have HA := Lib.hid hA
              have HC := Lib.hid hcall
              clear hA hcall
              go_wp2_with (go_at_call 51; refine HC.out.mono ?_; rintro e w2 ⟨rfl, HG2⟩)
              go_roundg (gk - 1)
              case measure => have := HT.out; omega
              case rel =>
                refine ⟨t + 1, k + 1, k, by go_num, rfl, ?_, ?_, HG.out.trans HG2.out (fun _ _ h => h)⟩
                · have := HT.out; exact ⟨by omega, by omega, by omega⟩
                · have ht := HT.out
                  have hl := HI.out.1
                  rcases HL.out with ⟨h1, h2⟩ | ⟨h1, h2, h3⟩ | ⟨h1, h2, h3⟩
                  · refine .inr (.inl ⟨by omega, by omega, ?_⟩)
                    have e : k = 2 * i + 1 := by omega
                    have ha := HA.out
                    rw [h2, e] at ha
                    unfold QP.least1; rw [if_pos ⟨by omega, ha⟩, e]
                  · refine .inr (.inr ⟨by omega, by omega, ?_⟩)
                    have e : k = 2 * i + 2 := by omega
                    have ha := HA.out
                    rw [h3, e] at ha
                    unfold QP.least2; rw [if_pos ⟨by omega, ha⟩, e]
                  · omega
            | false =>
              rw [hA] at hcall
              have HA := Lib.hid hA
              have HC := Lib.hid hcall
              clear hA hcall
              go_wp2_with (go_at_call 51; refine HC.out.mono ?_; rintro e w2 ⟨rfl, HG2⟩)
              go_roundg (gk - 1)
              case measure => have := HT.out; omega
              case rel =>
                refine ⟨t + 1, k + 1, lst, by go_num, rfl, ?_, ?_, HG.out.trans HG2.out (fun _ _ h => h)⟩
                · have := HT.out; exact ⟨by omega, by omega, by omega⟩
                · have ht := HT.out
                  have hl := HI.out.1
                  rcases HL.out with ⟨h1, h2⟩ | ⟨h1, h2, h3⟩ | ⟨h1, h2, h3⟩
                  · refine .inr (.inl ⟨by omega, by omega, ?_⟩)
                    have e : k = 2 * i + 1 := by omega
                    have ha := HA.out
                    rw [h2, e] at ha
                    unfold QP.least1; rw [if_neg (by intro h'; rw [ha] at h'; simp at h'), h2]
                  · refine .inr (.inr ⟨by omega, by omega, ?_⟩)
                    have e : k = 2 * i + 2 := by omega
                    have ha := HA.out
                    rw [h3, e] at ha
                    unfold QP.least2; rw [if_neg (by intro h'; rw [ha] at h'; simp at h'), h3]
                  · omega
          · have hk1 : (k : Int) ≤ 2 * (i : Int) + 2 := by omega
            have hk2 : decide ((k : Int) < n) = false := decide_eq_false (by omega)
            go_wp2_with fail
            go_meet
            have ht := HT.out
            have hl := HI.out.1
            refine ⟨?_, Hwi.out ▸ HG.out⟩
            rcases HL.out with ⟨h1, h2⟩ | ⟨h1, h2, h3⟩ | ⟨h1, h2, h3⟩
            · have e : QP.least2 lt h i = i := by
                unfold QP.least2 QP.least1
                rw [if_neg (by intro h'; omega), if_neg (by intro h'; omega)]
              rw [e, h2]
            · have e : QP.least2 lt h i = QP.least1 lt h i := by
                unfold QP.least2
                rw [if_neg (by intro h'; omega)]
              rw [e, h3]
            · rw [h3]
        · have hk1 : decide ((k : Int) ≤ 2 * (i : Int) + 2) = false := decide_eq_false (by omega)
          go_wp2_with fail
          go_meet
          have ht := HT.out
          refine ⟨?_, Hwi.out ▸ HG.out⟩
          rcases HL.out with ⟨h1, h2⟩ | ⟨h1, h2, h3⟩ | ⟨h1, h2, h3⟩
          · omega
          · omega
          · rw [h3]
    case rest =>
      obtain ⟨rfl, HG⟩ := hcut
      have HQ2 := Lib.hid (HQ.out.gr HG.out)
      have HF2 := Lib.hid (HF.out.trans (Gr.mono HG.out (QS qb (.slice (some ⟨g, 0, none⟩) (n + 1) cap))) (fun _ _ h => h))
      by_cases hst : QP.least2 lt h i = i
      · have Hst := Lib.hid hst
        have hst' : ((QP.least2 lt h i : Nat) : Int) = (i : Int) := by omega
        clear hst
        have HP2' := Lib.hid (HP2.out.fr HF2.out (fun hs => by rcases hs with hs | hs; exact Hne.out.1 hs; exact Hne.out.2.1 (by simpa [Value.ownBlock] using hs.symm)))
        have HP4' := Lib.hid (HP4.out.fr HF2.out (fun hs => by rcases hs with hs | hs; exact Hne.out.2.2.1 hs; exact Hne.out.2.2.2.1 (by simpa [Value.ownBlock] using hs.symm)))
        go_wp2_with (first
          | refine wpList_load_row rfl _ _ rfl p4 rfl 65 #[.int .u32 za, .int .i64 zb, .int .i64 zc, .int .i64 zd, .int .i64 ze] (0, 0) _ HP4'.out Try.underlying65 rfl (by kernel_rfl) ?_
          | refine wpList_store_row rfl _ _ _ rfl p2 #[.int .u32 za, .int .i64 zb, .int .i64 zc, .int .i64 zd, .int .i64 ze] rfl rfl 65 _ HP2'.out (by kernel_rfl) (by kernel_rfl) (by kernel_rfl) ?_)
        refine bodyPost_ret (results_cell_tmp Try.results39 _ _ p2 65 #[.int .u32 za, .int .i64 zb, .int .i64 zc, .int .i64 zd, .int .i64 ze] (0, 0) _ (.bool true) rfl rfl (setRow_heap _ p2 _ _ _ (0, 0) HP2'.out) Try.underlying65 rfl (by kernel_rfl)) rfl ?_
        rw [show l.length = n + 1 from Hn.out]
        refine ⟨rfl, .slice (some ⟨g, 0, none⟩) n cap, ?_, ?_, rfl⟩
        · obtain ⟨f0, hf0, hu⟩ := HD.out
          rw [← hu, QP.down_stop lt f0 h i Hst.out]
          exact HQ2.out.fr (frow p2 _) (fun k hk hs => by subst hs; rcases hk with hk | hk; exact Hne.out.1 hk; exact Hne.out.2.1 (by simpa [Value.ownBlock] using hk.symm))
        · exact ((Gr.mono HGp.out _).trans HF2.out (fun _ _ h => h)).trans (frow p2 _) (fun i hi hs => by subst hs; have := Hne.out.2.2.2.2; omega)
      · obtain ⟨p, hp⟩ : ∃ p, p = QP.least2 lt h i := ⟨_, rfl⟩
        have hil : i < h.length := by
          have hl := HI.out.1
          rcases Nat.lt_or_ge i h.length with h' | h'
          · exact h'
          · exfalso; apply hst; unfold QP.least2 QP.least1; rw [if_neg (by intro h''; omega), if_neg (by intro h''; omega)]
        rw [← hp] at hst ⊢
        have hpl : p < h.length := by rw [hp]; exact QP.least2_lt lt h i hil
        have hpi : i < p := by have := QP.least2_ge lt h i; omega
        have hiL : (i : Int) < (n : Int) := by have := HI.out.1; omega
        have hpL : (p : Int) < (n : Int) := by have := HI.out.1; omega
        have Hp := Lib.hid hp
        have hst' : ((p : Nat) : Int) ≠ (i : Int) := by omega
        have hst2 : ((p : Int) == (i : Int)) = false := beq_eq_false_iff_ne.2 hst'
        have Hst := Lib.hid hst
        have Hil := Lib.hid hil
        have Hpl := Lib.hid hpl
        have Hpi := Lib.hid hpi
        clear hst hst' hp hil hpl
        have k1 := HQ2.out.cell1
        obtain ⟨xa', xb', xc', xd', xe', tx', EX, q0, q1, q2, q3, q4, q5, fq0, fq1, fq2, fq3, fq4, fq5⟩ := two HQ2.out HI.out.1 Hil.out
        obtain ⟨ya', yb', yc', yd', ye', ty', EY, r0, r1, r2, r3, r4, r5, fr0, fr1, fr2, fr3, fr4, fr5⟩ := two HQ2.out HI.out.1 Hpl.out
        go_upto_region 16 with (fail)
        go_region
        go_wp2
        go_roundg (gk - 1)
        case measure => have := HI.out; have := Hil.out; omega
        case rel =>
          refine ⟨p, QP.swp h i p, rfl, ⟨by rw [QP.length_swp]; exact HI.out.1, by have := HI.out.1; have := Hpl.out; omega, by have := HI.out; have := Hpi.out; have := Hpl.out; omega⟩,
            swap_world HQ2.out HI.out.1 Hil.out Hpl.out EX.out EY.out,
            fr_four HF2.out (fun _ => Or.inr rfl) _ _ _ _ _ _ _ _ _ _ _ _ _ _ _ _ _ _ _ _ _ _ _ _, ?_⟩
          obtain ⟨f0, hf0, hu⟩ := HD.out
          have hl := HI.out.1
          have h1 := Hil.out
          have h2 := Hpi.out
          rw [QP.down_go lt f0 h i (by rw [← Hp.out]; exact Hst.out) (by omega), ← Hp.out] at hu
          exact ⟨f0 - 1, by omega, hu⟩

set_option maxRecDepth 100000 in
set_option maxHeartbeats 1600000 in
theorem pop_none (fv hv : Value) (B qb : Nat) (w0 : World) (next : Nat) (hq0 : Q w0 B qb fv hv [] next) (f : Fn) (x y : Array Value) (hfv : fv = .func f x y) :
    Calls Try.prog 39 #[.pointer (some ⟨qb, 0, none⟩)] w0 fun e w' => e = .returned (.tuple #[.agg #[.int .u32 0, .int .i64 0, .int .i64 0, .int .i64 0, .int .i64 0], .bool false]) ∧ Gr w0 w' := by
  have HGa := Lib.hid ((Fr.refl w0 NoneS).alloc (.cells #[.int .u32 0, .int .i64 0, .int .i64 0, .int .i64 0, .int .i64 0] 65))
  have HBa := Lib.hid (Blk.new w0 65 #[.int .u32 0, .int .i64 0, .int .i64 0, .int .i64 0, .int .i64 0])
  have Hpeek := Lib.hid (peek_none fv hv B qb _ next (hq0.gr HGa.out) _ _ _ hfv)
  clear hfv hq0
  go_enter Try.func39, Try.ntmps39
  go_upto_region 1 with (fail)
  change Code.wp _ _ _ _ (w0.alloc (.cells #[.int .u32 0, .int .i64 0, .int .i64 0, .int .i64 0, .int .i64 0] 65))
  have Hp2 := Lib.hid (show ∀ p2, w0.heap.size = p2 → w0.heap.size ≤ p2 from fun p2 h => by omega)
  generalize hp2 : w0.heap.size = p2 at HBa ⊢
  have Hp2' := Lib.hid (Hp2.out p2 hp2)
  clear hp2
  generalize w0.alloc (.cells #[.int .u32 0, .int .i64 0, .int .i64 0, .int .i64 0, .int .i64 0] 65) = wa at HBa HGa Hpeek ⊢
  go_upto_region 2 with (first
    | (go_at_call 50; refine Hpeek.out.mono ?_; rintro e wb ⟨rfl, hgb⟩; have HGb := Lib.hid hgb; clear hgb)
    | refine wpList_store_new' (w0 := wb) rfl _ _ _ rfl #[.int .u32 0, .int .i64 0, .int .i64 0, .int .i64 0, .int .i64 0] _ _ rfl rfl rfl (by kernel_rfl) (by kernel_rfl) (by kernel_rfl) ?_)
  have HGp := Lib.hid ((HGa.out.trans HGb.out (fun _ _ h => h)).alloc (.cells #[.int .u32 0, .int .i64 0, .int .i64 0, .int .i64 0, .int .i64 0] 65))
  have HP2 := Lib.hid ((HBa.out.fr HGb.out (fun h => h)).alloc (.cells #[.int .u32 0, .int .i64 0, .int .i64 0, .int .i64 0, .int .i64 0] 65))
  have HP4 := Lib.hid (Blk.new wb 65 #[.int .u32 0, .int .i64 0, .int .i64 0, .int .i64 0, .int .i64 0])
  generalize wb.heap.size = p4 at HP4 ⊢
  generalize wb.alloc (.cells #[.int .u32 0, .int .i64 0, .int .i64 0, .int .i64 0, .int .i64 0] 65) = w at HGp HP2 HP4 ⊢
  clear HGb HGa HBa
  go_wp2_with (first
    | refine wpList_load_row rfl _ _ rfl p4 rfl 65 #[.int .u32 0, .int .i64 0, .int .i64 0, .int .i64 0, .int .i64 0] (0, 0) _ HP4.out Try.underlying65 rfl (by kernel_rfl) ?_
    | refine wpList_store_row rfl _ _ _ rfl p2 #[.int .u32 0, .int .i64 0, .int .i64 0, .int .i64 0, .int .i64 0] rfl rfl 65 _ HP2.out (by kernel_rfl) (by kernel_rfl) (by kernel_rfl) ?_)
  refine bodyPost_ret (results_cell_tmp Try.results39 _ _ p2 65 #[.int .u32 0, .int .i64 0, .int .i64 0, .int .i64 0, .int .i64 0] (0, 0) _ (.bool false) rfl rfl (setRow_heap _ p2 _ _ _ (0, 0) HP2.out) Try.underlying65 rfl (by kernel_rfl)) rfl ?_
  exact ⟨rfl, HGp.out.trans (frow p2 _) (fun i hi hs => by subst hs; have := Hp2'.out; omega)⟩
end Qp
end Go.Proofs.Ytildhlneldoffaa
