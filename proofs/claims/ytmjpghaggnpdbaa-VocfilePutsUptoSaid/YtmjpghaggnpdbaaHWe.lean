/- sha: take. -/
import Derived.Test.YtmjpghaggnpdbaaHWd
import Derived.Deep.MidRow
import Derived.Deep.RegionLaw
set_option linter.unusedVariables false
set_option linter.unusedSimpArgs false
namespace Go.Proofs.Ytmjpghaggnpdbaa
open Go.RowKit
/-- as SL.fr; of an empty slice nothing is asked -/
theorem SL.fr' {α : Type} {enc : α → List Value} {w w' : World} {v : Value} {xs : List α} {S : Nat → Prop} (h : SL enc w v xs) (hf : Fr w w' S) (hn : 0 < xs.length → ∀ k, v.ownBlock = some k → ¬ S k) : SL enc w' v xs := by
  obtain ⟨A, cap, rfl, hc, hr⟩ := h
  refine ⟨A, cap, rfl, hc, fun hl => ?_⟩
  obtain ⟨b, off, rfl, hb, hcell⟩ := hr hl
  exact ⟨b, off, rfl, Nat.lt_of_lt_of_le hb hf.size, fun i u hu => (hf.cell (p := ⟨b, off + i, none⟩) hb (hn hl b rfl)).trans (hcell i u hu)⟩
theorem SL.lt {α : Type} {enc : α → List Value} {w : World} {v : Value} {xs : List α} (h : SL enc w v xs) (h0 : 0 < xs.length) : ∀ k, v.ownBlock = some k → k < w.heap.size := by
  obtain ⟨A, cap, rfl, hc, hr⟩ := h
  obtain ⟨b, off, rfl, hb, _⟩ := hr h0
  intro k hk
  have : b = k := by simpa [Value.ownBlock] using hk
  omega
namespace Sha

/-- 64 bytes of a slice -/
theorem sl_range {w : World} {A : Option Addr} {n cap : Nat} {l : List B} (h : SL eb w (.slice A n cap) l) (k : Nat) (h0 : 0 < k) (hk : k ≤ l.length) : ∃ b off, A = some ⟨b, off, none⟩ ∧ b < w.heap.size ∧ w.rangeAt b off ((l.take k).map C) := by
  obtain ⟨A', cap', he, hc, hr⟩ := h
  obtain ⟨rfl, rfl, rfl⟩ : A = A' ∧ n = l.length ∧ cap = cap' := by simpa using he
  obtain ⟨b, off, rfl, hb, hcell⟩ := hr (by omega)
  refine ⟨b, off, rfl, hb, fun j v hj => hcell j v ?_⟩
  rw [bytes_eq]
  rw [List.map_take, List.getElem?_take] at hj
  split at hj
  · exact hj
  · cases hj

theorem list8 {α : Type} {l : List α} (h : l.length = 8) : ∃ a b c d e f g i, l = [a, b, c, d, e, f, g, i] := by
  match l, h with
  | [a, b, c, d, e, f, g, i], _ => exact ⟨a, b, c, d, e, f, g, i, rfl⟩
theorem arr8 {l : List U} (h : l.length = 8) : arr l = #[V (gt l 0), V (gt l 1), V (gt l 2), V (gt l 3), V (gt l 4), V (gt l 5), V (gt l 6), V (gt l 7)] := by
  obtain ⟨a, b, c, d, e, f, g, i, rfl⟩ := list8 h
  rfl
theorem hcs8 {st q : List U} (lv : Value) (n : Nat) (h : st.length = 8) (hq : q.length = 8) : (((((((((hcs st lv n).setIfInBounds 1 (V (gt q 0))).setIfInBounds 2 (V (gt q 1))).setIfInBounds 3 (V (gt q 2))).setIfInBounds 4 (V (gt q 3))).setIfInBounds 5 (V (gt q 4))).setIfInBounds 6 (V (gt q 5))).setIfInBounds 7 (V (gt q 6))).setIfInBounds 8 (V (gt q 7))) = hcs q lv n := by
  obtain ⟨a, b, c, d, e, f, g, i, rfl⟩ := list8 h
  obtain ⟨a', b', c', d', e', f', g', i', rfl⟩ := list8 hq
  simp [hcs, gt]
theorem hcs_st {w : World} {p n : Nat} {st q : List U} {lv : Value} (H : Blk w p TH (hcs st lv n)) (h : st.length = 8) (hq : q.length = 8) : Blk ((((((((w.setCell ⟨p, 1, none⟩ (V (gt q 0))).setCell ⟨p, 2, none⟩ (V (gt q 1))).setCell ⟨p, 3, none⟩ (V (gt q 2))).setCell ⟨p, 4, none⟩ (V (gt q 3))).setCell ⟨p, 5, none⟩ (V (gt q 4))).setCell ⟨p, 6, none⟩ (V (gt q 5))).setCell ⟨p, 7, none⟩ (V (gt q 6))).setCell ⟨p, 8, none⟩ (V (gt q 7))) p TH (hcs q lv n) := by
  have := (((((((H.set_ 1 (V (gt q 0))).set_ 2 (V (gt q 1))).set_ 3 (V (gt q 2))).set_ 4 (V (gt q 3))).set_ 5 (V (gt q 4))).set_ 6 (V (gt q 5))).set_ 7 (V (gt q 6))).set_ 8 (V (gt q 7))
  rw [hcs8 lv n h hq] at this
  exact this
theorem fr_st {w w' : World} {p : Nat} {q : List U} {S : Nat → Prop} (H : Fr w' w S) (hp : S p) : Fr w' ((((((((w.setCell ⟨p, 1, none⟩ (V (gt q 0))).setCell ⟨p, 2, none⟩ (V (gt q 1))).setCell ⟨p, 3, none⟩ (V (gt q 2))).setCell ⟨p, 4, none⟩ (V (gt q 3))).setCell ⟨p, 5, none⟩ (V (gt q 4))).setCell ⟨p, 6, none⟩ (V (gt q 5))).setCell ⟨p, 7, none⟩ (V (gt q 6))).setCell ⟨p, 8, none⟩ (V (gt q 7))) S :=
  (((((((H.setCell (p := ⟨p, 1, none⟩) (fun _ => hp) (V (gt q 0))).setCell (p := ⟨p, 2, none⟩) (fun _ => hp) (V (gt q 1))).setCell (p := ⟨p, 3, none⟩) (fun _ => hp) (V (gt q 2))).setCell (p := ⟨p, 4, none⟩) (fun _ => hp) (V (gt q 3))).setCell (p := ⟨p, 5, none⟩) (fun _ => hp) (V (gt q 4))).setCell (p := ⟨p, 6, none⟩) (fun _ => hp) (V (gt q 5))).setCell (p := ⟨p, 7, none⟩) (fun _ => hp) (V (gt q 6))).setCell (p := ⟨p, 8, none⟩) (fun _ => hp) (V (gt q 7))
theorem hcs_cell {w : World} {p n : Nat} {st : List U} {lv : Value} (H : Blk w p TH (hcs st lv n)) (h : st.length = 8) (k : Nat) (hk : k < 8) : w.cell? ⟨p, k + 1, none⟩ = some (V (gt st k)) := by
  rw [H.cell]
  obtain ⟨a, b, c, d, e, f, g, i, rfl⟩ := list8 h
  match k, hk with
  | 0, _ | 1, _ | 2, _ | 3, _ | 4, _ | 5, _ | 6, _ | 7, _ => rfl

/-- what a call of take may change -/
def TS (p : Nat) (lv : Value) : Nat → Prop := fun k => k = p ∨ lv.ownBlock = some k


open Classical in
noncomputable def row64 (w : World) (b o : Nat) : Option (Array Value) :=
  if h : ∃ cs : List Value, cs.length = 64 ∧ w.rangeAt b o cs then some h.choose.toArray else none
open Classical in
theorem row64_of {w : World} {b o : Nat} {cs : List Value} (hl : cs.length = 64) (h : w.rangeAt b o cs) : row64 w b o = some cs.toArray := by
  have hx : ∃ cs : List Value, cs.length = 64 ∧ w.rangeAt b o cs := ⟨cs, hl, h⟩
  unfold row64
  rw [dif_pos hx]
  have h1 := hx.choose_spec
  congr 2
  apply List.ext_getElem (by rw [h1.1, hl])
  intro i hi hi'
  have a := h1.2 i _ (List.getElem?_eq_getElem hi)
  have b := h i _ (List.getElem?_eq_getElem hi')
  rw [a] at b
  injection b
open Classical in
theorem row64_some {w : World} {b o : Nat} {a : Array Value} (h : row64 w b o = some a) : a.size = 64 ∧ w.rangeAt b o a.toList := by
  unfold row64 at h
  split at h
  · rename_i hx
    injection h with h
    have h1 := hx.choose_spec
    rw [← h]
    exact ⟨by simpa using h1.1, by simpa using h1.2⟩
  · cases h
noncomputable def oldLoad (w : World) (b o : Nat) : Result Value := (Instr.loadAt TB (.pointer (some ⟨b, o, none⟩))).run Try.prog w
theorem loadAt_row (w : World) (b o : Nat) : (Instr.loadAt TB (.pointer (some ⟨b, o, none⟩))).run Try.prog w = match row64 w b o with | some a => .ok (.agg a) w | none => oldLoad w b o := by
  split
  · rename_i a h
    obtain ⟨h1, h2⟩ := row64_some h
    have := run_loadAt_mid w b o TB a.toList _ h2 Try.underlying88 rfl (by rw [Array.length_toList, h1]; kernel_rfl)
    simpa using this
  · rfl
noncomputable def oldLoadV (w : World) (b o : Nat) : Result Value := (loadVar TB ⟨b, o, none⟩).run Try.prog w
theorem loadVar_row (w : World) (b o : Nat) : (loadVar TB ⟨b, o, none⟩).run Try.prog w = match row64 w b o with | some a => .ok (.agg a) w | none => oldLoadV w b o := by
  split
  · rename_i a h
    obtain ⟨h1, h2⟩ := row64_some h
    have := run_loadVar_mid w b o TB a.toList _ h2 Try.underlying88 rfl (by rw [Array.length_toList, h1]; kernel_rfl)
    simpa using this
  · rfl
noncomputable def oldLoadC (w : World) (b o : Nat) : Result (Array Value) := (loadCellsFrom ⟨b, o, none⟩ 0 64 #[]).run Try.prog w
theorem loadCells_row (w : World) (b o : Nat) : (loadCellsFrom ⟨b, o, none⟩ 0 64 #[]).run Try.prog w = match row64 w b o with | some a => .ok a w | none => oldLoadC w b o := by
  split
  · rename_i a h
    obtain ⟨h1, h2⟩ := row64_some h
    have := run_loadCells_list (P := Try.prog) w ⟨b, o, none⟩ a.toList (fun j v hv => by rw [Addr.add_mid]; exact h2 j v hv)
    rw [Array.length_toList, h1] at this
    simpa [loadCells] using this
  · rfl
attribute [local go_sem ↓] loadAt_row loadVar_row loadCells_row

/-- the state in the midst of take's loop -/
def LI (w wx : World) (p : Nat) (st : List U) (S : Value) (N : Nat) (d : List B) (lv : Value) : Prop :=
  Blk wx p TH (hcs st S N) ∧ SL eb wx S d ∧ S.ownBlock ≠ some p ∧ Fr w wx (TS p lv)

set_option maxHeartbeats 1600000 in
set_option maxRecDepth 100000 in
theorem take_any {w : World} {base p n : Nat} {st : List U} {lv : Value} {rest xs : List B} (H : HB w base p st lv n rest) (v : Value) (hs : SL eb w v xs) (hv : 0 < xs.length → v.ownBlock ≠ some p) (hr : rest.length ≤ 64) (hx : xs.length ≤ 4194304) (hn : n ≤ 4194304) (hb : base ≤ w.heap.size) :
    Calls Try.prog 52 #[.pointer (some ⟨p, 0, none⟩), v] w fun e w' => e = .returned (.tuple #[]) ∧ ∃ lv',
      HB w' base p (eat st (rest ++ xs) ((rest ++ xs).length / 64)) lv' (n + xs.length) ((rest ++ xs).drop (64 * ((rest ++ xs).length / 64))) ∧ Fr w w' (TS p lv) ∧ (∀ k, lv'.ownBlock = some k → w.heap.size ≤ k) := by
  obtain ⟨i0, hi0, hz0, hz1, hz2⟩ := info_parts info_b
  obtain ⟨A, cap, rfl, hnc⟩ := hs.len
  have c10 := H.c10
  have f10 := H.blk.frozen 10
  have HS := Lib.hid hs
  have H' := Lib.hid H
  have Hr := Lib.hid hr
  have Hx := Lib.hid hx
  have Hv := Lib.hid hv
  have hx' : (xs.length : Int) ≤ 4194304 := by omega
  have hn' : (n : Int) ≤ 4194304 := by omega
  have Hb := Lib.hid hb
  clear H hr hx hs hn hnc hb hv
  go_enter Try.func52, Try.ntmps52
  go_upto_region 1 with (fail)
  have HB1 := Lib.hid (show HB (w.setCell ⟨p, 10, none⟩ (.int .i64 ((n : Int) + (xs.length : Int)))) base p st lv (n + xs.length) rest from by
    have h := H'.out.blk.set_ 10 (.int .i64 ((n + xs.length : Nat) : Int))
    rw [hcs_set10 _ _ _ _ H'.out.len] at h
    rw [show (n : Int) + (xs.length : Int) = ((n + xs.length : Nat) : Int) by omega]
    refine ⟨H'.out.bs, h, ?_, H'.out.len, by omega⟩
    refine ((Fr.refl w (fun k => k = p)).setCell (p := ⟨p, 10, none⟩) (fun _ => rfl) _).owns H'.out.own (fun k hk hkq => ?_)
    subst hkq
    exact H'.out.ne hk)
  have HF1 := Lib.hid ((Fr.refl w (TS p lv)).setCell (p := ⟨p, 10, none⟩) (fun _ => Or.inl rfl) (.int .i64 ((n : Int) + (xs.length : Int))))
  have HS1 := Lib.hid (HS.out.fr' ((Fr.refl w (fun k => k = p)).setCell (p := ⟨p, 10, none⟩) (fun _ => rfl) (.int .i64 ((n : Int) + (xs.length : Int)))) (fun h0 k hk hkp => by subst hkp; exact Hv.out h0 hk))
  generalize World.setCell w _ _ = w1 at HB1 HF1 HS1 ⊢
  clear c10 f10
  have c9 := HB1.out.c9
  have hmax : rest.length + xs.length ≤ maxLen := by have := Hr.out; have := Hx.out; unfold maxLen; omega
  have hbyt : (rest.length + xs.length) * 1 ≤ 140737488355328 := by have := Hr.out; have := Hx.out; omega
  have Hmax := Lib.hid (And.intro hmax hbyt)
  clear hmax hbyt
  go_upto_block 0 with (
    at_builtin
    refine wpList_append_sl _ eb rfl (.tmp 17) (.tmp 18) TS8 rfl base TU8 i0 (.int .u8 0) 1 1 Try.underlying22 hi0 hz0 hz1 hz2 rfl (by omega) lv rest.length _ rfl HB1.out.own _ xs rfl HS1.out (fun _ => rfl) eb_one Hmax.out.1 Hmax.out.2 (Nat.le_trans Hb.out HF1.out.size) ?_
    intro v2 w2 hown2 hg2 hat2
    rw [← List.flatMap_append] at hown2
    obtain ⟨A2, cap2, rfl⟩ := own_form hown2
    have HO2 := Lib.hid hown2
    have HG2 := Lib.hid hg2
    have HB2 := Lib.hid (HB1.out.blk.fr hg2 (fun h => HB1.out.ne h))
    have q9 := hcs_9 HB2.out HB1.out.len
    have qf := HB2.out.frozen 9
    clear hown2 hg2 hat2)
  have HN2 := Lib.hid (own_blk_ne HO2.out HB2.out (by decide))
  have HB3 := Lib.hid (show Blk (w2.setCell ⟨p, 9, none⟩ (.slice A2 (rest.length + xs.length) cap2)) p TH (hcs st (.slice A2 (rest.length + xs.length) cap2) (n + xs.length)) from by
    have h := HB2.out.set_ 9 (.slice A2 (rest.length + xs.length) cap2)
    rw [hcs_set9 _ _ _ _ HB1.out.len] at h
    exact h)
  have HS3 := Lib.hid ((SL.of_own (enc := eb) HO2.out (List.length_append).symm).fr ((Fr.refl w2 (fun k => k = p)).setCell (p := ⟨p, 9, none⟩) (fun _ => rfl) (.slice A2 (rest.length + xs.length) cap2)) (fun k hk hkp => by subst hkp; exact HN2.out hk))
  have HF3 := Lib.hid ((HF1.out.trans (HG2.out.mono (T := TS p lv) (fun k _ h => Or.inr h)) (fun _ _ h => h)).setCell (p := ⟨p, 9, none⟩) (fun _ => Or.inl rfl) (.slice A2 (rest.length + xs.length) cap2))
  have Hlen := Lib.hid H'.out.len
  have Hll := Lib.hid (show (rest ++ xs).length ≤ 4194304 + 64 by rw [List.length_append]; have := Hr.out; have := Hx.out; omega)
  have Hnn := Lib.hid HB1.out.n0
  have Hbs := Lib.hid H'.out.bs
  have Hfin := Lib.hid (show ∀ k, k = n + xs.length → k < 2 ^ 60 from fun k hk => by rw [hk]; exact Hnn.out)
  generalize hN : n + xs.length = N at HB3 Hnn
  have HN := Lib.hid hN
  have HL := Lib.hid (show (rest ++ xs).length = rest.length + xs.length from List.length_append)
  generalize hL : rest ++ xs = l at HB3 HS3 HF3 Hll HN2 HL ⊢
  generalize rest.length + xs.length = ll at HB3 HS3 HF3 HN2 HL ⊢
  obtain rfl : l.length = ll := HL.out
  clear HL
  generalize World.setCell w2 _ _ = w3 at HB3 HS3 HF3 ⊢
  have HLx := Lib.hid hL
  clear hN hL HB2 q9 qf HO2 HG2 HS1 HB1 HF1 HS c9 Hmax
  go_wp2_with fail
  go_loopg [] (l.length / 64 + 1) (fun m wr => ∃ (k : Nat) (S : Value), Hid (k ≤ l.length / 64 ∧ l.length / 64 - k < m) ∧ Hid (Blk wr p TH (hcs (eat st l k) S N) ∧ SL eb wr S (l.drop (64 * k)) ∧ S.ownBlock ≠ some p ∧ Fr w wr (TS p lv)))
  case atStart => exact ⟨0, _, ⟨Nat.zero_le _, by omega⟩, HB3.out, HS3.out, HN2.out, HF3.out⟩
  case round =>
    obtain ⟨k, S, HI, HP⟩ := hrel
    clear HB3 HS3 HN2 HF3
    obtain ⟨d, hd⟩ : ∃ d, d = l.drop (64 * k) := ⟨_, rfl⟩
    have Hd := Lib.hid hd
    have hdl : d.length = l.length - 64 * k := by rw [hd, List.length_drop]
    rw [← hd] at HP
    have Hst := Lib.hid (eat_len st l Hlen.out k)
    obtain ⟨A, c, rfl, hdc⟩ := HP.out.2.1.len
    have q9 := hcs_9 HP.out.1 Hst.out
    by_cases hk : k < l.length / 64
    · have hd64 : 64 ≤ d.length := by omega
      have hd64' : (64 : Int) ≤ d.length := by omega
      obtain ⟨b, off, rfl, hbw, hrg⟩ := sl_range HP.out.2.1 64 (by omega) hd64
      obtain ⟨stk, hstk⟩ : ∃ x, x = eat st l k := ⟨_, rfl⟩
      rw [← hstk] at HP Hst
      have Hstk := Lib.hid hstk
      obtain ⟨cs, hcs'⟩ : ∃ cs, cs = (d.take 64).map C := ⟨_, rfl⟩
      rw [← hcs'] at hrg
      have hi : (Try.prog.info? TB).map (·.size) = some cs.length := by rw [hcs', List.length_map, List.length_take, Nat.min_eq_left hd64]; kernel_rfl
      have hu := Try.underlying88
      have hl64 : cs.length = 64 := by rw [hcs', List.length_map, List.length_take, Nat.min_eq_left hd64]
      have hone : ∀ v ∈ cs, v.oneCell' = true := by intro v hv; rw [hcs'] at hv; obtain ⟨x, _, rfl⟩ := List.mem_map.1 hv; rfl
      obtain ⟨s0, s1, s2, s3, s4, s5, s6, s7, hss⟩ := list8 Hst.out
      obtain ⟨t0, t1, t2, t3, t4, t5, t6, t7, hts⟩ := list8 (press_len stk (d.take 64) Hst.out)
      have HLI := Lib.hid (show LI w wr p stk (.slice (some ⟨b, off, none⟩) d.length c) N d lv from HP.out)
      have key : ∀ wx, LI w wx p stk (.slice (some ⟨b, off, none⟩) d.length c) N d lv → Hid (LI w wx p stk (.slice (some ⟨b, off, none⟩) d.length c) N d lv) ∧ wx.cell? ⟨p, 1, none⟩ = some (V s0) ∧ wx.cell? ⟨p, 2, none⟩ = some (V s1) ∧ wx.cell? ⟨p, 3, none⟩ = some (V s2) ∧ wx.cell? ⟨p, 4, none⟩ = some (V s3) ∧ wx.cell? ⟨p, 5, none⟩ = some (V s4) ∧ wx.cell? ⟨p, 6, none⟩ = some (V s5) ∧ wx.cell? ⟨p, 7, none⟩ = some (V s6) ∧ wx.cell? ⟨p, 8, none⟩ = some (V s7) ∧ wx.frozen? ⟨p, 1, none⟩ = false ∧ wx.frozen? ⟨p, 2, none⟩ = false ∧ wx.frozen? ⟨p, 3, none⟩ = false ∧ wx.frozen? ⟨p, 4, none⟩ = false ∧ wx.frozen? ⟨p, 5, none⟩ = false ∧ wx.frozen? ⟨p, 6, none⟩ = false ∧ wx.frozen? ⟨p, 7, none⟩ = false ∧ wx.frozen? ⟨p, 8, none⟩ = false ∧ wx.cell? ⟨p, 9, none⟩ = some (.slice (some ⟨b, off, none⟩) d.length c) ∧ wx.rangeAt b off cs := by
        intro wx hx
        obtain ⟨b', off', he, _, hrx⟩ := sl_range hx.2.1 64 (by omega) hd64
        obtain ⟨rfl, rfl⟩ : b = b' ∧ off = off' := by simpa using he
        rw [← hcs'] at hrx
        have hc (k : Nat) (hk : k < 8) := hcs_cell hx.1 Hst.out k hk
        rw [hss] at hc
        exact ⟨hx, hc 0 (by omega), hc 1 (by omega), hc 2 (by omega), hc 3 (by omega), hc 4 (by omega), hc 5 (by omega), hc 6 (by omega), hc 7 (by omega), hx.1.frozen 1, hx.1.frozen 2, hx.1.frozen 3, hx.1.frozen 4, hx.1.frozen 5, hx.1.frozen 6, hx.1.frozen 7, hx.1.frozen 8,
          hcs_9 hx.1 Hst.out, hrx⟩
      have Hc := Lib.hid (fun (wx : World) (hx : LI w wx p stk (.slice (some ⟨b, off, none⟩) d.length c) N d lv) =>
        (press_any stk (d.take 64) Hst.out (by rw [List.length_take]; omega) wx).mono (R' := fun e w' => e = .returned (.agg #[V t0, V t1, V t2, V t3, V t4, V t5, V t6, V t7]) ∧
            (Hid (LI w w' p stk (.slice (some ⟨b, off, none⟩) d.length c) N d lv) ∧ w'.cell? ⟨p, 1, none⟩ = some (V s0) ∧ w'.cell? ⟨p, 2, none⟩ = some (V s1) ∧ w'.cell? ⟨p, 3, none⟩ = some (V s2) ∧ w'.cell? ⟨p, 4, none⟩ = some (V s3) ∧ w'.cell? ⟨p, 5, none⟩ = some (V s4) ∧ w'.cell? ⟨p, 6, none⟩ = some (V s5) ∧ w'.cell? ⟨p, 7, none⟩ = some (V s6) ∧ w'.cell? ⟨p, 8, none⟩ = some (V s7) ∧ w'.frozen? ⟨p, 1, none⟩ = false ∧ w'.frozen? ⟨p, 2, none⟩ = false ∧ w'.frozen? ⟨p, 3, none⟩ = false ∧ w'.frozen? ⟨p, 4, none⟩ = false ∧ w'.frozen? ⟨p, 5, none⟩ = false ∧ w'.frozen? ⟨p, 6, none⟩ = false ∧ w'.frozen? ⟨p, 7, none⟩ = false ∧ w'.frozen? ⟨p, 8, none⟩ = false ∧ w'.cell? ⟨p, 9, none⟩ = some (.slice (some ⟨b, off, none⟩) d.length c) ∧ w'.rangeAt b off cs)) (fun e w' hh => by
          obtain ⟨rfl, hg⟩ := hh
          refine ⟨by rw [hts]; rfl, key w' ?_⟩
          exact ⟨hx.1.fr hg (fun h => h), hx.2.1.gr hg, hx.2.2.1, hx.2.2.2.trans hg (fun _ _ h => h.elim)⟩))
      have e1 : arr stk = #[V s0, V s1, V s2, V s3, V s4, V s5, V s6, V s7] := by rw [hss]; rfl
      have e2 : brr (d.take 64) = cs.toArray := by rw [hcs']; rfl
      rw [e1, e2] at Hc
      have HLId := Lib.hid (show LI w wr.drew p stk (.slice (some ⟨b, off, none⟩) d.length c) N d lv from ⟨HLI.out.1.drew, HLI.out.2.1.drew, HLI.out.2.2.1, HLI.out.2.2.2.drew⟩)
      have Hk0 := Lib.hid (key wr.drew ⟨HLI.out.1.drew, HLI.out.2.1.drew, HLI.out.2.2.1, HLI.out.2.2.2.drew⟩)
      have hsl64 : ∀ w, (Instr.slice TS8 (.slice (some ⟨b, off, none⟩) d.length c) none (some (.int .i64 64)) none).run Try.prog w = .ok (.slice (some ⟨b, off, none⟩) 64 c) w :=
        fun w => run_slice_to TS8 TU8 i0 Try.underlying22 hi0 (some ⟨b, off, none⟩) d.length c 64 (by omega) w
      have harr : ∀ w, (Instr.arrayAt TB (.slice (some ⟨b, off, none⟩) 64 c)).run Try.prog w = .ok (.pointer (some ⟨b, off, none⟩)) w := by
        intro w; simp [Instr.arrayAt, run_underlying hu]
      have Hts := Lib.hid hts
      have Hd64 := Lib.hid hd64
      have HZ1 := Lib.hid hz1
      have HK := Lib.hid hk
      clear e1 e2 hss hts hstk hcs' key hd hdl hrg hbw hdc hk hd64 hz0 hz1 hz2
      go_upto_region 3 with (fail)
      obtain ⟨_, r1, r2, r3, r4, r5, r6, r7, r8, f1, f2, f3, f4, f5, f6, f7, f8, r9, rrg⟩ := Hk0.out
      have hrow := row64_of hl64 rrg
      clear rrg hi hone q9
      go_cut [0] (fun s0' wx => s0' = .pointer (some ⟨p, 0, none⟩) ∧ Hid (LI w wx p (press stk (d.take 64)) (.slice (some ⟨b, off, none⟩) d.length c) N d lv))
      case first =>
       go_region_law (first | (go_simp; go_at_call 63; refine (Hc.out _ HLId.out).mono ?_; rintro e w' ⟨rfl, hX, r1, r2, r3, r4, r5, r6, r7, r8, f1, f2, f3, f4, f5, f6, f7, f8, r9, rrg⟩))
       all_goals go_wp2_with fail
       all_goals go_meet
       all_goals
        refine ⟨rfl, ?_⟩
        rw [Hts.out]
        exact ⟨hcs_st (q := [t0, t1, t2, t3, t4, t5, t6, t7]) hX.out.1 Hst.out rfl, hX.out.2.1.fr (fr_st (q := [t0, t1, t2, t3, t4, t5, t6, t7]) (Fr.refl _ (fun k => k = p)) rfl) (fun k hk hkp => by subst hkp; exact hX.out.2.2.1 hk), hX.out.2.2.1, fr_st (q := [t0, t1, t2, t3, t4, t5, t6, t7]) hX.out.2.2.2 (Or.inl rfl)⟩
      case rest =>
      obtain ⟨rfl, HL⟩ := hcut
      clear r1 r2 r3 r4 r5 r6 r7 r8 f1 f2 f3 f4 f5 f6 f7 f8 r9 hrow Hk0 HLId HLI Hc hsl64 harr HP
      have Hpl := Lib.hid (press_len stk (d.take 64) Hst.out)
      have q9 := hcs_9 HL.out.1 Hpl.out
      have qf := HL.out.1.frozen 9
      obtain ⟨S', hrun, hsl, hob⟩ := slice_from_ex (P := Try.prog) eb TS8 TU8 i0 1 Try.underlying22 hi0 HZ1.out (fun _ => rfl) (some ⟨b, off, none⟩) d.length c 64 Hd64.out
      obtain ⟨A', c', rfl, _⟩ := (hsl wc _ HL.out.2.1).len
      have HS' := Lib.hid (hsl wc _ HL.out.2.1)
      have Hob := Lib.hid hob
      clear hsl hob
      have hrun' : ∀ w, (Instr.slice TS8 (.slice (some ⟨b, off, none⟩) d.length c) (some (.int .i64 64)) none none).run Try.prog w = .ok (.slice A' (d.drop 64).length c') w := hrun
      clear hrun
      have Hlen' := Lib.hid (List.length_drop (i := 64) (l := d))
      generalize (d.drop 64).length = dl at hrun' HS' Hob Hlen'
      go_wp2_with fail
      go_roundg (gk - 1)
      case measure => have := HI.out; omega
      case rel =>
        refine ⟨k + 1, .slice A' dl c', ⟨by have := HK.out; omega, by have := HI.out; have := HK.out; omega⟩, ?_⟩
        have e1 : l.drop (64 * (k + 1)) = d.drop 64 := by rw [Hd.out, List.drop_drop]; congr 1
        have e2 : eat st l (k + 1) = press stk (d.take 64) := by rw [eat, Hstk.out, Hd.out]
        rw [e1, e2]
        have hne : Value.ownBlock (.slice A' dl c') ≠ some p := by rw [Hob.out]; exact HL.out.2.2.1
        refine ⟨?_, ?_, hne, HL.out.2.2.2.setCell (p := ⟨p, 9, none⟩) (fun _ => Or.inl rfl) _⟩
        · have h := HL.out.1.set_ 9 (.slice A' dl c')
          rw [hcs_set9 _ _ _ _ Hpl.out] at h
          exact h
        · exact HS'.out.fr ((Fr.refl wc (fun k => k = p)).setCell (p := ⟨p, 9, none⟩) (fun _ => rfl) _) (fun k hk hkp => by subst hkp; exact hne hk)
    · obtain rfl : k = l.length / 64 := by have := HI.out; omega
      have hlt : (d.length : Int) < 64 := by omega
      have hdl64 : d.length ≤ 64 := by omega
      have Hdl := Lib.hid hdl64
      have Hdd := Lib.hid hd
      clear hd hdl hk hdl64
      go_wp2_with (
        at_builtin
        refine wpList_append_sl _ eb rfl (.const (.slice none 0 0)) (.tmp 55) TS8 rfl w.heap.size TU8 i0 (.int .u8 0) 1 1 Try.underlying22 hi0 hz0 hz1 hz2 rfl (by omega) (.slice none 0 0) 0 [] rfl (World.ownsRow_nil _ _ _ _) _ d rfl HP.out.2.1 (fun _ => rfl) eb_one (by have := Hdl.out; unfold maxLen; omega) (by have := Hdl.out; omega) HP.out.2.2.2.size ?_
        intro v5 w5 hown5 hg5 hat5
        rw [Nat.zero_add, List.nil_append] at hown5
        obtain ⟨A5, cap5, rfl⟩ := own_form hown5
        have HO5 := Lib.hid hown5
        have HG5 := Lib.hid (show Gr wr w5 from hg5.mono (fun k _ h => nil_own k h))
        have HB5 := Lib.hid (HP.out.1.fr HG5.out (fun h => h))
        have q9' := hcs_9 HB5.out Hst.out
        have qf' := HB5.out.frozen 9
        clear hown5 hg5 hat5)
      go_end0
      refine ⟨rfl, .slice A5 d.length cap5, ?_, ?_, fun k hk => (HO5.out.lt k hk).1⟩
      · rw [HN.out, HLx.out, ← Hdd.out]
        refine ⟨Hbs.out, ?_, own_base ?_ Hb.out, Hst.out, Hnn.out⟩
        · have h := HB5.out.set_ 9 (.slice A5 d.length cap5)
          rw [hcs_set9 _ _ _ _ Hst.out] at h
          exact h
        · exact ((Fr.refl w5 (fun k => k = p)).setCell (p := ⟨p, 9, none⟩) (fun _ => rfl) _).owns HO5.out (fun k hk hkp => by subst hkp; exact own_blk_ne HO5.out HB5.out (by decide) hk)
      · exact (HP.out.2.2.2.trans HG5.out (fun _ _ h => h.elim)).setCell (p := ⟨p, 9, none⟩) (fun _ => Or.inl rfl) _
end Sha
end Go.Proofs.Ytmjpghaggnpdbaa
