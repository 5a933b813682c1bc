/- bpe: the order of pairs; a row in memory; wait. -/
import Derived.Test.YtlodbhlidgepfaaPQ
set_option linter.unusedVariables false
set_option linter.unusedSimpArgs false
namespace Go.Proofs.Ytlodbhlidgepfaa
open Go.RowKit
open Voc
namespace Bpe
abbrev FV : Value := .func (.func 45) #[] #[]
abbrev TRow : TypeId := 88
abbrev TPr : TypeId := 91
set_option maxHeartbeats 1600000 in
theorem less_any (x y : Pr) (w : World) : Calls Try.prog 45 #[.agg #[.int .u32 x.1, .int .i64 x.2.1, .int .i64 x.2.2.1, .int .i64 x.2.2.2.1, .int .i64 x.2.2.2.2], .agg #[.int .u32 y.1, .int .i64 y.2.1, .int .i64 y.2.2.1, .int .i64 y.2.2.2.1, .int .i64 y.2.2.2.2]] w fun e w' => e = .returned (.bool (ltP x y)) ∧ Gr w w' := by
  obtain ⟨xa, xb, xc, xd, xe⟩ := x
  obtain ⟨ya, yb, yc, yd, ye⟩ := y
  simp only
  have hres : ltP (xa, xb, xc, xd, xe) (ya, yb, yc, yd, ye) = (decide (xa < ya) || (decide (xa = ya) && decide (xb < yb))) := rfl
  rw [hres]
  obtain ⟨R, hR⟩ : ∃ R, (decide (xa < ya) || (decide (xa = ya) && decide (xb < yb))) = R := ⟨_, rfl⟩
  rw [hR]
  have HR := Lib.hid hR
  clear hres hR
  have HG := Lib.hid (((Fr.refl w NoneS).alloc (.cells #[.int .u32 xa, .int .i64 xb, .int .i64 xc, .int .i64 xd, .int .i64 xe] TPr)).alloc (.cells #[.int .u32 ya, .int .i64 yb, .int .i64 yc, .int .i64 yd, .int .i64 ye] TPr))
  have HB0 := Lib.hid ((Blk.new w TPr #[.int .u32 xa, .int .i64 xb, .int .i64 xc, .int .i64 xd, .int .i64 xe]).alloc (.cells #[.int .u32 ya, .int .i64 yb, .int .i64 yc, .int .i64 yd, .int .i64 ye] TPr))
  have HB1 := Lib.hid (Blk.new (w.alloc (.cells #[.int .u32 xa, .int .i64 xb, .int .i64 xc, .int .i64 xd, .int .i64 xe] TPr)) TPr #[.int .u32 ya, .int .i64 yb, .int .i64 yc, .int .i64 yd, .int .i64 ye])
  have hsz : (w.alloc (.cells #[.int .u32 xa, .int .i64 xb, .int .i64 xc, .int .i64 xd, .int .i64 xe] TPr)).heap.size = w.heap.size + 1 := by simp
  rw [hsz] at HB1
  clear hsz
  go_enter Try.func45, Try.ntmps45
  go_upto_region 1 with (fail)
  generalize w.heap.size + 1 = q1 at HB1 ⊢
  generalize w.heap.size = q0 at HB0 ⊢
  generalize World.alloc (World.alloc w _) _ = w1 at HG HB0 HB1 ⊢
  have x0 : w1.cell? ⟨q0, 0, none⟩ = some (.int .u32 xa) := by rw [HB0.out.cell]; rfl
  have x1 : w1.cell? ⟨q0, 1, none⟩ = some (.int .i64 xb) := by rw [HB0.out.cell]; rfl
  have y0 : w1.cell? ⟨q1, 0, none⟩ = some (.int .u32 ya) := by rw [HB1.out.cell]; rfl
  have y1 : w1.cell? ⟨q1, 1, none⟩ = some (.int .i64 yb) := by rw [HB1.out.cell]; rfl
  by_cases h1 : xa < ya
  · have e1 : decide (xa < ya) = true := decide_eq_true h1
    have H1 := Lib.hid h1
    clear h1
    go_wp2_with fail
    go_ret
    exact ⟨by rw [← HR.out, decide_eq_true H1.out]; rfl, HG.out⟩
  · have e1 : decide (xa < ya) = false := decide_eq_false h1
    by_cases h2 : xa = ya
    · subst h2
      clear h1
      go_wp2_with fail
      go_ret
      exact ⟨by rw [← HR.out]; simp, HG.out⟩
    · have e2 : decide (xa = ya) = false := decide_eq_false h2
      have e3 : (xa == ya) = false := beq_eq_false_iff_ne.2 h2
      have H1 := Lib.hid h1
      have H2 := Lib.hid h2
      clear h1 h2
      go_wp2_with fail
      go_ret
      exact ⟨by rw [← HR.out, decide_eq_false (show ¬ xa < ya by have := H1.out; omega), decide_eq_false H2.out]; rfl, HG.out⟩
theorem less_gr (Bl : Nat) (W0 : World) : Qp.LessGr FV ltP Bl W0 :=
  ⟨45, #[], rfl, fun args w => callFunc_enters (fn := Try.f45) rfl rfl rfl args w, fun x y w _ => less_any x y w⟩
def rowC (p gt ga gf qb n : Nat) : Array Value := #[.pointer (some ⟨p, 0, none⟩), .slice (some ⟨gt, 0, none⟩) n n, .slice (some ⟨ga, 0, none⟩) n n, .slice (some ⟨gf, 0, none⟩) n n, .pointer (some ⟨qb, 0, none⟩)]
/-- a row in memory -/
structure RW (W0 w : World) (rb p b qb gt ga gf n : Nat) (tok ah fr : List Int) (sv hv : Value) (xs : List Pc) (hp : List (Pr × Nat)) (nx : Nat) : Prop where
  gr : Gr W0 w
  voc : SL encP W0 sv xs
  lo : W0.heap.size ≤ rb ∧ W0.heap.size ≤ gt ∧ W0.heap.size ≤ ga ∧ W0.heap.size ≤ gf
  row : Blk w rb TRow (rowC p gt ga gf qb n)
  bt : Blk w gt TI (ic tok)
  ba : Blk w ga TI (ic ah)
  bf : Blk w gf TI (ic fr)
  tb : TB w W0.heap.size p b (tabs xs) (pe xs) sv
  q : Qp.Q w W0.heap.size qb FV hv hp nx
  ne : gt ≠ ga ∧ gt ≠ gf ∧ ga ≠ gf
  len : tok.length = n ∧ ah.length = n ∧ fr.length = n
section
variable {W0 w w' : World} {rb p b qb gt ga gf n : Nat} {tok ah fr : List Int} {sv hv : Value} {xs : List Pc} {hp : List (Pr × Nat)} {nx : Nat}
theorem RW.any (H : RW W0 w rb p b qb gt ga gf n tok ah fr sv hv xs hp nx) (hg : Gr w w') : RW W0 w' rb p b qb gt ga gf n tok ah fr sv hv xs hp nx :=
  ⟨H.gr.trans hg (fun _ _ h => h), H.voc, H.lo, H.row.fr hg (fun h => h), H.bt.fr hg (fun h => h), H.ba.fr hg (fun h => h), H.bf.fr hg (fun h => h), H.tb.gr hg, H.q.gr hg, H.ne, H.len⟩
theorem RW.cells (H : RW W0 w rb p b qb gt ga gf n tok ah fr sv hv xs hp nx) :
    w.cell? ⟨rb, 0, none⟩ = some (.pointer (some ⟨p, 0, none⟩)) ∧ w.cell? ⟨rb, 1, none⟩ = some (.slice (some ⟨gt, 0, none⟩) n n) ∧ w.cell? ⟨rb, 2, none⟩ = some (.slice (some ⟨ga, 0, none⟩) n n) ∧
    w.cell? ⟨rb, 3, none⟩ = some (.slice (some ⟨gf, 0, none⟩) n n) ∧ w.cell? ⟨rb, 4, none⟩ = some (.pointer (some ⟨qb, 0, none⟩)) := by
  refine ⟨?_, ?_, ?_, ?_, ?_⟩ <;> rw [H.row.cell] <;> rfl
theorem RW.ct (H : RW W0 w rb p b qb gt ga gf n tok ah fr sv hv xs hp nx) {i : Nat} (hi : i < n) : w.cell? ⟨gt, i, none⟩ = some (.int .i64 (tok.getD i 0)) := by rw [H.bt.cell, ic_at _ (by rw [H.len.1]; exact hi)]
theorem RW.ca (H : RW W0 w rb p b qb gt ga gf n tok ah fr sv hv xs hp nx) {i : Nat} (hi : i < n) : w.cell? ⟨ga, i, none⟩ = some (.int .i64 (ah.getD i 0)) := by rw [H.ba.cell, ic_at _ (by rw [H.len.2.1]; exact hi)]
theorem RW.cf (H : RW W0 w rb p b qb gt ga gf n tok ah fr sv hv xs hp nx) {i : Nat} (hi : i < n) : w.cell? ⟨gf, i, none⟩ = some (.int .i64 (fr.getD i 0)) := by rw [H.bf.cell, ic_at _ (by rw [H.len.2.2]; exact hi)]
/-- the queue goes on by itself -/
theorem RW.queue {hv' : Value} {hp' : List (Pr × Nat)} {nx' : Nat} (H : RW W0 w rb p b qb gt ga gf n tok ah fr sv hv xs hp nx) (hf : Fr w w' (QS qb hv)) (hq : Qp.Q w' W0.heap.size qb FV hv' hp' nx') : RW W0 w' rb p b qb gt ga gf n tok ah fr sv hv' xs hp' nx' := by
  have n1 : ∀ {g : Nat} {t : TypeId} {cs : Array Value}, Blk w g t cs → t ≠ 123 → t ≠ 127 → ¬ QS qb hv g := fun hb h1 h2 e => by
    rcases e with e | e
    · exact hb.ne_ H.q.blk h1 e
    · exact own_blk_ne H.q.own hb (Ne.symm h2) e
  refine ⟨H.gr.trans hf (fun i hi e => ?_), H.voc, H.lo, H.row.fr hf (n1 H.row (by decide) (by decide)), H.bt.fr hf (n1 H.bt (by decide) (by decide)), H.ba.fr hf (n1 H.ba (by decide) (by decide)), H.bf.fr hf (n1 H.bf (by decide) (by decide)), H.tb.fr hf (n1 H.tb.blk (by decide) (by decide)) (fun e => ?_), hq, H.ne, H.len⟩
  · rcases e with e | e
    · have := H.q.base; omega
    · have := (H.q.own.lt i e).1; omega
  · rcases e with e | e
    · exact H.tb.mp.ne H.q.blk e
    · exact own_map H.q.own H.tb.mp e
theorem RW.voc_ (H : RW W0 w rb p b qb gt ga gf n tok ah fr sv hv xs hp nx) : SL encP w sv xs := H.voc.gr H.gr
theorem RW.cm (H : RW W0 w rb p b qb gt ga gf n tok ah fr sv hv xs hp nx) : w.cell? ⟨p, 256, none⟩ = some (.map (some b)) ∧ w.cell? ⟨p, 257, none⟩ = some sv := by
  rw [H.tb.blk.cell, H.tb.blk.cell, tcs_map _ _ _ H.tb.len, tcs_voc _ _ _ H.tb.len]; exact ⟨rfl, rfl⟩
/-- nobody stands ahead of the first one -/
theorem wait_none (H : RW W0 w rb p b qb gt ga gf n tok ah fr sv hv xs hp nx) :
    Calls Try.prog 46 #[.pointer (some ⟨rb, 0, none⟩), .int .i64 (-1)] w fun e w' => e = .returned (.tuple #[]) ∧ Gr w w' := by
  clear H
  go_enter Try.func46, Try.ntmps46
  go_upto_region 0 with (fail)
  go_quiet (fail)
  go_wp2_with fail
  refine bodyPost_ret (results_none (by rfl) _ _ _) rfl ?_
  exact ⟨rfl, (Fr.refl _ _).drewN _⟩
set_option maxRecDepth 20000 in
/-- what a look into the table's map finds -/
theorem look2 {w : World} {b : Nat} (hm : MB w b (pe xs)) (hi : Inv xs) (hw : ∀ q ∈ xs, wfP q) {x y : Int} (hx : (Lit.int .i64 x).wf = true) (hy : (Lit.int .i64 y).wf = true) :
    (Instr.lookup MT2 (.map (some b)) (.agg #[.int .i64 x, .int .i64 y]) true).run Try.prog w = .ok (.tuple #[.int .i64 (fndV (fndF x y xs)), .bool (fndF x y xs).isSome]) w := by
  have hk := WideMaps.keyOf_pair A2 Try.underlying3 tsz hx hy
  cases hf : fndF x y xs with
  | none =>
    refine hm.look_no K2 Try.underlying116 (zeroI _) (keys2 hw) hk (fun z hz e => ?_)
    obtain ⟨q, i, hq, hj, rfl⟩ := mem_pe hz
    simp at e
    exact fndF_none xs hf q (List.mem_of_getElem? hq) ⟨hj, e.1, e.2⟩
  | some t =>
    obtain ⟨q, h1, h2, h3, h4⟩ := fndF_some xs t hf
    have hin := in_pe h1 h2
    rw [h3, h4] at hin
    obtain ⟨v', hv', hrun⟩ := hm.look_yes K2 Try.underlying116 (keys2 hw) hk hin
    obtain ⟨q', i', hq', hj', he⟩ := mem_pe hv'
    injection he with e1 e2
    simp at e1
    have := fndF_good hi hq' hj' e1.1.symm e1.2.symm
    rw [hf] at this
    injection this with this
    rw [hrun, e2, this]; rfl
set_option maxRecDepth 20000 in
set_option maxHeartbeats 3200000 in
theorem wait_any (H : RW W0 w rb p b qb gt ga gf n tok ah fr sv hv xs hp nx) {P : List Nat} (L : Lk n tok ah fr P) {j i : Nat} (hj : P[j]? = some i) (hX : Voc.Good xs) (hw : ∀ q ∈ xs, wfP q) (ht : ∀ x ∈ tok, (Lit.int .i64 x).wf = true) (hn : n ≤ 4194304) (hl : hp.length ≤ 4194304) (hnx : nx ≤ 4194304) :
    Calls Try.prog 46 #[.pointer (some ⟨rb, 0, none⟩), .int .i64 (i : Nat)] w fun e w' => e = .returned (.tuple #[]) ∧ ∃ hv', RW W0 w' rb p b qb gt ga gf n tok ah fr sv hv' xs (waitQ (waitE xs n tok fr i) hp nx) (waitX (waitE xs n tok fr i) nx) := by
  have HR := Lib.hid H
  have hin := L.plt hj
  have Hwc := Lib.hid (waitE_cases (xs := xs) L hj)
  obtain ⟨c0, c1, c2, c3, c4⟩ := H.cells
  have cf := H.cf hin
  have ct := H.ct hin
  rw [L.far hj] at cf
  have hi0 : decide ((i : Int) < 0) = false := decide_eq_false (by omega)
  have hii : (i : Int) < (n : Int) := by omega
  have hnn : (n : Int) ≤ 4194304 := by omega
  have Hin := Lib.hid hin
  have Hj := Lib.hid hj
  have HX := Lib.hid hX
  have HW := Lib.hid hw
  have Ht := Lib.hid ht
  have Hl := Lib.hid (And.intro hl hnx)
  obtain ⟨E, hE⟩ : ∃ E, waitE xs n tok fr i = E := ⟨_, rfl⟩
  rw [hE] at Hwc ⊢
  clear hE
  cases hg : P[j + 1]? with
  | none =>
    rw [hg] at cf
    simp only [Option.getD_none] at cf
    have hEn := Lib.hid (show E = none by
      rcases Hwc.out with ⟨h, _⟩ | ⟨g, t, h, _⟩
      · exact h
      · rw [hg] at h; cases h)
    clear H L hj hX hw ht hn hl hnx hin hg
    go_enter Try.func46, Try.ntmps46
    go_upto_region 0 with (fail)
    go_quiet (fail)
    go_wp2_with fail
    refine bodyPost_ret (results_none (by rfl) _ _ _) rfl ?_
    rw [hEn.out]
    exact ⟨rfl, hv, HR.out.any ((Fr.refl _ _).drewN _)⟩
  | some g =>
    rw [hg] at cf
    simp only [Option.getD_some] at cf
    have hgn := L.plt hg
    have Hgn := Lib.hid hgn
    have hgg : decide ((n : Int) ≤ (g : Int)) = false := decide_eq_false (by omega)
    have hgi : (g : Int) < (n : Int) := by omega
    have cg := H.ct hgn
    have hwx : (Lit.int .i64 (tok.getD i 0)).wf = true := by
      have hlt : i < tok.length := by rw [H.len.1]; exact hin
      rw [List.getD_eq_getElem?_getD, List.getElem?_eq_getElem hlt]
      exact ht _ (List.getElem_mem hlt)
    have hwy : (Lit.int .i64 (tok.getD g 0)).wf = true := by
      have hlt : g < tok.length := by rw [H.len.1]; exact hgn
      rw [List.getD_eq_getElem?_getD, List.getElem?_eq_getElem hlt]
      exact ht _ (List.getElem_mem hlt)
    have HLk := Lib.hid (fun (wx : World) (hm : MB wx b (pe xs)) => look2 hm hX.inv hw hwx hwy)
    obtain ⟨cm, cv⟩ := H.cm
    have hC : (fndF (tok.getD i 0) (tok.getD g 0) xs = none ∧ E = none) ∨ ∃ t, fndF (tok.getD i 0) (tok.getD g 0) xs = some t ∧ E = some (entE xs tok i g t) := by
      rcases Hwc.out with ⟨h1, h2⟩ | ⟨g', t, h1, _, _, h4, h5⟩
      · cases hf : fndF (tok.getD i 0) (tok.getD g 0) xs with
        | none => exact Or.inl ⟨rfl, h1⟩
        | some t => exact absurd hf (h2 g t hg)
      · rw [hg] at h1
        injection h1 with h1
        subst h1
        exact Or.inr ⟨t, h4, h5⟩
    have HC := Lib.hid hC
    obtain ⟨x1, hx1⟩ : ∃ x, tok.getD i 0 = x := ⟨_, rfl⟩
    obtain ⟨x2, hx2⟩ : ∃ x, tok.getD g 0 = x := ⟨_, rfl⟩
    have HX1 := Lib.hid hx1
    have HX2 := Lib.hid hx2
    rw [hx1] at ct
    rw [hx2] at cg
    rw [hx1, hx2] at HLk HC
    clear H L hj hX hw ht hn hl hnx hin hg hgn hC hwx hwy hx1 hx2
    rcases HC.out with ⟨h1, h2⟩ | ⟨t, h1, h2⟩
    · rw [h1] at HLk
      simp only [fndV, Option.isSome_none] at HLk
      subst h2
      clear HC h1
      go_enter Try.func46, Try.ntmps46
      go_upto_region 0 with (fail)
      go_quiet (fail)
      go_upto_region 1 with (fail)
      go_quiet (fail)
      go_wp2_with (refine wpList_lookup rfl (.tmp 52) (.tmp 55) MT2 true rfl (.map (some b)) (.agg #[.int .i64 x1, .int .i64 x2]) rfl rfl _ (by exact HLk.out _ HR.out.tb.mp) ?_)
      go_end0
      exact ⟨rfl, hv, HR.out.any ((Fr.refl _ _).drewN _)⟩
    · rw [h1] at HLk
      simp only [fndV, Option.isSome_some] at HLk
      have Hf := Lib.hid h1
      have HE := Lib.hid h2
      clear HC h1 h2
      obtain ⟨q, hq1, hq2, hq3, hq4⟩ := fndF_some xs t Hf.out
      have htl := (List.getElem?_eq_some_iff.1 hq1).1
      obtain ⟨A, cap, hsv⟩ := SL.form HR.out.voc_
      subst hsv
      obtain ⟨b2, o2, rfl, hb2, hcell⟩ := HR.out.voc_.at_ (s := 5) (fun _ => rfl) rfl htl
      have r4 := hcell 4 (by omega)
      have hrk : rk xs t = (xs[t]'htl).k := by unfold rk; rw [List.getElem?_eq_getElem htl]
      simp [encP] at r4
      rw [← hrk, ← Nat.add_assoc] at r4
      have hti : (t : Int) < (xs.length : Int) := by omega
      have hxl : (xs.length : Int) ≤ 4096 := by have := HX.out.len; omega
      have HP := Lib.hid (fun wx (hg : Gr w wx) => Qp.push_any ltP FV hv W0.heap.size qb W0.heap.size W0 wx hp nx (HR.out.q.gr hg) (less_gr _ _) (Gr.below (HR.out.gr.trans hg (fun _ _ h => h))) (Nat.le_refl _) (rk xs t) (i : Nat) x1 x2 (t : Nat) Hl.out.1 Hl.out.2)
      obtain ⟨rkt, hrkt⟩ : ∃ r, r = rk xs t := ⟨_, rfl⟩
      rw [← hrkt] at HP r4
      have Hrk := Lib.hid hrkt
      have Hb2 := Lib.hid hb2
      clear hb2 hrkt hq1 hq2 hq3 hq4 htl hcell hrk
      go_enter Try.func46, Try.ntmps46
      go_upto_region 0 with (fail)
      go_quiet (fail)
      go_upto_region 1 with (fail)
      go_quiet (fail)
      go_upto_region 4 with (refine wpList_lookup rfl (.tmp 52) (.tmp 55) MT2 true rfl (.map (some b)) (.agg #[.int .i64 x1, .int .i64 x2]) rfl rfl _ (by exact HLk.out _ HR.out.tb.mp) ?_)
      generalize hx : World.drewN w _ = w2
      have HG2 := Lib.hid (show Gr w w2 by rw [← hx]; exact (Fr.refl _ _).drewN _)
      clear hx
      have e0 := (HG2.out.cell (p := ⟨rb, 0, none⟩) HR.out.row.lt (fun h => h)).trans c0
      have e4 := (HG2.out.cell (p := ⟨rb, 4, none⟩) HR.out.row.lt (fun h => h)).trans c4
      have ev := (HG2.out.cell (p := ⟨p, 257, none⟩) HR.out.tb.blk.lt (fun h => h)).trans cv
      have er := (HG2.out.cell (p := ⟨b2, o2 + t * 5 + 4, none⟩) Hb2.out (fun h => h)).trans r4
      clear c0 c1 c2 c3 c4 cm cv r4 cf ct cg
      go_still_tail 21, (by kernel_rfl)
      go_wp2_with (go_at_call 59; refine (HP.out _ (HG2.out.drew)).mono ?_; rintro e w3 ⟨rfl, hv', hq, hf, _⟩; have HN := Lib.hid ((HR.out.any HG2.out.drew).queue hf hq); clear hq hf)
      go_end0
      refine ⟨rfl, hv', ?_⟩
      rw [HE.out]
      unfold entE
      rw [HX1.out, HX2.out, ← Hrk.out]
      exact HN.out
end
end Bpe
end Go.Proofs.Ytlodbhlidgepfaa
