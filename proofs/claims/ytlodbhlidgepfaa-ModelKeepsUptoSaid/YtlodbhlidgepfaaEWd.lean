/- bpe: join. -/
import Derived.Test.YtlodbhlidgepfaaEWc
set_option linter.unusedVariables false
set_option linter.unusedSimpArgs false
namespace Go.Proofs.Ytlodbhlidgepfaa
open Go.RowKit
open Voc
namespace Bpe
section
variable {W0 w w' : World} {rb p b qb gt ga gf n : Nat} {tok ah fr : List Int} {sv hv : Value} {xs : List Pc} {hp : List (Pr × Nat)} {nx : Nat}
theorem RW.far_ (H : RW W0 w rb p b qb gt ga gf n tok ah fr sv hv xs hp nx) {g : Nat} (hg : g = gt ∨ g = ga ∨ g = gf) (hf : Fr w w' (fun k => k = g)) :
    Gr W0 w' ∧ Blk w' rb TRow (rowC p gt ga gf qb n) ∧ TB w' W0.heap.size p b (tabs xs) (pe xs) sv ∧ Qp.Q w' W0.heap.size qb FV hv hp nx := by
  have hb : ∃ l, Blk w g TI (ic l) := by
    rcases hg with rfl | rfl | rfl
    · exact ⟨_, H.bt⟩
    · exact ⟨_, H.ba⟩
    · exact ⟨_, H.bf⟩
  have hlo : W0.heap.size ≤ g := by
    rcases hg with rfl | rfl | rfl
    · exact H.lo.2.1
    · exact H.lo.2.2.1
    · exact H.lo.2.2.2
  obtain ⟨l, hb⟩ := hb
  refine ⟨H.gr.trans hf (fun i hi e => by subst e; omega), H.row.fr hf (H.row.ne_ hb (by decide)), H.tb.fr hf (H.tb.blk.ne_ hb (by decide)) (H.tb.mp.ne hb), H.q.fr hf (fun k hk e => ?_)⟩
  subst e
  rcases hk with hk | hk
  · exact hb.ne_ H.q.blk (by decide) hk
  · exact own_blk_ne H.q.own hb (by decide) hk
theorem RW.set_t (H : RW W0 w rb p b qb gt ga gf n tok ah fr sv hv xs hp nx) (i : Nat) (x : Int) : RW W0 (w.setCell ⟨gt, i, none⟩ (.int .i64 x)) rb p b qb gt ga gf n (tok.set i x) ah fr sv hv xs hp nx := by
  have hf : Fr w (w.setCell ⟨gt, i, none⟩ (.int .i64 x)) (fun k => k = gt) := (Fr.refl w (fun k => k = gt)).setCell (p := ⟨gt, i, none⟩) (fun _ => rfl) _
  obtain ⟨h1, h2, h3, h4⟩ := H.far_ (Or.inl rfl) hf
  exact ⟨h1, H.voc, H.lo, h2, by rw [← ic_set]; exact H.bt.set_ i _, H.ba.fr hf (fun e => H.ne.1 e.symm), H.bf.fr hf (fun e => H.ne.2.1 e.symm), h3, h4, H.ne, by rw [List.length_set]; exact H.len⟩
theorem RW.set_a (H : RW W0 w rb p b qb gt ga gf n tok ah fr sv hv xs hp nx) (i : Nat) (x : Int) : RW W0 (w.setCell ⟨ga, i, none⟩ (.int .i64 x)) rb p b qb gt ga gf n tok (ah.set i x) fr sv hv xs hp nx := by
  have hf : Fr w (w.setCell ⟨ga, i, none⟩ (.int .i64 x)) (fun k => k = ga) := (Fr.refl w (fun k => k = ga)).setCell (p := ⟨ga, i, none⟩) (fun _ => rfl) _
  obtain ⟨h1, h2, h3, h4⟩ := H.far_ (Or.inr (Or.inl rfl)) hf
  exact ⟨h1, H.voc, H.lo, h2, H.bt.fr hf H.ne.1, by rw [← ic_set]; exact H.ba.set_ i _, H.bf.fr hf (fun e => H.ne.2.2 e.symm), h3, h4, H.ne, by rw [List.length_set]; exact H.len⟩
theorem RW.set_f (H : RW W0 w rb p b qb gt ga gf n tok ah fr sv hv xs hp nx) (i : Nat) (x : Int) : RW W0 (w.setCell ⟨gf, i, none⟩ (.int .i64 x)) rb p b qb gt ga gf n tok ah (fr.set i x) sv hv xs hp nx := by
  have hf : Fr w (w.setCell ⟨gf, i, none⟩ (.int .i64 x)) (fun k => k = gf) := (Fr.refl w (fun k => k = gf)).setCell (p := ⟨gf, i, none⟩) (fun _ => rfl) _
  obtain ⟨h1, h2, h3, h4⟩ := H.far_ (Or.inr (Or.inr rfl)) hf
  exact ⟨h1, H.voc, H.lo, h2, H.bt.fr hf H.ne.2.1, H.ba.fr hf H.ne.2.2, by rw [← ic_set]; exact H.bf.set_ i _, h3, h4, H.ne, by rw [List.length_set]; exact H.len⟩
/-- what join leaves -/
def JP (W0 w' : World) (rb p b qb gt ga gf n : Nat) (tok ah fr : List Int) (sv : Value) (xs : List Pc) (hp : List (Pr × Nat)) (nx : Nat) (P : List Nat) (j i : Nat) : Prop :=
  ∃ o hv', ((j = 0 ∧ o = none) ∨ (∃ q, 1 ≤ j ∧ P[j - 1]? = some q ∧ o = waitE xs n tok fr q)) ∧
    RW W0 w' rb p b qb gt ga gf n tok ah fr sv hv' xs (waitQ (waitE xs n tok fr i) (waitQ o hp nx) (waitX o nx)) (waitX (waitE xs n tok fr i) (waitX o nx))
set_option maxRecDepth 20000 in
set_option maxHeartbeats 6400000 in
theorem join_any (H : RW W0 w rb p b qb gt ga gf n tok ah fr sv hv xs hp nx) {P : List Nat} (L : Lk n tok ah fr P) {j i g t : Nat} (hj : P[j]? = some i) (hg : P[j + 1]? = some g) (hX : Voc.Good xs) (hw : ∀ q ∈ xs, wfP q) (ht : ∀ x ∈ tok, (Lit.int .i64 x).wf = true) (htt : t < xs.length) (hn : n ≤ 4194304) (hl : hp.length ≤ 4194303) (hnx : nx ≤ 4194303) :
    Calls Try.prog 48 #[.pointer (some ⟨rb, 0, none⟩), .int .i64 (i : Nat), .int .i64 (t : Nat)] w fun e w' => e = .returned (.tuple #[]) ∧
      JP W0 w' rb p b qb gt ga gf n (tokJ tok i g t) (ahJ n ah i ((P[j + 2]?).getD n)) (frJ fr i ((P[j + 2]?).getD n)) sv xs hp nx (P.eraseIdx (j + 1)) j i := by
  have HR := Lib.hid H
  have hin := L.plt hj
  have hgn := L.plt hg
  have hig := mono L.srt hj hg (by omega)
  obtain ⟨c0, c1, c2, c3, c4⟩ := H.cells
  have cf := H.cf hin
  have cg := H.cf hgn
  rw [L.far hj, hg, Option.getD_some] at cf
  rw [L.far hg] at cg
  have Lj := Lib.hid (L.join hj hg t)
  have Hjn := Lib.hid (show (P.eraseIdx (j + 1))[j]? = some i by rw [erase_at, if_pos (by omega)]; exact hj)
  have Htok := Lib.hid (show ∀ x ∈ tokJ tok i g t, (Lit.int .i64 x).wf = true by
    intro x hx
    unfold tokJ at hx
    rcases List.mem_or_eq_of_mem_set hx with h | h
    · rcases List.mem_or_eq_of_mem_set h with h | h
      · exact ht x h
      · subst h
        have := hX.len
        have h0 : IntKind.i64.min = -9223372036854775808 := rfl
        have h1 : IntKind.i64.max = 9223372036854775807 := rfl
        simp [Lit.wf]
        omega
    · subst h; rfl)
  have hii : (i : Int) < (n : Int) := by omega
  have hgi : (g : Int) < (n : Int) := by omega
  have hnn : (n : Int) ≤ 4194304 := by omega
  have Hj := Lib.hid (show j = 0 ∨ ∃ q, 1 ≤ j ∧ P[j - 1]? = some q ∧ q < n from by
    by_cases h0 : j = 0
    · exact Or.inl h0
    · right
      have hjl := (List.getElem?_eq_some_iff.1 hj).1
      have hq : P[j - 1]? = some (P[j - 1]'(by omega)) := List.getElem?_eq_getElem (by omega)
      exact ⟨_, by omega, hq, L.plt hq⟩)
  have HFg := Lib.hid (And.intro (L.far_ j i hj) (L.far_ (j + 1) g hg))
  rw [hg, Option.getD_some] at HFg
  have Hij := Lib.hid hig
  obtain ⟨fg, hfg⟩ : ∃ f, (P[j + 2]?).getD n = f := ⟨_, rfl⟩
  rw [hfg] at cg Lj HFg ⊢
  have Hfg := Lib.hid hfg
  have cx := H.ct hin
  have cy := H.ct hgn
  generalize tok.getD i 0 = x0 at cx
  generalize tok.getD g 0 = y0 at cy
  have f0 := H.bt.frozen i
  have f1 := H.bt.frozen g
  have HW := Lib.hid hw
  have HX := Lib.hid hX
  have Hlen := Lib.hid (And.intro hl hnx)
  have Hin := Lib.hid (And.intro hin hgn)
  have Ht0 := Lib.hid hn
  clear H L hj hg hX hw ht htt hn hl hnx hin hgn hfg
  go_enter Try.func48, Try.ntmps48
  go_upto_region 1 with (fail)
  go_region
  go_upto_region 2 with (fail)
  have HR1 := Lib.hid (((HR.out.set_t i (t : Int)).set_t g (-1)).any ((Fr.refl _ NoneS).drew))
  generalize World.drew _ = w1 at HR1 ⊢
  clear c0 c1 c2 c3 c4 cf cg cx cy f0 f1
  obtain ⟨c0, c1, c2, c3, c4⟩ := HR1.out.cells
  have cf := HR1.out.cf Hin.out.1
  have cg := HR1.out.cf Hin.out.2
  rw [List.getD_eq_getElem?_getD, HFg.out.2, Option.getD_some] at cg
  rw [List.getD_eq_getElem?_getD, HFg.out.1, Option.getD_some] at cf
  have f0 := HR1.out.bf.frozen i
  go_region
  go_upto_region 3 with (fail)
  have HR2 := Lib.hid ((HR1.out.set_f i (fg : Int)).any ((Fr.refl _ NoneS).drew))
  generalize World.drew _ = w2 at HR2 ⊢
  clear c0 c1 c2 c3 c4 cf cg f0 HR1 HR
  obtain ⟨c0, c1, c2, c3, c4⟩ := HR2.out.cells
  have cf := HR2.out.cf Hin.out.1
  have hfi : (fr.set i (fg : Int)).getD i 0 = (fg : Int) := by
    rw [List.getD_eq_getElem?_getD, List.getElem?_set_self (by have := HR2.out.len.2.2; rw [List.length_set] at this; rw [this]; exact Hin.out.1)]; rfl
  rw [hfi] at cf
  clear hfi
  go_upto_region 3 with (fail)
  have HA := Lib.hid (show ahJ n ah i fg = if fg < n then ah.set fg (i : Int) else ah from rfl)
  obtain ⟨aj, haj⟩ : ∃ a, ahJ n ah i fg = a := ⟨_, rfl⟩
  have Haj := Lib.hid haj
  rw [haj] at HA Lj
  clear haj
  by_cases hfn : fg < n
  · have e1 : decide ((fg : Int) < (n : Int)) = true := decide_eq_true (by omega)
    have e2 : (fg : Int) < (n : Int) := by omega
    have Hfn := Lib.hid hfn
    clear hfn
    go_quiet (fail)
    go_upto_region 4 with (fail)
    generalize hx : World.drewN w2 _ = w3
    have HR3 := Lib.hid (show RW W0 w3 rb p b qb gt ga gf n _ _ _ sv hv xs hp nx by rw [← hx]; exact HR2.out.any ((Fr.refl _ NoneS).drewN _))
    clear hx c0 c1 c2 c3 c4 cf
    obtain ⟨c0, c1, c2, c3, c4⟩ := HR3.out.cells
    have cf := HR3.out.cf Hin.out.1
    rw [List.getD_eq_getElem?_getD, List.getElem?_set_self (by have := HR3.out.len.2.2; rw [List.length_set] at this; rw [this]; exact Hin.out.1), Option.getD_some] at cf
    have ca := HR3.out.ca Hfn.out
    have f0 := HR3.out.ba.frozen fg
    go_region
    go_upto_region 5 with (fail)
    have HR4 := Lib.hid (show RW W0 _ rb p b qb gt ga gf n _ aj _ sv hv xs hp nx by rw [HA.out, if_pos Hfn.out]; exact (HR3.out.set_a fg (i : Int)).any ((Fr.refl _ NoneS).drew))
    generalize World.drew _ = w4 at HR4 ⊢
    clear c0 c1 c2 c3 c4 cf ca f0 HR3 HR2
    obtain ⟨c0, c1, c2, c3, c4⟩ := HR4.out.cells
    have ca := HR4.out.ca Hin.out.1
    have hpv : aj.getD i 0 = prev (P.eraseIdx (j + 1)) j := by rw [List.getD_eq_getElem?_getD, Lj.out.ah_ j i Hjn.out]; rfl
    rw [hpv] at ca
    clear hpv
    change Hid (RW W0 w4 rb p b qb gt ga gf n (tokJ tok i g t) aj (frJ fr i fg) sv hv xs hp nx) at HR4
    rcases Hj.out with h0 | ⟨q, h1, h2, h3⟩
    · subst h0
      have ca : w4.cell? ⟨ga, i, none⟩ = some (.int .i64 (-1)) := ca
      have HW1 := Lib.hid (wait_none HR4.out)
      have HW2 := Lib.hid (fun wx (hg : Gr w4 wx) => wait_any (HR4.out.any hg) Lj.out Hjn.out HX.out HW.out Htok.out Ht0.out (by have := Hlen.out.1; omega) (by have := Hlen.out.2; omega))
      go_upto_region 6 with (go_at_call 46; refine HW1.out.mono ?_; rintro e w5 ⟨rfl, hg⟩; have HG5 := Lib.hid hg; clear hg)
      go_wp2_with (go_at_call 46; refine (HW2.out _ HG5.out).mono ?_; rintro e w6 ⟨rfl, hv', hr⟩; have HR6 := Lib.hid hr; clear hr)
      go_end0
      rw [Haj.out]
      exact ⟨rfl, none, hv', Or.inl ⟨rfl, rfl⟩, HR6.out⟩
    · have h2' : (P.eraseIdx (j + 1))[j - 1]? = some q := by rw [erase_at, if_pos (by omega)]; exact h2
      have hpv : prev (P.eraseIdx (j + 1)) j = (q : Int) := by
        obtain ⟨m, rfl⟩ : ∃ m, j = m + 1 := ⟨j - 1, by omega⟩
        rw [Nat.add_sub_cancel] at h2'
        simp only [prev]
        rw [h2']; rfl
      rw [hpv] at ca
      have Hq := Lib.hid (And.intro h1 h2')
      clear hpv h1 h2 h3 h2'
      have HW1 := Lib.hid (wait_any HR4.out Lj.out Hq.out.2 HX.out HW.out Htok.out Ht0.out (by have := Hlen.out.1; omega) (by have := Hlen.out.2; omega))
      have Hb1 := Lib.hid (show (waitQ (waitE xs n (tokJ tok i g t) (frJ fr i fg) q) hp nx).length ≤ 4194304 ∧ waitX (waitE xs n (tokJ tok i g t) (frJ fr i fg) q) nx ≤ 4194304 from by
        have := Hlen.out
        unfold waitQ waitX
        split
        · exact ⟨by omega, by omega⟩
        · rw [QP.length_push]; exact ⟨by omega, by omega⟩)
      have HW2 := Lib.hid (fun wx (hv1 : Value) (hr : RW W0 wx rb p b qb gt ga gf n (tokJ tok i g t) aj (frJ fr i fg) sv hv1 xs (waitQ (waitE xs n (tokJ tok i g t) (frJ fr i fg) q) hp nx) (waitX (waitE xs n (tokJ tok i g t) (frJ fr i fg) q) nx)) => wait_any hr Lj.out Hjn.out HX.out HW.out Htok.out Ht0.out Hb1.out.1 Hb1.out.2)
      go_upto_region 6 with (go_at_call 46; refine HW1.out.mono ?_; rintro e w5 ⟨rfl, hv1, hr⟩; have HR5 := Lib.hid hr; clear hr)
      go_wp2_with (go_at_call 46; refine (HW2.out _ _ HR5.out).mono ?_; rintro e w6 ⟨rfl, hv', hr⟩; have HR6 := Lib.hid hr; clear hr)
      go_end0
      rw [Haj.out]
      exact ⟨rfl, _, hv', Or.inr ⟨q, Hq.out.1, Hq.out.2, rfl⟩, HR6.out⟩
  · have e1 : decide ((fg : Int) < (n : Int)) = false := decide_eq_false (by omega)
    have Hfn := Lib.hid hfn
    clear hfn
    go_quiet (fail)
    go_upto_region 5 with (fail)
    generalize hx : World.drewN w2 _ = w4
    have HR4 := Lib.hid (show RW W0 w4 rb p b qb gt ga gf n _ aj _ sv hv xs hp nx by rw [← hx, HA.out, if_neg Hfn.out]; exact HR2.out.any ((Fr.refl _ NoneS).drewN _))
    clear hx c0 c1 c2 c3 c4 cf HR2
    obtain ⟨c0, c1, c2, c3, c4⟩ := HR4.out.cells
    have ca := HR4.out.ca Hin.out.1
    have hpv : aj.getD i 0 = prev (P.eraseIdx (j + 1)) j := by rw [List.getD_eq_getElem?_getD, Lj.out.ah_ j i Hjn.out]; rfl
    rw [hpv] at ca
    clear hpv
    change Hid (RW W0 w4 rb p b qb gt ga gf n (tokJ tok i g t) aj (frJ fr i fg) sv hv xs hp nx) at HR4
    rcases Hj.out with h0 | ⟨q, h1, h2, h3⟩
    · subst h0
      have ca : w4.cell? ⟨ga, i, none⟩ = some (.int .i64 (-1)) := ca
      have HW1 := Lib.hid (wait_none HR4.out)
      have HW2 := Lib.hid (fun wx (hg : Gr w4 wx) => wait_any (HR4.out.any hg) Lj.out Hjn.out HX.out HW.out Htok.out Ht0.out (by have := Hlen.out.1; omega) (by have := Hlen.out.2; omega))
      go_upto_region 6 with (go_at_call 46; refine HW1.out.mono ?_; rintro e w5 ⟨rfl, hg⟩; have HG5 := Lib.hid hg; clear hg)
      go_wp2_with (go_at_call 46; refine (HW2.out _ HG5.out).mono ?_; rintro e w6 ⟨rfl, hv', hr⟩; have HR6 := Lib.hid hr; clear hr)
      go_end0
      rw [Haj.out]
      exact ⟨rfl, none, hv', Or.inl ⟨rfl, rfl⟩, HR6.out⟩
    · have h2' : (P.eraseIdx (j + 1))[j - 1]? = some q := by rw [erase_at, if_pos (by omega)]; exact h2
      have hpv : prev (P.eraseIdx (j + 1)) j = (q : Int) := by
        obtain ⟨m, rfl⟩ : ∃ m, j = m + 1 := ⟨j - 1, by omega⟩
        rw [Nat.add_sub_cancel] at h2'
        simp only [prev]
        rw [h2']; rfl
      rw [hpv] at ca
      have Hq := Lib.hid (And.intro h1 h2')
      clear hpv h1 h2 h3 h2'
      have HW1 := Lib.hid (wait_any HR4.out Lj.out Hq.out.2 HX.out HW.out Htok.out Ht0.out (by have := Hlen.out.1; omega) (by have := Hlen.out.2; omega))
      have Hb1 := Lib.hid (show (waitQ (waitE xs n (tokJ tok i g t) (frJ fr i fg) q) hp nx).length ≤ 4194304 ∧ waitX (waitE xs n (tokJ tok i g t) (frJ fr i fg) q) nx ≤ 4194304 from by
        have := Hlen.out
        unfold waitQ waitX
        split
        · exact ⟨by omega, by omega⟩
        · rw [QP.length_push]; exact ⟨by omega, by omega⟩)
      have HW2 := Lib.hid (fun wx (hv1 : Value) (hr : RW W0 wx rb p b qb gt ga gf n (tokJ tok i g t) aj (frJ fr i fg) sv hv1 xs (waitQ (waitE xs n (tokJ tok i g t) (frJ fr i fg) q) hp nx) (waitX (waitE xs n (tokJ tok i g t) (frJ fr i fg) q) nx)) => wait_any hr Lj.out Hjn.out HX.out HW.out Htok.out Ht0.out Hb1.out.1 Hb1.out.2)
      go_upto_region 6 with (go_at_call 46; refine HW1.out.mono ?_; rintro e w5 ⟨rfl, hv1, hr⟩; have HR5 := Lib.hid hr; clear hr)
      go_wp2_with (go_at_call 46; refine (HW2.out _ _ HR5.out).mono ?_; rintro e w6 ⟨rfl, hv', hr⟩; have HR6 := Lib.hid hr; clear hr)
      go_end0
      rw [Haj.out]
      exact ⟨rfl, _, hv', Or.inr ⟨q, Hq.out.1, Hq.out.2, rfl⟩, HR6.out⟩
end
end Bpe
end Go.Proofs.Ytlodbhlidgepfaa
