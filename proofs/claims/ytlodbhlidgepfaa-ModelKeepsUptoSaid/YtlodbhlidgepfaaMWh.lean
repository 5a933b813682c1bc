/- model: Do. -/
import Derived.Test.YtlodbhlidgepfaaMWg
set_option linter.unusedVariables false
set_option linter.unusedSimpArgs false
namespace Go.Proofs.Ytlodbhlidgepfaa
open Go.RowKit
open Voc Leb Bpe
namespace Mod
abbrev TU64 : TypeId := 24
def encW (x : Int) : List Value := [.int .u64 x]
theorem encW_one : ∀ x : Int, ∀ u ∈ encW x, u.oneCell' = true := by intro x u hu; simp [encW] at hu; subst hu; rfl
theorem info_u64 : (Try.prog.info? 24).map (fun i => (i.zero, i.size, i.bytes)) = some (some (.int .u64 0), 1, 8) := by kernel_rfl
/-- a row of numbers of one's own -/
def OW (w : World) (B : Nat) (v : Value) (l : List Int) : Prop := w.ownsRow B TU64 1 v l.length (l.flatMap encW)
theorem OW.nil (w : World) (B : Nat) : OW w B (.slice none 0 0) [] := World.ownsRow_nil _ _ _ _
/-- a state of its own memory, all of it ahead of n -/
structure OSn (b n : Nat) (w : World) (dv pv : Value) (s : St) : Prop where
  ex : ∃ D : List (Int × Sv), w.ownsRow b TDoc 2 dv s.docs.length (D.flatMap encD) ∧ Al (fun d c => ODR b w d c ∧ ∀ k, d.2.v.ownBlock = some k → k < n) D s.docs
  voc : w.ownsRow b TPc 5 pv s.voc.length (s.voc.flatMap encP)
  bd : ∀ k, dv.ownBlock = some k → k < n
  bp : ∀ k, pv.ownBlock = some k → k < n
theorem OS.toN {b : Nat} {w : World} {dv pv : Value} {s : St} (h : OS b w dv pv s) : OSn b w.heap.size w dv pv s := by
  obtain ⟨D, hd, ha⟩ := h.ex
  exact ⟨⟨D, hd, ha.imp fun a c hr => ⟨hr, fun k hk => (hr.2.own.lt k hk).2⟩⟩, h.voc, fun k hk => (hd.lt k hk).2, fun k hk => (h.voc.lt k hk).2⟩
theorem OSn.gr {b n : Nat} {w w' : World} {dv pv : Value} {s : St} (h : OSn b n w dv pv s) (hf : Gr w w') : OSn b n w' dv pv s := by
  obtain ⟨D, hd, ha⟩ := h.ex
  exact ⟨⟨D, hf.owns hd (fun _ _ h => h), ha.imp fun a c hr => ⟨⟨hr.1.1, hr.1.2.gr hf⟩, hr.2⟩⟩, hf.owns h.voc (fun _ _ h => h), h.bd, h.bp⟩
theorem OSn.far {b n g : Nat} {w w' : World} {dv pv : Value} {s : St} {t : TypeId} {cs : Array Value} (h : OSn b n w dv pv s) (hb : Blk w g t cs) (h1 : TDoc ≠ t) (h2 : TU8 ≠ t) (h3 : TPc ≠ t) (hf : Fr w w' (fun k => k = g)) : OSn b n w' dv pv s := by
  obtain ⟨D, hd, ha⟩ := h.ex
  exact ⟨⟨D, hf.owns hd (fun k hk e => own_blk_ne hd hb h1 (e ▸ hk)), ha.imp fun a c hr => ⟨⟨hr.1.1, hr.1.2.fr hf (fun k hk e => own_blk_ne hr.1.2.own hb h2 (e ▸ hk))⟩, hr.2⟩⟩, hf.owns h.voc (fun k hk e => own_blk_ne h.voc hb h3 (e ▸ hk)), h.bd, h.bp⟩
theorem OSn.rs {b n : Nat} {w : World} {dv pv : Value} {s : St} (h : OSn b n w dv pv s) : RS (fun k => b ≤ k ∧ k < n) w dv pv s := by
  obtain ⟨D, hd, ha⟩ := h.ex
  exact ⟨⟨D, SL.of_own (enc := encD) hd ha.len.symm, ha.imp fun a c hr => ⟨hr.1.1, hr.1.2.sl, fun _ k hk => ⟨(hr.1.2.own.lt k hk).1, hr.2 k hk⟩⟩⟩, SL.of_own (enc := encP) h.voc rfl, fun _ k hk => ⟨(hd.lt k hk).1, h.bd k hk⟩, fun _ k hk => ⟨(h.voc.lt k hk).1, h.bp k hk⟩⟩
/-- a row of numbers that lies behind turns -/
theorem OSn.behind {b n : Nat} {w w' : World} {dv pv : Value} {s : St} {S : Nat → Prop} (h : OSn b n w dv pv s) (hf : Fr w w' S) (hS : ∀ k, S k → n ≤ k) : OSn b n w' dv pv s := by
  obtain ⟨D, hd, ha⟩ := h.ex
  exact ⟨⟨D, hf.owns hd (fun k hk e => by have := hS k e; have := h.bd k hk; omega), ha.imp fun a c hr => ⟨⟨hr.1.1, hr.1.2.fr hf (fun k hk e => by have := hS k e; have := hr.2 k hk; omega)⟩, hr.2⟩⟩, hf.owns h.voc (fun k hk e => by have := hS k e; have := h.bp k hk; omega), h.bd, h.bp⟩
/-- the boxes of a state and a deed that came in, and of two results -/
structure Bd (w wr : World) (q p q1 q2 : Nat) (st dd r4 r5 : Array Value) : Prop where
  fr : Gr w wr
  b : Blk wr q TSt st
  bp : Blk wr p TDd dd
  b4 : Blk wr q1 TSt r4
  b5 : Blk wr q2 TAn r5
  lo : w.heap.size = q ∧ q + 1 = p ∧ p + 1 = q1 ∧ q1 + 1 = q2
section
variable {w wr w' : World} {q p q1 q2 : Nat} {st dd r4 r5 : Array Value} {S T : Nat → Prop}
theorem Bd.new (w : World) (st dd r4 r5 : Array Value) : Bd w ((((w.alloc (.cells st TSt)).alloc (.cells dd TDd)).alloc (.cells r4 TSt)).alloc (.cells r5 TAn)) w.heap.size (w.heap.size + 1) (w.heap.size + 1 + 1) (w.heap.size + 1 + 1 + 1) st dd r4 r5 := by
  have h1 : (w.alloc (.cells st TSt)).heap.size = w.heap.size + 1 := by simp
  have h2 : ((w.alloc (.cells st TSt)).alloc (.cells dd TDd)).heap.size = w.heap.size + 1 + 1 := by simp
  have h3 : (((w.alloc (.cells st TSt)).alloc (.cells dd TDd)).alloc (.cells r4 TSt)).heap.size = w.heap.size + 1 + 1 + 1 := by simp
  have b1 := Blk.new w TSt st
  have b2 := Blk.new (w.alloc (.cells st TSt)) TDd dd
  have b3 := Blk.new ((w.alloc (.cells st TSt)).alloc (.cells dd TDd)) TSt r4
  have b4 := Blk.new (((w.alloc (.cells st TSt)).alloc (.cells dd TDd)).alloc (.cells r4 TSt)) TAn r5
  rw [h1] at b2
  rw [h2] at b3
  rw [h3] at b4
  exact ⟨((((Fr.refl w NoneS).alloc _).alloc _).alloc _).alloc _, ((b1.alloc _).alloc _).alloc _, (b2.alloc _).alloc _, b3.alloc _, b4, rfl, rfl, rfl, rfl⟩
theorem Bd.any (H : Bd w wr q p q1 q2 st dd r4 r5) (hg : Fr wr w' T) (ht : ∀ k, T k → q2 < k) : Bd w w' q p q1 q2 st dd r4 r5 := by
  have hq := H.lo
  refine ⟨H.fr.trans hg (fun i hi h => by have := ht i h; omega), H.b.fr hg (fun h => by have := ht _ h; omega), H.bp.fr hg (fun h => by have := ht _ h; omega), H.b4.fr hg (fun h => by have := ht _ h; omega), H.b5.fr hg (fun h => by have := ht _ h; omega), H.lo⟩
theorem Bd.gr (H : Bd w wr q p q1 q2 st dd r4 r5) (hg : Gr wr w') : Bd w w' q p q1 q2 st dd r4 r5 := H.any hg (fun _ h => h.elim)
theorem Bd.lay (H : Bd w wr q p q1 q2 st dd r4 r5) (c4 c5 : Array Value) : Bd w ((wr.setRow q1 c4).setRow q2 c5) q p q1 q2 st dd c4 c5 := by
  have hq := H.lo
  exact ⟨Sha.fr_setRow (Sha.fr_setRow H.fr (fun h => by omega) _) (fun h => by omega) _, Sha.blk_setRow_ne (Sha.blk_setRow_ne H.b (by omega) _) (by omega) _, Sha.blk_setRow_ne (Sha.blk_setRow_ne H.bp (by omega) _) (by omega) _, Sha.blk_setRow_ne (Sha.blk_setRow H.b4 _) (by omega) _, Sha.blk_setRow (Sha.blk_setRow_ne H.b5 (by omega) _) _, H.lo⟩
theorem Bd.layFr (H : Bd w wr q p q1 q2 st dd r4 r5) (c4 c5 : Array Value) : Fr wr ((wr.setRow q1 c4).setRow q2 c5) (fun k => k = q1 ∨ k = q2) :=
  Sha.fr_setRow (Sha.fr_setRow (Fr.refl wr _) (fun _ => Or.inl rfl) _) (fun _ => Or.inr rfl) _
theorem Bd.row (H : Bd w wr q p q1 q2 st dd r4 r5) (c : Array Value) : Bd w (wr.setRow q c) q p q1 q2 c dd r4 r5 := by
  have hq := H.lo
  exact ⟨Sha.fr_setRow H.fr (fun h => by omega) _, Sha.blk_setRow H.b _, Sha.blk_setRow_ne H.bp (by omega) _, Sha.blk_setRow_ne H.b4 (by omega) _, Sha.blk_setRow_ne H.b5 (by omega) _, H.lo⟩
theorem Bd.set (H : Bd w wr q p q1 q2 st dd r4 r5) (i : Nat) (u : Value) : Bd w (wr.setCell ⟨q, i, none⟩ u) q p q1 q2 (st.setIfInBounds i u) dd r4 r5 := by
  have hq := H.lo
  exact ⟨H.fr.setCell (p := ⟨q, i, none⟩) (fun h => by simp only at h; omega) u, H.b.set_ i u, H.bp.far (p := ⟨q, i, none⟩) (by simp only; omega) u, H.b4.far (p := ⟨q, i, none⟩) (by simp only; omega) u, H.b5.far (p := ⟨q, i, none⟩) (by simp only; omega) u, H.lo⟩
end
theorem OSn.lay {b n : Nat} {w wr : World} {q p q1 q2 : Nat} {st dd r4 r5 : Array Value} {dv pv : Value} {s : St} (h : OSn b n wr dv pv s) (H : Bd w wr q p q1 q2 st dd r4 r5) (c4 c5 : Array Value) : OSn b n ((wr.setRow q1 c4).setRow q2 c5) dv pv s :=
  (h.far H.b4 (by decide) (by decide) (by decide) (Sha.fr_setRow (S := fun k => k = q1) (Fr.refl wr _) (fun _ => rfl) c4)).far (Sha.blk_setRow_ne H.b5 (by have := H.lo; omega) c4) (by decide) (by decide) (by decide) (Sha.fr_setRow (S := fun k => k = q2) (Fr.refl _ _) (fun _ => rfl) c5)
/-- what Do answers -/
def DoPost (w : World) (s' : St) (a : An) (e : Ending) (w' : World) : Prop :=
  ∃ dv pv bv iv n, e = .returned (.tuple #[.agg (stA dv pv s'.next), .agg (anA a bv iv)]) ∧ RS (fun k => w.heap.size ≤ k ∧ k < n) w' dv pv s' ∧ w.heap.size ≤ n ∧ OB w' n bv a.b ∧ OW w' n iv a.ids ∧ Gr w w'
theorem DoPost.of_in {w w3 w' : World} {dv pv : Value} {s' : St} {a : An} {e : Ending} (h : InPost w.heap.size w3 dv pv s' a (fun k => dv.ownBlock = some k) e w') (ha : a.b = [] ∧ a.ids = []) (hg : Gr w w3) (hb : ∀ k, dv.ownBlock = some k → w.heap.size ≤ k) : DoPost w s' a e w' := by
  obtain ⟨dv', pv', rfl, ho, hf⟩ := h
  refine ⟨dv', pv', nilV, nilV, w'.heap.size, rfl, ho.toN.rs, ?_, ?_, ?_, ?_⟩
  · exact Nat.le_trans hg.size hf.size
  · rw [ha.1]; exact OB.nil _ _
  · rw [ha.2]; exact OW.nil _ _
  · exact hg.trans hf (fun i hi h => by have := hb i h; omega)
set_option maxRecDepth 20000 in
set_option maxHeartbeats 8000000 in
theorem do_arg {B : Nat → Prop} {w : World} {dv pv bv : Value} {s : St} {d : Dd} (HR : RS B w dv pv s) (hw : wfS s) (HV : SL encB w bv d.b) (hdl : d.b.length ≤ 1048576) (hno : mayB s = false ∨ dmayE d = false) :
    Calls Try.prog 6 #[.agg (stA dv pv s.next), .agg (ddA d bv)] w (DoPost w s { an0 with e := 2 }) := by
  have HM := Lib.hid (fun wx (hg : Gr w wx) => mayM_any (HR.gr hg) hw)
  have HDm := Lib.hid (fun wx (hg : Gr w wx) => dmay_any d (HV.gr hg) hdl)
  have HOw := Lib.hid (fun wx (hg : Gr w wx) => own_any (HR.gr hg) hw)
  obtain ⟨⟨A, ca, rfl⟩, A2, ca2, rfl⟩ := HR.form
  obtain ⟨A3, ca3, rfl⟩ := SL.form HV
  have HX := Lib.hid (Bd.new w (stA (.slice A s.docs.length ca) (.slice A2 s.voc.length ca2) s.next) (ddA d (.slice A3 d.b.length ca3)) stZ anZ)
  obtain ⟨q, hq⟩ : ∃ q, w.heap.size = q := ⟨_, rfl⟩
  rw [hq] at HX
  obtain ⟨p, hp⟩ : ∃ q', q + 1 = q' := ⟨_, rfl⟩
  rw [hp] at HX
  obtain ⟨q1, hq1⟩ : ∃ q', p + 1 = q' := ⟨_, rfl⟩
  rw [hq1] at HX
  obtain ⟨q2, hq2⟩ : ∃ q', q1 + 1 = q' := ⟨_, rfl⟩
  rw [hq2] at HX
  clear HR hw HV hdl
  unfold stA at HM HOw ⊢
  unfold ddA at HDm ⊢
  go_enter Try.func6, Try.ntmps6
  go_upto_region 1 with (fail)
  change Code.wp _ _ _ _ ((((w.alloc (.cells (stA (.slice A s.docs.length ca) (.slice A2 s.voc.length ca2) s.next) TSt)).alloc (.cells (ddA d (.slice A3 d.b.length ca3)) TDd)).alloc (.cells stZ TSt)).alloc (.cells anZ TAn))
  clear hq hp hq1 hq2
  generalize hx : World.alloc (World.alloc (World.alloc (World.alloc w _) _) _) _ = w3 at HX ⊢
  clear hx
  have c0 : w3.cell? ⟨q, 0, none⟩ = some (.slice A s.docs.length ca) := by rw [HX.out.b.cell]; rfl
  have c1 : w3.cell? ⟨q, 1, none⟩ = some (.int .u64 s.next) := by rw [HX.out.b.cell]; rfl
  have c2 : w3.cell? ⟨q, 2, none⟩ = some (.slice A2 s.voc.length ca2) := by rw [HX.out.b.cell]; rfl
  cases hm : mayB s with
  | false =>
    rw [hm] at HM
    clear hno hm HDm
    go_upto_region 2 with (go_at_call 7; refine (HM.out _ HX.out.fr).mono ?_; rintro e w4 ⟨rfl, hg⟩; have HX4 := Lib.hid (HX.out.gr hg); clear hg)
    have k0 : w4.cell? ⟨q, 0, none⟩ = some (.slice A s.docs.length ca) := by rw [HX4.out.b.cell]; rfl
    have k1 : w4.cell? ⟨q, 1, none⟩ = some (.int .u64 s.next) := by rw [HX4.out.b.cell]; rfl
    have k2 : w4.cell? ⟨q, 2, none⟩ = some (.slice A2 s.voc.length ca2) := by rw [HX4.out.b.cell]; rfl
    clear c0 c1 c2
    go_wp2_with (first
      | (go_at_call 21; refine (HOw.out _ HX4.out.fr).mono ?_; rintro e w5 ⟨dv5, pv5, rfl, ho, hg⟩; obtain ⟨⟨A5, c5, rfl⟩, A6, c6, rfl⟩ := ho.rs.form; have HO5 := Lib.hid ho; have HX5 := Lib.hid (HX4.out.gr hg); clear ho hg)
      | refine Sha.wpList_build_to rfl TAn _ rfl (anA { an0 with e := 2 } nilV nilV) (by kernel_rfl) ?_
      | refine wpList_store_row rfl _ _ _ rfl q1 (stA (.slice A5 s.docs.length c5) (.slice A6 s.voc.length c6) s.next) rfl rfl TSt _ HX5.out.b4 (by kernel_rfl) (by kernel_rfl) (by kernel_rfl) ?_
      | refine wpList_store_row rfl _ _ _ rfl q2 (anA { an0 with e := 2 } nilV nilV) rfl rfl TAn _ (Sha.blk_setRow_ne HX5.out.b5 (by have := HX5.out.lo; omega) _) (by kernel_rfl) (by kernel_rfl) (by kernel_rfl) ?_)
    have HXl := Lib.hid (HX5.out.lay (stA (.slice A5 s.docs.length c5) (.slice A6 s.voc.length c6) s.next) (anA { an0 with e := 2 } nilV nilV))
    refine bodyPost_ret (results_cc Try.results6 _ _ q1 q2 _ _ _ _ _ _ rfl rfl HXl.out.b4 HXl.out.b5 Try.underlying29 rfl (by kernel_rfl) Try.underlying38 rfl (by kernel_rfl)) rfl ?_
    have h5 := HX5.out.fr.size
    exact ⟨_, _, nilV, nilV, w5.heap.size, rfl, ((HO5.out.base HX4.out.fr.size).toN.lay HX5.out _ _).rs, h5, OB.nil _ _, OW.nil _ _, HXl.out.fr⟩
  | true =>
    rw [hm] at HM
    have hd : dmayE d = false := hno.resolve_left (by rw [hm]; decide)
    rw [hd] at HDm
    clear hno hm hd
    have d0 : w3.cell? ⟨p, 0, none⟩ = some (.int .u8 d.k) := by rw [HX.out.bp.cell]; rfl
    have d1 : w3.cell? ⟨p, 1, none⟩ = some (.int .u64 d.id) := by rw [HX.out.bp.cell]; rfl
    have d2 : w3.cell? ⟨p, 2, none⟩ = some (.int .i64 d.n) := by rw [HX.out.bp.cell]; rfl
    have d3 : w3.cell? ⟨p, 3, none⟩ = some (.slice A3 d.b.length ca3) := by rw [HX.out.bp.cell]; rfl
    go_upto_region 2 with (first
      | (go_at_call 7; refine (HM.out _ HX.out.fr).mono ?_; rintro e w3a ⟨rfl, hg⟩; have HX3 := Lib.hid (HX.out.gr hg)
         have d0 : w3a.cell? ⟨p, 0, none⟩ = some (.int .u8 d.k) := by rw [HX3.out.bp.cell]; rfl
         have d1 : w3a.cell? ⟨p, 1, none⟩ = some (.int .u64 d.id) := by rw [HX3.out.bp.cell]; rfl
         have d2 : w3a.cell? ⟨p, 2, none⟩ = some (.int .i64 d.n) := by rw [HX3.out.bp.cell]; rfl
         have d3 : w3a.cell? ⟨p, 3, none⟩ = some (.slice A3 d.b.length ca3) := by rw [HX3.out.bp.cell]; rfl
         clear hg)
      | (go_at_call 20; refine (HDm.out _ HX3.out.fr).mono ?_; rintro e w4 ⟨rfl, hg⟩; have HX4 := Lib.hid (HX3.out.gr hg); clear hg))
    have k0 : w4.cell? ⟨q, 0, none⟩ = some (.slice A s.docs.length ca) := by rw [HX4.out.b.cell]; rfl
    have k1 : w4.cell? ⟨q, 1, none⟩ = some (.int .u64 s.next) := by rw [HX4.out.b.cell]; rfl
    have k2 : w4.cell? ⟨q, 2, none⟩ = some (.slice A2 s.voc.length ca2) := by rw [HX4.out.b.cell]; rfl
    clear c0 c1 c2
    go_wp2_with (first
      | (go_at_call 21; refine (HOw.out _ HX4.out.fr).mono ?_; rintro e w5 ⟨dv5, pv5, rfl, ho, hg⟩; obtain ⟨⟨A5, c5, rfl⟩, A6, c6, rfl⟩ := ho.rs.form; have HO5 := Lib.hid ho; have HX5 := Lib.hid (HX4.out.gr hg); clear ho hg)
      | refine Sha.wpList_build_to rfl TAn _ rfl (anA { an0 with e := 2 } nilV nilV) (by kernel_rfl) ?_
      | refine wpList_store_row rfl _ _ _ rfl q1 (stA (.slice A5 s.docs.length c5) (.slice A6 s.voc.length c6) s.next) rfl rfl TSt _ HX5.out.b4 (by kernel_rfl) (by kernel_rfl) (by kernel_rfl) ?_
      | refine wpList_store_row rfl _ _ _ rfl q2 (anA { an0 with e := 2 } nilV nilV) rfl rfl TAn _ (Sha.blk_setRow_ne HX5.out.b5 (by have := HX5.out.lo; omega) _) (by kernel_rfl) (by kernel_rfl) (by kernel_rfl) ?_)
    have HXl := Lib.hid (HX5.out.lay (stA (.slice A5 s.docs.length c5) (.slice A6 s.voc.length c6) s.next) (anA { an0 with e := 2 } nilV nilV))
    refine bodyPost_ret (results_cc Try.results6 _ _ q1 q2 _ _ _ _ _ _ rfl rfl HXl.out.b4 HXl.out.b5 Try.underlying29 rfl (by kernel_rfl) Try.underlying38 rfl (by kernel_rfl)) rfl ?_
    have h5 := HX5.out.fr.size
    exact ⟨_, _, nilV, nilV, w5.heap.size, rfl, ((HO5.out.base HX4.out.fr.size).toN.lay HX5.out _ _).rs, h5, OB.nil _ _, OW.nil _ _, HXl.out.fr⟩
end Mod
end Go.Proofs.Ytlodbhlidgepfaa
