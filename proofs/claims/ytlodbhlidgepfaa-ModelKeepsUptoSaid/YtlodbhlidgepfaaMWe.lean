/- model: ingest, migrate. -/
import Derived.Test.YtlodbhlidgepfaaMWd
import Derived.StillTailTactics
set_option linter.unusedVariables false
set_option linter.unusedSimpArgs false
namespace Go.Proofs.Ytlodbhlidgepfaa
open Go.RowKit
open Voc Leb Bpe
namespace Mod
/-- the boxes of a state that came in and of two results -/
structure Bx (w wr : World) (q q1 q2 : Nat) (st r4 r5 : Array Value) (S : Nat → Prop) : Prop where
  fr : Fr w wr S
  b : Blk wr q TSt st
  b4 : Blk wr q1 TSt r4
  b5 : Blk wr q2 TAn r5
  lo : w.heap.size = q ∧ q + 1 = q1 ∧ q1 + 1 = q2
section
variable {w wr w' : World} {q q1 q2 : Nat} {st r4 r5 : Array Value} {S T : Nat → Prop}
theorem Bx.new (w : World) (st r4 r5 : Array Value) : Bx w (((w.alloc (.cells st TSt)).alloc (.cells r4 TSt)).alloc (.cells r5 TAn)) w.heap.size (w.heap.size + 1) (w.heap.size + 1 + 1) st r4 r5 NoneS := by
  have h1 : (w.alloc (.cells st TSt)).heap.size = w.heap.size + 1 := by simp
  have h2 : ((w.alloc (.cells st TSt)).alloc (.cells r4 TSt)).heap.size = w.heap.size + 1 + 1 := by simp
  have b1 := Blk.new w TSt st
  have b2 := Blk.new (w.alloc (.cells st TSt)) TSt r4
  have b3 := Blk.new ((w.alloc (.cells st TSt)).alloc (.cells r4 TSt)) TAn r5
  rw [h1] at b2
  rw [h2] at b3
  exact ⟨(((Fr.refl w NoneS).alloc _).alloc _).alloc _, (b1.alloc _).alloc _, b2.alloc _, b3, rfl, rfl, rfl⟩
theorem Bx.any (H : Bx w wr q q1 q2 st r4 r5 S) (hg : Fr wr w' T) (ht : ∀ k, T k → k < w.heap.size ∧ S k ∨ (k ≠ q ∧ k ≠ q1 ∧ k ≠ q2 ∧ ¬ k < w.heap.size)) : Bx w w' q q1 q2 st r4 r5 S := by
  have hq := H.lo
  refine ⟨H.fr.trans hg (fun i hi h => ?_), H.b.fr hg (fun h => ?_), H.b4.fr hg (fun h => ?_), H.b5.fr hg (fun h => ?_), H.lo⟩
  · rcases ht i h with h | h
    · exact h.2
    · omega
  all_goals rcases ht _ h with h | h <;> omega
theorem Bx.gr (H : Bx w wr q q1 q2 st r4 r5 S) (hg : Gr wr w') : Bx w w' q q1 q2 st r4 r5 S := H.any hg (fun _ h => h.elim)
theorem Bx.mono (H : Bx w wr q q1 q2 st r4 r5 S) (hs : ∀ k, k < w.heap.size → S k → T k) : Bx w wr q q1 q2 st r4 r5 T := ⟨H.fr.mono hs, H.b, H.b4, H.b5, H.lo⟩
/-- the results are laid -/
theorem Bx.lay (H : Bx w wr q q1 q2 st r4 r5 S) (c4 c5 : Array Value) : Bx w ((wr.setRow q1 c4).setRow q2 c5) q q1 q2 st c4 c5 S := by
  have hq := H.lo
  refine ⟨Sha.fr_setRow (Sha.fr_setRow H.fr (fun h => by omega) _) (fun h => by omega) _, Sha.blk_setRow_ne (Sha.blk_setRow_ne H.b (by omega) _) (by omega) _, Sha.blk_setRow_ne (Sha.blk_setRow H.b4 _) (by omega) _, Sha.blk_setRow (Sha.blk_setRow_ne H.b5 (by omega) _) _, H.lo⟩
theorem Bx.set (H : Bx w wr q q1 q2 st r4 r5 S) (i : Nat) (u : Value) : Bx w (wr.setCell ⟨q, i, none⟩ u) q q1 q2 (st.setIfInBounds i u) r4 r5 S :=
  ⟨H.fr.setCell (p := ⟨q, i, none⟩) (fun h => by have := H.lo; simp only at h; omega) u, H.b.set_ i u, H.b4.far (p := ⟨q, i, none⟩) (by have := H.lo; simp only; omega) u, H.b5.far (p := ⟨q, i, none⟩) (by have := H.lo; simp only; omega) u, H.lo⟩
/-- what the two stores leave unturned -/
theorem Bx.layFr (H : Bx w wr q q1 q2 st r4 r5 S) (c4 c5 : Array Value) : Fr wr ((wr.setRow q1 c4).setRow q2 c5) (fun k => k = q1 ∨ k = q2) :=
  Sha.fr_setRow (Sha.fr_setRow (Fr.refl wr _) (fun _ => Or.inl rfl) _) (fun _ => Or.inr rfl) _
end
theorem OS.lay {b : Nat} {w wr : World} {q q1 q2 : Nat} {st r4 r5 : Array Value} {S : Nat → Prop} {dv pv : Value} {s : St} (h : OS b wr dv pv s) (H : Bx w wr q q1 q2 st r4 r5 S) (c4 c5 : Array Value) : OS b ((wr.setRow q1 c4).setRow q2 c5) dv pv s :=
  (h.far H.b4 (by decide) (by decide) (by decide) (Sha.fr_setRow (S := fun k => k = q1) (Fr.refl wr _) (fun _ => rfl) c4)).far (Sha.blk_setRow_ne H.b5 (by have := H.lo; omega) c4) (by decide) (by decide) (by decide) (Sha.fr_setRow (S := fun k => k = q2) (Fr.refl _ _) (fun _ => rfl) c5)
theorem Blk.to {g : Nat} {t : TypeId} {cs cs' : Array Value} {w : World} (h : Blk w g t cs) (e : cs = cs') : Blk w g t cs' := e ▸ h
theorem OS.push {b B5 : Nat} {w5 w7 : World} {dv pv ov' : Value} {s : St} {D : List (Int × Sv)} {c : Dc} {sv : Sv} (hd : w5.ownsRow b TDoc 2 dv s.docs.length (D.flatMap encD)) (ha : Al (ODR b w5) D s.docs) (hv : w5.ownsRow b TPc 5 pv s.voc.length (s.voc.flatMap encP))
    (hf : Fr w5 w7 (fun k => dv.ownBlock = some k)) (hb : OB w5 B5 sv.v c.b) (hB : b ≤ B5) (ho : w7.ownsRow b TDoc 2 ov' (s.docs.length + 1) (D.flatMap encD ++ [(c.id, sv)].flatMap encD)) (n : Int) : OS b w7 ov' pv ⟨s.docs ++ [c], n, s.voc⟩ := by
  have hfb : ∀ {v : Value} {n : Nat} {l : List Value} {B : Nat}, w5.ownsRow B TU8 1 v n l → ∀ k, v.ownBlock = some k → ¬ dv.ownBlock = some k := fun h k hk => own_own_ne h hd (by decide) k hk
  refine ⟨⟨D ++ [(c.id, sv)], ?_, Al.snoc ⟨rfl, (hb.fr hf (hfb hb.own)).base hB⟩ (ha.imp fun a c h => ⟨h.1, h.2.fr hf (hfb h.2.own)⟩)⟩, hf.owns hv (fun k hk => own_own_ne hv hd (by decide) k hk)⟩
  rw [List.flatMap_append]
  simp only [List.length_append, List.length_singleton]
  exact ho
def stZ : Array Value := stA nilV nilV 0
def anZ : Array Value := anA an0 nilV nilV
def InPost (b : Nat) (w : World) (dv pv : Value) (s' : St) (a : An) (S : Nat → Prop) (e : Ending) (w' : World) : Prop :=
  ∃ dv' pv', e = .returned (.tuple #[.agg (stA dv' pv' s'.next), .agg (anA a nilV nilV)]) ∧ OS b w' dv' pv' s' ∧ Fr w w' S
set_option maxRecDepth 20000 in
set_option maxHeartbeats 8000000 in
theorem ingest_any {b : Nat} {w : World} {dv pv vb : Value} {s : St} {bs : List Int} (HO : OS b w dv pv s) (hn : s.docs.length < 1048000) (hnx : 0 ≤ s.next ∧ s.next < 18446744073709551616) (HV : SL encB w vb bs) (hbl : bs.length ≤ 1048576) (hb : b ≤ w.heap.size) :
    Calls Try.prog 23 #[.agg (stA dv pv s.next), vb] w (InPost b w dv pv (ingE s bs).1 (ingE s bs).2 (fun k => dv.ownBlock = some k)) := by
  obtain ⟨A2, cap2, rfl⟩ := SL.form HV
  have HO0 := Lib.hid HO
  obtain ⟨D, hd, ha⟩ := HO.ex
  obtain ⟨A, ca, rfl⟩ := own_formN hd
  obtain ⟨Ap, cp, rfl⟩ := own_formN HO.voc
  have HX := Lib.hid (Bx.new w (stA (.slice A s.docs.length ca) (.slice Ap s.voc.length cp) s.next) stZ anZ)
  have Hbl := Lib.hid hbl
  have Hb := Lib.hid hb
  have Hn := Lib.hid hn
  have HVs := Lib.hid HV
  have hl' : (bs.length : Int) ≤ 1048576 := by omega
  obtain ⟨q, hq⟩ : ∃ q, w.heap.size = q := ⟨_, rfl⟩
  rw [hq] at HX
  obtain ⟨q1, hq1⟩ : ∃ q', q + 1 = q' := ⟨_, rfl⟩
  rw [hq1] at HX
  obtain ⟨q2, hq2⟩ : ∃ q', q1 + 1 = q' := ⟨_, rfl⟩
  rw [hq2] at HX
  clear HO hd ha hn HV hbl hb
  unfold stA
  go_enter Try.func23, Try.ntmps23
  go_upto_region 1 with (fail)
  change Code.wp _ _ _ _ (((w.alloc (.cells (stA (.slice A s.docs.length ca) (.slice Ap s.voc.length cp) s.next) TSt)).alloc (.cells stZ TSt)).alloc (.cells anZ TAn))
  clear hq hq1 hq2
  generalize hx : World.alloc (World.alloc (World.alloc w _) _) _ = w3 at HX ⊢
  clear hx
  have c0 : w3.cell? ⟨q, 0, none⟩ = some (.slice A s.docs.length ca) := by rw [HX.out.b.cell]; rfl
  have c1 : w3.cell? ⟨q, 1, none⟩ = some (.int .u64 s.next) := by rw [HX.out.b.cell]; rfl
  have c2 : w3.cell? ⟨q, 2, none⟩ = some (.slice Ap s.voc.length cp) := by rw [HX.out.b.cell]; rfl
  by_cases h4 : 4096 < bs.length
  case pos =>
    have h4i : (4096 : Int) < (bs.length : Int) := by omega
    have He := Lib.hid (show ingE s bs = (s, { an0 with e := 12 }) by unfold ingE; rw [if_pos h4])
    clear h4
    go_wp2_with (first
      | refine Sha.wpList_build_to rfl TAn _ rfl (anA { an0 with e := 12 } nilV nilV) (by kernel_rfl) ?_
      | refine wpList_store_row rfl _ _ _ rfl q1 (stA (.slice A s.docs.length ca) (.slice Ap s.voc.length cp) s.next) rfl rfl TSt _ HX.out.b4 (by kernel_rfl) (by kernel_rfl) (by kernel_rfl) ?_
      | refine wpList_store_row rfl _ _ _ rfl q2 (anA { an0 with e := 12 } nilV nilV) rfl rfl TAn _ (Sha.blk_setRow_ne HX.out.b5 (by have := HX.out.lo; omega) _) (by kernel_rfl) (by kernel_rfl) (by kernel_rfl) ?_)
    have HXl := Lib.hid (HX.out.lay (stA (.slice A s.docs.length ca) (.slice Ap s.voc.length cp) s.next) (anA { an0 with e := 12 } nilV nilV))
    refine bodyPost_ret (results_cc Try.results23 _ _ q1 q2 _ _ _ _ _ _ rfl rfl HXl.out.b4 HXl.out.b5 Try.underlying29 rfl (by kernel_rfl) Try.underlying38 rfl (by kernel_rfl)) rfl ?_
    rw [He.out]
    exact ⟨_, _, rfl, (HO0.out.gr HX.out.fr).lay HX.out _ _, HXl.out.fr.mono (fun _ _ h => h.elim)⟩
  have h4i : ¬ (4096 : Int) < (bs.length : Int) := by omega
  by_cases hx : 4294967295 < s.next
  case pos =>
    have He := Lib.hid (show ingE s bs = (s, { an0 with e := 3 }) by unfold ingE; rw [if_neg h4, if_pos hx])
    clear h4
    go_wp2_with (first
      | refine Sha.wpList_build_to rfl TAn _ rfl (anA { an0 with e := 3 } nilV nilV) (by kernel_rfl) ?_
      | refine wpList_store_row rfl _ _ _ rfl q1 (stA (.slice A s.docs.length ca) (.slice Ap s.voc.length cp) s.next) rfl rfl TSt _ HX.out.b4 (by kernel_rfl) (by kernel_rfl) (by kernel_rfl) ?_
      | refine wpList_store_row rfl _ _ _ rfl q2 (anA { an0 with e := 3 } nilV nilV) rfl rfl TAn _ (Sha.blk_setRow_ne HX.out.b5 (by have := HX.out.lo; omega) _) (by kernel_rfl) (by kernel_rfl) (by kernel_rfl) ?_)
    have HXl := Lib.hid (HX.out.lay (stA (.slice A s.docs.length ca) (.slice Ap s.voc.length cp) s.next) (anA { an0 with e := 3 } nilV nilV))
    refine bodyPost_ret (results_cc Try.results23 _ _ q1 q2 _ _ _ _ _ _ rfl rfl HXl.out.b4 HXl.out.b5 Try.underlying29 rfl (by kernel_rfl) Try.underlying38 rfl (by kernel_rfl)) rfl ?_
    rw [He.out]
    exact ⟨_, _, rfl, (HO0.out.gr HX.out.fr).lay HX.out _ _, HXl.out.fr.mono (fun _ _ h => h.elim)⟩
  have He := Lib.hid (show ingE s bs = (⟨s.docs ++ [⟨s.next, bs⟩], s.next + 1, s.voc⟩, { an0 with id := s.next }) by unfold ingE; rw [if_neg h4, if_neg hx])
  have hnx2 : s.next ≤ 4294967295 := by omega
  have hnx1 := hnx.1
  clear h4 hx hnx
  obtain ⟨i0, hi0, hz0, hz1, hz2⟩ := info_parts info_doc
  have HG3 := Lib.hid (show Gr w w3 from HX.out.fr)
  have HD := Lib.hid (HO0.out.ex)
  obtain ⟨D, hd, ha⟩ := HO0.out.ex
  have HDo := Lib.hid hd
  have HDa := Lib.hid ha
  clear hd ha HD
  have HCl := Lib.hid (cloneB_any ((HVs.out.gr HG3.out).gr ((Fr.refl w3 NoneS).drew)) (by have := Hbl.out; omega))
  go_upto_region 5 with (fail)
  go_cut [] (fun wx => ∃ (Av : Option Addr) (cv : Nat), Hid (Bx w wx q q1 q2 (stA (.slice Av (s.docs.length + 1) cv) (.slice Ap s.voc.length cp) s.next) stZ anZ (fun k => (Value.slice A s.docs.length ca).ownBlock = some k)) ∧ Hid (OS b wx (.slice Av (s.docs.length + 1) cv) (.slice Ap s.voc.length cp) ⟨s.docs ++ [⟨s.next, bs⟩], s.next, s.voc⟩))
  case first =>
    go_region_law (first
      | (go_simp; go_at_call 25; refine HCl.out.mono ?_; rintro e w5 ⟨v, rfl, ho, hg⟩; obtain ⟨Ac, cc, rfl⟩ := own_formN ho.own; have HO5 := Lib.hid ho; have HK5 := Lib.hid (show Gr w3 w5 from (Fr.refl w3 NoneS).drew.trans hg (fun _ _ h => h)); have HX5 := Lib.hid (HX.out.gr HK5.out); have HG5 := Lib.hid (HG3.out.trans HK5.out (fun _ _ h => h)); have e5 : w5.cell? ⟨q, 0, none⟩ = some (.slice A s.docs.length ca) := by rw [HX5.out.b.cell]; rfl
         have e6 : w5.cell? ⟨q, 1, none⟩ = some (.int .u64 s.next) := by rw [HX5.out.b.cell]; rfl
         have l5 := HX5.out.b.lt
         clear ho hg)
      | (refine step_append_sl _ encD rfl _ _ TDocs rfl b TDoc i0 (.agg #[.int .u64 0, .slice none 0 0]) 2 32 Try.underlying23 hi0 hz0 hz1 hz2 rfl (by decide) (.slice A s.docs.length ca) s.docs.length (D.flatMap encD) (by rfl) (by exact (HG5.out.alloc _).owns HDo.out (fun _ _ h => h)) (.slice (some ⟨w5.heap.size, 0, none⟩) 1 1) [(s.next, ⟨Ac, bs.length, cc⟩)] (by rfl) (by exact sl_one (enc := encD) w5 (s.next, ⟨Ac, bs.length, cc⟩) #[.int .u64 s.next, .slice Ac bs.length cc] rfl TDoc) (fun _ => rfl) encD_one (by have := Hn.out; unfold maxLen; simp; omega) (by have := Hn.out; simp; omega) (by have h1 := Hb.out; have h2 := (HG5.out.alloc (.cells #[.int .u64 s.next, .slice Ac bs.length cc] TDoc)).size; exact Nat.le_trans h1 h2) ?_
         intro v7 w7 ho hf hat
         obtain ⟨Av, cv, rfl⟩ := own_formN ho
         have HO7 := Lib.hid ho
         have HF7 := Lib.hid hf
         have HX7 := Lib.hid (((HX5.out.gr ((Fr.refl w5 NoneS).alloc _)).mono (T := fun k => (Value.slice A s.docs.length ca).ownBlock = some k) (fun _ _ h => h.elim)).any hf (fun k hk => Or.inl ⟨(HDo.out.lt k hk).2, hk⟩))
         have e7 : w7.cell? ⟨q, 0, none⟩ = some (.slice A s.docs.length ca) := by rw [HX7.out.b.cell]; rfl
         have z7 := HX7.out.b.frozen 0
         clear ho hf hat))
    all_goals (try go_wp2_with fail)
    all_goals go_meet
    all_goals
      have hg6 := HG5.out.alloc (.cells #[.int .u64 s.next, .slice Ac bs.length cc] TDoc)
      have hp := OS.push (s := s) (c := ⟨s.next, bs⟩) (hg6.owns HDo.out (fun _ _ h => h)) (HDa.out.imp fun a c h => ⟨h.1, h.2.gr hg6⟩) (hg6.owns HO0.out.voc (fun _ _ h => h)) HF7.out (sv := ⟨Ac, bs.length, cc⟩) (HO5.out.gr ((Fr.refl w5 NoneS).alloc _)) (by have := Hb.out; have := HG3.out.size; simp; omega) HO7.out s.next
      exact ⟨_, _, HX7.out.set 0 _, hp.far HX7.out.b (by decide) (by decide) (by decide) ((Fr.refl w7 (fun k => k = q)).setCell (p := ⟨q, 0, none⟩) (fun _ => rfl) _)⟩
  case rest =>
  obtain ⟨Av, cv, HXc, HOc⟩ := hcut
  have e1 : wc.cell? ⟨q, 1, none⟩ = some (.int .u64 s.next) := by rw [HXc.out.b.cell]; rfl
  have z1 := HXc.out.b.frozen 1
  have hwr : IntKind.u64.wrap (s.next + 1) = s.next + 1 := IntWalk.u64_in _ ⟨by omega, by omega⟩
  have hws : IntKind.u64.wrap (s.next + 1 - 1) = s.next := by rw [show s.next + 1 - 1 = s.next by omega]; exact IntWalk.u64_in _ ⟨by omega, by omega⟩
  have hws2 : IntKind.u64.wrap s.next = s.next := IntWalk.u64_in _ ⟨by omega, by omega⟩
  clear c0 c1 c2
  go_upto_region 7 with (fail)
  have HX6 := Lib.hid (HXc.out.set 1 (.int .u64 (s.next + 1)))
  have HO6 := Lib.hid (HOc.out.far HXc.out.b (by decide) (by decide) (by decide) ((Fr.refl wc (fun k => k = q)).setCell (p := ⟨q, 1, none⟩) (fun _ => rfl) (.int .u64 (s.next + 1))))
  clear e1 z1
  generalize World.setCell wc _ _ = w6 at HX6 HO6 ⊢
  have k0 : w6.cell? ⟨q, 0, none⟩ = some (.slice Av (s.docs.length + 1) cv) := by rw [HX6.out.b.cell]; rfl
  have k1 : w6.cell? ⟨q, 1, none⟩ = some (.int .u64 (s.next + 1)) := by rw [HX6.out.b.cell]; rfl
  have k2 : w6.cell? ⟨q, 2, none⟩ = some (.slice Ap s.voc.length cp) := by rw [HX6.out.b.cell]; rfl
  have Hkey := Lib.hid (show ∀ wx, Fr w6 wx (fun k => k = q1 ∨ k = q2) → wx.cell? ⟨q, 0, none⟩ = some (.slice Av (s.docs.length + 1) cv) ∧ wx.cell? ⟨q, 1, none⟩ = some (.int .u64 (s.next + 1)) ∧ wx.cell? ⟨q, 2, none⟩ = some (.slice Ap s.voc.length cp) from fun wx hg => by
    have hb := HX6.out.b.fr hg (by have := HX6.out.lo; omega)
    exact ⟨by rw [hb.cell]; rfl, by rw [hb.cell]; rfl, by rw [hb.cell]; rfl⟩)
  clear k0 k1 k2
  have HT0 := Lib.hid (show Fr w6 w6.drew (fun k => k = q1 ∨ k = q2) from (Fr.refl w6 _).drew)
  refine wp_region_held_drew (S := fun wx => Fr w6 wx (fun k => k = q1 ∨ k = q2)) (by kernel_rfl) HT0.out (fun hHeld => ?_)
  refine wpAnyH_take (i := 0) (v := .agg #[.slice Av (s.docs.length + 1) cv, .int .u64 (s.next + 1), .slice Ap s.voc.length cp]) rfl (by kernel_rfl) (by kernel_rfl) (by kernel_rfl) (fun _ _ _ h => h) (Or.inl ⟨by kernel_rfl, ?_⟩) hHeld ?_
  · intro w hSw; obtain ⟨k0, k1, k2⟩ := Hkey.out _ hSw; go_simp
  try simp only [Act.put, List.getElem_toArray, List.getElem_cons_succ, List.getElem_cons_zero, List.setIfInBounds_toArray, List.set_cons_zero, List.set_cons_succ]
  refine wpAnyH_take (i := 1) (v := .pointer (some ⟨q, 1, none⟩)) rfl (by kernel_rfl) (by kernel_rfl) (by kernel_rfl) (fun _ _ _ h => h) (Or.inl ⟨by kernel_rfl, ?_⟩) hHeld ?_
  · intro w hSw; obtain ⟨k0, k1, k2⟩ := Hkey.out _ hSw; go_simp
  try simp only [Act.put, List.getElem_toArray, List.getElem_cons_succ, List.getElem_cons_zero, List.setIfInBounds_toArray, List.set_cons_zero, List.set_cons_succ]
  refine wpAnyH_take (i := 2) (v := .int .u64 (s.next + 1)) rfl (by kernel_rfl) (by kernel_rfl) (by kernel_rfl) (fun _ _ _ h => h) (Or.inl ⟨by kernel_rfl, ?_⟩) hHeld ?_
  · intro w hSw; obtain ⟨k0, k1, k2⟩ := Hkey.out _ hSw; go_simp
  try simp only [Act.put, List.getElem_toArray, List.getElem_cons_succ, List.getElem_cons_zero, List.setIfInBounds_toArray, List.set_cons_zero, List.set_cons_succ]
  refine wpAnyH_take (i := 3) (v := .int .u64 s.next) rfl (by kernel_rfl) (by kernel_rfl) (by kernel_rfl) (fun _ _ _ h => h) (Or.inl ⟨by kernel_rfl, ?_⟩) hHeld ?_
  · intro w hSw; obtain ⟨k0, k1, k2⟩ := Hkey.out _ hSw; go_simp
  try simp only [Act.put, List.getElem_toArray, List.getElem_cons_succ, List.getElem_cons_zero, List.setIfInBounds_toArray, List.set_cons_zero, List.set_cons_succ]
  refine wpAnyH_take (i := 4) (v := .agg #[.int .i64 0, .int .u64 s.next, .int .i64 0, .slice none 0 0, .slice none 0 0, .bool false]) rfl (by kernel_rfl) (by kernel_rfl) (by kernel_rfl) (fun _ _ _ h => h) (Or.inl ⟨by kernel_rfl, ?_⟩) hHeld ?_
  · intro w hSw; obtain ⟨k0, k1, k2⟩ := Hkey.out _ hSw; go_simp
  try simp only [Act.put, List.getElem_toArray, List.getElem_cons_succ, List.getElem_cons_zero, List.setIfInBounds_toArray, List.set_cons_zero, List.set_cons_succ]
  refine wpAnyH_ready (rs := [5]) (by kernel_rfl) (by simp) ?_
  refine AllReadyH.cons rfl (fun K hK => ?_) AllReadyH.nil
  rw [if_pos (by rfl)]
  refine wp_store_row TSt _ _ rfl q1 (stA (.slice Av (s.docs.length + 1) cv) (.slice Ap s.voc.length cp) (s.next + 1)) rfl rfl TSt _ HX6.out.b4 (by kernel_rfl) (by kernel_rfl) (by kernel_rfl) ?_
  refine hK.out _ _ (Sha.fr_setRow hHeld (fun _ => Or.inl rfl) _) (fun hHeld => ?_)
  clear hK K
  try simp only [Act.put, List.getElem_toArray, List.getElem_cons_succ, List.getElem_cons_zero, List.setIfInBounds_toArray, List.set_cons_zero, List.set_cons_succ]
  refine wpAnyH_ready (rs := [6]) (by kernel_rfl) (by simp) ?_
  refine AllReadyH.cons rfl (fun K hK => ?_) AllReadyH.nil
  rw [if_pos (by rfl)]
  refine wp_store_row TAn _ _ rfl q2 (anA { an0 with id := s.next } nilV nilV) rfl rfl TAn _ (Sha.blk_setRow_ne HX6.out.b5 (by have := HX6.out.lo; omega) _) (by kernel_rfl) (by kernel_rfl) (by kernel_rfl) ?_
  refine hK.out _ _ (Sha.fr_setRow hHeld (fun _ => Or.inr rfl) _) (fun hHeld => ?_)
  clear hK K
  try simp only [Act.put, List.getElem_toArray, List.getElem_cons_succ, List.getElem_cons_zero, List.setIfInBounds_toArray, List.set_cons_zero, List.set_cons_succ]
  refine wpAnyH_done (by kernel_rfl) ?_ _
  have HX7 := Lib.hid (HX6.out.gr (Fr.refl w6 NoneS).drew)
  have HO7 := Lib.hid (HO6.out.gr (Fr.refl w6 NoneS).drew)
  generalize w6.drew = w7 at HX7 HO7 ⊢
  go_wp2_with fail
  have HXl := Lib.hid (HX7.out.lay (stA (.slice Av (s.docs.length + 1) cv) (.slice Ap s.voc.length cp) (s.next + 1)) (anA { an0 with id := s.next } nilV nilV))
  refine bodyPost_ret (results_cc Try.results23 _ _ q1 q2 _ _ _ _ _ _ rfl rfl HXl.out.b4 HXl.out.b5 Try.underlying29 rfl (by kernel_rfl) Try.underlying38 rfl (by kernel_rfl)) rfl ?_
  rw [He.out]
  have hos := HO7.out.lay HX7.out (stA (.slice Av (s.docs.length + 1) cv) (.slice Ap s.voc.length cp) (s.next + 1)) (anA { an0 with id := s.next } nilV nilV)
  exact ⟨_, _, rfl, ⟨hos.ex, hos.voc⟩, HXl.out.fr⟩
end Mod
end Go.Proofs.Ytlodbhlidgepfaa
