/- model: Do of a state and a deed that may be. -/
import Derived.Test.YtlodbhlidgepfaaMWh
set_option linter.unusedVariables false
set_option linter.unusedSimpArgs false
namespace Go.Proofs.Ytlodbhlidgepfaa
open Go.RowKit
open Voc Leb Bpe
namespace Mod
theorem OSn.form {b n : Nat} {w : World} {dv pv : Value} {s : St} (h : OSn b n w dv pv s) : (∃ A c, dv = .slice A s.docs.length c) ∧ ∃ A c, pv = .slice A s.voc.length c := h.rs.form
/-- behind the second switch -/
def DoC (w : World) (q p q1 q2 b8 : Nat) (s' : St) (a : An) (n : Nat) (dd : Array Value) (wx : World) : Prop :=
  ∃ dv pv bv iv, Bd w wx q p q1 q2 (stA dv pv s'.next) dd stZ anZ ∧ Blk wx b8 TAn (anA a bv iv) ∧ OSn w.heap.size n wx dv pv s' ∧ OB wx n bv a.b ∧ OW wx n iv a.ids
def doK (s : St) (d : Dd) (K : Nat) (T : Bool) : St × An :=
  if d.k = 1 then ingE s d.b
  else if (d.k = 2 ∨ d.k = 3 ∨ d.k = 4) ∧ T = false then (s, { an0 with e := 7 })
  else if d.k = 9 then migE s d.b
  else if d.k = 2 then (⟨s.docs.eraseIdx K, s.next, s.voc⟩, { an0 with id := d.id })
  else if d.k = 3 then (s, { an0 with b := (s.docs.getD K ⟨0, []⟩).b })
  else if d.k = 4 then (s, { an0 with e := (encE s.voc (s.docs.getD K ⟨0, []⟩).b).2, ids := (encE s.voc (s.docs.getD K ⟨0, []⟩).b).1 })
  else if d.k = 5 then (s, { an0 with ids := ((s.docs.drop K).take d.n.toNat).map (·.id), more := decide (d.n < ((s.docs.drop K).length : Int)) })
  else if d.k = 6 then (s, { an0 with n := s.docs.length })
  else (s, an0)
theorem doE_K {s : St} {d : Dd} (hm : mayB s = true) (hd : dmayE d = true) : doE s d = doK s d (atE s.docs d.id) (hasE s.docs d.id) := by
  unfold doE doK
  rw [if_neg (by rw [hm, hd]; decide)]
theorem kinds {d : Dd} (hd : dmayE d = true) : d.k = 1 ∨ d.k = 2 ∨ d.k = 3 ∨ d.k = 4 ∨ d.k = 5 ∨ d.k = 6 ∨ d.k = 7 ∨ d.k = 8 ∨ d.k = 9 := by
  unfold dmayE at hd
  by_cases h1 : d.k = 6 ∨ d.k = 7 ∨ d.k = 8
  · omega
  rw [if_neg h1] at hd
  by_cases h2 : d.k = 2 ∨ d.k = 3 ∨ d.k = 4
  · omega
  rw [if_neg h2] at hd
  by_cases h3 : d.k = 5
  · omega
  rw [if_neg h3] at hd
  by_cases h4 : d.k = 1 ∨ d.k = 9
  · omega
  rw [if_neg h4] at hd
  cases hd
theorem ing_an (s : St) (b : List Int) : (ingE s b).2.b = [] ∧ (ingE s b).2.ids = [] := by
  unfold ingE
  repeat' split
  all_goals exact ⟨rfl, rfl⟩
theorem mig_an (s : St) (b : List Int) : (migE s b).2.b = [] ∧ (migE s b).2.ids = [] := by
  unfold migE
  repeat' split
  all_goals exact ⟨rfl, rfl⟩
theorem enc_tok (xs : List Pc) (bs : List Int) : ∀ x ∈ (encE xs bs).1, 0 ≤ x ∧ x ≤ (xs.length : Int) := by
  unfold encE
  split
  · intro x hx; cases hx
  · split
    · intro x hx; cases hx
    · refine encL_ind (xs := xs) (fun l => ∀ x ∈ l, 0 ≤ x ∧ x ≤ (xs.length : Int)) (fun m i t hm hs => ?_) (row0 xs bs).length (row0 xs bs) (Nat.le_refl _) ?_
      · intro x hx
        have ht := fndAt_lt (scan_some hs).2.1
        unfold Bpe.joined at hx
        rcases List.mem_append.1 hx with h' | h'
        · exact hm x (List.mem_of_mem_take h')
        · rcases List.mem_cons.1 h' with e | e
          · subst e; omega
          · exact hm x (List.mem_of_mem_drop e)
      · intro x hx
        obtain ⟨c, _, rfl⟩ := List.mem_map.1 hx
        have : ∀ l : List Pc, tokF c l ≤ l.length := by
          intro l
          induction l with
          | nil => exact Nat.le_refl _
          | cons q r ih => simp only [tokF, List.length_cons]; split <;> omega
        have := this xs
        omega
theorem enc_lenM (xs : List Pc) (bs : List Int) : (encE xs bs).1.length ≤ bs.length := by
  unfold encE
  split
  · exact Nat.zero_le _
  · split
    · exact Nat.zero_le _
    · have := encL_le (xs := xs) (row0 xs bs); rw [row0_len] at this; exact this
/-- numbers are put behind one another into the answer -/
structure Ac (w wr : World) (q p q1 q2 b8 n9 : Nat) (st dd : Array Value) (dv pv : Value) (s : St) (a : An) (iv : Value) (l : List Int) : Prop where
  bx : Bd w wr q p q1 q2 st dd stZ anZ
  bk : Blk wr b8 TAn (anA a nilV iv)
  os : OSn w.heap.size n9 wr dv pv s
  ow : OW wr n9 iv l
  lo : q2 < b8 ∧ b8 < n9 ∧ n9 ≤ wr.heap.size
section
variable {w wr w' w5 w7 : World} {q p q1 q2 b8 n9 : Nat} {st dd : Array Value} {dv pv iv : Value} {s : St} {a : An} {l : List Int}
theorem Ac.any (H : Ac w wr q p q1 q2 b8 n9 st dd dv pv s a iv l) (hg : Gr wr w') : Ac w w' q p q1 q2 b8 n9 st dd dv pv s a iv l :=
  ⟨H.bx.gr hg, H.bk.fr hg (fun h => h), H.os.gr hg, hg.owns H.ow (fun _ _ h => h), H.lo.1, H.lo.2.1, Nat.le_trans H.lo.2.2 hg.size⟩
theorem Ac.push {iv' : Value} {x : Int} (H : Ac w w5 q p q1 q2 b8 n9 st dd dv pv s a iv l) (hf : Fr w5 w7 (fun k => iv.ownBlock = some k)) (ho : w7.ownsRow n9 TU64 1 iv' (l.length + 1) (l.flatMap encW ++ [x].flatMap encW)) :
    Ac w (w7.setCell ⟨b8, 4, none⟩ iv') q p q1 q2 b8 n9 st dd dv pv s a iv' (l ++ [x]) := by
  have hlo := H.lo
  have hlt : ∀ k, iv.ownBlock = some k → n9 ≤ k := fun k hk => (World.ownsRow.lt H.ow k hk).1
  have hb : Blk w7 b8 TAn (anA a nilV iv) := H.bk.fr hf (fun h => by have := hlt _ h; omega)
  have hs : Fr w7 (w7.setCell ⟨b8, 4, none⟩ iv') (fun k => k = b8) := (Fr.refl w7 (fun k => k = b8)).setCell (p := ⟨b8, 4, none⟩) (fun _ => rfl) _
  refine ⟨(H.bx.any hf (fun k h => by have := hlt k h; omega)).any hs (fun k h => by omega), hb.set_ 4 iv', (H.os.behind hf hlt).far hb (by decide) (by decide) (by decide) hs, ?_, hlo.1, hlo.2.1, ?_⟩
  · have := hs.owns ho (fun k hk e => own_blk_ne ho hb (by decide) (e ▸ hk))
    unfold OW
    rw [List.length_append, List.flatMap_append]
    exact this
  · exact Nat.le_trans (Nat.le_trans hlo.2.2 hf.size) hs.size
end
set_option maxRecDepth 20000 in
set_option maxHeartbeats 8000000 in
theorem do_k19 {B : Nat → Prop} {w : World} {dv pv bv : Value} {s : St} {d : Dd} (HR : RS B w dv pv s) (hw : wfS s) (hnd : s.docs.length < 1048000) (HV : SL encB w bv d.b) (hdb : Leb.Bs d.b) (hdl : d.b.length ≤ 1048576) (hm : mayB s = true) (hd : dmayE d = true) (hset : d.k = 1 ∨ d.k = 9) :
    Calls Try.prog 6 #[.agg (stA dv pv s.next), .agg (ddA d bv)] w (DoPost w (doE s d).1 (doE s d).2) := by
  have HM := Lib.hid (fun wx (hg : Gr w wx) => mayM_any (HR.gr hg) hw)
  have HDm := Lib.hid (fun wx (hg : Gr w wx) => dmay_any d (HV.gr hg) hdl)
  have HOw := Lib.hid (fun wx (hg : Gr w wx) => own_any (HR.gr hg) hw)
  have HVs := Lib.hid HV
  have HW := Lib.hid hw
  have Hnd := Lib.hid hnd
  have Hdb := Lib.hid hdb
  have Hdl := Lib.hid hdl
  have Hmp := Lib.hid (may_parts hm)
  have hRe := doE_K hm hd
  obtain ⟨⟨s', a'⟩, hR⟩ : ∃ R, doE s d = R := ⟨_, rfl⟩
  rw [hR] at hRe
  rw [hR]
  have HRe := Lib.hid hRe.symm
  clear hRe hR
  have Hkk := Lib.hid hset
  clear hset
  rw [hm] at HM
  rw [hd] at HDm
  have Hmm := Lib.hid (And.intro hm hd)
  obtain ⟨⟨A, ca, rfl⟩, A2, ca2, rfl⟩ := HR.form
  obtain ⟨A3, ca3, rfl⟩ := SL.form HV
  have hl3 : (d.b.length : Int) ≤ 1048576 := by omega
  have hn3 : (s.docs.length : Int) ≤ 1048000 := by omega
  have HX := Lib.hid (Bd.new w (stA (.slice A s.docs.length ca) (.slice A2 s.voc.length ca2) s.next) (ddA d (.slice A3 d.b.length ca3)) stZ anZ)
  obtain ⟨q, hq⟩ : ∃ q, w.heap.size = q := ⟨_, rfl⟩
  rw [hq] at HX
  obtain ⟨p, hp⟩ : ∃ q', q + 1 = q' := ⟨_, rfl⟩
  rw [hp] at HX
  obtain ⟨q1, hq1⟩ : ∃ q', p + 1 = q' := ⟨_, rfl⟩
  rw [hq1] at HX
  obtain ⟨q2, hq2⟩ : ∃ q', q1 + 1 = q' := ⟨_, rfl⟩
  rw [hq2] at HX
  clear HR hw HV hdb hdl hm hd hnd
  unfold stA at HM HOw ⊢
  unfold ddA at HDm ⊢
  go_enter Try.func6, Try.ntmps6
  go_upto_region 1 with (fail)
  change Code.wp _ _ _ _ ((((w.alloc (.cells (stA (.slice A s.docs.length ca) (.slice A2 s.voc.length ca2) s.next) TSt)).alloc (.cells (ddA d (.slice A3 d.b.length ca3)) TDd)).alloc (.cells stZ TSt)).alloc (.cells anZ TAn))
  clear hq hp hq1 hq2
  generalize hx : World.alloc (World.alloc (World.alloc (World.alloc w _) _) _) _ = w3 at HX ⊢
  clear hx
  have c0 : w3.cell? ⟨q, 0, none⟩ = some (.slice A s.docs.length ca) := by rw [HX.out.b.cell]; rfl
  have c1 : w3.cell? ⟨q, 1, none⟩ = some (.int .u64 s.next) := by rw [HX.out.b.cell]; rfl
  have c2 : w3.cell? ⟨q, 2, none⟩ = some (.slice A2 s.voc.length ca2) := by rw [HX.out.b.cell]; rfl
  go_upto_region 3 with (first
      | (go_at_call 7; refine (HM.out _ HX.out.fr).mono ?_; rintro e w3a ⟨rfl, hg⟩; have HX3 := Lib.hid (HX.out.gr hg)
         have d0 : w3a.cell? ⟨p, 0, none⟩ = some (.int .u8 d.k) := by rw [HX3.out.bp.cell]; rfl
         have d1 : w3a.cell? ⟨p, 1, none⟩ = some (.int .u64 d.id) := by rw [HX3.out.bp.cell]; rfl
         have d2 : w3a.cell? ⟨p, 2, none⟩ = some (.int .i64 d.n) := by rw [HX3.out.bp.cell]; rfl
         have d3 : w3a.cell? ⟨p, 3, none⟩ = some (.slice A3 d.b.length ca3) := by rw [HX3.out.bp.cell]; rfl
         clear hg)
      | (go_at_call 20; refine (HDm.out _ HX3.out.fr).mono ?_; rintro e w4 ⟨rfl, hg⟩; have HX4 := Lib.hid (HX3.out.gr hg); clear hg))
  clear c0 c1 c2 d0 d1 d2 d3
  have k0 : w4.cell? ⟨q, 0, none⟩ = some (.slice A s.docs.length ca) := by rw [HX4.out.b.cell]; rfl
  have k1 : w4.cell? ⟨q, 1, none⟩ = some (.int .u64 s.next) := by rw [HX4.out.b.cell]; rfl
  have k2 : w4.cell? ⟨q, 2, none⟩ = some (.slice A2 s.voc.length ca2) := by rw [HX4.out.b.cell]; rfl
  go_upto_region 4 with (first
      | (go_at_call 21; refine (HOw.out _ HX4.out.fr).mono ?_; rintro e w5 ⟨dv5, pv5, rfl, ho, hg⟩; obtain ⟨⟨A5, c5, rfl⟩, A6, c6, rfl⟩ := ho.rs.form; have HO4 := Lib.hid ho; have HO5 := Lib.hid (ho.base HX4.out.fr.size); have HX5 := Lib.hid (HX4.out.gr hg); clear ho hg)
      | refine wpList_store_row rfl _ _ _ rfl q (stA (.slice A5 s.docs.length c5) (.slice A6 s.voc.length c6) s.next) rfl rfl TSt _ HX5.out.b (by kernel_rfl) (by kernel_rfl) (by kernel_rfl) ?_)
  have HX6 := Lib.hid (HX5.out.row (stA (.slice A5 s.docs.length c5) (.slice A6 s.voc.length c6) s.next))
  have HO6 := Lib.hid (HO5.out.far HX5.out.b (by decide) (by decide) (by decide) (Sha.fr_setRow (S := fun k => k = q) (Fr.refl w5 _) (fun _ => rfl) (stA (.slice A5 s.docs.length c5) (.slice A6 s.voc.length c6) s.next)))
  clear k0 k1 k2
  generalize World.setRow w5 _ _ = w6 at HX6 HO6 ⊢
  have Hq2 := Lib.hid (show ∀ k, (Value.slice A5 s.docs.length c5).ownBlock = some k → q2 < k from fun k hk => by
    obtain ⟨D, hd, _⟩ := HO4.out.ex
    have h1 := (hd.lt k hk).1
    have h2 := HX4.out.b5.lt
    omega)
  clear HX HX3 HX4 HX5 HO4 HO5 HM HDm HOw
  have HFr := Lib.hid (from_any HO6.out.rs (by have := Hnd.out; omega) Hmp.out.2.1 d.id)
  unfold stA at HFr
  have c0 : w6.cell? ⟨q, 0, none⟩ = some (.slice A5 s.docs.length c5) := by rw [HX6.out.b.cell]; rfl
  have c1 : w6.cell? ⟨q, 1, none⟩ = some (.int .u64 s.next) := by rw [HX6.out.b.cell]; rfl
  have c2 : w6.cell? ⟨q, 2, none⟩ = some (.slice A6 s.voc.length c6) := by rw [HX6.out.b.cell]; rfl
  have d1 : w6.cell? ⟨p, 1, none⟩ = some (.int .u64 d.id) := by rw [HX6.out.bp.cell]; rfl
  have Hkl := Lib.hid (at_le s.docs d.id)
  have Hhas := Lib.hid (show hasE s.docs d.id = (if atE s.docs d.id < s.docs.length then decide ((s.docs.getD (atE s.docs d.id) ⟨0, []⟩).id = d.id) else false) by
    split
    · rename_i h
      by_cases h1 : (s.docs.getD (atE s.docs d.id) ⟨0, []⟩).id = d.id
      · rw [decide_eq_true h1]; exact has_yes h h1
      · rw [decide_eq_false h1]; exact has_no (fun _ => h1)
    · rename_i h
      exact has_no (fun h1 => absurd h1 h))
  obtain ⟨K, hK⟩ : ∃ K, atE s.docs d.id = K := ⟨_, rfl⟩
  obtain ⟨T, hT⟩ : ∃ T, hasE s.docs d.id = T := ⟨_, rfl⟩
  rw [hK] at HFr Hkl Hhas
  rw [hT] at Hhas
  rw [hK, hT] at HRe
  clear hK hT
  go_upto_region 5 with (go_at_call 22; refine HFr.out.mono ?_; rintro e w7 ⟨rfl, hg⟩; have HX7 := Lib.hid (HX6.out.gr hg); have HO7 := Lib.hid (HO6.out.gr hg); clear hg)
  clear c0 c1 c2 d1 HX6 HO6 HFr
  have c0 : w7.cell? ⟨q, 0, none⟩ = some (.slice A5 s.docs.length c5) := by rw [HX7.out.b.cell]; rfl
  have d1 : w7.cell? ⟨p, 1, none⟩ = some (.int .u64 d.id) := by rw [HX7.out.bp.cell]; rfl
  go_cut [7] (fun s7 wx => s7 = .bool T ∧ Hid (Gr w7 wx))
  case first =>
    --<< A
    have hki : (K : Int) ≤ (s.docs.length : Int) := by have := Hkl.out; omega
    by_cases hk : K < s.docs.length
    · have hkl : (K : Int) < (s.docs.length : Int) := by omega
      have Hh := Hhas.out
      rw [if_pos hk] at Hh
      have HRr := HO7.out.rs
      obtain ⟨ba, oa, A8, c8, e, _, d0, _, _, _⟩ : ∃ b off A2 c2, A5 = some ⟨b, off, none⟩ ∧ b < w7.heap.size ∧ w7.cell? ⟨b, off + K * 2, none⟩ = some (.int .u64 (s.docs.getD K ⟨0, []⟩).id) ∧ w7.cell? ⟨b, off + K * 2 + 1, none⟩ = some (.slice A2 (s.docs.getD K ⟨0, []⟩).b.length c2) ∧
          SL encB w7 (.slice A2 (s.docs.getD K ⟨0, []⟩).b.length c2) (s.docs.getD K ⟨0, []⟩).b ∧ SB _ (.slice A2 (s.docs.getD K ⟨0, []⟩).b.length c2) (s.docs.getD K ⟨0, []⟩).b.length := by
        obtain ⟨D, hd, ha⟩ := HRr.ex
        exact doc_at hd ha hk
      subst e
      generalize (s.docs.getD K ⟨0, []⟩).id = x at d0 Hh
      have Hh2 := Lib.hid Hh
      clear Hh HRr Hhas
      by_cases hx : x = d.id
      · have hx1 : (x == d.id) = true := by rw [hx]; exact beq_self_eq_true _
        have Ht := Lib.hid (show T = true by rw [Hh2.out]; exact decide_eq_true hx)
        clear hx
        go_wp2_with fail
        go_quiet (fail)
        go_wp2_with fail
        go_meet
        rw [Ht.out]
        exact ⟨rfl, (Fr.refl _ _).drewN _⟩
      · have hx1 : (x == d.id) = false := beq_eq_false_iff_ne.2 hx
        have Ht := Lib.hid (show T = false by rw [Hh2.out]; exact decide_eq_false hx)
        clear hx
        go_wp2_with fail
        go_quiet (fail)
        go_wp2_with fail
        go_meet
        rw [Ht.out]
        exact ⟨rfl, (Fr.refl _ _).drewN _⟩
    · have hkl : decide ((K : Int) < (s.docs.length : Int)) = false := decide_eq_false (by omega)
      have Hh := Hhas.out
      rw [if_neg hk] at Hh
      have Ht := Lib.hid Hh
      clear Hh Hhas
      go_wp2_with fail
      go_quiet (fail)
      go_wp2_with fail
      go_meet
      rw [Ht.out]
      exact ⟨rfl, (Fr.refl _ _).drewN _⟩
    -->> A
  case rest =>
  obtain ⟨rfl, HGc⟩ := hcut
  have HX8 := Lib.hid (HX7.out.gr HGc.out)
  have HO8 := Lib.hid (HO7.out.gr HGc.out)
  clear c0 d1 HX7 HO7 HGc
  have d0 : wc.cell? ⟨p, 0, none⟩ = some (.int .u8 d.k) := by rw [HX8.out.bp.cell]; rfl
  have d3 : wc.cell? ⟨p, 3, none⟩ = some (.slice A3 d.b.length ca3) := by rw [HX8.out.bp.cell]; rfl
  have c0 : wc.cell? ⟨q, 0, none⟩ = some (.slice A5 s.docs.length c5) := by rw [HX8.out.b.cell]; rfl
  have c1 : wc.cell? ⟨q, 1, none⟩ = some (.int .u64 s.next) := by rw [HX8.out.b.cell]; rfl
  have c2 : wc.cell? ⟨q, 2, none⟩ = some (.slice A6 s.voc.length c6) := by rw [HX8.out.b.cell]; rfl
  obtain ⟨k, hk⟩ : ∃ k, d.k = k := ⟨_, rfl⟩
  rw [hk] at d0
  rw [hk] at Hkk
  have Hk := Lib.hid hk
  clear hk
  go_upto_block 0 with (fail)
  have hkk := Hkk.out
  rcases hkk with rfl | rfl
  · -- ingest
    have hE : ingE s d.b = (s', a') := by rw [← HRe.out]; unfold doK; rw [if_pos Hk.out]
    have HI := Lib.hid (ingest_any HO8.out Hnd.out HW.out.next (HVs.out.gr HX8.out.fr) Hdl.out HX8.out.fr.size)
    have Han := Lib.hid (ing_an s d.b)
    rw [hE] at HI Han
    unfold stA at HI
    have Hlt := Lib.hid (show ∀ k, (Value.slice A5 s.docs.length c5).ownBlock = some k → w.heap.size ≤ k ∧ q2 < k from fun k hk => by
      obtain ⟨D, hd, _⟩ := HO8.out.ex
      exact ⟨(hd.lt k hk).1, Hq2.out k hk⟩)
    clear hE
    go_wp2_with (first
      | (go_at_call 23; refine HI.out.mono ?_; rintro e w9 ⟨dv9, pv9, rfl, ho, hf⟩; obtain ⟨⟨A9, c9, rfl⟩, A10, c10, rfl⟩ := ho.rs.form; have HO9 := Lib.hid ho; have HX9 := Lib.hid (HX8.out.any hf (fun k hk => (Hlt.out k hk).2)); clear ho hf)
      | refine wpList_store_row rfl _ _ _ rfl q1 (stA (.slice A9 s'.docs.length c9) (.slice A10 s'.voc.length c10) s'.next) rfl rfl TSt _ HX9.out.b4 (by kernel_rfl) (by kernel_rfl) (by kernel_rfl) ?_
      | refine wpList_store_row rfl _ _ _ rfl q2 (anA a' nilV nilV) rfl rfl TAn _ (Sha.blk_setRow_ne HX9.out.b5 (by have := HX9.out.lo; omega) _) (by kernel_rfl) (by kernel_rfl) (by kernel_rfl) ?_)
    have HXl := Lib.hid (HX9.out.lay (stA (.slice A9 s'.docs.length c9) (.slice A10 s'.voc.length c10) s'.next) (anA a' nilV nilV))
    refine bodyPost_ret (results_cc Try.results6 _ _ q1 q2 _ _ _ _ _ _ rfl rfl HXl.out.b4 HXl.out.b5 Try.underlying29 rfl (by kernel_rfl) Try.underlying38 rfl (by kernel_rfl)) rfl ?_
    have h9 := HX9.out.fr.size
    exact ⟨_, _, nilV, nilV, w9.heap.size, rfl, (HO9.out.toN.lay HX9.out _ _).rs, h9, by rw [Han.out.1]; exact OB.nil _ _, by rw [Han.out.2]; exact OW.nil _ _, HXl.out.fr⟩
  · -- migrate
    have hE : migE s d.b = (s', a') := by rw [← HRe.out]; unfold doK; rw [if_neg (by rw [Hk.out]; decide), if_neg (by rw [Hk.out]; omega), if_pos Hk.out]
    have HI := Lib.hid (migrate_any HO8.out (HVs.out.gr HX8.out.fr) Hdb.out Hdl.out HX8.out.fr.size)
    have Han := Lib.hid (mig_an s d.b)
    rw [hE] at HI Han
    unfold stA at HI
    clear hE
    go_wp2_with (first
      | (go_at_call 24; refine HI.out.mono ?_; rintro e w9 ⟨dv9, pv9, rfl, ho, hf⟩; obtain ⟨⟨A9, c9, rfl⟩, A10, c10, rfl⟩ := ho.rs.form; have HO9 := Lib.hid ho; have HX9 := Lib.hid (HX8.out.gr hf); clear ho hf)
      | refine wpList_store_row rfl _ _ _ rfl q1 (stA (.slice A9 s'.docs.length c9) (.slice A10 s'.voc.length c10) s'.next) rfl rfl TSt _ HX9.out.b4 (by kernel_rfl) (by kernel_rfl) (by kernel_rfl) ?_
      | refine wpList_store_row rfl _ _ _ rfl q2 (anA a' nilV nilV) rfl rfl TAn _ (Sha.blk_setRow_ne HX9.out.b5 (by have := HX9.out.lo; omega) _) (by kernel_rfl) (by kernel_rfl) (by kernel_rfl) ?_)
    have HXl := Lib.hid (HX9.out.lay (stA (.slice A9 s'.docs.length c9) (.slice A10 s'.voc.length c10) s'.next) (anA a' nilV nilV))
    refine bodyPost_ret (results_cc Try.results6 _ _ q1 q2 _ _ _ _ _ _ rfl rfl HXl.out.b4 HXl.out.b5 Try.underlying29 rfl (by kernel_rfl) Try.underlying38 rfl (by kernel_rfl)) rfl ?_
    have h9 := HX9.out.fr.size
    exact ⟨_, _, nilV, nilV, w9.heap.size, rfl, (HO9.out.toN.lay HX9.out _ _).rs, h9, by rw [Han.out.1]; exact OB.nil _ _, by rw [Han.out.2]; exact OW.nil _ _, HXl.out.fr⟩
end Mod
end Go.Proofs.Ytlodbhlidgepfaa
