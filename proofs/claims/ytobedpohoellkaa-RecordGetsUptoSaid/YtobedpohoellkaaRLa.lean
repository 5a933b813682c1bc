/- law 13: RecordOne, RecordSame. -/
import Derived.Test.YtobedpohoellkaaRWk
import Derived.Test.YtobedpohoellkaaRWr
import Derived.Test.YtobedpohoellkaaELq
import Derived.Test.YtobedpohoellkaaFsame
set_option linter.unusedVariables false
set_option linter.unusedSimpArgs false
namespace Go.Proofs.Ytobedpohoellkaa
open Go.RowKit
open Voc Leb Bpe
namespace Rec
theorem getR_d (bs : List Int) : (getR bs).1.d.length = 32 := by
  unfold getR
  split
  · rfl
  split
  · rfl
  split
  · rfl
  split
  · rfl
  split
  · rfl
  · simp only; rw [List.length_take]; omega
theorem getR_bad {bs : List Int} (h : (getR bs).2 ≠ 0) : (getR bs).1 = zeroR := by
  unfold getR at h ⊢
  split
  · rfl
  split
  · rfl
  split
  · rfl
  split
  · rfl
  split
  · rfl
  · rename_i h1 h2 h3 h4 h5
    rw [if_neg h1, if_neg h2, if_neg h3, if_neg h4, if_neg h5] at h
    exact absurd rfl h
theorem getR_v {bs : List Int} (hb : Bs bs) : 0 ≤ (getR bs).1.v ∧ (getR bs).1.v < 18446744073709551616 := by
  have hz : 0 ≤ zeroR.v ∧ zeroR.v < 18446744073709551616 := by show 0 ≤ (0 : Int) ∧ (0 : Int) < _; omega
  unfold getR
  split
  · exact hz
  split
  · exact hz
  split
  · exact hz
  split
  · exact hz
  split
  · exact hz
  · exact un8_in (fun c hc => hb c (List.mem_of_mem_drop hc)) (by rw [List.length_drop]; omega)
theorem putR_t {r : Rc} {b : List Int} (h : putR r = (b, 0)) : r.t.length ≤ 65536 := by
  unfold putR at h
  split at h
  · cases h
  split at h
  · rename_i h2; injection h with _ h; exact absurd h h2
  · rename_i h2
    have h3 : (packE r.t).2 = 0 := Decidable.byContradiction h2
    exact (packE_ok (p := (packE r.t).1) (by rw [← h3])).1
theorem zero_t : zeroR.t = [] := rfl
theorem same_doc {xs : List Pc} (hc : (checkE xs).1 = 0) (hw : ∀ q ∈ xs, wfP q) {a b : List Int} (ha : Bs a) (hb : Bs b) (id : Int) :
    recEq ⟨dgB a, id, (a.length : Int), encL xs (row0 xs a)⟩ ⟨dgB b, id, (b.length : Int), encL xs (row0 xs b)⟩ = decide (a = b) := by
  by_cases h : a = b
  · subst h; rw [recEq_refl, decide_eq_true rfl]
  · rw [decide_eq_false h, Bool.eq_false_iff]
    intro he
    have h1 := recEq_of.1 he
    injection h1 with _ _ _ h1
    apply h
    rw [← flat_row0 hc hw a ha, ← flat_row0 hc hw b hb, ← flat_enc hc, ← flat_enc hc (row0 xs b), h1]
theorem ofE_bad {xs : List Pc} {id : Int} {bs : List Int} (h : (ofE xs id bs).2 ≠ 0) : (ofE xs id bs).1 = zeroR := by
  unfold ofE at h ⊢
  split
  · rfl
  split
  · rfl
  · rename_i h1 h2
    rw [if_neg h1, if_neg h2] at h
    exact absurd rfl h
theorem ofE_d (xs : List Pc) (id : Int) (bs : List Int) : (ofE xs id bs).1.d.length = 32 := by
  unfold ofE
  split
  · rfl
  split
  · rfl
  · simp only [dgB_len]
theorem ofE_ok {xs : List Pc} {id : Int} {bs : List Int} (h : (ofE xs id bs).2 = 0) : (checkE xs).1 = 0 ∧ bs.length ≤ 4096 ∧ (ofE xs id bs).1 = ⟨dgB bs, id, (bs.length : Int), encL xs (row0 xs bs)⟩ := by
  unfold ofE at h ⊢
  split at h
  · cases h
  · rename_i h1
    split at h
    · cases h
    · rename_i h2
      rw [if_neg h1, if_neg h2]
      exact ⟨Decidable.byContradiction h1, by omega, rfl⟩
attribute [local go_sem ↓] loadAt_row35 loadVar_row35 loadCells_row35
set_option maxRecDepth 20000 in
set_option maxHeartbeats 4000000 in
theorem RecordOne_walk (w : World) (v0 : Value) (x0 : List Int) (sl0 : SL encB w v0 x0) (wf0 : ∀ x ∈ x0, (Lit.int .u8 x).wf = true) (n0 : x0.length ≤ 1048576) :
    Calls Try.prog 6 #[v0] w fun e w' => e = .returned (.bool true) ∧ Gr w w' := by
  have HS := Lib.hid sl0
  have HBs := Lib.hid (bs_in wf0)
  have HGt := Lib.hid (recGet_any sl0 (bs_in wf0) (by omega))
  have Hd := Lib.hid (getR_d x0)
  have Hbad := Lib.hid (fun h => getR_bad (bs := x0) h)
  have Hv := Lib.hid (getR_v (bs := x0) (bs_in wf0))
  have Hrd := Lib.hid (fun r (h : getR x0 = (r, 0)) => get_read (bs_in wf0) h)
  have Hn := Lib.hid n0
  obtain ⟨⟨r, E⟩, hR⟩ : ∃ R, getR x0 = R := ⟨_, rfl⟩
  rw [hR] at HGt Hd Hbad Hv
  simp only at HGt Hd Hbad Hv
  have HR := Lib.hid hR
  clear sl0 wf0 n0 hR
  go_enter Try.func6, Try.ntmps6
  go_upto_region 2 with (first
    | (go_at_call 15; refine HGt.out.mono ?_; rintro e w2 ⟨tv, rfl, ho, hg⟩; obtain ⟨At, ct, rfl⟩ := own_formN ho.own; have HT2 := Lib.hid ho.sl; have HG2 := Lib.hid hg; clear ho hg)
    | refine Sha.wpList_store_new (w0 := w2) rfl _ _ _ rfl (rcA r (.slice At r.t.length ct)) _ _ rfl rfl rfl (by rw [rcA_size _ Hd.out]; kernel_rfl) (by rw [rcA_size _ Hd.out]; rfl) (rcA_one rfl) ?_)
  have HB3 := Lib.hid (Blk.new w2 TRc (rcA r (.slice At r.t.length ct)))
  have HG3 := Lib.hid (HG2.out.alloc (.cells (rcA r (.slice At r.t.length ct)) TRc))
  have HT3 := Lib.hid (HT2.out.gr ((Fr.refl w2 NoneS).alloc (.cells (rcA r (.slice At r.t.length ct)) TRc)))
  generalize w2.heap.size = p1 at HB3 ⊢
  generalize World.alloc w2 _ = w3 at HB3 HG3 HT3 ⊢
  have l3 := row35_rec HB3.out Hd.out
  clear HT2
  by_cases hE : E = 0
  case neg =>
    have hz := Hbad.out hE
    have he1 : (E != 0) = true := bne_iff_ne.2 hE
    subst hz
    have HRc := Lib.hid (record_any (ra := zeroR) (rb := zeroR) (tb := .slice none 0 0) rfl rfl HT3.out (SL.nil _) (by rw [zero_t]; decide))
    rw [recEq_refl] at HRc
    clear hE
    go_wp2_with (first
      | (go_at_call 17; refine HRc.out.mono ?_; rintro e w4 ⟨rfl, hg⟩; have HG4 := Lib.hid (HG3.out.trans hg (fun _ _ h => h)); clear hg)
      | (go_at_call 14; refine (works_any _).mono ?_; rintro e wz ⟨rfl, hg⟩; have HGz := Lib.hid hg; clear hg))
    go_ret
    exact ⟨rfl, HG4.out.trans HGz.out (fun _ _ h => h)⟩
  subst hE
  have Hp := Lib.hid (Hrd.out r HR.out)
  have HPt := Lib.hid (recPut_any Hd.out Hv.out HT3.out (by have := putR_t Hp.out; omega))
  rw [Hp.out] at HPt
  simp only at HPt
  go_upto_region 5 with (go_at_call 11; refine HPt.out.mono ?_; rintro e w4 ⟨bv, rfl, ho, hg⟩; have HO4 := Lib.hid ho.sl; have HG4 := Lib.hid (HG3.out.trans hg (fun _ _ h => h)); clear ho hg)
  have HSm := Lib.hid (same_any _ _ x0 x0 w4 (HS.out.gr HG4.out) HO4.out (by have := Hn.out; omega))
  rw [show decide (x0 = x0) = true from decide_eq_true rfl] at HSm
  clear l3
  go_wp2_with (first
    | (go_at_call 13; refine HSm.out.mono ?_; rintro e w5 ⟨rfl, hd⟩; have HG5 := Lib.hid (HG4.out.trans hd.gr (fun _ _ h => h)); clear hd)
    | (go_at_call 14; refine (works_any _).mono ?_; rintro e wz ⟨rfl, hg⟩; have HGz := Lib.hid hg; clear hg))
  go_ret
  exact ⟨rfl, HG5.out.trans HGz.out (fun _ _ h => h)⟩
set_option maxRecDepth 20000 in
set_option maxHeartbeats 4000000 in
theorem RecordSame_walk (w : World) (s0 : Value) (x0 : List Pc) (sl0 : SL encP w s0 x0) (wf0 : ∀ q ∈ x0, wfP q) (n0 : x0.length ≤ 1048576) (id : Int) (wid : (Lit.int .u64 id).wf = true) (v2 : Value) (x2 : List Int) (sl2 : SL encB w v2 x2) (wf2 : ∀ x ∈ x2, (Lit.int .u8 x).wf = true) (n2 : x2.length ≤ 1048576) (v3 : Value) (x3 : List Int) (sl3 : SL encB w v3 x3) (wf3 : ∀ x ∈ x3, (Lit.int .u8 x).wf = true) (n3 : x3.length ≤ 1048576) :
    Calls Try.prog 8 #[.agg #[s0], .int .u64 id, v2, v3] w fun e w' => e = .returned (.bool true) ∧ Gr w w' := by
  obtain ⟨A, cap, rfl⟩ := SL.form sl0
  obtain ⟨A2, cap2, rfl⟩ := SL.form sl2
  obtain ⟨A3, cap3, rfl⟩ := SL.form sl3
  have HS2 := Lib.hid sl2
  have HS3 := Lib.hid sl3
  have HG := Lib.hid ((Fr.refl w NoneS).alloc (.cells #[.slice A x0.length cap] 41))
  have HB := Lib.hid (Blk.new w 41 #[.slice A x0.length cap])
  obtain ⟨q, hq⟩ : ∃ q, w.heap.size = q := ⟨_, rfl⟩
  rw [hq] at HB
  have HL1 := Lib.hid (long_any (sl0.gr HG.out) n0 x2.length n2)
  have HL2 := Lib.hid (fun wx (hg : Gr w wx) => long_any (sl0.gr hg) n0 x3.length n3)
  have HO1 := Lib.hid (fun wx (hg : Gr w wx) => recOf_any (sl0.gr hg) (sl2.gr hg) wf0 (bs_in wf2) n0 n2 id)
  have HO2 := Lib.hid (fun wx (hg : Gr w wx) => recOf_any (sl0.gr hg) (sl3.gr hg) wf0 (bs_in wf3) n0 n3 id)
  have Hd1 := Lib.hid (ofE_d x0 id x2)
  have Hd2 := Lib.hid (ofE_d x0 id x3)
  have Hk := Lib.hid (show (ofE x0 id x2).2 = 0 → (ofE x0 id x3).2 = 0 → recEq (ofE x0 id x2).1 (ofE x0 id x3).1 = decide (x2 = x3) ∧ (ofE x0 id x2).1.t.length ≤ 4096 from fun h1 h2 => by
    obtain ⟨a1, a2, a3⟩ := ofE_ok h1
    obtain ⟨b1, b2, b3⟩ := ofE_ok h2
    rw [a3, b3]
    refine ⟨same_doc a1 wf0 (bs_in wf2) (bs_in wf3) id, ?_⟩
    have := encL_le (xs := x0) (row0 x0 x2)
    rw [row0_len] at this
    exact Nat.le_trans this a2)
  have Hn := Lib.hid (And.intro n2 n3)
  obtain ⟨⟨r, E⟩, hr⟩ : ∃ R, ofE x0 id x2 = R := ⟨_, rfl⟩
  obtain ⟨⟨t, F⟩, ht⟩ : ∃ R, ofE x0 id x3 = R := ⟨_, rfl⟩
  rw [hr] at HO1 Hd1 Hk
  rw [ht] at HO2 Hd2 Hk
  simp only at HO1 HO2 Hd1 Hd2 Hk
  have hx2 : (x2.length : Int) ≤ 1048576 := by omega
  have hx3 : (x3.length : Int) ≤ 1048576 := by omega
  clear sl0 sl2 sl3 wf0 wf2 wf3 hr ht n2 n3
  obtain ⟨b, hb⟩ : ∃ b, decide (500 < x0.length ∨ (300 < x2.length ∧ x2.length ≤ 4096)) = b := ⟨_, rfl⟩
  rw [hb] at HL1
  clear hb
  obtain ⟨b2, hb2⟩ : ∃ b, decide (500 < x0.length ∨ (300 < x3.length ∧ x3.length ≤ 4096)) = b := ⟨_, rfl⟩
  rw [hb2] at HL2
  clear hb2
  go_enter Try.func8, Try.ntmps8
  go_upto_region 1 with (fail)
  clear hq
  generalize hx : World.alloc w _ = wa at HG HB HL1 ⊢
  clear hx
  have c0 : wa.cell? ⟨q, 0, none⟩ = some (.slice A x0.length cap) := by rw [HB.out.cell]; rfl
  cases b with
  | true =>
    go_wp2_with (first
      | (go_at_call 18; refine HL1.out.mono ?_; rintro e w2 ⟨rfl, hg⟩; have HG2 := Lib.hid (HG.out.trans hg (fun _ _ h => h)); clear hg)
      | (go_at_call 14; refine (works_any _).mono ?_; rintro e wz ⟨rfl, hg⟩; have HGz := Lib.hid hg; clear hg))
    go_ret
    exact ⟨rfl, HG2.out.trans HGz.out (fun _ _ h => h)⟩
  | false =>
  cases b2 with
  | true =>
    go_wp2_with (first
      | (go_at_call 18; (with_reducible refine HL1.out.mono ?_); rintro e w2 ⟨rfl, hg⟩; have HG2 := Lib.hid (HG.out.trans hg (fun _ _ h => h)); have HB2 := Lib.hid (HB.out.fr hg (fun h => h)); have c2 : w2.cell? ⟨q, 0, none⟩ = some (.slice A x0.length cap) := (by rw [HB2.out.cell]; rfl); clear hg)
      | (go_at_call 18; (with_reducible refine (HL2.out _ HG2.out).mono ?_); rintro e w3 ⟨rfl, hg⟩; have HG3 := Lib.hid (HG2.out.trans hg (fun _ _ h => h)); clear hg)
      | (go_at_call 14; refine (works_any _).mono ?_; rintro e wz ⟨rfl, hg⟩; have HGz := Lib.hid hg; clear hg))
    go_ret
    exact ⟨rfl, HG3.out.trans HGz.out (fun _ _ h => h)⟩
  | false =>
  go_upto_region 3 with (first
    | (go_at_call 18; (with_reducible refine HL1.out.mono ?_); rintro e w2 ⟨rfl, hg⟩; have HG2 := Lib.hid (HG.out.trans hg (fun _ _ h => h)); have HB2 := Lib.hid (HB.out.fr hg (fun h => h)); have c2 : w2.cell? ⟨q, 0, none⟩ = some (.slice A x0.length cap) := (by rw [HB2.out.cell]; rfl); clear hg)
    | (go_at_call 18; (with_reducible refine (HL2.out _ HG2.out).mono ?_); rintro e w3 ⟨rfl, hg⟩; have HG3 := Lib.hid (HG2.out.trans hg (fun _ _ h => h)); have HB3 := Lib.hid (HB2.out.fr hg (fun h => h)); have c3 : w3.cell? ⟨q, 0, none⟩ = some (.slice A x0.length cap) := (by rw [HB3.out.cell]; rfl); clear hg))
  go_upto_region 4 with (first
    | (go_at_call 19; refine (HO1.out _ HG3.out).mono ?_; rintro e w4 ⟨tv, rfl, ho, hg⟩; obtain ⟨At, ct, rfl⟩ := own_formN ho.own; have HT4 := Lib.hid ho.sl; have HG4 := Lib.hid (HG3.out.trans hg (fun _ _ h => h)); have HB4 := Lib.hid (HB3.out.fr hg (fun h => h)); clear ho hg)
    | refine Sha.wpList_store_new (w0 := w4) rfl _ _ _ rfl (rcA r (.slice At r.t.length ct)) _ _ rfl rfl rfl (by rw [rcA_size _ Hd1.out]; kernel_rfl) (by rw [rcA_size _ Hd1.out]; rfl) (rcA_one rfl) ?_)
  have HR5 := Lib.hid (Blk.new w4 TRc (rcA r (.slice At r.t.length ct)))
  have HG5 := Lib.hid (HG4.out.alloc (.cells (rcA r (.slice At r.t.length ct)) TRc))
  have HB5 := Lib.hid (HB4.out.alloc (.cells (rcA r (.slice At r.t.length ct)) TRc))
  have HT5 := Lib.hid (HT4.out.gr ((Fr.refl w4 NoneS).alloc (.cells (rcA r (.slice At r.t.length ct)) TRc)))
  generalize w4.heap.size = p1 at HR5 ⊢
  generalize World.alloc w4 _ = w5 at HR5 HG5 HB5 HT5 ⊢
  clear HT4 HB4 c0 c2 c3 HB2 HB3
  have c5 : w5.cell? ⟨q, 0, none⟩ = some (.slice A x0.length cap) := by rw [HB5.out.cell]; rfl
  go_upto_region 5 with (first
    | (go_at_call 19; refine (HO2.out _ HG5.out).mono ?_; rintro e w6 ⟨tv6, rfl, ho, hg⟩; obtain ⟨A6, c6, rfl⟩ := own_formN ho.own; have HT6 := Lib.hid ho.sl; have HU6 := Lib.hid (HT5.out.gr hg); have HR6 := Lib.hid (HR5.out.fr hg (fun h => h)); have HG6 := Lib.hid (HG5.out.trans hg (fun _ _ h => h)); clear ho hg)
    | refine Sha.wpList_store_new (w0 := w6) rfl _ _ _ rfl (rcA t (.slice A6 t.t.length c6)) _ _ rfl rfl rfl (by rw [rcA_size _ Hd2.out]; kernel_rfl) (by rw [rcA_size _ Hd2.out]; rfl) (rcA_one rfl) ?_)
  have HV7 := Lib.hid (Blk.new w6 TRc (rcA t (.slice A6 t.t.length c6)))
  have HG7 := Lib.hid (HG6.out.alloc (.cells (rcA t (.slice A6 t.t.length c6)) TRc))
  have HR7 := Lib.hid (HR6.out.alloc (.cells (rcA t (.slice A6 t.t.length c6)) TRc))
  have HT7 := Lib.hid (HT6.out.gr ((Fr.refl w6 NoneS).alloc (.cells (rcA t (.slice A6 t.t.length c6)) TRc)))
  have HU7 := Lib.hid (HU6.out.gr ((Fr.refl w6 NoneS).alloc (.cells (rcA t (.slice A6 t.t.length c6)) TRc)))
  generalize w6.heap.size = p2 at HV7 ⊢
  generalize World.alloc w6 _ = w7 at HV7 HG7 HR7 HT7 HU7 ⊢
  clear HT6 HU6 HR6 c5
  by_cases hE : E = 0
  case neg =>
    have he1 : (E != 0) = true := bne_iff_ne.2 hE
    clear hE
    go_wp2_with (go_at_call 14; refine (works_any _).mono ?_; rintro e wz ⟨rfl, hg⟩; have HGz := Lib.hid hg; clear hg)
    go_ret
    exact ⟨rfl, HG7.out.trans HGz.out (fun _ _ h => h)⟩
  subst hE
  by_cases hF : F = 0
  case neg =>
    have he1 : (F != 0) = true := bne_iff_ne.2 hF
    clear hF
    go_wp2_with (go_at_call 14; refine (works_any _).mono ?_; rintro e wz ⟨rfl, hg⟩; have HGz := Lib.hid hg; clear hg)
    go_ret
    exact ⟨rfl, HG7.out.trans HGz.out (fun _ _ h => h)⟩
  subst hF
  obtain ⟨hk1, hk2⟩ := Hk.out rfl rfl
  have l1 := row35_rec HR7.out Hd1.out
  have l2 := row35_rec HV7.out Hd2.out
  have HRc := Lib.hid (record_any Hd1.out Hd2.out HU7.out HT7.out (by omega))
  rw [hk1] at HRc
  have HSm := Lib.hid (fun wx (hg : Gr w7 wx) => same_any _ _ x2 x3 wx ((HS2.out.gr HG7.out).gr hg) ((HS3.out.gr HG7.out).gr hg) (by have := Hn.out; omega))
  generalize decide (x2 = x3) = bq at HRc HSm
  clear hk1 hk2
  cases bq <;> (
    go_wp2_with (first
      | (go_at_call 17; refine HRc.out.mono ?_; rintro e w8 ⟨rfl, hg⟩; have HG8 := Lib.hid (show Gr w7 w8 from hg); clear hg)
      | (go_at_call 13; refine (HSm.out _ HG8.out).mono ?_; rintro e w9 ⟨rfl, hd⟩; have HG9 := Lib.hid (HG8.out.trans hd.gr (fun _ _ h => h)); clear hd)
      | (go_at_call 14; refine (works_any _).mono ?_; rintro e wz ⟨rfl, hg⟩; have HGz := Lib.hid hg; clear hg))
    go_ret
    exact ⟨rfl, (HG7.out.trans HG9.out (fun _ _ h => h)).trans HGz.out (fun _ _ h => h)⟩)
end Rec
end Go.Proofs.Ytobedpohoellkaa
