/- law 13: RecordOf. -/
import Derived.Test.YtobedpohoellkaaRLa
import Derived.Test.YtobedpohoellkaaRRd
set_option linter.unusedVariables false
set_option linter.unusedSimpArgs false
namespace Go.Proofs.Ytobedpohoellkaa
open Go.RowKit
open Voc Leb Bpe
namespace Rec
theorem ofE_t (xs : List Pc) (id : Int) (bs : List Int) : (ofE xs id bs).1.t.length ≤ bs.length := by
  unfold ofE
  split
  · exact Nat.zero_le _
  split
  · exact Nat.zero_le _
  · have := encL_le (xs := xs) (row0 xs bs)
    rw [row0_len] at this
    exact this
attribute [local go_sem ↓] loadAt_row35 loadVar_row35 loadCells_row35
set_option maxRecDepth 20000 in
set_option maxHeartbeats 4000000 in
theorem RecordOf_walk (w : World) (s0 : Value) (x0 : List Pc) (sl0 : SL encP w s0 x0) (wf0 : ∀ q ∈ x0, wfP q) (n0 : x0.length ≤ 1048576) (id : Int) (wid : (Lit.int .u64 id).wf = true) (v2 : Value) (x2 : List Int) (sl2 : SL encB w v2 x2) (wf2 : ∀ x ∈ x2, (Lit.int .u8 x).wf = true) (n2 : x2.length ≤ 1048576) :
    Calls Try.prog 5 #[.agg #[s0], .int .u64 id, v2] w fun e w' => e = .returned (.bool true) ∧ Gr w w' := by
  obtain ⟨A, cap, rfl⟩ := SL.form sl0
  obtain ⟨A2, cap2, rfl⟩ := SL.form sl2
  have HS2 := Lib.hid sl2
  have HG := Lib.hid ((Fr.refl w NoneS).alloc (.cells #[.slice A x0.length cap] 41))
  have HB := Lib.hid (Blk.new w 41 #[.slice A x0.length cap])
  obtain ⟨q, hq⟩ : ∃ q, w.heap.size = q := ⟨_, rfl⟩
  rw [hq] at HB
  have HL1 := Lib.hid (long_any (sl0.gr HG.out) n0 x2.length n2)
  have HO1 := Lib.hid (fun wx (hg : Gr w wx) => recOf_any (sl0.gr hg) (sl2.gr hg) wf0 (bs_in wf2) n0 n2 id)
  have HO2 := Lib.hid (fun wx (hg : Gr w wx) => rrecOf_any (sl0.gr hg) (sl2.gr hg) wf0 (bs_in wf2) n0 n2 id)
  have Hd1 := Lib.hid (ofE_d x0 id x2)
  have Htl := Lib.hid (ofE_t x0 id x2)
  obtain ⟨⟨r, E⟩, hr⟩ : ∃ R, ofE x0 id x2 = R := ⟨_, rfl⟩
  rw [hr] at HO1 HO2 Hd1 Htl
  simp only at HO1 HO2 Hd1 Htl
  have hx2 : (x2.length : Int) ≤ 1048576 := by omega
  have Hn := Lib.hid n2
  clear sl0 sl2 wf0 wf2 hr n2
  obtain ⟨b, hb⟩ : ∃ b, decide (500 < x0.length ∨ (300 < x2.length ∧ x2.length ≤ 4096)) = b := ⟨_, rfl⟩
  rw [hb] at HL1
  clear hb
  go_enter Try.func5, Try.ntmps5
  go_upto_region 1 with (fail)
  clear hq
  generalize hx : World.alloc w _ = wa at HG HB HL1 ⊢
  clear hx
  have c0 : wa.cell? ⟨q, 0, none⟩ = some (.slice A x0.length cap) := by rw [HB.out.cell]; rfl
  cases b with
  | true =>
    go_wp2_with (first
      | (go_at_call 18; refine HL1.out.mono ?_; rintro e w2 ⟨rfl, hg⟩; have HG2 := Lib.hid (HG.out.trans hg (fun _ _ h => h)); clear hg)
      | (go_at_call 14; refine (works_any _).mono ?_; rintro e wz ⟨rfl, hg⟩; have HGz := Lib.hid hg; clear hg))
    go_ret
    exact ⟨rfl, HG2.out.trans HGz.out (fun _ _ h => h)⟩
  | false =>
  go_upto_region 3 with (go_at_call 18; refine HL1.out.mono ?_; rintro e w3 ⟨rfl, hg⟩; have HG3 := Lib.hid (HG.out.trans hg (fun _ _ h => h)); have HB3 := Lib.hid (HB.out.fr hg (fun h => h)); have c3 : w3.cell? ⟨q, 0, none⟩ = some (.slice A x0.length cap) := (by rw [HB3.out.cell]; rfl); clear hg)
  go_upto_region 4 with (first
    | (go_at_call 19; refine (HO1.out _ HG3.out).mono ?_; rintro e w4 ⟨tv, rfl, ho, hg⟩; obtain ⟨At, ct, rfl⟩ := own_formN ho.own; have HT4 := Lib.hid ho.sl; have HG4 := Lib.hid (HG3.out.trans hg (fun _ _ h => h)); have HB4 := Lib.hid (HB3.out.fr hg (fun h => h)); clear ho hg)
    | refine Sha.wpList_store_new (w0 := w4) rfl _ _ _ rfl (rcA r (.slice At r.t.length ct)) _ _ rfl rfl rfl (by rw [rcA_size _ Hd1.out]; kernel_rfl) (by rw [rcA_size _ Hd1.out]; rfl) (rcA_one rfl) ?_)
  have HR5 := Lib.hid (Blk.new w4 TRc (rcA r (.slice At r.t.length ct)))
  have HG5 := Lib.hid (HG4.out.alloc (.cells (rcA r (.slice At r.t.length ct)) TRc))
  have HB5 := Lib.hid (HB4.out.alloc (.cells (rcA r (.slice At r.t.length ct)) TRc))
  have HT5 := Lib.hid (HT4.out.gr ((Fr.refl w4 NoneS).alloc (.cells (rcA r (.slice At r.t.length ct)) TRc)))
  generalize w4.heap.size = p1 at HR5 ⊢
  generalize World.alloc w4 _ = w5 at HR5 HG5 HB5 HT5 ⊢
  clear HT4 HB4 c0 c3 HB3
  have c5 : w5.cell? ⟨q, 0, none⟩ = some (.slice A x0.length cap) := by rw [HB5.out.cell]; rfl
  go_upto_region 5 with (first
    | (go_at_call 20; refine (HO2.out _ HG5.out).mono ?_; rintro e w6 ⟨tv6, rfl, ho, hg⟩; obtain ⟨A6, c6, rfl⟩ := own_formN ho.own; have HT6 := Lib.hid ho.sl; have HU6 := Lib.hid (HT5.out.gr hg); have HR6 := Lib.hid (HR5.out.fr hg (fun h => h)); have HG6 := Lib.hid (HG5.out.trans hg (fun _ _ h => h)); clear ho hg)
    | refine Sha.wpList_store_new (w0 := w6) rfl _ _ _ rfl (rcA r (.slice A6 r.t.length c6)) _ _ rfl rfl rfl (by rw [rcA_size _ Hd1.out]; kernel_rfl) (by rw [rcA_size _ Hd1.out]; rfl) (rcA_one rfl) ?_)
  have HV7 := Lib.hid (Blk.new w6 TRc (rcA r (.slice A6 r.t.length c6)))
  have HG7 := Lib.hid (HG6.out.alloc (.cells (rcA r (.slice A6 r.t.length c6)) TRc))
  have HR7 := Lib.hid (HR6.out.alloc (.cells (rcA r (.slice A6 r.t.length c6)) TRc))
  have HT7 := Lib.hid (HT6.out.gr ((Fr.refl w6 NoneS).alloc (.cells (rcA r (.slice A6 r.t.length c6)) TRc)))
  have HU7 := Lib.hid (HU6.out.gr ((Fr.refl w6 NoneS).alloc (.cells (rcA r (.slice A6 r.t.length c6)) TRc)))
  generalize w6.heap.size = p2 at HV7 ⊢
  generalize World.alloc w6 _ = w7 at HV7 HG7 HR7 HT7 HU7 ⊢
  clear HT6 HU6 HR6 c5
  have l1 := row35_rec HR7.out Hd1.out
  have l2 := row35_rec HV7.out Hd1.out
  have HRc := Lib.hid (record_any Hd1.out Hd1.out HU7.out HT7.out (by have := Htl.out; have := Hn.out; omega))
  rw [recEq_refl] at HRc
  go_wp2_with (first
    | (go_at_call 17; refine HRc.out.mono ?_; rintro e w8 ⟨rfl, hg⟩; have HG8 := Lib.hid (show Gr w7 w8 from hg); clear hg)
    | (go_at_call 14; refine (works_any _).mono ?_; rintro e wz ⟨rfl, hg⟩; have HGz := Lib.hid hg; clear hg))
  go_ret
  exact ⟨rfl, (HG7.out.trans HG8.out (fun _ _ h => h)).trans HGz.out (fun _ _ h => h)⟩
end Rec
end Go.Proofs.Ytobedpohoellkaa
