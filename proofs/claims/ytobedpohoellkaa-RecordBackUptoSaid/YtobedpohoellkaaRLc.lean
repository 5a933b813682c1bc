/- law 13: RecordBack. -/
import Derived.Test.YtobedpohoellkaaRLa
import Derived.Test.YtobedpohoellkaaRWg
set_option linter.unusedVariables false
set_option linter.unusedSimpArgs false
namespace Go.Proofs.Ytobedpohoellkaa
open Go.RowKit
open Voc Leb Bpe
namespace Rec
theorem enc_in {xs : List Pc} (hc : (checkE xs).1 = 0) (hw : ∀ q ∈ xs, wfP q) {bs : List Int} (hb : Bs bs) : InV xs (encL xs (row0 xs bs)) := (row0_in hc hw hb).enc
theorem of_put {xs : List Pc} (hc : (checkE xs).1 = 0) (hw : ∀ q ∈ xs, wfP q) {bs : List Int} (hb : Bs bs) (h4 : bs.length ≤ 4096) (hx : xs.length ≤ 1048576) (id : Int) (D : List Int) :
    ∃ b, putR ⟨D, id, (bs.length : Int), encL xs (row0 xs bs)⟩ = (b, 0) := by
  have hl := encL_le (xs := xs) (row0 xs bs)
  rw [row0_len] at hl
  refine ⟨D ++ (le8 id ++ (putL ((bs.length : Int)).toNat ++ (putL (encL xs (row0 xs bs)).length ++ deltas 0 (encL xs (row0 xs bs))))), ?_⟩
  unfold putR
  simp only
  rw [if_neg (by omega), packE_of (by omega) (fun x hx' => badT_of (by have := enc_in hc hw hb x hx'; omega))]
  simp only
  rw [if_neg (by decide)]
theorem of_doc {xs : List Pc} (hc : (checkE xs).1 = 0) (hw : ∀ q ∈ xs, wfP q) {bs : List Int} (hb : Bs bs) (h4 : bs.length ≤ 4096) (id : Int) (D : List Int) (hD : dgB bs = D) :
    docE xs ⟨D, id, (bs.length : Int), encL xs (row0 xs bs)⟩ = (bs, 0) := by
  have he : encE xs bs = (encL xs (row0 xs bs), 0) := by unfold encE; rw [if_neg (by rw [hc]; decide), if_neg (by omega)]
  have hd := enc_back hw hb (show (encE xs bs).2 = 0 by rw [he])
  rw [he] at hd
  unfold docE
  simp only
  rw [hd]
  simp only
  rw [if_neg (by decide), hD, if_neg (by intro h; rcases h with h | h; exact h rfl; exact h rfl)]
theorem of_right {xs : List Pc} (hc : (checkE xs).1 = 0) (hw : ∀ q ∈ xs, wfP q) {bs : List Int} (hb : Bs bs) (h4 : bs.length ≤ 4096) (id : Int) (D : List Int) (hD : dgB bs = D) :
    rightE xs ⟨D, id, (bs.length : Int), encL xs (row0 xs bs)⟩ = true := by
  have he : encE xs bs = (encL xs (row0 xs bs), 0) := by unfold encE; rw [if_neg (by rw [hc]; decide), if_neg (by omega)]
  unfold rightE
  rw [of_doc hc hw hb h4 id D hD]
  simp only
  rw [he]
  simp
attribute [local go_sem ↓] loadAt_row35 loadVar_row35 loadCells_row35
set_option maxRecDepth 20000 in
set_option maxHeartbeats 4000000 in
theorem RecordBack_walk (w : World) (s0 : Value) (x0 : List Pc) (sl0 : SL encP w s0 x0) (wf0 : ∀ q ∈ x0, wfP q) (n0 : x0.length ≤ 1048576) (id : Int) (wid : (Lit.int .u64 id).wf = true) (v2 : Value) (x2 : List Int) (sl2 : SL encB w v2 x2) (wf2 : ∀ x ∈ x2, (Lit.int .u8 x).wf = true) (n2 : x2.length ≤ 1048576) :
    Calls Try.prog 10 #[.agg #[s0], .int .u64 id, v2] w fun e w' => e = .returned (.bool true) ∧ Gr w w' := by
  obtain ⟨A, cap, rfl⟩ := SL.form sl0
  obtain ⟨A2, cap2, rfl⟩ := SL.form sl2
  have HS2 := Lib.hid sl2
  have HG := Lib.hid ((Fr.refl w NoneS).alloc (.cells #[.slice A x0.length cap] 41))
  have HB := Lib.hid (Blk.new w 41 #[.slice A x0.length cap])
  obtain ⟨q, hq⟩ : ∃ q, w.heap.size = q := ⟨_, rfl⟩
  rw [hq] at HB
  have hidr : 0 ≤ id ∧ id < 18446744073709551616 := by
    simp [Lit.wf, IntKind.min, IntKind.max, IntKind.signed, IntKind.bits] at wid
    omega
  have HL1 := Lib.hid (long_any (sl0.gr HG.out) n0 x2.length n2)
  have HO1 := Lib.hid (fun wx (hg : Gr w wx) => recOf_any (sl0.gr hg) (sl2.gr hg) wf0 (bs_in wf2) n0 n2 id)
  have HDc := Lib.hid (fun (wx : World) (tv : Value) (r : Rc) (hg : Gr w wx) (hd : r.d.length = 32) (ht : SL encI wx tv r.t) (htl : r.t.length ≤ 1048576) => recDoc_any (sl0.gr hg) wf0 n0 hd ht htl)
  have HRt := Lib.hid (fun (wx : World) (tv : Value) (r : Rc) (hg : Gr w wx) (hd : r.d.length = 32) (ht : SL encI wx tv r.t) (htl : r.t.length ≤ 1048576) => recRight_any (sl0.gr hg) wf0 n0 hd ht htl)
  have Hd1 := Lib.hid (ofE_d x0 id x2)
  have Hbad := Lib.hid (fun h => ofE_bad (xs := x0) (id := id) (bs := x2) h)
  have Hdl := Lib.hid (dgB_len x2)
  have Hdi := Lib.hid (dgB_in x2)
  have Hok := Lib.hid (show (ofE x0 id x2).2 = 0 → ∃ D L, D.length = 32 ∧ Bs D ∧ L.length ≤ 4096 ∧ (ofE x0 id x2).1 = ⟨D, id, (x2.length : Int), L⟩ ∧ (∃ b, putR ⟨D, id, (x2.length : Int), L⟩ = (b, 0)) ∧ docE x0 ⟨D, id, (x2.length : Int), L⟩ = (x2, 0) ∧ rightE x0 ⟨D, id, (x2.length : Int), L⟩ = true from fun h => by
    obtain ⟨a1, a2, a3⟩ := ofE_ok h
    refine ⟨dgB x2, encL x0 (row0 x0 x2), Hdl.out, Hdi.out, ?_, a3, of_put a1 wf0 (bs_in wf2) a2 n0 id _, of_doc a1 wf0 (bs_in wf2) a2 id _ rfl, of_right a1 wf0 (bs_in wf2) a2 id _ rfl⟩
    have := encL_le (xs := x0) (row0 x0 x2)
    rw [row0_len] at this
    exact Nat.le_trans this a2)
  obtain ⟨⟨r, E⟩, hr⟩ : ∃ R, ofE x0 id x2 = R := ⟨_, rfl⟩
  rw [hr] at HO1 Hd1 Hbad Hok
  simp only at HO1 Hd1 Hbad Hok
  have hx2 : (x2.length : Int) ≤ 1048576 := by omega
  have Hn := Lib.hid n2
  have Hid := Lib.hid hidr
  clear sl0 sl2 wf0 wf2 hr n2 Hdl Hdi hidr
  obtain ⟨b, hb⟩ : ∃ b, decide (500 < x0.length ∨ (300 < x2.length ∧ x2.length ≤ 4096)) = b := ⟨_, rfl⟩
  rw [hb] at HL1
  clear hb
  go_enter Try.func10, Try.ntmps10
  go_upto_region 1 with (fail)
  clear hq
  generalize hx : World.alloc w _ = wa at HG HB HL1 ⊢
  clear hx
  have c0 : wa.cell? ⟨q, 0, none⟩ = some (.slice A x0.length cap) := by rw [HB.out.cell]; rfl
  cases b with
  | true =>
    go_wp2_with (first
      | (go_at_call 18; refine HL1.out.mono ?_; rintro e w2 ⟨rfl, hg⟩; have HG2 := Lib.hid (HG.out.trans hg (fun _ _ h => h)); clear hg)
      | (go_at_call 14; refine (works_any _).mono ?_; rintro e wz ⟨rfl, hg⟩; have HGz := Lib.hid hg; clear hg))
    go_ret
    exact ⟨rfl, HG2.out.trans HGz.out (fun _ _ h => h)⟩
  | false =>
  go_upto_region 3 with (go_at_call 18; refine HL1.out.mono ?_; rintro e w3 ⟨rfl, hg⟩; have HG3 := Lib.hid (HG.out.trans hg (fun _ _ h => h)); have HB3 := Lib.hid (HB.out.fr hg (fun h => h)); have c3 : w3.cell? ⟨q, 0, none⟩ = some (.slice A x0.length cap) := (by rw [HB3.out.cell]; rfl); clear hg)
  go_upto_region 4 with (first
    | (go_at_call 19; refine (HO1.out _ HG3.out).mono ?_; rintro e w4 ⟨tv, rfl, ho, hg⟩; obtain ⟨At, ct, rfl⟩ := own_formN ho.own; have HT4 := Lib.hid ho.sl; have HG4 := Lib.hid (HG3.out.trans hg (fun _ _ h => h)); have HB4 := Lib.hid (HB3.out.fr hg (fun h => h)); clear ho hg)
    | refine Sha.wpList_store_new (w0 := w4) rfl _ _ _ rfl (rcA r (.slice At r.t.length ct)) _ _ rfl rfl rfl (by rw [rcA_size _ Hd1.out]; kernel_rfl) (by rw [rcA_size _ Hd1.out]; rfl) (rcA_one rfl) ?_)
  have HR5 := Lib.hid (Blk.new w4 TRc (rcA r (.slice At r.t.length ct)))
  have HG5 := Lib.hid (HG4.out.alloc (.cells (rcA r (.slice At r.t.length ct)) TRc))
  have HB5 := Lib.hid (HB4.out.alloc (.cells (rcA r (.slice At r.t.length ct)) TRc))
  have HT5 := Lib.hid (HT4.out.gr ((Fr.refl w4 NoneS).alloc (.cells (rcA r (.slice At r.t.length ct)) TRc)))
  generalize w4.heap.size = p1 at HR5 ⊢
  generalize World.alloc w4 _ = w5 at HR5 HG5 HB5 HT5 ⊢
  clear HT4 HB4 c0 c3 HB3
  have l5 := row35_rec HR5.out Hd1.out
  by_cases hE : E = 0
  case neg =>
    have hz := Hbad.out hE
    have he1 : (E != 0) = true := bne_iff_ne.2 hE
    subst hz
    have HRc := Lib.hid (record_any (ra := zeroR) (rb := zeroR) (tb := .slice none 0 0) rfl rfl HT5.out (SL.nil _) (by rw [zero_t]; decide))
    rw [recEq_refl] at HRc
    clear hE
    go_wp2_with (first
      | (go_at_call 17; refine HRc.out.mono ?_; rintro e w6 ⟨rfl, hg⟩; have HG6 := Lib.hid (HG5.out.trans hg (fun _ _ h => h)); clear hg)
      | (go_at_call 14; refine (works_any _).mono ?_; rintro e wz ⟨rfl, hg⟩; have HGz := Lib.hid hg; clear hg))
    go_ret
    exact ⟨rfl, HG6.out.trans HGz.out (fun _ _ h => h)⟩
  subst hE
  obtain ⟨D, L, k1, k2, k3, k4, ⟨b0, k5⟩, k6, k7⟩ := Hok.out rfl
  subst k4
  have HL4 := Lib.hid k3
  have HDd := Lib.hid k1
  have HPt := Lib.hid (recPut_any (r := ⟨D, id, (x2.length : Int), L⟩) k1 Hid.out HT5.out (by show L.length ≤ _; omega))
  rw [k5] at HPt
  simp only at HPt
  have Hb0 := Lib.hid (show Bs b0 ∧ b0.length ≤ 700100 from ⟨by have h := putR_in (r := ⟨D, id, (x2.length : Int), L⟩) k2; rw [k5] at h; exact h, by have h := putR_len ⟨D, id, (x2.length : Int), L⟩ k1; rw [k5] at h; exact h⟩)
  have HGt := Lib.hid (fun wx bv (h1 : SL encB wx bv b0) => by
    have h := recGet_any h1 Hb0.out.1 (by have := Hb0.out.2; omega)
    rw [get_put (r := ⟨D, id, (x2.length : Int), L⟩) k1 Hid.out k5] at h
    exact h)
  simp only at HGt
  have HDx := Lib.hid (fun wx tv hg ht => HDc.out wx tv ⟨D, id, (x2.length : Int), L⟩ hg k1 ht (by show L.length ≤ _; omega))
  have HRx := Lib.hid (fun wx tv hg ht => HRt.out wx tv ⟨D, id, (x2.length : Int), L⟩ hg k1 ht (by show L.length ≤ _; omega))
  rw [k6] at HDx
  rw [k7] at HRx
  simp only at HDx HRx
  clear k1 k2 k3 k5 k6 k7 Hok HDc HRt Hbad HO1
  go_upto_region 7 with (go_at_call 11; refine HPt.out.mono ?_; rintro e w6 ⟨bv, rfl, ho, hg⟩; have HO6 := Lib.hid ho.sl; have HG6 := Lib.hid (HG5.out.trans hg (fun _ _ h => h)); have HB6 := Lib.hid (HB5.out.fr hg (fun h => h)); have HR6 := Lib.hid (HR5.out.fr hg (fun h => h)); have HT6 := Lib.hid (HT5.out.gr hg); clear ho hg)
  clear l5 HPt
  go_upto_region 8 with (first
    | (go_at_call 15; refine (HGt.out _ _ HO6.out).mono ?_; rintro e w7 ⟨tv7, rfl, ho, hg⟩; obtain ⟨A7, c7, rfl⟩ := own_formN ho.own; have HU7 := Lib.hid ho.sl; have HG7 := Lib.hid (HG6.out.trans hg (fun _ _ h => h)); have HB7 := Lib.hid (HB6.out.fr hg (fun h => h)); have HR7 := Lib.hid (HR6.out.fr hg (fun h => h)); have HT7 := Lib.hid (HT6.out.gr hg); clear ho hg)
    | refine Sha.wpList_store_new (w0 := w7) rfl _ _ _ rfl (rcA ⟨D, id, (x2.length : Int), L⟩ (.slice A7 L.length c7)) _ _ rfl rfl rfl (by rw [rcA_size (r := ⟨D, id, (x2.length : Int), L⟩) _ HDd.out]; kernel_rfl) (by rw [rcA_size (r := ⟨D, id, (x2.length : Int), L⟩) _ HDd.out]; rfl) (rcA_one rfl) ?_)
  have HV8 := Lib.hid (Blk.new w7 TRc (rcA ⟨D, id, (x2.length : Int), L⟩ (.slice A7 L.length c7)))
  have HG8 := Lib.hid (HG7.out.alloc (.cells (rcA ⟨D, id, (x2.length : Int), L⟩ (.slice A7 L.length c7)) TRc))
  have HB8 := Lib.hid (HB7.out.alloc (.cells (rcA ⟨D, id, (x2.length : Int), L⟩ (.slice A7 L.length c7)) TRc))
  have HR8 := Lib.hid (HR7.out.alloc (.cells (rcA ⟨D, id, (x2.length : Int), L⟩ (.slice A7 L.length c7)) TRc))
  have HT8 := Lib.hid (HT7.out.gr ((Fr.refl w7 NoneS).alloc (.cells (rcA ⟨D, id, (x2.length : Int), L⟩ (.slice A7 L.length c7)) TRc)))
  have HU8 := Lib.hid (HU7.out.gr ((Fr.refl w7 NoneS).alloc (.cells (rcA ⟨D, id, (x2.length : Int), L⟩ (.slice A7 L.length c7)) TRc)))
  generalize w7.heap.size = p2 at HV8 ⊢
  generalize World.alloc w7 _ = w8 at HV8 HG8 HB8 HR8 HT8 HU8 ⊢
  clear HU7 HT7 HT6 HB7 HB6 HR6 HR7
  have c8 : w8.cell? ⟨q, 0, none⟩ = some (.slice A x0.length cap) := by rw [HB8.out.cell]; rfl
  have l8 := row35_rec HV8.out (r := ⟨D, id, (x2.length : Int), L⟩) HDd.out
  go_upto_region 9 with (go_at_call 26; refine (HDx.out _ _ HG8.out HU8.out).mono ?_; rintro e w9 ⟨cv9, rfl, ho, hg⟩; have HC9 := Lib.hid ho.sl; have HF9 := Lib.hid (show Gr w8 w9 from hg); have HG9 := Lib.hid (HG8.out.trans hg (fun _ _ h => h)); clear ho hg)
  clear c8 l8
  have Hl1 := Lib.hid (fun wx (hg : Gr w8 wx) => row35_rec (r := ⟨D, id, (x2.length : Int), L⟩) (HR8.out.fr hg (fun h => h)) HDd.out)
  have Hl2 := Lib.hid (fun wx (hg : Gr w8 wx) => row35_rec (r := ⟨D, id, (x2.length : Int), L⟩) (HV8.out.fr hg (fun h => h)) HDd.out)
  have Hc := Lib.hid (fun wx (hg : Gr w8 wx) => show wx.cell? ⟨q, 0, none⟩ = some (.slice A x0.length cap) from by rw [(HB8.out.fr hg (fun h => h)).cell]; rfl)
  have Hv := Lib.hid (fun wx (hg : Gr w8 wx) => show wx.cell? ⟨p2, 32, none⟩ = some (.int .u64 id) from by rw [(HV8.out.fr hg (fun h => h)).cell]; exact rcA_v (r := ⟨D, id, (x2.length : Int), L⟩) _ HDd.out)
  have l1 := Hl1.out _ HF9.out
  have l2 := Hl2.out _ HF9.out
  have HRc := Lib.hid (record_any (ra := ⟨D, id, (x2.length : Int), L⟩) (rb := ⟨D, id, (x2.length : Int), L⟩) HDd.out HDd.out (HT8.out.gr HF9.out) (HU8.out.gr HF9.out) (by have := HL4.out; show L.length ≤ _; omega))
  rw [recEq_refl] at HRc
  have HSm := Lib.hid (fun wx (hg : Gr w9 wx) => same_any _ _ x2 x2 wx (HC9.out.gr hg) ((HS2.out.gr HG9.out).gr hg) (by have := Hn.out; omega))
  rw [show decide (x2 = x2) = true from decide_eq_true rfl] at HSm
  go_wp2_with (first
    | (go_at_call 17; refine HRc.out.mono ?_; rintro e w10 ⟨rfl, hg⟩; have HD10 := Lib.hid (show Gr w9 w10 from hg); clear hg)
    | (go_at_call 13; refine (HSm.out _ HD10.out).mono ?_; rintro e w11 ⟨rfl, hd⟩; have HD11 := Lib.hid (HD10.out.trans hd.gr (fun _ _ h => h)); have HF11 := Lib.hid (HF9.out.trans HD11.out (fun _ _ h => h)); have m2 := Hl2.out _ HF11.out; have mc := Hc.out _ HF11.out; clear hd)
    | (go_at_call 28; refine (HRx.out _ _ (HG8.out.trans HF11.out (fun _ _ h => h)) (HU8.out.gr HF11.out)).mono ?_; rintro e w12 ⟨rfl, hg⟩; have HF12 := Lib.hid (HF11.out.trans hg (fun _ _ h => h)); have mv := Hv.out _ HF12.out; clear hg)
    | (go_at_call 14; refine (works_any _).mono ?_; rintro e wz ⟨rfl, hg⟩; have HGz := Lib.hid hg; clear hg))
  go_ret
  exact ⟨rfl, (HG8.out.trans HF12.out (fun _ _ h => h)).trans HGz.out (fun _ _ h => h)⟩
end Rec
end Go.Proofs.Ytobedpohoellkaa
