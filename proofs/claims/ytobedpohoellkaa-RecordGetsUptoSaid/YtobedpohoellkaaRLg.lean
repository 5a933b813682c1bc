/- law 13: RecordGets. -/
import Derived.Test.YtobedpohoellkaaRLa
import Derived.Test.YtobedpohoellkaaRRc
set_option linter.unusedVariables false
set_option linter.unusedSimpArgs false
namespace Go.Proofs.Ytobedpohoellkaa
open Go.RowKit
open Voc Leb Bpe
namespace Rec
theorem getR_t (bs : List Int) : (getR bs).1.t.length ≤ 65536 := by
  unfold getR
  split
  · exact Nat.zero_le _
  split
  · exact Nat.zero_le _
  split
  · exact Nat.zero_le _
  split
  · exact Nat.zero_le _
  split
  · exact Nat.zero_le _
  · simp only
    unfold unpackE
    split
    · exact Nat.zero_le _
    split
    · exact Nat.zero_le _
    · rename_i h
      have := rowR_len (bs := bs) (lebE (bs.drop (40 + (lebE (bs.drop 40)).2.1))).1 [] 0 (40 + (lebE (bs.drop 40)).2.1 + (lebE (bs.drop (40 + (lebE (bs.drop 40)).2.1))).2.1)
      simp only [List.length_nil, Nat.zero_add] at this
      omega
attribute [local go_sem ↓] loadAt_row35 loadVar_row35 loadCells_row35
set_option maxRecDepth 20000 in
set_option maxHeartbeats 4000000 in
theorem RecordGets_walk (w : World) (v0 : Value) (x0 : List Int) (sl0 : SL encB w v0 x0) (wf0 : ∀ x ∈ x0, (Lit.int .u8 x).wf = true) (n0 : x0.length ≤ 1048576) :
    Calls Try.prog 4 #[v0] w fun e w' => e = .returned (.bool true) ∧ Gr w w' := by
  have HGt := Lib.hid (recGet_any sl0 (bs_in wf0) (by omega))
  have HRt := Lib.hid (fun wx (hg : Gr w wx) => rrecGet_any (sl0.gr hg) (bs_in wf0) (by omega))
  have Hd := Lib.hid (getR_d x0)
  have Ht := Lib.hid (getR_t x0)
  obtain ⟨⟨r, E⟩, hR⟩ : ∃ R, getR x0 = R := ⟨_, rfl⟩
  rw [hR] at HGt HRt Hd Ht
  simp only at HGt HRt Hd Ht
  clear sl0 wf0 n0 hR
  go_enter Try.func4, Try.ntmps4
  go_upto_region 2 with (first
    | (go_at_call 15; refine HGt.out.mono ?_; rintro e w2 ⟨tv, rfl, ho, hg⟩; obtain ⟨At, ct, rfl⟩ := own_formN ho.own; have HT2 := Lib.hid ho.sl; have HG2 := Lib.hid hg; clear ho hg)
    | refine Sha.wpList_store_new (w0 := w2) rfl _ _ _ rfl (rcA r (.slice At r.t.length ct)) _ _ rfl rfl rfl (by rw [rcA_size _ Hd.out]; kernel_rfl) (by rw [rcA_size _ Hd.out]; rfl) (rcA_one rfl) ?_)
  have HR5 := Lib.hid (Blk.new w2 TRc (rcA r (.slice At r.t.length ct)))
  have HG5 := Lib.hid (HG2.out.alloc (.cells (rcA r (.slice At r.t.length ct)) TRc))
  have HT5 := Lib.hid (HT2.out.gr ((Fr.refl w2 NoneS).alloc (.cells (rcA r (.slice At r.t.length ct)) TRc)))
  generalize w2.heap.size = p1 at HR5 ⊢
  generalize World.alloc w2 _ = w5 at HR5 HG5 HT5 ⊢
  clear HT2
  go_upto_region 3 with (first
    | (go_at_call 16; refine (HRt.out _ HG5.out).mono ?_; rintro e w6 ⟨tv6, rfl, ho, hg⟩; obtain ⟨A6, c6, rfl⟩ := own_formN ho.own; have HT6 := Lib.hid ho.sl; have HU6 := Lib.hid (HT5.out.gr hg); have HR6 := Lib.hid (HR5.out.fr hg (fun h => h)); have HG6 := Lib.hid (HG5.out.trans hg (fun _ _ h => h)); clear ho hg)
    | refine Sha.wpList_store_new (w0 := w6) rfl _ _ _ rfl (rcA r (.slice A6 r.t.length c6)) _ _ rfl rfl rfl (by rw [rcA_size _ Hd.out]; kernel_rfl) (by rw [rcA_size _ Hd.out]; rfl) (rcA_one rfl) ?_)
  have HV7 := Lib.hid (Blk.new w6 TRc (rcA r (.slice A6 r.t.length c6)))
  have HG7 := Lib.hid (HG6.out.alloc (.cells (rcA r (.slice A6 r.t.length c6)) TRc))
  have HR7 := Lib.hid (HR6.out.alloc (.cells (rcA r (.slice A6 r.t.length c6)) TRc))
  have HT7 := Lib.hid (HT6.out.gr ((Fr.refl w6 NoneS).alloc (.cells (rcA r (.slice A6 r.t.length c6)) TRc)))
  have HU7 := Lib.hid (HU6.out.gr ((Fr.refl w6 NoneS).alloc (.cells (rcA r (.slice A6 r.t.length c6)) TRc)))
  generalize w6.heap.size = p2 at HV7 ⊢
  generalize World.alloc w6 _ = w7 at HV7 HG7 HR7 HT7 HU7 ⊢
  clear HT6 HU6 HR6
  have l1 := row35_rec HR7.out Hd.out
  have l2 := row35_rec HV7.out Hd.out
  have HRc := Lib.hid (record_any Hd.out Hd.out HU7.out HT7.out (by have := Ht.out; omega))
  rw [recEq_refl] at HRc
  go_wp2_with (first
    | (go_at_call 17; refine HRc.out.mono ?_; rintro e w8 ⟨rfl, hg⟩; have HG8 := Lib.hid (show Gr w7 w8 from hg); clear hg)
    | (go_at_call 14; refine (works_any _).mono ?_; rintro e wz ⟨rfl, hg⟩; have HGz := Lib.hid hg; clear hg))
  go_ret
  exact ⟨rfl, (HG7.out.trans HG8.out (fun _ _ h => h)).trans HGz.out (fun _ _ h => h)⟩
end Rec
end Go.Proofs.Ytobedpohoellkaa
