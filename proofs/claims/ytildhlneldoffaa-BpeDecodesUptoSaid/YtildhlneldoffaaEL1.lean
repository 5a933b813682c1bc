/- law 10: BpeBegins, BpeEncodes, BpeDecodes. -/
import Derived.Test.YtildhlneldoffaaELw
import Derived.Test.YtildhlneldoffaaERd
import Derived.Test.YtildhlneldoffaaERe
import Derived.Test.YtildhlneldoffaaFsame
set_option linter.unusedVariables false
set_option linter.unusedSimpArgs false
namespace Go.Proofs.Ytildhlneldoffaa
open Go.RowKit
open Voc Bpe
theorem bs_in {l : List Int} (h : ∀ x ∈ l, (Lit.int .u8 x).wf = true) : ∀ c ∈ l, 0 ≤ c ∧ c < 256 := fun c hc => u8_in (h c hc)
theorem encE_eq (xs : List Pc) (bs : List Int) : rencE xs bs = encE xs bs := by rw [renc_eq]; rfl
theorem begin_len (xs : List Pc) (bs : List Int) : (beginE xs bs).1.length ≤ bs.length := by
  unfold beginE
  split
  · exact Nat.zero_le _
  · split
    · exact Nat.zero_le _
    · rw [row0_len]; exact Nat.le_refl _
theorem enc_len (xs : List Pc) (bs : List Int) : (encE xs bs).1.length ≤ bs.length := by
  unfold encE
  split
  · exact Nat.zero_le _
  · split
    · exact Nat.zero_le _
    · have := encL_le (xs := xs) (row0 xs bs); rw [row0_len] at this; exact this
theorem dec_len (xs : List Pc) (l : List Int) : (decE xs l).1.length ≤ 4096 := by
  unfold decE
  split
  · exact Nat.zero_le _
  · split
    · exact Nat.zero_le _
    · split
      · exact Nat.zero_le _
      · simp only; omega
set_option maxRecDepth 20000 in
set_option maxHeartbeats 4000000 in
theorem BpeBegins_walk (w : World) (s0 : Value) (x0 : List Pc) (sl0 : SL encP w s0 x0) (wf0 : ∀ q ∈ x0, wfP q) (n0 : x0.length ≤ 1048576) (v1 : Value) (x1 : List Int) (sl1 : SL encB w v1 x1) (wf1 : ∀ x ∈ x1, (Lit.int .u8 x).wf = true) (n1 : x1.length ≤ 1048576) :
    Calls Try.prog 8 #[.agg #[s0], v1] w fun e w' => e = .returned (.bool true) ∧ Gr w w' := by
  obtain ⟨A, cap, rfl⟩ := SL.form sl0
  obtain ⟨A1, cap1, rfl⟩ := SL.form sl1
  have HS0 := Lib.hid sl0
  have HS1 := Lib.hid sl1
  have HG := Lib.hid ((Fr.refl w NoneS).alloc (.cells #[.slice A x0.length cap] 24))
  have HB := Lib.hid (Blk.new w 24 #[.slice A x0.length cap])
  obtain ⟨q, hq⟩ : ∃ q, w.heap.size = q := ⟨_, rfl⟩
  rw [hq] at HB
  have HL := Lib.hid (long_any (sl0.gr HG.out) n0 x1.length n1)
  have HA := Lib.hid (fun wx (hg : Gr w wx) => Begin_any (sl0.gr hg) (sl1.gr hg) wf0 (bs_in wf1) n0 n1)
  have HR := Lib.hid (fun wx (hg : Gr w wx) => rbegin_any (sl0.gr hg) (sl1.gr hg) wf0 (bs_in wf1) n0)
  obtain ⟨⟨L, E⟩, hE⟩ : ∃ y, beginE x0 x1 = y := ⟨_, rfl⟩
  have Hlen := Lib.hid (show L.length ≤ 1048576 by have h := Nat.le_trans (begin_len x0 x1) n1; rw [hE] at h; exact Nat.le_trans h (by omega))
  rw [hE] at HA HR
  simp only at HA HR
  clear sl0 sl1 wf0 wf1 hE
  obtain ⟨b, hb⟩ : ∃ b, decide (500 < x0.length ∨ (300 < x1.length ∧ x1.length ≤ 4096)) = b := ⟨_, rfl⟩
  rw [hb] at HL
  clear hb
  have hx1 : (x1.length : Int) ≤ 1048576 := by omega
  go_enter Try.func8, Try.ntmps8
  go_upto_region 1 with (fail)
  clear hq
  generalize hx : World.alloc w _ = wa at HG HB HL ⊢
  clear hx
  have c0 : wa.cell? ⟨q, 0, none⟩ = some (.slice A x0.length cap) := by rw [HB.out.cell]; rfl
  cases b with
  | true =>
    go_wp2_with (first
      | (go_at_call 13; refine HL.out.mono ?_; rintro e w2 ⟨rfl, hg⟩; have HG2 := Lib.hid (HG.out.trans hg (fun _ _ h => h)); clear hg)
      | (go_at_call 14; refine (works_any _).mono ?_; rintro e wz ⟨rfl, hg⟩; have HGz := Lib.hid hg; clear hg))
    go_ret
    exact ⟨rfl, HG2.out.trans HGz.out (fun _ _ h => h)⟩
  | false =>
    go_upto_region 3 with (go_at_call 13; refine HL.out.mono ?_; rintro e w2 ⟨rfl, hg⟩; have HG2 := Lib.hid (HG.out.trans hg (fun _ _ h => h)); have HB2 := Lib.hid (HB.out.fr hg (fun h => h)); clear hg)
    have c2 : w2.cell? ⟨q, 0, none⟩ = some (.slice A x0.length cap) := by rw [HB2.out.cell]; rfl
    go_upto_region 4 with (go_at_call 23; refine (HA.out _ HG2.out).mono ?_; rintro e w3 ⟨ra, rfl, ho, hg⟩; have HO3 := Lib.hid ho.sl; have HG3 := Lib.hid (HG2.out.trans hg (fun _ _ h => h)); have HB3 := Lib.hid (HB2.out.fr hg (fun h => h)); clear ho hg)
    have c3 : w3.cell? ⟨q, 0, none⟩ = some (.slice A x0.length cap) := by rw [HB3.out.cell]; rfl
    go_upto_region 5 with (go_at_call 24; refine (HR.out _ HG3.out).mono ?_; rintro e w4 ⟨rb, rfl, ho, hg⟩; have HP4 := Lib.hid ho.sl; have HO4 := Lib.hid (HO3.out.gr hg); have HG4 := Lib.hid (HG3.out.trans hg (fun _ _ h => h)); clear ho hg)
    have HI := Lib.hid (Ints_any _ _ L L w4 HO4.out HP4.out (by have := Hlen.out; omega))
    rw [show decide (L = L) = true from decide_eq_true rfl] at HI
    clear c0 c2 c3
    go_wp2_with (first
      | (go_at_call 17; refine HI.out.mono ?_; rintro e w5 ⟨rfl, hd⟩; have HD5 := Lib.hid hd.gr; clear hd)
      | (go_at_call 14; refine (works_any _).mono ?_; rintro e wz ⟨rfl, hg⟩; have HGz := Lib.hid hg; clear hg))
    go_ret
    exact ⟨rfl, (HG4.out.trans HD5.out (fun _ _ h => h)).trans HGz.out (fun _ _ h => h)⟩
set_option maxRecDepth 20000 in
set_option maxHeartbeats 4000000 in
theorem BpeEncodes_walk (w : World) (s0 : Value) (x0 : List Pc) (sl0 : SL encP w s0 x0) (wf0 : ∀ q ∈ x0, wfP q) (n0 : x0.length ≤ 1048576) (v1 : Value) (x1 : List Int) (sl1 : SL encB w v1 x1) (wf1 : ∀ x ∈ x1, (Lit.int .u8 x).wf = true) (n1 : x1.length ≤ 1048576) :
    Calls Try.prog 3 #[.agg #[s0], v1] w fun e w' => e = .returned (.bool true) ∧ Gr w w' := by
  obtain ⟨A, cap, rfl⟩ := SL.form sl0
  obtain ⟨A1, cap1, rfl⟩ := SL.form sl1
  have HS0 := Lib.hid sl0
  have HS1 := Lib.hid sl1
  have HG := Lib.hid ((Fr.refl w NoneS).alloc (.cells #[.slice A x0.length cap] 24))
  have HB := Lib.hid (Blk.new w 24 #[.slice A x0.length cap])
  obtain ⟨q, hq⟩ : ∃ q, w.heap.size = q := ⟨_, rfl⟩
  rw [hq] at HB
  have HL := Lib.hid (long_any (sl0.gr HG.out) n0 x1.length n1)
  have HA := Lib.hid (fun wx (hg : Gr w wx) => encode_any (sl0.gr hg) (sl1.gr hg) wf0 (bs_in wf1) n0)
  have HR := Lib.hid (fun wx (hg : Gr w wx) => rencode_any (sl0.gr hg) (sl1.gr hg) wf0 (bs_in wf1) n0 n1)
  rw [encE_eq] at HR
  obtain ⟨⟨L, E⟩, hE⟩ : ∃ y, encE x0 x1 = y := ⟨_, rfl⟩
  have Hlen := Lib.hid (show L.length ≤ 1048576 by have h := Nat.le_trans (enc_len x0 x1) n1; rw [hE] at h; exact Nat.le_trans h (by omega))
  rw [hE] at HA HR
  simp only at HA HR
  clear sl0 sl1 wf0 wf1 hE
  obtain ⟨b, hb⟩ : ∃ b, decide (500 < x0.length ∨ (300 < x1.length ∧ x1.length ≤ 4096)) = b := ⟨_, rfl⟩
  rw [hb] at HL
  clear hb
  have hx1 : (x1.length : Int) ≤ 1048576 := by omega
  go_enter Try.func3, Try.ntmps3
  go_upto_region 1 with (fail)
  clear hq
  generalize hx : World.alloc w _ = wa at HG HB HL ⊢
  clear hx
  have c0 : wa.cell? ⟨q, 0, none⟩ = some (.slice A x0.length cap) := by rw [HB.out.cell]; rfl
  cases b with
  | true =>
    go_wp2_with (first
      | (go_at_call 13; refine HL.out.mono ?_; rintro e w2 ⟨rfl, hg⟩; have HG2 := Lib.hid (HG.out.trans hg (fun _ _ h => h)); clear hg)
      | (go_at_call 14; refine (works_any _).mono ?_; rintro e wz ⟨rfl, hg⟩; have HGz := Lib.hid hg; clear hg))
    go_ret
    exact ⟨rfl, HG2.out.trans HGz.out (fun _ _ h => h)⟩
  | false =>
    go_upto_region 3 with (go_at_call 13; refine HL.out.mono ?_; rintro e w2 ⟨rfl, hg⟩; have HG2 := Lib.hid (HG.out.trans hg (fun _ _ h => h)); have HB2 := Lib.hid (HB.out.fr hg (fun h => h)); clear hg)
    have c2 : w2.cell? ⟨q, 0, none⟩ = some (.slice A x0.length cap) := by rw [HB2.out.cell]; rfl
    go_upto_region 4 with (go_at_call 15; refine (HA.out _ HG2.out).mono ?_; rintro e w3 ⟨ra, rfl, ho, hg⟩; have HO3 := Lib.hid ho.sl; have HG3 := Lib.hid (HG2.out.trans hg (fun _ _ h => h)); have HB3 := Lib.hid (HB2.out.fr hg (fun h => h)); clear ho hg)
    have c3 : w3.cell? ⟨q, 0, none⟩ = some (.slice A x0.length cap) := by rw [HB3.out.cell]; rfl
    go_upto_region 5 with (go_at_call 16; refine (HR.out _ HG3.out).mono ?_; rintro e w4 ⟨rb, rfl, ho, hg⟩; have HP4 := Lib.hid ho.sl; have HO4 := Lib.hid (HO3.out.gr hg); have HG4 := Lib.hid (HG3.out.trans hg (fun _ _ h => h)); clear ho hg)
    have HI := Lib.hid (Ints_any _ _ L L w4 HO4.out HP4.out (by have := Hlen.out; omega))
    rw [show decide (L = L) = true from decide_eq_true rfl] at HI
    clear c0 c2 c3
    go_wp2_with (first
      | (go_at_call 17; refine HI.out.mono ?_; rintro e w5 ⟨rfl, hd⟩; have HD5 := Lib.hid hd.gr; clear hd)
      | (go_at_call 14; refine (works_any _).mono ?_; rintro e wz ⟨rfl, hg⟩; have HGz := Lib.hid hg; clear hg))
    go_ret
    exact ⟨rfl, (HG4.out.trans HD5.out (fun _ _ h => h)).trans HGz.out (fun _ _ h => h)⟩
set_option maxRecDepth 20000 in
set_option maxHeartbeats 4000000 in
theorem BpeDecodes_walk (w : World) (s0 : Value) (x0 : List Pc) (sl0 : SL encP w s0 x0) (wf0 : ∀ q ∈ x0, wfP q) (n0 : x0.length ≤ 1048576) (v1 : Value) (x1 : List Int) (sl1 : SL encI w v1 x1) (wf1 : ∀ x ∈ x1, (Lit.int .i64 x).wf = true) (n1 : x1.length ≤ 1048576) :
    Calls Try.prog 4 #[.agg #[s0], v1] w fun e w' => e = .returned (.bool true) ∧ Gr w w' := by
  obtain ⟨A, cap, rfl⟩ := SL.form sl0
  obtain ⟨A1, cap1, rfl⟩ := SL.form sl1
  have HS0 := Lib.hid sl0
  have HS1 := Lib.hid sl1
  have HG := Lib.hid ((Fr.refl w NoneS).alloc (.cells #[.slice A x0.length cap] 24))
  have HB := Lib.hid (Blk.new w 24 #[.slice A x0.length cap])
  obtain ⟨q, hq⟩ : ∃ q, w.heap.size = q := ⟨_, rfl⟩
  rw [hq] at HB
  have HL := Lib.hid (long_any (sl0.gr HG.out) n0 x1.length n1)
  have HA := Lib.hid (fun wx (hg : Gr w wx) => decode_any (sl0.gr hg) (sl1.gr hg) wf0 n0 n1)
  have HR := Lib.hid (fun wx (hg : Gr w wx) => rdecode_any (sl0.gr hg) (sl1.gr hg) wf0 n0 n1)
  obtain ⟨⟨L, E⟩, hE⟩ : ∃ y, decE x0 x1 = y := ⟨_, rfl⟩
  have Hlen := Lib.hid (show L.length ≤ 1048576 by have h := dec_len x0 x1; rw [hE] at h; exact Nat.le_trans h (by omega))
  rw [hE] at HA HR
  simp only at HA HR
  clear sl0 sl1 wf0 wf1 hE
  obtain ⟨b, hb⟩ : ∃ b, decide (500 < x0.length ∨ (300 < x1.length ∧ x1.length ≤ 4096)) = b := ⟨_, rfl⟩
  rw [hb] at HL
  clear hb
  have hx1 : (x1.length : Int) ≤ 1048576 := by omega
  go_enter Try.func4, Try.ntmps4
  go_upto_region 1 with (fail)
  clear hq
  generalize hx : World.alloc w _ = wa at HG HB HL ⊢
  clear hx
  have c0 : wa.cell? ⟨q, 0, none⟩ = some (.slice A x0.length cap) := by rw [HB.out.cell]; rfl
  cases b with
  | true =>
    go_wp2_with (first
      | (go_at_call 13; refine HL.out.mono ?_; rintro e w2 ⟨rfl, hg⟩; have HG2 := Lib.hid (HG.out.trans hg (fun _ _ h => h)); clear hg)
      | (go_at_call 14; refine (works_any _).mono ?_; rintro e wz ⟨rfl, hg⟩; have HGz := Lib.hid hg; clear hg))
    go_ret
    exact ⟨rfl, HG2.out.trans HGz.out (fun _ _ h => h)⟩
  | false =>
    go_upto_region 3 with (go_at_call 13; refine HL.out.mono ?_; rintro e w2 ⟨rfl, hg⟩; have HG2 := Lib.hid (HG.out.trans hg (fun _ _ h => h)); have HB2 := Lib.hid (HB.out.fr hg (fun h => h)); clear hg)
    have c2 : w2.cell? ⟨q, 0, none⟩ = some (.slice A x0.length cap) := by rw [HB2.out.cell]; rfl
    go_upto_region 4 with (go_at_call 18; refine (HA.out _ HG2.out).mono ?_; rintro e w3 ⟨ra, rfl, ho, hg⟩; have HO3 := Lib.hid ho.sl; have HG3 := Lib.hid (HG2.out.trans hg (fun _ _ h => h)); have HB3 := Lib.hid (HB2.out.fr hg (fun h => h)); clear ho hg)
    have c3 : w3.cell? ⟨q, 0, none⟩ = some (.slice A x0.length cap) := by rw [HB3.out.cell]; rfl
    go_upto_region 5 with (go_at_call 19; refine (HR.out _ HG3.out).mono ?_; rintro e w4 ⟨rb, rfl, ho, hg⟩; have HP4 := Lib.hid ho.sl; have HO4 := Lib.hid (HO3.out.gr hg); have HG4 := Lib.hid (HG3.out.trans hg (fun _ _ h => h)); clear ho hg)
    have HI := Lib.hid (same_any _ _ L L w4 HO4.out HP4.out (by have := Hlen.out; omega))
    rw [show decide (L = L) = true from decide_eq_true rfl] at HI
    clear c0 c2 c3
    go_wp2_with (first
      | (go_at_call 20; refine HI.out.mono ?_; rintro e w5 ⟨rfl, hd⟩; have HD5 := Lib.hid hd.gr; clear hd)
      | (go_at_call 14; refine (works_any _).mono ?_; rintro e wz ⟨rfl, hg⟩; have HGz := Lib.hid hg; clear hg))
    go_ret
    exact ⟨rfl, (HG4.out.trans HD5.out (fun _ _ h => h)).trans HGz.out (fun _ _ h => h)⟩
end Go.Proofs.Ytildhlneldoffaa
