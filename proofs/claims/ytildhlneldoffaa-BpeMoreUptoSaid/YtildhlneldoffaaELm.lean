/- law 10: BpeMore. -/
import Derived.Test.YtildhlneldoffaaEL1
import Derived.Test.YtildhlneldoffaaFvoc
import Derived.Lib.MinMax
set_option linter.unusedVariables false
set_option linter.unusedSimpArgs false
namespace Go.Proofs.Ytildhlneldoffaa
open Go.RowKit
open Voc Bpe
namespace Bpe
theorem enc_more {xs : List Pc} {q : Pc} {bs : List Int} (hc : (checkE xs).1 = 0) (hw : ∀ q ∈ xs, wfP q) (hb : ∀ c ∈ bs, 0 ≤ c ∧ c < 256) (h4 : bs.length ≤ 4096) :
    encE (xs ++ [q]) bs = ([], 11) ∨ encE (xs ++ [q]) bs = (encL (xs ++ [q]) (row0 xs bs), 0) := by
  unfold encE
  by_cases h : (checkE (xs ++ [q])).1 = 0
  · right; rw [if_neg (by rw [h]; decide), if_neg (by omega), row0_snoc hc hw hb]
  · left; rw [if_pos h]
theorem u32_in' {x : Int} (h : (Lit.int .u32 x).wf = true) : 0 ≤ x ∧ x < 4294967296 := by
  simp [Lit.wf, IntKind.min, IntKind.max, IntKind.signed, IntKind.bits] at h
  omega
theorem u32_mk' {x : Int} (h : 0 ≤ x ∧ x < 4294967296) : (Lit.int .u32 x).wf = true := by
  simp [Lit.wf, IntKind.min, IntKind.max, IntKind.signed, IntKind.bits]; omega
theorem more_same {xs : List Pc} {q : Pc} (h : ∀ p ∈ xs, p.k < q.k) (m : List Int) (hno : ∀ i, i + 1 < (encL xs m).length → ¬ ((encL xs m).getD i 0 = q.l ∧ (encL xs m).getD (i + 1) 0 = q.r)) : encL (xs ++ [q]) m = encL xs m :=
  encL_same h m (fun i hi hp => hno i hi ⟨hp.1.symm, hp.2.symm⟩)
end Bpe
set_option maxRecDepth 20000 in
set_option maxHeartbeats 4000000 in
theorem BpeMore_walk (w : World) (s0 : Value) (x0 : List Pc) (sl0 : SL encP w s0 x0) (wf0 : ∀ q ∈ x0, wfP q) (n0 : x0.length ≤ 1048576) (a1 : Int) (wa1 : (Lit.int .i64 a1).wf = true) (a2 : Int) (wa2 : (Lit.int .i64 a2).wf = true) (v3 : Value) (x3 : List Int) (sl3 : SL encB w v3 x3) (wf3 : ∀ x ∈ x3, (Lit.int .u8 x).wf = true) (n3 : x3.length ≤ 1048576) :
    Calls Try.prog 6 #[.agg #[s0], .int .i64 a1, .int .i64 a2, v3] w fun e w' => e = .returned (.bool true) ∧ Gr w w' := by
  obtain ⟨i0, hi0, hz0, hz1, hz2⟩ := info_parts info_pc
  obtain ⟨A, cap, rfl⟩ := SL.form sl0
  obtain ⟨A3, cap3, rfl⟩ := SL.form sl3
  have HS0 := Lib.hid sl0
  have HS3 := Lib.hid sl3
  have HG := Lib.hid ((Fr.refl w NoneS).alloc (.cells #[.slice A x0.length cap] 24))
  have HB := Lib.hid (Blk.new w 24 #[.slice A x0.length cap])
  obtain ⟨q, hq⟩ : ∃ q, w.heap.size = q := ⟨_, rfl⟩
  rw [hq] at HB
  have HL := Lib.hid (long_any (sl0.gr HG.out) n0 x3.length n3)
  have HA := Lib.hid (fun wx (hg : Gr w wx) => encode_any (sl0.gr hg) (sl3.gr hg) wf0 (bs_in wf3) n0)
  have HA2 := Lib.hid (fun (wx : World) (sv : Value) (xs : List Pc) (hg : Gr w wx) (h : SL encP wx sv xs) (hw : ∀ q ∈ xs, wfP q) (hn : xs.length ≤ 1048576) => encode_any h (sl3.gr hg) hw (bs_in wf3) hn)
  have Hwf0 := Lib.hid wf0
  have Hwa := Lib.hid (And.intro wa1 wa2)
  have HM := Lib.hid (fun (q : Pc) (hc : (checkE x0).1 = 0) (h4 : x3.length ≤ 4096) => enc_more (q := q) hc wf0 (bs_in wf3) h4)
  have Hlen := Lib.hid (enc_len x0 x3)
  have Hok := Lib.hid (fun h => enc_ok (xs := x0) (bs := x3) h)
  obtain ⟨⟨L, E⟩, hE⟩ : ∃ y, encE x0 x3 = y := ⟨_, rfl⟩
  rw [hE] at HA Hok Hlen
  simp only at HA Hok Hlen
  clear sl0 sl3 wf0 wf3 hE wa1 wa2
  obtain ⟨b, hb⟩ : ∃ b, decide (500 < x0.length ∨ (300 < x3.length ∧ x3.length ≤ 4096)) = b := ⟨_, rfl⟩
  rw [hb] at HL
  have Hx0 := Lib.hid (show b = false → x0.length ≤ 500 from fun h => by
    rw [h] at hb
    have := of_decide_eq_false hb
    omega)
  clear hb
  have hx0 : (x0.length : Int) ≤ 1048576 := by omega
  have hx3 : (x3.length : Int) ≤ 1048576 := by omega
  go_enter Try.func6, Try.ntmps6
  go_upto_region 1 with (fail)
  have Hq := Lib.hid hq
  clear hq
  generalize hx : World.alloc w _ = wa at HG HB HL ⊢
  clear hx
  have c0 : wa.cell? ⟨q, 0, none⟩ = some (.slice A x0.length cap) := by rw [HB.out.cell]; rfl
  cases b with
  | true =>
    go_wp2_with (first
      | (go_at_call 13; refine HL.out.mono ?_; rintro e w2 ⟨rfl, hg⟩; have HG2 := Lib.hid (HG.out.trans hg (fun _ _ h => h)); clear hg)
      | (go_at_call 14; refine (works_any _).mono ?_; rintro e wz ⟨rfl, hg⟩; have HGz := Lib.hid hg; clear hg))
    go_ret
    exact ⟨rfl, HG2.out.trans HGz.out (fun _ _ h => h)⟩
  | false =>
  have H500 := Lib.hid (Hx0.out rfl)
  have hx5 : (x0.length : Int) ≤ 500 := by have := H500.out; omega
  clear hx0
  go_upto_region 3 with (go_at_call 13; refine HL.out.mono ?_; rintro e w2 ⟨rfl, hg⟩; have HG2 := Lib.hid (HG.out.trans hg (fun _ _ h => h)); have HB2 := Lib.hid (HB.out.fr hg (fun h => h)); clear hg)
  clear c0 HB HL HG
  go_upto_block 0 with (fail)
  go_cut [9] (fun s9 wx => ∃ mo : Int, s9 = .int .u32 mo ∧ Hid (0 ≤ mo ∧ mo < 4294967296 ∧ ∀ p ∈ x0, p.k ≤ mo) ∧ Hid (Gr w2 wx))
  case first =>
    go_wp2_with fail
    go_loopg [9, 10] (x0.length + 1) (fun m s9 s10 wr => ∃ (k : Nat) (mo : Int), s9 = .int .u32 mo ∧ s10 = .int .i64 k ∧ Hid (k ≤ x0.length ∧ x0.length - k < m) ∧ Hid (0 ≤ mo ∧ mo < 4294967296 ∧ ∀ p ∈ x0.take k, p.k ≤ mo) ∧ Hid (Gr w2 wr))
    case atStart => exact ⟨0, 0, rfl, rfl, ⟨Nat.zero_le _, by omega⟩, ⟨by omega, by omega, fun p hp => by simp at hp⟩, Fr.refl _ _⟩
    case round =>
      obtain ⟨k, mo, rfl, rfl, HK, HP, HD⟩ := hrel
      have f0 : wr.cell? ⟨q, 0, none⟩ = some (.slice A x0.length cap) := by rw [(HB2.out.fr HD.out (fun h => h)).cell]; rfl
      by_cases hk : k < x0.length
      · have hki : (k : Int) < (x0.length : Int) := by omega
        obtain ⟨bv, ov, rfl, hbv, hcv⟩ := (HS0.out.gr (HG2.out.trans HD.out (fun _ _ h => h))).at_ (s := 5) (fun _ => rfl) rfl hk
        have r4 := hcv 4 (by omega)
        obtain ⟨p, hp⟩ : ∃ p, x0[k]'hk = p := ⟨_, rfl⟩
        have hpw := Hwf0.out p (by rw [← hp]; exact List.getElem_mem hk)
        rw [hp] at r4
        simp [encP] at r4
        rw [← Nat.add_assoc] at r4
        have Hpk := Lib.hid (show 0 ≤ p.k ∧ p.k < 4294967296 from Bpe.u32_in' hpw.2.2.2)
        have Htk := Lib.hid (show ∀ u ∈ x0.take (k + 1), u.k ≤ max mo p.k from fun u hu => by
          rw [List.take_succ_eq_append_getElem hk, hp] at hu
          rcases List.mem_append.1 hu with h | h
          · have := HP.out.2.2 u h; omega
          · simp at h; rw [h]; omega)
        have Hk := Lib.hid hk
        clear hcv hbv hp hpw hk
        go_wp2_with fail
        go_roundg (gk - 1)
        case measure => have := HK.out; have := Hk.out; omega
        case rel => exact ⟨k + 1, max mo p.k, rfl, by go_num, ⟨Hk.out, by have := HK.out; have := Hk.out; omega⟩, ⟨by have := HP.out; have := Hpk.out; omega, by have := HP.out; have := Hpk.out; omega, Htk.out⟩, HD.out⟩
      · have Hk := Lib.hid (show k = x0.length by have := HK.out; omega)
        have hki : decide ((k : Int) < (x0.length : Int)) = false := decide_eq_false (by omega)
        go_wp2_with fail
        go_meet
        refine ⟨mo, rfl, ⟨HP.out.1, HP.out.2.1, fun p hp => HP.out.2.2 p ?_⟩, HD⟩
        rw [Hk.out, List.take_of_length_le (Nat.le_refl _)]; exact hp
  case rest =>
  obtain ⟨mo, rfl, HP, HD⟩ := hcut
  have HG3 := Lib.hid (HG2.out.trans HD.out (fun _ _ h => h))
  have HB3 := Lib.hid (HB2.out.fr HD.out (fun h => h))
  have c3 : wc.cell? ⟨q, 0, none⟩ = some (.slice A x0.length cap) := by rw [HB3.out.cell]; rfl
  have Hsz3 := Lib.hid HG3.out.size
  have HP2 := HP
  clear HD HG2 HB2
  go_upto_region 9 with (go_at_call 15; refine (HA.out _ HG3.out).mono ?_; rintro e w4 ⟨ra, rfl, ho, hg⟩; obtain ⟨Ar, cr, rfl⟩ := own_formN ho.own; have HO4 := Lib.hid ho.sl; have HLb := Lib.hid (fun k hk => (ho.own.lt k hk).2); have HG4 := Lib.hid (HG3.out.trans hg (fun _ _ h => h)); have HB4 := Lib.hid (HB3.out.fr hg (fun h => h)); clear ho hg)
  by_cases hE0 : E = 0
  case neg =>
    have hE1 : (E != 0) = true := bne_iff_ne.2 hE0
    clear hE0 c3
    go_wp2_with (go_at_call 14; refine (works_any _).mono ?_; rintro e wz ⟨rfl, hg⟩; have HGz := Lib.hid hg; clear hg)
    go_ret
    exact ⟨rfl, HG4.out.trans HGz.out (fun _ _ h => h)⟩
  subst hE0
  by_cases hmo : mo = 4294967295
  case pos =>
    subst hmo
    clear c3
    go_wp2_with (go_at_call 14; refine (works_any _).mono ?_; rintro e wz ⟨rfl, hg⟩; have HGz := Lib.hid hg; clear hg)
    go_ret
    exact ⟨rfl, HG4.out.trans HGz.out (fun _ _ h => h)⟩
  have hmo1 : (mo == 4294967295) = false := beq_eq_false_iff_ne.2 hmo
  have Hm1 := Lib.hid (show 0 ≤ mo ∧ mo + 1 ≤ 4294967295 by have := HP.out; omega)
  obtain ⟨Hck, H4, HLL⟩ : Hid ((checkE x0).1 = 0) ∧ Hid (x3.length ≤ 4096) ∧ Hid (L = encL x0 (row0 x0 x3)) := by
    obtain ⟨h1, h2, h3⟩ := Hok.out rfl
    exact ⟨h1, h2, h3⟩
  have Hqd := Lib.hid (show ∃ pq : Pc, pq = ⟨true, 0, a1, a2, mo + 1⟩ from ⟨_, rfl⟩)
  obtain ⟨pq, hpq⟩ := Hqd.out
  have Hpq := Lib.hid hpq
  have Hrk := Lib.hid (show ∀ p ∈ x0, p.k < pq.k from fun p hp => by rw [hpq]; have := HP.out.2.2 p hp; show p.k < mo + 1; omega)
  have Hpw := Lib.hid (show wfP pq from by rw [hpq]; exact ⟨by rfl, Hwa.out.1, Hwa.out.2, Bpe.u32_mk' (by have := Hm1.out; exact ⟨by show 0 ≤ mo + 1; omega, by show mo + 1 < _; omega⟩)⟩)
  have Hsame := Lib.hid (show (∀ i, i + 1 < L.length → ¬ (L.getD i 0 = a1 ∧ L.getD (i + 1) 0 = a2)) → encL (x0 ++ [pq]) (row0 x0 x3) = L from fun h => by
    have := Bpe.more_same (q := pq) Hrk.out (row0 x0 x3)
    rw [← HLL.out, hpq] at this
    rw [hpq]
    exact this h)
  have Hfew := Lib.hid (show ∀ i, i + 1 < L.length → L.getD i 0 = a1 → L.getD (i + 1) 0 = a2 → (encL (x0 ++ [pq]) (row0 x0 x3)).length < L.length from fun i hi h1 h2 => by
    have := encL_fewer (q := pq) Hrk.out (by rw [hpq]) (row0 x0 x3) i
    rw [← HLL.out] at this
    exact this hi (by rw [hpq]; exact ⟨h1.symm, h2.symm⟩))
  have HMx := Lib.hid (HM.out pq Hck.out H4.out)
  have Hml := Lib.hid (enc_len (x0 ++ [pq]) x3)
  obtain ⟨⟨M, F⟩, hMF⟩ : ∃ y, encE (x0 ++ [pq]) x3 = y := ⟨_, rfl⟩
  have HMF := Lib.hid hMF
  rw [hMF] at HMx Hml
  simp only at Hml
  clear hMF hmo hpq HM Hok
  go_upto_region 11 with (fail)
  have c4 : w4.cell? ⟨q, 0, none⟩ = some (.slice A x0.length cap) := by rw [HB4.out.cell]; rfl
  go_upto_region 12 with (go_at_call 21; refine (copyVocab_any (HS0.out.gr HG4.out) (by have := H500.out; omega)).mono ?_; rintro e w5 ⟨sv, rfl, ho, hg⟩; obtain ⟨Av, cv, rfl⟩ := own_formN ho; have HO5 := Lib.hid (own_base ho HG4.out.size); have HG5 := Lib.hid (HG4.out.trans hg (fun _ _ h => h)); have HL5 := Lib.hid (HO4.out.gr hg); have HS45 := Lib.hid hg.size; have HO6o := Lib.hid (fun k hk => (ho.lt k hk).1); clear ho hg)
  have HB6 := Lib.hid (Blk.new w5 24 #[.slice Av x0.length cv])
  have HG6 := Lib.hid (HG5.out.alloc (.cells #[.slice Av x0.length cv] 24))
  have HO6 := Lib.hid (HO5.out.alloc (.cells #[.slice Av x0.length cv] 24))
  have HL6 := Lib.hid (HL5.out.fr ((Fr.refl w5 NoneS).alloc (.cells #[.slice Av x0.length cv] 24)) (fun _ _ h => h))
  have HLp := Lib.hid (show ∀ k, (Value.slice Ar L.length cr).ownBlock = some k → k < w5.heap.size from fun k hk => by have := HLb.out k hk; have := HS45.out; omega)
  obtain ⟨p, hp⟩ : ∃ p, w5.heap.size = p := ⟨_, rfl⟩
  rw [hp] at HB6 ⊢
  have Hp1 := Lib.hid (show w.heap.size ≤ p by rw [← hp]; exact HG5.out.size)
  have HLq := Lib.hid (show ∀ k, (Value.slice Ar L.length cr).ownBlock = some k → k ≠ p from fun k hk e => by have := HLp.out k hk; omega)
  have HN6 := Lib.hid (show ∀ k, (Value.slice Av x0.length cv).ownBlock = some k → k ≠ p from fun k hk e => by have := (HO5.out.lt k hk).2; omega)
  clear hp
  generalize World.alloc w5 _ = w6 at HB6 HG6 HO6 HL6 ⊢
  have c6 : w6.cell? ⟨p, 0, none⟩ = some (.slice Av x0.length cv) := by rw [HB6.out.cell]; rfl
  have f6 := HB6.out.frozen 0
  have hwk : IntKind.u32.wrap (mo + 1) = mo + 1 := IntWalk.u32_in _ (by have := Hm1.out; omega)
  clear c3 c4
  go_upto_region 13 with (
    at_builtin
    refine wpList_append_sl _ encP rfl _ _ 22 rfl w.heap.size TPc i0 (.agg #[.bool false, .int .u8 0, .int .i64 0, .int .i64 0, .int .u32 0]) 5 32 Try.underlying22 hi0 hz0 hz1 hz2 rfl (by omega) (.slice Av x0.length cv) _ _ rfl (HO6.out.alloc _) (.slice (some ⟨w6.heap.size, 0, none⟩) 1 1) [(⟨true, 0, a1, a2, mo + 1⟩ : Pc)] rfl (sl_one w6 (⟨true, 0, a1, a2, mo + 1⟩ : Pc) _ rfl TPc) (fun _ => rfl) Voc.encP_one (by have := H500.out; simp only [maxLen, List.length_singleton]; omega) (by have := H500.out; simp only [List.length_singleton]; omega) (Nat.le_trans HG6.out.size (by simp)) ?_
    intro v2 w7 ho hf hat
    rw [← Hpq.out] at ho
    rw [← flatMap_one] at ho
    simp only [List.length_singleton] at ho
    obtain ⟨Av2, cv2, rfl⟩ := own_formN ho
    have HO7 := Lib.hid ho
    have HF7 := Lib.hid (((Fr.refl w6 _).alloc _).trans hf (fun _ _ h => h))
    have hne : ∀ k, Value.ownBlock (.slice Av x0.length cv) = some k → k ≠ p := HN6.out
    have HB7 := Lib.hid (HB6.out.fr HF7.out (fun h => hne _ h rfl))
    have HN7 := Lib.hid (show ∀ k, (Value.slice Av2 _ cv2).ownBlock = some k → k ≠ p from by
      intro k hk e
      rcases hat with h | h
      · exact HN6.out k (by rw [← h]; exact hk) e
      · rw [h] at hk; injection hk with hk; have := HB6.out.lt; simp only [World.size_alloc] at hk; omega)
    have c := HB7.out.cell 0
    have f := HB7.out.frozen 0
    clear ho hf hat hne)
  have HB8 := Lib.hid (HB7.out.set_ 0 (.slice Av2 (x0.length + 1) cv2))
  have hst := (Fr.refl w7 (fun k => k = p)).setCell (p := ⟨p, 0, none⟩) (fun _ => rfl) (.slice Av2 (x0.length + 1) cv2)
  have HO8 := Lib.hid (hst.owns HO7.out (fun k hk e => HN7.out k hk e))
  have HG8 := Lib.hid ((HG6.out.trans HF7.out (fun k hk h => by have := (HO6.out.lt k h).1; omega)).trans hst (fun k hk h => by have := Hp1.out; omega))
  have HB3p := HB3
  have HGf := Lib.hid (show Fr w6 (w7.setCell ⟨p, 0, none⟩ (.slice Av2 (x0.length + 1) cv2)) (fun k => Value.ownBlock (.slice Av x0.length cv) = some k ∨ k = p) from (HF7.out.mono (fun k _ h => Or.inl h)).trans (hst.mono (fun k _ h => Or.inr h)) (fun _ _ h => h))
  have HL8 := Lib.hid (HL6.out.fr HGf.out (fun k hk h => by
    rcases h with h | h
    · exact absurd (HLb.out k hk) (by have := HO6o.out k h; omega)
    · exact HLq.out k hk h))
  clear hst c f c6 f6 HL6 HGf
  generalize World.setCell w7 _ _ = w8 at HB8 HO8 HG8 HL8 ⊢
  have c8 : w8.cell? ⟨p, 0, none⟩ = some (.slice Av2 (x0.length + 1) cv2) := by rw [HB8.out.cell]; rfl
  have HSV8 := Lib.hid (show SL encP w8 (.slice Av2 (x0.length + 1) cv2) (x0 ++ [pq]) from SL.of_own (enc := encP) HO8.out (by simp))
  have HA8 := Lib.hid (HA2.out w8 _ (x0 ++ [pq]) HG8.out HSV8.out (fun u hu => by
    rcases List.mem_append.1 hu with h | h
    · exact Hwf0.out u h
    · simp at h; rw [h]; exact Hpw.out) (by have := H500.out; simp; omega))
  rw [HMF.out] at HA8
  simp only at HA8
  go_upto_region 14 with (go_at_call 15; refine HA8.out.mono ?_; rintro e w9 ⟨rm, rfl, ho, hg⟩; obtain ⟨Am, cm, rfl⟩ := own_formN ho.own; have HM9 := Lib.hid ho.sl; have HG9 := Lib.hid (HG8.out.trans hg (fun _ _ h => h)); have HL9 := Lib.hid (HL8.out.gr hg); clear ho hg)
  clear c8
  rcases HMx.out with h | h
  · injection h with h1 h2
    subst h1 h2
    go_wp2_with (go_at_call 14; refine (works_any _).mono ?_; rintro e wz ⟨rfl, hg⟩; have HGz := Lib.hid hg; clear hg)
    go_ret
    exact ⟨rfl, HG9.out.trans HGz.out (fun _ _ h => h)⟩
  injection h with h1 h2
  have HMe := Lib.hid h1
  subst h2
  clear h1
  have hL1 : (L.length : Int) ≤ 1048576 := by have := Hlen.out; omega
  have hM1 : (M.length : Int) ≤ 1048576 := by have := Hml.out; omega
  go_wp2_with fail
  go_loopg [8, 16] (L.length + 1) (fun m s8 s16 wr => ∃ k : Nat, s8 = .bool false ∧ s16 = .int .i64 k ∧ Hid (k ≤ L.length ∧ L.length - k < m ∧ ∀ j, j < k → j + 1 < L.length → ¬ (L.getD j 0 = a1 ∧ L.getD (j + 1) 0 = a2)) ∧ Hid (Gr w9 wr))
  case atStart => exact ⟨0, rfl, rfl, ⟨Nat.zero_le _, by omega, fun j hj => by omega⟩, Fr.refl _ _⟩
  case round =>
    obtain ⟨k, rfl, rfl, HK, HD⟩ := hrel
    by_cases hk : k + 1 < L.length
    · obtain ⟨ba, oa, rfl, hba, hcell⟩ := (HL9.out.gr HD.out).at_ (s := 1) (fun _ => rfl) rfl (show k < L.length by omega)
      have d0 := hcell 0 (by omega)
      obtain ⟨ba2, oa2, hA2, hba2, hcell2⟩ := (HL9.out.gr HD.out).at_ (s := 1) (fun _ => rfl) rfl hk
      injection hA2 with hA2
      injection hA2 with e1 e2
      subst e1 e2
      have d1 := hcell2 0 (by omega)
      simp [encI] at d0 d1
      have ex : L[k]'(by omega) = L.getD k 0 := by rw [List.getD_eq_getElem?_getD, List.getElem?_eq_getElem (show k < L.length by omega)]; rfl
      have ey : L[k + 1]'hk = L.getD (k + 1) 0 := by rw [List.getD_eq_getElem?_getD, List.getElem?_eq_getElem hk]; rfl
      rw [ex] at d0
      rw [ey] at d1
      have Hk := Lib.hid hk
      have Hfk := Lib.hid (Hfew.out k hk)
      rw [← HMe.out] at Hfk
      have Hnx := Lib.hid (show ¬ (L.getD k 0 = a1 ∧ L.getD (k + 1) 0 = a2) → ∀ j, j < k + 1 → j + 1 < L.length → ¬ (L.getD j 0 = a1 ∧ L.getD (j + 1) 0 = a2) from fun h j hj hj1 => by
        rcases Nat.lt_or_eq_of_le (Nat.le_of_lt_succ hj) with h' | h'
        · exact HK.out.2.2 j h' hj1
        · rw [h']; exact h)
      generalize L.getD k 0 = x at d0 Hfk Hnx
      generalize L.getD (k + 1) 0 = y at d1 Hfk Hnx
      have hki : (k : Int) + 1 < (L.length : Int) := by omega
      have hw1 : IntKind.i64.wrap ((k : Int) + 1) = (k : Int) + 1 := IntWalk.i64_in _ ⟨by omega, by omega⟩
      have hk1 : ((k : Int) + 1).toNat = k + 1 := by omega
      have hk2 : (k : Int) < (L.length : Int) := by omega
      have hk0 : (0 : Int) ≤ (k : Int) + 1 := by omega
      clear hcell hcell2 hba hba2 ex ey hk
      by_cases hxe : x = a1
      · have hx1 : (x == a1) = true := beq_iff_eq.2 hxe
        by_cases hye : y = a2
        · have hy1 : (y == a2) = true := beq_iff_eq.2 hye
          have Hlt := Lib.hid (Hfk.out hxe hye)
          have hfl : (M.length : Int) < (L.length : Int) := by have := Hlt.out; omega
          clear hxe hye
          go_wp2_with (go_at_call 14; refine (works_any _).mono ?_; rintro e wz ⟨rfl, hg⟩; have HGz := Lib.hid hg; clear hg)
          go_ret
          exact ⟨rfl, (HG9.out.trans HD.out (fun _ _ h => h)).trans HGz.out (fun _ _ h => h)⟩
        · have hy1 : (y == a2) = false := beq_eq_false_iff_ne.2 hye
          have Hn := Lib.hid (Hnx.out (fun h => hye h.2))
          clear hxe hye
          go_wp2_with fail
          go_roundg (gk - 1)
          case measure => have := HK.out; have := Hk.out; omega
          case rel => exact ⟨k + 1, rfl, by go_num, ⟨by have := Hk.out; omega, by have := HK.out; have := Hk.out; omega, Hn.out⟩, HD.out⟩
      · have hx1 : (x == a1) = false := beq_eq_false_iff_ne.2 hxe
        have Hn := Lib.hid (Hnx.out (fun h => hxe h.1))
        clear hxe
        go_wp2_with fail
        go_roundg (gk - 1)
        case measure => have := HK.out; have := Hk.out; omega
        case rel => exact ⟨k + 1, rfl, by go_num, ⟨by have := Hk.out; omega, by have := HK.out; have := Hk.out; omega, Hn.out⟩, HD.out⟩
    · have hk1 : decide ((k : Int) + 1 < (L.length : Int)) = false := decide_eq_false (by omega)
      have hk2 : (L.length : Int) ≤ (k : Int) + 1 := by omega
      have hkb : (k : Int) ≤ 1048576 := by have := HK.out; omega
      have HML := Lib.hid (show L = M from by
        rw [HMe.out]
        exact (Hsame.out (fun j hj => HK.out.2.2 j (by omega) hj)).symm)
      have HI := Lib.hid (Ints_any _ _ L M wr (HL9.out.gr HD.out) (HM9.out.gr HD.out) (by have := Hlen.out; omega))
      rw [show decide (L = M) = true from decide_eq_true HML.out] at HI
      go_wp2_with (first
        | (go_at_call 17; refine HI.out.mono ?_; rintro e w10 ⟨rfl, hd⟩; have HD10 := Lib.hid (HD.out.trans hd.gr (fun _ _ h => h)); clear hd)
        | (go_at_call 14; refine (works_any _).mono ?_; rintro e wz ⟨rfl, hg⟩; have HGz := Lib.hid hg; clear hg))
      go_ret
      exact ⟨rfl, (HG9.out.trans HD10.out (fun _ _ h => h)).trans HGz.out (fun _ _ h => h)⟩
end Go.Proofs.Ytildhlneldoffaa
