/- law 10: BpeSplits. -/
import Derived.Test.YtildhlneldoffaaEL1
set_option linter.unusedVariables false
set_option linter.unusedSimpArgs false
namespace Go.Proofs.Ytildhlneldoffaa
open Go.RowKit
open Voc Bpe
namespace Bpe
theorem enc_good {xs : List Pc} {bs : List Int} (hc : (checkE xs).1 = 0) (h4 : bs.length ≤ 4096) : encE xs bs = (encL xs (row0 xs bs), 0) := by
  unfold encE; rw [if_neg (by rw [hc]; decide), if_neg (by omega)]
theorem enc_no {xs : List Pc} {bs : List Int} (hc : (checkE xs).1 ≠ 0) : encE xs bs = ([], 11) := by
  unfold encE; rw [if_pos hc]
theorem begin_good {xs : List Pc} {bs : List Int} (hc : (checkE xs).1 = 0) (h4 : bs.length ≤ 4096) : beginE xs bs = (row0 xs bs, 0) := by
  unfold beginE; rw [if_neg (by rw [hc]; decide), if_neg (by omega)]
theorem begin_no {xs : List Pc} {bs : List Int} (hc : (checkE xs).1 ≠ 0) : beginE xs bs = ([], 11) := by
  unfold beginE; rw [if_pos hc]
theorem row0_split {xs : List Pc} (a b : List Int) (c : Int) : row0 xs (a ++ c :: b) = row0 xs a ++ (tokF c xs : Int) :: row0 xs b := by simp [row0]
theorem enc_split {xs : List Pc} (a b : List Int) (c : Int) (h : ∀ q ∈ xs, q.j = true → q.l ≠ (tokF c xs : Int) ∧ q.r ≠ (tokF c xs : Int)) : encL xs (row0 xs (a ++ c :: b)) = encL xs (row0 xs a) ++ (tokF c xs : Int) :: encL xs (row0 xs b) := by
  rw [row0_split, encL_split h _ _ _ (Nat.le_refl _)]
theorem encB_1 : ∀ x : Int, ∀ u ∈ encB x, u.oneCell' = true := by intro x u hu; simp [encB] at hu; subst hu; rfl
end Bpe
set_option maxRecDepth 20000 in
set_option maxHeartbeats 4000000 in
theorem BpeSplits_walk (w : World) (s0 : Value) (x0 : List Pc) (sl0 : SL encP w s0 x0) (wf0 : ∀ q ∈ x0, wfP q) (n0 : x0.length ≤ 1048576) (v1 : Value) (x1 : List Int) (sl1 : SL encB w v1 x1) (wf1 : ∀ x ∈ x1, (Lit.int .u8 x).wf = true) (n1 : x1.length ≤ 1048576) (v2 : Value) (x2 : List Int) (sl2 : SL encB w v2 x2) (wf2 : ∀ x ∈ x2, (Lit.int .u8 x).wf = true) (n2 : x2.length ≤ 1048576) (a3 : Int) (wa3 : (Lit.int .u8 a3).wf = true) :
    Calls Try.prog 9 #[.agg #[s0], v1, v2, .int .u8 a3] w fun e w' => e = .returned (.bool true) ∧ Gr w w' := by
  obtain ⟨i0, hi0, hz0, hz1, hz2⟩ := info_parts info_u8
  obtain ⟨j0, hj0, hy0, hy1, hy2⟩ := info_parts info_int
  obtain ⟨A, cap, rfl⟩ := SL.form sl0
  obtain ⟨A1, cap1, rfl⟩ := SL.form sl1
  obtain ⟨A2, cap2, rfl⟩ := SL.form sl2
  have HS0 := Lib.hid sl0
  have HS1 := Lib.hid sl1
  have HS2 := Lib.hid sl2
  have HG := Lib.hid ((Fr.refl w NoneS).alloc (.cells #[.slice A x0.length cap] 24))
  have HB := Lib.hid (Blk.new w 24 #[.slice A x0.length cap])
  obtain ⟨q, hq⟩ : ∃ q, w.heap.size = q := ⟨_, rfl⟩
  rw [hq] at HB
  have HL1 := Lib.hid (long_any (sl0.gr HG.out) n0 x1.length n1)
  have HL2 := Lib.hid (fun wx (hg : Gr w wx) => long_any (sl0.gr hg) n0 x2.length n2)
  have Hb1 := Lib.hid (bs_in wf1)
  have Hb2 := Lib.hid (bs_in wf2)
  have Hb3 := Lib.hid (u8_in wa3)
  have HA := Lib.hid (fun (wx : World) (sb : Value) (bs : List Int) (hg : Gr w wx) (hb : SL encB wx sb bs) (h : ∀ c ∈ bs, 0 ≤ c ∧ c < 256) => encode_any (sl0.gr hg) hb wf0 h n0)
  have HBg := Lib.hid (fun (wx : World) (sb : Value) (bs : List Int) (hg : Gr w wx) (hb : SL encB wx sb bs) (h : ∀ c ∈ bs, 0 ≤ c ∧ c < 256) (hn : bs.length ≤ 1048576) => Begin_any (sl0.gr hg) hb wf0 h n0 hn)
  clear sl0 sl1 sl2 wf0 wf1 wf2 wa3
  obtain ⟨b, hb⟩ : ∃ b, decide (500 < x0.length ∨ (300 < x1.length ∧ x1.length ≤ 4096)) = b := ⟨_, rfl⟩
  rw [hb] at HL1
  have Hx0 := Lib.hid (show b = false → x0.length ≤ 500 from fun h => by
    rw [h] at hb
    have := of_decide_eq_false hb
    omega)
  clear hb
  obtain ⟨b2, hb2⟩ : ∃ b, decide (500 < x0.length ∨ (300 < x2.length ∧ x2.length ≤ 4096)) = b := ⟨_, rfl⟩
  rw [hb2] at HL2
  clear hb2
  have hx1 : (x1.length : Int) ≤ 1048576 := by omega
  have hx2 : (x2.length : Int) ≤ 1048576 := by omega
  clear n1 n2
  go_enter Try.func9, Try.ntmps9
  go_upto_region 1 with (fail)
  clear hq
  generalize hx : World.alloc w _ = wa at HG HB HL1 ⊢
  clear hx
  have c0 : wa.cell? ⟨q, 0, none⟩ = some (.slice A x0.length cap) := by rw [HB.out.cell]; rfl
  cases b with
  | true =>
    go_wp2_with (first
      | (go_at_call 13; refine HL1.out.mono ?_; rintro e w2 ⟨rfl, hg⟩; have HG2 := Lib.hid (HG.out.trans hg (fun _ _ h => h)); clear hg)
      | (go_at_call 14; refine (works_any _).mono ?_; rintro e wz ⟨rfl, hg⟩; have HGz := Lib.hid hg; clear hg))
    go_ret
    exact ⟨rfl, HG2.out.trans HGz.out (fun _ _ h => h)⟩
  | false =>
  have H500 := Lib.hid (Hx0.out rfl)
  have hx5 : (x0.length : Int) ≤ 500 := by have := H500.out; omega
  clear Hx0
  cases b2 with
  | true =>
    go_wp2_with (first
      | (go_at_call 13; (with_reducible refine HL1.out.mono ?_); rintro e w2 ⟨rfl, hg⟩; have HG2 := Lib.hid (HG.out.trans hg (fun _ _ h => h)); have HB2 := Lib.hid (HB.out.fr hg (fun h => h)); have c2 : w2.cell? ⟨q, 0, none⟩ = some (.slice A x0.length cap) := (by rw [HB2.out.cell]; rfl); clear hg)
      | (go_at_call 13; (with_reducible refine (HL2.out _ HG2.out).mono ?_); rintro e w3 ⟨rfl, hg⟩; have HG3 := Lib.hid (HG2.out.trans hg (fun _ _ h => h)); clear hg)
      | (go_at_call 14; refine (works_any _).mono ?_; rintro e wz ⟨rfl, hg⟩; have HGz := Lib.hid hg; clear hg))
    go_ret
    exact ⟨rfl, HG3.out.trans HGz.out (fun _ _ h => h)⟩
  | false =>
  have hws : IntKind.i64.wrap ((x1.length : Int) + (x2.length : Int)) = (x1.length : Int) + (x2.length : Int) := IntWalk.i64_in _ ⟨by omega, by omega⟩
  by_cases h300 : (300 : Int) < (x1.length : Int) + (x2.length : Int)
  · go_wp2_with (first
      | (go_at_call 13; (with_reducible refine HL1.out.mono ?_); rintro e w2 ⟨rfl, hg⟩; have HG2 := Lib.hid (HG.out.trans hg (fun _ _ h => h)); have HB2 := Lib.hid (HB.out.fr hg (fun h => h)); have c2 : w2.cell? ⟨q, 0, none⟩ = some (.slice A x0.length cap) := (by rw [HB2.out.cell]; rfl); clear hg)
      | (go_at_call 13; (with_reducible refine (HL2.out _ HG2.out).mono ?_); rintro e w3 ⟨rfl, hg⟩; have HG3 := Lib.hid (HG2.out.trans hg (fun _ _ h => h)); clear hg)
      | (go_at_call 14; refine (works_any _).mono ?_; rintro e wz ⟨rfl, hg⟩; have HGz := Lib.hid hg; clear hg))
    go_ret
    exact ⟨rfl, HG3.out.trans HGz.out (fun _ _ h => h)⟩
  have H3 := Lib.hid (show x1.length + x2.length ≤ 300 by omega)
  go_upto_region 3 with (first
    | (go_at_call 13; (with_reducible refine HL1.out.mono ?_); rintro e w2 ⟨rfl, hg⟩; have HG2 := Lib.hid (HG.out.trans hg (fun _ _ h => h)); have HB2 := Lib.hid (HB.out.fr hg (fun h => h)); have c2 : w2.cell? ⟨q, 0, none⟩ = some (.slice A x0.length cap) := (by rw [HB2.out.cell]; rfl); clear hg)
    | (go_at_call 13; (with_reducible refine (HL2.out _ HG2.out).mono ?_); rintro e w3 ⟨rfl, hg⟩; have HG3 := Lib.hid (HG2.out.trans hg (fun _ _ h => h)); have HB3 := Lib.hid (HB2.out.fr hg (fun h => h)); clear hg))
  clear hws h300 c0 c2 HB HL1 HL2 HG HG2 HB2
  have Hi := Lib.hid (And.intro hi0 (And.intro hz0 (And.intro hz1 hz2)))
  have Hj := Lib.hid (And.intro hj0 (And.intro hy0 (And.intro hy1 hy2)))
  clear hi0 hz0 hz1 hz2 hj0 hy0 hy1 hy2
  go_upto_region 5 with (
    at_builtin
    refine wpList_append_sl _ encB rfl _ _ 25 rfl w.heap.size 5 i0 (.int .u8 0) 1 1 Try.underlying25 Hi.out.1 Hi.out.2.1 Hi.out.2.2.1 Hi.out.2.2.2 rfl (by decide) (.slice none 0 0) 0 [] rfl (World.ownsRow_nil _ _ _ _) (.slice A1 x1.length cap1) x1 rfl (HS1.out.gr HG3.out) (fun _ => rfl) Bpe.encB_1 (by have := H3.out; unfold maxLen; omega) (by have := H3.out; omega) HG3.out.size ?_
    intro v4 w4 ho hf hat
    rw [Nat.zero_add, List.nil_append] at ho
    obtain ⟨A4, c4, rfl⟩ := own_formN ho
    have HO4 := Lib.hid ho
    have HF34 := Lib.hid (show Gr w3 w4 from hf.mono (fun _ _ h => by simp [Value.ownBlock] at h))
    have HG4 := Lib.hid (HG3.out.trans HF34.out (fun _ _ h => h))
    have HB4 := Lib.hid (HB3.out.fr HF34.out (fun h => h))
    clear ho hf hat)
  go_upto_region 6 with (
    at_builtin
    refine wpList_append_sl _ encB rfl _ _ 25 rfl w.heap.size 5 i0 (.int .u8 0) 1 1 Try.underlying25 Hi.out.1 Hi.out.2.1 Hi.out.2.2.1 Hi.out.2.2.2 rfl (by decide) (.slice A4 x1.length c4) x1.length _ rfl (HO4.out.alloc _) (.slice (some ⟨w4.heap.size, 0, none⟩) 1 1) [a3] rfl (sl_one (enc := encB) w4 a3 #[.int .u8 a3] rfl 5) (fun _ => rfl) Bpe.encB_1 (by have := H3.out; simp only [maxLen, List.length_singleton]; omega) (by have := H3.out; simp only [List.length_singleton]; omega) (Nat.le_trans HG4.out.size (by simp)) ?_
    intro v5 w5 ho hf hat
    rw [← List.flatMap_append] at ho
    simp only [List.length_singleton] at ho
    obtain ⟨A5, c5, rfl⟩ := own_formN ho
    have HO5 := Lib.hid ho
    have HF5 := Lib.hid (((Fr.refl w4 _).alloc _).trans hf (fun _ _ h => h))
    have HG5 := Lib.hid (show Gr w w5 from HG4.out.trans HF5.out (fun i hi h => by have := (HO4.out.lt i h).1; omega))
    have HB5 := Lib.hid (HB4.out.fr HF5.out (own_blk_ne HO4.out HB4.out (by decide)))
    clear ho hf hat)
  go_upto_region 7 with (
    at_builtin
    refine wpList_append_sl _ encB rfl _ _ 25 rfl w.heap.size 5 i0 (.int .u8 0) 1 1 Try.underlying25 Hi.out.1 Hi.out.2.1 Hi.out.2.2.1 Hi.out.2.2.2 rfl (by decide) (.slice A5 (x1.length + 1) c5) (x1.length + 1) _ rfl HO5.out (.slice A2 x2.length cap2) x2 rfl (HS2.out.gr HG5.out) (fun _ => rfl) Bpe.encB_1 (by have := H3.out; simp only [maxLen]; omega) (by have := H3.out; omega) HG5.out.size ?_
    intro v6 w6 ho hf hat
    rw [← List.flatMap_append, List.append_assoc] at ho
    obtain ⟨A6, c6, rfl⟩ := own_formN ho
    have HO6 := Lib.hid (show SL encB w6 (.slice A6 (x1.length + 1 + x2.length) c6) (x1 ++ a3 :: x2) from SL.of_own (enc := encB) ho (by simp; omega))
    have HG6 := Lib.hid (show Gr w w6 from HG5.out.trans hf (fun i hi h => by have := (HO5.out.lt i h).1; omega))
    have HB6 := Lib.hid (HB5.out.fr hf (own_blk_ne HO5.out HB5.out (by decide)))
    clear ho hf hat)
  have c6' : w6.cell? ⟨q, 0, none⟩ = some (.slice A x0.length cap) := by rw [HB6.out.cell]; rfl
  have Hball := Lib.hid (show ∀ c ∈ x1 ++ a3 :: x2, 0 ≤ c ∧ c < 256 from fun c hc => by
    rcases List.mem_append.1 hc with h | h
    · exact Hb1.out c h
    · rcases List.mem_cons.1 h with h | h
      · rw [h]; exact Hb3.out
      · exact Hb2.out c h)
  have Hb3l := Lib.hid (show ∀ c ∈ [a3], 0 ≤ c ∧ c < 256 from fun c hc => by simp at hc; rw [hc]; exact Hb3.out)
  have Hall := Lib.hid (show (x1 ++ a3 :: x2).length ≤ 301 by have := H3.out; simp; omega)
  have Hone := Lib.hid (fun (wx : World) => sl_one (enc := encB) wx a3 #[.int .u8 a3] rfl 5)
  by_cases hc : (checkE x0).1 = 0
  case neg =>
    simp only [Bpe.enc_no hc] at HA
    simp only [Bpe.begin_no hc] at HBg
    clear hc
    go_upto_region 8 with (go_at_call 15; refine (HA.out w6 _ _ HG6.out HO6.out Hball.out).mono ?_; rintro e w7 ⟨ra, rfl, ho, hg⟩; have HG7 := Lib.hid (HG6.out.trans hg (fun _ _ h => h)); have HB7 := Lib.hid (HB6.out.fr hg (fun h => h)); clear ho hg)
    have c7 : w7.cell? ⟨q, 0, none⟩ = some (.slice A x0.length cap) := by rw [HB7.out.cell]; rfl
    go_upto_region 9 with (go_at_call 15; refine (HA.out w7 _ _ HG7.out (HS1.out.gr HG7.out) Hb1.out).mono ?_; rintro e w8 ⟨rb, rfl, ho, hg⟩; have HG8 := Lib.hid (HG7.out.trans hg (fun _ _ h => h)); have HB8 := Lib.hid (HB7.out.fr hg (fun h => h)); clear ho hg)
    have c8 : w8.cell? ⟨q, 0, none⟩ = some (.slice A x0.length cap) := by rw [HB8.out.cell]; rfl
    go_upto_region 10 with (go_at_call 15; refine (HA.out w8 _ _ HG8.out (HS2.out.gr HG8.out) Hb2.out).mono ?_; rintro e w9 ⟨rc, rfl, ho, hg⟩; have HG9 := Lib.hid (HG8.out.trans hg (fun _ _ h => h)); have HB9 := Lib.hid (HB8.out.fr hg (fun h => h)); clear ho hg)
    have c9 : w9.cell? ⟨q, 0, none⟩ = some (.slice A x0.length cap) := by rw [HB9.out.cell]; rfl
    go_upto_region 11 with (go_at_call 23; refine (HBg.out _ _ [a3] (HG9.out.alloc (.cells #[.int .u8 a3] 5)) (Hone.out w9) Hb3l.out (by simp)).mono ?_; rintro e w10 ⟨rd, rfl, ho, hg⟩; have HG10 := Lib.hid ((HG9.out.alloc (.cells #[.int .u8 a3] 5)).trans hg (fun _ _ h => h)); clear ho hg)
    clear c6' c7 c8 c9
    go_wp2_with (go_at_call 14; refine (works_any _).mono ?_; rintro e wz ⟨rfl, hg⟩; have HGz := Lib.hid hg; clear hg)
    go_ret
    exact ⟨rfl, HG10.out.trans HGz.out (fun _ _ h => h)⟩
  have HAa := Lib.hid (fun (wx : World) (sb : Value) (hg : Gr w wx) (hb : SL encB wx sb (x1 ++ a3 :: x2)) => HA.out wx sb _ hg hb Hball.out)
  have HAx := Lib.hid (fun (wx : World) (sb : Value) (hg : Gr w wx) (hb : SL encB wx sb x1) => HA.out wx sb _ hg hb Hb1.out)
  have HAy := Lib.hid (fun (wx : World) (sb : Value) (hg : Gr w wx) (hb : SL encB wx sb x2) => HA.out wx sb _ hg hb Hb2.out)
  have HAo := Lib.hid (fun (wx : World) (sb : Value) (hg : Gr w wx) (hb : SL encB wx sb [a3]) => HBg.out wx sb [a3] hg hb Hb3l.out (by simp))
  rw [Bpe.enc_good hc (by have := Hall.out; omega)] at HAa
  rw [Bpe.enc_good hc (by have := H3.out; omega)] at HAx
  rw [Bpe.enc_good hc (by have := H3.out; omega)] at HAy
  rw [Bpe.begin_good hc (by simp), show row0 x0 [a3] = [(tokF a3 x0 : Int)] from rfl] at HAo
  simp only at HAa HAx HAy HAo
  have HSpl := Lib.hid (fun h => Bpe.enc_split (xs := x0) x1 x2 a3 h)
  have HlX := Lib.hid (show (encL x0 (row0 x0 x1)).length ≤ x1.length by have := encL_le (xs := x0) (row0 x0 x1); rw [row0_len] at this; exact this)
  have HlY := Lib.hid (show (encL x0 (row0 x0 x2)).length ≤ x2.length by have := encL_le (xs := x0) (row0 x0 x2); rw [row0_len] at this; exact this)
  have HlA := Lib.hid (show (encL x0 (row0 x0 (x1 ++ a3 :: x2))).length ≤ 301 by have := encL_le (xs := x0) (row0 x0 (x1 ++ a3 :: x2)); rw [row0_len] at this; have := Hall.out; omega)
  generalize encL x0 (row0 x0 (x1 ++ a3 :: x2)) = LA at HAa HSpl HlA
  generalize encL x0 (row0 x0 x1) = LX at HAx HSpl HlX
  generalize encL x0 (row0 x0 x2) = LY at HAy HSpl HlY
  generalize (tokF a3 x0 : Int) = T at HAo HSpl
  clear hc HA HBg
  go_upto_region 8 with (go_at_call 15; refine (HAa.out w6 _ HG6.out HO6.out).mono ?_; rintro e w7 ⟨ra, rfl, ho, hg⟩; obtain ⟨Aa, ca, rfl⟩ := own_formN ho.own; have HLA7 := Lib.hid ho.sl; have HG7 := Lib.hid (HG6.out.trans hg (fun _ _ h => h)); have HB7 := Lib.hid (HB6.out.fr hg (fun h => h)); clear ho hg)
  have c7 : w7.cell? ⟨q, 0, none⟩ = some (.slice A x0.length cap) := by rw [HB7.out.cell]; rfl
  go_upto_region 9 with (go_at_call 15; refine (HAx.out w7 _ HG7.out (HS1.out.gr HG7.out)).mono ?_; rintro e w8 ⟨rb, rfl, ho, hg⟩; obtain ⟨Ab, cb, rfl⟩ := own_formN ho.own; have HLX8 := Lib.hid ho.sl; have HLA8 := Lib.hid (HLA7.out.gr hg); have HG8 := Lib.hid (HG7.out.trans hg (fun _ _ h => h)); have HB8 := Lib.hid (HB7.out.fr hg (fun h => h)); clear ho hg)
  have c8 : w8.cell? ⟨q, 0, none⟩ = some (.slice A x0.length cap) := by rw [HB8.out.cell]; rfl
  go_upto_region 10 with (go_at_call 15; refine (HAy.out w8 _ HG8.out (HS2.out.gr HG8.out)).mono ?_; rintro e w9 ⟨rc, rfl, ho, hg⟩; obtain ⟨Ac, cc, rfl⟩ := own_formN ho.own; have HLY9 := Lib.hid ho.sl; have HLX9 := Lib.hid (HLX8.out.gr hg); have HLA9 := Lib.hid (HLA8.out.gr hg); have HG9 := Lib.hid (HG8.out.trans hg (fun _ _ h => h)); have HB9 := Lib.hid (HB8.out.fr hg (fun h => h)); clear ho hg)
  have c9 : w9.cell? ⟨q, 0, none⟩ = some (.slice A x0.length cap) := by rw [HB9.out.cell]; rfl
  have HGa := Lib.hid ((Fr.refl w9 NoneS).alloc (.cells #[.int .u8 a3] 5))
  go_upto_region 11 with (go_at_call 23; refine (HAo.out _ _ (HG9.out.trans HGa.out (fun _ _ h => h)) (Hone.out w9)).mono ?_; rintro e w10 ⟨rd, rfl, ho, hg⟩; have HG9x := Lib.hid (HGa.out.trans hg (fun _ _ h => h)); have HOw := Lib.hid ho; clear hg ho)
  obtain ⟨gd, cd, rfl⟩ : ∃ gd cd, rd = .slice (some ⟨gd, 0, none⟩) 1 cd := by
    rcases HOw.out.own.2 with ⟨_, h⟩ | ⟨b, c, _, h, _⟩
    · exact absurd h (by simp)
    · exact ⟨b, c, h⟩
  have HTs := Lib.hid HOw.out.sl
  have HG10 := Lib.hid (HG9.out.trans HG9x.out (fun _ _ h => h))
  have HB10 := Lib.hid (HB9.out.fr HG9x.out (fun h => h))
  have HLA10 := Lib.hid (HLA9.out.gr HG9x.out)
  have HLX10 := Lib.hid (HLX9.out.gr HG9x.out)
  have HLY10 := Lib.hid (HLY9.out.gr HG9x.out)
  clear c6' c7 c8 c9 HG9x HGa HLA7 HLA8 HLA9 HLX8 HLX9 HLY9 HB3 HB4 HB5 HB6 HB7 HB8 HB9 HO4 HO5 HO6 HF34 HF5
  go_upto_block 0 with (fail)
  go_cut [8] (fun s8 wx => s8 = .bool false ∧ Hid (Gr w10 wx) ∧ Hid (LA = LX ++ T :: LY))
  case first =>
    go_wp2_with fail
    go_loopg [8, 18] (x0.length + 1) (fun m s8 s18 wr => ∃ k : Nat, s8 = .bool false ∧ s18 = .int .i64 k ∧ Hid (k ≤ x0.length ∧ x0.length - k < m ∧ ∀ p ∈ x0.take k, p.j = true → p.l ≠ T ∧ p.r ≠ T) ∧ Hid (Gr w10 wr))
    case atStart => exact ⟨0, rfl, rfl, ⟨Nat.zero_le _, by omega, fun p hp => by simp at hp⟩, Fr.refl _ _⟩
    case round =>
      obtain ⟨k, rfl, rfl, HK, HD⟩ := hrel
      have f0 : wr.cell? ⟨q, 0, none⟩ = some (.slice A x0.length cap) := by rw [(HB10.out.fr HD.out (fun h => h)).cell]; rfl
      by_cases hk : k < x0.length
      · have hki : (k : Int) < (x0.length : Int) := by omega
        obtain ⟨bv, ov, rfl, hbv, hcv⟩ := (HS0.out.gr (HG10.out.trans HD.out (fun _ _ h => h))).at_ (s := 5) (fun _ => rfl) rfl hk
        have d0 := hcv 0 (by omega)
        have d1 := hcv 1 (by omega)
        have d2 := hcv 2 (by omega)
        have d3 := hcv 3 (by omega)
        have d4 := hcv 4 (by omega)
        have Htk := Lib.hid (show ((x0[k]'hk).j = true → (x0[k]'hk).l ≠ T ∧ (x0[k]'hk).r ≠ T) → ∀ u ∈ x0.take (k + 1), u.j = true → u.l ≠ T ∧ u.r ≠ T from fun h u hu => by
          rw [List.take_succ_eq_append_getElem hk] at hu
          rcases List.mem_append.1 hu with h' | h'
          · exact HK.out.2.2 u h'
          · simp at h'; rw [h']; exact h)
        simp [encP] at d0 d1 d2 d3 d4
        rw [← Nat.add_assoc] at d1 d2 d3 d4
        generalize x0[k]'hk = pc at d0 d1 d2 d3 d4 Htk
        obtain ⟨jj, bb, l, r, kk⟩ := pc
        simp only at d0 d1 d2 d3 d4 Htk
        have Hk := Lib.hid hk
        clear hcv hbv hk
        go_upto_region 19 with (fail)
        have HPc := Lib.hid (Blk.new wr TPc #[.bool jj, .int .u8 bb, .int .i64 l, .int .i64 r, .int .u32 kk])
        have HGx := Lib.hid (HD.out.alloc (.cells #[.bool jj, .int .u8 bb, .int .i64 l, .int .i64 r, .int .u32 kk] TPc))
        obtain ⟨p7, hp7⟩ : ∃ p, wr.heap.size = p := ⟨_, rfl⟩
        rw [hp7] at HPc ⊢
        clear hp7 d0 d1 d2 d3 d4 f0
        generalize World.alloc wr _ = w7 at HPc HGx ⊢
        have f0 : w7.cell? ⟨p7, 0, none⟩ = some (.bool jj) := by rw [HPc.out.cell]; rfl
        have f2 : w7.cell? ⟨p7, 2, none⟩ = some (.int .i64 l) := by rw [HPc.out.cell]; rfl
        have f3 : w7.cell? ⟨p7, 3, none⟩ = some (.int .i64 r) := by rw [HPc.out.cell]; rfl
        obtain ⟨bt, ot, hbt, hbl, hct⟩ := (HTs.out.gr HGx.out).at_ (s := 1) (k := 0) (fun _ => rfl) rfl (by simp)
        injection hbt with hbt
        injection hbt with e1 e2
        subst e1 e2
        have t0 := hct 0 (by omega)
        simp [encI] at t0
        clear hct hbl
        cases jj with
        | false =>
          have Hn := Lib.hid (Htk.out (fun h => by cases h))
          go_quiet (fail)
          go_wp2_with fail
          go_roundg (gk - 1)
          case measure => have := HK.out; have := Hk.out; omega
          case rel => exact ⟨k + 1, rfl, by go_num, ⟨by have := Hk.out; omega, by have := HK.out; have := Hk.out; omega, Hn.out⟩, HGx.out.drewN _⟩
        | true =>
          by_cases hle : l = T
          · have hl1 : (l == T) = true := beq_iff_eq.2 hle
            clear hle
            go_quiet (fail)
            go_wp2_with (go_at_call 14; refine (works_any _).mono ?_; rintro e wz ⟨rfl, hg⟩; have HGz := Lib.hid hg; clear hg)
            go_ret
            exact ⟨rfl, (HG10.out.trans (HGx.out.drewN _) (fun _ _ h => h)).trans HGz.out (fun _ _ h => h)⟩
          · have hl1 : (l == T) = false := beq_eq_false_iff_ne.2 hle
            by_cases hre : r = T
            · have hr1 : (r == T) = true := beq_iff_eq.2 hre
              clear hle hre
              go_quiet (fail)
              go_wp2_with (go_at_call 14; refine (works_any _).mono ?_; rintro e wz ⟨rfl, hg⟩; have HGz := Lib.hid hg; clear hg)
              go_ret
              exact ⟨rfl, (HG10.out.trans (HGx.out.drewN _) (fun _ _ h => h)).trans HGz.out (fun _ _ h => h)⟩
            · have hr1 : (r == T) = false := beq_eq_false_iff_ne.2 hre
              have Hn := Lib.hid (Htk.out (fun _ => ⟨hle, hre⟩))
              clear hle hre
              go_quiet (fail)
              go_wp2_with fail
              go_roundg (gk - 1)
              case measure => have := HK.out; have := Hk.out; omega
              case rel => exact ⟨k + 1, rfl, by go_num, ⟨by have := Hk.out; omega, by have := HK.out; have := Hk.out; omega, Hn.out⟩, HGx.out.drewN _⟩
      · have Hk := Lib.hid (show k = x0.length by have := HK.out; omega)
        have hki : decide ((k : Int) < (x0.length : Int)) = false := decide_eq_false (by omega)
        go_wp2_with fail
        go_meet
        refine ⟨rfl, HD, Lib.hid (HSpl.out (fun p hp => HK.out.2.2 p ?_))⟩
        rw [Hk.out, List.take_of_length_le (Nat.le_refl _)]; exact hp
  case rest =>
  obtain ⟨rfl, HD, HLe⟩ := hcut
  have HG11 := Lib.hid (HG10.out.trans HD.out (fun _ _ h => h))
  have HLA11 := Lib.hid (HLA10.out.gr HD.out)
  have HLX11 := Lib.hid (HLX10.out.gr HD.out)
  have HLY11 := Lib.hid (HLY10.out.gr HD.out)
  have HT11 := Lib.hid (HTs.out.gr HD.out)
  go_upto_region 23 with (
    at_builtin
    refine wpList_append_sl _ encI rfl _ _ 28 rfl wc.heap.size 3 j0 (.int .i64 0) 1 8 Try.underlying28 Hj.out.1 Hj.out.2.1 Hj.out.2.2.1 Hj.out.2.2.2 rfl (by decide) (.slice none 0 0) 0 [] rfl (World.ownsRow_nil _ _ _ _) (.slice Ab LX.length cb) LX rfl (HLX11.out) (fun _ => rfl) encI_1 (by have := H3.out; have := HlX.out; unfold maxLen; omega) (by have := H3.out; have := HlX.out; omega) (Nat.le_refl _) ?_
    intro v4 w4 ho hf hat
    rw [Nat.zero_add, List.nil_append] at ho
    obtain ⟨A4, c4, rfl⟩ := own_formN ho
    have HO4 := Lib.hid ho
    have HF4 := Lib.hid (show Gr wc w4 from hf.mono (fun _ _ h => by simp [Value.ownBlock] at h))
    clear ho hf hat)
  go_upto_region 24 with (
    at_builtin
    refine wpList_append_sl _ encI rfl _ _ 28 rfl wc.heap.size 3 j0 (.int .i64 0) 1 8 Try.underlying28 Hj.out.1 Hj.out.2.1 Hj.out.2.2.1 Hj.out.2.2.2 rfl (by decide) (.slice A4 LX.length c4) LX.length _ rfl HO4.out (.slice (some ⟨gd, 0, none⟩) 1 cd) [T] rfl (HT11.out.gr HF4.out) (fun _ => rfl) encI_1 (by have := H3.out; have := HlX.out; simp only [maxLen, List.length_singleton]; omega) (by have := H3.out; have := HlX.out; simp only [List.length_singleton]; omega) HF4.out.size ?_
    intro v5 w5 ho hf hat
    rw [← List.flatMap_append] at ho
    simp only [List.length_singleton] at ho
    obtain ⟨A5, c5, rfl⟩ := own_formN ho
    have HO5 := Lib.hid ho
    have HF5 := Lib.hid (show Gr wc w5 from HF4.out.trans hf (fun i hi h => by have := (HO4.out.lt i h).1; omega))
    clear ho hf hat)
  go_upto_region 25 with (
    at_builtin
    refine wpList_append_sl _ encI rfl _ _ 28 rfl wc.heap.size 3 j0 (.int .i64 0) 1 8 Try.underlying28 Hj.out.1 Hj.out.2.1 Hj.out.2.2.1 Hj.out.2.2.2 rfl (by decide) (.slice A5 (LX.length + 1) c5) (LX.length + 1) _ rfl HO5.out (.slice Ac LY.length cc) LY rfl (HLY11.out.gr HF5.out) (fun _ => rfl) encI_1 (by have := H3.out; have := HlX.out; have := HlY.out; simp only [maxLen]; omega) (by have := H3.out; have := HlX.out; have := HlY.out; omega) HF5.out.size ?_
    intro v6 w6 ho hf hat
    rw [← List.flatMap_append, List.append_assoc] at ho
    have HO6 := Lib.hid (show SL encI w6 v6 (LX ++ T :: LY) from SL.of_own (enc := encI) ho (by simp; omega))
    have HF6 := Lib.hid (show Gr wc w6 from HF5.out.trans hf (fun i hi h => by have := (HO5.out.lt i h).1; omega))
    clear ho hf hat)
  have HI := Lib.hid (Ints_any _ _ LA (LX ++ T :: LY) w6 (HLA11.out.gr HF6.out) HO6.out (by have := HlA.out; omega))
  rw [show decide (LA = LX ++ T :: LY) = true from decide_eq_true HLe.out] at HI
  have HG16 := Lib.hid (HG11.out.trans HF6.out (fun _ _ h => h))
  go_wp2_with (first
    | (go_at_call 17; refine HI.out.mono ?_; rintro e w7 ⟨rfl, hd⟩; have HD7 := Lib.hid (HG16.out.trans hd.gr (fun _ _ h => h)); clear hd)
    | (go_at_call 14; refine (works_any _).mono ?_; rintro e wz ⟨rfl, hg⟩; have HGz := Lib.hid hg; clear hg))
  go_ret
  exact ⟨rfl, HD7.out.trans HGz.out (fun _ _ h => h)⟩
end Go.Proofs.Ytildhlneldoffaa
