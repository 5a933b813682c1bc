/- record: the reference's Put. -/
import Derived.Test.YtobedpohoellkaaRWc
import Derived.Test.YtobedpohoellkaaRRa
set_option linter.unusedVariables false
set_option linter.unusedSimpArgs false
namespace Go.Proofs.Ytobedpohoellkaa
open Go.RowKit
open Voc Leb Bpe
namespace Rec
set_option maxRecDepth 20000 in
set_option maxHeartbeats 4000000 in
theorem rrecPut_any {w : World} {tv : Value} {r : Rc} (hd : r.d.length = 32) (hv : 0 ≤ r.v ∧ r.v < 18446744073709551616) (hs : SL encI w tv r.t) (hl : r.t.length ≤ 1048576) :
    Calls Try.prog 12 #[.agg (rcA r tv)] w fun e w' => ∃ bv, e = .returned (.tuple #[bv, .int .i64 (putR r).2]) ∧ OB w' w.heap.size bv (putR r).1 ∧ Gr w w' := by
  obtain ⟨A, cap, rfl⟩ := SL.form hs
  have HG := Lib.hid ((Fr.refl w NoneS).alloc (.cells (rcA r (.slice A r.t.length cap)) TRc))
  have HB := Lib.hid (Blk.new w TRc (rcA r (.slice A r.t.length cap)))
  have HS := Lib.hid (hs.gr HG.out)
  have Hd := Lib.hid hd
  have Hv := Lib.hid hv
  have Hl := Lib.hid hl
  obtain ⟨PR, hPR⟩ : ∃ P, putR r = P := ⟨_, rfl⟩
  rw [hPR]
  have HPR := Lib.hid hPR
  clear hs hd hv hl hPR
  obtain ⟨p, hp⟩ : ∃ p, w.heap.size = p := ⟨_, rfl⟩
  have Hp := Lib.hid hp
  go_enter Try.func12, Try.ntmps12
  go_upto_region 1 with (fail)
  clear hp
  generalize hx : World.alloc w _ = wa at HG HB HS ⊢
  clear hx
  rw [Hp.out] at HB
  have Hbs := Lib.hid (show w.heap.size ≤ p by have := Hp.out; omega)
  have f33 : wa.cell? ⟨p, 33, none⟩ = some (.int .i64 r.n) := by rw [HB.out.cell]; exact rcA_n _ Hd.out
  by_cases hn : r.n < 0 ∨ 4096 < r.n
  case pos =>
    have Hq := Lib.hid (show PR = ([], 2) by rw [← HPR.out]; unfold putR; rw [if_pos hn])
    by_cases h1 : r.n < 0
    · have h1' : decide (r.n < 0) = true := decide_eq_true h1
      clear hn h1
      go_wp2_with fail
      go_ret2
      rw [Hq.out]
      exact ⟨_, rfl, OB.nil _ _, HG.out⟩
    · have h1' : decide (r.n < 0) = false := decide_eq_false h1
      have h2' : decide (4096 < r.n) = true := decide_eq_true (hn.resolve_left h1)
      clear hn h1
      go_wp2_with fail
      go_ret2
      rw [Hq.out]
      exact ⟨_, rfl, OB.nil _ _, HG.out⟩
  have h1' : decide (r.n < 0) = false := decide_eq_false (by omega)
  have h2' : decide (4096 < r.n) = false := decide_eq_false (by omega)
  have HnN := Lib.hid (show 0 ≤ r.n ∧ r.n ≤ 4096 by omega)
  have f34 : wa.cell? ⟨p, 34, none⟩ = some (.slice A r.t.length cap) := by rw [HB.out.cell]; exact rcA_t _ Hd.out
  have HPk := Lib.hid (rpackPut_any HS.out Hl.out)
  obtain ⟨⟨P1, P2⟩, hP⟩ : ∃ y, packE r.t = y := ⟨_, rfl⟩
  rw [hP] at HPk
  simp only at HPk
  have Hq := Lib.hid (show PR = if P2 ≠ 0 then ([], P2) else (r.d ++ (le8 r.v ++ (putL r.n.toNat ++ P1)), 0) by rw [← HPR.out]; unfold putR; rw [if_neg hn, hP])
  have HPok := Lib.hid (show P2 = 0 → P1.length ≤ 700000 from fun h => by
    rw [h] at hP
    obtain ⟨h1, _, h2⟩ := packE_ok hP
    rw [h2, List.length_append]
    have := putL_len r.t.length
    have := deltas_len r.t 0
    omega)
  clear hn hP HPR
  go_upto_region 4 with (go_at_call 33; refine HPk.out.mono ?_; rintro e w2 ⟨pv, rfl, hs2, hk2, hg2⟩; have HT2 := Lib.hid hs2; have HF2 := Lib.hid hg2; have HG2 := Lib.hid (HG.out.trans hg2 (fun _ _ h => h)); have HB2 := Lib.hid (HB.out.fr hg2 (fun h => h)); clear hs2 hk2 hg2)
  by_cases hP2 : P2 = 0
  case neg =>
    have hE1 : (P2 != 0) = true := bne_iff_ne.2 hP2
    rw [if_pos hP2] at Hq
    clear hP2 f33 f34
    go_wp2_with fail
    go_ret2
    rw [Hq.out]
    exact ⟨_, rfl, OB.nil _ _, HG2.out⟩
  subst hP2
  rw [if_neg (by decide)] at Hq
  have HPl := Lib.hid (HPok.out rfl)
  have HSd := Lib.hid (rcA_sl HB2.out Hd.out)
  clear f33 f34 HPok
  go_upto_region 8 with (
    at_builtin
    refine wpList_ob rfl _ _ 28 Try.underlying28 rfl (wB := w2) (.slice none 0 0) (.slice (some ⟨p, 0, none⟩) 32 32) [] r.d rfl (OB.nil _ _) (Fr.refl w2 NoneS) rfl HSd.out (by rw [Hd.out]; decide) ?_
    intro rv w3 hg3 ho3 hf3
    have HO3 := Lib.hid (show OB w3 w2.heap.size rv r.d from ho3)
    have HK3 := Lib.hid hg3
    clear hg3 ho3 hf3)
  go_wp2_with fail
  go_loopg [6, 7] 9 (fun m s6 s7 wr => ∃ (k : Nat) (va : Value), va = s6 ∧ s7 = .int .i64 k ∧ Hid (k ≤ 8 ∧ 8 - k < m) ∧ Hid (OB wr w2.heap.size va (r.d ++ (le8 r.v).take k)) ∧ Hid (Gr w2 wr))
  case atStart => exact ⟨0, rv, rfl, rfl, ⟨by omega, by omega⟩, Lib.hid (by simpa using HO3.out), HK3.out⟩
  case round =>
    obtain ⟨k, va, rfl, rfl, HK, HO, HD⟩ := hrel
    by_cases hk : k < 8
    · have hki : (k : Int) < 8 := by omega
      have hk0 : (0 : Int) ≤ (k : Int) := by omega
      have f32 : wr.cell? ⟨p, 32, none⟩ = some (.int .u64 r.v) := by rw [(HB2.out.fr HD.out (fun h => h)).cell]; exact rcA_v _ Hd.out
      have Hk := Lib.hid hk
      clear hk
      have Hnx := Lib.hid (le8_next r.v Hk.out)
      have Hln := Lib.hid (show (r.d ++ (le8 r.v).take k).length ≤ 40 by rw [List.length_append, Hd.out, List.length_take, le8_len]; omega)
      go_wp2_with (
        at_builtin
        refine wpList_ob rfl _ _ 28 Try.underlying28 rfl (wB := w2) va (.slice (some ⟨wr.heap.size, 0, none⟩) 1 1) (r.d ++ (le8 r.v).take k) [r.v / 2 ^ (8 * k) % 256] rfl (HO.out.gr ((Fr.refl wr NoneS).alloc _)) (HD.out.alloc _) rfl (sl_one (enc := encB) wr (r.v / 2 ^ (8 * k) % 256) #[.int .u8 (r.v / 2 ^ (8 * k) % 256)] rfl 5) (by have := Hln.out; simp only [List.length_singleton]; omega) ?_
        intro v5 w5 hg5 ho5 hf5
        have HD5 := Lib.hid hg5
        have HO5 := Lib.hid ho5
        clear hg5 ho5 hf5)
      go_roundg (gk - 1)
      case measure => have := HK.out; have := Hk.out; omega
      case rel => exact ⟨k + 1, v5, rfl, by go_num, ⟨Hk.out, by have := HK.out; have := Hk.out; omega⟩, Lib.hid (by rw [Hnx.out, ← List.append_assoc]; exact HO5.out), HD5.out⟩
    · obtain rfl : k = 8 := by have := HK.out; omega
      have HO8 := Lib.hid (show OB wr w2.heap.size va (r.d ++ le8 r.v) from by have h := HO.out; rw [List.take_of_length_le (by rw [le8_len]; decide)] at h; exact h)
      have Hln := Lib.hid (show (r.d ++ le8 r.v).length = 40 by rw [List.length_append, Hd.out, le8_len])
      have f33 : wr.cell? ⟨p, 33, none⟩ = some (.int .i64 r.n) := by rw [(HB2.out.fr HD.out (fun h => h)).cell]; exact rcA_n _ Hd.out
      have HnN2 := HnN.out
      obtain ⟨nn, hnn⟩ : ∃ nn : Nat, r.n = (nn : Int) := ⟨r.n.toNat, by omega⟩
      rw [hnn] at f33
      have Hnn := Lib.hid (show r.n.toNat = nn by omega)
      have hnb : (nn : Int) ≤ 4096 := by omega
      have HPl2 := Lib.hid (fun wx => rPut_any nn (by have : (2 : Nat) ^ 64 = 18446744073709551616 := by decide
                                                      omega) wx)
      have HT8 := Lib.hid (HT2.out.gr HD.out)
      clear HnN2 hnn h1' h2'
      go_upto_region 14 with (first
        | (go_at_call 34; refine (HPl2.out _).mono ?_; rintro e w6 ⟨nv, rfl, hs6, hg6⟩; have HN6 := Lib.hid (SL.of_own (enc := encB) hs6 rfl); have HD6 := Lib.hid (HD.out.trans hg6 (fun _ _ h => h)); have HO6 := Lib.hid (HO8.out.gr hg6); clear hs6 hg6)
        | (at_builtin
           refine wpList_ob rfl _ _ 28 Try.underlying28 rfl (wB := w2) va nv (r.d ++ le8 r.v) (putL nn) rfl HO6.out HD6.out rfl HN6.out (by have := Hln.out; have := putL_len nn; omega) ?_
           intro v7 w7 hg7 ho7 hf7
           have HD7 := Lib.hid hg7
           have HO7 := Lib.hid ho7
           clear hg7 ho7 hf7))
      have HT7 := Lib.hid (HT2.out.gr HD7.out)
      go_wp2_with (
        at_builtin
        refine wpList_ob rfl _ _ 28 Try.underlying28 rfl (wB := w2) v7 pv (r.d ++ le8 r.v ++ putL nn) P1 rfl HO7.out HD7.out rfl HT7.out (by have := Hln.out; have := putL_len nn; have := HPl.out; rw [List.length_append]; omega) ?_
        intro v8 w8 hg8 ho8 hf8
        have HD8 := Lib.hid hg8
        have HO9 := Lib.hid ho8
        clear hg8 ho8 hf8)
      go_ret2
      rw [Hq.out, Hnn.out]
      refine ⟨v8, rfl, ?_, HG2.out.trans HD8.out (fun _ _ h => h)⟩
      have h := HO9.out.base HG2.out.size
      rw [List.append_assoc, List.append_assoc] at h
      exact h
end Rec
end Go.Proofs.Ytobedpohoellkaa
