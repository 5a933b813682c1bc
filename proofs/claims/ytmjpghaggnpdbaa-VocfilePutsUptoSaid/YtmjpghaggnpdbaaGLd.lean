/- vocfile: both Ids; the walk of VocfilePuts. -/
import Derived.Test.YtmjpghaggnpdbaaGWa
import Derived.Test.YtmjpghaggnpdbaaGWb
import Derived.Test.YtmjpghaggnpdbaaHWg
import Derived.Test.YtmjpghaggnpdbaaHRp
import Derived.Test.YtmjpghaggnpdbaaGWk
import Derived.Test.YtmjpghaggnpdbaaFsame
import Derived.Test.YtmjpghaggnpdbaaVRd
set_option linter.unusedVariables false
set_option linter.unusedSimpArgs false
namespace Go.Proofs.Ytmjpghaggnpdbaa
open Go.RowKit
open Voc Leb Crc
namespace Vf
/-- the number that the first bytes make, the highest first -/
def numH (l : List Sha.B) : Nat := l.foldl (fun n c => n * 256 + c.toNat) 0
theorem numH_snoc (l : List Sha.B) (c : Sha.B) : numH (l ++ [c]) = numH l * 256 + c.toNat := by simp [numH]
theorem numH_lt (l : List Sha.B) : ∀ k, k ≤ l.length → numH (l.take k) < 256 ^ k := by
  intro k
  induction k with
  | zero => intro _; simp [numH]
  | succ k ih =>
    intro hk
    rw [List.take_succ_eq_append_getElem (by omega), numH_snoc, Nat.pow_succ]
    have := (l[k]'(by omega)).isLt
    have := ih (by omega)
    omega
def idE (xs : List Pc) : Nat := if (putE xs).2 = 0 then numH ((Sha.sum ((putE xs).1.map (BitVec.ofInt 8))).take 8) else 0
set_option maxRecDepth 100000 in
set_option maxHeartbeats 8000000 in
theorem id_any {w : World} {v : Value} {xs : List Pc} (HS : SL encP w v xs) (hw : ∀ q ∈ xs, wfP q) (hl : xs.length ≤ 700) (hb : Crc.Bs (putE xs).1) (hbl : (putE xs).1.length ≤ 1048576) :
    Calls Try.prog 19 #[.agg #[v]] w fun e w' => e = .returned (.tuple #[.int .u64 (idE xs : Nat), .int .i64 (putE xs).2]) ∧ Gr w w' := by
  obtain ⟨A, cap, rfl⟩ := SL.form HS
  have HG := Lib.hid ((Fr.refl w NoneS).alloc (.cells #[.slice A xs.length cap] 26))
  have HB := Lib.hid (Blk.new w 26 #[.slice A xs.length cap])
  have HP := Lib.hid (put_any (HS.gr HG.out) hw (by omega))
  have HI := Lib.hid (show idE xs = if (putE xs).2 = 0 then numH ((Sha.sum ((putE xs).1.map (BitVec.ofInt 8))).take 8) else 0 from rfl)
  generalize idE xs = N at HI ⊢
  obtain ⟨⟨pb, pE⟩, hpp⟩ : ∃ y, putE xs = y := ⟨_, rfl⟩
  rw [hpp] at HP HI hb hbl ⊢
  simp only at HP HI hb hbl ⊢
  have Hb := Lib.hid hb
  have Hbl := Lib.hid hbl
  obtain ⟨q, hq⟩ : ∃ q, w.heap.size = q := ⟨_, rfl⟩
  rw [hq] at HB
  clear HS hw hl hpp hb hbl
  go_enter Try.func19, Try.ntmps19
  go_upto_region 1 with (fail)
  generalize World.alloc w _ = w1 at HG HB HP ⊢
  have c1 : w1.cell? ⟨q, 0, none⟩ = some (.slice A xs.length cap) := by rw [HB.out.cell]; rfl
  go_upto_region 2 with (go_at_call 13; refine HP.out.mono ?_; rintro e w2 ⟨tv, rfl, ho, hg⟩; have HO2 := Lib.hid ho.sl; have HG2 := Lib.hid (HG.out.trans hg (fun _ _ h => h)); clear ho hg)
  by_cases hE : pE = 0
  case neg =>
    have hE1 : (pE != 0) = true := bne_iff_ne.2 hE
    have HN := Lib.hid (show N = 0 by rw [HI.out, if_neg hE])
    go_wp2_with fail
    go_ret2
    rw [HN.out]
    exact ⟨rfl, HG2.out⟩
  subst hE
  have HN := Lib.hid (show N = numH ((Sha.sum (pb.map (BitVec.ofInt 8))).take 8) by rw [HI.out, if_pos rfl])
  have Hdl := Lib.hid (Sha.sum_len (pb.map (BitVec.ofInt 8)))
  have HSm := Lib.hid (fun w (v : Value) (h : SL encB w v pb) => Sha.sum_any v _ w (Sha.ofInts_sl h Hb.out) (by rw [List.length_map]; have := Hbl.out; omega))
  generalize Sha.sum (pb.map (BitVec.ofInt 8)) = sm at HN Hdl HSm
  clear HI
  go_upto_region 5 with (first
    | (go_at_call 39; refine (HSm.out _ _ HO2.out).mono ?_; rintro e w3 ⟨rfl, hg⟩; have HG3 := Lib.hid (HG2.out.trans hg (fun _ _ h => h)); clear hg)
    | refine Sha.wpList_store_new (w0 := w3) rfl _ _ _ rfl (Sha.brr sm) _ _ rfl rfl rfl (by rw [Sha.brr_size, Hdl.out]; kernel_rfl) (by rw [Sha.brr_size, Hdl.out]; rfl) (Sha.brr_one _) ?_)
  have HD := Lib.hid (Blk.new w3 Sha.TD (Sha.brr sm))
  have HG4 := Lib.hid (HG3.out.alloc (.cells (Sha.brr sm) Sha.TD))
  obtain ⟨d, hd⟩ : ∃ d, w3.heap.size = d := ⟨_, rfl⟩
  rw [hd] at HD ⊢
  clear hd c1 HP
  generalize World.alloc w3 _ = w4 at HD HG4 ⊢
  go_wp2_with fail
  go_loopg [7, 22] 9 (fun g s7 s22 wr => ∃ i : Nat, s7 = .int .u64 (numH (sm.take i) : Nat) ∧ s22 = .int .i64 i ∧ wr = w4 ∧ Hid (i ≤ 8 ∧ 8 - i < g))
  case atStart => exact ⟨0, rfl, rfl, rfl, ⟨by omega, by omega⟩⟩
  case round =>
    obtain ⟨i, rfl, rfl, rfl, HK⟩ := hrel
    by_cases hi : i < 8
    · have hi1 : decide ((i : Int) < 8) = true := decide_eq_true (by omega)
      have hi2 : (i : Int) < 8 := by omega
      have hlt : i < sm.length := by rw [Hdl.out]; omega
      have hc : wr.cell? ⟨d, i, none⟩ = some (.int .u8 (((sm[i]'hlt).toNat : Nat) : Int)) := by
        rw [HD.out.cell]
        simp [Sha.brr, Sha.C, hlt]
      have Hst := Lib.hid (show numH (sm.take (i + 1)) = numH (sm.take i) * 256 + (sm[i]'hlt).toNat by rw [List.take_succ_eq_append_getElem hlt, numH_snoc])
      have hcb := (sm[i]'hlt).isLt
      have hnb := numH_lt sm i (by omega)
      have hp : (256 : Nat) ^ i ≤ 256 ^ 7 := Nat.pow_le_pow_right (by decide) (by omega)
      have hp7 : (256 : Nat) ^ 7 = 72057594037927936 := by decide
      generalize (sm[i]'hlt).toNat = c at hc Hst hcb
      generalize numH (sm.take i) = n at Hst hnb ⊢
      have hn : n < 72057594037927936 := by omega
      clear hnb hp hp7
      have hor : bits .or .u64 ((n : Int) * 256) (c : Int) = ((n * 256 + c : Nat) : Int) := by
        have h := or64 (show n * 256 < 2 ^ 64 by omega) (show c < 2 ^ 64 by omega)
        have h2 := or_add (a := c) (b := n) (k := 8) (by omega)
        rw [Nat.or_comm, show (256 : Nat) = 2 ^ 8 by decide, h2] at h
        rw [show (n : Int) * 256 = ((n * 2 ^ 8 : Nat) : Int) by omega, h]
        omega
      have Hor := Lib.hid hor
      clear hor
      go_wp2_with fail
      go_roundg (gk - 1)
      case measure => have := HK.out; omega
      case rel =>
        refine ⟨i + 1, ?_, by go_num, rfl, ⟨by omega, by have := HK.out; omega⟩⟩
        rw [Hst.out, ← Hor.out]
    · have hi1 : decide ((i : Int) < 8) = false := decide_eq_false (by omega)
      obtain rfl : i = 8 := by have := HK.out; omega
      go_wp2_with fail
      go_ret2
      rw [HN.out]
      exact ⟨rfl, HG4.out⟩
end Vf
end Go.Proofs.Ytmjpghaggnpdbaa

namespace Go.Proofs.Ytmjpghaggnpdbaa
open Go.RowKit
open Voc Leb Crc
namespace Vf
set_option maxRecDepth 100000 in
set_option maxHeartbeats 8000000 in
theorem rid_any {w : World} {v : Value} {xs : List Pc} (HS : SL encP w v xs) (hw : ∀ q ∈ xs, wfP q) (hl : xs.length ≤ 700) (hb : Crc.Bs (putE xs).1) (hbl : (putE xs).1.length ≤ 1048576) :
    Calls Try.prog 20 #[.agg #[v]] w fun e w' => e = .returned (.tuple #[.int .u64 (idE xs : Nat), .int .i64 (putE xs).2]) ∧ Gr w w' := by
  obtain ⟨A, cap, rfl⟩ := SL.form HS
  have HG := Lib.hid ((Fr.refl w NoneS).alloc (.cells #[.slice A xs.length cap] 26))
  have HB := Lib.hid (Blk.new w 26 #[.slice A xs.length cap])
  have HP := Lib.hid (rput_any (HS.gr HG.out) hw (by omega))
  have HI := Lib.hid (show idE xs = if (putE xs).2 = 0 then numH ((Sha.sum ((putE xs).1.map (BitVec.ofInt 8))).take 8) else 0 from rfl)
  generalize idE xs = N at HI ⊢
  obtain ⟨⟨pb, pE⟩, hpp⟩ : ∃ y, putE xs = y := ⟨_, rfl⟩
  rw [hpp] at HP HI hb hbl ⊢
  simp only at HP HI hb hbl ⊢
  have Hb := Lib.hid hb
  have Hbl := Lib.hid hbl
  obtain ⟨q, hq⟩ : ∃ q, w.heap.size = q := ⟨_, rfl⟩
  rw [hq] at HB
  clear HS hw hl hpp hb hbl
  go_enter Try.func20, Try.ntmps20
  go_upto_region 1 with (fail)
  generalize World.alloc w _ = w1 at HG HB HP ⊢
  have c1 : w1.cell? ⟨q, 0, none⟩ = some (.slice A xs.length cap) := by rw [HB.out.cell]; rfl
  go_upto_region 2 with (go_at_call 18; refine HP.out.mono ?_; rintro e w2 ⟨tv, rfl, ho, hg⟩; have HO2 := Lib.hid ho.sl; have HG2 := Lib.hid (HG.out.trans hg (fun _ _ h => h)); clear ho hg)
  by_cases hE : pE = 0
  case neg =>
    have hE1 : (pE != 0) = true := bne_iff_ne.2 hE
    have HN := Lib.hid (show N = 0 by rw [HI.out, if_neg hE])
    go_wp2_with fail
    go_ret2
    rw [HN.out]
    exact ⟨rfl, HG2.out⟩
  subst hE
  have HN := Lib.hid (show N = numH ((Sha.sum (pb.map (BitVec.ofInt 8))).take 8) by rw [HI.out, if_pos rfl])
  have Hdl := Lib.hid (Sha.sum_len (pb.map (BitVec.ofInt 8)))
  have HSm := Lib.hid (fun w (v : Value) (h : SL encB w v pb) => Sha.rsum_any v _ w (Sha.ofInts_sl h Hb.out) (by rw [List.length_map]; have := Hbl.out; omega))
  generalize Sha.sum (pb.map (BitVec.ofInt 8)) = sm at HN Hdl HSm
  clear HI
  go_upto_region 5 with (first
    | (go_at_call 40; refine (HSm.out _ _ HO2.out).mono ?_; rintro e w3 ⟨rfl, hg⟩; have HG3 := Lib.hid (HG2.out.trans hg (fun _ _ h => h)); clear hg)
    | refine Sha.wpList_store_new (w0 := w3) rfl _ _ _ rfl (Sha.brr sm) _ _ rfl rfl rfl (by rw [Sha.brr_size, Hdl.out]; kernel_rfl) (by rw [Sha.brr_size, Hdl.out]; rfl) (Sha.brr_one _) ?_)
  have HD := Lib.hid (Blk.new w3 Sha.TD (Sha.brr sm))
  have HG4 := Lib.hid (HG3.out.alloc (.cells (Sha.brr sm) Sha.TD))
  obtain ⟨d, hd⟩ : ∃ d, w3.heap.size = d := ⟨_, rfl⟩
  rw [hd] at HD ⊢
  clear hd c1 HP
  generalize World.alloc w3 _ = w4 at HD HG4 ⊢
  go_wp2_with fail
  go_loopg [7, 8] 9 (fun g s7 s22 wr => ∃ i : Nat, s7 = .int .u64 (numH (sm.take i) : Nat) ∧ s22 = .int .i64 i ∧ wr = w4 ∧ Hid (i ≤ 8 ∧ 8 - i < g))
  case atStart => exact ⟨0, rfl, rfl, rfl, ⟨by omega, by omega⟩⟩
  case round =>
    obtain ⟨i, rfl, rfl, rfl, HK⟩ := hrel
    by_cases hi : i < 8
    · have hi1 : decide ((i : Int) < 8) = true := decide_eq_true (by omega)
      have hi2 : (i : Int) < 8 := by omega
      have hlt : i < sm.length := by rw [Hdl.out]; omega
      have hc : wr.cell? ⟨d, i, none⟩ = some (.int .u8 (((sm[i]'hlt).toNat : Nat) : Int)) := by
        rw [HD.out.cell]
        simp [Sha.brr, Sha.C, hlt]
      have Hst := Lib.hid (show numH (sm.take (i + 1)) = numH (sm.take i) * 256 + (sm[i]'hlt).toNat by rw [List.take_succ_eq_append_getElem hlt, numH_snoc])
      have hcb := (sm[i]'hlt).isLt
      have hnb := numH_lt sm i (by omega)
      have hp : (256 : Nat) ^ i ≤ 256 ^ 7 := Nat.pow_le_pow_right (by decide) (by omega)
      have hp7 : (256 : Nat) ^ 7 = 72057594037927936 := by decide
      generalize (sm[i]'hlt).toNat = c at hc Hst hcb
      generalize numH (sm.take i) = n at Hst hnb ⊢
      have hn : n < 72057594037927936 := by omega
      clear hnb hp hp7
      have w1x : IntKind.u64.wrap (256 * (n : Int)) = 256 * (n : Int) := by show (256 * (n : Int)) % 18446744073709551616 = _; omega
      have w2x : IntKind.u64.wrap (256 * (n : Int) + (c : Int)) = 256 * (n : Int) + (c : Int) := by show (256 * (n : Int) + (c : Int)) % 18446744073709551616 = _; omega
      have w3x : IntKind.u64.wrap (c : Int) = (c : Int) := by show (c : Int) % 18446744073709551616 = _; omega
      go_wp2_with fail
      go_roundg (gk - 1)
      case measure => have := HK.out; omega
      case rel =>
        refine ⟨i + 1, ?_, by go_num, rfl, ⟨by omega, by have := HK.out; omega⟩⟩
        rw [Hst.out]
        congr 1
        omega
    · have hi1 : decide ((i : Int) < 8) = false := decide_eq_false (by omega)
      obtain rfl : i = 8 := by have := HK.out; omega
      go_wp2_with fail
      go_ret2
      rw [HN.out]
      exact ⟨rfl, HG4.out⟩
end Vf
end Go.Proofs.Ytmjpghaggnpdbaa

namespace Go.Proofs.Ytmjpghaggnpdbaa
open Go.RowKit
open Voc Leb Crc Vf
set_option maxRecDepth 20000 in
set_option maxHeartbeats 4000000 in
theorem VocfilePuts_walk (w : World) (s0 : Value) (x0 : List Pc) (sl0 : SL encP w s0 x0) (wf0 : ∀ q ∈ x0, wfP q) (n0 : x0.length ≤ 1048576) :
    Calls Try.prog 7 #[.agg #[s0]] w fun e w' => e = .returned (.bool true) ∧ Gr w w' := by
  obtain ⟨A, cap, rfl⟩ := SL.form sl0
  have HS0 := Lib.hid sl0
  have Hwf := Lib.hid wf0
  have HG := Lib.hid ((Fr.refl w NoneS).alloc (.cells #[.slice A x0.length cap] 26))
  have HB := Lib.hid (Blk.new w 26 #[.slice A x0.length cap])
  obtain ⟨q, hq⟩ : ∃ q, w.heap.size = q := ⟨_, rfl⟩
  rw [hq] at HB
  have HM := Lib.hid (many_any (sl0.gr HG.out))
  have HX := Lib.hid (show x0.length ≤ 700 → Crc.Bs (putE x0).1 ∧ (putE x0).1.length ≤ 30000 from fun hl => by
    unfold putE
    split
    · rename_i h
      exact ⟨fileB_byte (form_of (good_of h) wf0), by have := fileB_len x0; simp only; omega⟩
    · exact ⟨by intro c hc; simp at hc, by simp⟩)
  clear sl0 wf0
  go_enter Try.func7, Try.ntmps7
  go_upto_region 1 with (fail)
  generalize hx : World.alloc w _ = wa at HG HB HM ⊢
  clear hx
  have c0 : wa.cell? ⟨q, 0, none⟩ = some (.slice A x0.length cap) := by rw [HB.out.cell]; rfl
  by_cases hbig : 700 < x0.length
  · have hM : decide (700 < x0.length) = true := decide_eq_true hbig
    rw [hM] at HM
    clear hM
    go_wp2_with (first
      | (go_at_call 12; refine HM.out.mono ?_; rintro e w2 ⟨rfl, hg⟩; have HG2 := Lib.hid (HG.out.trans hg (fun _ _ h => h)); clear hg)
      | (go_at_call 8; refine (works_any _).mono ?_; rintro e wz ⟨rfl, hg⟩; have HGz := Lib.hid hg; clear hg))
    go_ret
    exact ⟨rfl, HG2.out.trans HGz.out (fun _ _ h => h)⟩
  have hM : decide (700 < x0.length) = false := decide_eq_false hbig
  rw [hM] at HM
  clear hM
  have H7 := Lib.hid (show x0.length ≤ 700 by omega)
  obtain ⟨hb, hbl⟩ := HX.out H7.out
  have HP := Lib.hid (fun w' (hg : Gr w w') => put_any (HS0.out.gr hg) Hwf.out n0)
  have HQ := Lib.hid (fun w' (hg : Gr w w') => rput_any (HS0.out.gr hg) Hwf.out n0)
  have HI := Lib.hid (fun w' (hg : Gr w w') => id_any (HS0.out.gr hg) Hwf.out H7.out hb (by omega))
  have HJ := Lib.hid (fun w' (hg : Gr w w') => rid_any (HS0.out.gr hg) Hwf.out H7.out hb (by omega))
  have HSa := Lib.hid (fun w' (va vb : Value) (ha : SL encB w' va (putE x0).1) (hb' : SL encB w' vb (putE x0).1) => same_any va vb _ _ w' ha hb' (by omega))
  simp only [decide_true] at HSa
  generalize idE x0 = N at HI HJ
  generalize (putE x0).2 = pE at HP HQ HI HJ
  generalize (putE x0).1 = pb at HP HQ HSa hb hbl HX
  clear hbig hb hbl HX
  go_upto_region 3 with (go_at_call 12; refine HM.out.mono ?_; rintro e w2 ⟨rfl, hg⟩; have HG2 := Lib.hid (HG.out.trans hg (fun _ _ h => h)); have HB2 := Lib.hid (HB.out.fr hg (fun h => h)); clear hg)
  have c2 : w2.cell? ⟨q, 0, none⟩ = some (.slice A x0.length cap) := by rw [HB2.out.cell]; rfl
  go_upto_region 4 with (go_at_call 13; refine (HP.out _ HG2.out).mono ?_; rintro e w3 ⟨ta, rfl, ho, hg⟩; have HT3 := Lib.hid ho.sl; have HG3 := Lib.hid (HG2.out.trans hg (fun _ _ h => h)); have HB3 := Lib.hid (HB2.out.fr hg (fun h => h)); clear ho hg)
  have c3 : w3.cell? ⟨q, 0, none⟩ = some (.slice A x0.length cap) := by rw [HB3.out.cell]; rfl
  go_upto_region 5 with (go_at_call 18; refine (HQ.out _ HG3.out).mono ?_; rintro e w4 ⟨tb, rfl, ho, hg⟩; have HT4 := Lib.hid (HT3.out.gr hg); have HU4 := Lib.hid ho.sl; have HG4 := Lib.hid (HG3.out.trans hg (fun _ _ h => h)); have HB4 := Lib.hid (HB3.out.fr hg (fun h => h)); clear ho hg)
  have c4 : w4.cell? ⟨q, 0, none⟩ = some (.slice A x0.length cap) := by rw [HB4.out.cell]; rfl
  go_upto_region 6 with (go_at_call 19; refine (HI.out _ HG4.out).mono ?_; rintro e w5 ⟨rfl, hg⟩; have HT5 := Lib.hid (HT4.out.gr hg); have HU5 := Lib.hid (HU4.out.gr hg); have HG5 := Lib.hid (HG4.out.trans hg (fun _ _ h => h)); have HB5 := Lib.hid (HB4.out.fr hg (fun h => h)); clear hg)
  have c5 : w5.cell? ⟨q, 0, none⟩ = some (.slice A x0.length cap) := by rw [HB5.out.cell]; rfl
  go_upto_region 7 with (go_at_call 20; refine (HJ.out _ HG5.out).mono ?_; rintro e w6 ⟨rfl, hg⟩; have HT6 := Lib.hid (HT5.out.gr hg); have HU6 := Lib.hid (HU5.out.gr hg); have HG6 := Lib.hid (HG5.out.trans hg (fun _ _ h => h)); clear hg)
  go_wp2_with (first
    | (go_at_call 14; refine (HSa.out _ _ _ HT6.out HU6.out).mono ?_; rintro e w7 ⟨rfl, hg⟩; have HG7 := Lib.hid (HG6.out.trans hg.gr (fun _ _ h => h)); clear hg)
    | (go_at_call 8; refine (works_any _).mono ?_; rintro e wz ⟨rfl, hg⟩; have HGz := Lib.hid hg; clear hg))
  go_ret
  exact ⟨rfl, HG7.out.trans HGz.out (fun _ _ h => h)⟩
end Go.Proofs.Ytmjpghaggnpdbaa
