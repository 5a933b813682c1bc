/- vocfile: Id. -/
import Derived.Test.YtlodbhlidgepfaaGWa
import Derived.Test.YtlodbhlidgepfaaHSpec
import Derived.Test.YtlodbhlidgepfaaHRp
import Derived.Test.YtlodbhlidgepfaaFsame
set_option linter.unusedVariables false
set_option linter.unusedSimpArgs false
namespace Go.Proofs.Ytlodbhlidgepfaa
open Go.RowKit
open Voc Leb Crc
namespace Vf
/-- the number that the first bytes make, the highest first -/
def numH (l : List Sha.B) : Nat := l.foldl (fun n c => n * 256 + c.toNat) 0
theorem numH_snoc (l : List Sha.B) (c : Sha.B) : numH (l ++ [c]) = numH l * 256 + c.toNat := by simp [numH]
theorem numH_lt (l : List Sha.B) : ∀ k, k ≤ l.length → numH (l.take k) < 256 ^ k := by
  intro k
  induction k with
  | zero => intro _; simp [numH]
  | succ k ih =>
    intro hk
    rw [List.take_succ_eq_append_getElem (by omega), numH_snoc, Nat.pow_succ]
    have := (l[k]'(by omega)).isLt
    have := ih (by omega)
    omega
def idE (xs : List Pc) : Nat := if (putE xs).2 = 0 then numH ((Sha.sum ((putE xs).1.map (BitVec.ofInt 8))).take 8) else 0
set_option maxRecDepth 100000 in
set_option maxHeartbeats 8000000 in
theorem id_any {w : World} {v : Value} {xs : List Pc} (HS : SL encP w v xs) (hw : ∀ q ∈ xs, wfP q) (hl : xs.length ≤ 1048576) (hb : Crc.Bs (putE xs).1) (hbl : (putE xs).1.length ≤ 1048576) :
    Calls Try.prog 41 #[.agg #[v]] w fun e w' => e = .returned (.tuple #[.int .u64 (idE xs : Nat), .int .i64 (putE xs).2]) ∧ Gr w w' := by
  obtain ⟨A, cap, rfl⟩ := SL.form HS
  have HG := Lib.hid ((Fr.refl w NoneS).alloc (.cells #[.slice A xs.length cap] 27))
  have HB := Lib.hid (Blk.new w 27 #[.slice A xs.length cap])
  have HP := Lib.hid (put_any (HS.gr HG.out) hw (by omega))
  have HI := Lib.hid (show idE xs = if (putE xs).2 = 0 then numH ((Sha.sum ((putE xs).1.map (BitVec.ofInt 8))).take 8) else 0 from rfl)
  generalize idE xs = N at HI ⊢
  obtain ⟨⟨pb, pE⟩, hpp⟩ : ∃ y, putE xs = y := ⟨_, rfl⟩
  rw [hpp] at HP HI hb hbl ⊢
  simp only at HP HI hb hbl ⊢
  have Hb := Lib.hid hb
  have Hbl := Lib.hid hbl
  obtain ⟨q, hq⟩ : ∃ q, w.heap.size = q := ⟨_, rfl⟩
  rw [hq] at HB
  clear HS hw hl hpp hb hbl
  go_enter Try.func41, Try.ntmps41
  go_upto_region 1 with (fail)
  generalize World.alloc w _ = w1 at HG HB HP ⊢
  have c1 : w1.cell? ⟨q, 0, none⟩ = some (.slice A xs.length cap) := by rw [HB.out.cell]; rfl
  go_upto_region 2 with (go_at_call 57; refine HP.out.mono ?_; rintro e w2 ⟨tv, rfl, ho, hg⟩; have HO2 := Lib.hid ho.sl; have HG2 := Lib.hid (HG.out.trans hg (fun _ _ h => h)); clear ho hg)
  by_cases hE : pE = 0
  case neg =>
    have hE1 : (pE != 0) = true := bne_iff_ne.2 hE
    have HN := Lib.hid (show N = 0 by rw [HI.out, if_neg hE])
    go_wp2_with fail
    go_ret2
    rw [HN.out]
    exact ⟨rfl, HG2.out⟩
  subst hE
  have HN := Lib.hid (show N = numH ((Sha.sum (pb.map (BitVec.ofInt 8))).take 8) by rw [HI.out, if_pos rfl])
  have Hdl := Lib.hid (Sha.sum_len (pb.map (BitVec.ofInt 8)))
  have HSm := Lib.hid (fun w (v : Value) (h : SL encB w v pb) => Sha.sum_any v _ w (Sha.ofInts_sl h Hb.out) (by rw [List.length_map]; have := Hbl.out; omega))
  generalize Sha.sum (pb.map (BitVec.ofInt 8)) = sm at HN Hdl HSm
  clear HI
  go_upto_region 5 with (first
    | (go_at_call 58; refine (HSm.out _ _ HO2.out).mono ?_; rintro e w3 ⟨rfl, hg⟩; have HG3 := Lib.hid (HG2.out.trans hg (fun _ _ h => h)); clear hg)
    | refine Sha.wpList_store_new (w0 := w3) rfl _ _ _ rfl (Sha.brr sm) _ _ rfl rfl rfl (by rw [Sha.brr_size, Hdl.out]; kernel_rfl) (by rw [Sha.brr_size, Hdl.out]; rfl) (Sha.brr_one _) ?_)
  have HD := Lib.hid (Blk.new w3 Sha.TD (Sha.brr sm))
  have HG4 := Lib.hid (HG3.out.alloc (.cells (Sha.brr sm) Sha.TD))
  obtain ⟨d, hd⟩ : ∃ d, w3.heap.size = d := ⟨_, rfl⟩
  rw [hd] at HD ⊢
  clear hd c1 HP
  generalize World.alloc w3 _ = w4 at HD HG4 ⊢
  go_wp2_with fail
  go_loopg [7, 22] 9 (fun g s7 s22 wr => ∃ i : Nat, s7 = .int .u64 (numH (sm.take i) : Nat) ∧ s22 = .int .i64 i ∧ wr = w4 ∧ Hid (i ≤ 8 ∧ 8 - i < g))
  case atStart => exact ⟨0, rfl, rfl, rfl, ⟨by omega, by omega⟩⟩
  case round =>
    obtain ⟨i, rfl, rfl, rfl, HK⟩ := hrel
    by_cases hi : i < 8
    · have hi1 : decide ((i : Int) < 8) = true := decide_eq_true (by omega)
      have hi2 : (i : Int) < 8 := by omega
      have hlt : i < sm.length := by rw [Hdl.out]; omega
      have hc : wr.cell? ⟨d, i, none⟩ = some (.int .u8 (((sm[i]'hlt).toNat : Nat) : Int)) := by
        rw [HD.out.cell]
        simp [Sha.brr, Sha.C, hlt]
      have Hst := Lib.hid (show numH (sm.take (i + 1)) = numH (sm.take i) * 256 + (sm[i]'hlt).toNat by rw [List.take_succ_eq_append_getElem hlt, numH_snoc])
      have hcb := (sm[i]'hlt).isLt
      have hnb := numH_lt sm i (by omega)
      have hp : (256 : Nat) ^ i ≤ 256 ^ 7 := Nat.pow_le_pow_right (by decide) (by omega)
      have hp7 : (256 : Nat) ^ 7 = 72057594037927936 := by decide
      generalize (sm[i]'hlt).toNat = c at hc Hst hcb
      generalize numH (sm.take i) = n at Hst hnb ⊢
      have hn : n < 72057594037927936 := by omega
      clear hnb hp hp7
      have hor : bits .or .u64 ((n : Int) * 256) (c : Int) = ((n * 256 + c : Nat) : Int) := by
        have h := or64 (show n * 256 < 2 ^ 64 by omega) (show c < 2 ^ 64 by omega)
        have h2 := or_add (a := c) (b := n) (k := 8) (by omega)
        rw [Nat.or_comm, show (256 : Nat) = 2 ^ 8 by decide, h2] at h
        rw [show (n : Int) * 256 = ((n * 2 ^ 8 : Nat) : Int) by omega, h]
        omega
      have Hor := Lib.hid hor
      clear hor
      go_wp2_with fail
      go_roundg (gk - 1)
      case measure => have := HK.out; omega
      case rel =>
        refine ⟨i + 1, ?_, by go_num, rfl, ⟨by omega, by have := HK.out; omega⟩⟩
        rw [Hst.out, ← Hor.out]
    · have hi1 : decide ((i : Int) < 8) = false := decide_eq_false (by omega)
      obtain rfl : i = 8 := by have := HK.out; omega
      go_wp2_with fail
      go_ret2
      rw [HN.out]
      exact ⟨rfl, HG4.out⟩
end Vf
end Go.Proofs.Ytlodbhlidgepfaa
