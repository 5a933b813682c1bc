/- the reference's Encode. -/
import Derived.Test.YtildhlneldoffaaERc
import Derived.Deep.DeepCutAuto
set_option linter.unusedVariables false
set_option linter.unusedSimpArgs false
namespace Go.Proofs.Ytildhlneldoffaa
open Go.RowKit
open Voc
namespace Bpe
def rencE (xs : List Pc) (bs : List Int) : List Int × Int := if (beginE xs bs).2 ≠ 0 then ([], (beginE xs bs).2) else (encL xs (beginE xs bs).1, 0)
set_option maxRecDepth 20000 in
set_option maxHeartbeats 3200000 in
theorem rencode_any {w : World} {v vb : Value} {xs : List Pc} {bs : List Int} (HS : SL encP w v xs) (HV : SL encB w vb bs) (hw : ∀ q ∈ xs, wfP q) (hb : ∀ c ∈ bs, 0 ≤ c ∧ c < 256) (hl : xs.length ≤ 1048576) (hbl : bs.length ≤ 1048576) :
    Calls Try.prog 16 #[.agg #[v], vb] w fun e w' => ∃ r, e = .returned (.tuple #[r, .int .i64 (rencE xs bs).2]) ∧ OI w' w.heap.size r (rencE xs bs).1 ∧ Gr w w' := by
  obtain ⟨A, cap, rfl⟩ := SL.form HS
  obtain ⟨A2, cap2, rfl⟩ := SL.form HV
  have HG := Lib.hid ((Fr.refl w NoneS).alloc (.cells #[.slice A xs.length cap] 24))
  have HB := Lib.hid (Blk.new w 24 #[.slice A xs.length cap])
  have HS0 := Lib.hid HS
  have Hl := Lib.hid hl
  have HBg := Lib.hid (rbegin_any (HS.gr HG.out) (HV.gr HG.out) hw hb hl)
  have hbi : (bs.length : Int) ≤ 1048576 := by omega
  have Hbl := Lib.hid hbl
  have Hrl := Lib.hid (show (beginE xs bs).2 = 0 → (beginE xs bs).1.length = bs.length from fun h => by
    unfold beginE at h ⊢
    split at h
    · cases h
    · split at h
      · cases h
      · rename_i h1 h2
        rw [if_neg h1, if_neg h2]
        exact row0_len xs bs)
  obtain ⟨⟨L, E⟩, hE⟩ : ∃ y, rencE xs bs = y := ⟨_, rfl⟩
  rw [hE]
  unfold rencE at hE
  have HE := Lib.hid hE
  obtain ⟨q1, hq1⟩ : ∃ q, w.heap.size = q := ⟨_, rfl⟩
  rw [hq1] at HB
  have Hq1 := Lib.hid hq1
  obtain ⟨⟨L0, E0⟩, hB⟩ : ∃ y, beginE xs bs = y := ⟨_, rfl⟩
  rw [hB] at HBg HE Hrl
  simp only at HBg HE Hrl
  clear HS HV hw hb hl hbl hE hB
  go_enter Try.func16, Try.ntmps16
  go_upto_region 1 with (fail)
  clear hq1
  generalize World.alloc w _ = wa at HG HB HBg ⊢
  have f0 : wa.cell? ⟨q1, 0, none⟩ = some (.slice A xs.length cap) := by rw [HB.out.cell]; rfl
  by_cases hE0 : E0 = 0
  case neg =>
    have he := HE.out
    rw [if_pos hE0] at he
    injection he with e1 e2
    subst e1 e2
    have hE1 : (E0 != 0) = true := bne_iff_ne.2 hE0
    clear hE0
    go_wp2_with (go_at_call 24; refine HBg.out.mono ?_; rintro e w3 ⟨r, rfl, ho, hg⟩; have HG3 := Lib.hid hg; clear ho hg)
    go_ret2
    exact ⟨_, rfl, OI.nil _ _, HG.out.trans HG3.out (fun _ _ h => h)⟩
  subst hE0
  have Hrow := Lib.hid (Hrl.out rfl)
  have he := HE.out
  rw [if_neg (by decide)] at he
  injection he with e1 e2
  have He1 := Lib.hid e1
  subst e2
  clear e1
  go_upto_block 0 with (go_at_call 24; refine HBg.out.mono ?_; rintro e w3 ⟨r, rfl, ho, hg⟩; have HO3 := Lib.hid (ho.base HG.out.size); have HG3 := Lib.hid (HG.out.trans hg (fun _ _ h => h)); have HB3 := Lib.hid (HB.out.fr hg (fun h => h)); clear ho hg)
  clear f0
  go_cut [6] (fun s6 wx => ∃ vr, vr = s6 ∧ Hid (Gr w wx ∧ OI wx w.heap.size vr L))
  case first =>
    go_wp2_with fail
    go_loopg [6, 8] (bs.length + 1) (fun m s6 s8 wr => ∃ (k : Nat) (v : Value) (M : List Int), v = s6 ∧ s8 = .int .i64 k ∧ Hid (k + M.length = bs.length ∧ bs.length - k < m ∧ encL xs M = L) ∧ Hid (Gr w3 wr ∧ OI wr w.heap.size v M))
    case atStart => exact ⟨0, r, L0, rfl, rfl, ⟨by rw [Hrow.out]; omega, by omega, He1.out⟩, Fr.refl _ _, HO3.out⟩
    case round =>
      obtain ⟨k, v, M, rfl, rfl, HK, HP⟩ := hrel
      by_cases hk : k < bs.length
      · have HG1 := Lib.hid (HG3.out.trans HP.out.1 (fun _ _ h => h))
        have f0 : wr.cell? ⟨q1, 0, none⟩ = some (.slice A xs.length cap) := by rw [(HB3.out.fr HP.out.1 (fun h => h)).cell]; rfl
        have hki : (k : Int) < bs.length := by omega
        have Hk := Lib.hid hk
        have HSt := Lib.hid (rstep_any (HS0.out.gr HG1.out) HP.out.2.sl Hl.out (by have := HK.out; have := Hbl.out; omega))
        clear hk
        cases hs : stepR xs M with
        | none =>
          rw [hs] at HSt
          simp only [wh, wi, Option.isSome_none] at HSt
          have HM := Lib.hid (show M = L by rw [← HK.out.2.2, encL_none hs])
          clear hs
          go_wp2_with (go_at_call 41; refine HSt.out.mono ?_; rintro e w5 ⟨rfl, hg⟩; have HG5 := Lib.hid hg; clear hg)
          go_meet
          refine ⟨v, rfl, Lib.hid ⟨HG1.out.trans HG5.out (fun _ _ h => h), ?_⟩⟩
          rw [← HM.out]
          exact HP.out.2.gr HG5.out
        | some ab =>
          obtain ⟨i, t⟩ := ab
          rw [hs] at HSt
          simp only [wh, wi, Option.isSome_some] at HSt
          have HM := Lib.hid (show encL xs (joined M i t) = L by rw [← HK.out.2.2, encL_step hs])
          have Hlt := Lib.hid (stepR_lt hs)
          have HJ := Lib.hid (fun wx (hg : Gr wr wx) => rjoined_any i t (HP.out.2.sl.gr hg) Hlt.out (by have := HK.out; have := Hbl.out; omega))
          clear hs
          go_wp2_with (first
            | (go_at_call 41; refine HSt.out.mono ?_; rintro e w5 ⟨rfl, hg⟩; have HG5 := Lib.hid hg; clear hg)
            | (go_at_call 42; refine (HJ.out _ HG5.out).mono ?_; rintro e w6 ⟨rj, rfl, ho, hg⟩; have HO6 := Lib.hid (ho.base (Nat.le_trans HG1.out.size HG5.out.size)); have HG6 := Lib.hid (HG5.out.trans hg (fun _ _ h => h)); clear ho hg))
          go_roundg (gk - 1)
          case measure => have := HK.out; have := Hk.out; omega
          case rel => exact ⟨k + 1, rj, _, rfl, by go_num, ⟨by rw [joined_len Hlt.out]; have := HK.out; have := Hlt.out; omega, by have := HK.out; have := Hk.out; omega, HM.out⟩, HP.out.1.trans HG6.out (fun _ _ h => h), HO6.out⟩
      · have HM := Lib.hid (show M = L from by
          have h0 : M = [] := List.eq_nil_of_length_eq_zero (by have := HK.out; omega)
          rw [← HK.out.2.2, h0]; rfl)
        go_wp2_with fail
        go_meet
        exact ⟨v, rfl, Lib.hid ⟨HG3.out.trans HP.out.1 (fun _ _ h => h), by rw [← HM.out]; exact HP.out.2⟩⟩
  case rest =>
    obtain ⟨vr, rfl, HF⟩ := hcut
    go_wp2_with fail
    go_ret2
    exact ⟨vr, rfl, HF.out.2, HF.out.1⟩
def encE' (xs : List Pc) (bs : List Int) : List Int × Int := if (checkE xs).1 ≠ 0 then ([], 11) else if 4096 < bs.length then ([], 3) else (encL xs (row0 xs bs), 0)
theorem renc_eq (xs : List Pc) (bs : List Int) : rencE xs bs = encE' xs bs := by
  unfold rencE encE' beginE
  by_cases h1 : (checkE xs).1 ≠ 0
  · rw [if_pos h1, if_pos h1]; rfl
  · rw [if_neg h1, if_neg h1]
    by_cases h2 : 4096 < bs.length
    · rw [if_pos h2, if_pos h2]; rfl
    · rw [if_neg h2, if_neg h2]; rfl
end Bpe
end Go.Proofs.Ytildhlneldoffaa
