/- The walk of VocabTokens. -/
import Derived.Test.YtdogccgebgdlmaaVWk
import Derived.Test.YtdogccgebgdlmaaFbytes
import Derived.Test.YtdogccgebgdlmaaFbyte
import Derived.Test.YtdogccgebgdlmaaVRd
import Derived.Test.YtdogccgebgdlmaaVGe
set_option linter.unusedVariables false
set_option linter.unusedSimpArgs false
namespace Go.Proofs.Ytdogccgebgdlmaa
open Go.RowKit
open Voc
set_option maxRecDepth 20000 in
set_option maxHeartbeats 4000000 in
theorem VocabTokens_walk (w : World) (v : Value) (xs : List Pc) (hs : SL encP w v xs) (hw : ∀ x ∈ xs, wfP x) (hl : xs.length ≤ 1048576) (n : Int) (hn : (Lit.int .i64 n).wf = true) (c : Int) (hc : (Lit.int .u8 c).wf = true) :
    Calls Try.prog 7 #[.agg #[v], .int .i64 n, .int .u8 c] w fun e w' => e = .returned (.bool true) ∧ Gr w w' := by
  have HS := Lib.hid hs
  obtain ⟨A, cap, rfl⟩ := SL.form hs
  have HG := Lib.hid ((Fr.refl w NoneS).alloc (.cells #[.slice A xs.length cap] 24))
  have HB := Lib.hid (Blk.new w 24 #[.slice A xs.length cap])
  have HM := Lib.hid (many_any (HS.out.gr HG.out))
  have HE1 := Lib.hid (fun w' (hg : Gr w w') => Expand_any n (hs.gr hg) hw hl (Nat.le_trans (expE_le xs n) (by omega)))
  have HE2 := Lib.hid (fun w' (hg : Gr w w') => rexpand_any n (hs.gr hg) hw hl (Nat.le_trans (expE_le xs n) (by omega)))
  have HE3 := Lib.hid (fun w' (hg : Gr w w') => size_any n (hs.gr hg) hw hl)
  have HE4 := Lib.hid (fun w' (hg : Gr w w') => byte_any c hc (hs.gr hg) hw hl)
  have HE5 := Lib.hid (fun w' (hg : Gr w w') => rbyte_any c hc (hs.gr hg) hw hl)
  rw [size_len xs n] at HE3
  have Hle := Lib.hid (expE_le xs n)
  generalize (sizeE xs n).2 = r2 at HE1 HE2 HE3
  generalize expE xs n = bs at HE1 HE2 HE3 Hle
  generalize byteE xs c = bt at HE4 HE5
  obtain ⟨t1, t2⟩ := bt
  simp only at HE4 HE5
  clear hs hw hl hn hc
  go_enter Try.func7, Try.ntmps7
  go_upto_region 1 with (fail)
  generalize World.alloc w _ = w1 at HB HG HM ⊢
  obtain ⟨q, hq⟩ : ∃ q, w.heap.size = q := ⟨_, rfl⟩
  rw [hq] at HB ⊢
  have c0 : w1.cell? ⟨q, 0, none⟩ = some (.slice A xs.length cap) := by rw [HB.out.cell]; rfl
  clear hq
  by_cases h7 : 700 < xs.length
  · rw [decide_eq_true h7] at HM
    go_wp2_with (first
      | (go_at_call 11; refine HM.out.mono ?_; rintro e w2 ⟨rfl, hg⟩; have HG2 := Lib.hid hg; clear hg)
      | (go_at_call 13; refine (works_any w2).mono ?_; rintro e w3 ⟨rfl, hg⟩; have HG3 := Lib.hid hg; clear hg))
    go_ret
    exact ⟨rfl, (HG.out.trans HG2.out (fun _ _ h => h)).trans HG3.out (fun _ _ h => h)⟩
  · rw [decide_eq_false h7] at HM
    go_upto_region 3 with (go_at_call 11; refine HM.out.mono ?_; rintro e w2 ⟨rfl, hg⟩; have HG2 := Lib.hid (HG.out.trans hg (fun _ _ h => h)); have HB2 := Lib.hid (HB.out.fr hg (fun h => h)); clear hg)
    have c2 : w2.cell? ⟨q, 0, none⟩ = some (.slice A xs.length cap) := by rw [HB2.out.cell]; rfl
    go_upto_region 4 with (go_at_call 19; refine (HE1.out _ HG2.out).mono ?_; rintro e w3 ⟨va, rfl, ho, hg, _⟩; have HO3 := Lib.hid ho; have HG3 := Lib.hid (HG2.out.trans hg (fun _ _ h => h)); have HB3 := Lib.hid (HB2.out.fr hg (fun h => h)); clear hg ho)
    have c3 : w3.cell? ⟨q, 0, none⟩ = some (.slice A xs.length cap) := by rw [HB3.out.cell]; rfl
    go_upto_region 5 with (go_at_call 23; refine (HE2.out _ HG3.out).mono ?_; rintro e w4 ⟨vb, rfl, ho, hg⟩; have HO4 := Lib.hid ho; have HO3' := Lib.hid (hg.owns HO3.out (fun _ _ h => h)); have HG4 := Lib.hid (HG3.out.trans hg (fun _ _ h => h)); have HB4 := Lib.hid (HB3.out.fr hg (fun h => h)); clear hg ho)
    have c4 : w4.cell? ⟨q, 0, none⟩ = some (.slice A xs.length cap) := by rw [HB4.out.cell]; rfl
    obtain ⟨Ab, cb, rfl⟩ := own_formN HO4.out
    go_upto_region 6 with (go_at_call 27; refine (HE3.out _ HG4.out).mono ?_; rintro e w5 ⟨rfl, hg⟩; have Hx5 := Lib.hid hg; have HG5 := Lib.hid (HG4.out.trans hg (fun _ _ h => h)); have HB5 := Lib.hid (HB4.out.fr hg (fun h => h)); clear hg)
    have c5 : w5.cell? ⟨q, 0, none⟩ = some (.slice A xs.length cap) := by rw [HB5.out.cell]; rfl
    go_upto_region 7 with (go_at_call 28; refine (HE4.out _ HG5.out).mono ?_; rintro e w6 ⟨rfl, hg⟩; have Hx6 := Lib.hid (Hx5.out.trans hg (fun _ _ h => h)); have HG6 := Lib.hid (HG5.out.trans hg (fun _ _ h => h)); have HB6 := Lib.hid (HB5.out.fr hg (fun h => h)); clear hg)
    have c6 : w6.cell? ⟨q, 0, none⟩ = some (.slice A xs.length cap) := by rw [HB6.out.cell]; rfl
    go_upto_region 8 with (go_at_call 29; refine (HE5.out _ HG6.out).mono ?_; rintro e w7 ⟨rfl, hg⟩; have Hx7 := Lib.hid (Hx6.out.trans hg (fun _ _ h => h)); have HG7 := Lib.hid (HG6.out.trans hg (fun _ _ h => h)); clear hg)
    have HSm := Lib.hid (same_any _ _ bs bs w7 ((SL.of_own (enc := encB) HO3'.out rfl).gr Hx7.out) ((SL.of_own (enc := encB) HO4.out rfl).gr Hx7.out) (by have := Hle.out; omega))
    rw [decide_eq_true rfl] at HSm
    go_wp2_with (first
      | (go_at_call 24; refine HSm.out.mono ?_; rintro e w8 ⟨rfl, hg⟩; have HG8 := Lib.hid (HG7.out.trans hg.gr (fun _ _ h => h)); clear hg)
      | (go_at_call 13; refine (works_any w8).mono ?_; rintro e w9 ⟨rfl, hg⟩; have HG9 := Lib.hid hg; clear hg))
    go_ret
    exact ⟨rfl, HG8.out.trans HG9.out (fun _ _ h => h)⟩
end Go.Proofs.Ytdogccgebgdlmaa
