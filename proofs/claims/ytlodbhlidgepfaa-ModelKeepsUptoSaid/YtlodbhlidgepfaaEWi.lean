/- bpe: Encode and Decode of whatever vocabulary. -/
import Derived.Test.YtlodbhlidgepfaaEWe
import Derived.Test.YtlodbhlidgepfaaEWg
set_option linter.unusedVariables false
set_option linter.unusedSimpArgs false
namespace Go.Proofs.Ytlodbhlidgepfaa
open Go.RowKit
open Voc
namespace Bpe
set_option maxRecDepth 100000 in
set_option maxHeartbeats 1600000 in
theorem encode_no {w : World} {v vb : Value} {xs : List Pc} {bs : List Int} (HS : SL encP w v xs) (HV : SL encB w vb bs) (hw : ∀ q ∈ xs, wfP q) (hl : xs.length ≤ 1048576) (hc : (checkE xs).1 ≠ 0) :
    Calls Try.prog 26 #[.agg #[v], vb] w fun e w' => e = .returned (.tuple #[nilS, .int .i64 11]) ∧ Gr w w' := by
  obtain ⟨A, cap, rfl⟩ := SL.form HS
  obtain ⟨A2, cap2, rfl⟩ := SL.form HV
  have HG := Lib.hid ((Fr.refl w NoneS).alloc (.cells #[.slice A xs.length cap] 27))
  have HB := Lib.hid (Blk.new w 27 #[.slice A xs.length cap])
  have HO := Lib.hid (open_no (HS.gr HG.out) hw hl hc)
  clear HS HV hw hl hc
  go_enter Try.func26, Try.ntmps26
  go_upto_region 1 with (fail)
  go_step3
  go_upto_region 1 with (fail)
  generalize w.heap.size = q1 at HB ⊢
  generalize World.alloc w _ = wa at HG HB HO ⊢
  have f0 : wa.cell? ⟨q1, 0, none⟩ = some (.slice A xs.length cap) := by rw [HB.out.cell]; rfl
  go_wp2_with (go_at_call 42; refine HO.out.mono ?_; rintro e w3 ⟨rfl, hg⟩; have HG3 := Lib.hid hg; clear hg)
  rw [Exit.noGoto_ret]
  go_ret2
  exact ⟨rfl, HG.out.trans HG3.out (fun _ _ h => h)⟩
set_option maxRecDepth 100000 in
set_option maxHeartbeats 1600000 in
theorem encode_long {w : World} {v vb : Value} {xs : List Pc} {bs : List Int} (HS : SL encP w v xs) (HV : SL encB w vb bs) (hw : ∀ q ∈ xs, wfP q) (hl : xs.length ≤ 1048576) (hc : (checkE xs).1 = 0) (hb : 4096 < bs.length) :
    Calls Try.prog 26 #[.agg #[v], vb] w fun e w' => e = .returned (.tuple #[nilS, .int .i64 3]) ∧ Gr w w' := by
  obtain ⟨A, cap, rfl⟩ := SL.form HS
  obtain ⟨A2, cap2, rfl⟩ := SL.form HV
  have HG := Lib.hid ((Fr.refl w NoneS).alloc (.cells #[.slice A xs.length cap] 27))
  have HB := Lib.hid (Blk.new w 27 #[.slice A xs.length cap])
  have HO := Lib.hid (open_yes (HS.gr HG.out) hw hl hc)
  have hbi : (4096 : Int) < bs.length := by omega
  clear HS HV hw hl hc hb
  go_enter Try.func26, Try.ntmps26
  go_upto_region 1 with (fail)
  go_step3
  go_upto_region 1 with (fail)
  generalize w.heap.size = q1 at HB ⊢
  generalize World.alloc w _ = wa at HG HB HO ⊢
  have f0 : wa.cell? ⟨q1, 0, none⟩ = some (.slice A xs.length cap) := by rw [HB.out.cell]; rfl
  go_wp2_with (go_at_call 42; refine HO.out.mono ?_; rintro e w3 ⟨p, b, rfl, _, hg⟩; have HG3 := Lib.hid hg; clear hg)
  rw [Exit.noGoto_ret]
  go_ret2
  exact ⟨rfl, HG.out.trans HG3.out (fun _ _ h => h)⟩
theorem encode_any {w : World} {v vb : Value} {xs : List Pc} {bs : List Int} (HS : SL encP w v xs) (HV : SL encB w vb bs) (hw : ∀ q ∈ xs, wfP q) (hb : ∀ c ∈ bs, 0 ≤ c ∧ c < 256) (hl : xs.length ≤ 1048576) :
    Calls Try.prog 26 #[.agg #[v], vb] w fun e w' => ∃ r, e = .returned (.tuple #[r, .int .i64 (encE xs bs).2]) ∧ OI w' w.heap.size r (encE xs bs).1 ∧ Gr w w' := by
  unfold encE
  by_cases hc : (checkE xs).1 = 0
  · rw [if_neg (by rw [hc]; decide)]
    by_cases h4 : 4096 < bs.length
    · rw [if_pos h4]
      exact (encode_long HS HV hw hl hc h4).mono fun e w' ⟨h1, h2⟩ => ⟨_, h1, OI.nil _ _, h2⟩
    · rw [if_neg h4]
      exact encode_yes HS HV hw hb hl hc (by omega)
  · rw [if_pos hc]
    exact (encode_no HS HV hw hl hc).mono fun e w' ⟨h1, h2⟩ => ⟨_, h1, OI.nil _ _, h2⟩
end Bpe
end Go.Proofs.Ytlodbhlidgepfaa
