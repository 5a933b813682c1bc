/- The walk of VocabPlain. -/
import Derived.Test.YtdogccgebgdlmaaVWk
import Derived.Test.YtdogccgebgdlmaaFplain
import Derived.Test.YtdogccgebgdlmaaFvocq
set_option linter.unusedVariables false
set_option linter.unusedSimpArgs false
namespace Go.Proofs.Ytdogccgebgdlmaa
open Go.RowKit
open Voc
set_option maxRecDepth 20000 in
set_option maxHeartbeats 1600000 in
theorem VocabPlain_walk (w : World) (by_ : Int) (hwf : (Lit.int .u8 by_).wf = true) :
    Calls Try.prog 4 #[.int .u8 by_] w fun e w' => e = .returned (.bool true) ∧ Gr w w' := by
  have Hp := Lib.hid (plain_any w)
  clear hwf
  go_enter Try.func4, Try.ntmps4
  go_upto_region 2 with (go_at_call 15; refine Hp.out.mono ?_; rintro e w1 ⟨g, rfl, hg1, hg2, hg3⟩; have HP1 := Lib.hid (And.intro hg1 (And.intro hg2 hg3)); clear hg1 hg2 hg3)
  have Hgp := Lib.hid (show g < w1.heap.size from HP1.out.2.1.lt)
  have HB2 := Lib.hid (Blk.new w1 24 #[.slice (some ⟨g, 0, none⟩) 256 256])
  have HG2 := Lib.hid (HP1.out.2.2.alloc (.cells #[.slice (some ⟨g, 0, none⟩) 256 256] 24))
  have HO2 := Lib.hid (HP1.out.2.1.alloc (.cells #[.slice (some ⟨g, 0, none⟩) 256 256] 24))
  obtain ⟨p, hp⟩ : ∃ p, w1.heap.size = p := ⟨_, rfl⟩
  rw [hp] at HB2 Hgp ⊢
  clear hp
  generalize World.alloc w1 _ = w2 at HB2 HG2 HO2 ⊢
  go_wp2_with fail
  go_loopg [4] 257 (fun m s4 wr => ∃ (k : Nat) (cs : Array Value), s4 = .int .i64 k ∧ Hid (k ≤ 256 ∧ 256 - k < m) ∧ Hid (Blk wr p 24 #[.slice (some ⟨g, 0, none⟩) 256 256] ∧ Blk wr g TPc cs ∧ cs.size = 1280 ∧ Gr w wr))
  case atStart => exact ⟨0, _, rfl, ⟨by omega, by omega⟩, HB2.out, HO2.out, pcells_size 256, HG2.out⟩
  case round =>
    obtain ⟨k, cs, rfl, HK, HP⟩ := hrel
    have c0 : wr.cell? ⟨p, 0, none⟩ = some (.slice (some ⟨g, 0, none⟩) 256 256) := by rw [HP.out.1.cell]; rfl
    by_cases hk : k < 256
    · have hki : (k : Int) < 256 := by omega
      have hsome : ∃ u, wr.cell? ⟨g, k * 5 + 1, none⟩ = some u := by
        rw [HP.out.2.1.cell]
        have : k * 5 + 1 < cs.size := by rw [HP.out.2.2.1]; omega
        exact ⟨_, Array.getElem?_eq_getElem this⟩
      obtain ⟨u, hu⟩ := hsome
      have hf := HP.out.2.1.frozen (k * 5 + 1)
      go_wp2_with fail
      go_roundg (gk - 1)
      case measure => have := HK.out; omega
      case rel =>
        exact ⟨k + 1, _, by go_num, ⟨by omega, by have := HK.out; omega⟩, HP.out.1.far (p := ⟨g, k * 5 + 1, none⟩) (by have := Hgp.out; simp only; omega) _, HP.out.2.1.set_ (k * 5 + 1) _, by rw [Array.size_setIfInBounds]; exact HP.out.2.2.1, HP.out.2.2.2.setCell (p := ⟨g, k * 5 + 1, none⟩) (fun h => by have := HP1.out.1; simp only at h; omega) _⟩
    · obtain rfl : k = 256 := by have := HK.out; omega
      have HPa := Lib.hid (fun w => plain_any w)
      have HPb := Lib.hid (fun w => rplain_any w)
      go_wp2_with (go_at_call 15; refine (HPa.out wr).mono ?_; rintro e w3 ⟨g3, rfl, hg1, hg2, hg3⟩; have HP3 := Lib.hid (And.intro hg1 (And.intro hg2 hg3)); clear hg1 hg2 hg3)
      refine (HPb.out w3).mono ?_
      rintro e w4 ⟨sv, rfl, ho, hg⟩
      have HO4 := Lib.hid ho
      have HG4 := Lib.hid hg
      clear ho hg
      have HS3 := Lib.hid (SL.of_own (xs := pls 256) (pls_own (HP3.out.2.1.fr HG4.out (fun h => h)) (Nat.zero_le _)) rfl)
      have HS4 := Lib.hid (SL.of_own (xs := pls 256) HO4.out rfl)
      go_wp2_with fail
      refine (vocab_any HS3.out HS4.out (by rw [pls_len]; omega)).mono ?_
      rintro e w5 ⟨rfl, hg⟩
      have HG5 := Lib.hid hg
      clear hg
      simp only [decide_true]
      go_wp2_with fail
      refine (works_any w5).mono ?_
      rintro e w6 ⟨rfl, hg⟩
      have HG6 := Lib.hid hg
      clear hg
      go_wp2_with fail
      go_ret
      exact ⟨rfl, (((HP.out.2.2.2.trans HP3.out.2.2 (fun _ _ h => h)).trans HG4.out (fun _ _ h => h)).trans HG5.out (fun _ _ h => h)).trans HG6.out (fun _ _ h => h)⟩
end Go.Proofs.Ytdogccgebgdlmaa
