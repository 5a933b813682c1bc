/- sha: Sum of bytes, Text. -/
import Derived.Test.YtmjpghaggnpdbaaHWf
set_option linter.unusedVariables false
set_option linter.unusedSimpArgs false
namespace Go.Proofs.Ytmjpghaggnpdbaa
open Go.RowKit
namespace Sha

set_option maxHeartbeats 1600000 in
set_option maxRecDepth 100000 in
theorem sum_any (v : Value) (all : List B) (w : World) (hs : SL eb w v all) (hn : all.length ≤ 4194304) :
    Calls Try.prog 39 #[v] w fun e w' => e = .returned (.agg (brr (sum all))) ∧ Gr w w' := by
  have HS := Lib.hid hs
  have Hn := Lib.hid hn
  clear hs hn
  obtain ⟨A, cap, rfl, _⟩ := HS.out.len
  have HG0 := Lib.hid ((Fr.refl w NoneS).alloc (.cells (brr (List.replicate 32 (0 : B))) TD))
  go_enter Try.func39, Try.ntmps39
  go_upto_region 1 with (fail)
  change Code.wp _ _ _ _ (w.alloc (.cells (brr (List.replicate 32 (0 : B))) TD))
  have HB2 := Lib.hid (Blk.new w TD (brr (List.replicate 32 (0 : B))))
  generalize hp2 : w.heap.size = p2 at HB2 ⊢
  have Hp2 := Lib.hid (show w.heap.size ≤ p2 by rw [hp2]; exact Nat.le_refl _)
  clear hp2
  generalize World.alloc w _ = w1 at HB2 HG0 ⊢
  go_upto_region 2 with (go_at_call 51; refine (new_any _).mono ?_; rintro e w2 ⟨p, rfl, hh2, hg2⟩; have HH2 := Lib.hid hh2; have HG2 := Lib.hid hg2; clear hh2 hg2)
  have HT := Lib.hid (take_any (H := HH2.out) _ ((HS.out.gr HG0.out).gr HG2.out) (fun h0 h => by have h1 := HS.out.lt h0 _ h; have h2 := HH2.out.bs; have h3 := HG0.out.size; omega) (by simp) Hn.out (by omega) HG2.out.size)
  go_upto_region 3 with (go_at_call 52; refine HT.out.mono ?_; rintro e w3 ⟨rfl, lv3, hh3, hf3, ho3⟩; have HH3 := Lib.hid hh3; have HF3 := Lib.hid hf3; clear hh3 hf3 ho3)
  have HG3 := Lib.hid (show Gr w1 w3 from HG2.out.trans HF3.out (fun k hk hs => by
    rcases hs with rfl | hs
    · have := HH2.out.bs; omega
    · simp [Value.ownBlock] at hs))
  have HB3 := Lib.hid (HB2.out.fr HG3.out (fun h => h))
  have HX := Lib.hid (show HSt w3 w1.heap.size p lv3 all from by
    have h := HH3.out
    have e1 := take_stt [] all
    have e2 := take_rem [] all
    rw [rem_nil, stt_nil] at e1
    rw [rem_nil] at e2
    rw [e1, e2, List.nil_append, Nat.zero_add] at h
    exact h)
  have HSm := Lib.hid (hsum_any HX.out Hn.out)
  have Hdl := Lib.hid (sum_len all)
  go_wp2_with (first
    | (go_at_call 53; refine HSm.out.mono ?_; rintro e w4 ⟨rfl, hg4⟩; have HG4 := Lib.hid hg4; have HB4 := Lib.hid (HB3.out.fr hg4 (fun h => h)); clear hg4)
    | refine wpList_store_row rfl _ _ _ rfl p2 (brr (sum all)) rfl rfl TD _ HB4.out (by rw [brr_size, Hdl.out]; kernel_rfl) (by rw [brr_size, brr_size, Hdl.out]; rfl) (brr_one _) ?_)
  refine bodyPost_ret (results_cell_row Try.results39 _ _ p2 TD (brr (sum all)) (0, 0) _ rfl (blk_setRow HB4.out _) Try.underlying67 rfl (by rw [brr_size, Hdl.out]; kernel_rfl)) rfl ?_
  exact ⟨rfl, fr_setRow ((HG0.out.trans HG3.out (fun _ _ h => h)).trans HG4.out (fun _ _ h => h)) (fun h => by have := Hp2.out; omega) _⟩
end Sha
end Go.Proofs.Ytmjpghaggnpdbaa
