/- sha: works. -/
import Derived.Test.YtfpgfnmidkkgjaaHWh
set_option linter.unusedVariables false
set_option linter.unusedSimpArgs false
namespace Go.Proofs.Ytfpgfnmidkkgjaa
open Go.RowKit
namespace Sha

set_option maxRecDepth 100000 in
theorem abc_sum : (txt (sum [97, 98, 99])).map BitVec.toNat = [98, 97, 55, 56, 49, 54, 98, 102, 56, 102, 48, 49, 99, 102, 101, 97, 52, 49, 52, 49, 52, 48, 100, 101, 53, 100, 97, 101, 50, 50, 50, 51, 98, 48, 48, 51, 54, 49, 97, 51, 57, 54, 49, 55, 55, 97, 57, 99, 98, 52, 49, 48, 102, 102, 54, 49, 102, 50, 48, 48, 49, 53, 97, 100] := by decide +kernel
set_option maxRecDepth 100000 in
theorem abc_str : str (txt (sum [97, 98, 99])) = ⟨#[98, 97, 55, 56, 49, 54, 98, 102, 56, 102, 48, 49, 99, 102, 101, 97, 52, 49, 52, 49, 52, 48, 100, 101, 53, 100, 97, 101, 50, 50, 50, 51, 98, 48, 48, 51, 54, 49, 97, 51, 57, 54, 49, 55, 55, 97, 57, 99, 98, 52, 49, 48, 102, 102, 54, 49, 102, 50, 48, 48, 49, 53, 97, 100]⟩ := by
  have h : txt (sum [97, 98, 99]) = ((txt (sum [97, 98, 99])).map BitVec.toNat).map (BitVec.ofNat 8) := by
    have e : (BitVec.ofNat 8 ∘ BitVec.toNat : B → B) = id := by funext x; simp
    rw [List.map_map, e, List.map_id]
  rw [h, abc_sum]
  rfl

/-- '[]byte' of a constant: the new block is marked, the slice stands -/
theorem convert_mark (w : World) (cs : Array Value) (l c : Nat) :
    (convert TS8 TS8 (.slice (some ⟨w.heap.size, 0, none⟩) l c)).run Try.prog (w.alloc (.cells cs TU8)) = .ok (.slice (some ⟨w.heap.size, 0, none⟩) l c) (w.alloc (.cells cs TU8 (cs.size, cs.size + 1))) := by
  have h1 : (w.alloc (.cells cs TU8)).shape? w.heap.size = some (TU8, cs.size) := by
    unfold World.shape?
    rw [heap_alloc_last]
  have h2 : (w.alloc (.cells cs TU8)).freeze ⟨w.heap.size, cs.size, none⟩ 1 = w.alloc (.cells cs TU8 (cs.size, cs.size + 1)) := by
    unfold World.freeze
    rw [if_neg (by decide)]
    simp only [World.alloc]
    congr 1
    apply Array.ext_getElem?
    intro i
    rw [Array.getElem?_modify]
    by_cases h : w.heap.size = i
    · subst h; simp
    · have h' : ¬ i = w.heap.size := fun e => h e.symm
      simp [h, h', Array.getElem?_push]
  simp [convert, run_underlying Try.underlying28, run_underlying Try.underlying5, markStringish, h1]
  exact h2

set_option maxHeartbeats 1600000 in
set_option maxRecDepth 100000 in
theorem works_any (w : World) : Calls Try.prog 12 #[] w fun e w' => e = .returned (.bool true) ∧ Gr w w' := by
  have HG0 := Lib.hid ((Fr.refl w NoneS).alloc (.cells (brr [97, 98, 99]) TU8 (3, 4)))
  have HS := Lib.hid (sum_any (.slice (some ⟨w.heap.size, 0, none⟩) 3 3) [97, 98, 99] (w.alloc (.cells (brr [97, 98, 99]) TU8 (3, 4)))
    (by
      have h := SL.of_own (enc := eb) (own_blk (Blk.new w TU8 (brr [97, 98, 99])) (Nat.zero_le _) (by decide)) rfl
      obtain ⟨A, c, e, hc, hr⟩ := h
      obtain ⟨b, off, rfl, hb, hcell⟩ := hr (by simp)
      refine ⟨_, _, e, hc, fun _ => ⟨b, off, rfl, by simpa using hb, fun i u hu => ?_⟩⟩
      rw [← hcell i u hu]
      obtain ⟨⟨rfl, rfl⟩, _⟩ : (w.heap.size = b ∧ 0 = off) ∧ 3 = c := by simpa using e
      rw [cell_of_row _ _ _ _ _ _ (heap_alloc_last _ _), cell_of_row _ _ _ _ _ _ (heap_alloc_last _ _)]) (by decide))
  have HT := Lib.hid (fun w => text_any (sum [97, 98, 99]) (sum_len _) w)
  rw [abc_str] at HT
  generalize sum [97, 98, 99] = S at HS HT
  have hcv : (convert TS8 TS8 (.slice (some ⟨w.heap.size, 0, none⟩) 3 3)).run Try.prog (w.alloc (.cells #[.int .u8 97, .int .u8 98, .int .u8 99] TU8)) = .ok (.slice (some ⟨w.heap.size, 0, none⟩) 3 3) (w.alloc (.cells (brr [97, 98, 99]) TU8 (3, 4))) := convert_mark w (brr [97, 98, 99]) 3 3
  go_enter Try.func12, Try.ntmps12
  go_wp2_with (first
    | (go_at_call 13; refine HS.out.mono ?_; rintro e w2 ⟨rfl, hg2⟩; have HG2 := Lib.hid hg2; clear hg2)
    | (go_at_call 27; refine (HT.out _).mono ?_; rintro e w3 ⟨rfl, hg3⟩; have HG3 := Lib.hid hg3; clear hg3))
  go_ret
  exact ⟨rfl, (HG0.out.trans HG2.out (fun _ _ h => h)).trans HG3.out (fun _ _ h => h)⟩
end Sha
end Go.Proofs.Ytfpgfnmidkkgjaa
