/- vocab.Size. -/
import Derived.Test.YtdogccgebgdlmaaVTa
set_option linter.unusedVariables false
set_option linter.unusedSimpArgs false
namespace Go.Proofs.Ytdogccgebgdlmaa
open Go.RowKit
namespace Voc
set_option maxRecDepth 20000 in
theorem size_any {w : World} {v : Value} {xs : List Pc} (n : Int) (HS : SL encP w v xs) (hw : ∀ q ∈ xs, wfP q) (hl : xs.length ≤ 1048576) :
    Calls Try.prog 27 #[.agg #[v], .int .i64 n] w fun e w' => e = .returned (.tuple #[.int .i64 (sizeE xs n).1, .int .i64 (sizeE xs n).2]) ∧ Gr w w' := by
  obtain ⟨⟨E, at_⟩, hE⟩ : ∃ x, checkE xs = x := ⟨_, rfl⟩
  obtain ⟨⟨r1, r2⟩, hr⟩ : ∃ x, sizeE xs n = x := ⟨_, rfl⟩
  rw [hr]
  simp only
  unfold sizeE at hr
  rw [hE] at hr
  simp only at hr
  obtain ⟨A, cap, rfl⟩ := SL.form HS
  have HG := Lib.hid ((Fr.refl w NoneS).alloc (.cells #[.slice A xs.length cap] 24))
  have HB := Lib.hid (Blk.new w 24 #[.slice A xs.length cap])
  have HL := Lib.hid (look_any (HS.gr HG.out) hw hl E at_ hE)
  have Hr := Lib.hid hr
  clear HS hw hE hr hl
  go_enter Try.func27, Try.ntmps27
  generalize hx : World.alloc w (.cells #[.slice A xs.length cap] 24) = wa at HG HL HB
  have f0 : wa.cell? ⟨w.heap.size, 0, none⟩ = some (.slice A xs.length cap) := by rw [HB.out.cell]; rfl
  have HX := Lib.hid hx
  clear hx
  by_cases h0 : E = 0
  · subst h0
    go_upto_region 4 with (go_at_call 36; rw [HX.out]; refine HL.out.mono ?_; rintro e w3 ⟨hg, ⟨h0, rfl⟩ | ⟨h0, h1, p, rfl, hsn⟩⟩ <;> have HG3 := Lib.hid hg <;> clear hg)
    · exact absurd rfl h0
    clear HL
    obtain ⟨b1, b2, b3, sv, hsn⟩ := hsn
    have HSN := Lib.hid hsn
    clear hsn
    have fq : w3.cell? ⟨w.heap.size, 0, none⟩ = some (.slice A xs.length cap) := (HG3.out.cell (p := ⟨w.heap.size, 0, none⟩) HB.out.lt (fun h => h)).trans f0
    have h := Hr.out
    rw [if_neg (by simp)] at h
    by_cases hr : n < 0 ∨ (xs.length : Int) ≤ n
    · rw [if_pos hr] at h
      injection h with e1 e2
      subst e1 e2
      have Hrr := Lib.hid hr
      clear hr Hr f0
      go_wp2_with fail
      all_goals first
        | (go_ret2; exact ⟨rfl, HG.out.trans HG3.out (fun _ _ h => h)⟩)
        | (exfalso; have := Hrr.out; omega)
    · rw [if_neg hr] at h
      injection h with e1 e2
      subst e2
      have He1 := Lib.hid e1
      obtain ⟨i, rfl⟩ : ∃ i : Nat, n = i := ⟨n.toNat, by omega⟩
      have hi : i < xs.length := by omega
      have hi2 : ¬ ((xs.length : Int) ≤ (i : Int)) := by omega
      have hi0 : ¬ ((i : Int) < 0) := by omega
      have hi3 : (i : Int) < xs.length := by omega
      obtain ⟨g, cz, hsv, hsc⟩ := HSN.out.sizes hi
      have c0 := HSN.out.cells.1
      rw [hsv] at c0
      have sa := hsc i hi
      rw [e1] at sa
      clear hsc hr Hr f0 e1 hsv
      go_wp2_with fail
      go_ret2
      exact ⟨rfl, HG.out.trans HG3.out (fun _ _ h => h)⟩
  · have H0 := Lib.hid h0
    go_wp2_with (go_at_call 36; rw [HX.out]; refine HL.out.mono ?_; rintro e w3 ⟨hg, ⟨h0, rfl⟩ | ⟨h0, h1, p, rfl, hsn⟩⟩ <;> have HG3 := Lib.hid hg <;> clear hg)
    all_goals first
      | (exfalso; exact H0.out h0)
      | (go_ret2
         have h := Hr.out
         rw [if_pos H0.out] at h
         injection h with h1 h2
         subst h1 h2
         exact ⟨rfl, HG.out.trans HG3.out (fun _ _ h => h)⟩)
end Voc
end Go.Proofs.Ytdogccgebgdlmaa
