/- vocfile: the law's works. -/
import Derived.Test.YtmjpghaggnpdbaaGWa
import Derived.Test.YtmjpghaggnpdbaaGWh
import Derived.Test.YtmjpghaggnpdbaaVPl
set_option linter.unusedVariables false
set_option linter.unusedSimpArgs false
namespace Go.Proofs.Ytmjpghaggnpdbaa
open Go.RowKit
open Voc Leb Crc
namespace Vf
theorem pls_checks : checkE (pls 256) = (0, 0) := by decide +kernel
theorem pls_wf : ∀ q ∈ pls 256, wfP q := by
  intro q hq
  unfold pls at hq
  obtain ⟨i, hi, rfl⟩ := List.mem_map.1 hq
  have : i < 256 := List.mem_range.1 hi
  refine ⟨?_, ?_, ?_, ?_⟩ <;> simp [pk, this, Lit.wf, IntKind.min, IntKind.max, IntKind.signed, IntKind.bits] <;> omega
theorem pls_file : (fileB (pls 256)).length = 524 := by decide +kernel
theorem magic_read : readE magic = ([], 6, 4) := by decide +kernel
set_option maxRecDepth 20000 in
set_option maxHeartbeats 4000000 in
theorem works_any (w : World) : Calls Try.prog 8 #[] w fun e w' => e = .returned (.bool true) ∧ Gr w w' := by
  have HP := Lib.hid (rplain_any w)
  have Hput := Lib.hid (show putE (pls 256) = (fileB (pls 256), 0) by unfold putE; rw [pls_checks]; rfl)
  have Hlen := Lib.hid pls_file
  have Hfb := Lib.hid (show Leb.Bs (fileB (pls 256)) from fileB_byte (form_of (good_of (by rw [pls_checks])) pls_wf))
  have Hrd := Lib.hid (show readE (fileB (pls 256)) = (pls 256, 0, 0) from read_put (by rw [pls_checks]) pls_wf)
  have Hpl := Lib.hid (pls_len 256)
  have Hwf := Lib.hid pls_wf
  have Hmg := Lib.hid magic_read
  have HU := Lib.hid (fun (w : World) (v : Value) (h : SL encP w v (pls 256)) => put_any h pls_wf (by rw [pls_len]; decide))
  simp only [Hput.out] at HU
  generalize fileB (pls 256) = fb at HU Hlen Hfb Hrd
  generalize pls 256 = ps at HP HU Hrd Hpl
  have kc := fun (w : World) (C : Array Value) (n c : Nat) => Lib.run_convert_bytes_const (P := Try.prog) w 22 5 C n c Try.underlying22 Try.underlying5
  clear Hwf
  go_enter Try.func8, Try.ntmps8
  go_upto_region 2 with (first
    | (go_at_call 21; refine HP.out.mono ?_; rintro e w1 ⟨sv, rfl, ho, hg⟩; have HS1 := Lib.hid (SL.of_own (enc := encP) ho Hpl.out.symm); have HG1 := Lib.hid hg; clear ho hg)
    | (go_at_call 13; refine (HU.out _ _ HS1.out).mono ?_; rintro e w2 ⟨tv, rfl, ho, hg⟩; have HO2 := Lib.hid ho.sl; have HG2 := Lib.hid (HG1.out.trans hg (fun _ _ h => h)); clear ho hg))
  have HGt := Lib.hid (get_any HO2.out Hfb.out (by rw [Hlen.out]; decide))
  obtain ⟨At, ct, rfl⟩ := SL.form HO2.out
  go_upto_region 3 with (go_at_call 9; refine HGt.out.mono ?_; rintro e w3 ⟨xv, rfl, ho, hg⟩; rw [Hrd.out] at ho ⊢; have HO3 := Lib.hid (SL.of_own (enc := encP) ho rfl); have HG3 := Lib.hid (HG2.out.trans hg (fun _ _ h => h)); clear ho hg; obtain ⟨Ax, cx, rfl⟩ := SL.form HO3.out)
  have HB3 := Lib.hid (Blk.new w3 26 #[.slice Ax ps.length cx])
  have HG4 := Lib.hid (HG3.out.alloc (.cells #[.slice Ax ps.length cx] 26))
  obtain ⟨q, hq⟩ : ∃ q, w3.heap.size = q := ⟨_, rfl⟩
  rw [hq] at HB3 ⊢
  clear hq
  generalize World.alloc w3 _ = w4 at HB3 HG4 ⊢
  have HMg := Lib.hid (Mg.new w4)
  have HGm := Lib.hid ((Fr.refl w4 NoneS).alloc (.cells #[.int .u8 115, .int .u8 116, .int .u8 111, .int .u8 111, .int .u8 107, .int .u8 118] 5 (6, 7)))
  have HSm := Lib.hid (show SL encB (w4.alloc (.cells #[.int .u8 115, .int .u8 116, .int .u8 111, .int .u8 111, .int .u8 107, .int .u8 118] 5 (6, 7))) (.slice (some ⟨w4.heap.size, 0, none⟩) 6 6) magic from
    ⟨_, 6, rfl, Nat.le_refl _, fun _ => ⟨w4.heap.size, 0, rfl, by simp, fun i u hu => by rw [Nat.zero_add]; exact HMg.out i u hu⟩⟩)
  have HGu := Lib.hid (get_any HSm.out (by intro c hc; simp [magic] at hc; omega) (by decide))
  go_upto_region 4 with (go_at_call 9; refine HGu.out.mono ?_; rintro e w5 ⟨yv, rfl, ho, hg⟩; rw [Hmg.out] at ho ⊢; have HO5 := Lib.hid (SL.of_own (enc := encP) ho rfl); have HG5 := Lib.hid (HGm.out.trans hg (fun _ _ h => h)); clear ho hg; obtain ⟨Ay, cy, rfl⟩ := SL.form HO5.out)
  have HB6 := Lib.hid ((HB3.out.fr HG5.out (fun h => h)).alloc (.cells #[.slice Ay 0 cy] 26))
  have HG6 := Lib.hid ((HG4.out.trans HG5.out (fun _ _ h => h)).alloc (.cells #[.slice Ay 0 cy] 26))
  have c6 : (w5.alloc (.cells #[.slice Ay 0 cy] 26)).cell? ⟨q, 0, none⟩ = some (.slice Ax ps.length cx) := by rw [HB6.out.cell]; rfl
  have l1 : ((fb.length : Int) == 524) = true := by rw [Hlen.out]; rfl
  have l2 : ((ps.length : Int) == 256) = true := by rw [Hpl.out]; rfl
  have l1' : (fb.length == 524) = true := by rw [Hlen.out]; rfl
  have l2' : (ps.length == 256) = true := by rw [Hpl.out]; rfl
  go_wp2_with fail
  go_ret
  exact ⟨rfl, HG6.out⟩
end Vf
end Go.Proofs.Ytmjpghaggnpdbaa
