/- vocfile: the reader's end. -/
import Derived.Test.YtmjpghaggnpdbaaGWd
import Derived.Test.YtmjpghaggnpdbaaGSt
import Derived.OrdersHeld
set_option linter.unusedVariables false
set_option linter.unusedSimpArgs false
namespace Go.Proofs.Ytmjpghaggnpdbaa
open Go.RowKit
open Voc Leb Crc
namespace Vf
def endR (b : List Int) (s : Nat) : R Unit :=
  if b.length < s + 4 then .bad 4 b.length
  else if (b.drop s).take 4 ≠ four (crcN (b.take s)) then .bad 6 s
  else if s + 4 < b.length then .bad 5 (s + 4)
  else .ok () s
set_option maxRecDepth 20000 in
set_option maxHeartbeats 8000000 in
theorem end_any {w : World} {p : Nat} {v : Value} {bs : List Int} {a : Nat} (HR : Rd w p v a) (HS : SL encB w v bs) (hb : Leb.Bs bs) (ha : a ≤ bs.length) (hl : bs.length ≤ 1048576) (r : R Unit) (hr : endR bs a = r) :
    Calls Try.prog 25 #[.pointer (some ⟨p, 0, none⟩)] w (RP (fun _ => .tuple #[]) w p v r) := by
  obtain ⟨A, cap, rfl⟩ := SL.form HS
  have HR1 := Lib.hid HR
  have HS1 := Lib.hid HS
  have Hb := Lib.hid hb
  have c0 : w.cell? ⟨p, 0, none⟩ = some (.slice A bs.length cap) := by rw [Blk.cell HR]; rfl
  have c1 : w.cell? ⟨p, 1, none⟩ = some (.int .i64 (a : Int)) := by rw [Blk.cell HR]; rfl
  have hl' : (bs.length : Int) ≤ 1048576 := by omega
  have ha' : (a : Int) ≤ bs.length := by omega
  have Hr := Lib.hid hr
  clear hr HR HS hb
  by_cases h4 : bs.length < a + 4
  · have e1 : decide ((bs.length : Int) - (a : Int) < 4) = true := decide_eq_true (by omega)
    have Hr2 := Lib.hid (show r = .bad 4 bs.length by rw [← Hr.out]; unfold endR; rw [if_pos h4])
    clear h4
    go_enter Try.func25, Try.ntmps25
    go_upto_region 0 with (fail)
    go_quiet (fail)
    go_wp2_with fail
    refine ⟨rfl, ?_⟩
    rw [Hr2.out]
    exact ⟨rfl, (Fr.refl w _).drewN _⟩
  · have e1 : decide ((bs.length : Int) - (a : Int) < 4) = false := decide_eq_false (by omega)
    have hlt : a < bs.length := by omega
    obtain ⟨b1, o1, rfl, hb1, hc1⟩ := HS1.out.at_ (s := 1) (fun _ => rfl) rfl hlt
    clear hc1
    have hcap : bs.length ≤ cap := by obtain ⟨_, _, hv, hc, _⟩ := HS1.out; injection hv with _ a b; omega
    have h4' : (a : Int) + 4 ≤ bs.length := by omega
    have w4 : IntKind.i64.wrap ((a : Int) + 4) = (a : Int) + 4 := IntWalk.i64_in _ (by omega)
    obtain ⟨i0, hi0, hz0, hz1, hz2⟩ := info_parts info_u8
    have Hmid := Lib.hid (fun w (h : SL encB w (.slice (some ⟨b1, o1, none⟩) bs.length cap) bs) => (show SL encB w (.slice (some ⟨b1, o1 + a, none⟩) 4 4) ((bs.drop a).take 4) from by
      have := sl_mid (lo := a) (k := 4) h (fun _ => rfl) (by omega)
      simpa [addr_add] using this))
    have Hmb := Lib.hid (show Leb.Bs ((bs.drop a).take 4) from fun c hc => Hb.out c (List.mem_of_mem_drop (List.mem_of_mem_take hc)))
    have Hml := Lib.hid (show ((bs.drop a).take 4).length = 4 by rw [List.length_take, List.length_drop]; omega)
    have Htk := Lib.hid (fun w (h : SL encB w (.slice (some ⟨b1, o1, none⟩) bs.length cap) bs) => (show SL encB w (.slice (some ⟨b1, o1, none⟩) a a) (bs.take a) from by
      have h2 := SL.take (k := a) h (by omega)
      obtain ⟨A', c', hv, hc, hr⟩ := h2
      injection hv with q1 q2 q3
      subst q1
      exact ⟨_, a, by rw [← q2], by rw [← q2]; exact Nat.le_refl _, hr⟩))
    have Htb := Lib.hid (show Leb.Bs (bs.take a) from fun c hc => Hb.out c (List.mem_of_mem_take hc))
    have s1 := fun w => run_slice_to3 (P := Try.prog) 22 5 i0 Try.underlying22 hi0 (some ⟨b1, o1, none⟩) bs.length cap a a (Nat.le_refl _) (by omega) w
    have s2 : ∀ w, (Instr.slice 22 (.slice (some ⟨b1, o1, none⟩) bs.length cap) (some (.int .i64 (a : Int))) (some (.int .i64 ((a : Int) + 4))) (some (.int .i64 ((a : Int) + 4)))).run Try.prog w = .ok (.slice (some ⟨b1, o1 + a, none⟩) 4 4) w := fun w => by
      have := run_slice_mid3 (P := Try.prog) 22 5 i0 1 Try.underlying22 hi0 hz1 (some ⟨b1, o1, none⟩) bs.length cap a 4 ((a : Int) + 4) rfl (by omega) w
      simpa [addr_add] using this
    go_enter Try.func25, Try.ntmps25
    go_upto_region 0 with (fail)
    go_quiet (fail)
    go_upto_region 2 with (fail)
    refine wp_region_held_drew (S := fun wx => wx.cell? ⟨p, 0, none⟩ = some (.slice (some ⟨b1, o1, none⟩) bs.length cap) ∧ wx.cell? ⟨p, 1, none⟩ = some (.int .i64 (a : Int)) ∧ Hid (SL encB wx (.slice (some ⟨b1, o1, none⟩) bs.length cap) bs)) (by kernel_rfl) ⟨c0, c1, HS1⟩ (fun hHeld => ?_)
    refine wpAnyH_take (i := 0) (v := (.pointer (some ⟨p, 0, none⟩))) rfl (by kernel_rfl) (by kernel_rfl) (by kernel_rfl) (fun _ _ _ h => h) (Or.inl ⟨by kernel_rfl, ?_⟩) (by with_reducible assumption) ?_
    focus (intro w hSw; (try dsimp only at hSw); obtain ⟨e0, e1, hs⟩ := hSw; go_simp)
    try simp only [Act.put, List.getElem_toArray, List.getElem_cons_succ, List.getElem_cons_zero, List.setIfInBounds_toArray, List.set_cons_zero, List.set_cons_succ]
    refine wpAnyH_take (i := 1) (v := (.pointer (some ⟨p, 0, none⟩))) rfl (by kernel_rfl) (by kernel_rfl) (by kernel_rfl) (fun _ _ _ h => h) (Or.inl ⟨by kernel_rfl, ?_⟩) (by with_reducible assumption) ?_
    focus (intro w hSw; (try dsimp only at hSw); obtain ⟨e0, e1, hs⟩ := hSw; go_simp)
    try simp only [Act.put, List.getElem_toArray, List.getElem_cons_succ, List.getElem_cons_zero, List.setIfInBounds_toArray, List.set_cons_zero, List.set_cons_succ]
    refine wpAnyH_take (i := 2) (v := (.pointer (some ⟨p, 0, none⟩))) rfl (by kernel_rfl) (by kernel_rfl) (by kernel_rfl) (fun _ _ _ h => h) (Or.inl ⟨by kernel_rfl, ?_⟩) (by with_reducible assumption) ?_
    focus (intro w hSw; (try dsimp only at hSw); obtain ⟨e0, e1, hs⟩ := hSw; go_simp)
    try simp only [Act.put, List.getElem_toArray, List.getElem_cons_succ, List.getElem_cons_zero, List.setIfInBounds_toArray, List.set_cons_zero, List.set_cons_succ]
    refine wpAnyH_take (i := 3) (v := (.slice (some ⟨b1, o1, none⟩) bs.length cap)) rfl (by kernel_rfl) (by kernel_rfl) (by kernel_rfl) (fun _ _ _ h => h) (Or.inl ⟨by kernel_rfl, ?_⟩) (by with_reducible assumption) ?_
    focus (intro w hSw; (try dsimp only at hSw); obtain ⟨e0, e1, hs⟩ := hSw; go_simp)
    try simp only [Act.put, List.getElem_toArray, List.getElem_cons_succ, List.getElem_cons_zero, List.setIfInBounds_toArray, List.set_cons_zero, List.set_cons_succ]
    refine wpAnyH_take (i := 4) (v := (.pointer (some ⟨p, 0, none⟩))) rfl (by kernel_rfl) (by kernel_rfl) (by kernel_rfl) (fun _ _ _ h => h) (Or.inl ⟨by kernel_rfl, ?_⟩) (by with_reducible assumption) ?_
    focus (intro w hSw; (try dsimp only at hSw); obtain ⟨e0, e1, hs⟩ := hSw; go_simp)
    try simp only [Act.put, List.getElem_toArray, List.getElem_cons_succ, List.getElem_cons_zero, List.setIfInBounds_toArray, List.set_cons_zero, List.set_cons_succ]
    refine wpAnyH_take (i := 5) (v := (.pointer (some ⟨p, 0, none⟩))) rfl (by kernel_rfl) (by kernel_rfl) (by kernel_rfl) (fun _ _ _ h => h) (Or.inl ⟨by kernel_rfl, ?_⟩) (by with_reducible assumption) ?_
    focus (intro w hSw; (try dsimp only at hSw); obtain ⟨e0, e1, hs⟩ := hSw; go_simp)
    try simp only [Act.put, List.getElem_toArray, List.getElem_cons_succ, List.getElem_cons_zero, List.setIfInBounds_toArray, List.set_cons_zero, List.set_cons_succ]
    refine wpAnyH_take (i := 6) (v := (.pointer (some ⟨p, 1, none⟩))) rfl (by kernel_rfl) (by kernel_rfl) (by kernel_rfl) (fun _ _ _ h => h) (Or.inl ⟨by kernel_rfl, ?_⟩) (by with_reducible assumption) ?_
    focus (intro w hSw; (try dsimp only at hSw); obtain ⟨e0, e1, hs⟩ := hSw; go_simp)
    try simp only [Act.put, List.getElem_toArray, List.getElem_cons_succ, List.getElem_cons_zero, List.setIfInBounds_toArray, List.set_cons_zero, List.set_cons_succ]
    refine wpAnyH_take (i := 7) (v := (.int .i64 (a : Int))) rfl (by kernel_rfl) (by kernel_rfl) (by kernel_rfl) (fun _ _ _ h => h) (Or.inl ⟨by kernel_rfl, ?_⟩) (by with_reducible assumption) ?_
    focus (intro w hSw; (try dsimp only at hSw); obtain ⟨e0, e1, hs⟩ := hSw; go_simp)
    try simp only [Act.put, List.getElem_toArray, List.getElem_cons_succ, List.getElem_cons_zero, List.setIfInBounds_toArray, List.set_cons_zero, List.set_cons_succ]
    refine wpAnyH_take (i := 8) (v := (.pointer (some ⟨p, 0, none⟩))) rfl (by kernel_rfl) (by kernel_rfl) (by kernel_rfl) (fun _ _ _ h => h) (Or.inl ⟨by kernel_rfl, ?_⟩) (by with_reducible assumption) ?_
    focus (intro w hSw; (try dsimp only at hSw); obtain ⟨e0, e1, hs⟩ := hSw; go_simp)
    try simp only [Act.put, List.getElem_toArray, List.getElem_cons_succ, List.getElem_cons_zero, List.setIfInBounds_toArray, List.set_cons_zero, List.set_cons_succ]
    refine wpAnyH_take (i := 9) (v := (.pointer (some ⟨p, 0, none⟩))) rfl (by kernel_rfl) (by kernel_rfl) (by kernel_rfl) (fun _ _ _ h => h) (Or.inl ⟨by kernel_rfl, ?_⟩) (by with_reducible assumption) ?_
    focus (intro w hSw; (try dsimp only at hSw); obtain ⟨e0, e1, hs⟩ := hSw; go_simp)
    try simp only [Act.put, List.getElem_toArray, List.getElem_cons_succ, List.getElem_cons_zero, List.setIfInBounds_toArray, List.set_cons_zero, List.set_cons_succ]
    refine wpAnyH_take (i := 10) (v := (.pointer (some ⟨p, 1, none⟩))) rfl (by kernel_rfl) (by kernel_rfl) (by kernel_rfl) (fun _ _ _ h => h) (Or.inl ⟨by kernel_rfl, ?_⟩) (by with_reducible assumption) ?_
    focus (intro w hSw; (try dsimp only at hSw); obtain ⟨e0, e1, hs⟩ := hSw; go_simp)
    try simp only [Act.put, List.getElem_toArray, List.getElem_cons_succ, List.getElem_cons_zero, List.setIfInBounds_toArray, List.set_cons_zero, List.set_cons_succ]
    refine wpAnyH_take (i := 11) (v := (.int .i64 (a : Int))) rfl (by kernel_rfl) (by kernel_rfl) (by kernel_rfl) (fun _ _ _ h => h) (Or.inl ⟨by kernel_rfl, ?_⟩) (by with_reducible assumption) ?_
    focus (intro w hSw; (try dsimp only at hSw); obtain ⟨e0, e1, hs⟩ := hSw; go_simp)
    try simp only [Act.put, List.getElem_toArray, List.getElem_cons_succ, List.getElem_cons_zero, List.setIfInBounds_toArray, List.set_cons_zero, List.set_cons_succ]
    refine wpAnyH_take (i := 12) (v := (.slice (some ⟨b1, o1, none⟩) a a)) rfl (by kernel_rfl) (by kernel_rfl) (by kernel_rfl) (fun _ _ _ h => h) (Or.inl ⟨by kernel_rfl, ?_⟩) (by with_reducible assumption) ?_
    focus (intro w hSw; (try dsimp only at hSw); obtain ⟨e0, e1, hs⟩ := hSw; go_simp)
    try simp only [Act.put, List.getElem_toArray, List.getElem_cons_succ, List.getElem_cons_zero, List.setIfInBounds_toArray, List.set_cons_zero, List.set_cons_succ]
    refine wpAnyH_take (i := 16) (v := (.pointer (some ⟨p, 0, none⟩))) rfl (by kernel_rfl) (by kernel_rfl) (by kernel_rfl) (fun _ _ _ h => h) (Or.inl ⟨by kernel_rfl, ?_⟩) (by with_reducible assumption) ?_
    focus (intro w hSw; (try dsimp only at hSw); obtain ⟨e0, e1, hs⟩ := hSw; go_simp)
    try simp only [Act.put, List.getElem_toArray, List.getElem_cons_succ, List.getElem_cons_zero, List.setIfInBounds_toArray, List.set_cons_zero, List.set_cons_succ]
    refine wpAnyH_take (i := 17) (v := (.pointer (some ⟨p, 0, none⟩))) rfl (by kernel_rfl) (by kernel_rfl) (by kernel_rfl) (fun _ _ _ h => h) (Or.inl ⟨by kernel_rfl, ?_⟩) (by with_reducible assumption) ?_
    focus (intro w hSw; (try dsimp only at hSw); obtain ⟨e0, e1, hs⟩ := hSw; go_simp)
    try simp only [Act.put, List.getElem_toArray, List.getElem_cons_succ, List.getElem_cons_zero, List.setIfInBounds_toArray, List.set_cons_zero, List.set_cons_succ]
    refine wpAnyH_take (i := 18) (v := (.pointer (some ⟨p, 0, none⟩))) rfl (by kernel_rfl) (by kernel_rfl) (by kernel_rfl) (fun _ _ _ h => h) (Or.inl ⟨by kernel_rfl, ?_⟩) (by with_reducible assumption) ?_
    focus (intro w hSw; (try dsimp only at hSw); obtain ⟨e0, e1, hs⟩ := hSw; go_simp)
    try simp only [Act.put, List.getElem_toArray, List.getElem_cons_succ, List.getElem_cons_zero, List.setIfInBounds_toArray, List.set_cons_zero, List.set_cons_succ]
    refine wpAnyH_take (i := 19) (v := (.slice (some ⟨b1, o1, none⟩) bs.length cap)) rfl (by kernel_rfl) (by kernel_rfl) (by kernel_rfl) (fun _ _ _ h => h) (Or.inl ⟨by kernel_rfl, ?_⟩) (by with_reducible assumption) ?_
    focus (intro w hSw; (try dsimp only at hSw); obtain ⟨e0, e1, hs⟩ := hSw; go_simp)
    try simp only [Act.put, List.getElem_toArray, List.getElem_cons_succ, List.getElem_cons_zero, List.setIfInBounds_toArray, List.set_cons_zero, List.set_cons_succ]
    refine wpAnyH_take (i := 20) (v := (.pointer (some ⟨p, 0, none⟩))) rfl (by kernel_rfl) (by kernel_rfl) (by kernel_rfl) (fun _ _ _ h => h) (Or.inl ⟨by kernel_rfl, ?_⟩) (by with_reducible assumption) ?_
    focus (intro w hSw; (try dsimp only at hSw); obtain ⟨e0, e1, hs⟩ := hSw; go_simp)
    try simp only [Act.put, List.getElem_toArray, List.getElem_cons_succ, List.getElem_cons_zero, List.setIfInBounds_toArray, List.set_cons_zero, List.set_cons_succ]
    refine wpAnyH_take (i := 21) (v := (.pointer (some ⟨p, 0, none⟩))) rfl (by kernel_rfl) (by kernel_rfl) (by kernel_rfl) (fun _ _ _ h => h) (Or.inl ⟨by kernel_rfl, ?_⟩) (by with_reducible assumption) ?_
    focus (intro w hSw; (try dsimp only at hSw); obtain ⟨e0, e1, hs⟩ := hSw; go_simp)
    try simp only [Act.put, List.getElem_toArray, List.getElem_cons_succ, List.getElem_cons_zero, List.setIfInBounds_toArray, List.set_cons_zero, List.set_cons_succ]
    refine wpAnyH_take (i := 22) (v := (.pointer (some ⟨p, 1, none⟩))) rfl (by kernel_rfl) (by kernel_rfl) (by kernel_rfl) (fun _ _ _ h => h) (Or.inl ⟨by kernel_rfl, ?_⟩) (by with_reducible assumption) ?_
    focus (intro w hSw; (try dsimp only at hSw); obtain ⟨e0, e1, hs⟩ := hSw; go_simp)
    try simp only [Act.put, List.getElem_toArray, List.getElem_cons_succ, List.getElem_cons_zero, List.setIfInBounds_toArray, List.set_cons_zero, List.set_cons_succ]
    refine wpAnyH_take (i := 23) (v := (.int .i64 (a : Int))) rfl (by kernel_rfl) (by kernel_rfl) (by kernel_rfl) (fun _ _ _ h => h) (Or.inl ⟨by kernel_rfl, ?_⟩) (by with_reducible assumption) ?_
    focus (intro w hSw; (try dsimp only at hSw); obtain ⟨e0, e1, hs⟩ := hSw; go_simp)
    try simp only [Act.put, List.getElem_toArray, List.getElem_cons_succ, List.getElem_cons_zero, List.setIfInBounds_toArray, List.set_cons_zero, List.set_cons_succ]
    refine wpAnyH_take (i := 24) (v := (.pointer (some ⟨p, 0, none⟩))) rfl (by kernel_rfl) (by kernel_rfl) (by kernel_rfl) (fun _ _ _ h => h) (Or.inl ⟨by kernel_rfl, ?_⟩) (by with_reducible assumption) ?_
    focus (intro w hSw; (try dsimp only at hSw); obtain ⟨e0, e1, hs⟩ := hSw; go_simp)
    try simp only [Act.put, List.getElem_toArray, List.getElem_cons_succ, List.getElem_cons_zero, List.setIfInBounds_toArray, List.set_cons_zero, List.set_cons_succ]
    refine wpAnyH_take (i := 25) (v := (.pointer (some ⟨p, 0, none⟩))) rfl (by kernel_rfl) (by kernel_rfl) (by kernel_rfl) (fun _ _ _ h => h) (Or.inl ⟨by kernel_rfl, ?_⟩) (by with_reducible assumption) ?_
    focus (intro w hSw; (try dsimp only at hSw); obtain ⟨e0, e1, hs⟩ := hSw; go_simp)
    try simp only [Act.put, List.getElem_toArray, List.getElem_cons_succ, List.getElem_cons_zero, List.setIfInBounds_toArray, List.set_cons_zero, List.set_cons_succ]
    refine wpAnyH_take (i := 26) (v := (.pointer (some ⟨p, 1, none⟩))) rfl (by kernel_rfl) (by kernel_rfl) (by kernel_rfl) (fun _ _ _ h => h) (Or.inl ⟨by kernel_rfl, ?_⟩) (by with_reducible assumption) ?_
    focus (intro w hSw; (try dsimp only at hSw); obtain ⟨e0, e1, hs⟩ := hSw; go_simp)
    try simp only [Act.put, List.getElem_toArray, List.getElem_cons_succ, List.getElem_cons_zero, List.setIfInBounds_toArray, List.set_cons_zero, List.set_cons_succ]
    refine wpAnyH_take (i := 27) (v := (.int .i64 (a : Int))) rfl (by kernel_rfl) (by kernel_rfl) (by kernel_rfl) (fun _ _ _ h => h) (Or.inl ⟨by kernel_rfl, ?_⟩) (by with_reducible assumption) ?_
    focus (intro w hSw; (try dsimp only at hSw); obtain ⟨e0, e1, hs⟩ := hSw; go_simp)
    try simp only [Act.put, List.getElem_toArray, List.getElem_cons_succ, List.getElem_cons_zero, List.setIfInBounds_toArray, List.set_cons_zero, List.set_cons_succ]
    refine wpAnyH_take (i := 28) (v := (.int .i64 ((a : Int) + 4))) rfl (by kernel_rfl) (by kernel_rfl) (by kernel_rfl) (fun _ _ _ h => h) (Or.inl ⟨by kernel_rfl, ?_⟩) (by with_reducible assumption) ?_
    focus (intro w hSw; (try dsimp only at hSw); obtain ⟨e0, e1, hs⟩ := hSw; go_simp)
    try simp only [Act.put, List.getElem_toArray, List.getElem_cons_succ, List.getElem_cons_zero, List.setIfInBounds_toArray, List.set_cons_zero, List.set_cons_succ]
    refine wpAnyH_take (i := 29) (v := (.pointer (some ⟨p, 0, none⟩))) rfl (by kernel_rfl) (by kernel_rfl) (by kernel_rfl) (fun _ _ _ h => h) (Or.inl ⟨by kernel_rfl, ?_⟩) (by with_reducible assumption) ?_
    focus (intro w hSw; (try dsimp only at hSw); obtain ⟨e0, e1, hs⟩ := hSw; go_simp)
    try simp only [Act.put, List.getElem_toArray, List.getElem_cons_succ, List.getElem_cons_zero, List.setIfInBounds_toArray, List.set_cons_zero, List.set_cons_succ]
    refine wpAnyH_take (i := 30) (v := (.pointer (some ⟨p, 0, none⟩))) rfl (by kernel_rfl) (by kernel_rfl) (by kernel_rfl) (fun _ _ _ h => h) (Or.inl ⟨by kernel_rfl, ?_⟩) (by with_reducible assumption) ?_
    focus (intro w hSw; (try dsimp only at hSw); obtain ⟨e0, e1, hs⟩ := hSw; go_simp)
    try simp only [Act.put, List.getElem_toArray, List.getElem_cons_succ, List.getElem_cons_zero, List.setIfInBounds_toArray, List.set_cons_zero, List.set_cons_succ]
    refine wpAnyH_take (i := 31) (v := (.pointer (some ⟨p, 1, none⟩))) rfl (by kernel_rfl) (by kernel_rfl) (by kernel_rfl) (fun _ _ _ h => h) (Or.inl ⟨by kernel_rfl, ?_⟩) (by with_reducible assumption) ?_
    focus (intro w hSw; (try dsimp only at hSw); obtain ⟨e0, e1, hs⟩ := hSw; go_simp)
    try simp only [Act.put, List.getElem_toArray, List.getElem_cons_succ, List.getElem_cons_zero, List.setIfInBounds_toArray, List.set_cons_zero, List.set_cons_succ]
    refine wpAnyH_take (i := 32) (v := (.int .i64 (a : Int))) rfl (by kernel_rfl) (by kernel_rfl) (by kernel_rfl) (fun _ _ _ h => h) (Or.inl ⟨by kernel_rfl, ?_⟩) (by with_reducible assumption) ?_
    focus (intro w hSw; (try dsimp only at hSw); obtain ⟨e0, e1, hs⟩ := hSw; go_simp)
    try simp only [Act.put, List.getElem_toArray, List.getElem_cons_succ, List.getElem_cons_zero, List.setIfInBounds_toArray, List.set_cons_zero, List.set_cons_succ]
    refine wpAnyH_take (i := 33) (v := (.int .i64 ((a : Int) + 4))) rfl (by kernel_rfl) (by kernel_rfl) (by kernel_rfl) (fun _ _ _ h => h) (Or.inl ⟨by kernel_rfl, ?_⟩) (by with_reducible assumption) ?_
    focus (intro w hSw; (try dsimp only at hSw); obtain ⟨e0, e1, hs⟩ := hSw; go_simp)
    try simp only [Act.put, List.getElem_toArray, List.getElem_cons_succ, List.getElem_cons_zero, List.setIfInBounds_toArray, List.set_cons_zero, List.set_cons_succ]
    refine wpAnyH_take (i := 34) (v := (.slice (some ⟨b1, o1 + a, none⟩) 4 4)) rfl (by kernel_rfl) (by kernel_rfl) (by kernel_rfl) (fun _ _ _ h => h) (Or.inl ⟨by kernel_rfl, ?_⟩) (by with_reducible assumption) ?_
    focus (intro w hSw; (try dsimp only at hSw); obtain ⟨e0, e1, hs⟩ := hSw; go_simp)
    try simp only [Act.put, List.getElem_toArray, List.getElem_cons_succ, List.getElem_cons_zero, List.setIfInBounds_toArray, List.set_cons_zero, List.set_cons_succ]
    refine wpAnyH_take (i := 35) (v := (.string (strB ((bs.drop a).take 4)))) rfl (by kernel_rfl) (by kernel_rfl) (by kernel_rfl) (fun _ _ _ h => h) (Or.inl ⟨by kernel_rfl, ?_⟩) (by with_reducible assumption) ?_
    focus (intro w hSw; (try dsimp only at hSw); obtain ⟨e0, e1, hs⟩ := hSw; have h55 := run_str (Hmid.out _ hs.out) Hmb.out (by rw [Hml.out]; decide); go_simp)
    try simp only [Act.put, List.getElem_toArray, List.getElem_cons_succ, List.getElem_cons_zero, List.setIfInBounds_toArray, List.set_cons_zero, List.set_cons_succ]
    obtain ⟨wd, hwd⟩ : ∃ x, (w.drewN nq).drew = x := ⟨_, rfl⟩
    have HGd := Lib.hid (show Gr w wd by rw [← hwd]; exact ((Fr.refl w NoneS).drewN nq).drew)
    rw [hwd] at hHeld ⊢
    clear hwd
    have HSd := Lib.hid (HS1.out.gr HGd.out)
    have HRd := Lib.hid (show Rd wd p _ a from HR1.out.fr HGd.out (fun h => h))
    have HCr := Lib.hid (of_any (Htk.out wd HSd.out) Htb.out (by rw [List.length_take]; omega))
    have HFr := Lib.hid (fun w' => four_any (crcN (bs.take a)) (crcN_lt Htb.out) w')
    have Hf4 := Lib.hid (show (four (crcN (bs.take a))).length = 4 by simp [four])
    have Hfb := Lib.hid (show Leb.Bs (four (crcN (bs.take a))) from fun c hc => four_byte _ c hc)
    refine wpAnyH_ready (rs := [13]) (by kernel_rfl) (by simp) ?_
    refine AllReadyH.cons rfl ?_ AllReadyH.nil
    intro K hK
    go_simp
    go_at_call 35
    refine (HCr.out).mono ?_
    rintro e w2 ⟨rfl, rfl⟩
    refine hK.out _ _ (hHeld) (fun hHeld => ?_)
    clear hK K
    try simp only [Act.put, List.getElem_toArray, List.getElem_cons_succ, List.getElem_cons_zero, List.setIfInBounds_toArray, List.set_cons_zero, List.set_cons_succ]
    refine wpAnyH_ready (rs := [14]) (by kernel_rfl) (by simp) ?_
    refine AllReadyH.cons rfl ?_ AllReadyH.nil
    intro K hK
    go_simp
    go_at_call 34
    refine (HFr.out _).mono ?_
    rintro e w2 hp
    obtain ⟨tw, rfl, hs, hg⟩ := four_sl hp
    have HSq := Lib.hid hs
    have HG2 := Lib.hid (HGd.out.trans hg (fun _ _ h => h))
    have HR2 := Lib.hid (show Rd w2 p _ a from HR1.out.fr HG2.out (fun h => h))
    have g0 : w2.cell? ⟨p, 0, none⟩ = some (.slice (some ⟨b1, o1, none⟩) bs.length cap) := by rw [Blk.cell HR2.out]; rfl
    have g1 : w2.cell? ⟨p, 1, none⟩ = some (.int .i64 (a : Int)) := by rw [Blk.cell HR2.out]; rfl
    clear hp hs hg hHeld
    refine hK.out _ _ (⟨g0, g1, Lib.hid (HS1.out.gr HG2.out)⟩) (fun hHeld => ?_)
    clear hK K
    try simp only [Act.put, List.getElem_toArray, List.getElem_cons_succ, List.getElem_cons_zero, List.setIfInBounds_toArray, List.set_cons_zero, List.set_cons_succ]
    have hst := run_str HSq.out Hfb.out (by rw [Hf4.out]; decide)
    refine wpAnyH_ready (rs := [15]) (by kernel_rfl) (by simp) ?_
    refine AllReadyH.cons rfl ?_ AllReadyH.nil
    intro K hK
    go_simp
    refine hK.out _ _ (hHeld) (fun hHeld => ?_)
    clear hK K
    try simp only [Act.put, List.getElem_toArray, List.getElem_cons_succ, List.getElem_cons_zero, List.setIfInBounds_toArray, List.set_cons_zero, List.set_cons_succ]
    have k0 := hHeld.1
    have k1 := hHeld.2.1
    by_cases hne : four (crcN (bs.take a)) = (bs.drop a).take 4
    · have hsb := strB_eq Hfb.out Hmb.out true (decide_eq_true hne)
      have Hne := Lib.hid hne
      clear hne hst Hfb Hmb
      generalize strB (four (crcN (bs.take a))) = sx at hsb ⊢
      generalize strB ((bs.drop a).take 4) = sy at hsb ⊢
      refine wpAnyH_take (i := 36) (v := (.bool false)) rfl (by kernel_rfl) (by kernel_rfl) (by kernel_rfl) (fun _ _ _ h => h) (Or.inl ⟨by kernel_rfl, ?_⟩) (by with_reducible assumption) ?_
      focus (intro w hSw; (try dsimp only at hSw); go_simp)
      try simp only [Act.put, List.getElem_toArray, List.getElem_cons_succ, List.getElem_cons_zero, List.setIfInBounds_toArray, List.set_cons_zero, List.set_cons_succ]
      refine wpAnyH_done (by kernel_rfl) ?_ _
      go_upto_region 4 with (fail)
      by_cases h5 : a + 4 < bs.length
      · have e5 : decide ((bs.length : Int) > (a : Int) + 4) = true := decide_eq_true (by omega)
        have e5' : decide ((a : Int) + 4 < (bs.length : Int)) = true := decide_eq_true (by omega)
        have Hr2 := Lib.hid (show r = .bad 5 (a + 4) by rw [← Hr.out]; unfold endR; rw [if_neg h4, if_neg (fun h => h Hne.out.symm), if_pos h5])
        go_quiet (fail)
        go_wp2_with fail
        refine ⟨rfl, ?_⟩
        rw [Hr2.out]
        exact ⟨rfl, (Gr.mono HG2.out _).drewN _⟩
      · have e5 : decide ((bs.length : Int) > (a : Int) + 4) = false := decide_eq_false (by omega)
        have e5' : decide ((a : Int) + 4 < (bs.length : Int)) = false := decide_eq_false (by omega)
        have Hr2 := Lib.hid (show r = .ok () a by rw [← Hr.out]; unfold endR; rw [if_neg h4, if_neg (fun h => h Hne.out.symm), if_neg h5])
        go_quiet (fail)
        go_wp2_with fail
        refine ⟨rfl, .tuple #[], by kernel_rfl, ?_⟩
        rw [Hr2.out]
        exact ⟨rfl, (Gr.mono HG2.out _).drewN _, HR2.out.drewN _⟩
    · have hsb := strB_eq Hfb.out Hmb.out false (decide_eq_false hne)
      have Hr2 := Lib.hid (show r = .bad 6 a by rw [← Hr.out]; unfold endR; rw [if_neg h4, if_pos (fun h => hne h.symm)])
      clear hne hst Hfb Hmb
      generalize strB (four (crcN (bs.take a))) = sx at hsb ⊢
      generalize strB ((bs.drop a).take 4) = sy at hsb ⊢
      refine wpAnyH_take (i := 36) (v := (.bool true)) rfl (by kernel_rfl) (by kernel_rfl) (by kernel_rfl) (fun _ _ _ h => h) (Or.inl ⟨by kernel_rfl, ?_⟩) (by with_reducible assumption) ?_
      focus (intro w hSw; (try dsimp only at hSw); go_simp)
      try simp only [Act.put, List.getElem_toArray, List.getElem_cons_succ, List.getElem_cons_zero, List.setIfInBounds_toArray, List.set_cons_zero, List.set_cons_succ]
      refine wpAnyH_done (by kernel_rfl) ?_ _
      go_wp2_with fail
      refine ⟨rfl, ?_⟩
      rw [Hr2.out]
      exact ⟨rfl, Gr.mono HG2.out _⟩
end Vf
end Go.Proofs.Ytmjpghaggnpdbaa
