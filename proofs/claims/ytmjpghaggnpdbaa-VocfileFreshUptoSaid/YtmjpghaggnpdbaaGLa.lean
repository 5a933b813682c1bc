/- The walk of VocfileBack. -/
import Derived.Test.YtmjpghaggnpdbaaGWk
import Derived.Test.YtmjpghaggnpdbaaFvocq
import Derived.Test.YtmjpghaggnpdbaaFsame
import Derived.Test.YtmjpghaggnpdbaaVRd
set_option linter.unusedVariables false
set_option linter.unusedSimpArgs false
namespace Go.Proofs.Ytmjpghaggnpdbaa
open Go.RowKit
open Voc Leb Crc Vf
theorem bs_wf {xs : List Int} (h : ∀ x ∈ xs, (Lit.int .u8 x).wf = true) : Leb.Bs xs := fun c hc => u8_in (h c hc)
theorem get_any2 {w : World} {v : Value} {bs : List Int} (HS : SL encB w v bs) (hb : Leb.Bs bs) (hl : bs.length ≤ 1048576) (ps : List Pc) (x : Nat) (E : Int) (hr : readE bs = (ps, x, E)) :
    Calls Try.prog 9 #[v] w fun e w' => ∃ A c, e = .returned (.tuple #[.agg #[.slice A ps.length c], .int .i64 (x : Int), .int .i64 E]) ∧ SL encP w' (.slice A ps.length c) ps ∧ w'.ownsRow w.heap.size 42 5 (.slice A ps.length c) ps.length (ps.flatMap encP) ∧ Gr w w' :=
  (get_any HS hb hl).mono fun e w' ⟨tv, he, ho, hg⟩ => by
    rw [hr] at he ho
    obtain ⟨A, c, rfl⟩ := SL.form (SL.of_own (enc := encP) ho rfl)
    exact ⟨A, c, he, SL.of_own ho rfl, ho, hg⟩
theorem read_nil {b : List Int} {ps : List Pc} {x : Nat} {E : Int} (h : readE b = (ps, x, E)) (hE : E ≠ 0) : ps = [] := by
  unfold readE at h
  split at h
  · injection h with h1; exact h1.symm
  · split at h
    · injection h with h1; exact h1.symm
    · split at h
      · injection h with h1; exact h1.symm
      · unfold endE at h
        split at h
        · injection h with h1; exact h1.symm
        · split at h
          · injection h with h1; exact h1.symm
          · split at h
            · injection h with h1; exact h1.symm
            · split at h
              · injection h with h1; exact h1.symm
              · injection h with h1 h2
                injection h2 with h2 h3
                exact absurd h3.symm hE
set_option maxRecDepth 20000 in
set_option maxHeartbeats 4000000 in
theorem VocfileBack_walk (w : World) (s0 : Value) (x0 : List Pc) (sl0 : SL encP w s0 x0) (wf0 : ∀ q ∈ x0, wfP q) (n0 : x0.length ≤ 1048576) (v1 : Value) (x1 : List Int) (sl1 : SL encB w v1 x1) (wf1 : ∀ x ∈ x1, (Lit.int .u8 x).wf = true) (n1 : x1.length ≤ 1048576) :
    Calls Try.prog 4 #[.agg #[s0], v1] w fun e w' => e = .returned (.bool true) ∧ Gr w w' := by
  obtain ⟨A, cap, rfl⟩ := SL.form sl0
  obtain ⟨A1, cap1, rfl⟩ := SL.form sl1
  have HS0 := Lib.hid sl0
  have HS1 := Lib.hid sl1
  have Hb := Lib.hid (bs_wf wf1)
  have Hwf := Lib.hid wf0
  have HG := Lib.hid ((Fr.refl w NoneS).alloc (.cells #[.slice A x0.length cap] 26))
  have HB := Lib.hid (Blk.new w 26 #[.slice A x0.length cap])
  obtain ⟨q, hq⟩ : ∃ q, w.heap.size = q := ⟨_, rfl⟩
  rw [hq] at HB
  have HM := Lib.hid (many_any (sl0.gr HG.out))
  obtain ⟨r, hr⟩ : ∃ r, readE x1 = r := ⟨_, rfl⟩
  obtain ⟨ps, px, pe⟩ := r
  have HR := Lib.hid hr
  have HX := Lib.hid (show (checkE x0).1 = 0 → putE x0 = (fileB x0, 0) ∧ readE (fileB x0) = (x0, 0, 0) ∧ Leb.Bs (fileB x0) ∧ (fileB x0).length ≤ 20 + 31 * x0.length from
    fun h => ⟨by unfold putE; rw [if_pos h], read_put h wf0, fileB_byte (form_of (good_of h) wf0), fileB_len x0⟩)
  have HY := Lib.hid (show (checkE x0).1 ≠ 0 → putE x0 = ([], 11) from fun h => by unfold putE; rw [if_neg h])
  have HZ := Lib.hid (show pe = 0 → x1 = fileB ps ∧ (checkE ps).1 = 0 ∧ (∀ q ∈ ps, wfP q) from fun h => by
    subst h
    obtain ⟨a, b, c, _⟩ := read_ok (bs_wf wf1) hr
    exact ⟨a, b, c⟩)
  clear sl0 sl1 wf0 wf1 hr
  go_enter Try.func4, Try.ntmps4
  go_upto_region 1 with (fail)
  generalize hx : World.alloc w _ = wa at HG HB HM ⊢
  clear hx
  have c0 : wa.cell? ⟨q, 0, none⟩ = some (.slice A x0.length cap) := by rw [HB.out.cell]; rfl
  by_cases hbig : 700 < x0.length
  · have hM : decide (700 < x0.length) = true := decide_eq_true hbig
    rw [hM] at HM
    clear hM
    go_wp2_with (first
      | (go_at_call 12; refine HM.out.mono ?_; rintro e w2 ⟨rfl, hg⟩; have HG2 := Lib.hid (HG.out.trans hg (fun _ _ h => h)); clear hg)
      | (go_at_call 8; refine (works_any _).mono ?_; rintro e wz ⟨rfl, hg⟩; have HGz := Lib.hid hg; clear hg))
    go_ret
    exact ⟨rfl, HG2.out.trans HGz.out (fun _ _ h => h)⟩
  have hM : decide (700 < x0.length) = false := decide_eq_false hbig
  rw [hM] at HM
  clear hM
  have H7 := Lib.hid (show x0.length ≤ 700 by omega)
  clear hbig
  by_cases h5 : 5000 < x1.length
  · have e5 : decide (5000 < x1.length) = true := decide_eq_true h5
    have e5' : decide ((x1.length : Int) > 5000) = true := decide_eq_true (by omega)
    have e5'' : decide ((5000 : Int) < (x1.length : Int)) = true := decide_eq_true (by omega)
    go_wp2_with (first
      | (go_at_call 12; refine HM.out.mono ?_; rintro e w2 ⟨rfl, hg⟩; have HG2 := Lib.hid (HG.out.trans hg (fun _ _ h => h)); clear hg)
      | (go_at_call 8; refine (works_any _).mono ?_; rintro e wz ⟨rfl, hg⟩; have HGz := Lib.hid hg; clear hg))
    go_ret
    exact ⟨rfl, HG2.out.trans HGz.out (fun _ _ h => h)⟩
  have e5 : decide (5000 < x1.length) = false := decide_eq_false h5
  have e5' : decide ((x1.length : Int) > 5000) = false := decide_eq_false (by omega)
  have e5'' : decide ((5000 : Int) < (x1.length : Int)) = false := decide_eq_false (by omega)
  go_upto_region 3 with (go_at_call 12; refine HM.out.mono ?_; rintro e w2 ⟨rfl, hg⟩; have HG2 := Lib.hid (HG.out.trans hg (fun _ _ h => h)); have HB2 := Lib.hid (HB.out.fr hg (fun h => h)); clear hg)
  have c2 : w2.cell? ⟨q, 0, none⟩ = some (.slice A x0.length cap) := by rw [HB2.out.cell]; rfl
  have HP := Lib.hid (put_any (HS0.out.gr HG2.out) Hwf.out (by have := H7.out; omega))
  go_upto_region 4 with (go_at_call 13; refine HP.out.mono ?_; rintro e w3 ⟨tv, rfl, ho, hg⟩; have HT3 := Lib.hid ho.sl; have HG3 := Lib.hid (HG2.out.trans hg (fun _ _ h => h)); have HB3 := Lib.hid (HB2.out.fr hg (fun h => h)); clear ho hg)
  have c3 : w3.cell? ⟨q, 0, none⟩ = some (.slice A x0.length cap) := by rw [HB3.out.cell]; rfl
  clear c0 c2 HP
  obtain ⟨⟨pb, pE⟩, hpp⟩ : ∃ y, putE x0 = y := ⟨_, rfl⟩
  rw [hpp] at HT3 HX HY ⊢
  simp only at HT3 ⊢
  go_upto_if 29 with (fail)
  go_cut [7] (fun s7 wx => Hid (Gr w3 wx))
  case first =>
    by_cases h0 : (checkE x0).1 = 0
    · obtain ⟨hp1, hp2, hp3, hp4⟩ := HX.out h0
      injection hp1 with hp1 hpE
      subst hp1 hpE
      have HGa := Lib.hid (get_any2 HT3.out hp3 (by have := H7.out; omega) x0 0 0 hp2)
      have HV := Lib.hid (fun (w : World) (A : Option Addr) (c : Nat) (hg : Gr w3 w) (h : SL encP w (.slice A x0.length c) x0) => vocab_any ((HS0.out.gr HG3.out).gr hg) h (by have := H7.out; omega))
      simp only [decide_true] at HV
      clear hp2 hp3 hp4 h0
      go_upto_region 6 with (go_at_call 9; refine HGa.out.mono ?_; rintro e w4 ⟨Aw, cw, rfl, hs, _, hg⟩; have HS4 := Lib.hid hs; have HG4 := Lib.hid hg; clear hs hg)
      have HB4 := Lib.hid ((HB3.out.fr HG4.out (fun h => h)).alloc (.cells #[.slice Aw x0.length cw] 26))
      have HB5 := Lib.hid (Blk.new w4 26 #[.slice Aw x0.length cw])
      have HG5 := Lib.hid (HG4.out.alloc (.cells #[.slice Aw x0.length cw] 26))
      have HS5 := Lib.hid (HS4.out.gr ((Fr.refl w4 NoneS).alloc (.cells #[.slice Aw x0.length cw] 26)))
      obtain ⟨q5, hq5⟩ : ∃ q, w4.heap.size = q := ⟨_, rfl⟩
      rw [hq5] at HB5 ⊢
      clear hq5 c3
      generalize World.alloc w4 _ = w5 at HB4 HB5 HG5 HS5 ⊢
      have d4 : w5.cell? ⟨q, 0, none⟩ = some (.slice A x0.length cap) := by rw [HB4.out.cell]; rfl
      have d5 : w5.cell? ⟨q5, 0, none⟩ = some (.slice Aw x0.length cw) := by rw [HB5.out.cell]; rfl
      go_wp2_with (go_at_call 11; refine (HV.out _ _ _ HG5.out HS5.out).mono ?_; rintro e w6 ⟨rfl, hg⟩; have HG6 := Lib.hid (HG5.out.trans hg (fun _ _ h => h)); clear hg)
      go_meet
      exact HG6.out
    · have hp1 := HY.out h0
      injection hp1 with hp1 hpE
      subst hp1 hpE
      go_wp2_with fail
      go_meet
      exact Fr.refl _ _
  case rest =>
  have HGc := Lib.hid (HG3.out.trans (show Gr w3 wc from hcut.out) (fun _ _ h => h))
  have HGx := Lib.hid (get_any2 (HS1.out.gr HGc.out) Hb.out (by omega) ps px pe HR.out)
  go_upto_region 9 with (go_at_call 9; refine HGx.out.mono ?_; rintro e w7 ⟨Aw, cw, rfl, hs, _, hg⟩; have HS7 := Lib.hid hs; have HG7 := Lib.hid (HGc.out.trans hg (fun _ _ h => h)); clear hs hg)
  have HB8 := Lib.hid (Blk.new w7 26 #[.slice Aw ps.length cw])
  have HG8 := Lib.hid (HG7.out.alloc (.cells #[.slice Aw ps.length cw] 26))
  have HS8 := Lib.hid (HS7.out.gr ((Fr.refl w7 NoneS).alloc (.cells #[.slice Aw ps.length cw] 26)))
  obtain ⟨q8, hq8⟩ : ∃ q, w7.heap.size = q := ⟨_, rfl⟩
  rw [hq8] at HB8 ⊢
  clear hq8 c3
  generalize World.alloc w7 _ = w8 at HB8 HG8 HS8 ⊢
  have d8 : w8.cell? ⟨q8, 0, none⟩ = some (.slice Aw ps.length cw) := by rw [HB8.out.cell]; rfl
  by_cases hpe : pe = 0
  · obtain ⟨hz1, hz2, hz3⟩ := HZ.out hpe
    subst hpe
    have Hz1 := Lib.hid hz1
    have hl2 : ps.length ≤ 1048576 := Nat.le_trans (good_of hz2).len (by decide)
    have hpu : putE ps = (fileB ps, 0) := by unfold putE; rw [if_pos hz2]
    have HPu := Lib.hid (put_any HS8.out hz3 hl2)
    rw [hpu, ← hz1] at HPu
    have HSa := Lib.hid (fun (w : World) (v : Value) (h : SL encB w v x1) (hg : Gr w8 w) => same_any v _ x1 x1 w h ((HS1.out.gr HG8.out).gr hg) (by omega))
    simp only [decide_true] at HSa
    clear hz1 hz2 hz3 hl2 hpu
    go_wp2_with (first
      | (go_at_call 13; refine HPu.out.mono ?_; rintro e w9 ⟨tw, rfl, ho, hg⟩; have HT9 := Lib.hid ho.sl; have HG9 := Lib.hid hg; clear ho hg)
      | (go_at_call 14; refine (HSa.out _ _ HT9.out HG9.out).mono ?_; rintro e wa2 ⟨rfl, hg⟩; have HGa2 := Lib.hid ((HG8.out.trans HG9.out (fun _ _ h => h)).trans hg.gr (fun _ _ h => h)); clear hg)
      | (go_at_call 8; refine (works_any _).mono ?_; rintro e wz ⟨rfl, hg⟩; have HGz := Lib.hid hg; clear hg))
    go_ret
    exact ⟨rfl, HGa2.out.trans HGz.out (fun _ _ h => h)⟩
  · have hp := read_nil HR.out hpe
    subst hp
    have hpe1 : (pe != 0) = true := bne_iff_ne.2 hpe
    clear hpe
    go_wp2_with (go_at_call 8; refine (works_any _).mono ?_; rintro e wz ⟨rfl, hg⟩; have HGz := Lib.hid hg; clear hg)
    go_ret
    exact ⟨rfl, HG8.out.trans HGz.out (fun _ _ h => h)⟩
end Go.Proofs.Ytmjpghaggnpdbaa
