/- The walk of VocfileGets. -/
import Derived.Test.YtmjpghaggnpdbaaGLa
import Derived.Test.YtmjpghaggnpdbaaGRd
set_option linter.unusedVariables false
set_option linter.unusedSimpArgs false
namespace Go.Proofs.Ytmjpghaggnpdbaa
open Go.RowKit
open Voc Leb Crc Vf
theorem rget_any2 {w : World} {v : Value} {bs : List Int} (HS : SL encB w v bs) (hb : Leb.Bs bs) (hl : bs.length ≤ 1048576) (ps : List Pc) (x : Nat) (E : Int) (hr : readE bs = (ps, x, E)) :
    Calls Try.prog 10 #[v] w fun e w' => ∃ A c, e = .returned (.tuple #[.agg #[.slice A ps.length c], .int .i64 (x : Int), .int .i64 E]) ∧ SL encP w' (.slice A ps.length c) ps ∧ w'.ownsRow w.heap.size 42 5 (.slice A ps.length c) ps.length (ps.flatMap encP) ∧ Gr w w' :=
  (rget_any HS hb hl).mono fun e w' ⟨tv, he, ho, hg⟩ => by
    rw [hr] at he ho
    obtain ⟨A, c, rfl⟩ := SL.form (SL.of_own (enc := encP) ho rfl)
    exact ⟨A, c, he, SL.of_own ho rfl, ho, hg⟩
theorem read_len {b : List Int} (hb : Leb.Bs b) {ps : List Pc} {x : Nat} {E : Int} (h : readE b = (ps, x, E)) : ps.length ≤ 4096 := by
  by_cases hE : E = 0
  · subst hE
    obtain ⟨_, hc, _⟩ := read_ok hb h
    exact (good_of hc).len
  · rw [read_nil h hE]; exact Nat.zero_le _
set_option maxRecDepth 20000 in
set_option maxHeartbeats 4000000 in
theorem VocfileGets_walk (w : World) (v1 : Value) (x1 : List Int) (sl1 : SL encB w v1 x1) (wf1 : ∀ x ∈ x1, (Lit.int .u8 x).wf = true) (n1 : x1.length ≤ 1048576) :
    Calls Try.prog 3 #[v1] w fun e w' => e = .returned (.bool true) ∧ Gr w w' := by
  obtain ⟨A1, cap1, rfl⟩ := SL.form sl1
  have HS1 := Lib.hid sl1
  have Hb := Lib.hid (bs_wf wf1)
  obtain ⟨r, hr⟩ : ∃ r, readE x1 = r := ⟨_, rfl⟩
  obtain ⟨ps, px, pe⟩ := r
  have HR := Lib.hid hr
  have Hpl := Lib.hid (read_len (bs_wf wf1) hr)
  clear sl1 wf1 hr
  go_enter Try.func3, Try.ntmps3
  by_cases h5 : 5000 < x1.length
  · have e5 : decide (5000 < x1.length) = true := decide_eq_true h5
    have e5' : decide ((x1.length : Int) > 5000) = true := decide_eq_true (by omega)
    have e5'' : decide ((5000 : Int) < (x1.length : Int)) = true := decide_eq_true (by omega)
    go_wp2_with (go_at_call 8; refine (works_any _).mono ?_; rintro e wz ⟨rfl, hg⟩; have HGz := Lib.hid hg; clear hg)
    go_ret
    exact ⟨rfl, HGz.out⟩
  have e5 : decide (5000 < x1.length) = false := decide_eq_false h5
  have e5' : decide ((x1.length : Int) > 5000) = false := decide_eq_false (by omega)
  have e5'' : decide ((5000 : Int) < (x1.length : Int)) = false := decide_eq_false (by omega)
  have HGx := Lib.hid (get_any2 HS1.out Hb.out n1 ps px pe HR.out)
  have HGy := Lib.hid (fun w' (hg : Gr w w') => rget_any2 (HS1.out.gr hg) Hb.out n1 ps px pe HR.out)
  go_upto_region 4 with (go_at_call 9; refine HGx.out.mono ?_; rintro e w3 ⟨Aw, cw, rfl, hs, _, hg⟩; have HS3 := Lib.hid hs; have HG3 := Lib.hid hg; clear hs hg)
  have HB4 := Lib.hid (Blk.new w3 26 #[.slice Aw ps.length cw])
  have HG4 := Lib.hid (HG3.out.alloc (.cells #[.slice Aw ps.length cw] 26))
  have HS4 := Lib.hid (HS3.out.gr ((Fr.refl w3 NoneS).alloc (.cells #[.slice Aw ps.length cw] 26)))
  obtain ⟨q4, hq4⟩ : ∃ q, w3.heap.size = q := ⟨_, rfl⟩
  rw [hq4] at HB4 ⊢
  clear hq4
  generalize World.alloc w3 _ = w4 at HB4 HG4 HS4 ⊢
  go_upto_region 5 with (go_at_call 10; refine (HGy.out _ HG4.out).mono ?_; rintro e w5 ⟨Ay, cy, rfl, hs, _, hg⟩; have HT5 := Lib.hid hs; have HS5 := Lib.hid (HS4.out.gr hg); have HB5 := Lib.hid (HB4.out.fr hg (fun h => h)); have HG5 := Lib.hid (HG4.out.trans hg (fun _ _ h => h)); clear hs hg)
  have HB6 := Lib.hid (HB5.out.alloc (.cells #[.slice Ay ps.length cy] 26))
  have HC6 := Lib.hid (Blk.new w5 26 #[.slice Ay ps.length cy])
  have HG6 := Lib.hid (HG5.out.alloc (.cells #[.slice Ay ps.length cy] 26))
  have hal : Gr w5 (w5.alloc (.cells #[.slice Ay ps.length cy] 26)) := (Fr.refl w5 NoneS).alloc _
  have HV := Lib.hid (vocab_any (HS5.out.gr hal) (HT5.out.gr hal) (by have := Hpl.out; omega))
  simp only [decide_true] at HV
  obtain ⟨q6, hq6⟩ : ∃ q, w5.heap.size = q := ⟨_, rfl⟩
  rw [hq6] at HC6 ⊢
  clear hq6 hal
  generalize World.alloc w5 _ = w6 at HB6 HC6 HG6 HV ⊢
  have d4 : w6.cell? ⟨q4, 0, none⟩ = some (.slice Aw ps.length cw) := by rw [HB6.out.cell]; rfl
  have d6 : w6.cell? ⟨q6, 0, none⟩ = some (.slice Ay ps.length cy) := by rw [HC6.out.cell]; rfl
  go_wp2_with (first
    | (go_at_call 11; refine HV.out.mono ?_; rintro e w7 ⟨rfl, hg⟩; have HG7 := Lib.hid (HG6.out.trans hg (fun _ _ h => h)); clear hg)
    | (go_at_call 8; refine (works_any _).mono ?_; rintro e wz ⟨rfl, hg⟩; have HGz := Lib.hid hg; clear hg))
  go_ret
  exact ⟨rfl, HG7.out.trans HGz.out (fun _ _ h => h)⟩
end Go.Proofs.Ytmjpghaggnpdbaa
