/- The walk of VocfileSpoilt. -/
import Derived.Test.YtmjpghaggnpdbaaGLa
set_option linter.unusedVariables false
set_option linter.unusedSimpArgs false
namespace Go.Proofs.Ytmjpghaggnpdbaa
open Go.RowKit
open Voc Leb Crc Vf
/-- what is written where one byte is turned -/
theorem xor_ne {c b : Int} (hc : 0 ≤ c ∧ c < 256) (hb : 0 ≤ b ∧ b < 256) (h0 : b ≠ 0) : ∃ d : Int, bits .xor .u8 c b = d ∧ 0 ≤ d ∧ d < 256 ∧ c ≠ d := by
  obtain ⟨c, rfl⟩ := Int.eq_ofNat_of_zero_le hc.1
  obtain ⟨b, rfl⟩ := Int.eq_ofNat_of_zero_le hb.1
  have h := xor8 (show c < 2 ^ 8 by omega) (show b < 2 ^ 8 by omega)
  have hlt : c ^^^ b < 2 ^ 8 := Nat.xor_lt_two_pow (by omega) (by omega)
  refine ⟨_, h, by omega, by omega, ?_⟩
  intro e
  have e2 : c = c ^^^ b := by omega
  have : c ^^^ (c ^^^ b) = b := by rw [← Nat.xor_assoc, Nat.xor_self, Nat.zero_xor]
  rw [← e2, Nat.xor_self] at this
  omega
theorem own_frozen {B : Nat} {w : World} {b o n cap : Nat} {ps : List Int} (h : OwB B w (.slice (some ⟨b, o, none⟩) n cap) ps) : ∀ j, w.frozen? ⟨b, j, none⟩ = false := by
  rcases h.2 with ⟨e, _⟩ | ⟨g, cap', cur, e, _, hh, _⟩
  · cases e
  · injection e with e1 e2 e3
    injection e1 with e1
    injection e1 with e1 e4
    subst e1
    exact fun j => Blk.frozen (t := _) (cs := cur) hh j
theorem sl_set {w : World} {b o cap m : Nat} {fb : List Int} {d : Int} (h : SL encB w (.slice (some ⟨b, o, none⟩) fb.length cap) fb) (hm : m < fb.length) :
    SL encB (w.setCell ⟨b, o + m, none⟩ (.int .u8 d)) (.slice (some ⟨b, o, none⟩) fb.length cap) (fb.set m d) := by
  obtain ⟨A, c, hv, hc, hr⟩ := h
  obtain ⟨b', o', hA, hlt, hcell⟩ := hr (by omega)
  injection hv with e1 e2 e3
  subst e1
  cases hA
  subst e3
  refine ⟨_, cap, by rw [List.length_set], by rw [List.length_set]; exact hc, fun _ => ⟨b, o, rfl, by simpa using hlt, fun i u hu => ?_⟩⟩
  have hget : ∀ (l : List Int) (i : Nat), (l.flatMap encB)[i]? = l[i]?.map (Value.int .u8) := fun l i => by
    have := get_flatMap encB 1 (fun _ => rfl) l i 0 (by omega)
    rw [Nat.mul_one, Nat.add_zero] at this
    rw [this]
    cases l[i]? <;> rfl
  rw [hget] at hu
  have hold := fun i u h => hcell i u (by rw [hget]; exact h)
  by_cases hi : i = m
  · subst hi
    rw [List.getElem?_set_self hm] at hu
    have hx := hold i (.int .u8 fb[i]) (by rw [List.getElem?_eq_getElem hm]; rfl)
    rw [World.cell?_setCell_same (h := hx)]
    simpa using hu
  · rw [List.getElem?_set_ne (fun e => hi e.symm)] at hu
    rw [World.cell?_setCell_other (h := by intro e; injection e with _ e2; omega)]
    exact hold i u hu
set_option maxRecDepth 20000 in
set_option maxHeartbeats 4000000 in
theorem VocfileSpoilt_walk (w : World) (s0 : Value) (x0 : List Pc) (sl0 : SL encP w s0 x0) (wf0 : ∀ q ∈ x0, wfP q) (n0 : x0.length ≤ 1048576) (at_ : Int) (wa_ : (Lit.int .i64 at_).wf = true) (by_ : Int) (wb_ : (Lit.int .u8 by_).wf = true) (ct : Bool) :
    Calls Try.prog 5 #[.agg #[s0], .int .i64 at_, .int .u8 by_, .bool ct] w fun e w' => e = .returned (.bool true) ∧ Gr w w' := by
  obtain ⟨A, cap, rfl⟩ := SL.form sl0
  have HS0 := Lib.hid sl0
  have Hwf := Lib.hid wf0
  have HG := Lib.hid ((Fr.refl w NoneS).alloc (.cells #[.slice A x0.length cap] 26))
  have HB := Lib.hid (Blk.new w 26 #[.slice A x0.length cap])
  obtain ⟨q, hq⟩ : ∃ q, w.heap.size = q := ⟨_, rfl⟩
  rw [hq] at HB
  have HM := Lib.hid (many_any (sl0.gr HG.out))
  have HX := Lib.hid (show (checkE x0).1 = 0 → putE x0 = (fileB x0, 0) ∧ Leb.Bs (fileB x0) ∧ (fileB x0).length ≤ 20 + 31 * x0.length ∧ (∀ m, m < (fileB x0).length → (readE ((fileB x0).take m)).2.2 ≠ 0) ∧ (∀ m c, m < (fileB x0).length → 0 ≤ c ∧ c < 256 → (fileB x0).getD m 0 ≠ c → (readE ((fileB x0).set m c)).2.2 ≠ 0) from
    fun h => ⟨by unfold putE; rw [if_pos h], fileB_byte (form_of (good_of h) wf0), fileB_len x0, fun m hm => read_cut h wf0 hm, fun m c hm hc hne => read_one h wf0 hm hc hne⟩)
  have HY := Lib.hid (show (checkE x0).1 ≠ 0 → putE x0 = ([], 11) from fun h => by unfold putE; rw [if_neg h])
  have Hby := Lib.hid (u8_in wb_)
  clear sl0 wf0 wa_ wb_
  go_enter Try.func5, Try.ntmps5
  go_upto_region 1 with (fail)
  generalize hx : World.alloc w _ = wa at HG HB HM ⊢
  clear hx
  have c0 : wa.cell? ⟨q, 0, none⟩ = some (.slice A x0.length cap) := by rw [HB.out.cell]; rfl
  by_cases hbig : 700 < x0.length
  · have hM : decide (700 < x0.length) = true := decide_eq_true hbig
    rw [hM] at HM
    clear hM
    go_wp2_with (first
      | (go_at_call 12; refine HM.out.mono ?_; rintro e w2 ⟨rfl, hg⟩; have HG2 := Lib.hid (HG.out.trans hg (fun _ _ h => h)); clear hg)
      | (go_at_call 8; refine (works_any _).mono ?_; rintro e wz ⟨rfl, hg⟩; have HGz := Lib.hid hg; clear hg))
    go_ret
    exact ⟨rfl, HG2.out.trans HGz.out (fun _ _ h => h)⟩
  have hM : decide (700 < x0.length) = false := decide_eq_false hbig
  rw [hM] at HM
  clear hM
  have H7 := Lib.hid (show x0.length ≤ 700 by omega)
  clear hbig
  go_upto_region 3 with (go_at_call 12; refine HM.out.mono ?_; rintro e w2 ⟨rfl, hg⟩; have HG2 := Lib.hid (HG.out.trans hg (fun _ _ h => h)); have HB2 := Lib.hid (HB.out.fr hg (fun h => h)); clear hg)
  have c2 : w2.cell? ⟨q, 0, none⟩ = some (.slice A x0.length cap) := by rw [HB2.out.cell]; rfl
  have HP := Lib.hid (put_any (HS0.out.gr HG2.out) Hwf.out (by have := H7.out; omega))
  clear c0
  by_cases h0 : (checkE x0).1 = 0
  case neg =>
    rw [HY.out h0] at HP
    clear h0
    go_wp2_with (first
      | (go_at_call 13; refine HP.out.mono ?_; rintro e w3 ⟨tv, rfl, ho, hg⟩; have HG3 := Lib.hid (HG2.out.trans hg (fun _ _ h => h)); clear ho hg)
      | (go_at_call 8; refine (works_any _).mono ?_; rintro e wz ⟨rfl, hg⟩; have HGz := Lib.hid hg; clear hg))
    go_ret
    exact ⟨rfl, HG3.out.trans HGz.out (fun _ _ h => h)⟩
  obtain ⟨hp1, hp2, hp3, hp4, hp5⟩ := HX.out h0
  rw [hp1] at HP
  have Hbs := Lib.hid hp2
  have Hct := Lib.hid hp4
  have Hon := Lib.hid hp5
  have Hln := Lib.hid (show (fileB x0).length ≤ 30000 by have := H7.out; omega)
  clear hp1 hp2 hp3 hp4 hp5 h0 HX HY
  generalize fileB x0 = fb at HP Hbs Hct Hon Hln
  go_upto_region 4 with (go_at_call 13; refine HP.out.mono ?_; rintro e w3 ⟨tv, rfl, ho, hg⟩; have HO3 := Lib.hid ho; have HG3 := Lib.hid (HG2.out.trans hg (fun _ _ h => h)); have Hg3 := Lib.hid hg; clear ho hg)
  obtain ⟨At, cT, rfl⟩ := SL.form HO3.out.sl
  clear c2 HP
  by_cases hneg : at_ < 0
  · have e1 : decide (at_ < 0) = true := decide_eq_true hneg
    go_wp2_with (go_at_call 8; refine (works_any _).mono ?_; rintro e wz ⟨rfl, hg⟩; have HGz := Lib.hid hg; clear hg)
    go_ret
    exact ⟨rfl, HG3.out.trans HGz.out (fun _ _ h => h)⟩
  have e1 : decide (at_ < 0) = false := decide_eq_false hneg
  obtain ⟨m, rfl⟩ := Int.eq_ofNat_of_zero_le (by omega : 0 ≤ at_)
  by_cases hge : fb.length ≤ m
  · have e2 : decide (fb.length ≤ m) = true := decide_eq_true hge
    have e2' : decide ((m : Int) ≥ (fb.length : Int)) = true := decide_eq_true (by omega)
    have e2'' : decide ((fb.length : Int) ≤ (m : Int)) = true := decide_eq_true (by omega)
    go_wp2_with (go_at_call 8; refine (works_any _).mono ?_; rintro e wz ⟨rfl, hg⟩; have HGz := Lib.hid hg; clear hg)
    go_ret
    exact ⟨rfl, HG3.out.trans HGz.out (fun _ _ h => h)⟩
  have e2 : decide (fb.length ≤ m) = false := decide_eq_false hge
  have e2' : decide ((m : Int) ≥ (fb.length : Int)) = false := decide_eq_false (by omega)
  have e2'' : decide ((fb.length : Int) ≤ (m : Int)) = false := decide_eq_false (by omega)
  have hm : m < fb.length := by omega
  have hmi : (m : Int) < fb.length := by omega
  obtain ⟨i0, hi0, hz0, hz1, hz2⟩ := info_parts info_u8
  have hcT : fb.length ≤ cT := by obtain ⟨_, _, hv, hc, _⟩ := HO3.out.sl; injection hv with _ a b; omega
  have s6 : ∀ w, (Instr.slice 22 (.slice At fb.length cT) none (some (.int .i64 (m : Int))) none).run Try.prog w = .ok (.slice At m cT) w := fun w => run_slice_to (P := Try.prog) 22 5 i0 Try.underlying22 hi0 At fb.length cT m (by omega) w
  go_upto_region 6 with (fail)
  cases ct with
  | true =>
    go_upto_region 11 with (fail)
    have HSx := Lib.hid (HO3.out.sl.take (k := m) (by omega))
    have HBx := Lib.hid (show Leb.Bs (fb.take m) from fun c hc => Hbs.out c (List.mem_of_mem_take hc))
    have HGy := HG3
    obtain ⟨⟨ps, px, pe⟩, hrd⟩ : ∃ r, readE (fb.take m) = r := ⟨_, rfl⟩
    have hpe := Hct.out m hm
    rw [hrd] at hpe
    simp only at hpe
    have hps := read_nil hrd hpe
    subst hps
    have HGx := Lib.hid (get_any2 HSx.out HBx.out (by rw [List.length_take]; have := Hln.out; omega) [] px pe hrd)
    have hpe1 : (pe != 0) = true := bne_iff_ne.2 hpe
    clear hpe hrd
    go_upto_region 12 with (go_at_call 9; refine HGx.out.mono ?_; rintro e w7 ⟨Aw, cw, rfl, hs, _, hg⟩; have HG7 := Lib.hid (HGy.out.trans hg (fun _ _ h => h)); clear hs hg)
    have HB8 := Lib.hid (Blk.new w7 26 #[.slice Aw 0 cw])
    have HG8 := Lib.hid (HG7.out.alloc (.cells #[.slice Aw 0 cw] 26))
    obtain ⟨q8, hq8⟩ : ∃ q, w7.heap.size = q := ⟨_, rfl⟩
    try rw [List.length_nil]
    rw [hq8] at HB8 ⊢
    clear hq8
    generalize World.alloc w7 _ = w8 at HB8 HG8 ⊢
    have d8 : w8.cell? ⟨q8, 0, none⟩ = some (.slice Aw 0 cw) := by rw [HB8.out.cell]; rfl
    go_wp2_with (go_at_call 8; refine (works_any _).mono ?_; rintro e wz ⟨rfl, hg⟩; have HGz := Lib.hid hg; clear hg)
    go_ret
    exact ⟨rfl, HG8.out.trans HGz.out (fun _ _ h => h)⟩
  | false =>
    by_cases hb0 : by_ = 0
    · subst hb0
      go_wp2_with (go_at_call 8; refine (works_any _).mono ?_; rintro e wz ⟨rfl, hg⟩; have HGz := Lib.hid hg; clear hg)
      go_ret
      exact ⟨rfl, HG3.out.trans HGz.out (fun _ _ h => h)⟩
    have hb1' : (by_ == 0) = false := by simpa using hb0
    obtain ⟨d, hd, hd0, hd1, hdn⟩ := xor_ne (Hbs.out _ (List.getElem_mem hm)) Hby.out hb0
    have Hown := Lib.hid HO3.out
    obtain ⟨b1, o1, rfl, hb1, hc1⟩ := HO3.out.sl.at_ (s := 1) (fun _ => rfl) rfl hm
    have e3 : w3.cell? ⟨b1, o1 + m, none⟩ = some (.int .u8 fb[m]) := by
      have := hc1 0 (by omega)
      simpa [encB] using this
    have Hz := Lib.hid (own_frozen HO3.out)
    have z3 := Hz.out (o1 + m)
    have Hlt := Lib.hid (show w2.heap.size ≤ b1 from (HO3.out.lt b1 rfl).1)
    have HSx := Lib.hid (sl_set (d := d) HO3.out.sl hm)
    have HBx := Lib.hid (show Leb.Bs (fb.set m d) from fun c hc => by
      rcases List.mem_or_eq_of_mem_set hc with h | h
      · exact Hbs.out c h
      · subst h; exact ⟨hd0, hd1⟩)
    have HGy := Lib.hid (HG2.out.trans (show Gr w2 (w3.setCell ⟨b1, o1 + m, none⟩ (.int .u8 d)) from Hg3.out.setCell (p := ⟨b1, o1 + m, none⟩) (fun h => by have := Hlt.out; simp only at h; omega) _) (fun _ _ h => h))
    have Hne := Lib.hid (show fb.getD m 0 ≠ d by rw [List.getD_eq_getElem?_getD, List.getElem?_eq_getElem hm]; exact hdn)
    clear hc1
    generalize fb[m]'hm = cm at e3 hd
    go_upto_region 11 with (fail)
    obtain ⟨⟨ps, px, pe⟩, hrd⟩ : ∃ r, readE (fb.set m d) = r := ⟨_, rfl⟩
    have hpe := Hon.out m d hm ⟨hd0, hd1⟩ Hne.out
    rw [hrd] at hpe
    simp only at hpe
    have hps := read_nil hrd hpe
    subst hps
    have HGx := Lib.hid (get_any2 HSx.out HBx.out (by rw [List.length_set]; have := Hln.out; omega) [] px pe hrd)
    have hpe1 : (pe != 0) = true := bne_iff_ne.2 hpe
    clear hpe hrd
    go_upto_region 12 with (go_at_call 9; refine HGx.out.mono ?_; rintro e w7 ⟨Aw, cw, rfl, hs, _, hg⟩; have HG7 := Lib.hid (HGy.out.trans hg (fun _ _ h => h)); clear hs hg)
    have HB8 := Lib.hid (Blk.new w7 26 #[.slice Aw 0 cw])
    have HG8 := Lib.hid (HG7.out.alloc (.cells #[.slice Aw 0 cw] 26))
    obtain ⟨q8, hq8⟩ : ∃ q, w7.heap.size = q := ⟨_, rfl⟩
    try rw [List.length_nil]
    rw [hq8] at HB8 ⊢
    clear hq8
    generalize World.alloc w7 _ = w8 at HB8 HG8 ⊢
    have d8 : w8.cell? ⟨q8, 0, none⟩ = some (.slice Aw 0 cw) := by rw [HB8.out.cell]; rfl
    go_wp2_with (go_at_call 8; refine (works_any _).mono ?_; rintro e wz ⟨rfl, hg⟩; have HGz := Lib.hid hg; clear hg)
    go_ret
    exact ⟨rfl, HG8.out.trans HGz.out (fun _ _ h => h)⟩
end Go.Proofs.Ytmjpghaggnpdbaa
