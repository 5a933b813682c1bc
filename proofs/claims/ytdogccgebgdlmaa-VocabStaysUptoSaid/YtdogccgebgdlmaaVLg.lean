/- The walk of VocabStays. -/
import Derived.Test.YtdogccgebgdlmaaVWk
import Derived.Test.YtdogccgebgdlmaaVRd
import Derived.Test.YtdogccgebgdlmaaVGf
import Derived.Test.YtdogccgebgdlmaaFvoc
set_option linter.unusedVariables false
set_option linter.unusedSimpArgs false
namespace Go.Proofs.Ytdogccgebgdlmaa
open Go.RowKit
open Voc
theorem field_voc (A : Option Addr) (n c : Nat) (w : World) : (Instr.field 24 (.agg #[.slice A n c]) 0).run Try.prog w = .ok (.slice A n c) w := by kernel_rfl
set_option maxRecDepth 20000 in
set_option maxHeartbeats 8000000 in
theorem VocabStays_walk (w : World) (v : Value) (xs : List Pc) (hs : SL encP w v xs) (hw : ∀ x ∈ xs, wfP x) (hl : xs.length ≤ 1048576) (n : Int) (hn : (Lit.int .i64 n).wf = true) (m : Int) (hm : (Lit.int .i64 m).wf = true) :
    Calls Try.prog 9 #[.agg #[v], .int .i64 n, .int .i64 m] w fun e w' => e = .returned (.bool true) ∧ Gr w w' := by
  have HS := Lib.hid hs
  obtain ⟨A, cap, rfl⟩ := SL.form hs
  have HG := Lib.hid ((Fr.refl w NoneS).alloc (.cells #[.slice A xs.length cap] 24))
  have HB := Lib.hid (Blk.new w 24 #[.slice A xs.length cap])
  have HM := Lib.hid (many_any (HS.out.gr HG.out))
  have HE0 := Lib.hid (fun w' (hg : Gr w w') => copyVocab_any (hs.gr hg) hl)
  have HE1 := Lib.hid (fun w' k (hg : Gr w w') => Expand_any k (hs.gr hg) hw hl (Nat.le_trans (expE_le xs k) (by omega)))
  have HEc := Lib.hid (fun w' (hg : Gr w w') => check_any (hs.gr hg) hw hl)
  have HEf := Lib.hid (fun w' (hg : Gr w w') l r h1 h2 => find_any l r h1 h2 (hs.gr hg) hw hl)
  have HEb := Lib.hid (fun w' (hg : Gr w w') c h => byte_any c h (hs.gr hg) hw hl)
  have HX := Lib.hid (show (checkE xs).1 = 0 → (∀ k : Int, 0 ≤ k → k < xs.length → (sizeE xs k).2 = 0) ∧ (∀ i : Nat, i < xs.length → 1 ≤ (expE xs i).length) ∧ (∀ k : Nat, k ≤ xs.length → checkE (xs.take k) = (7, k) ∨ checkE (xs.take k) = (0, 0)) ∧
      (∀ (i : Nat) (q : Pc), xs[i]? = some q → q.j = true → (expE xs i = expE xs q.l ++ expE xs q.r ∧ (0 ≤ q.l ∧ q.l < xs.length) ∧ (0 ≤ q.r ∧ q.r < xs.length)) ∧ findE xs q.l q.r = some i) ∧
      (∀ (i : Nat) (q : Pc), xs[i]? = some q → q.j = false → expE xs i = [q.b] ∧ byteE xs q.b = ((i : Int), 0)) from fun h =>
    ⟨fun k h0 h1 => size_zero h h0 h1, fun i hi => expE_pos h (i + 1) i (by omega) hi, fun k hk => check_take h hk, fun i q hq hj => ⟨expE_join h hq hj, by unfold findE; rw [if_pos h]; exact fndF_good (good_of h).inv hq hj rfl rfl⟩,
      fun i q hq hj => ⟨expE_byte h hq hj, by unfold byteE; rw [if_pos h, tokF_good (good_of h).inv hq hj rfl]⟩⟩)
  have HW := Lib.hid hw
  have Hl := Lib.hid hl
  have Hle := Lib.hid (expE_le xs)
  obtain ⟨E, hE⟩ : ∃ E, (checkE xs).1 = E := ⟨_, rfl⟩
  rw [hE] at HEc HX
  generalize (checkE xs).2 = at_ at HEc
  clear hs hw hl hn hm hE
  go_enter Try.func9, Try.ntmps9
  go_upto_region 1 with (fail)
  generalize World.alloc w _ = w1 at HB HG HM ⊢
  obtain ⟨q, hq⟩ : ∃ q, w.heap.size = q := ⟨_, rfl⟩
  rw [hq] at HB ⊢
  have c0 : w1.cell? ⟨q, 0, none⟩ = some (.slice A xs.length cap) := by rw [HB.out.cell]; rfl
  clear hq
  by_cases h7 : 700 < xs.length
  · rw [decide_eq_true h7] at HM
    go_wp2_with (first
      | (go_at_call 11; refine HM.out.mono ?_; rintro e w2 ⟨rfl, hg⟩; have HG2 := Lib.hid hg; clear hg)
      | (go_at_call 13; refine (works_any w2).mono ?_; rintro e w3 ⟨rfl, hg⟩; have HG3 := Lib.hid hg; clear hg))
    go_ret
    exact ⟨rfl, (HG.out.trans HG2.out (fun _ _ h => h)).trans HG3.out (fun _ _ h => h)⟩
  rw [decide_eq_false h7] at HM
  have hx7 : (xs.length : Int) ≤ 700 := by omega
  have H7 := Lib.hid h7
  clear h7
  go_upto_region 3 with (go_at_call 11; refine HM.out.mono ?_; rintro e w2 ⟨rfl, hg⟩; have HG2 := Lib.hid (HG.out.trans hg (fun _ _ h => h)); have HB2 := Lib.hid (HB.out.fr hg (fun h => h)); clear hg)
  have c2 : w2.cell? ⟨q, 0, none⟩ = some (.slice A xs.length cap) := by rw [HB2.out.cell]; rfl
  go_upto_region 4 with (go_at_call 12; refine (HEc.out _ HG2.out).mono ?_; rintro e w3 ⟨rfl, hg⟩; have HG3 := Lib.hid (HG2.out.trans hg (fun _ _ h => h)); have HB3 := Lib.hid (HB2.out.fr hg (fun h => h)); clear hg)
  have c3 : w3.cell? ⟨q, 0, none⟩ = some (.slice A xs.length cap) := by rw [HB3.out.cell]; rfl
  clear c0 c2
  by_cases h0 : E = 0
  case neg =>
    have h1 : (E != 0) = true := bne_iff_ne.2 h0
    clear h0
    go_wp2_with (go_at_call 13; refine (works_any w3).mono ?_; rintro e w4 ⟨rfl, hg⟩; have HG4 := Lib.hid hg; clear hg)
    go_ret
    exact ⟨rfl, HG3.out.trans HG4.out (fun _ _ h => h)⟩
  subst h0
  obtain ⟨hz, hpos, htk, hjn, hby⟩ := HX.out rfl
  have Hz := Lib.hid hz
  have Hpos := Lib.hid hpos
  have Htk := Lib.hid htk
  have Hjn := Lib.hid hjn
  have Hby := Lib.hid hby
  clear hz hpos htk hjn hby HX
  by_cases hn0 : n < 0
  · go_wp2_with (go_at_call 13; refine (works_any w3).mono ?_; rintro e w4 ⟨rfl, hg⟩; have HG4 := Lib.hid hg; clear hg)
    go_ret
    exact ⟨rfl, HG3.out.trans HG4.out (fun _ _ h => h)⟩
  obtain ⟨i, rfl⟩ : ∃ i : Nat, n = i := ⟨n.toNat, by omega⟩
  clear hn0
  by_cases hn1 : i < xs.length
  case neg =>
    have hn2 : decide (xs.length ≤ i) = true := decide_eq_true (by omega)
    clear hn1
    go_wp2_with (go_at_call 13; refine (works_any w3).mono ?_; rintro e w4 ⟨rfl, hg⟩; have HG4 := Lib.hid hg; clear hg)
    go_ret
    exact ⟨rfl, HG3.out.trans HG4.out (fun _ _ h => h)⟩
  have hn2 : decide (xs.length ≤ i) = false := decide_eq_false (by omega)
  have hn3 : decide ((i : Int) < 0) = false := decide_eq_false (by omega)
  have Hn1 := Lib.hid hn1
  have hki : (i : Int) < xs.length := by omega
  have HE1i := Lib.hid (HE1.out w3 i HG3.out)
  rw [Hz.out i (by omega) hki] at HE1i
  have Hp1 := Lib.hid (Hpos.out i hn1)
  have Hp2 := Lib.hid (Hle.out i)
  obtain ⟨bs, hbs⟩ : ∃ bs, expE xs i = bs := ⟨_, rfl⟩
  rw [hbs] at HE1i Hp1 Hp2
  have Hbs := Lib.hid hbs
  clear hbs
  have hb1 : decide ((bs.length : Int) < 1) = false := decide_eq_false (by have := Hp1.out; omega)
  have hb2 : decide ((bs.length : Int) > 256) = false := decide_eq_false (by have := Hp2.out; omega)
  go_upto_region 9 with (go_at_call 19; refine HE1i.out.mono ?_; rintro e w4 ⟨vb, rfl, ho, hg, _⟩; have HO4 := Lib.hid ho; have HG4 := Lib.hid (HG3.out.trans hg (fun _ _ h => h)); have HB4 := Lib.hid (HB3.out.fr hg (fun h => h)); obtain ⟨Ab, cb, rfl⟩ := own_formN ho; have c4 := HB4.out.cell 0; clear hg ho)
  have HSL := Lib.hid (HS.out.gr HG4.out)
  obtain ⟨ba, oa, rfl, hba, hcell⟩ := HSL.out.at_ (s := 5) (fun _ => rfl) rfl hn1
  have d0 := hcell 0 (by omega)
  have d1 := hcell 1 (by omega)
  have d2 := hcell 2 (by omega)
  have d3 := hcell 3 (by omega)
  have d4 := hcell 4 (by omega)
  clear hcell
  simp [encP] at d0 d1 d2 d3 d4
  rw [← Nat.add_assoc] at d1 d2 d3 d4
  have Hget := Lib.hid (show xs[i]? = some (xs[i]'hn1) from List.getElem?_eq_getElem hn1)
  have Hwf := Lib.hid (HW.out _ (List.getElem_mem hn1))
  generalize xs[i]'hn1 = pc at d0 d1 d2 d3 d4 Hget Hwf
  clear hn1
  obtain ⟨jj, bb, l, r, kk⟩ := pc
  simp only at d0 d1 d2 d3 d4
  go_upto_region 10 with (fail)
  clear d0 d1 d2 d3 d4
  have HP5 := Lib.hid (Blk.new w4 TPc #[.bool jj, .int .u8 bb, .int .i64 l, .int .i64 r, .int .u32 kk])
  have HGx := Lib.hid ((Fr.refl w4 NoneS).alloc (.cells #[.bool jj, .int .u8 bb, .int .i64 l, .int .i64 r, .int .u32 kk] TPc))
  have HG5 := Lib.hid (HG4.out.trans HGx.out (fun _ _ h => h))
  have HB5 := Lib.hid (HB4.out.fr HGx.out (fun h => h))
  have HO5 := Lib.hid (HGx.out.owns HO4.out (fun _ _ h => h))
  obtain ⟨p, hp⟩ : ∃ p, w4.heap.size = p := ⟨_, rfl⟩
  rw [hp] at HP5 ⊢
  clear hp HGx c4 c3
  generalize World.alloc w4 _ = w5 at HP5 HG5 HB5 HO5 ⊢
  have e0 : w5.cell? ⟨q, 0, none⟩ = some (.slice (some ⟨ba, oa, none⟩) xs.length cap) := by rw [HB5.out.cell]; rfl
  have f0 : w5.cell? ⟨p, 0, none⟩ = some (.bool jj) := by rw [HP5.out.cell]; rfl
  go_upto_if 70 with (fail)
  clear f0
  go_cut [] (fun wx => Hid (Gr w5 wx))
  case first =>
    cases jj with
    | true =>
      obtain ⟨⟨hex, hlr, hrr⟩, hfd⟩ := Hjn.out i _ Hget.out rfl
      simp only at hex hlr hrr hfd
      rw [Hbs.out] at hex
      have f2 : w5.cell? ⟨p, 2, none⟩ = some (.int .i64 l) := by rw [HP5.out.cell]; rfl
      have HEl := Lib.hid (HE1.out w5 l HG5.out)
      have HEr := Lib.hid (fun w' (h : Gr w5 w') => HE1.out w' r (HG5.out.trans h (fun _ _ h => h)))
      rw [Hz.out l hlr.1 hlr.2] at HEl
      rw [Hz.out r hrr.1 hrr.2] at HEr
      have Hll := Lib.hid (Hle.out l)
      have Hrl := Lib.hid (Hle.out r)
      have HF := Lib.hid (fun w' (h : Gr w5 w') => HEf.out w' (HG5.out.trans h (fun _ _ h => h)) l r Hwf.out.2.1 Hwf.out.2.2.1)
      rw [hfd] at HF
      generalize expE xs l = bl at hex HEl Hll
      generalize expE xs r = br at hex HEr Hrl
      have Hex := Lib.hid hex
      clear hex hlr hrr hfd
      go_upto_region 12 with (go_at_call 19; refine HEl.out.mono ?_; rintro e w6 ⟨vl, rfl, ho, hg, _⟩; have HO6 := Lib.hid ho; have HG6 := Lib.hid hg; obtain ⟨Al, cl, rfl⟩ := own_formN ho; clear hg ho)
      have e6 : w6.cell? ⟨q, 0, none⟩ = some (.slice (some ⟨ba, oa, none⟩) xs.length cap) := by rw [(HB5.out.fr HG6.out (fun h => h)).cell]; rfl
      have f3 : w6.cell? ⟨p, 3, none⟩ = some (.int .i64 r) := by rw [(HP5.out.fr HG6.out (fun h => h)).cell]; rfl
      go_upto_region 13 with (go_at_call 19; refine (HEr.out _ HG6.out).mono ?_; rintro e w7 ⟨vr, rfl, ho, hg, _⟩; have HO7 := Lib.hid ho; have HO6' := Lib.hid (hg.owns HO6.out (fun _ _ h => h)); have HG7 := Lib.hid (HG6.out.trans hg (fun _ _ h => h)); obtain ⟨Ar, cr, rfl⟩ := own_formN ho; clear hg ho)
      have HSl := Lib.hid (show SL encB w7 (.slice Al bl.length cl) bl from SL.of_own HO6'.out rfl)
      have HSr := Lib.hid (show SL encB w7 (.slice Ar br.length cr) br from SL.of_own HO7.out rfl)
      obtain ⟨i0, hi0, hz0, hz1, hz2⟩ := info_parts info_u8
      go_upto_region 15 with (
        at_builtin
        refine wpList_append_sl _ encB rfl _ _ 37 rfl w7.heap.size 5 i0 (.int .u8 0) 1 1 Try.underlying37 hi0 hz0 hz1 hz2 rfl (by decide) (.slice none 0 0) 0 [] rfl (World.ownsRow_nil _ _ _ _) (.slice Al bl.length cl) bl rfl HSl.out (fun _ => rfl) encB_one (by have := Hll.out; simp only [maxLen]; omega) (by have := Hll.out; omega) (Nat.le_refl _) ?_
        intro v8 w8 ho hf hat
        rw [Nat.zero_add, List.nil_append] at ho
        have HO8 := Lib.hid ho
        have HG8 := Lib.hid (show Gr w7 w8 from hf.mono (fun i hi h => by simp [Value.ownBlock] at h))
        clear ho hf hat)
      go_upto_region 16 with (
        at_builtin
        refine wpList_append_sl _ encB rfl _ _ 37 rfl w7.heap.size 5 i0 (.int .u8 0) 1 1 Try.underlying37 hi0 hz0 hz1 hz2 rfl (by decide) v8 _ _ rfl HO8.out (.slice Ar br.length cr) br rfl (HSr.out.gr HG8.out) (fun _ => rfl) encB_one (by have := Hll.out; have := Hrl.out; simp only [maxLen]; omega) (by have := Hll.out; have := Hrl.out; omega) HG8.out.size ?_
        intro v9 w9 ho hf hat
        have HO9 := Lib.hid ho
        have HG9 := Lib.hid (show Gr w5 w9 from HG7.out.trans (HG8.out.trans hf (fun i hi h => by have := (HO8.out.lt i h).1; omega)) (fun _ _ h => h))
        clear ho hf hat)
      have e9 : w9.cell? ⟨q, 0, none⟩ = some (.slice (some ⟨ba, oa, none⟩) xs.length cap) := by rw [(HB5.out.fr HG9.out (fun h => h)).cell]; rfl
      have g2 : w9.cell? ⟨p, 2, none⟩ = some (.int .i64 l) := by rw [(HP5.out.fr HG9.out (fun h => h)).cell]; rfl
      have g3 : w9.cell? ⟨p, 3, none⟩ = some (.int .i64 r) := by rw [(HP5.out.fr HG9.out (fun h => h)).cell]; rfl
      have HSm0 := Lib.hid (fun wx (h : Gr w9 wx) => same_any (.slice Ab bs.length cb) v9 bs bs wx ((SL.of_own (enc := encB) HO5.out rfl).gr (HG9.out.trans h (fun _ _ h => h))) (SL.gr (by rw [Hex.out]; exact SL.of_own (enc := encB) (by have := HO9.out; rw [← List.flatMap_append] at this; exact this) (by rw [List.length_append])) h) (by have := Hp2.out; omega))
      go_upto_region 17 with (go_at_call 30; refine (HF.out _ HG9.out).mono ?_; rintro e wa ⟨rfl, hg⟩; have HGa := Lib.hid hg; clear hg)
      have HSm := Lib.hid (HSm0.out _ HGa.out)
      simp only [decide_true] at HSm
      have hii : ((i : Int) != fndV (some i)) = false := by simp [fndV]
      have hij : (fndV (some i)) = (i : Int) := rfl
      rw [hij]
      go_wp2_with (go_at_call 24; refine HSm.out.mono ?_; rintro e wb ⟨rfl, hg⟩; have HGb := Lib.hid hg.gr; clear hg)
      go_meet
      exact (HG9.out.trans HGa.out (fun _ _ h => h)).trans HGb.out (fun _ _ h => h)
    | false =>
      obtain ⟨hex, hbe⟩ := Hby.out i _ Hget.out rfl
      simp only at hex hbe
      rw [Hbs.out] at hex
      subst hex
      have f1 : w5.cell? ⟨p, 1, none⟩ = some (.int .u8 bb) := by rw [HP5.out.cell]; rfl
      have HEb' := Lib.hid (HEb.out w5 HG5.out bb Hwf.out.1)
      rw [hbe] at HEb'
      clear hbe
      go_upto_region 20 with (go_at_call 28; refine HEb'.out.mono ?_; rintro e w6 ⟨rfl, hg⟩; have HG6 := Lib.hid hg; clear hg)
      have g1 : w6.cell? ⟨p, 1, none⟩ = some (.int .u8 bb) := by rw [(HP5.out.fr HG6.out (fun h => h)).cell]; rfl
      have hGa := Lib.hid (show Gr w6 (w6.alloc (.cells #[.int .u8 bb] 5)) from (Fr.refl w6 NoneS).alloc _)
      have HSm := Lib.hid (same_any (.slice Ab [bb].length cb) (.slice (some ⟨w6.heap.size, 0, none⟩) 1 1) [bb] [bb] (w6.alloc (.cells #[.int .u8 bb] 5)) (((SL.of_own (enc := encB) HO5.out rfl).gr HG6.out).gr hGa.out) (sl_one (enc := encB) w6 bb _ rfl _) (show 1 ≤ 4194304 by omega))
      simp only [decide_true] at HSm
      go_wp2_with fail
      refine HSm.out.mono ?_
      rintro e w7 ⟨rfl, hg⟩
      have HG7 := Lib.hid ((HG6.out.trans hGa.out (fun _ _ h => h)).trans hg.gr (fun _ _ h => h))
      clear hg
      go_wp2_with fail
      go_meet
      exact HG7.out
  case rest =>
  have HG6 := Lib.hid (HG5.out.trans hcut.out (fun _ _ h => h))
  have HB6 := Lib.hid (HB5.out.fr hcut.out (fun h => h))
  have c6 : wc.cell? ⟨q, 0, none⟩ = some (.slice (some ⟨ba, oa, none⟩) xs.length cap) := by rw [HB6.out.cell]; rfl
  clear e0 hcut
  by_cases hm0 : m < 0
  · go_wp2_with (go_at_call 13; refine (works_any wc).mono ?_; rintro e w7 ⟨rfl, hg⟩; have HG7 := Lib.hid hg; clear hg)
    go_ret
    exact ⟨rfl, HG6.out.trans HG7.out (fun _ _ h => h)⟩
  obtain ⟨k, rfl⟩ : ∃ k : Nat, m = k := ⟨m.toNat, by omega⟩
  clear hm0
  have hk0 : decide ((k : Int) < 0) = false := decide_eq_false (by omega)
  by_cases hk1 : xs.length < k
  · have hk2 : decide (xs.length < k) = true := decide_eq_true hk1
    clear hk1
    go_wp2_with (go_at_call 13; refine (works_any wc).mono ?_; rintro e w7 ⟨rfl, hg⟩; have HG7 := Lib.hid hg; clear hg)
    go_ret
    exact ⟨rfl, HG6.out.trans HG7.out (fun _ _ h => h)⟩
  have hk2 : decide (xs.length < k) = false := decide_eq_false hk1
  have Hk := Lib.hid (show k ≤ xs.length by omega)
  clear hk1
  obtain ⟨j0, hj0, _, _, _⟩ := info_parts info_pc
  have hsl := fun (A' : Option Addr) (c' : Nat) (hc : k ≤ c') (w' : World) => run_slice_to (P := Try.prog) 22 TPc j0 Try.underlying22 hj0 A' xs.length c' k hc w'
  have Hsl := Lib.hid hsl
  have hfld := field_voc
  clear hsl hj0
  go_upto_region 25 with (go_at_call 18; refine (HE0.out _ HG6.out).mono ?_; rintro e w7 ⟨so, rfl, ho, hg⟩; have HO7 := Lib.hid ho; have HG7 := Lib.hid (HG6.out.trans hg (fun _ _ h => h)); obtain ⟨Ao, co, rfl⟩ := own_formN ho; have Hco := Lib.hid (SL.len (SL.of_own (enc := encP) ho rfl)); have hsl := fun w' => Hsl.out Ao co (by obtain ⟨A', c', h1, h2⟩ := Hco.out; injection h1 with _ h3 h4; have := Hk.out; omega) w'; clear hg ho)
  have HG8 := Lib.hid (HG7.out.alloc (.cells #[.slice Ao k co] 24))
  have HP8 := Lib.hid (Blk.new w7 24 #[.slice Ao k co])
  have HS8 := Lib.hid (show SL encP (w7.alloc (.cells #[.slice Ao k co] 24)) (.slice Ao k co) (xs.take k) from SL.take (SL.of_own (enc := encP) (HO7.out.alloc _) rfl) Hk.out)
  obtain ⟨p8, hp8⟩ : ∃ p, w7.heap.size = p := ⟨_, rfl⟩
  rw [hp8] at HP8 ⊢
  clear hp8
  generalize World.alloc w7 _ = w8 at HP8 HG8 HS8 ⊢
  have HCk := Lib.hid (check_any HS8.out (fun x hx => HW.out x (List.mem_of_mem_take hx)) (Nat.le_trans (List.length_take_le _ _) (by have := Hk.out; have := Hl.out; omega)))
  have c8 : w8.cell? ⟨p8, 0, none⟩ = some (.slice Ao k co) := by rw [HP8.out.cell]; rfl
  rcases Htk.out k Hk.out with hc | hc
  · rw [hc] at HCk
    clear hc
    go_wp2_with (first
      | (go_at_call 12; refine HCk.out.mono ?_; rintro e w9 ⟨rfl, hg⟩; have HG9 := Lib.hid (HG8.out.trans hg (fun _ _ h => h)); clear hg)
      | (go_at_call 13; refine (works_any w9).mono ?_; rintro e wa ⟨rfl, hg⟩; have HGa := Lib.hid hg; clear hg))
    go_ret
    exact ⟨rfl, HG9.out.trans HGa.out (fun _ _ h => h)⟩
  · rw [hc] at HCk
    clear hc
    go_wp2_with (first
      | (go_at_call 12; refine HCk.out.mono ?_; rintro e w9 ⟨rfl, hg⟩; have HG9 := Lib.hid (HG8.out.trans hg (fun _ _ h => h)); clear hg)
      | (go_at_call 13; refine (works_any w9).mono ?_; rintro e wa ⟨rfl, hg⟩; have HGa := Lib.hid hg; clear hg))
    go_ret
    exact ⟨rfl, HG9.out.trans HGa.out (fun _ _ h => h)⟩
end Go.Proofs.Ytdogccgebgdlmaa
