/- The walk of VocabAll. -/
import Derived.Test.YtdogccgebgdlmaaVAc
import Derived.Test.YtdogccgebgdlmaaVWk
import Derived.Test.YtdogccgebgdlmaaVRd
set_option linter.unusedVariables false
set_option linter.unusedSimpArgs false
namespace Go.Proofs.Ytdogccgebgdlmaa
open Go.RowKit
open Voc
/-- what vocab.All answered, later on -/
def AllW (W : World) (f : Value) (xs : List Pc) : Prop :=
  (f = .func (.func 43) #[] #[] ∧ (checkE xs).1 ≠ 0) ∨
  ∃ (BO : Nat) (sv : Value), f = .func (.func 45) #[] #[.pointer (some ⟨BO, 0, none⟩)] ∧ (checkE xs).1 = 0 ∧ Blk W BO 24 #[sv] ∧ SL encP W sv xs ∧ ∀ k, sv.ownBlock = some k → k < W.heap.size
def wantL (xs : List Pc) : List (List Int) := if (checkE xs).1 = 0 then (List.range xs.length).map fun (i : Nat) => expE xs (i : Int) else []
theorem allV_toW {w w' W : World} {f : Value} {xs : List Pc} {S : Nat → Prop} (h : AllV w w' f xs) (hf : Fr w' W S) (hS : ∀ k, S k → k < w.heap.size) : AllW W f xs := by
  rcases h with h | ⟨BO, sv, h1, h2, h3, h4, h5⟩
  · exact .inl h
  · have h6 := hf.owns h5 (fun k hk hs => by have := (h5.lt k hk).1; have := hS k hs; omega)
    exact .inr ⟨BO, sv, h1, h2, h4.fr hf (fun hs => by have := hS _ hs; omega), SL.of_own h6 rfl, fun k hk => (h6.lt k hk).2⟩
theorem AllW.gr {w W : World} {f : Value} {xs : List Pc} (h : AllW w f xs) (hf : Gr w W) : AllW W f xs := by
  rcases h with h | ⟨BO, sv, h1, h2, h3, h4, h5⟩
  · exact .inl h
  · exact .inr ⟨BO, sv, h1, h2, h3.fr hf (fun h => h), h4.gr hf, fun k hk => Nat.lt_of_lt_of_le (h5 k hk) hf.size⟩
theorem overAll_any (W : World) {f : Value} {xs : List Pc} (hf : AllW W f xs) {vw : Value} {svs : List Value} (hw : RowsB W vw svs (wantL xs)) (stop : Int) (hs : (Lit.int .i64 stop).wf = true) :
    Calls Try.prog 35 #[f, vw, .int .i64 stop] W fun e w' => e = .returned (.tuple #[.int .i64 (if 0 ≤ stop ∧ stop < svs.length then stop else svs.length), .bool true]) ∧ Gr W w' := by
  have hl := hw.2.1
  rcases hf with ⟨rfl, h1⟩ | ⟨BO, sv, rfl, h2, h3, h4, h5⟩
  · unfold wantL at hw hl
    rw [if_neg h1] at hw hl
    rw [hl]
    exact over_any W [] (by simp) 43 #[] (enters_of Try.func43 (by kernel_rfl) rfl) (fun W0 _ => none_iter 2 _ _ _ _) vw svs hw stop hs
  · unfold wantL at hw hl
    rw [if_pos h2] at hw hl
    rw [hl, List.length_map, List.length_range]
    refine over_any W xs (by have := (good_of h2).len; omega) 45 _ (enters_of Try.func45 (by kernel_rfl) rfl) (fun W0 hg => ?_) vw svs hw stop hs
    exact all_iter 2 (by omega) xs h2 sv BO W.heap.size W0 h3.lt hg.size h5 (by rw [(h3.fr hg (fun h => h)).cell]; rfl) (h4.gr hg)
theorem row_pc {w : World} {B n cx : Nat} {Ax : Option Addr} {cs : List Value} (h : w.ownsRow B TPc 5 (.slice Ax n cx) n cs) : 0 < n → ∃ g cur, Ax = some ⟨g, 0, none⟩ ∧ Blk w g TPc cur ∧ n * 5 ≤ cur.size ∧ B ≤ g := by
  intro hn
  rcases h.2 with ⟨h1, h0⟩ | ⟨g, cap, cur, heq, hb, hg, hnc, hcm, hcs, htake⟩
  · omega
  · injection heq with e1 e2 e3
    subst e1 e3
    exact ⟨g, cur, rfl, hg, by rw [hcs]; exact Nat.mul_le_mul_right _ hnc, hb⟩
set_option maxRecDepth 20000 in
set_option maxHeartbeats 8000000 in
theorem VocabAll_walk (w : World) (v : Value) (xs : List Pc) (hs : SL encP w v xs) (hw : ∀ x ∈ xs, wfP x) (hl : xs.length ≤ 1048576) (n : Int) (hn : (Lit.int .i64 n).wf = true) :
    Calls Try.prog 10 #[.agg #[v], .int .i64 n] w fun e w' => e = .returned (.bool true) ∧ Gr w w' := by
  have HS := Lib.hid hs
  obtain ⟨A, cap, rfl⟩ := SL.form hs
  have HG := Lib.hid ((Fr.refl w NoneS).alloc (.cells #[.slice A xs.length cap] 24))
  have HB := Lib.hid (Blk.new w 24 #[.slice A xs.length cap])
  have HM := Lib.hid (many_any (HS.out.gr HG.out))
  have Hw := Lib.hid hw
  have Hl := Lib.hid hl
  have Hn := Lib.hid hn
  clear hs hw hl hn
  go_enter Try.func10, Try.ntmps10
  go_upto_region 1 with (fail)
  generalize World.alloc w _ = w1 at HG HB HM ⊢
  obtain ⟨q, hq⟩ : ∃ q, w.heap.size = q := ⟨_, rfl⟩
  rw [hq] at HB ⊢
  have c0 : w1.cell? ⟨q, 0, none⟩ = some (.slice A xs.length cap) := by rw [HB.out.cell]; rfl
  clear hq
  by_cases h7 : 700 < xs.length
  · rw [decide_eq_true h7] at HM
    go_wp2_with (first
      | (go_at_call 11; refine HM.out.mono ?_; rintro e w2 ⟨rfl, hg⟩; have HG2 := Lib.hid hg; clear hg)
      | (go_at_call 13; refine (works_any w2).mono ?_; rintro e w3 ⟨rfl, hg⟩; have HG3 := Lib.hid hg; clear hg))
    go_ret
    exact ⟨rfl, (HG.out.trans HG2.out (fun _ _ h => h)).trans HG3.out (fun _ _ h => h)⟩
  rw [decide_eq_false h7] at HM
  have hx7 : (xs.length : Int) ≤ 700 := by omega
  have H7 := Lib.hid h7
  clear h7
  go_upto_region 3 with (go_at_call 11; refine HM.out.mono ?_; rintro e w2 ⟨rfl, hg⟩; have HG2 := Lib.hid (HG.out.trans hg (fun _ _ h => h)); have HB2 := Lib.hid (HB.out.fr hg (fun h => h)); clear hg)
  clear c0
  go_upto_region 4 with (fail)
  have HGx := Lib.hid (HG2.out.alloc (.cells #[] 37))
  have HBx := Lib.hid (HB2.out.alloc (.cells #[] 37))
  have Hrow0 := Lib.hid (show SL encRow (w2.alloc (.cells #[] 37)) (.slice (some ⟨w2.heap.size, 0, none⟩) 0 0) [] from ⟨_, _, rfl, Nat.le_refl _, fun h => absurd h (by simp)⟩)
  generalize World.alloc w2 _ = w3 at HGx HBx Hrow0 ⊢
  generalize w2.heap.size = pw at Hrow0 ⊢
  have c3 : w3.cell? ⟨q, 0, none⟩ = some (.slice A xs.length cap) := by rw [HBx.out.cell]; rfl
  obtain ⟨bm, hbm⟩ : ∃ b, decide ((checkE xs).1 = 0) = b := ⟨_, rfl⟩
  have Hbm := Lib.hid hbm
  have HMy := Lib.hid (may_any (HS.out.gr HGx.out) Hw.out Hl.out bm hbm)
  clear hbm
  go_upto_if 18 with (go_at_call 32; refine HMy.out.mono ?_; rintro e w4 ⟨rfl, hg⟩; have HG4 := Lib.hid (HGx.out.trans hg (fun _ _ h => h)); have HB4 := Lib.hid (HBx.out.fr hg (fun h => h)); have Hrow4 := Lib.hid (Hrow0.out.gr hg); clear hg)
  have c4 : w4.cell? ⟨q, 0, none⟩ = some (.slice A xs.length cap) := by rw [HB4.out.cell]; rfl
  clear c3
  go_cut [5] (fun s5 wx => ∃ (vw : Value) (svs : List Value), vw = s5 ∧ Hid (RowsB wx vw svs (wantL xs)) ∧ Hid (Gr w4 wx))
  case first =>
    cases bm with
    | true =>
      have hc : (checkE xs).1 = 0 := of_decide_eq_true Hbm.out
      have HA := Lib.hid (rAll_any (HS.out.gr HG4.out) hc)
      have Hc := Lib.hid hc
      clear hc
      go_wp2_with (go_at_call 33; refine HA.out.mono ?_; rintro e w5 ⟨vw, svs, rfl, hr, hg⟩; have HR5 := Lib.hid hr; have HG5 := Lib.hid hg; clear hr hg)
      go_meet
      exact ⟨vw, svs, rfl, by unfold wantL; rw [if_pos Hc.out]; exact HR5.out, HG5⟩
    | false =>
      have hc : (checkE xs).1 ≠ 0 := of_decide_eq_false Hbm.out
      have Hc := Lib.hid hc
      clear hc
      go_wp2_with fail
      go_meet
      exact ⟨_, [], rfl, by unfold wantL; rw [if_neg Hc.out]; exact ⟨Hrow4.out, rfl, fun i s l h => by cases h⟩, Fr.refl _ _⟩
  obtain ⟨vw, svs, rfl, HR5, hg5⟩ := hcut
  have HG5 := Lib.hid (HG4.out.trans hg5.out (fun _ _ h => h))
  have HB5 := Lib.hid (HB4.out.fr hg5.out (fun h => h))
  have c5 : wc.cell? ⟨q, 0, none⟩ = some (.slice A xs.length cap) := by rw [HB5.out.cell]; rfl
  obtain ⟨Aw, cw, rfl⟩ := SL.form HR5.out.1
  clear c4 HG4 HB4 hg5 Hrow4 HMy Hrow0
  go_at_K
  go_upto_region 7 with (go_at_call 18; refine (copyVocab_any (HS.out.gr HG5.out) Hl.out).mono ?_; rintro e w6 ⟨sv, rfl, ho, hg⟩; obtain ⟨Av, cv, rfl⟩ := own_formN ho; have HO6 := Lib.hid ho; have HG6 := Lib.hid (HG5.out.trans hg (fun _ _ h => h)); have HK6 := Lib.hid hg; clear ho hg)
  have HC7 := Lib.hid (Blk.new w6 24 #[.slice Av xs.length cv])
  have HK7 := Lib.hid (HK6.out.alloc (.cells #[.slice Av xs.length cv] 24))
  have HO7 := Lib.hid (HO6.out.alloc (.cells #[.slice Av xs.length cv] 24))
  generalize w6.heap.size = p6 at HC7 ⊢
  generalize World.alloc w6 _ = w7 at HC7 HK7 HO7 ⊢
  have c7 : w7.cell? ⟨p6, 0, none⟩ = some (.slice Av xs.length cv) := by rw [HC7.out.cell]; rfl
  clear c5 HO6 HK6 HG6
  go_upto_region 8 with (go_at_call 34; refine (All_any (SL.of_own HO7.out rfl) Hw.out Hl.out).mono ?_; rintro e w8 ⟨f, rfl, hv, hg⟩; have HV8 := Lib.hid hv; have HK8 := Lib.hid (HK7.out.trans hg (fun _ _ h => h)); have HO8 := Lib.hid (hg.owns HO7.out (fun _ _ h => h)); have HC8 := Lib.hid (HC7.out.fr hg (fun h => h)); have Hsz := Lib.hid hg.size; clear hv hg)
  have Hrow := Lib.hid (row_pc HO8.out)
  have HXl := Lib.hid (fun k hk => HO7.out.lt k hk)
  clear HO8 c7
  go_wp2_with fail
  go_loopg [8] (xs.length + 1) (fun m s8 wr => ∃ k : Nat, s8 = .int .i64 k ∧ Hid (k ≤ xs.length ∧ xs.length - k < m) ∧ Hid (0 < xs.length → ∃ g cur, Av = some ⟨g, 0, none⟩ ∧ Blk wr g TPc cur ∧ xs.length * 5 ≤ cur.size ∧ wc.heap.size ≤ g) ∧ Hid (Blk wr p6 24 #[.slice Av xs.length cv]) ∧ Hid (Gr wc wr) ∧ Hid (Fr w8 wr (fun j => j < w7.heap.size)))
  case atStart => exact ⟨0, rfl, ⟨Nat.zero_le _, by omega⟩, Hrow.out, HC8.out, HK8.out, Fr.refl _ _⟩
  case round =>
    obtain ⟨k, rfl, HK, HR, HE, HD, HF⟩ := hrel
    by_cases hk : k < xs.length
    · have hki : (k : Int) < (xs.length : Int) := by omega
      obtain ⟨g, cur, hAx, hcur, hcs, hgl⟩ := HR.out (by omega)
      subst hAx
      have Hcur := Lib.hid hcur
      have Hcs := Lib.hid (And.intro hcs hgl)
      have c9 : wr.cell? ⟨p6, 0, none⟩ = some (.slice (some ⟨g, 0, none⟩) xs.length cv) := by rw [HE.out.cell]; rfl
      have Hpg := Lib.hid (show p6 ≠ g from HE.out.ne_ hcur (by decide))
      have Hk := Lib.hid hk
      have Hg7 := Lib.hid (HXl.out g rfl)
      have hcell : ∀ j, j < 5 → ∃ u, wr.cell? ⟨g, k * 5 + j, none⟩ = some u := fun j hj => by
        refine ⟨cur[k * 5 + j]'(by omega), ?_⟩
        rw [hcur.cell, Array.getElem?_eq_getElem (by omega)]
      obtain ⟨u0, d0⟩ := hcell 0 (by omega)
      obtain ⟨u1, d1⟩ := hcell 1 (by omega)
      obtain ⟨u2, d2⟩ := hcell 2 (by omega)
      obtain ⟨u3, d3⟩ := hcell 3 (by omega)
      obtain ⟨u4, d4⟩ := hcell 4 (by omega)
      have z0 := hcur.frozen (k * 5 + 0)
      have z1 := hcur.frozen (k * 5 + 1)
      have z2 := hcur.frozen (k * 5 + 2)
      have z3 := hcur.frozen (k * 5 + 3)
      have z4 := hcur.frozen (k * 5 + 4)
      rw [Nat.add_zero] at d0 z0
      clear hk hcur hcs hgl hcell
      go_wp2_with fail
      go_roundg (gk - 1)
      case measure => have := HK.out; have := Hk.out; omega
      case rel =>
        have hge := Hg7.out
        refine ⟨k + 1, by go_num, ⟨Hk.out, by have := HK.out; have := Hk.out; omega⟩, ?_, ?_, ?_, ?_⟩
        · exact fun _ => ⟨g, _, rfl, ((((Hcur.out.set_ _ _).set_ _ _).set_ _ _).set_ _ _).set_ _ _, by simp only [Array.size_setIfInBounds]; exact Hcs.out.1, Hcs.out.2⟩
        · exact ((((HE.out.far Hpg.out _).far Hpg.out _).far Hpg.out _).far Hpg.out _).far Hpg.out _
        · iterate 5 refine Fr.setCell ?_ (fun h => by have := Hcs.out.2; simp only at h; omega) _
          exact HD.out
        · iterate 5 refine Fr.setCell ?_ (fun _ => Hg7.out.2) _
          exact HF.out
    · have hkl : k = xs.length := by have := HK.out; omega
      subst hkl
      have HA := Lib.hid (allV_toW HV8.out HF.out (fun _ h => h))
      have HR9 := Lib.hid (HR5.out.gr HD.out)
      have HG9 := Lib.hid (HG5.out.trans HD.out (fun _ _ h => h))
      have c9 : wr.cell? ⟨p6, 0, none⟩ = some (.slice Av xs.length cv) := by rw [HE.out.cell]; rfl
      clear HR HD HF Hrow HC8 HV8 HK8 HO7 HK7 HC7
      have hxr : (svs.length : Int) ≤ 700 := by
        have h := HR9.out.2.1
        unfold wantL at h
        rw [h]
        split
        · simp; omega
        · simp
      have Hxr := Lib.hid hxr
      obtain ⟨r1, hr1⟩ : ∃ r, r = (if 0 ≤ n ∧ n < svs.length then n else (svs.length : Int)) := ⟨_, rfl⟩
      have HO1 := Lib.hid (overAll_any wr HA.out HR9.out n Hn.out)
      rw [← hr1] at HO1
      have HO2 := Lib.hid (fun W (h : Gr wr W) => overAll_any W (HA.out.gr h) (HR9.out.gr h) (-1) (by decide))
      have hm1 : (if (0 : Int) ≤ -1 ∧ (-1 : Int) < svs.length then (-1 : Int) else (svs.length : Int)) = svs.length := if_neg (by omega)
      rw [hm1] at HO2
      have Hr1 := Lib.hid hr1
      clear hr1 hm1 hxr
      go_upto_region 14 with (first
        | (go_at_call 35; refine HO1.out.mono ?_; rintro e wa ⟨rfl, hg⟩; have HGa := Lib.hid hg; clear hg; have HO1 := 0)
        | (go_at_call 35; refine (HO2.out _ HGa.out).mono ?_; rintro e wb ⟨rfl, hg⟩; have HGb := Lib.hid (HGa.out.trans hg (fun _ _ h => h)); clear hg))
      have Hfin := Lib.hid (HG9.out.trans HGb.out (fun _ _ h => h))
      by_cases h1 : n < 0
      · go_wp2_with (go_at_call 13; refine (works_any _).mono ?_; rintro e wz ⟨rfl, hg⟩; have HGz := Lib.hid hg; clear hg)
        go_ret
        exact ⟨rfl, Hfin.out.trans HGz.out (fun _ _ h => h)⟩
      · by_cases h2 : (svs.length : Int) ≤ n
        · have h3 : decide (n < 0) = false := decide_eq_false h1
          clear h1
          go_wp2_with (go_at_call 13; refine (works_any _).mono ?_; rintro e wz ⟨rfl, hg⟩; have HGz := Lib.hid hg; clear hg)
          go_ret
          exact ⟨rfl, Hfin.out.trans HGz.out (fun _ _ h => h)⟩
        · have hr : r1 = n := by rw [Hr1.out, if_pos ⟨by omega, by omega⟩]
          subst hr
          clear Hr1
          have h3 : decide (r1 < 0) = false := decide_eq_false h1
          have h4 : decide ((svs.length : Int) ≤ r1) = false := decide_eq_false h2
          clear h1 h2
          go_wp2_with (go_at_call 13; refine (works_any _).mono ?_; rintro e wz ⟨rfl, hg⟩; have HGz := Lib.hid hg; clear hg)
          go_ret
          exact ⟨rfl, Hfin.out.trans HGz.out (fun _ _ h => h)⟩
end Go.Proofs.Ytdogccgebgdlmaa
