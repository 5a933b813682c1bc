/- record: Right. -/
import Derived.Test.YtobedpohoellkaaRWk
set_option linter.unusedVariables false
set_option linter.unusedSimpArgs false
namespace Go.Proofs.Ytobedpohoellkaa
open Go.RowKit
open Voc Leb Bpe
namespace Rec
set_option maxRecDepth 20000 in
set_option maxHeartbeats 1600000 in
theorem slEq_any (va vb : Value) (xs ys : List Int) (w : World) (ha : SL encI w va xs) (hb : SL encI w vb ys) (hx : xs.length ≤ 4194304) :
    Calls Try.prog 49 #[va, vb] w fun e w' => e = .returned (.bool (decide (xs = ys))) ∧ Gr w w' := by
  have HA := Lib.hid ha
  have HB := Lib.hid hb
  obtain ⟨A, ca, rfl, _⟩ := ha.len
  obtain ⟨B, cb, rfl, _⟩ := hb.len
  obtain ⟨R, hR⟩ : ∃ R, decide (xs = ys) = R := ⟨_, rfl⟩
  rw [hR]
  have HR := Lib.hid hR
  clear ha hb hR
  have hx' : (xs.length : Int) ≤ 4194304 := by omega
  by_cases hl : xs.length = ys.length
  case neg =>
    have hl1 : ((xs.length : Int) != (ys.length : Int)) = true := by rw [bne_iff_ne]; omega
    have Hf := Lib.hid (show R = false by rw [← HR.out]; exact decide_eq_false (fun h => hl (by rw [h])))
    clear hl
    go_enter Try.func49, Try.ntmps49
    go_wp2_with fail
    go_ret
    rw [Hf.out]
    exact ⟨rfl, Fr.refl _ _⟩
  have hl1 : ((xs.length : Int) != (ys.length : Int)) = false := by rw [bne_eq_false_iff_eq]; omega
  have Hl := Lib.hid hl
  clear hl
  go_enter Try.func49, Try.ntmps49
  go_wp2_with fail
  go_loopg [4, 13] (xs.length + 1) (fun m s4 s13 wr => ∃ k : Nat, s4 = .bool false ∧ s13 = .int .i64 k ∧ Hid (k ≤ xs.length ∧ xs.length - k < m ∧ xs.take k = ys.take k) ∧ Hid (Gr w wr))
  case atStart => exact ⟨0, rfl, rfl, ⟨Nat.zero_le _, by omega, rfl⟩, Fr.refl _ _⟩
  case round =>
    obtain ⟨k, rfl, rfl, HK, HD⟩ := hrel
    by_cases hk : k < xs.length
    · have hk2 : k < ys.length := by have := Hl.out; omega
      obtain ⟨b1, o1, rfl, hb1, hc1⟩ := (HA.out.gr HD.out).at_ (s := 1) (fun _ => rfl) rfl hk
      have d0 := hc1 0 (by omega)
      obtain ⟨b2, o2, rfl, hb2, hc2⟩ := (HB.out.gr HD.out).at_ (s := 1) (fun _ => rfl) rfl hk2
      have e0 := hc2 0 (by omega)
      simp [encI] at d0 e0
      have hki : (k : Int) < (xs.length : Int) := by omega
      have hki2 : (k : Int) < (ys.length : Int) := by omega
      have Htx := Lib.hid (List.take_succ_eq_append_getElem hk)
      have Hty := Lib.hid (List.take_succ_eq_append_getElem hk2)
      have Hne := Lib.hid (show xs[k]'hk ≠ ys[k]'hk2 → R = false from fun h => by
        rw [← HR.out]
        refine decide_eq_false (fun he => h ?_)
        subst he
        rfl)
      generalize xs[k]'hk = x at d0 Htx Hne
      generalize ys[k]'hk2 = y at e0 Hty Hne
      have Hk := Lib.hid hk
      clear hc1 hc2 hb1 hb2 hk hk2
      by_cases hxy : x = y
      · have hn1 : (x != y) = false := by rw [bne_eq_false_iff_eq]; exact hxy
        have Hxy := Lib.hid hxy
        clear hxy
        go_upto_region 6 with (fail)
        go_quiet (fail)
        go_wp2_with fail
        go_roundg (gk - 1)
        case measure => have := HK.out; have := Hk.out; omega
        case rel => exact ⟨k + 1, rfl, by go_num, ⟨Hk.out, by have := HK.out; have := Hk.out; omega, by rw [Htx.out, Hty.out, HK.out.2.2, Hxy.out]⟩, HD.out.drewN _⟩
      · have hn1 : (x != y) = true := bne_iff_ne.2 hxy
        have Hf := Lib.hid (Hne.out hxy)
        clear hxy
        go_upto_region 6 with (fail)
        go_quiet (fail)
        go_wp2_with fail
        go_ret
        rw [Hf.out]
        exact ⟨rfl, HD.out.drewN _⟩
    · have Hk := Lib.hid (show k = xs.length by have := HK.out; omega)
      have hki : decide ((k : Int) < (xs.length : Int)) = false := decide_eq_false (by omega)
      have Ht := Lib.hid (show R = true by
        rw [← HR.out]
        refine decide_eq_true ?_
        have h := HK.out.2.2
        rw [Hk.out, List.take_of_length_le (Nat.le_refl _), List.take_of_length_le (by rw [Hl.out]; exact Nat.le_refl _)] at h
        exact h)
      go_wp2_with fail
      go_ret
      rw [Ht.out]
      exact ⟨rfl, HD.out⟩
def rightE (xs : List Pc) (r : Rc) : Bool := decide ((docE xs r).2 = 0) && decide ((encE xs (docE xs r).1).1 = r.t)
theorem doc_bytes {xs : List Pc} (hw : ∀ q ∈ xs, wfP q) (r : Rc) : Bs (docE xs r).1 := by
  unfold docE
  split
  · intro c h; simp at h
  · split
    · intro c h; simp at h
    · exact dec_bytes hw _
theorem doc_len (xs : List Pc) (r : Rc) : (docE xs r).1.length ≤ 4096 := by
  unfold docE
  split
  · simp
  · split
    · simp
    · exact dec_len _ _
theorem doc_enc {xs : List Pc} {r : Rc} (h : (docE xs r).2 = 0) : (encE xs (docE xs r).1).2 = 0 := by
  have hc : (checkE xs).1 = 0 := by
    apply Decidable.byContradiction
    intro hc
    unfold docE at h
    have hd : (decE xs r.t).2 = 11 := by unfold decE; rw [if_pos hc]
    rw [hd, if_pos (by decide)] at h
    cases h
  unfold encE
  rw [if_neg (by rw [hc]; decide), if_neg (by have := doc_len xs r; omega)]
attribute [local go_sem ↓] loadAt_row35 loadVar_row35 loadCells_row35
set_option maxRecDepth 20000 in
set_option maxHeartbeats 4000000 in
theorem recRight_any {w : World} {v tv : Value} {xs : List Pc} {r : Rc} (HS : SL encP w v xs) (hw : ∀ q ∈ xs, wfP q) (hl : xs.length ≤ 1048576) (hd : r.d.length = 32) (ht : SL encI w tv r.t) (htl : r.t.length ≤ 1048576) :
    Calls Try.prog 28 #[.agg #[v], .agg (rcA r tv)] w fun e w' => e = .returned (.bool (rightE xs r)) ∧ Gr w w' := by
  obtain ⟨A, cap, rfl⟩ := SL.form HS
  obtain ⟨A2, cap2, rfl⟩ := SL.form ht
  have HB := Lib.hid ((Blk.new w 41 #[.slice A xs.length cap]).alloc (.cells (rcA r (.slice A2 r.t.length cap2)) TRc))
  have HG := Lib.hid (((Fr.refl w NoneS).alloc (.cells #[.slice A xs.length cap] 41)).alloc (.cells (rcA r (.slice A2 r.t.length cap2)) TRc))
  have HR := Lib.hid (Blk.new (w.alloc (.cells #[.slice A xs.length cap] 41)) TRc (rcA r (.slice A2 r.t.length cap2)))
  have hsz : (w.alloc (.cells #[.slice A xs.length cap] 41)).heap.size = w.heap.size + 1 := by simp
  rw [hsz] at HR
  clear hsz
  have HD := Lib.hid (fun wx (hg : Gr w wx) => recDoc_any (HS.gr hg) hw hl hd (ht.gr hg) htl)
  have HE := Lib.hid (fun wx bv (hg : Gr w wx) (hb : SL encB wx bv (docE xs r).1) => encode_any (HS.gr hg) hb hw (doc_bytes hw r) hl)
  have HEq := Lib.hid (fun wx lv (hg : Gr w wx) (hb : SL encI wx lv (encE xs (docE xs r).1).1) => slEq_any lv _ _ r.t wx hb (ht.gr hg) (by have := enc_len xs (docE xs r).1; have := doc_len xs r; omega))
  have Hde := Lib.hid (fun h => doc_enc (xs := xs) (r := r) h)
  have Hd := Lib.hid hd
  obtain ⟨R, hR⟩ : ∃ R, rightE xs r = R := ⟨_, rfl⟩
  rw [hR]
  have hRe := hR
  unfold rightE at hRe
  obtain ⟨⟨D, E⟩, hE⟩ : ∃ y, docE xs r = y := ⟨_, rfl⟩
  rw [hE] at HD HE HEq Hde hRe
  simp only at HD HE HEq Hde hRe
  obtain ⟨⟨L, F⟩, hF⟩ : ∃ y, encE xs D = y := ⟨_, rfl⟩
  rw [hF] at HE HEq Hde hRe
  simp only at HE HEq Hde hRe
  have HRe := Lib.hid hRe
  clear HS hw hl hd ht htl hE hR hRe hF
  obtain ⟨q1, hq1⟩ : ∃ q, w.heap.size = q := ⟨_, rfl⟩
  rw [hq1] at HB HR
  obtain ⟨q, hq⟩ : ∃ q, q1 + 1 = q := ⟨_, rfl⟩
  rw [hq] at HR
  go_enter Try.func28, Try.ntmps28
  go_upto_region 1 with (fail)
  clear hq hq1
  generalize hx : World.alloc (World.alloc w _) _ = wa at HG HB HR ⊢
  clear hx
  have c0 : wa.cell? ⟨q1, 0, none⟩ = some (.slice A xs.length cap) := by rw [HB.out.cell]; rfl
  have l0 := row35_rec HR.out Hd.out
  go_upto_region 2 with (go_at_call 26; refine (HD.out _ HG.out).mono ?_; rintro e w2 ⟨bv, rfl, ho, hg⟩; obtain ⟨Ab, cb, rfl⟩ := own_formN ho.own; have HO2 := Lib.hid ho.sl; have HG2 := Lib.hid (HG.out.trans hg (fun _ _ h => h)); have HR2 := Lib.hid (HR.out.fr hg (fun h => h)); have HB2 := Lib.hid (HB.out.fr hg (fun h => h)); clear ho hg)
  clear c0 l0
  by_cases hE0 : E = 0
  case neg =>
    have h := HRe.out
    rw [decide_eq_false hE0, Bool.false_and] at h
    have HRz := Lib.hid h.symm
    have he1 : (E != 0) = true := bne_iff_ne.2 hE0
    clear hE0 h
    go_wp2_with fail
    go_ret
    rw [HRz.out]
    exact ⟨rfl, HG2.out⟩
  subst hE0
  have hF0 := Hde.out rfl
  subst hF0
  have h := HRe.out
  rw [decide_eq_true rfl, Bool.true_and] at h
  rw [h] at HEq
  clear h HRe
  have c2 : w2.cell? ⟨q1, 0, none⟩ = some (.slice A xs.length cap) := by rw [HB2.out.cell]; rfl
  go_upto_region 5 with (go_at_call 42; refine (HE.out _ _ HG2.out HO2.out).mono ?_; rintro e w3 ⟨lv, rfl, ho, hg⟩; obtain ⟨Al, cl, rfl⟩ := own_formN ho.own; have HO3 := Lib.hid ho.sl; have HG3 := Lib.hid (HG2.out.trans hg (fun _ _ h => h)); have HR3 := Lib.hid (HR2.out.fr hg (fun h => h)); clear ho hg)
  have f34 : w3.cell? ⟨q, 34, none⟩ = some (.slice A2 r.t.length cap2) := by rw [HR3.out.cell]; exact rcA_t _ Hd.out
  clear c2
  go_wp2_with (go_at_call 49; refine (HEq.out _ _ HG3.out HO3.out).mono ?_; rintro e w4 ⟨rfl, hg⟩; have HG4 := Lib.hid (HG3.out.trans hg (fun _ _ h => h)); clear hg)
  go_ret
  exact ⟨rfl, HG4.out⟩
end Rec
end Go.Proofs.Ytobedpohoellkaa
