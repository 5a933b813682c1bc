/- record: the reference's Right. -/
import Derived.Test.YtobedpohoellkaaRWg
import Derived.Test.YtobedpohoellkaaRRd
set_option linter.unusedVariables false
set_option linter.unusedSimpArgs false
namespace Go.Proofs.Ytobedpohoellkaa
open Go.RowKit
open Voc Leb Bpe
namespace Rec
attribute [local go_sem ↓] loadAt_row35 loadVar_row35 loadCells_row35
set_option maxRecDepth 20000 in
set_option maxHeartbeats 4000000 in
theorem rrecRight_any {w : World} {v tv : Value} {xs : List Pc} {r : Rc} (HS : SL encP w v xs) (hw : ∀ q ∈ xs, wfP q) (hl : xs.length ≤ 1048576) (hd : r.d.length = 32) (ht : SL encI w tv r.t) (htl : r.t.length ≤ 1048576) :
    Calls Try.prog 29 #[.agg #[v], .agg (rcA r tv)] w fun e w' => e = .returned (.bool (rightE xs r)) ∧ Gr w w' := by
  obtain ⟨A, cap, rfl⟩ := SL.form HS
  obtain ⟨A2, cap2, rfl⟩ := SL.form ht
  have HB := Lib.hid ((Blk.new w 41 #[.slice A xs.length cap]).alloc (.cells (rcA r (.slice A2 r.t.length cap2)) TRc))
  have HG := Lib.hid (((Fr.refl w NoneS).alloc (.cells #[.slice A xs.length cap] 41)).alloc (.cells (rcA r (.slice A2 r.t.length cap2)) TRc))
  have HR := Lib.hid (Blk.new (w.alloc (.cells #[.slice A xs.length cap] 41)) TRc (rcA r (.slice A2 r.t.length cap2)))
  have hsz : (w.alloc (.cells #[.slice A xs.length cap] 41)).heap.size = w.heap.size + 1 := by simp
  rw [hsz] at HR
  clear hsz
  have HD := Lib.hid (fun wx (hg : Gr w wx) => rrecDoc_any (HS.gr hg) hw hl hd (ht.gr hg) htl)
  have HE := Lib.hid (fun wx bv (hg : Gr w wx) (hb : SL encB wx bv (docE xs r).1) => rencode_any (HS.gr hg) hb hw (doc_bytes hw r) hl (by have := doc_len xs r; omega))
  rw [encE_eq] at HE
  have HTt := Lib.hid ht
  have Hll := Lib.hid (show (encE xs (docE xs r).1).1.length ≤ 4096 from Nat.le_trans (enc_len xs (docE xs r).1) (doc_len xs r))
  have Htl := Lib.hid htl
  have Hde := Lib.hid (fun h => doc_enc (xs := xs) (r := r) h)
  have Hd := Lib.hid hd
  obtain ⟨R, hR⟩ : ∃ R, rightE xs r = R := ⟨_, rfl⟩
  rw [hR]
  have hRe := hR
  unfold rightE at hRe
  obtain ⟨⟨D, E⟩, hE⟩ : ∃ y, docE xs r = y := ⟨_, rfl⟩
  rw [hE] at HD HE Hll Hde hRe
  simp only at HD HE Hll Hde hRe
  obtain ⟨⟨L, F⟩, hF⟩ : ∃ y, encE xs D = y := ⟨_, rfl⟩
  rw [hF] at HE Hll Hde hRe
  simp only at HE Hll Hde hRe
  have HRe := Lib.hid hRe
  clear HS hw hl hd ht htl hE hR hRe hF
  obtain ⟨q1, hq1⟩ : ∃ q, w.heap.size = q := ⟨_, rfl⟩
  rw [hq1] at HB HR
  obtain ⟨q, hq⟩ : ∃ q, q1 + 1 = q := ⟨_, rfl⟩
  rw [hq] at HR
  go_enter Try.func29, Try.ntmps29
  go_upto_region 1 with (fail)
  clear hq hq1
  generalize hx : World.alloc (World.alloc w _) _ = wa at HG HB HR ⊢
  clear hx
  have c0 : wa.cell? ⟨q1, 0, none⟩ = some (.slice A xs.length cap) := by rw [HB.out.cell]; rfl
  have l0 := row35_rec HR.out Hd.out
  go_upto_region 2 with (go_at_call 27; refine (HD.out _ HG.out).mono ?_; rintro e w2 ⟨bv, rfl, ho, hg⟩; obtain ⟨Ab, cb, rfl⟩ := own_formN ho.own; have HO2 := Lib.hid ho.sl; have HG2 := Lib.hid (HG.out.trans hg (fun _ _ h => h)); have HR2 := Lib.hid (HR.out.fr hg (fun h => h)); have HB2 := Lib.hid (HB.out.fr hg (fun h => h)); clear ho hg)
  clear c0 l0
  by_cases hE0 : E = 0
  case neg =>
    have h := HRe.out
    rw [decide_eq_false hE0, Bool.false_and] at h
    have HRz := Lib.hid h.symm
    have he1 : (E != 0) = true := bne_iff_ne.2 hE0
    clear hE0 h
    go_wp2_with fail
    go_ret
    rw [HRz.out]
    exact ⟨rfl, HG2.out⟩
  subst hE0
  have hF0 := Hde.out rfl
  subst hF0
  have h := HRe.out
  rw [decide_eq_true rfl, Bool.true_and] at h
  have HRq := Lib.hid h
  clear h HRe
  have c2 : w2.cell? ⟨q1, 0, none⟩ = some (.slice A xs.length cap) := by rw [HB2.out.cell]; rfl
  go_upto_region 5 with (go_at_call 45; refine (HE.out _ _ HG2.out HO2.out).mono ?_; rintro e w3 ⟨lv, rfl, ho, hg⟩; obtain ⟨Al, cl, rfl⟩ := own_formN ho.own; have HO3 := Lib.hid ho.sl; have HG3 := Lib.hid (HG2.out.trans hg (fun _ _ h => h)); have HR3 := Lib.hid (HR2.out.fr hg (fun h => h)); clear ho hg)
  have HTt3 := Lib.hid (HTt.out.gr HG3.out)
  have hL1 : (L.length : Int) ≤ 4096 := by have := Hll.out; omega
  have ht1 : (r.t.length : Int) ≤ 1048576 := by have := Htl.out; omega
  have f34 : w3.cell? ⟨q, 34, none⟩ = some (.slice A2 r.t.length cap2) := by rw [HR3.out.cell]; exact rcA_t _ Hd.out
  clear c2
  by_cases hlen : L.length = r.t.length
  case neg =>
    have hl1 : ((L.length : Int) != (r.t.length : Int)) = true := by rw [bne_iff_ne]; omega
    have Hf := Lib.hid (show R = false by rw [← HRq.out]; exact decide_eq_false (fun h => hlen (by rw [h])))
    clear hlen
    go_wp2_with fail
    go_ret
    rw [Hf.out]
    exact ⟨rfl, HG3.out⟩
  have hl1 : ((L.length : Int) != (r.t.length : Int)) = false := by rw [bne_eq_false_iff_eq]; omega
  have Hlen := Lib.hid hlen
  clear hlen
  go_wp2_with fail
  go_loopg [4, 9] (L.length + 1) (fun m s4 s9 wr => ∃ k : Nat, s4 = .bool false ∧ s9 = .int .i64 k ∧ Hid (k ≤ L.length ∧ L.length - k < m ∧ L.take k = r.t.take k) ∧ Hid (Gr w3 wr))
  case atStart => exact ⟨0, rfl, rfl, ⟨Nat.zero_le _, by omega, rfl⟩, Fr.refl _ _⟩
  case round =>
    obtain ⟨k, rfl, rfl, HK, HDr⟩ := hrel
    by_cases hk : k < L.length
    · have hk2 : k < r.t.length := by have := Hlen.out; omega
      obtain ⟨b1, o1, rfl, hb1, hc1⟩ := (HO3.out.gr HDr.out).at_ (s := 1) (fun _ => rfl) rfl hk
      have d0 := hc1 0 (by omega)
      obtain ⟨b2, o2, rfl, hb2, hc2⟩ := (HTt3.out.gr HDr.out).at_ (s := 1) (fun _ => rfl) rfl hk2
      have e0 := hc2 0 (by omega)
      simp [encI] at d0 e0
      have g34 : wr.cell? ⟨q, 34, none⟩ = some (.slice (some ⟨b2, o2, none⟩) r.t.length cap2) := by rw [(HR3.out.fr HDr.out (fun h => h)).cell]; exact rcA_t _ Hd.out
      have hki : (k : Int) < (L.length : Int) := by omega
      have hki2 : (k : Int) < (r.t.length : Int) := by omega
      have Htx := Lib.hid (List.take_succ_eq_append_getElem hk)
      have Hty := Lib.hid (List.take_succ_eq_append_getElem hk2)
      have Hne := Lib.hid (show L[k]'hk ≠ (r.t)[k]'hk2 → R = false from fun h => by
        rw [← HRq.out]
        refine decide_eq_false (fun he => h ?_)
        subst he
        rfl)
      generalize L[k]'hk = x at d0 Htx Hne
      generalize (r.t)[k]'hk2 = y at e0 Hty Hne
      have Hk := Lib.hid hk
      clear hc1 hc2 hb1 hb2 hk hk2 f34
      by_cases hxy : x = y
      · have hn1 : (x != y) = false := by rw [bne_eq_false_iff_eq]; exact hxy
        have Hxy := Lib.hid hxy
        clear hxy
        go_upto_region 10 with (fail)
        go_quiet (fail)
        go_wp2_with fail
        go_roundg (gk - 1)
        case measure => have := HK.out; have := Hk.out; omega
        case rel => exact ⟨k + 1, rfl, by go_num, ⟨Hk.out, by have := HK.out; have := Hk.out; omega, by rw [Htx.out, Hty.out, HK.out.2.2, Hxy.out]⟩, HDr.out.drewN _⟩
      · have hn1 : (x != y) = true := bne_iff_ne.2 hxy
        have Hf := Lib.hid (Hne.out hxy)
        clear hxy
        go_upto_region 10 with (fail)
        go_quiet (fail)
        go_wp2_with fail
        go_ret
        rw [Hf.out]
        exact ⟨rfl, (HG3.out.trans HDr.out (fun _ _ h => h)).drewN _⟩
    · have Hk := Lib.hid (show k = L.length by have := HK.out; omega)
      have hki : decide ((k : Int) < (L.length : Int)) = false := decide_eq_false (by omega)
      have Ht := Lib.hid (show R = true by
        rw [← HRq.out]
        refine decide_eq_true ?_
        have h := HK.out.2.2
        rw [Hk.out, List.take_of_length_le (Nat.le_refl _), List.take_of_length_le (by rw [Hlen.out]; exact Nat.le_refl _)] at h
        exact h)
      go_wp2_with fail
      go_ret
      rw [Ht.out]
      exact ⟨rfl, HG3.out.trans HDr.out (fun _ _ h => h)⟩
end Rec
end Go.Proofs.Ytobedpohoellkaa
