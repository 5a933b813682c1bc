/- sha: the walk of ShaTexts. -/
import Derived.Test.YtfpgfnmidkkgjaaHRg
import Derived.Deep.RegionHeld3
set_option linter.unusedVariables false
set_option linter.unusedSimpArgs false
namespace Go.Proofs.Ytfpgfnmidkkgjaa
open Go.RowKit
namespace Sha

theorem txl_get (d : List B) (n j r : Nat) (hj : j < n) (hr : r < 2) : (txl d n)[j * 2 + r]? = ([hi4 (d.getD j 0), lo4 (d.getD j 0)] : List B)[r]? := by
  unfold txl
  rw [get_flatMap _ 2 (fun _ => rfl) _ j r hr, List.getElem?_range hj]
  rfl
theorem txt_hi (d : List B) (j : Nat) (hj : j < 32) : (txt d)[2 * j]? = some (hi4 (d.getD j 0)) := by
  rw [← txl_txt, show 2 * j = j * 2 + 0 by omega, txl_get d 32 j 0 hj (by omega)]; rfl
theorem txt_lo (d : List B) (j : Nat) (hj : j < 32) : (txt d)[2 * j + 1]? = some (lo4 (d.getD j 0)) := by
  rw [← txl_txt, show 2 * j + 1 = j * 2 + 1 by omega, txl_get d 32 j 1 hj (by omega)]; rfl
theorem txt_len (d : List B) : (txt d).length = 64 := txtI_len d 32
theorem chr_str (l : List B) (k : Nat) (x : B) (h : l[k]? = some x) : chr (str l) k = x := by
  unfold chr str
  rw [List.getD_eq_getElem?_getD]
  simp [h]
theorem str_size (l : List B) : (str l).size = l.length := by simp [str, ByteArray.size]
theorem hv_hi (c : B) : hv (hi4 c) = c.toNat / 16 := by have := c.isLt; exact hv_dg ⟨c.toNat / 16, by omega⟩
theorem hv_lo (c : B) : hv (lo4 c) = c.toNat % 16 := hv_dg ⟨c.toNat % 16, by omega⟩
theorem good_txt (d : List B) : Good (str (txt d)) := by
  refine ⟨by rw [str_size, txt_len], fun j hj => ?_⟩
  unfold GoodAt
  rw [chr_str _ _ _ (txt_hi d j hj), chr_str _ _ _ (txt_lo d j hj), hv_hi, hv_lo]
  have := (d.getD j 0).isLt
  omega
theorem prs_txt (d : List B) (hd : d.length = 32) : prs (str (txt d)) = d := by
  apply List.ext_getElem (by rw [prs_len, hd])
  intro j h1 h2
  have hj : j < 32 := by rw [← hd]; exact h2
  have e := prs_get (str (txt d)) j hj
  rw [List.getD_eq_getElem?_getD, List.getElem?_eq_getElem h1] at e
  have e' : (prs (str (txt d)))[j] = nib (str (txt d)) j := e
  refine Eq.trans e' ?_
  unfold nib
  rw [chr_str _ _ _ (txt_hi d j hj), chr_str _ _ _ (txt_lo d j hj), hv_hi, hv_lo]
  have e3 : d.getD j 0 = d[j] := by rw [List.getD_eq_getElem?_getD, List.getElem?_eq_getElem h2]; rfl
  rw [e3]
  apply BitVec.eq_of_toNat_eq
  rw [BitVec.toNat_ofNat]
  have := (d[j]).isLt
  omega
theorem nib_nat (s : ByteArray) (j : Nat) (h : GoodAt s j) : (nib s j).toNat = 16 * hv (chr s (2 * j)) + hv (chr s (2 * j + 1)) := by
  have h1 := hv_le (chr s (2 * j))
  have h2 := hv_le (chr s (2 * j + 1))
  obtain ⟨h3, h4⟩ := h
  unfold nib
  rw [BitVec.toNat_ofNat]
  omega
theorem chr_data (s : ByteArray) (k : Nat) (h : k < s.size) : s.data.toList[k]? = some (UInt8.ofBitVec (chr s k)) := by
  have h' : k < s.data.toList.length := by simpa using h
  unfold chr
  rw [List.getD_eq_getElem?_getD, List.getElem?_eq_getElem h']
  rfl
theorem txt_prs (s : ByteArray) (h : Good s) : str (txt (prs s)) = s := by
  have hl : (txt (prs s)).map UInt8.ofBitVec = s.data.toList := by
    apply List.ext_getElem?
    intro k
    by_cases hk : k < 64
    · obtain ⟨j, hj, he⟩ : ∃ j, j < 32 ∧ (k = 2 * j ∨ k = 2 * j + 1) := ⟨k / 2, by omega, by omega⟩
      have h1 := hv_le (chr s (2 * j))
      have h2 := hv_le (chr s (2 * j + 1))
      have hg := h.2 j hj
      have hn := nib_nat s j hg
      obtain ⟨h3, h4⟩ := hg
      rcases he with rfl | rfl
      · rw [List.getElem?_map, txt_hi _ j hj, prs_get s j hj, chr_data s _ (by rw [h.1]; omega)]
        unfold hi4
        rw [hn, show (16 * hv (chr s (2 * j)) + hv (chr s (2 * j + 1))) / 16 = hv (chr s (2 * j)) by omega, dg_hv _ h3]
        rfl
      · rw [List.getElem?_map, txt_lo _ j hj, prs_get s j hj, chr_data s _ (by rw [h.1]; omega)]
        unfold lo4
        rw [hn, show (16 * hv (chr s (2 * j)) + hv (chr s (2 * j + 1))) % 16 = hv (chr s (2 * j + 1)) by omega, dg_hv _ h4]
        rfl
    · rw [List.getElem?_eq_none (by rw [List.length_map, txt_len]; omega), List.getElem?_eq_none (by have := h.1; simp; omega)]
  unfold str
  rw [hl]
theorem pd_len (s : ByteArray) : (pd s).length = 32 := by
  unfold pd; split
  · exact prs_len s
  · simp
/-- the state in the last region -/
structure PT (w wx : World) (p2 p5 p7 p9 : Nat) (d x : List B) : Prop where
  gr : Gr w wx
  b2 : Blk wx p2 TD (brr d)
  b5 : Blk wx p5 TD (brr x)
  b7 : Blk wx p7 TD (brr x)
  b9 : Blk wx p9 TD (brr d)
theorem PT.gr' {w wx wy : World} {p2 p5 p7 p9 : Nat} {d x : List B} (H : PT w wx p2 p5 p7 p9 d x) (hg : Gr wx wy) : PT w wy p2 p5 p7 p9 d x :=
  ⟨H.gr.trans hg (fun _ _ h => h), H.b2.fr hg (fun h => h), H.b5.fr hg (fun h => h), H.b7.fr hg (fun h => h), H.b9.fr hg (fun h => h)⟩
theorem PT.rows {w wx : World} {p2 p5 p7 p9 : Nat} {d x : List B} (H : PT w wx p2 p5 p7 p9 d x) (hd : d.length = 32) (hx : x.length = 32) :
    row32 wx p2 0 = some (brr d) ∧ row32 wx p5 0 = some (brr x) ∧ row32 wx p7 0 = some (brr x) ∧ row32 wx p9 0 = some (brr d) :=
  ⟨row32_blk H.b2 hd, row32_blk H.b5 hx, row32_blk H.b7 hx, row32_blk H.b9 hd⟩
end Sha
open Sha
attribute [local go_sem ↓] loadAt_row32 loadVar_row32 loadCells_row32

set_option maxHeartbeats 6400000 in
set_option maxRecDepth 100000 in
theorem ShaTexts_any (w : World) (d : List B) (hd : d.length = 32) (s : ByteArray) :
    Calls Try.prog 9 #[.agg (brr d), .string s] w fun e w' => e = .returned (.bool true) ∧ Gr w w' := by
  have HE1 := fun w => eql_d d hd w
  have HE2 := fun w => eql_d (pd s) (pd_len s) w
  have Hd := Lib.hid hd
  have Hx := Lib.hid (pd_len s)
  have HB2 := Lib.hid (Blk.new w TD (brr d))
  have HG1 := Lib.hid ((Fr.refl w NoneS).alloc (.cells (brr d) TD))
  have Htt := Lib.hid (show pd (str (txt d)) = d ∧ pe (str (txt d)) = 0 from by
    have h := good_good (good_txt d)
    rw [prs_txt d hd] at h
    exact h)
  have Hps := Lib.hid (show Sha.Good s → pe s = 0 ∧ str (txt (pd s)) = s from fun h => by
    have h1 := good_good h
    exact ⟨h1.2, by rw [h1.1]; exact txt_prs s h⟩)
  have Hpb := Lib.hid (fun h : ¬ Sha.Good s => (good_bad h).2)
  have Hp1 := Lib.hid (parse_any s)
  have Hp2 := Lib.hid (rparse_any s)
  have Ht1 := Lib.hid (text_any d hd)
  have Ht2 := Lib.hid (rtext_any d hd)
  have Ht3 := Lib.hid (text_any (pd s) (pd_len s))
  have Hp3 := Lib.hid (parse_any (str (txt d)))
  rw [Htt.out.1, Htt.out.2] at Hp3
  clear hd
  have hgood : ∃ bt : Bool, bt = true ↔ Sha.Good s := by
    rcases Classical.em (Sha.Good s) with h | h
    · exact ⟨true, by simp [h]⟩
    · exact ⟨false, by simp [h]⟩
  obtain ⟨bt, hbt⟩ := hgood
  have Hbt := Lib.hid hbt
  clear hbt
  generalize hT : str (txt d) = T at Ht1 Ht2 Hp3
  generalize hU : str (txt (pd s)) = U at Ht3 Hps
  generalize hx : pd s = x at HE2 Hx Hp1 Hp2 Ht3
  generalize he : pe s = e0 at Hps Hpb Hp1 Hp2
  clear hT hU hx he Htt
  go_enter Try.func9, Try.ntmps9
  go_upto_region 1 with (fail)
  change Code.wp _ _ _ _ (w.alloc (.cells (brr d) TD))
  generalize World.alloc w _ = w1 at HB2 HG1 ⊢
  generalize w.heap.size = p2 at HB2 ⊢
  go_upto_region 2 with (first
    | (go_at_call 25; refine (Hp1.out w1).mono ?_; rintro e w2 ⟨rfl, hg⟩; have HG2 := Lib.hid hg; clear hg)
    | refine wpList_store_new (w0 := w2) rfl _ _ _ rfl (brr x) _ _ rfl rfl rfl (by rw [brr_size, Hx.out]; kernel_rfl) (by rw [brr_size, Hx.out]; rfl) (brr_one _) ?_)
  have HB5 := Lib.hid (Blk.new w2 TD (brr x))
  have HG3 := Lib.hid ((HG1.out.trans HG2.out (fun _ _ h => h)).alloc (.cells (brr x) TD))
  have HB23 := Lib.hid ((HB2.out.fr HG2.out (fun h => h)).alloc (.cells (brr x) TD))
  generalize w2.heap.size = p5 at HB5 ⊢
  generalize w2.alloc _ = w3 at HB5 HG3 HB23 ⊢
  clear HG1 HB2 HG2
  go_upto_region 3 with (first
    | (go_at_call 26; refine (Hp2.out w3).mono ?_; rintro e w4 ⟨rfl, hg⟩; have HG4 := Lib.hid hg; clear hg)
    | refine wpList_store_new (w0 := w4) rfl _ _ _ rfl (brr x) _ _ rfl rfl rfl (by rw [brr_size, Hx.out]; kernel_rfl) (by rw [brr_size, Hx.out]; rfl) (brr_one _) ?_)
  have HB7 := Lib.hid (Blk.new w4 TD (brr x))
  have HG5 := Lib.hid ((HG3.out.trans HG4.out (fun _ _ h => h)).alloc (.cells (brr x) TD))
  have HB25 := Lib.hid ((HB23.out.fr HG4.out (fun h => h)).alloc (.cells (brr x) TD))
  have HB55 := Lib.hid ((HB5.out.fr HG4.out (fun h => h)).alloc (.cells (brr x) TD))
  generalize w4.heap.size = p7 at HB7 ⊢
  generalize w4.alloc _ = w5 at HB7 HG5 HB25 HB55 ⊢
  clear HG3 HB23 HB5 HG4
  go_upto_region 4 with (first
    | refine wpList_load_row rfl _ _ rfl p2 rfl TD (brr d) (0, 0) _ HB25.out Try.underlying30 rfl (by rw [brr_size, Hd.out]; kernel_rfl) ?_
    | (go_at_call 27; refine (Ht1.out w5).mono ?_; rintro e w6 ⟨rfl, hg⟩; have HG6 := Lib.hid hg; clear hg)
    | (go_at_call 25; refine (Hp3.out w6).mono ?_; rintro e w7 ⟨rfl, hg⟩; have HG7 := Lib.hid hg; clear hg)
    | refine wpList_store_new (w0 := w7) rfl _ _ _ rfl (brr d) _ _ rfl rfl rfl (by rw [brr_size, Hd.out]; kernel_rfl) (by rw [brr_size, Hd.out]; rfl) (brr_one _) ?_)
  have HG57 := Lib.hid (HG6.out.trans HG7.out (fun _ _ h => h))
  have HP := Lib.hid (show PT w (w7.alloc (.cells (brr d) TD)) p2 p5 p7 w7.heap.size d x from
    ⟨(HG5.out.trans HG57.out (fun _ _ h => h)).alloc _, (HB25.out.fr HG57.out (fun h => h)).alloc _, (HB55.out.fr HG57.out (fun h => h)).alloc _, (HB7.out.fr HG57.out (fun h => h)).alloc _, Blk.new _ _ _⟩)
  generalize w7.heap.size = p9 at HP ⊢
  generalize w7.alloc _ = w8 at HP ⊢
  clear HG5 HG6 HG7 HG57 HB25 HB55 HB7
  have HPd : PT w w8.drew p2 p5 p7 p9 d x := HP.out.gr' (Fr.refl w8 _).drew
  clear HP
  have hi32d : (Try.prog.info? TD).map (·.size) = some (d.map C).length := by rw [List.length_map, Hd.out]; kernel_rfl
  have hi32x : (Try.prog.info? TD).map (·.size) = some (x.map C).length := by rw [List.length_map, Hx.out]; kernel_rfl
  have HR2 : ∀ wx, PT w wx p2 p5 p7 p9 d x → wx.rangeAt p2 0 (d.map C) := fun wx h j v hj => by rw [Nat.zero_add, h.b2.cell, ← hj]; simp [brr]
  have HR5 : ∀ wx, PT w wx p2 p5 p7 p9 d x → wx.rangeAt p5 0 (x.map C) := fun wx h j v hj => by rw [Nat.zero_add, h.b5.cell, ← hj]; simp [brr]
  have HR7 : ∀ wx, PT w wx p2 p5 p7 p9 d x → wx.rangeAt p7 0 (x.map C) := fun wx h j v hj => by rw [Nat.zero_add, h.b7.cell, ← hj]; simp [brr]
  have HR9 : ∀ wx, PT w wx p2 p5 p7 p9 d x → wx.rangeAt p9 0 (d.map C) := fun wx h j v hj => by rw [Nat.zero_add, h.b9.cell, ← hj]; simp [brr]
  have HH2 := Lib.hid HR2
  have HH5 := Lib.hid HR5
  have HH7 := Lib.hid HR7
  have HH9 := Lib.hid HR9
  clear HR2 HR5 HR7 HR9
  have HWk := Lib.hid works_any
  cases bt with
  | false =>
    obtain rfl := Hpb.out (fun h => by have := Hbt.out.2 h; cases this)
    clear Hps Hpb Hp1 Hp2 Hp3 Hbt
    refine wp_region_held_drew (S := fun wx => PT w wx p2 p5 p7 p9 d x) (by kernel_rfl) HPd (fun hHeld => ?_)
    refine wpAnyH_take (i := 0) (v := .agg (brr d)) rfl (by kernel_rfl) (by kernel_rfl) (by kernel_rfl) (fun _ _ _ h => h) (yieldsIf_load_mid (by kernel_rfl) TD (.tmp 2) (by kernel_rfl) p2 0 (by kernel_rfl) (d.map C) _ HH2.out Try.underlying30 rfl hi32d) hHeld ?_
    try simp only [Act.put, List.getElem_toArray, List.getElem_cons_succ, List.getElem_cons_zero, List.setIfInBounds_toArray, List.set_cons_zero, List.set_cons_succ]
    refine wpAnyH_take (i := 2) (v := .agg (brr d)) rfl (by kernel_rfl) (by kernel_rfl) (by kernel_rfl) (fun _ _ _ h => h) (yieldsIf_load_mid (by kernel_rfl) TD (.tmp 2) (by kernel_rfl) p2 0 (by kernel_rfl) (d.map C) _ HH2.out Try.underlying30 rfl hi32d) hHeld ?_
    try simp only [Act.put, List.getElem_toArray, List.getElem_cons_succ, List.getElem_cons_zero, List.setIfInBounds_toArray, List.set_cons_zero, List.set_cons_succ]
    refine wpAnyH_ready (rs := [1]) (by kernel_rfl) (by simp) ?_
    refine AllReadyH.cons rfl (fun K hK => ?_) AllReadyH.nil
    go_simp
    go_at_call 27
    refine (Ht1.out _).mono ?_
    rintro e wa ⟨rfl, hg⟩
    refine hK.out _ _ (PT.gr' hHeld hg) (fun hHeld => ?_)
    clear hK K
    try simp only [Act.put, List.getElem_toArray, List.getElem_cons_succ, List.getElem_cons_zero, List.setIfInBounds_toArray, List.set_cons_zero, List.set_cons_succ]
    refine wpAnyH_ready (rs := [3]) (by kernel_rfl) (by simp) ?_
    refine AllReadyH.cons rfl (fun K hK => ?_) AllReadyH.nil
    go_simp
    go_at_call 28
    refine (Ht2.out _).mono ?_
    rintro e wa ⟨rfl, hg⟩
    refine hK.out _ _ (PT.gr' hHeld hg) (fun hHeld => ?_)
    clear hK K
    try simp only [Act.put, List.getElem_toArray, List.getElem_cons_succ, List.getElem_cons_zero, List.setIfInBounds_toArray, List.set_cons_zero, List.set_cons_succ]
    refine wpAnyH_take (i := 4) (v := .bool true) rfl (by kernel_rfl) (by kernel_rfl) (by kernel_rfl) (fun _ _ _ h => h) (Or.inl ⟨by kernel_rfl, ?_⟩) hHeld ?_
    · intro w hSw; go_simp
    try simp only [Act.put, List.getElem_toArray, List.getElem_cons_succ, List.getElem_cons_zero, List.setIfInBounds_toArray, List.set_cons_zero, List.set_cons_succ]
    refine wpAnyH_take (i := 5) (v := .bool true) rfl (by kernel_rfl) (by kernel_rfl) (by kernel_rfl) (fun _ _ _ h => h) (Or.inl ⟨by kernel_rfl, ?_⟩) hHeld ?_
    · intro w hSw; go_simp
    try simp only [Act.put, List.getElem_toArray, List.getElem_cons_succ, List.getElem_cons_zero, List.setIfInBounds_toArray, List.set_cons_zero, List.set_cons_succ]
    refine wpAnyH_take (i := 6) (v := .agg (brr x)) rfl (by kernel_rfl) (by kernel_rfl) (by kernel_rfl) (fun _ _ _ h => h) (yieldsIf_load_mid (by kernel_rfl) TD (.tmp 5) (by kernel_rfl) p5 0 (by kernel_rfl) (x.map C) _ HH5.out Try.underlying30 rfl hi32x) hHeld ?_
    try simp only [Act.put, List.getElem_toArray, List.getElem_cons_succ, List.getElem_cons_zero, List.setIfInBounds_toArray, List.set_cons_zero, List.set_cons_succ]
    refine wpAnyH_take (i := 7) (v := .agg (brr x)) rfl (by kernel_rfl) (by kernel_rfl) (by kernel_rfl) (fun _ _ _ h => h) (yieldsIf_load_mid (by kernel_rfl) TD (.tmp 7) (by kernel_rfl) p7 0 (by kernel_rfl) (x.map C) _ HH7.out Try.underlying30 rfl hi32x) hHeld ?_
    try simp only [Act.put, List.getElem_toArray, List.getElem_cons_succ, List.getElem_cons_zero, List.setIfInBounds_toArray, List.set_cons_zero, List.set_cons_succ]
    refine wpAnyH_take (i := 8) (v := .bool true) rfl (by kernel_rfl) (by kernel_rfl) (by kernel_rfl) (fun _ _ _ h => h) (Or.inl ⟨by kernel_rfl, ?_⟩) hHeld ?_
    · intro w hSw; go_simp
    try simp only [Act.put, List.getElem_toArray, List.getElem_cons_succ, List.getElem_cons_zero, List.setIfInBounds_toArray, List.set_cons_zero, List.set_cons_succ]
    refine wpAnyH_take (i := 9) (v := .bool true) rfl (by kernel_rfl) (by kernel_rfl) (by kernel_rfl) (fun _ _ _ h => h) (Or.inl ⟨by kernel_rfl, ?_⟩) hHeld ?_
    · intro w hSw; go_simp
    try simp only [Act.put, List.getElem_toArray, List.getElem_cons_succ, List.getElem_cons_zero, List.setIfInBounds_toArray, List.set_cons_zero, List.set_cons_succ]
    refine wpAnyH_take (i := 10) (v := .bool true) rfl (by kernel_rfl) (by kernel_rfl) (by kernel_rfl) (fun _ _ _ h => h) (Or.inl ⟨by kernel_rfl, ?_⟩) hHeld ?_
    · intro w hSw; go_simp
    try simp only [Act.put, List.getElem_toArray, List.getElem_cons_succ, List.getElem_cons_zero, List.setIfInBounds_toArray, List.set_cons_zero, List.set_cons_succ]
    refine wpAnyH_take (i := 11) (v := .int .i64 5) rfl (by kernel_rfl) (by kernel_rfl) (by kernel_rfl) (fun _ _ _ h => h) (Or.inl ⟨by kernel_rfl, ?_⟩) hHeld ?_
    · intro w hSw; go_simp
    try simp only [Act.put, List.getElem_toArray, List.getElem_cons_succ, List.getElem_cons_zero, List.setIfInBounds_toArray, List.set_cons_zero, List.set_cons_succ]
    refine wpAnyH_take (i := 12) (v := .int .i64 5) rfl (by kernel_rfl) (by kernel_rfl) (by kernel_rfl) (fun _ _ _ h => h) (Or.inl ⟨by kernel_rfl, ?_⟩) hHeld ?_
    · intro w hSw; go_simp
    try simp only [Act.put, List.getElem_toArray, List.getElem_cons_succ, List.getElem_cons_zero, List.setIfInBounds_toArray, List.set_cons_zero, List.set_cons_succ]
    refine wpAnyH_take (i := 13) (v := .bool true) rfl (by kernel_rfl) (by kernel_rfl) (by kernel_rfl) (fun _ _ _ h => h) (Or.inl ⟨by kernel_rfl, ?_⟩) hHeld ?_
    · intro w hSw; go_simp
    try simp only [Act.put, List.getElem_toArray, List.getElem_cons_succ, List.getElem_cons_zero, List.setIfInBounds_toArray, List.set_cons_zero, List.set_cons_succ]
    refine wpAnyH_take (i := 14) (v := .bool true) rfl (by kernel_rfl) (by kernel_rfl) (by kernel_rfl) (fun _ _ _ h => h) (Or.inl ⟨by kernel_rfl, ?_⟩) hHeld ?_
    · intro w hSw; go_simp
    try simp only [Act.put, List.getElem_toArray, List.getElem_cons_succ, List.getElem_cons_zero, List.setIfInBounds_toArray, List.set_cons_zero, List.set_cons_succ]
    refine wpAnyH_take (i := 15) (v := .bool true) rfl (by kernel_rfl) (by kernel_rfl) (by kernel_rfl) (fun _ _ _ h => h) (Or.inl ⟨by kernel_rfl, ?_⟩) hHeld ?_
    · intro w hSw; go_simp
    try simp only [Act.put, List.getElem_toArray, List.getElem_cons_succ, List.getElem_cons_zero, List.setIfInBounds_toArray, List.set_cons_zero, List.set_cons_succ]
    refine wpAnyH_take (i := 16) (v := .agg (brr d)) rfl (by kernel_rfl) (by kernel_rfl) (by kernel_rfl) (fun _ _ _ h => h) (yieldsIf_load_mid (by kernel_rfl) TD (.tmp 9) (by kernel_rfl) p9 0 (by kernel_rfl) (d.map C) _ HH9.out Try.underlying30 rfl hi32d) hHeld ?_
    try simp only [Act.put, List.getElem_toArray, List.getElem_cons_succ, List.getElem_cons_zero, List.setIfInBounds_toArray, List.set_cons_zero, List.set_cons_succ]
    refine wpAnyH_take (i := 17) (v := .agg (brr d)) rfl (by kernel_rfl) (by kernel_rfl) (by kernel_rfl) (fun _ _ _ h => h) (yieldsIf_load_mid (by kernel_rfl) TD (.tmp 2) (by kernel_rfl) p2 0 (by kernel_rfl) (d.map C) _ HH2.out Try.underlying30 rfl hi32d) hHeld ?_
    try simp only [Act.put, List.getElem_toArray, List.getElem_cons_succ, List.getElem_cons_zero, List.setIfInBounds_toArray, List.set_cons_zero, List.set_cons_succ]
    refine wpAnyH_take (i := 18) (v := .bool true) rfl (by kernel_rfl) (by kernel_rfl) (by kernel_rfl) (fun _ _ _ h => h) (Or.inl ⟨by kernel_rfl, ?_⟩) hHeld ?_
    · intro w hSw; go_simp
    try simp only [Act.put, List.getElem_toArray, List.getElem_cons_succ, List.getElem_cons_zero, List.setIfInBounds_toArray, List.set_cons_zero, List.set_cons_succ]
    refine wpAnyH_take (i := 19) (v := .bool true) rfl (by kernel_rfl) (by kernel_rfl) (by kernel_rfl) (fun _ _ _ h => h) (Or.inl ⟨by kernel_rfl, ?_⟩) hHeld ?_
    · intro w hSw; go_simp
    try simp only [Act.put, List.getElem_toArray, List.getElem_cons_succ, List.getElem_cons_zero, List.setIfInBounds_toArray, List.set_cons_zero, List.set_cons_succ]
    refine wpAnyH_take (i := 20) (v := .bool true) rfl (by kernel_rfl) (by kernel_rfl) (by kernel_rfl) (fun _ _ _ h => h) (Or.inl ⟨by kernel_rfl, ?_⟩) hHeld ?_
    · intro w hSw; go_simp
    try simp only [Act.put, List.getElem_toArray, List.getElem_cons_succ, List.getElem_cons_zero, List.setIfInBounds_toArray, List.set_cons_zero, List.set_cons_succ]
    refine wpAnyH_take (i := 21) (v := .int .i64 0) rfl (by kernel_rfl) (by kernel_rfl) (by kernel_rfl) (fun _ _ _ h => h) (Or.inl ⟨by kernel_rfl, ?_⟩) hHeld ?_
    · intro w hSw; go_simp
    try simp only [Act.put, List.getElem_toArray, List.getElem_cons_succ, List.getElem_cons_zero, List.setIfInBounds_toArray, List.set_cons_zero, List.set_cons_succ]
    refine wpAnyH_take (i := 22) (v := .bool true) rfl (by kernel_rfl) (by kernel_rfl) (by kernel_rfl) (fun _ _ _ h => h) (Or.inl ⟨by kernel_rfl, ?_⟩) hHeld ?_
    · intro w hSw; go_simp
    try simp only [Act.put, List.getElem_toArray, List.getElem_cons_succ, List.getElem_cons_zero, List.setIfInBounds_toArray, List.set_cons_zero, List.set_cons_succ]
    refine wpAnyH_take (i := 23) (v := .bool true) rfl (by kernel_rfl) (by kernel_rfl) (by kernel_rfl) (fun _ _ _ h => h) (Or.inl ⟨by kernel_rfl, ?_⟩) hHeld ?_
    · intro w hSw; go_simp
    try simp only [Act.put, List.getElem_toArray, List.getElem_cons_succ, List.getElem_cons_zero, List.setIfInBounds_toArray, List.set_cons_zero, List.set_cons_succ]
    refine wpAnyH_take (i := 24) (v := .bool true) rfl (by kernel_rfl) (by kernel_rfl) (by kernel_rfl) (fun _ _ _ h => h) (Or.inl ⟨by kernel_rfl, ?_⟩) hHeld ?_
    · intro w hSw; go_simp
    try simp only [Act.put, List.getElem_toArray, List.getElem_cons_succ, List.getElem_cons_zero, List.setIfInBounds_toArray, List.set_cons_zero, List.set_cons_succ]
    refine wpAnyH_take (i := 25) (v := .int .i64 5) rfl (by kernel_rfl) (by kernel_rfl) (by kernel_rfl) (fun _ _ _ h => h) (Or.inl ⟨by kernel_rfl, ?_⟩) hHeld ?_
    · intro w hSw; go_simp
    try simp only [Act.put, List.getElem_toArray, List.getElem_cons_succ, List.getElem_cons_zero, List.setIfInBounds_toArray, List.set_cons_zero, List.set_cons_succ]
    refine wpAnyH_take (i := 26) (v := .bool true) rfl (by kernel_rfl) (by kernel_rfl) (by kernel_rfl) (fun _ _ _ h => h) (Or.inl ⟨by kernel_rfl, ?_⟩) hHeld ?_
    · intro w hSw; go_simp
    try simp only [Act.put, List.getElem_toArray, List.getElem_cons_succ, List.getElem_cons_zero, List.setIfInBounds_toArray, List.set_cons_zero, List.set_cons_succ]
    refine wpAnyH_take (i := 27) (v := .bool true) rfl (by kernel_rfl) (by kernel_rfl) (by kernel_rfl) (fun _ _ _ h => h) (Or.inl ⟨by kernel_rfl, ?_⟩) hHeld ?_
    · intro w hSw; go_simp
    try simp only [Act.put, List.getElem_toArray, List.getElem_cons_succ, List.getElem_cons_zero, List.setIfInBounds_toArray, List.set_cons_zero, List.set_cons_succ]
    refine wpAnyH_take (i := 28) (v := undef) rfl (by kernel_rfl) (by kernel_rfl) (by kernel_rfl) (fun _ _ _ h => h) (Or.inr ⟨by kernel_rfl, rfl⟩) hHeld ?_
    try simp only [Act.put, List.getElem_toArray, List.getElem_cons_succ, List.getElem_cons_zero, List.setIfInBounds_toArray, List.set_cons_zero, List.set_cons_succ]
    refine wpAnyH_take (i := 29) (v := undef) rfl (by kernel_rfl) (by kernel_rfl) (by kernel_rfl) (fun _ _ _ h => h) (Or.inr ⟨by kernel_rfl, rfl⟩) hHeld ?_
    try simp only [Act.put, List.getElem_toArray, List.getElem_cons_succ, List.getElem_cons_zero, List.setIfInBounds_toArray, List.set_cons_zero, List.set_cons_succ]
    refine wpAnyH_take (i := 30) (v := undef) rfl (by kernel_rfl) (by kernel_rfl) (by kernel_rfl) (fun _ _ _ h => h) (Or.inr ⟨by kernel_rfl, rfl⟩) hHeld ?_
    try simp only [Act.put, List.getElem_toArray, List.getElem_cons_succ, List.getElem_cons_zero, List.setIfInBounds_toArray, List.set_cons_zero, List.set_cons_succ]
    refine wpAnyH_take (i := 31) (v := undef) rfl (by kernel_rfl) (by kernel_rfl) (by kernel_rfl) (fun _ _ _ h => h) (Or.inr ⟨by kernel_rfl, rfl⟩) hHeld ?_
    try simp only [Act.put, List.getElem_toArray, List.getElem_cons_succ, List.getElem_cons_zero, List.setIfInBounds_toArray, List.set_cons_zero, List.set_cons_succ]
    refine wpAnyH_take (i := 32) (v := .bool true) rfl (by kernel_rfl) (by kernel_rfl) (by kernel_rfl) (fun _ _ _ h => h) (Or.inl ⟨by kernel_rfl, ?_⟩) hHeld ?_
    · intro w hSw; go_simp
    try simp only [Act.put, List.getElem_toArray, List.getElem_cons_succ, List.getElem_cons_zero, List.setIfInBounds_toArray, List.set_cons_zero, List.set_cons_succ]
    refine wpAnyH_take (i := 33) (v := .bool true) rfl (by kernel_rfl) (by kernel_rfl) (by kernel_rfl) (fun _ _ _ h => h) (Or.inl ⟨by kernel_rfl, ?_⟩) hHeld ?_
    · intro w hSw; go_simp
    try simp only [Act.put, List.getElem_toArray, List.getElem_cons_succ, List.getElem_cons_zero, List.setIfInBounds_toArray, List.set_cons_zero, List.set_cons_succ]
    refine wpAnyH_take (i := 34) (v := .bool true) rfl (by kernel_rfl) (by kernel_rfl) (by kernel_rfl) (fun _ _ _ h => h) (Or.inl ⟨by kernel_rfl, ?_⟩) hHeld ?_
    · intro w hSw; go_simp
    try simp only [Act.put, List.getElem_toArray, List.getElem_cons_succ, List.getElem_cons_zero, List.setIfInBounds_toArray, List.set_cons_zero, List.set_cons_succ]
    refine wpAnyH_ready (rs := [35]) (by kernel_rfl) (by simp) ?_
    refine AllReadyH.cons rfl (fun K hK => ?_) AllReadyH.nil
    go_simp
    go_at_call 12
    refine (HWk.out _).mono ?_
    rintro e wa ⟨rfl, hg⟩
    refine hK.out _ _ (PT.gr' hHeld hg) (fun hHeld => ?_)
    clear hK K
    try simp only [Act.put, List.getElem_toArray, List.getElem_cons_succ, List.getElem_cons_zero, List.setIfInBounds_toArray, List.set_cons_zero, List.set_cons_succ]
    refine wpAnyH_take (i := 36) (v := .bool true) rfl (by kernel_rfl) (by kernel_rfl) (by kernel_rfl) (fun _ _ _ h => h) (Or.inl ⟨by kernel_rfl, ?_⟩) hHeld ?_
    · intro w hSw; go_simp
    try simp only [Act.put, List.getElem_toArray, List.getElem_cons_succ, List.getElem_cons_zero, List.setIfInBounds_toArray, List.set_cons_zero, List.set_cons_succ]
    refine wpAnyH_take (i := 37) (v := .bool true) rfl (by kernel_rfl) (by kernel_rfl) (by kernel_rfl) (fun _ _ _ h => h) (Or.inl ⟨by kernel_rfl, ?_⟩) hHeld ?_
    · intro w hSw; go_simp
    try simp only [Act.put, List.getElem_toArray, List.getElem_cons_succ, List.getElem_cons_zero, List.setIfInBounds_toArray, List.set_cons_zero, List.set_cons_succ]
    refine wpAnyH_done (by kernel_rfl) ?_ _
    go_wp2_with fail
    go_ret
    exact ⟨by kernel_rfl, hHeld.gr⟩
  | true =>
    obtain ⟨rfl, rfl⟩ := Hps.out (Hbt.out.1 rfl)
    clear Hps Hpb Hp1 Hp2 Hp3 Hbt
    refine wp_region_held_drew (S := fun wx => PT w wx p2 p5 p7 p9 d x) (by kernel_rfl) HPd (fun hHeld => ?_)
    refine wpAnyH_take (i := 0) (v := .agg (brr d)) rfl (by kernel_rfl) (by kernel_rfl) (by kernel_rfl) (fun _ _ _ h => h) (yieldsIf_load_mid (by kernel_rfl) TD (.tmp 2) (by kernel_rfl) p2 0 (by kernel_rfl) (d.map C) _ HH2.out Try.underlying30 rfl hi32d) hHeld ?_
    try simp only [Act.put, List.getElem_toArray, List.getElem_cons_succ, List.getElem_cons_zero, List.setIfInBounds_toArray, List.set_cons_zero, List.set_cons_succ]
    refine wpAnyH_take (i := 2) (v := .agg (brr d)) rfl (by kernel_rfl) (by kernel_rfl) (by kernel_rfl) (fun _ _ _ h => h) (yieldsIf_load_mid (by kernel_rfl) TD (.tmp 2) (by kernel_rfl) p2 0 (by kernel_rfl) (d.map C) _ HH2.out Try.underlying30 rfl hi32d) hHeld ?_
    try simp only [Act.put, List.getElem_toArray, List.getElem_cons_succ, List.getElem_cons_zero, List.setIfInBounds_toArray, List.set_cons_zero, List.set_cons_succ]
    refine wpAnyH_ready (rs := [1]) (by kernel_rfl) (by simp) ?_
    refine AllReadyH.cons rfl (fun K hK => ?_) AllReadyH.nil
    go_simp
    go_at_call 27
    refine (Ht1.out _).mono ?_
    rintro e wa ⟨rfl, hg⟩
    refine hK.out _ _ (PT.gr' hHeld hg) (fun hHeld => ?_)
    clear hK K
    try simp only [Act.put, List.getElem_toArray, List.getElem_cons_succ, List.getElem_cons_zero, List.setIfInBounds_toArray, List.set_cons_zero, List.set_cons_succ]
    refine wpAnyH_ready (rs := [3]) (by kernel_rfl) (by simp) ?_
    refine AllReadyH.cons rfl (fun K hK => ?_) AllReadyH.nil
    go_simp
    go_at_call 28
    refine (Ht2.out _).mono ?_
    rintro e wa ⟨rfl, hg⟩
    refine hK.out _ _ (PT.gr' hHeld hg) (fun hHeld => ?_)
    clear hK K
    try simp only [Act.put, List.getElem_toArray, List.getElem_cons_succ, List.getElem_cons_zero, List.setIfInBounds_toArray, List.set_cons_zero, List.set_cons_succ]
    refine wpAnyH_take (i := 4) (v := .bool true) rfl (by kernel_rfl) (by kernel_rfl) (by kernel_rfl) (fun _ _ _ h => h) (Or.inl ⟨by kernel_rfl, ?_⟩) hHeld ?_
    · intro w hSw; go_simp
    try simp only [Act.put, List.getElem_toArray, List.getElem_cons_succ, List.getElem_cons_zero, List.setIfInBounds_toArray, List.set_cons_zero, List.set_cons_succ]
    refine wpAnyH_take (i := 5) (v := .bool true) rfl (by kernel_rfl) (by kernel_rfl) (by kernel_rfl) (fun _ _ _ h => h) (Or.inl ⟨by kernel_rfl, ?_⟩) hHeld ?_
    · intro w hSw; go_simp
    try simp only [Act.put, List.getElem_toArray, List.getElem_cons_succ, List.getElem_cons_zero, List.setIfInBounds_toArray, List.set_cons_zero, List.set_cons_succ]
    refine wpAnyH_take (i := 6) (v := .agg (brr x)) rfl (by kernel_rfl) (by kernel_rfl) (by kernel_rfl) (fun _ _ _ h => h) (yieldsIf_load_mid (by kernel_rfl) TD (.tmp 5) (by kernel_rfl) p5 0 (by kernel_rfl) (x.map C) _ HH5.out Try.underlying30 rfl hi32x) hHeld ?_
    try simp only [Act.put, List.getElem_toArray, List.getElem_cons_succ, List.getElem_cons_zero, List.setIfInBounds_toArray, List.set_cons_zero, List.set_cons_succ]
    refine wpAnyH_take (i := 7) (v := .agg (brr x)) rfl (by kernel_rfl) (by kernel_rfl) (by kernel_rfl) (fun _ _ _ h => h) (yieldsIf_load_mid (by kernel_rfl) TD (.tmp 7) (by kernel_rfl) p7 0 (by kernel_rfl) (x.map C) _ HH7.out Try.underlying30 rfl hi32x) hHeld ?_
    try simp only [Act.put, List.getElem_toArray, List.getElem_cons_succ, List.getElem_cons_zero, List.setIfInBounds_toArray, List.set_cons_zero, List.set_cons_succ]
    refine wpAnyH_take (i := 8) (v := .bool true) rfl (by kernel_rfl) (by kernel_rfl) (by kernel_rfl) (fun _ _ _ h => h) (Or.inl ⟨by kernel_rfl, ?_⟩) hHeld ?_
    · intro w hSw; go_simp
    try simp only [Act.put, List.getElem_toArray, List.getElem_cons_succ, List.getElem_cons_zero, List.setIfInBounds_toArray, List.set_cons_zero, List.set_cons_succ]
    refine wpAnyH_take (i := 9) (v := .bool true) rfl (by kernel_rfl) (by kernel_rfl) (by kernel_rfl) (fun _ _ _ h => h) (Or.inl ⟨by kernel_rfl, ?_⟩) hHeld ?_
    · intro w hSw; go_simp
    try simp only [Act.put, List.getElem_toArray, List.getElem_cons_succ, List.getElem_cons_zero, List.setIfInBounds_toArray, List.set_cons_zero, List.set_cons_succ]
    refine wpAnyH_take (i := 10) (v := .bool true) rfl (by kernel_rfl) (by kernel_rfl) (by kernel_rfl) (fun _ _ _ h => h) (Or.inl ⟨by kernel_rfl, ?_⟩) hHeld ?_
    · intro w hSw; go_simp
    try simp only [Act.put, List.getElem_toArray, List.getElem_cons_succ, List.getElem_cons_zero, List.setIfInBounds_toArray, List.set_cons_zero, List.set_cons_succ]
    refine wpAnyH_take (i := 11) (v := .int .i64 0) rfl (by kernel_rfl) (by kernel_rfl) (by kernel_rfl) (fun _ _ _ h => h) (Or.inl ⟨by kernel_rfl, ?_⟩) hHeld ?_
    · intro w hSw; go_simp
    try simp only [Act.put, List.getElem_toArray, List.getElem_cons_succ, List.getElem_cons_zero, List.setIfInBounds_toArray, List.set_cons_zero, List.set_cons_succ]
    refine wpAnyH_take (i := 12) (v := .int .i64 0) rfl (by kernel_rfl) (by kernel_rfl) (by kernel_rfl) (fun _ _ _ h => h) (Or.inl ⟨by kernel_rfl, ?_⟩) hHeld ?_
    · intro w hSw; go_simp
    try simp only [Act.put, List.getElem_toArray, List.getElem_cons_succ, List.getElem_cons_zero, List.setIfInBounds_toArray, List.set_cons_zero, List.set_cons_succ]
    refine wpAnyH_take (i := 13) (v := .bool true) rfl (by kernel_rfl) (by kernel_rfl) (by kernel_rfl) (fun _ _ _ h => h) (Or.inl ⟨by kernel_rfl, ?_⟩) hHeld ?_
    · intro w hSw; go_simp
    try simp only [Act.put, List.getElem_toArray, List.getElem_cons_succ, List.getElem_cons_zero, List.setIfInBounds_toArray, List.set_cons_zero, List.set_cons_succ]
    refine wpAnyH_take (i := 14) (v := .bool true) rfl (by kernel_rfl) (by kernel_rfl) (by kernel_rfl) (fun _ _ _ h => h) (Or.inl ⟨by kernel_rfl, ?_⟩) hHeld ?_
    · intro w hSw; go_simp
    try simp only [Act.put, List.getElem_toArray, List.getElem_cons_succ, List.getElem_cons_zero, List.setIfInBounds_toArray, List.set_cons_zero, List.set_cons_succ]
    refine wpAnyH_take (i := 15) (v := .bool true) rfl (by kernel_rfl) (by kernel_rfl) (by kernel_rfl) (fun _ _ _ h => h) (Or.inl ⟨by kernel_rfl, ?_⟩) hHeld ?_
    · intro w hSw; go_simp
    try simp only [Act.put, List.getElem_toArray, List.getElem_cons_succ, List.getElem_cons_zero, List.setIfInBounds_toArray, List.set_cons_zero, List.set_cons_succ]
    refine wpAnyH_take (i := 16) (v := .agg (brr d)) rfl (by kernel_rfl) (by kernel_rfl) (by kernel_rfl) (fun _ _ _ h => h) (yieldsIf_load_mid (by kernel_rfl) TD (.tmp 9) (by kernel_rfl) p9 0 (by kernel_rfl) (d.map C) _ HH9.out Try.underlying30 rfl hi32d) hHeld ?_
    try simp only [Act.put, List.getElem_toArray, List.getElem_cons_succ, List.getElem_cons_zero, List.setIfInBounds_toArray, List.set_cons_zero, List.set_cons_succ]
    refine wpAnyH_take (i := 17) (v := .agg (brr d)) rfl (by kernel_rfl) (by kernel_rfl) (by kernel_rfl) (fun _ _ _ h => h) (yieldsIf_load_mid (by kernel_rfl) TD (.tmp 2) (by kernel_rfl) p2 0 (by kernel_rfl) (d.map C) _ HH2.out Try.underlying30 rfl hi32d) hHeld ?_
    try simp only [Act.put, List.getElem_toArray, List.getElem_cons_succ, List.getElem_cons_zero, List.setIfInBounds_toArray, List.set_cons_zero, List.set_cons_succ]
    refine wpAnyH_take (i := 18) (v := .bool true) rfl (by kernel_rfl) (by kernel_rfl) (by kernel_rfl) (fun _ _ _ h => h) (Or.inl ⟨by kernel_rfl, ?_⟩) hHeld ?_
    · intro w hSw; go_simp
    try simp only [Act.put, List.getElem_toArray, List.getElem_cons_succ, List.getElem_cons_zero, List.setIfInBounds_toArray, List.set_cons_zero, List.set_cons_succ]
    refine wpAnyH_take (i := 19) (v := .bool true) rfl (by kernel_rfl) (by kernel_rfl) (by kernel_rfl) (fun _ _ _ h => h) (Or.inl ⟨by kernel_rfl, ?_⟩) hHeld ?_
    · intro w hSw; go_simp
    try simp only [Act.put, List.getElem_toArray, List.getElem_cons_succ, List.getElem_cons_zero, List.setIfInBounds_toArray, List.set_cons_zero, List.set_cons_succ]
    refine wpAnyH_take (i := 20) (v := .bool true) rfl (by kernel_rfl) (by kernel_rfl) (by kernel_rfl) (fun _ _ _ h => h) (Or.inl ⟨by kernel_rfl, ?_⟩) hHeld ?_
    · intro w hSw; go_simp
    try simp only [Act.put, List.getElem_toArray, List.getElem_cons_succ, List.getElem_cons_zero, List.setIfInBounds_toArray, List.set_cons_zero, List.set_cons_succ]
    refine wpAnyH_take (i := 21) (v := .int .i64 0) rfl (by kernel_rfl) (by kernel_rfl) (by kernel_rfl) (fun _ _ _ h => h) (Or.inl ⟨by kernel_rfl, ?_⟩) hHeld ?_
    · intro w hSw; go_simp
    try simp only [Act.put, List.getElem_toArray, List.getElem_cons_succ, List.getElem_cons_zero, List.setIfInBounds_toArray, List.set_cons_zero, List.set_cons_succ]
    refine wpAnyH_take (i := 22) (v := .bool true) rfl (by kernel_rfl) (by kernel_rfl) (by kernel_rfl) (fun _ _ _ h => h) (Or.inl ⟨by kernel_rfl, ?_⟩) hHeld ?_
    · intro w hSw; go_simp
    try simp only [Act.put, List.getElem_toArray, List.getElem_cons_succ, List.getElem_cons_zero, List.setIfInBounds_toArray, List.set_cons_zero, List.set_cons_succ]
    refine wpAnyH_take (i := 23) (v := .bool true) rfl (by kernel_rfl) (by kernel_rfl) (by kernel_rfl) (fun _ _ _ h => h) (Or.inl ⟨by kernel_rfl, ?_⟩) hHeld ?_
    · intro w hSw; go_simp
    try simp only [Act.put, List.getElem_toArray, List.getElem_cons_succ, List.getElem_cons_zero, List.setIfInBounds_toArray, List.set_cons_zero, List.set_cons_succ]
    refine wpAnyH_take (i := 24) (v := .bool true) rfl (by kernel_rfl) (by kernel_rfl) (by kernel_rfl) (fun _ _ _ h => h) (Or.inl ⟨by kernel_rfl, ?_⟩) hHeld ?_
    · intro w hSw; go_simp
    try simp only [Act.put, List.getElem_toArray, List.getElem_cons_succ, List.getElem_cons_zero, List.setIfInBounds_toArray, List.set_cons_zero, List.set_cons_succ]
    refine wpAnyH_take (i := 25) (v := .int .i64 0) rfl (by kernel_rfl) (by kernel_rfl) (by kernel_rfl) (fun _ _ _ h => h) (Or.inl ⟨by kernel_rfl, ?_⟩) hHeld ?_
    · intro w hSw; go_simp
    try simp only [Act.put, List.getElem_toArray, List.getElem_cons_succ, List.getElem_cons_zero, List.setIfInBounds_toArray, List.set_cons_zero, List.set_cons_succ]
    refine wpAnyH_take (i := 26) (v := .bool false) rfl (by kernel_rfl) (by kernel_rfl) (by kernel_rfl) (fun _ _ _ h => h) (Or.inl ⟨by kernel_rfl, ?_⟩) hHeld ?_
    · intro w hSw; go_simp
    try simp only [Act.put, List.getElem_toArray, List.getElem_cons_succ, List.getElem_cons_zero, List.setIfInBounds_toArray, List.set_cons_zero, List.set_cons_succ]
    refine wpAnyH_take (i := 27) (v := .bool false) rfl (by kernel_rfl) (by kernel_rfl) (by kernel_rfl) (fun _ _ _ h => h) (Or.inl ⟨by kernel_rfl, ?_⟩) hHeld ?_
    · intro w hSw; go_simp
    try simp only [Act.put, List.getElem_toArray, List.getElem_cons_succ, List.getElem_cons_zero, List.setIfInBounds_toArray, List.set_cons_zero, List.set_cons_succ]
    refine wpAnyH_take (i := 28) (v := .agg (brr x)) rfl (by kernel_rfl) (by kernel_rfl) (by kernel_rfl) (fun _ _ _ h => h) (yieldsIf_load_mid (by kernel_rfl) TD (.tmp 5) (by kernel_rfl) p5 0 (by kernel_rfl) (x.map C) _ HH5.out Try.underlying30 rfl hi32x) hHeld ?_
    try simp only [Act.put, List.getElem_toArray, List.getElem_cons_succ, List.getElem_cons_zero, List.setIfInBounds_toArray, List.set_cons_zero, List.set_cons_succ]
    refine wpAnyH_take (i := 30) (v := .string U) rfl (by kernel_rfl) (by kernel_rfl) (by kernel_rfl) (fun _ _ _ h => h) (Or.inl ⟨by kernel_rfl, ?_⟩) hHeld ?_
    · intro w hSw; go_simp
    try simp only [Act.put, List.getElem_toArray, List.getElem_cons_succ, List.getElem_cons_zero, List.setIfInBounds_toArray, List.set_cons_zero, List.set_cons_succ]
    refine wpAnyH_ready (rs := [29]) (by kernel_rfl) (by simp) ?_
    refine AllReadyH.cons rfl (fun K hK => ?_) AllReadyH.nil
    go_simp
    go_at_call 27
    refine (Ht3.out _).mono ?_
    rintro e wa ⟨rfl, hg⟩
    refine hK.out _ _ (PT.gr' hHeld hg) (fun hHeld => ?_)
    clear hK K
    try simp only [Act.put, List.getElem_toArray, List.getElem_cons_succ, List.getElem_cons_zero, List.setIfInBounds_toArray, List.set_cons_zero, List.set_cons_succ]
    refine wpAnyH_take (i := 31) (v := .bool true) rfl (by kernel_rfl) (by kernel_rfl) (by kernel_rfl) (fun _ _ _ h => h) (Or.inl ⟨by kernel_rfl, ?_⟩) hHeld ?_
    · intro w hSw; go_simp
    try simp only [Act.put, List.getElem_toArray, List.getElem_cons_succ, List.getElem_cons_zero, List.setIfInBounds_toArray, List.set_cons_zero, List.set_cons_succ]
    refine wpAnyH_take (i := 32) (v := .bool true) rfl (by kernel_rfl) (by kernel_rfl) (by kernel_rfl) (fun _ _ _ h => h) (Or.inl ⟨by kernel_rfl, ?_⟩) hHeld ?_
    · intro w hSw; go_simp
    try simp only [Act.put, List.getElem_toArray, List.getElem_cons_succ, List.getElem_cons_zero, List.setIfInBounds_toArray, List.set_cons_zero, List.set_cons_succ]
    refine wpAnyH_take (i := 33) (v := .bool true) rfl (by kernel_rfl) (by kernel_rfl) (by kernel_rfl) (fun _ _ _ h => h) (Or.inl ⟨by kernel_rfl, ?_⟩) hHeld ?_
    · intro w hSw; go_simp
    try simp only [Act.put, List.getElem_toArray, List.getElem_cons_succ, List.getElem_cons_zero, List.setIfInBounds_toArray, List.set_cons_zero, List.set_cons_succ]
    refine wpAnyH_take (i := 34) (v := .bool true) rfl (by kernel_rfl) (by kernel_rfl) (by kernel_rfl) (fun _ _ _ h => h) (Or.inl ⟨by kernel_rfl, ?_⟩) hHeld ?_
    · intro w hSw; go_simp
    try simp only [Act.put, List.getElem_toArray, List.getElem_cons_succ, List.getElem_cons_zero, List.setIfInBounds_toArray, List.set_cons_zero, List.set_cons_succ]
    refine wpAnyH_ready (rs := [35]) (by kernel_rfl) (by simp) ?_
    refine AllReadyH.cons rfl (fun K hK => ?_) AllReadyH.nil
    go_simp
    go_at_call 12
    refine (HWk.out _).mono ?_
    rintro e wa ⟨rfl, hg⟩
    refine hK.out _ _ (PT.gr' hHeld hg) (fun hHeld => ?_)
    clear hK K
    try simp only [Act.put, List.getElem_toArray, List.getElem_cons_succ, List.getElem_cons_zero, List.setIfInBounds_toArray, List.set_cons_zero, List.set_cons_succ]
    refine wpAnyH_take (i := 36) (v := .bool true) rfl (by kernel_rfl) (by kernel_rfl) (by kernel_rfl) (fun _ _ _ h => h) (Or.inl ⟨by kernel_rfl, ?_⟩) hHeld ?_
    · intro w hSw; go_simp
    try simp only [Act.put, List.getElem_toArray, List.getElem_cons_succ, List.getElem_cons_zero, List.setIfInBounds_toArray, List.set_cons_zero, List.set_cons_succ]
    refine wpAnyH_take (i := 37) (v := .bool true) rfl (by kernel_rfl) (by kernel_rfl) (by kernel_rfl) (fun _ _ _ h => h) (Or.inl ⟨by kernel_rfl, ?_⟩) hHeld ?_
    · intro w hSw; go_simp
    try simp only [Act.put, List.getElem_toArray, List.getElem_cons_succ, List.getElem_cons_zero, List.setIfInBounds_toArray, List.set_cons_zero, List.set_cons_succ]
    refine wpAnyH_done (by kernel_rfl) ?_ _
    go_wp2_with fail
    go_ret
    exact ⟨by kernel_rfl, hHeld.gr⟩
theorem ShaTexts_walk (w : World) (xs : List Int) (hx : xs.length = 32) (hxw : ∀ x ∈ xs, (Lit.int .u8 x).wf = true) (s : ByteArray) :
    Calls Try.prog 9 #[.agg (xs.map (Value.int .u8)).toArray, .string s] w fun e w' => e = .returned (.bool true) ∧ Gr w w' := by
  rw [to_brr hxw]
  exact ShaTexts_any w _ (by rw [List.length_map]; exact hx) s
end Go.Proofs.Ytfpgfnmidkkgjaa
