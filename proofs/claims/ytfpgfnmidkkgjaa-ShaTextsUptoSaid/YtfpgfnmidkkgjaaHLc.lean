/- sha: the walk of ShaFresh. -/
import Derived.Test.YtfpgfnmidkkgjaaHRd
set_option linter.unusedVariables false
set_option linter.unusedSimpArgs false
namespace Go.Proofs.Ytfpgfnmidkkgjaa
open Go.RowKit
namespace Sha

/-! loads of a digest inside a region that draws -/
open Classical in
noncomputable def row32 (w : World) (b o : Nat) : Option (Array Value) :=
  if h : ∃ cs : List Value, cs.length = 32 ∧ w.rangeAt b o cs then some h.choose.toArray else none
open Classical in
theorem row32_of {w : World} {b o : Nat} {cs : List Value} (hl : cs.length = 32) (h : w.rangeAt b o cs) : row32 w b o = some cs.toArray := by
  have hx : ∃ cs : List Value, cs.length = 32 ∧ w.rangeAt b o cs := ⟨cs, hl, h⟩
  unfold row32
  rw [dif_pos hx]
  have h1 := hx.choose_spec
  congr 2
  apply List.ext_getElem (by rw [h1.1, hl])
  intro i hi hi'
  have a := h1.2 i _ (List.getElem?_eq_getElem hi)
  have b := h i _ (List.getElem?_eq_getElem hi')
  rw [a] at b
  injection b
open Classical in
theorem row32_some {w : World} {b o : Nat} {a : Array Value} (h : row32 w b o = some a) : a.size = 32 ∧ w.rangeAt b o a.toList := by
  unfold row32 at h
  split at h
  · rename_i hx
    injection h with h
    have h1 := hx.choose_spec
    rw [← h]
    exact ⟨by simpa using h1.1, by simpa using h1.2⟩
  · cases h
noncomputable def oldLoad32 (w : World) (b o : Nat) : Result Value := (Instr.loadAt TD (.pointer (some ⟨b, o, none⟩))).run Try.prog w
theorem loadAt_row32 (w : World) (b o : Nat) : (Instr.loadAt TD (.pointer (some ⟨b, o, none⟩))).run Try.prog w = match row32 w b o with | some a => .ok (.agg a) w | none => oldLoad32 w b o := by
  split
  · rename_i a h
    obtain ⟨h1, h2⟩ := row32_some h
    have := run_loadAt_mid w b o TD a.toList _ h2 Try.underlying30 rfl (by rw [Array.length_toList, h1]; kernel_rfl)
    simpa using this
  · rfl
noncomputable def oldLoadV32 (w : World) (b o : Nat) : Result Value := (loadVar TD ⟨b, o, none⟩).run Try.prog w
theorem loadVar_row32 (w : World) (b o : Nat) : (loadVar TD ⟨b, o, none⟩).run Try.prog w = match row32 w b o with | some a => .ok (.agg a) w | none => oldLoadV32 w b o := by
  split
  · rename_i a h
    obtain ⟨h1, h2⟩ := row32_some h
    have := run_loadVar_mid w b o TD a.toList _ h2 Try.underlying30 rfl (by rw [Array.length_toList, h1]; kernel_rfl)
    simpa using this
  · rfl
noncomputable def oldLoadC32 (w : World) (b o : Nat) : Result (Array Value) := (loadCellsFrom ⟨b, o, none⟩ 0 32 #[]).run Try.prog w
theorem loadCells_row32 (w : World) (b o : Nat) : (loadCellsFrom ⟨b, o, none⟩ 0 32 #[]).run Try.prog w = match row32 w b o with | some a => .ok a w | none => oldLoadC32 w b o := by
  split
  · rename_i a h
    obtain ⟨h1, h2⟩ := row32_some h
    have := run_loadCells_list (P := Try.prog) w ⟨b, o, none⟩ a.toList (fun j v hv => by rw [Addr.add_mid]; exact h2 j v hv)
    rw [Array.length_toList, h1] at this
    simpa [loadCells] using this
  · rfl
theorem row32_blk {w : World} {g : Nat} {d : List B} (h : Blk w g TD (brr d)) (hd : d.length = 32) : row32 w g 0 = some (brr d) :=
  row32_of (cs := d.map C) (by rw [List.length_map]; exact hd) (fun j v hj => by rw [Nat.zero_add, h.cell, ← hj]; simp [brr])
theorem HSt.fr {w w' : World} {S : Nat → Prop} {base p : Nat} {lv : Value} {all : List B} (H : HSt w base p lv all) (hf : Fr w w' S) (hp : ¬ S p) (hl : ∀ k, lv.ownBlock = some k → ¬ S k) : HSt w' base p lv all :=
  ⟨H.bs, H.blk.fr hf hp, hf.owns H.own hl, H.len, H.n0⟩
theorem HSt.gr {w w' : World} {base p : Nat} {lv : Value} {all : List B} (H : HSt w base p lv all) (hf : Gr w w') : HSt w' base p lv all := H.fr hf (fun h => h) (fun _ _ h => h)
theorem HSt.new {w w' : World} {p : Nat} (h : HB w' w.heap.size p HU (.slice none 0 0) 0 []) : HSt w' w.heap.size p (.slice none 0 0) [] := h
end Sha
open Sha
attribute [local go_sem ↓] loadAt_row32 loadVar_row32 loadCells_row32

/-- the state in the last region -/
structure PF (w wx : World) (v : Value) (bs : List B) (base p p5 : Nat) (lv : Value) : Prop where
  gr : Gr w wx
  sl : SL eb wx v bs
  st : HSt wx base p lv bs
  b5 : Blk wx p5 TD (brr (sum bs))
theorem PF.gr' {w wx wy : World} {v : Value} {bs : List B} {base p p5 : Nat} {lv : Value} (H : PF w wx v bs base p p5 lv) (hg : Gr wx wy) : PF w wy v bs base p p5 lv :=
  ⟨H.gr.trans hg (fun _ _ h => h), H.sl.gr hg, H.st.gr hg, H.b5.fr hg (fun h => h)⟩

set_option maxHeartbeats 3200000 in
set_option maxRecDepth 100000 in
theorem ShaFresh_walk (w : World) (v : Value) (xs : List Int) (hs : SL (fun x : Int => [Value.int .u8 x]) w v xs) (hwf : ∀ x ∈ xs, (Lit.int .u8 x).wf = true) (hlen : xs.length ≤ 1048576) :
    Calls Try.prog 8 #[v] w fun e w' => e = .returned (.bool true) ∧ Gr w w' := by
  have HS := Lib.hid (to_sl hs hwf)
  have Hn := Lib.hid (show (xs.map (BitVec.ofInt 8)).length ≤ 1048576 by rw [List.length_map]; exact hlen)
  generalize xs.map (BitVec.ofInt 8) = bs at HS Hn
  clear hs hwf hlen
  have HE := fun w => eql_d (sum bs) (sum_len bs) w
  have Hdl := Lib.hid (sum_len bs)
  have Hwl := Lib.hid (wd_len bs 3 (Nat.le_refl _))
  go_enter Try.func8, Try.ntmps8
  go_upto_region 2 with (go_at_call 22; refine (wide_any v bs w HS.out (by have := Hn.out; omega)).mono ?_; rintro e w1 ⟨g, rfl, hg, hb, hgr⟩; have Hg := Lib.hid hg; have HB1 := Lib.hid hb; have HG1 := Lib.hid hgr; clear hg hb hgr)
  go_upto_region 3 with (go_at_call 18; refine (new_any w1).mono ?_; rintro e w2 ⟨p, rfl, hh, hgr⟩; have HH2 := Lib.hid (HSt.new hh); have HG2 := Lib.hid hgr; clear hh hgr)
  have HB2 := Lib.hid (HB1.out.fr HG2.out (fun h => h))
  have HW2 := Lib.hid (show SL eb w2 (.slice (some ⟨g, 0, none⟩) bs.length (bs.length + 3)) bs from by
    have h := sl_blk HB2.out (by rw [Hwl.out]; have := Hn.out; unfold maxLen; omega) bs.length (by rw [Hwl.out]; omega)
    rw [wd_take, Hwl.out] at h
    exact h)
  have Hgp := Lib.hid (show g < p by have h1 := HB1.out.lt; have h2 := HH2.out.bs; omega)
  go_upto_region 4 with (first
    | (go_at_call 13; refine (sum_any _ bs w2 HW2.out (by have := Hn.out; omega)).mono ?_; rintro e w3 ⟨rfl, hgr⟩; have HG3 := Lib.hid hgr; clear hgr)
    | refine wpList_store_new (w0 := w3) rfl _ _ _ rfl (brr (sum bs)) _ _ rfl rfl rfl (by rw [brr_size, Hdl.out]; kernel_rfl) (by rw [brr_size, Hdl.out]; rfl) (brr_one _) ?_)
  have HG4 := Lib.hid (HG3.out.alloc (.cells (brr (sum bs)) TD))
  have HB5 := Lib.hid (Blk.new w3 TD (brr (sum bs)))
  have Hp5 := Lib.hid (show g < w3.heap.size ∧ p < w3.heap.size from ⟨(HB2.out.fr HG3.out (fun h => h)).lt, (HH2.out.blk.fr HG3.out (fun h => h)).lt⟩)
  generalize w3.heap.size = p5 at HB5 Hp5 ⊢
  generalize w3.alloc _ = w4 at HG4 HB5 ⊢
  have HH4 := Lib.hid (HH2.out.gr HG4.out)
  have HB4 := Lib.hid (HB2.out.fr HG4.out (fun h => h))
  have HW4 := Lib.hid (HW2.out.gr HG4.out)
  have Hwr := Lib.hid (write_any HH4.out (.slice (some ⟨g, 0, none⟩) bs.length (bs.length + 3)) HW4.out (fun _ => by have := Hgp.out; simp [Value.ownBlock]; omega) (by have := Hn.out; omega) (by simp) (Nat.le_trans HG2.out.size HG4.out.size))
  go_upto_region 5 with (go_at_call 19; refine Hwr.out.mono ?_; rintro e w5 ⟨rfl, lv, hh, hf, ho⟩; have HH5 := Lib.hid (show HSt w5 w1.heap.size p lv bs from hh); have HF5 := Lib.hid hf; have HO5 := Lib.hid ho; clear hh hf ho)
  have Hts := Lib.hid (show ∀ k, TS p (.slice none 0 0) k → k = p from fun k hk => by rcases hk with h | h; exact h; simp [Value.ownBlock] at h)
  have HB5g := Lib.hid (HB4.out.fr HF5.out (fun h => by have h1 := Hts.out _ h; have h2 := Hgp.out; omega))
  have HB5d := Lib.hid (HB5.out.fr HF5.out (fun h => by have h1 := Hts.out _ h; have h2 := Hp5.out; omega))
  have HG5 := Lib.hid (show Gr w w5 from ((HG1.out.trans HG2.out (fun _ _ h => h)).trans HG4.out (fun _ _ h => h)).trans HF5.out (fun i hi h => by have h1 := Hts.out _ h; have h2 := Hgp.out; have h3 := Hg.out; omega))
  have Hlv := Lib.hid (show ∀ k, lv.ownBlock = some k → g ≠ k from fun k hk => by have h1 := HO5.out k hk; have h2 := HB4.out.lt; omega)
  clear HB4 HB5 HF5 HO5 HG1 HG2 HG3 HG4 HB1 HB2 HW2 HW4 Hwr HH2 HH4
  have HS5 := Lib.hid (HS.out.gr HG5.out)
  go_upto_region 6 with (go_at_call 23; refine (left_any g v bs w5 HB5g.out HS5.out (by have := Hn.out; omega)).mono ?_; rintro e w6 ⟨rfl, hd⟩; have HD6 := Lib.hid hd; clear hd)
  have HB6 := Lib.hid (HB5g.out.fr HD6.out.gr (fun h => h))
  go_upto_region 7 with (go_at_call 24; refine (spoil_any g bs.length (bs.length + 3) _ 1 w6 HB6.out (by rw [brr_size, Hwl.out]) (brr_isb _) (by omega) (by have := Hn.out; omega)).mono ?_; rintro e w7 ⟨rfl, hf⟩; have HF7 := Lib.hid hf; clear hf)
  have HP := Lib.hid (show PF w w7 v bs w1.heap.size p p5 lv from by
    have hg7 : Gr w w7 := (HG5.out.trans HD6.out.gr (fun _ _ h => h)).trans HF7.out (fun i hi h => by have h3 := Hg.out; omega)
    exact ⟨hg7, HS.out.gr hg7, (HH5.out.gr HD6.out.gr).fr HF7.out (fun h => by have := Hgp.out; omega) (fun k hk h => Hlv.out k hk h.symm), (HB5d.out.fr HD6.out.gr (fun h => h)).fr HF7.out (fun h => by have := Hp5.out; omega)⟩)
  clear HG5 HD6 HF7 HS HS5 HH5 HB5d HB5g HB6 Hlv Hts Hp5 Hgp Hg Hwl
  have Hr := Lib.hid (fun wx (hx : PF w wx v bs w1.heap.size p p5 lv) => row32_blk hx.b5 Hdl.out)
  have hr0 := Hr.out w7.drew (HP.out.gr' (Fr.refl w7 _).drew)
  have HP0 := Lib.hid (HP.out.gr' (Fr.refl w7 _).drew)
  have Hc1 := Lib.hid (fun (wx : World) (hx : PF w wx v bs w1.heap.size p p5 lv) => (rsum_any v bs wx hx.sl (by have := Hn.out; omega)).mono (R' := fun e w' => e = .returned (.agg (brr (sum bs))) ∧ Hid (PF w w' v bs w1.heap.size p p5 lv) ∧ row32 w' p5 0 = some (brr (sum bs)))
    (fun e w' hh => ⟨hh.1, hx.gr' hh.2, Hr.out _ (hx.gr' hh.2)⟩))
  have Hc2 := Lib.hid (fun (wx : World) (hx : PF w wx v bs w1.heap.size p p5 lv) => (hsum_any hx.st (by have := Hn.out; omega)).mono (R' := fun e w' => e = .returned (.agg (brr (sum bs))) ∧ Hid (PF w w' v bs w1.heap.size p p5 lv) ∧ row32 w' p5 0 = some (brr (sum bs)))
    (fun e w' hh => ⟨hh.1, hx.gr' hh.2, Hr.out _ (hx.gr' hh.2)⟩))
  have Hc3 := Lib.hid (fun (wx : World) (hx : PF w wx v bs w1.heap.size p p5 lv) => (works_any wx).mono (R' := fun e w' => e = .returned (.bool true) ∧ Hid (PF w w' v bs w1.heap.size p p5 lv))
    (fun e w' hh => ⟨hh.1, hx.gr' hh.2⟩))
  clear Hr
  go_region_law (first
    | (go_simp; go_at_call 14; refine (Hc1.out _ HP0.out).mono ?_; rintro e w8 ⟨rfl, H8, hr8⟩)
    | (go_simp; go_at_call 20; refine (Hc2.out _ H8.out).mono ?_; rintro e w9 ⟨rfl, H9, hr9⟩)
    | (go_simp; go_at_call 12; refine (Hc3.out _ H9.out).mono ?_; rintro e w10 ⟨rfl, H10⟩))
  all_goals go_wp2_with fail
  all_goals go_ret
  all_goals exact ⟨rfl, H10.out.gr⟩
end Go.Proofs.Ytfpgfnmidkkgjaa
