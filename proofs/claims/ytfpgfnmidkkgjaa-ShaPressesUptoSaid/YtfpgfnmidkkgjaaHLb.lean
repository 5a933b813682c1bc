/- sha: the walk of ShaPresses. -/
import Derived.Test.YtfpgfnmidkkgjaaHRc
import Derived.Deep.RegionLaw
set_option linter.unusedVariables false
set_option linter.unusedSimpArgs false
namespace Go.Proofs.Ytfpgfnmidkkgjaa
open Go.RowKit
namespace Sha
open Classical in
noncomputable def row8 (w : World) (b o : Nat) : Option (Array Value) :=
  if h : ∃ cs : List Value, cs.length = 8 ∧ w.rangeAt b o cs then some h.choose.toArray else none
open Classical in
theorem row8_of {w : World} {b o : Nat} {cs : List Value} (hl : cs.length = 8) (h : w.rangeAt b o cs) : row8 w b o = some cs.toArray := by
  have hx : ∃ cs : List Value, cs.length = 8 ∧ w.rangeAt b o cs := ⟨cs, hl, h⟩
  unfold row8
  rw [dif_pos hx]
  have h1 := hx.choose_spec
  congr 2
  apply List.ext_getElem (by rw [h1.1, hl])
  intro i hi hi'
  have a := h1.2 i _ (List.getElem?_eq_getElem hi)
  have b := h i _ (List.getElem?_eq_getElem hi')
  rw [a] at b
  injection b
open Classical in
theorem row8_some {w : World} {b o : Nat} {a : Array Value} (h : row8 w b o = some a) : a.size = 8 ∧ w.rangeAt b o a.toList := by
  unfold row8 at h
  split at h
  · rename_i hx
    injection h with h
    have h1 := hx.choose_spec
    rw [← h]
    exact ⟨by simpa using h1.1, by simpa using h1.2⟩
  · cases h
noncomputable def oldLoad8 (w : World) (b o : Nat) : Result Value := (Instr.loadAt T8 (.pointer (some ⟨b, o, none⟩))).run Try.prog w
theorem loadAt_row8 (w : World) (b o : Nat) : (Instr.loadAt T8 (.pointer (some ⟨b, o, none⟩))).run Try.prog w = match row8 w b o with | some a => .ok (.agg a) w | none => oldLoad8 w b o := by
  split
  · rename_i a h
    obtain ⟨h1, h2⟩ := row8_some h
    have := run_loadAt_mid w b o T8 a.toList _ h2 Try.underlying23 rfl (by rw [Array.length_toList, h1]; kernel_rfl)
    simpa using this
  · rfl
noncomputable def oldLoadV8 (w : World) (b o : Nat) : Result Value := (loadVar T8 ⟨b, o, none⟩).run Try.prog w
theorem loadVar_row8 (w : World) (b o : Nat) : (loadVar T8 ⟨b, o, none⟩).run Try.prog w = match row8 w b o with | some a => .ok (.agg a) w | none => oldLoadV8 w b o := by
  split
  · rename_i a h
    obtain ⟨h1, h2⟩ := row8_some h
    have := run_loadVar_mid w b o T8 a.toList _ h2 Try.underlying23 rfl (by rw [Array.length_toList, h1]; kernel_rfl)
    simpa using this
  · rfl
noncomputable def oldLoadC8 (w : World) (b o : Nat) : Result (Array Value) := (loadCellsFrom ⟨b, o, none⟩ 0 8 #[]).run Try.prog w
theorem loadCells_row8 (w : World) (b o : Nat) : (loadCellsFrom ⟨b, o, none⟩ 0 8 #[]).run Try.prog w = match row8 w b o with | some a => .ok a w | none => oldLoadC8 w b o := by
  split
  · rename_i a h
    obtain ⟨h1, h2⟩ := row8_some h
    have := run_loadCells_list (P := Try.prog) w ⟨b, o, none⟩ a.toList (fun j v hv => by rw [Addr.add_mid]; exact h2 j v hv)
    rw [Array.length_toList, h1] at this
    simpa [loadCells] using this
  · rfl
theorem row8_blk {w : World} {g : Nat} {d : List U} (h : Blk w g T8 (arr d)) (hd : d.length = 8) : row8 w g 0 = some (arr d) :=
  row8_of (cs := d.map V) (by rw [List.length_map]; exact hd) (fun j v hj => by rw [Nat.zero_add, h.cell, ← hj]; simp [arr])
theorem row64_blk {w : World} {g : Nat} {d : List B} (h : Blk w g TB (brr d)) (hd : d.length = 64) : row64 w g 0 = some (brr d) :=
  row64_of (cs := d.map C) (by rw [List.length_map]; exact hd) (fun j v hj => by rw [Nat.zero_add, h.cell, ← hj]; simp [brr])
end Sha
open Sha
attribute [local go_sem ↓] loadAt_row loadVar_row loadCells_row loadAt_row8 loadVar_row8 loadCells_row8

def PS (w wx : World) (p2 p3 : Nat) (h : List U) (b : List B) : Prop := Gr w wx ∧ Blk wx p2 T8 (arr h) ∧ Blk wx p3 TB (brr b)
theorem PS.gr' {w wx wy : World} {p2 p3 : Nat} {h : List U} {b : List B} (H : PS w wx p2 p3 h b) (hg : Gr wx wy) : PS w wy p2 p3 h b :=
  ⟨H.1.trans hg (fun _ _ h => h), H.2.1.fr hg (fun h => h), H.2.2.fr hg (fun h => h)⟩
set_option maxHeartbeats 12800000 in
set_option maxRecDepth 100000 in
theorem ShaPresses_any (w : World) (h : List U) (b : List B) (hh : h.length = 8) (hb : b.length = 64) :
    Calls Try.prog 3 #[.agg (arr h), .agg (brr b)] w fun e w' => e = .returned (.bool true) ∧ Gr w w' := by
  have Hh := Lib.hid hh
  have Hb := Lib.hid hb
  have HE := fun w => eql_8 (press h b) (press_len h b hh) w
  have H0 := Lib.hid (show PS w ((w.alloc (.cells (arr h) T8)).alloc (.cells (brr b) TB)) w.heap.size (w.heap.size + 1) h b from
    ⟨((Fr.refl w _).alloc _).alloc _, (Blk.new w T8 (arr h)).alloc _, blk_new _ _ _ _ (by simp)⟩)
  clear hh hb
  go_enter Try.func3, Try.ntmps3
  go_upto_region 1 with (fail)
  change Code.wp _ _ _ _ ((w.alloc (.cells (arr h) T8)).alloc (.cells (brr b) TB))
  generalize World.alloc _ _ = w1 at H0 ⊢
  generalize w.heap.size + 1 = p3 at H0 ⊢
  generalize w.heap.size = p2 at H0 ⊢
  have HP := Lib.hid (H0.out.gr' (Fr.refl w1 _).drew)
  clear H0
  have hr1 := row8_blk HP.out.2.1 Hh.out
  have hr2 := row64_blk HP.out.2.2 Hb.out
  have Hc1 := Lib.hid (fun (wx : World) (hx : PS w wx p2 p3 h b) => (press_any h b Hh.out Hb.out wx).mono (R' := fun e w' => e = .returned (.agg (arr (press h b))) ∧ Hid (PS w w' p2 p3 h b) ∧ row8 w' p2 0 = some (arr h) ∧ row64 w' p3 0 = some (brr b))
    (fun e w' hh => ⟨hh.1, hx.gr' hh.2, row8_blk (hx.gr' hh.2).2.1 Hh.out, row64_blk (hx.gr' hh.2).2.2 Hb.out⟩))
  have Hc2 := Lib.hid (fun (wx : World) (hx : PS w wx p2 p3 h b) => (rpress_any h b Hh.out Hb.out wx).mono (R' := fun e w' => e = .returned (.agg (arr (press h b))) ∧ Hid (PS w w' p2 p3 h b) ∧ row8 w' p2 0 = some (arr h) ∧ row64 w' p3 0 = some (brr b))
    (fun e w' hh => ⟨hh.1, hx.gr' hh.2, row8_blk (hx.gr' hh.2).2.1 Hh.out, row64_blk (hx.gr' hh.2).2.2 Hb.out⟩))
  have Hc3 := Lib.hid (fun (wx : World) (hx : PS w wx p2 p3 h b) => (works_any wx).mono (R' := fun e w' => e = .returned (.bool true) ∧ Hid (Gr w w'))
    (fun e w' hh => ⟨hh.1, (hx.gr' hh.2).1⟩))
  go_region_law (first
    | (go_simp; go_at_call 10; refine (Hc1.out _ (by first | exact HS.out | exact HP.out)).mono ?_; rintro e w8 ⟨rfl, HS, hr8, hr9⟩)
    | (go_simp; go_at_call 11; refine (Hc2.out _ (by first | exact HS.out | exact HP.out)).mono ?_; rintro e w8 ⟨rfl, HS, hr8, hr9⟩)
    | (go_simp; go_at_call 12; refine (Hc3.out _ HS.out).mono ?_; rintro e w10 ⟨rfl, HG⟩))
  all_goals go_wp2_with fail
  all_goals go_ret
  all_goals exact ⟨rfl, HG.out⟩
theorem ShaPresses_walk (w : World) (xs : List Int) (hx : xs.length = 8) (hxw : ∀ x ∈ xs, (Lit.int .u32 x).wf = true) (ys : List Int) (hy : ys.length = 64) (hyw : ∀ x ∈ ys, (Lit.int .u8 x).wf = true) :
    Calls Try.prog 3 #[.agg (xs.map (Value.int .u32)).toArray, .agg (ys.map (Value.int .u8)).toArray] w fun e w' => e = .returned (.bool true) ∧ Gr w w' := by
  rw [to_arr hxw, to_brr hyw]
  exact ShaPresses_any w _ _ (by rw [List.length_map]; exact hx) (by rw [List.length_map]; exact hy)
end Go.Proofs.Ytfpgfnmidkkgjaa
