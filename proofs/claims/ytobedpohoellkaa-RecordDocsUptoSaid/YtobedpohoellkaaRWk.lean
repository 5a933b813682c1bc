/- law 13: works. -/
import Derived.Test.YtobedpohoellkaaRWf
import Derived.Test.YtobedpohoellkaaVPl
import Derived.Laws.IdiomStrings
import Derived.Lib.SlBytesConst
set_option linter.unusedVariables false
set_option linter.unusedSimpArgs false
namespace Go.Proofs.Ytobedpohoellkaa
open Go.RowKit
open Voc Leb Bpe
namespace Rec
instance decWf (q : Pc) : Decidable (wfP q) := by unfold wfP; infer_instance
theorem pl_check : checkE (pls 256) = (0, 0) := by decide +kernel
theorem pl_wf : ∀ q ∈ pls 256, wfP q := by decide +kernel
theorem pl_len : (pls 256).length = 256 := by decide +kernel
theorem pl_enc : encL (pls 256) (row0 (pls 256) [97, 98, 99]) = [97, 98, 99] := by decide +kernel
theorem pl_dec : decE (pls 256) [97, 98, 99] = ([97, 98, 99], 0) := by unfold decE flatE expE sizeE; rw [pl_check]; decide +kernel
theorem deltas_in : ∀ (l : List Int) (was : Int), Bs (deltas was l)
  | [], _ => fun c h => by simp [deltas] at h
  | x :: l, was => fun c h => by
    simp only [deltas] at h
    rcases List.mem_append.1 h with h | h
    · exact putN_byte 10 _ c h
    · exact deltas_in l x c h
theorem le8_in (v : Int) : Bs (le8 v) := by
  intro c h
  unfold le8 at h
  simp only [List.mem_cons, List.not_mem_nil, or_false] at h
  rcases h with h | h | h | h | h | h | h | h <;> omega
theorem putR_in {r : Rc} (hd : Bs r.d) : Bs (putR r).1 := by
  unfold putR
  split
  · intro c h; simp at h
  · split
    · intro c h; simp at h
    · intro c h
      simp only [List.mem_append] at h
      rcases h with h | h | h | h
      · exact hd c h
      · exact le8_in _ c h
      · exact putN_byte 10 _ c h
      · unfold packE at h
        split at h
        · simp at h
        · split at h
          · simp at h
          · rcases List.mem_append.1 h with h | h
            · exact putN_byte 10 _ c h
            · exact deltas_in _ _ c h
theorem putR_len (r : Rc) (hd : r.d.length = 32) : (putR r).1.length ≤ 700100 := by
  unfold putR
  split
  · simp
  · split
    · simp
    · simp only [List.length_append, hd, le8_len]
      have h1 := putL_len r.n.toNat
      have h2 : (packE r.t).1.length ≤ 655400 := by
        unfold packE
        split
        · simp
        · split
          · simp
          · simp only [List.length_append]
            have := putL_len r.t.length
            have := deltas_len r.t 0
            omega
      omega
theorem dgB_in (bs : List Int) : Bs (dgB bs) := by
  intro c h
  unfold dgB at h
  obtain ⟨x, _, rfl⟩ := List.mem_map.1 h
  have := x.isLt
  omega
/-- the record of "abc" -/
def r0 (d : List Int) : Rc := ⟨d, 7, 3, [97, 98, 99]⟩
theorem r0_of (d : List Int) (h : dgB [97, 98, 99] = d) : ofE (pls 256) 7 [97, 98, 99] = (r0 d, 0) := by
  unfold ofE
  rw [pl_check, if_neg (by decide), if_neg (by decide), pl_enc, h]
  rfl
theorem r0_put (d : List Int) : ∃ b, putR (r0 d) = (b, 0) := by
  refine ⟨d ++ (le8 7 ++ (putL 3 ++ (putL 3 ++ deltas 0 [97, 98, 99]))), ?_⟩
  unfold putR r0
  simp only
  rw [if_neg (by decide), packE_of (by decide) (by decide)]
  simp only
  rw [if_neg (by decide)]
  rfl
theorem r0_doc (d : List Int) (h : dgB [97, 98, 99] = d) : docE (pls 256) (r0 d) = ([97, 98, 99], 0) := by
  unfold docE r0
  simp only
  rw [pl_dec]
  simp only
  rw [h, if_neg (by decide), if_neg (by intro h; rcases h with h | h; exact h rfl; exact h rfl)]
/-! loads of a record inside a region that draws -/
open Classical in
noncomputable def row35 (w : World) (b o : Nat) : Option (Array Value) :=
  if h : ∃ cs : List Value, cs.length = 35 ∧ w.rangeAt b o cs then some h.choose.toArray else none
open Classical in
theorem row35_of {w : World} {b o : Nat} {cs : List Value} (hl : cs.length = 35) (h : w.rangeAt b o cs) : row35 w b o = some cs.toArray := by
  have hx : ∃ cs : List Value, cs.length = 35 ∧ w.rangeAt b o cs := ⟨cs, hl, h⟩
  unfold row35
  rw [dif_pos hx]
  have h1 := hx.choose_spec
  congr 2
  apply List.ext_getElem (by rw [h1.1, hl])
  intro i hi hi'
  have a := h1.2 i _ (List.getElem?_eq_getElem hi)
  have b := h i _ (List.getElem?_eq_getElem hi')
  rw [a] at b
  injection b
open Classical in
theorem row35_some {w : World} {b o : Nat} {a : Array Value} (h : row35 w b o = some a) : a.size = 35 ∧ w.rangeAt b o a.toList := by
  unfold row35 at h
  split at h
  · rename_i hx
    injection h with h
    have h1 := hx.choose_spec
    rw [← h]
    exact ⟨by simpa using h1.1, by simpa using h1.2⟩
  · cases h
noncomputable def oldLoad35 (w : World) (b o : Nat) : Result Value := (Instr.loadAt 27 (.pointer (some ⟨b, o, none⟩))).run Try.prog w
theorem loadAt_row35 (w : World) (b o : Nat) : (Instr.loadAt 27 (.pointer (some ⟨b, o, none⟩))).run Try.prog w = match row35 w b o with | some a => .ok (.agg a) w | none => oldLoad35 w b o := by
  split
  · rename_i a h
    obtain ⟨h1, h2⟩ := row35_some h
    have := run_loadAt_mid w b o 27 a.toList _ h2 Try.underlying27 rfl (by rw [Array.length_toList, h1]; kernel_rfl)
    simpa using this
  · rfl
noncomputable def oldLoadV35 (w : World) (b o : Nat) : Result Value := (loadVar 27 ⟨b, o, none⟩).run Try.prog w
theorem loadVar_row35 (w : World) (b o : Nat) : (loadVar 27 ⟨b, o, none⟩).run Try.prog w = match row35 w b o with | some a => .ok (.agg a) w | none => oldLoadV35 w b o := by
  split
  · rename_i a h
    obtain ⟨h1, h2⟩ := row35_some h
    have := run_loadVar_mid w b o 27 a.toList _ h2 Try.underlying27 rfl (by rw [Array.length_toList, h1]; kernel_rfl)
    simpa using this
  · rfl
noncomputable def oldLoadC35 (w : World) (b o : Nat) : Result (Array Value) := (loadCellsFrom ⟨b, o, none⟩ 0 35 #[]).run Try.prog w
theorem loadCells_row35 (w : World) (b o : Nat) : (loadCellsFrom ⟨b, o, none⟩ 0 35 #[]).run Try.prog w = match row35 w b o with | some a => .ok a w | none => oldLoadC35 w b o := by
  split
  · rename_i a h
    obtain ⟨h1, h2⟩ := row35_some h
    have := run_loadCells_list (P := Try.prog) w ⟨b, o, none⟩ a.toList (fun j v hv => by rw [Addr.add_mid]; exact h2 j v hv)
    rw [Array.length_toList, h1] at this
    simpa [loadCells] using this
  · rfl
theorem row35_rec {w : World} {p : Nat} {r : Rc} {tv : Value} (h : Blk w p TRc (rcA r tv)) (hd : r.d.length = 32) : row35 w p 0 = some (rcA r tv) := by
  have := row35_of (w := w) (b := p) (o := 0) (cs := (rcA r tv).toList) (by rw [Array.length_toList, rcA_size _ hd]) (fun j v hj => by
    rw [Nat.zero_add, h.cell, ← Array.getElem?_toList]; exact hj)
  simpa using this
attribute [local go_sem ↓] loadAt_row35 loadVar_row35 loadCells_row35
set_option maxRecDepth 20000 in
set_option maxHeartbeats 4000000 in
theorem works_any (w : World) : Calls Try.prog 14 #[] w fun e w' => e = .returned (.bool true) ∧ Gr w w' := by
  have Hp := Lib.hid (fun wx => rplain_any wx)
  obtain ⟨dg, hdg⟩ : ∃ d, dgB [97, 98, 99] = d := ⟨_, rfl⟩
  have Hdl := Lib.hid (show dg.length = 32 by rw [← hdg]; exact dgB_len _)
  have Hdi := Lib.hid (show Bs dg by rw [← hdg]; exact dgB_in _)
  have Hof := Lib.hid (r0_of dg hdg)
  have Hdoc := Lib.hid (r0_doc dg hdg)
  clear hdg
  obtain ⟨b0, hb0⟩ := r0_put dg
  have Hb0 := Lib.hid hb0
  have Hg0 := Lib.hid (get_put (r := r0 dg) Hdl.out (by show 0 ≤ (7 : Int) ∧ (7 : Int) < 18446744073709551616; omega) hb0)
  have Hbin := Lib.hid (show Bs b0 from by have h := putR_in (r := r0 dg) Hdi.out; rw [hb0] at h; exact h)
  have Hbl := Lib.hid (show b0.length ≤ 700100 from by have h := putR_len (r0 dg) Hdl.out; rw [hb0] at h; exact h)
  clear hb0
  go_enter Try.func14, Try.ntmps14
  go_upto_region 1 with (fail)
  have HOf := Lib.hid (show ∀ wx sv vb, SL encP wx sv (pls 256) → SL encB wx vb [97, 98, 99] → Calls Try.prog 19 #[.agg #[sv], .int .u64 7, vb] wx fun e w' => ∃ tv, e = .returned (.tuple #[.agg (rcA (r0 dg) tv), .int .i64 0]) ∧ OI w' wx.heap.size tv [97, 98, 99] ∧ Gr wx w' from fun wx sv vb h1 h2 => by
    have h := recOf_any h1 h2 pl_wf (by intro c h; simp at h; omega) (by rw [pl_len]; decide) (by decide) 7
    rw [Hof.out] at h
    exact h)
  have HPt := Lib.hid (show ∀ wx tv, SL encI wx tv [97, 98, 99] → Calls Try.prog 11 #[.agg (rcA (r0 dg) tv)] wx fun e w' => ∃ bv, e = .returned (.tuple #[bv, .int .i64 0]) ∧ OB w' wx.heap.size bv b0 ∧ Gr wx w' from fun wx tv h1 => by
    have h := recPut_any (r := r0 dg) Hdl.out (by show 0 ≤ (7 : Int) ∧ (7 : Int) < 18446744073709551616; omega) h1 (by show ([97, 98, 99] : List Int).length ≤ _; decide)
    rw [Hb0.out] at h
    exact h)
  have HGt := Lib.hid (show ∀ wx bv, SL encB wx bv b0 → Calls Try.prog 15 #[bv] wx fun e w' => ∃ tv, e = .returned (.tuple #[.agg (rcA (r0 dg) tv), .int .i64 0]) ∧ OI w' wx.heap.size tv [97, 98, 99] ∧ Gr wx w' from fun wx bv h1 => by
    have h := recGet_any h1 Hbin.out (by have := Hbl.out; omega)
    rw [Hg0.out] at h
    exact h)
  have HDc := Lib.hid (show ∀ wx sv tv, SL encP wx sv (pls 256) → SL encI wx tv [97, 98, 99] → Calls Try.prog 26 #[.agg #[sv], .agg (rcA (r0 dg) tv)] wx fun e w' => ∃ bv, e = .returned (.tuple #[bv, .int .i64 0]) ∧ OB w' wx.heap.size bv [97, 98, 99] ∧ Gr wx w' from fun wx sv tv h1 h2 => by
    have h := recDoc_any (r := r0 dg) h1 pl_wf (by rw [pl_len]; decide) Hdl.out h2 (by show ([97, 98, 99] : List Int).length ≤ _; decide)
    rw [Hdoc.out] at h
    exact h)
  have Hsz := Lib.hid (fun tv => rcA_size (r := r0 dg) tv Hdl.out)
  have Hl3 := Lib.hid (fun (wx : World) => show SL encB (wx.alloc (.cells #[.int .u8 97, .int .u8 98, .int .u8 99] 5 (3, 4))) (.slice (some ⟨wx.heap.size, 0, none⟩) 3 3) [97, 98, 99] from by
    refine ⟨_, 3, rfl, by simp, fun _ => ⟨wx.heap.size, 0, rfl, by simp, fun i u hu => ?_⟩⟩
    rw [Nat.zero_add, cell_of_row _ _ i _ _ (3, 4) (heap_alloc_new wx _)]
    simpa [encB] using hu)
  have kc := fun (w : World) (C : Array Value) (n c : Nat) => Lib.run_convert_bytes_const (P := Try.prog) w 28 5 C n c Try.underlying28 Try.underlying5
  clear Hof Hdoc Hb0 Hg0 Hbin Hbl Hdi
  go_upto_region 2 with (first
    | (go_at_call 35; refine (Hp.out _).mono ?_; rintro e w1 ⟨sv, rfl, ho, hg⟩; obtain ⟨Av1, cv1, rfl⟩ := own_formN ho; have HP1 := Lib.hid (SL.of_own (enc := encP) ho pl_len.symm); have HG1 := Lib.hid hg; clear ho hg)
    | (go_at_call 19; refine (HOf.out _ _ _ (HP1.out.gr ((Fr.refl w1 NoneS).alloc _)) (Hl3.out w1)).mono ?_; rintro e w2 ⟨tv, rfl, ho, hg⟩; obtain ⟨At, ct, rfl⟩ := own_formN ho.own; have HT2 := Lib.hid ho.sl; have HG2 := Lib.hid (HG1.out.trans (((Fr.refl w1 NoneS).alloc _).trans hg (fun _ _ h => h)) (fun _ _ h => h)); clear ho hg)
    | refine Sha.wpList_store_new (w0 := w2) rfl _ _ _ rfl (rcA (r0 dg) (.slice At 3 ct)) _ _ rfl rfl rfl (by rw [Hsz.out]; kernel_rfl) (by rw [Hsz.out]; rfl) (rcA_one rfl) ?_)
  have HB3 := Lib.hid (Blk.new w2 TRc (rcA (r0 dg) (.slice At 3 ct)))
  have HG3 := Lib.hid (HG2.out.alloc (.cells (rcA (r0 dg) (.slice At 3 ct)) TRc))
  have HT3 := Lib.hid (HT2.out.gr ((Fr.refl w2 NoneS).alloc (.cells (rcA (r0 dg) (.slice At 3 ct)) TRc)))
  generalize w2.heap.size = p1 at HB3 ⊢
  generalize World.alloc w2 _ = w3 at HB3 HG3 HT3 ⊢
  clear kc HT2 HP1
  go_upto_region 3 with (first
    | refine wpList_load_row rfl _ _ rfl p1 rfl TRc (rcA (r0 dg) (.slice At 3 ct)) (0, 0) _ HB3.out Try.underlying27 rfl (by rw [Hsz.out]; kernel_rfl) ?_
    | (go_at_call 11; refine (HPt.out _ _ HT3.out).mono ?_; rintro e w4 ⟨bv, rfl, ho, hg⟩; have HO4 := Lib.hid ho.sl; have HG4 := Lib.hid (HG3.out.trans hg (fun _ _ h => h)); clear ho hg))
  go_upto_region 4 with (first
    | (go_at_call 15; refine (HGt.out _ _ HO4.out).mono ?_; rintro e w5 ⟨tv5, rfl, ho, hg⟩; obtain ⟨A5, c5, rfl⟩ := own_formN ho.own; have HT5 := Lib.hid ho.sl; have HG5 := Lib.hid (HG4.out.trans hg (fun _ _ h => h)); clear ho hg)
    | refine Sha.wpList_store_new (w0 := w5) rfl _ _ _ rfl (rcA (r0 dg) (.slice A5 3 c5)) _ _ rfl rfl rfl (by rw [Hsz.out]; kernel_rfl) (by rw [Hsz.out]; rfl) (rcA_one rfl) ?_)
  have HB6 := Lib.hid (Blk.new w5 TRc (rcA (r0 dg) (.slice A5 3 c5)))
  have HG6 := Lib.hid (HG5.out.alloc (.cells (rcA (r0 dg) (.slice A5 3 c5)) TRc))
  have HT6 := Lib.hid (HT5.out.gr ((Fr.refl w5 NoneS).alloc (.cells (rcA (r0 dg) (.slice A5 3 c5)) TRc)))
  generalize w5.heap.size = p5 at HB6 ⊢
  generalize World.alloc w5 _ = w6 at HB6 HG6 HT6 ⊢
  clear HT3 HT5 HB3 HOf HPt HGt
  have l0 := row35_rec HB6.out Hdl.out
  have Hl0 := Lib.hid (fun wx (hg : Gr w6 wx) => row35_rec (HB6.out.fr hg (fun h => h)) Hdl.out)
  go_region_held3 (fun wx => row35 wx p5 0 = some (rcA (r0 dg) (.slice A5 3 c5)))
    (first | with_reducible exact l0' | exact l0)
    (first
      | (go_at_call 35
         refine (Hp.out _).mono ?_
         rintro e w7 ⟨sv7, rfl, ho, hg⟩
         obtain ⟨Av7, cv7, rfl⟩ := own_formN ho
         have HP7 := Lib.hid (SL.of_own (enc := encP) ho pl_len.symm)
         have HG7 := Lib.hid (show Gr w6 w7 from ((Fr.refl w6 NoneS).drew).trans hg (fun _ _ h => h))
         have l0' := Hl0.out _ HG7.out
         clear ho hg)
      | (go_at_call 26
         refine (HDc.out _ _ _ HP7.out (HT6.out.gr HG7.out)).mono ?_
         rintro e w8 ⟨cv, rfl, ho, hg⟩
         have HO8 := Lib.hid ho
         have HG8 := Lib.hid (HG7.out.trans hg (fun _ _ h => h))
         have l0' := Hl0.out _ HG8.out
         clear hg ho))
  obtain ⟨tb, tc, rfl⟩ : ∃ tb tc, cv = .slice (some ⟨tb, 0, none⟩) 3 tc := by
    rcases HO8.out.own.2 with ⟨_, h⟩ | ⟨b, c, _, h, _⟩
    · exact absurd h (by decide)
    · exact ⟨b, c, h⟩
  have hcv : ∀ wx, Gr w8 wx → (convert 28 9 (.slice (some ⟨tb, 0, none⟩) 3 tc)).run Try.prog wx = .ok (.string ⟨[97, 98, 99].toArray⟩) wx := fun wx hg =>
    run_convert_bytes_back (P := Try.prog) wx 28 9 5 ⟨tb, 0, none⟩ tc [97, 98, 99] Try.underlying28 Try.underlying5 Try.underlying9 (fun j hj => by
      have hj' : j < 3 := hj
      have hc := (HO8.out.gr hg).own.cells (g := tb) rfl j
      match j, hj' with
      | 0, _ => exact hc _ rfl
      | 1, _ => exact hc _ rfl
      | 2, _ => exact hc _ rfl)
  have hcv8 := hcv _ (Fr.refl _ _)
  have f32 : w8.cell? ⟨p5, 32, none⟩ = some (.int .u64 7) := by rw [(HB6.out.fr HG8.out (fun h => h)).cell]; exact rcA_v (r := r0 dg) _ Hdl.out
  have f33 : w8.cell? ⟨p5, 33, none⟩ = some (.int .i64 3) := by rw [(HB6.out.fr HG8.out (fun h => h)).cell]; exact rcA_n (r := r0 dg) _ Hdl.out
  clear l0 hcv
  go_wp2_with fail
  go_ret
  exact ⟨rfl, HG6.out.trans HG8.out (fun _ _ h => h)⟩
end Rec
end Go.Proofs.Ytobedpohoellkaa
