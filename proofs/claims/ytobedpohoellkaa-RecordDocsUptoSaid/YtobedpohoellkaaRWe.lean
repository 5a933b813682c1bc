/- record: Of, Doc; what they are, in plain Lean. -/
import Derived.Test.YtobedpohoellkaaRWd
import Derived.Test.YtobedpohoellkaaEPe
import Derived.Test.YtobedpohoellkaaHRp
import Derived.Laws.StructEq
set_option linter.unusedVariables false
set_option linter.unusedSimpArgs false
namespace Go.Proofs.Ytobedpohoellkaa
open Go.RowKit
open Voc Leb Bpe
namespace Rec
def dgB (bs : List Int) : List Int := (Sha.sum (bs.map (BitVec.ofInt 8))).map fun x => (x.toNat : Int)
theorem dgB_len (bs : List Int) : (dgB bs).length = 32 := by unfold dgB; rw [List.length_map, Sha.sum_len]
theorem brr_dg (bs : List Int) : Sha.brr (Sha.sum (bs.map (BitVec.ofInt 8))) = ((dgB bs).map (Value.int .u8)).toArray := by
  unfold Sha.brr dgB; rw [List.map_map]; rfl
def ofE (xs : List Pc) (id : Int) (bs : List Int) : Rc × Int :=
  if (checkE xs).1 ≠ 0 then (zeroR, 11) else if 4096 < bs.length then (zeroR, 12) else (⟨dgB bs, id, (bs.length : Int), encL xs (row0 xs bs)⟩, 0)
def docE (xs : List Pc) (r : Rc) : List Int × Int :=
  if (decE xs r.t).2 ≠ 0 then ([], (decE xs r.t).2) else if ((decE xs r.t).1.length : Int) ≠ r.n ∨ dgB (decE xs r.t).1 ≠ r.d then ([], 6) else ((decE xs r.t).1, 0)
theorem sumI_any (v : Value) (bs : List Int) (w : World) (hs : SL encB w v bs) (hb : Bs bs) (hn : bs.length ≤ 4194304) :
    Calls Try.prog 43 #[v] w fun e w' => e = .returned (.agg ((dgB bs).map (Value.int .u8)).toArray) ∧ Gr w w' := by
  rw [← brr_dg]
  exact Sha.sum_any v _ w (Sha.ofInts_sl hs hb) (by rw [List.length_map]; exact hn)
section
variable {P : Program} (w : World)
theorem run_equalIn_two (d : Nat) (t e : TypeId) (n : Nat) (k : IntKind) (ht : P.underlying t = some (.array n e)) (he : P.underlying e = some (.int k)) (hsz : ∀ w, (sizeOf e).run P w = .ok 1 w)
    (cs ds : Array Value) (f g : Nat → Int) (hx : ∀ i, i < n → cs[i]? = some (.int k (f i))) (hy : ∀ i, i < n → ds[i]? = some (.int k (g i))) :
    (Op.equalIn (d + 2) t (.agg cs) (.agg ds)).run P w = .ok ((List.range n).all fun i => f i == g i) w := by
  rw [Op.equalIn]
  simp only [Sem.run_bind, run_underlying ht, Result.andThen_ok, hsz, Std.Legacy.Range.forIn_eq_forIn_range', Std.Legacy.Range.size, Nat.sub_zero, Nat.add_sub_cancel, Nat.div_one]
  have hl : ∀ i ∈ List.range' 0 n 1, i < n := fun i hi => by simpa using (List.mem_range'_1.1 hi).2
  rw [List.range_eq_range']
  generalize List.range' 0 n 1 = l at hl ⊢
  induction l with
  | nil => simp
  | cons i l ih =>
    have hi : i < n := hl i (by simp)
    have px : (part e cs (i * 1)).run P w = .ok (.int k (f i)) w := by simp [part, isAgg, run_underlying he, hx i hi]
    have py : (part e ds (i * 1)).run P w = .ok (.int k (g i)) w := by simp [part, isAgg, run_underlying he, hy i hi]
    have pe : (Op.equalIn (d + 1) e (.int k (f i)) (.int k (g i))).run P w = .ok (f i == g i) w := by
      rw [run_equalIn_int w d e k k _ _ he]
      try simp
    simp only [List.forIn_cons, Sem.run_bind, px, py, pe, Result.andThen_ok]
    by_cases hxy : f i = g i
    · simp only [beq_iff_eq.2 hxy, Bool.not_true, Bool.false_eq_true, if_false, Sem.run_pure, Result.andThen_ok, List.all_cons, Bool.true_and]
      exact ih fun j hj => hl j (by simp [hj])
    · simp only [beq_eq_false_iff_ne.2 hxy, Bool.not_false, if_true, Sem.run_pure, Result.andThen_ok, List.all_cons, Bool.false_and]
end
theorem all_ne (xs ys : List Int) (hx : xs.length = 32) (hy : ys.length = 32) : ((List.range 32).all fun i => xs.getD i 0 == ys.getD i 0) = decide (xs = ys) := by
  by_cases h : xs = ys
  · subst h; rw [decide_eq_true rfl]; simp
  · rw [decide_eq_false h, Bool.eq_false_iff]
    intro ha
    refine h (List.ext_getElem (by omega) fun i h1 h2 => ?_)
    have := List.all_eq_true.1 ha i (List.mem_range.2 (by omega))
    simp only [beq_iff_eq] at this
    rw [List.getD_eq_getElem?_getD, List.getD_eq_getElem?_getD, List.getElem?_eq_getElem h1, List.getElem?_eq_getElem h2] at this
    exact this
theorem size_u8 (w : World) : (sizeOf 5).run Try.prog w = .ok 1 w := by
  obtain ⟨j0, hj0, hz0, hz1, hz2⟩ := info_parts info_u8
  simp [sizeOf, typeInfo, hj0, hz1]
theorem cells_at (xs : List Int) (hx : xs.length = 32) (i : Nat) (hi : i < 32) : ((xs.map (Value.int .u8)).toArray)[i]? = some (.int .u8 (xs.getD i 0)) := by
  rw [List.getElem?_toArray, List.getElem?_map, List.getD_eq_getElem?_getD, List.getElem?_eq_getElem (by omega)]; rfl
theorem neq_dig (xs ys : List Int) (hx : xs.length = 32) (hy : ys.length = 32) (w : World) : (binOp .neq 23 (.agg (xs.map (Value.int .u8)).toArray) (.agg (ys.map (Value.int .u8)).toArray)).run Try.prog w = .ok (.bool (!decide (xs = ys))) w := by
  rw [run_neq_struct, run_equalIn_two w 9998 23 5 32 .u8 Try.underlying23 Try.underlying5 size_u8 _ _ (fun i => xs.getD i 0) (fun i => ys.getD i 0) (fun i hi => cells_at xs hx i hi) (fun i hi => cells_at ys hy i hi), all_ne xs ys hx hy]
  rfl
theorem eql_dig (xs ys : List Int) (hx : xs.length = 32) (hy : ys.length = 32) (w : World) : (binOp .eql 23 (.agg (xs.map (Value.int .u8)).toArray) (.agg (ys.map (Value.int .u8)).toArray)).run Try.prog w = .ok (.bool (decide (xs = ys))) w := by
  rw [run_eql_struct, run_equalIn_two w 9998 23 5 32 .u8 Try.underlying23 Try.underlying5 size_u8 _ _ (fun i => xs.getD i 0) (fun i => ys.getD i 0) (fun i hi => cells_at xs hx i hi) (fun i hi => cells_at ys hy i hi), all_ne xs ys hx hy]
  rfl
/-! loads of a digest inside a region that draws -/
open Classical in
noncomputable def row32 (w : World) (b o : Nat) : Option (Array Value) :=
  if h : ∃ cs : List Value, cs.length = 32 ∧ w.rangeAt b o cs then some h.choose.toArray else none
open Classical in
theorem row32_of {w : World} {b o : Nat} {cs : List Value} (hl : cs.length = 32) (h : w.rangeAt b o cs) : row32 w b o = some cs.toArray := by
  have hx : ∃ cs : List Value, cs.length = 32 ∧ w.rangeAt b o cs := ⟨cs, hl, h⟩
  unfold row32
  rw [dif_pos hx]
  have h1 := hx.choose_spec
  congr 2
  apply List.ext_getElem (by rw [h1.1, hl])
  intro i hi hi'
  have a := h1.2 i _ (List.getElem?_eq_getElem hi)
  have b := h i _ (List.getElem?_eq_getElem hi')
  rw [a] at b
  injection b
open Classical in
theorem row32_some {w : World} {b o : Nat} {a : Array Value} (h : row32 w b o = some a) : a.size = 32 ∧ w.rangeAt b o a.toList := by
  unfold row32 at h
  split at h
  · rename_i hx
    injection h with h
    have h1 := hx.choose_spec
    rw [← h]
    exact ⟨by simpa using h1.1, by simpa using h1.2⟩
  · cases h
noncomputable def oldLoad32 (w : World) (b o : Nat) : Result Value := (Instr.loadAt 23 (.pointer (some ⟨b, o, none⟩))).run Try.prog w
theorem loadAt_row32 (w : World) (b o : Nat) : (Instr.loadAt 23 (.pointer (some ⟨b, o, none⟩))).run Try.prog w = match row32 w b o with | some a => .ok (.agg a) w | none => oldLoad32 w b o := by
  split
  · rename_i a h
    obtain ⟨h1, h2⟩ := row32_some h
    have := run_loadAt_mid w b o 23 a.toList _ h2 Try.underlying23 rfl (by rw [Array.length_toList, h1]; kernel_rfl)
    simpa using this
  · rfl
noncomputable def oldLoadV32 (w : World) (b o : Nat) : Result Value := (loadVar 23 ⟨b, o, none⟩).run Try.prog w
theorem loadVar_row32 (w : World) (b o : Nat) : (loadVar 23 ⟨b, o, none⟩).run Try.prog w = match row32 w b o with | some a => .ok (.agg a) w | none => oldLoadV32 w b o := by
  split
  · rename_i a h
    obtain ⟨h1, h2⟩ := row32_some h
    have := run_loadVar_mid w b o 23 a.toList _ h2 Try.underlying23 rfl (by rw [Array.length_toList, h1]; kernel_rfl)
    simpa using this
  · rfl
noncomputable def oldLoadC32 (w : World) (b o : Nat) : Result (Array Value) := (loadCellsFrom ⟨b, o, none⟩ 0 32 #[]).run Try.prog w
theorem loadCells_row32 (w : World) (b o : Nat) : (loadCellsFrom ⟨b, o, none⟩ 0 32 #[]).run Try.prog w = match row32 w b o with | some a => .ok a w | none => oldLoadC32 w b o := by
  split
  · rename_i a h
    obtain ⟨h1, h2⟩ := row32_some h
    have := run_loadCells_list (P := Try.prog) w ⟨b, o, none⟩ a.toList (fun j v hv => by rw [Addr.add_mid]; exact h2 j v hv)
    rw [Array.length_toList, h1] at this
    simpa [loadCells] using this
  · rfl
theorem row32_rec {w : World} {p : Nat} {r : Rc} {tv : Value} (h : Blk w p TRc (rcA r tv)) (hd : r.d.length = 32) : row32 w p 0 = some ((r.d.map (Value.int .u8)).toArray) :=
  row32_of (cs := r.d.map (Value.int .u8)) (by rw [List.length_map]; exact hd) (fun j v hj => by
    have hi := (List.getElem?_eq_some_iff.1 hj).1
    rw [List.length_map] at hi
    rw [Nat.zero_add, h.cell, rcA_d tv hi, ← List.getElem?_map]; exact hj)
attribute [local go_sem ↓] loadAt_row32 loadVar_row32 loadCells_row32
set_option maxRecDepth 20000 in
set_option maxHeartbeats 4000000 in
theorem recOf_any {w : World} {v vb : Value} {xs : List Pc} {bs : List Int} (HS : SL encP w v xs) (HV : SL encB w vb bs) (hw : ∀ q ∈ xs, wfP q) (hb : Bs bs) (hl : xs.length ≤ 1048576) (hbl : bs.length ≤ 1048576) (id : Int) :
    Calls Try.prog 19 #[.agg #[v], .int .u64 id, vb] w fun e w' => ∃ tv, e = .returned (.tuple #[.agg (rcA (ofE xs id bs).1 tv), .int .i64 (ofE xs id bs).2]) ∧ OI w' w.heap.size tv (ofE xs id bs).1.t ∧ Gr w w' := by
  obtain ⟨A, cap, rfl⟩ := SL.form HS
  obtain ⟨A2, cap2, rfl⟩ := SL.form HV
  have HB := Lib.hid ((Blk.new w 41 #[.slice A xs.length cap]).alloc (.cells (rcA zeroR (.slice none 0 0)) TRc))
  have HG := Lib.hid (((Fr.refl w NoneS).alloc (.cells #[.slice A xs.length cap] 41)).alloc (.cells (rcA zeroR (.slice none 0 0)) TRc))
  have HR := Lib.hid (Blk.new (w.alloc (.cells #[.slice A xs.length cap] 41)) TRc (rcA zeroR (.slice none 0 0)))
  have hsz : (w.alloc (.cells #[.slice A xs.length cap] 41)).heap.size = w.heap.size + 1 := by simp
  rw [hsz] at HR
  clear hsz
  have HC := Lib.hid (fun wx (hg : Gr w wx) => check_any (HS.gr hg) hw hl)
  have HE := Lib.hid (fun wx (hg : Gr w wx) => encode_any (HS.gr hg) (HV.gr hg) hw hb hl)
  have HSm := Lib.hid (fun wx (hg : Gr w wx) => sumI_any _ bs wx (HV.gr hg) hb (by omega))
  obtain ⟨⟨E0, at0⟩, hE⟩ : ∃ y, checkE xs = y := ⟨_, rfl⟩
  have HCe := Lib.hid hE
  rw [hE] at HC
  simp only at HC
  have Hl4 := Lib.hid (enc_len xs bs)
  have Hbl := Lib.hid hbl
  have hbi : (bs.length : Int) ≤ 1048576 := by omega
  obtain ⟨R, hR⟩ : ∃ R, ofE xs id bs = R := ⟨_, rfl⟩
  rw [hR]
  have HRe := Lib.hid hR
  clear HS HV hw hb hl hbl hE hR
  obtain ⟨q1, hq1⟩ : ∃ q, w.heap.size = q := ⟨_, rfl⟩
  have Hq1 := Lib.hid hq1
  rw [hq1] at HB HR
  obtain ⟨q, hq⟩ : ∃ q, q1 + 1 = q := ⟨_, rfl⟩
  rw [hq] at HR
  have Hq := Lib.hid hq
  go_enter Try.func19, Try.ntmps19
  go_upto_region 1 with (fail)
  change Code.wp _ _ _ _ ((w.alloc (.cells #[.slice A xs.length cap] 41)).alloc (.cells (rcA zeroR (.slice none 0 0)) TRc))
  clear hq hq1
  generalize hx : World.alloc (World.alloc w _) _ = wa at HG HB HR ⊢
  clear hx
  have c0 : wa.cell? ⟨q1, 0, none⟩ = some (.slice A xs.length cap) := by rw [HB.out.cell]; rfl
  have Hqw := Lib.hid (show w.heap.size ≤ q by have := Hq.out; have := Hq1.out; omega)
  by_cases hE0 : E0 = 0
  case neg =>
    have HRz := Lib.hid (show R = (zeroR, 11) by rw [← HRe.out]; unfold ofE; rw [HCe.out, if_pos hE0])
    have he1 : (E0 != 0) = true := bne_iff_ne.2 hE0
    clear hE0
    go_wp2_with (first
      | (go_at_call 41; refine (HC.out _ HG.out).mono ?_; rintro e w2 ⟨rfl, hg⟩; have HG2 := Lib.hid (HG.out.trans hg (fun _ _ h => h)); have HR2 := Lib.hid (HR.out.fr hg (fun h => h)); clear hg)
      | refine Sha.wpList_build_to rfl TRc _ rfl (rcA zeroR (.slice none 0 0)) (by kernel_rfl) ?_
      | refine wpList_store_row rfl _ _ _ rfl q (rcA zeroR (.slice none 0 0)) rfl rfl TRc _ HR2.out (by kernel_rfl) (by kernel_rfl) (by kernel_rfl) ?_)
    refine bodyPost_ret (results_ct Try.results19 _ _ q _ (rcA zeroR (.slice none 0 0)) (0, 0) _ (.int .i64 11) rfl rfl (Sha.blk_setRow HR2.out _) Try.underlying27 rfl (by kernel_rfl)) rfl ?_
    rw [HRz.out]
    exact ⟨_, rfl, OI.nil _ _, Sha.fr_setRow HG2.out (fun h => by have := Hqw.out; omega) _⟩
  subst hE0
  go_upto_region 4 with (go_at_call 41; refine (HC.out _ HG.out).mono ?_; rintro e w2 ⟨rfl, hg⟩; have HG2 := Lib.hid (HG.out.trans hg (fun _ _ h => h)); have HR2 := Lib.hid (HR.out.fr hg (fun h => h)); have HB2 := Lib.hid (HB.out.fr hg (fun h => h)); clear hg)
  by_cases h4 : 4096 < bs.length
  case pos =>
    have HRz := Lib.hid (show R = (zeroR, 12) by rw [← HRe.out]; unfold ofE; rw [HCe.out, if_neg (by simp), if_pos h4])
    have h4i : (4096 : Int) < (bs.length : Int) := by omega
    clear h4 c0
    go_wp2_with (first
      | refine Sha.wpList_build_to rfl TRc _ rfl (rcA zeroR (.slice none 0 0)) (by kernel_rfl) ?_
      | refine wpList_store_row rfl _ _ _ rfl q (rcA zeroR (.slice none 0 0)) rfl rfl TRc _ HR2.out (by kernel_rfl) (by kernel_rfl) (by kernel_rfl) ?_)
    refine bodyPost_ret (results_ct Try.results19 _ _ q _ (rcA zeroR (.slice none 0 0)) (0, 0) _ (.int .i64 12) rfl rfl (Sha.blk_setRow HR2.out _) Try.underlying27 rfl (by kernel_rfl)) rfl ?_
    rw [HRz.out]
    exact ⟨_, rfl, OI.nil _ _, Sha.fr_setRow HG2.out (fun h => by have := Hqw.out; omega) _⟩
  have h4i : ¬ (4096 : Int) < (bs.length : Int) := by omega
  have HEe := Lib.hid (show encE xs bs = (encL xs (row0 xs bs), 0) by unfold encE; rw [HCe.out, if_neg (by simp), if_neg h4])
  rw [HEe.out] at HE Hl4
  simp only at HE Hl4
  have HRz := Lib.hid (show R = (⟨dgB bs, id, (bs.length : Int), encL xs (row0 xs bs)⟩, 0) by rw [← HRe.out]; unfold ofE; rw [HCe.out, if_neg (by simp), if_neg h4])
  clear HEe h4
  generalize encL xs (row0 xs bs) = L at HE Hl4 HRz
  have c2 : w2.cell? ⟨q1, 0, none⟩ = some (.slice A xs.length cap) := by rw [HB2.out.cell]; rfl
  obtain ⟨a0, a1, a2, a3, a4, a5, a6, a7, a8, a9, a10, a11, a12, a13, a14, a15, a16, a17, a18, a19, a20, a21, a22, a23, a24, a25, a26, a27, a28, a29, a30, a31, hd⟩ := len32 (dgB_len bs)
  rw [hd] at HSm HRz
  clear hd
  simp only [List.map_cons, List.map_nil] at HSm
  go_upto_region 7 with (go_at_call 42; refine (HE.out _ HG2.out).mono ?_; rintro e w3 ⟨tv, rfl, ho, hg⟩; obtain ⟨At, ct, rfl⟩ := own_formN ho.own; have HT3 := Lib.hid (ho.base HG2.out.size); have Htl := Lib.hid (fun k hk => (ho.own.lt k hk).1); have HG3 := Lib.hid (HG2.out.trans hg (fun _ _ h => h)); have HR3 := Lib.hid (HR2.out.fr hg (fun h => h)); clear ho hg)
  clear c0 c2
  have Hlt2 := Lib.hid HR2.out.lt
  go_wp2_with (first
    | (go_at_call 43; refine (HSm.out _ HG3.out).mono ?_; rintro e w4 ⟨rfl, hg⟩; have HG4 := Lib.hid (HG3.out.trans hg (fun _ _ h => h)); have HR4 := Lib.hid (HR3.out.fr hg (fun h => h)); have HT4 := Lib.hid (HT3.out.gr hg); clear hg)
    | refine wpList_store_row rfl _ _ _ rfl q (rcA ⟨[a0, a1, a2, a3, a4, a5, a6, a7, a8, a9, a10, a11, a12, a13, a14, a15, a16, a17, a18, a19, a20, a21, a22, a23, a24, a25, a26, a27, a28, a29, a30, a31], id, (bs.length : Int), L⟩ (.slice At L.length ct)) rfl rfl TRc _ HR4.out (by kernel_rfl) (by kernel_rfl) (by kernel_rfl) ?_)
  refine bodyPost_ret (results_ct Try.results19 _ _ q _ (rcA ⟨[a0, a1, a2, a3, a4, a5, a6, a7, a8, a9, a10, a11, a12, a13, a14, a15, a16, a17, a18, a19, a20, a21, a22, a23, a24, a25, a26, a27, a28, a29, a30, a31], id, (bs.length : Int), L⟩ (.slice At L.length ct)) (0, 0) _ (.int .i64 0) rfl rfl (Sha.blk_setRow HR4.out _) Try.underlying27 rfl (by kernel_rfl)) rfl ?_
  rw [HRz.out]
  refine ⟨_, rfl, ?_, Sha.fr_setRow HG4.out (fun h => by have := Hqw.out; omega) _⟩
  exact HT4.out.fr (Sha.fr_setRow (S := fun k => k = q) (Fr.refl w4 _) (fun _ => rfl) _) (fun k hk h => by have := Htl.out k hk; have := Hlt2.out; omega)
end Rec
end Go.Proofs.Ytobedpohoellkaa
