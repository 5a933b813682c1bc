/- record: Get. -/
import Derived.Test.YtobedpohoellkaaRWc
import Derived.Test.YtobedpohoellkaaHSpec
import Derived.Deep.MidRow
set_option linter.unusedVariables false
set_option linter.unusedSimpArgs false
namespace Go.Proofs.Ytobedpohoellkaa
open Go.RowKit
open Voc Leb Bpe
namespace Rec
theorem len32 {d : List Int} (h : d.length = 32) : ∃ a0 a1 a2 a3 a4 a5 a6 a7 a8 a9 a10 a11 a12 a13 a14 a15 a16 a17 a18 a19 a20 a21 a22 a23 a24 a25 a26 a27 a28 a29 a30 a31, d = [a0, a1, a2, a3, a4, a5, a6, a7, a8, a9, a10, a11, a12, a13, a14, a15, a16, a17, a18, a19, a20, a21, a22, a23, a24, a25, a26, a27, a28, a29, a30, a31] := by
  match d, h with
  | [a0, a1, a2, a3, a4, a5, a6, a7, a8, a9, a10, a11, a12, a13, a14, a15, a16, a17, a18, a19, a20, a21, a22, a23, a24, a25, a26, a27, a28, a29, a30, a31], _ => exact ⟨a0, a1, a2, a3, a4, a5, a6, a7, a8, a9, a10, a11, a12, a13, a14, a15, a16, a17, a18, a19, a20, a21, a22, a23, a24, a25, a26, a27, a28, a29, a30, a31, rfl⟩
def nilV : Value := .slice none 0 0
abbrev TD32 : TypeId := 22
set_option maxRecDepth 20000 in
theorem built_dig {d : List Int} (h : d.length = 32) : Try.prog.built TRc [(0, .agg (d.map (Value.int .u8)).toArray)] = some (rcA ⟨d, 0, 0, []⟩ (.slice none 0 0)) := by
  obtain ⟨a0, a1, a2, a3, a4, a5, a6, a7, a8, a9, a10, a11, a12, a13, a14, a15, a16, a17, a18, a19, a20, a21, a22, a23, a24, a25, a26, a27, a28, a29, a30, a31, rfl⟩ := len32 h
  kernel_rfl
set_option maxRecDepth 20000 in
theorem built_all {d : List Int} (h : d.length = 32) (v n : Int) (a : Option Addr) (l c : Nat) (t : List Int) : Try.prog.built TRc [(0, .agg (d.map (Value.int .u8)).toArray), (1, .int .u64 v), (2, .int .i64 n), (3, .slice a l c)] = some (rcA ⟨d, v, n, t⟩ (.slice a l c)) := by
  obtain ⟨a0, a1, a2, a3, a4, a5, a6, a7, a8, a9, a10, a11, a12, a13, a14, a15, a16, a17, a18, a19, a20, a21, a22, a23, a24, a25, a26, a27, a28, a29, a30, a31, rfl⟩ := len32 h
  kernel_rfl
theorem zero_d : zeroR.d.length = 32 := rfl
theorem rcA_setv (r : Rc) (tv : Value) (hd : r.d.length = 32) (x : Int) : (rcA r tv).setIfInBounds 32 (.int .u64 x) = rcA { r with v := x } tv := by
  unfold rcA; rw [List.setIfInBounds_toArray, List.set_append_right _ _ (by simp [hd])]; simp [hd]
theorem rcA_setn (r : Rc) (tv : Value) (hd : r.d.length = 32) (x : Int) : (rcA r tv).setIfInBounds 33 (.int .i64 x) = rcA { r with n := x } tv := by
  unfold rcA; rw [List.setIfInBounds_toArray, List.set_append_right _ _ (by simp [hd])]; simp [hd]
theorem rcA_sett (r : Rc) (tv : Value) (hd : r.d.length = 32) (t : List Int) (x : Value) : (rcA r tv).setIfInBounds 34 x = rcA { r with t := t } x := by
  unfold rcA; rw [List.setIfInBounds_toArray, List.set_append_right _ _ (by simp [hd])]; simp [hd]
theorem run_arrayAt {P : Program} (arr n e : Nat) (ht : P.underlying arr = some (.array n e)) (a : Option Addr) (l c : Nat) (h : n ≤ l) (w : World) : (Instr.arrayAt arr (.slice a l c)).run P w = .ok (.pointer a) w := by
  simp [Instr.arrayAt, run_underlying ht, go_sem]
  omega
theorem run_at32 (a : Option Addr) (c : Nat) (w : World) : (Instr.arrayAt 23 (.slice a 32 c)).run Try.prog w = .ok (.pointer a) w := run_arrayAt 23 32 5 Try.underlying23 a 32 c (Nat.le_refl _) w
attribute [local go_sem] run_at32
theorem run_slice_mid {P : Program} (t e : TypeId) (i : TypeInfo) (ht : P.underlying t = some (.slice e)) (hi : P.info? e = some i) (hsz : i.size = 1) (b off n cap : Nat) (hc : 40 ≤ cap) (w : World) :
    (Instr.slice t (.slice (some ⟨b, off, none⟩) n cap) (some (.int .i64 32)) (some (.int .i64 40)) (some (.int .i64 40))).run P w = .ok (.slice (some ⟨b, off + 32, none⟩) 8 8) w := by
  have h2 : (40 : Int) ≤ cap := by omega
  simp [Instr.slice, Instr.sliceBounds, run_underlying ht, sizeOf, typeInfo, hi, go_sem, hsz, h2, addr_add]
theorem results_ct {P : Program} {fn : Func} {p q : Tmp} {ty : TypeId} (h : fn.results = #[.cell p ty, .tmp q]) (tmps : Array Value) (w : World) (g : Nat) (t : TypeId) (cs : Array Value) (fr : Nat × Nat) (d : TypeDesc) (u : Value)
    (hp : tmps.getD p undef = .pointer (some ⟨g, 0, none⟩)) (hq : tmps.getD q undef = u) (hg : w.heap[g]? = some (.cells cs t fr))
    (hu : P.underlying ty = some d) (hd : (match d with | .struct _ | .array _ _ => true | _ => false) = true) (hi : (P.info? ty).map (·.size) = some cs.size) :
    (results fn tmps).run P w = .ok (.tuple #[.agg cs, u]) w := by
  have hp' : tmps[p]?.getD undef = .pointer (some ⟨g, 0, none⟩) := by simpa using hp
  have hq' : tmps[q]?.getD undef = u := by simpa using hq
  simp [results, h, hp', hq', asAddr, run_loadVar_row w g t ty cs fr d hg hu hd hi]
def unk (b : List Int) : Nat → Int
  | 0 => 0
  | k + 1 => unk b k + b.getD k 0 * 256 ^ k
theorem un8_unk (b : List Int) : unk b 8 = un8 b := by
  simp only [unk, un8]
  omega
theorem unk_in {b : List Int} (hb : Bs b) : ∀ (k : Nat), 0 ≤ unk b k ∧ unk b k < 256 ^ k
  | 0 => by simp [unk]
  | k + 1 => by
    have ih := unk_in hb k
    have hc : 0 ≤ b.getD k 0 ∧ b.getD k 0 < 256 := by
      rw [List.getD_eq_getElem?_getD]
      by_cases h : k < b.length
      · rw [List.getElem?_eq_getElem h]; exact hb _ (List.getElem_mem h)
      · rw [List.getElem?_eq_none (by omega)]; simp
    simp only [unk]
    have h256 : (256 : Int) ^ (k + 1) = 256 * 256 ^ k := by rw [Int.pow_succ, Int.mul_comm]
    rw [h256]
    generalize (256 : Int) ^ k = q at ih ⊢
    generalize unk b k = a at ih ⊢
    generalize b.getD k 0 = c at hc ⊢
    have hq : 0 < q := by omega
    refine ⟨by have := Int.mul_nonneg hc.1 (Int.le_of_lt hq); omega, ?_⟩
    have h1 : c * q ≤ 255 * q := Int.mul_le_mul_of_nonneg_right (by omega) (Int.le_of_lt hq)
    omega
theorem un_step {acc c : Int} {k : Nat} (hk : k < 8) (ha : 0 ≤ acc ∧ acc < 256 ^ k) (hc : 0 ≤ c ∧ c < 256) : bits .or .u64 acc (IntKind.u64.wrap (IntKind.u64.wrap c * 2 ^ (8 * k))) = acc + c * 256 ^ k := by
  obtain ⟨a, rfl⟩ : ∃ a : Nat, acc = (a : Int) := ⟨acc.toNat, by omega⟩
  obtain ⟨n, rfl⟩ : ∃ n : Nat, c = (n : Int) := ⟨c.toNat, by omega⟩
  have e256 : (256 : Nat) ^ k = 2 ^ (8 * k) := by rw [Nat.pow_mul]
  have e1 : ((256 : Int) ^ k) = ((2 ^ (8 * k) : Nat) : Int) := by rw [← e256]; exact (Int.natCast_pow 256 k).symm
  have e2 : ((2 : Int) ^ (8 * k)) = ((2 ^ (8 * k) : Nat) : Int) := (Int.natCast_pow 2 (8 * k)).symm
  rw [e1] at ha ⊢
  rw [e2]
  have hp : (2 : Nat) ^ (8 * k) ≤ 2 ^ 56 := Nat.pow_le_pow_right (by omega) (by omega)
  generalize hq : (2 : Nat) ^ (8 * k) = q at ha hp ⊢
  have h56 : (2 : Nat) ^ 56 = 72057594037927936 := by decide
  have h64 : (2 : Nat) ^ 64 = 18446744073709551616 := by decide
  have hn : n ≤ 255 := by omega
  have hm : n * q ≤ 255 * q := Nat.mul_le_mul_right _ hn
  have w1 : IntKind.u64.wrap (n : Int) = (n : Int) := by show (n : Int) % 18446744073709551616 = _; omega
  rw [w1, ← Int.natCast_mul]
  have w2 : IntKind.u64.wrap ((n * q : Nat) : Int) = ((n * q : Nat) : Int) := by show ((n * q : Nat) : Int) % 18446744073709551616 = _; omega
  rw [w2, or64 (by omega) (by omega), ← Int.natCast_add]
  congr 1
  subst hq
  exact or_add (by omega)
set_option maxRecDepth 20000 in
set_option maxHeartbeats 4000000 in
theorem recGet_any {w : World} {v : Value} {bs : List Int} (hs : SL encB w v bs) (hb : Bs bs) (hl : bs.length ≤ 4194304) :
    Calls Try.prog 15 #[v] w fun e w' => ∃ tv, e = .returned (.tuple #[.agg (rcA (getR bs).1 tv), .int .i64 (getR bs).2]) ∧ OI w' w.heap.size tv (getR bs).1.t ∧ Gr w w' := by
  obtain ⟨i1, hi1, hx0, hx1, hx2⟩ := info_parts info_u8
  have HG := Lib.hid ((Fr.refl w NoneS).alloc (.cells (rcA zeroR (.slice none 0 0)) TRc))
  have HB := Lib.hid (Blk.new w TRc (rcA zeroR (.slice none 0 0)))
  have HS := Lib.hid (hs.gr HG.out)
  obtain ⟨A, cap, rfl⟩ := SL.form hs
  have Hbs := Lib.hid hb
  have Hl := Lib.hid hl
  have hli : (bs.length : Int) ≤ 4194304 := by omega
  obtain ⟨R, hR⟩ : ∃ R, getR bs = R := ⟨_, rfl⟩
  rw [hR]
  have HR := Lib.hid hR
  clear hs hb hl hR
  obtain ⟨q, hq⟩ : ∃ q, w.heap.size = q := ⟨_, rfl⟩
  have Hq := Lib.hid hq
  rw [hq] at HB
  go_enter Try.func15, Try.ntmps15
  go_upto_region 1 with (fail)
  change Code.wp _ _ _ _ (w.alloc (.cells (rcA zeroR (.slice none 0 0)) TRc))
  clear hq
  generalize hx : World.alloc w _ = wa at HG HB HS ⊢
  clear hx
  by_cases h40 : bs.length < 40
  case pos =>
    have h40i : decide ((bs.length : Int) < 40) = true := decide_eq_true (by omega)
    have HRe := Lib.hid (show R = (zeroR, 4) by rw [← HR.out]; unfold getR; rw [if_pos h40])
    clear h40
    go_wp2_with (first
      | refine Sha.wpList_build_to rfl TRc _ rfl (rcA zeroR (.slice none 0 0)) (by kernel_rfl) ?_
      | refine wpList_store_row rfl _ _ _ rfl q (rcA zeroR (.slice none 0 0)) rfl rfl TRc _ HB.out (by kernel_rfl) (by kernel_rfl) (by kernel_rfl) ?_)
    refine bodyPost_ret (results_ct Try.results15 _ _ q _ (rcA zeroR (.slice none 0 0)) (0, 0) _ (.int .i64 4) rfl rfl (Sha.blk_setRow HB.out _) Try.underlying27 rfl (by kernel_rfl)) rfl ?_
    rw [HRe.out]
    exact ⟨_, rfl, OI.nil _ _, Sha.fr_setRow HG.out (fun h => by have := Hq.out; omega) _⟩
  have h40i : decide ((bs.length : Int) < 40) = false := decide_eq_false (by omega)
  have H40 := Lib.hid (show 40 ≤ bs.length by omega)
  obtain ⟨b, off, hA, hbl, hcell⟩ : ∃ b off, A = some ⟨b, off, none⟩ ∧ b < wa.heap.size ∧ ∀ i u, (bs.flatMap encB)[i]? = some u → wa.cell? ⟨b, off + i, none⟩ = some u := by
    obtain ⟨A', c', he, hc, hr⟩ := HS.out
    injection he with e1 e2 e3
    subst e1
    exact hr (by omega)
  subst hA
  have hcap : 40 ≤ cap := by
    obtain ⟨A', c', he, hc, hr⟩ := HS.out
    injection he with e1 e2 e3
    omega
  have hs1 := fun w => run_slice_to3 (P := Try.prog) 28 5 i1 Try.underlying28 hi1 (some ⟨b, off, none⟩) bs.length cap 32 32 (Nat.le_refl _) (by omega) w
  have hs2 := fun w => run_slice_mid (P := Try.prog) 28 5 i1 Try.underlying28 hi1 hx1 b off bs.length cap hcap w
  have e32 : ((32 : Nat) : Int) = 32 := rfl
  rw [e32] at hs1
  clear e32
  have Hrg := Lib.hid (show wa.rangeAt b off ((bs.take 32).map (Value.int .u8)) from fun j u hu => by
    refine hcell j u ?_
    rw [flat_u8, List.getElem?_map]
    rw [List.getElem?_map, List.getElem?_take] at hu
    split at hu
    · exact hu
    · cases hu)
  have Hdl := Lib.hid (show (bs.take 32).length = 32 by rw [List.length_take]; omega)
  obtain ⟨dg, hdg⟩ : ∃ d, bs.take 32 = d := ⟨_, rfl⟩
  rw [hdg] at Hrg Hdl
  have Hdg := Lib.hid hdg
  obtain ⟨a0, a1, a2, a3, a4, a5, a6, a7, a8, a9, a10, a11, a12, a13, a14, a15, a16, a17, a18, a19, a20, a21, a22, a23, a24, a25, a26, a27, a28, a29, a30, a31, hd32⟩ := len32 Hdl.out
  have HdR := Lib.hid hd32
  subst hd32
  clear h40 hcell hbl hcap hi1 hx0 hx1 hx2 hdg
  go_upto_region 4 with (first
    | refine wpList_load_mid rfl _ _ rfl b off rfl ([a0, a1, a2, a3, a4, a5, a6, a7, a8, a9, a10, a11, a12, a13, a14, a15, a16, a17, a18, a19, a20, a21, a22, a23, a24, a25, a26, a27, a28, a29, a30, a31].map (Value.int .u8)) _ Hrg.out Try.underlying23 rfl (by kernel_rfl) ?_
    | refine Sha.wpList_store_new (w0 := wa) rfl _ _ _ rfl (rcA ⟨[a0, a1, a2, a3, a4, a5, a6, a7, a8, a9, a10, a11, a12, a13, a14, a15, a16, a17, a18, a19, a20, a21, a22, a23, a24, a25, a26, a27, a28, a29, a30, a31], 0, 0, []⟩ (.slice none 0 0)) _ _ rfl rfl rfl (by kernel_rfl) (by kernel_rfl) (by kernel_rfl) ?_)
  have HB4 := Lib.hid (Blk.new wa TRc (rcA ⟨[a0, a1, a2, a3, a4, a5, a6, a7, a8, a9, a10, a11, a12, a13, a14, a15, a16, a17, a18, a19, a20, a21, a22, a23, a24, a25, a26, a27, a28, a29, a30, a31], 0, 0, []⟩ (.slice none 0 0)))
  have HG4 := Lib.hid ((Fr.refl wa NoneS).alloc (.cells (rcA ⟨[a0, a1, a2, a3, a4, a5, a6, a7, a8, a9, a10, a11, a12, a13, a14, a15, a16, a17, a18, a19, a20, a21, a22, a23, a24, a25, a26, a27, a28, a29, a30, a31], 0, 0, []⟩ (.slice none 0 0)) TRc))
  obtain ⟨p4, hp4⟩ : ∃ p4, wa.heap.size = p4 := ⟨_, rfl⟩
  have Hp4 := Lib.hid hp4
  rw [hp4] at HB4 ⊢
  clear hp4 HdR
  generalize [a0, a1, a2, a3, a4, a5, a6, a7, a8, a9, a10, a11, a12, a13, a14, a15, a16, a17, a18, a19, a20, a21, a22, a23, a24, a25, a26, a27, a28, a29, a30, a31] = dg at HB4 HG4 Hdl Hrg Hdg ⊢
  generalize hx : World.alloc wa _ = wb at HB4 HG4 ⊢
  clear hx Hrg
  have HBq := Lib.hid (HB.out.fr HG4.out (fun h => h))
  have Hqs := Lib.hid (show w.heap.size ≤ p4 from by have := Hp4.out; have := HG.out.size; omega)
  have HSb := Lib.hid (HS.out.gr HG4.out)
  have HGb := Lib.hid (HG.out.trans HG4.out (fun _ _ h => h))
  have Hqp := Lib.hid (show q ≠ p4 from by have := HB.out.lt; have := Hp4.out; omega)
  have Hcl := Lib.hid (show b ≠ p4 ∧ b < wb.heap.size ∧ ∀ k, k < 8 → wb.cell? ⟨b, off + 32 + k, none⟩ = some (.int .u8 ((bs.drop 32).getD k 0)) from by
    obtain ⟨A', c', he, hc, hr⟩ := HS.out
    obtain ⟨b', off', hA', hbl, _⟩ := hr (by have := H40.out; omega)
    injection he with e1 e2 e3
    subst e1
    injection hA' with hA'
    injection hA' with h1 h2
    subst h1 h2
    have hsz := HG4.out.size
    refine ⟨by have := Hp4.out; omega, by omega, fun k hk => ?_⟩
    obtain ⟨b2, o2, hA2, _, hcl⟩ := HSb.out.at_ (s := 1) (k := 32 + k) (fun _ => rfl) rfl (by have := H40.out; omega)
    injection hA2 with hA2
    injection hA2 with h1 h2
    subst h1 h2
    have h := hcl 0 (by omega)
    simp [encB] at h
    rw [List.getD_eq_getElem?_getD, List.getElem?_drop, List.getElem?_eq_getElem (by have := H40.out; omega), ← Nat.add_assoc] at *
    exact h)
  go_wp2_with fail
  go_loopg [24] 9 (fun m s24 wr => ∃ k : Nat, s24 = .int .i64 k ∧ Hid (k ≤ 8 ∧ 8 - k < m) ∧ Hid (Blk wr p4 TRc (rcA ⟨dg, unk (bs.drop 32) k, 0, []⟩ (.slice none 0 0))) ∧ Hid (Fr wb wr (fun k => k = p4)))
  case atStart => exact ⟨0, rfl, ⟨by omega, by omega⟩, HB4.out, Fr.refl _ _⟩
  case round =>
    obtain ⟨k, rfl, HK, HBk, HD⟩ := hrel
    by_cases hk : k < 8
    · have hki : (k : Int) < 8 := by omega
      have Hk := Lib.hid hk
      have d0 : wr.cell? ⟨b, off + 32 + k, none⟩ = some (.int .u8 ((bs.drop 32).getD k 0)) := (HD.out.cell (p := ⟨b, off + 32 + k, none⟩) Hcl.out.2.1 Hcl.out.1).trans (Hcl.out.2.2 k hk)
      have f32 : wr.cell? ⟨p4, 32, none⟩ = some (.int .u64 (unk (bs.drop 32) k)) := by rw [HBk.out.cell]; exact rcA_v _ Hdl.out
      have z32 := HBk.out.frozen 32
      have Hsn := Lib.hid (show unk (bs.drop 32) (k + 1) = unk (bs.drop 32) k + (bs.drop 32).getD k 0 * 256 ^ k from rfl)
      have Hst := Lib.hid (un_step (c := (bs.drop 32).getD k 0) Hk.out (unk_in (b := bs.drop 32) (fun c hc => Hbs.out c (List.mem_of_mem_drop hc)) k) (by
        rw [List.getD_eq_getElem?_getD, List.getElem?_drop, List.getElem?_eq_getElem (by have := H40.out; omega)]
        exact Hbs.out _ (List.getElem_mem _)))
      generalize (bs.drop 32).getD k 0 = c at d0 Hsn Hst
      generalize unk (bs.drop 32) k = acc at f32 Hsn HBk Hst
      clear hk
      go_wp2_with fail
      go_roundg (gk - 1)
      case measure => have := HK.out; have := Hk.out; omega
      case rel =>
        refine ⟨k + 1, by go_num, ⟨Hk.out, by have := HK.out; have := Hk.out; omega⟩, ?_, HD.out.setCell (p := ⟨p4, 32, none⟩) (fun _ => rfl) _⟩
        have h := HBk.out.set_ 32 (.int .u64 (bits BinOp.or IntKind.u64 acc (IntKind.u64.wrap (IntKind.u64.wrap c * 2 ^ (8 * k)))))
        rw [rcA_setv _ _ Hdl.out] at h
        rw [show unk (bs.drop 32) (k + 1) = bits BinOp.or IntKind.u64 acc (IntKind.u64.wrap (IntKind.u64.wrap c * 2 ^ (8 * k))) from by rw [Hst.out, Hsn.out]]
        exact h
    · obtain rfl : k = 8 := by have := HK.out; omega
      have HB5 := Lib.hid (show Blk wr p4 TRc (rcA ⟨dg, un8 (bs.drop 32), 0, []⟩ (.slice none 0 0)) from by have h := HBk.out; rw [un8_unk] at h; exact h)
      have HGw := Lib.hid (show Gr w wr from HGb.out.trans HD.out (fun i hi h => by have := Hp4.out; have := HG.out.size; omega))
      have HBq5 := Lib.hid (HBq.out.fr HD.out Hqp.out)
      have HS5 := Lib.hid (HSb.out.fr HD.out (fun k hk h => by
        simp [Value.ownBlock] at hk
        exact Hcl.out.1 (hk.trans h)))
      have HGe := Lib.hid (fun (wx : World) (hw : Gr wr wx) (c : Nat) (hcb : c ≤ bs.length) (r1 r2 r3 : Int) (hr : getE bs (c : Int) = (r1, r2, r3)) => get_in c hcb (HS5.out.gr hw) Hbs.out Hl.out r1 r2 r3 hr)
      clear HBk HB HG HG4 HGb HBq HSb HS HB4
      obtain ⟨un, hun⟩ : ∃ un, un8 (bs.drop 32) = un := ⟨_, rfl⟩
      have Hun := Lib.hid hun
      rw [hun] at HB5
      clear hun
      have hn0 := getE_nat (bs := bs) H40.out
      have hb0 := leb_ok Hbs.out H40.out
      have hr := HR.out
      unfold getR at hr
      rw [if_neg (by have := H40.out; omega)] at hr
      obtain ⟨u0, k0, e0, hu⟩ : ∃ u k e0, lebE (bs.drop 40) = (u, k, e0) := ⟨_, _, _, rfl⟩
      rw [hu] at hn0 hb0 hr
      simp only at hn0 hb0 hr
      by_cases he : e0 = 0
      case neg =>
        rw [if_pos he] at hn0 hr
        have HRe := Lib.hid hr.symm
        have HG0 := Lib.hid (HGe.out wr (Fr.refl _ _) 40 H40.out _ _ _ hn0)
        have he1 : (e0 != 0) = true := bne_iff_ne.2 he
        clear hu hn0 hb0 he hr
        go_wp2_with (first
          | (go_at_call 36; refine HG0.out.mono ?_; rintro e w2 ⟨rfl, rfl⟩)
          | refine Sha.wpList_build_to rfl TRc _ rfl (rcA zeroR (.slice none 0 0)) (by kernel_rfl) ?_
          | refine wpList_store_row rfl _ _ _ rfl q (rcA zeroR (.slice none 0 0)) rfl rfl TRc _ HBq5.out (by kernel_rfl) (by kernel_rfl) (by kernel_rfl) ?_)
        refine bodyPost_ret (results_ct Try.results15 _ _ q _ (rcA zeroR (.slice none 0 0)) (0, 0) _ (.int .i64 e0) rfl rfl (Sha.blk_setRow HBq5.out _) Try.underlying27 rfl (by kernel_rfl)) rfl ?_
        rw [HRe.out]
        exact ⟨_, rfl, OI.nil _ _, Sha.fr_setRow HGw.out (fun h => by have := Hq.out; omega) _⟩
      subst he
      rw [if_neg (by decide)] at hn0 hr
      obtain ⟨hlt, hnx⟩ := hb0 rfl
      have HG0 := Lib.hid (HGe.out wr (Fr.refl _ _) 40 H40.out _ _ _ hn0)
      by_cases h4 : 4096 < u0
      case pos =>
        rw [if_pos h4] at hr
        have HRe := Lib.hid hr.symm
        have h4i : (4096 : Int) < (u0 : Int) := by omega
        clear hu hn0 h4 hr hlt hnx hb0
        go_wp2_with (first
          | (go_at_call 36; refine HG0.out.mono ?_; rintro e w2 ⟨rfl, rfl⟩)
          | refine Sha.wpList_build_to rfl TRc _ rfl (rcA zeroR (.slice none 0 0)) (by kernel_rfl) ?_
          | refine wpList_store_row rfl _ _ _ rfl q (rcA zeroR (.slice none 0 0)) rfl rfl TRc _ HBq5.out (by kernel_rfl) (by kernel_rfl) (by kernel_rfl) ?_)
        refine bodyPost_ret (results_ct Try.results15 _ _ q _ (rcA zeroR (.slice none 0 0)) (0, 0) _ (.int .i64 3) rfl rfl (Sha.blk_setRow HBq5.out _) Try.underlying27 rfl (by kernel_rfl)) rfl ?_
        rw [HRe.out]
        exact ⟨_, rfl, OI.nil _ _, Sha.fr_setRow HGw.out (fun h => by have := Hq.out; omega) _⟩
      rw [if_neg h4] at hr
      have h4i : ¬ (4096 : Int) < (u0 : Int) := by omega
      have H4 := Lib.hid (show u0 ≤ 4096 by omega)
      obtain ⟨a1, ha1⟩ : ∃ a1, 40 + k0 = a1 := ⟨_, rfl⟩
      rw [ha1] at HG0 hr hnx
      have HPk := Lib.hid (packGet_any a1 hnx HS5.out Hbs.out Hl.out)
      obtain ⟨⟨pl, pe, pr⟩, hp⟩ : ∃ y, unpackE bs a1 = y := ⟨_, rfl⟩
      rw [hp] at HPk hr
      simp only at HPk hr
      have HRr := Lib.hid hr
      clear hu hn0 h4 hr hlt hnx hb0 ha1 hp
      go_upto_region 14 with (go_at_call 36; refine HG0.out.mono ?_; rintro e w2 ⟨rfl, rfl⟩)
      go_upto_block 2 with (go_at_call 37; refine HPk.out.mono ?_; rintro e w6 ⟨tv, rfl, ho, hg⟩; obtain ⟨At, ct, rfl⟩ := own_formN ho.own; have HT6 := Lib.hid (ho.base HGw.out.size); have HG6 := Lib.hid (HGw.out.trans hg (fun _ _ h => h)); have HBq6 := Lib.hid (HBq5.out.fr hg (fun h => h)); have HB6 := Lib.hid (HB5.out.fr hg (fun h => h)); have Htl := Lib.hid (fun k hk => (ho.own.lt k hk).1); have Hwr := Lib.hid (show p4 < wr.heap.size from HB5.out.lt); clear ho hg)
      by_cases hpr : pr = 0
      case neg =>
          have hr := HRr.out
          rw [if_pos hpr] at hr
          have HRe := Lib.hid hr.symm
          have he1 : (pr != 0) = true := bne_iff_ne.2 hpr
          clear hpr hr
          go_wp2_with (first
            | refine Sha.wpList_build_to rfl TRc _ rfl (rcA zeroR (.slice none 0 0)) (by kernel_rfl) ?_
            | refine wpList_store_row rfl _ _ _ rfl q (rcA zeroR (.slice none 0 0)) rfl rfl TRc _ HBq6.out (by kernel_rfl) (by kernel_rfl) (by kernel_rfl) ?_)
          refine bodyPost_ret (results_ct Try.results15 _ _ q _ (rcA zeroR (.slice none 0 0)) (0, 0) _ (.int .i64 pr) rfl rfl (Sha.blk_setRow HBq6.out _) Try.underlying27 rfl (by kernel_rfl)) rfl ?_
          rw [HRe.out]
          exact ⟨_, rfl, OI.nil _ _, Sha.fr_setRow HG6.out (fun h => by have := Hq.out; omega) _⟩
      subst hpr
      by_cases hpe : pe < bs.length
      case pos =>
          have hr := HRr.out
          rw [if_neg (by decide), if_pos hpe] at hr
          have HRe := Lib.hid hr.symm
          have hpe1 : (pe : Int) < (bs.length : Int) := by omega
          clear hpe hr
          go_wp2_with (first
            | refine Sha.wpList_build_to rfl TRc _ rfl (rcA zeroR (.slice none 0 0)) (by kernel_rfl) ?_
            | refine wpList_store_row rfl _ _ _ rfl q (rcA zeroR (.slice none 0 0)) rfl rfl TRc _ HBq6.out (by kernel_rfl) (by kernel_rfl) (by kernel_rfl) ?_)
          refine bodyPost_ret (results_ct Try.results15 _ _ q _ (rcA zeroR (.slice none 0 0)) (0, 0) _ (.int .i64 5) rfl rfl (Sha.blk_setRow HBq6.out _) Try.underlying27 rfl (by kernel_rfl)) rfl ?_
          rw [HRe.out]
          exact ⟨_, rfl, OI.nil _ _, Sha.fr_setRow HG6.out (fun h => by have := Hq.out; omega) _⟩
      have hr := HRr.out
      rw [if_neg (by decide), if_neg hpe, Hdg.out, Hun.out] at hr
      have HRe := Lib.hid hr.symm
      have hpe1 : ¬ (pe : Int) < (bs.length : Int) := by omega
      have z33 := HB6.out.frozen 33
      have z34 := HB6.out.frozen 34
      have f33 : w6.cell? ⟨p4, 33, none⟩ = some (.int .i64 0) := by rw [HB6.out.cell]; exact rcA_n _ Hdl.out
      have f34 : w6.cell? ⟨p4, 34, none⟩ = some (.slice none 0 0) := by rw [HB6.out.cell]; exact rcA_t _ Hdl.out
      clear hpe hr
      go_upto_region 20 with (fail)
      have HB7 := Lib.hid (show Blk ((w6.setCell ⟨p4, 33, none⟩ (.int .i64 (u0 : Int))).setCell ⟨p4, 34, none⟩ (.slice At pl.length ct)) p4 TRc (rcA ⟨dg, un, (u0 : Int), pl⟩ (.slice At pl.length ct)) from by
        have h := (HB6.out.set_ 33 (.int .i64 (u0 : Int))).set_ 34 (.slice At pl.length ct)
        rw [rcA_setn ⟨dg, un, 0, []⟩ _ Hdl.out, rcA_sett ⟨dg, un, (u0 : Int), []⟩ _ Hdl.out pl] at h
        exact h)
      have HF7 := Lib.hid (show Fr w6 ((w6.setCell ⟨p4, 33, none⟩ (.int .i64 (u0 : Int))).setCell ⟨p4, 34, none⟩ (.slice At pl.length ct)) (fun k => k = p4) from ((Fr.refl w6 (fun k => k = p4)).setCell (p := ⟨p4, 33, none⟩) (fun _ => rfl) _).setCell (p := ⟨p4, 34, none⟩) (fun _ => rfl) _)
      clear z33 z34 f33 f34
      generalize hx : World.setCell (World.setCell w6 _ _) _ _ = w7 at HB7 HF7 ⊢
      clear hx
      have HG7 := Lib.hid (show Gr w w7 from HG6.out.trans HF7.out (fun i hi h => by have := Hp4.out; have := HGw.out.size; have := Hq.out; have := Hqs.out; omega))
      have HBq7 := Lib.hid (HBq6.out.fr HF7.out Hqp.out)
      have HT7 := Lib.hid (HT6.out.fr HF7.out (fun k hk h => by have := Htl.out k hk; have := Hwr.out; omega))
      have Htq := Lib.hid (show ∀ k, (Value.slice At pl.length ct).ownBlock = some k → k ≠ q from fun k hk h => by have := Htl.out k hk; have := HBq5.out.lt; omega)
      clear HT6 HBq6 HB6 HF7
      have Hsz := Lib.hid (rcA_size (r := ⟨dg, un, (u0 : Int), pl⟩) (.slice At pl.length ct) Hdl.out)
      go_wp2_with (first
        | refine wpList_load_row rfl _ _ rfl p4 rfl TRc (rcA ⟨dg, un, (u0 : Int), pl⟩ (.slice At pl.length ct)) (0, 0) _ HB7.out Try.underlying27 rfl (by rw [Hsz.out]; kernel_rfl) ?_
        | refine wpList_store_row rfl _ _ _ rfl q (rcA ⟨dg, un, (u0 : Int), pl⟩ (.slice At pl.length ct)) rfl rfl TRc _ HBq7.out (by rw [Hsz.out]; kernel_rfl) (by rw [Hsz.out]; rfl) (rcA_one rfl) ?_)
      refine bodyPost_ret (results_ct Try.results15 _ _ q _ (rcA ⟨dg, un, (u0 : Int), pl⟩ (.slice At pl.length ct)) (0, 0) _ (.int .i64 0) rfl rfl (Sha.blk_setRow HBq7.out _) Try.underlying27 rfl (by rw [Hsz.out]; kernel_rfl)) rfl ?_
      rw [HRe.out]
      refine ⟨_, rfl, ?_, Sha.fr_setRow HG7.out (fun h => by have := Hq.out; omega) _⟩
      exact HT7.out.fr (Sha.fr_setRow (S := fun k => k = q) (Fr.refl w7 _) (fun _ => rfl) _) (fun k hk h => Htq.out k hk h)
end Rec
end Go.Proofs.Ytobedpohoellkaa
