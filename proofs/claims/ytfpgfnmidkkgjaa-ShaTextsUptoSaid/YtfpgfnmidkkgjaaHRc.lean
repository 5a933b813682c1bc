/- sha: arrays that come in; arrays and bytes that are compared. -/
import Derived.Test.YtfpgfnmidkkgjaaHRb
import Derived.Test.YtfpgfnmidkkgjaaFrame
import Derived.Laws.StructEq
set_option linter.unusedVariables false
set_option linter.unusedSimpArgs false
namespace Go.Proofs.Ytfpgfnmidkkgjaa
open Go.RowKit Go.ChangeShapes Go.WideShapes Go.ChangeAt

/-- an array of whole numbers that comes in by value -/
theorem open_arr_ints {H : Type} {enc : TypeId × Value → H} {P : Program} {W : World} {base : Nat} {t e : TypeId} {n : Nat} {k : IntKind} (ht : P.underlying t = some (.array n e)) (he : P.underlying e = some (.int k)) (hc : P.cellsOf e = 1) (hct : P.cellsOf t = n)
    {v : Value} {d : DataW H} {p : List MemPlace} (hv : Value.okWide P W .any base t v) (h : DataW.Trod enc P W 0 (fun _ => true) true t v d p) :
    ∃ xs : List Int, xs.length = n ∧ v = .agg (xs.map (Value.int k)).toArray ∧ ∀ x ∈ xs, (Lit.int k x).wf = true := by
  simp only [Value.okWide, ht] at hv
  obtain ⟨cs, rfl, hsz, _⟩ := hv
  rw [hct] at hsz
  obtain ⟨fuel, hf⟩ := h
  cases fuel with
  | zero => simp [DataW.trod] at hf
  | succ m =>
    rw [DataW.trod_step] at hf
    unfold DataW.trodStep at hf
    simp only [ht, Value.cells] at hf
    rw [if_pos (by rw [hct]; simpa using hsz)] at hf
    simp only [Option.map_eq_some_iff] at hf
    obtain ⟨ys, hy, e1⟩ := hf
    obtain ⟨hl, hg⟩ := mapM_get _ _ _ hy
    rw [List.length_range] at hl
    have each : ∀ i, i < n → ∃ x : Int, cs[i]? = some (.int k x) ∧ (Lit.int k x).wf = true := by
      intro i hi
      have h1 := hg i i (by simp [hi])
      rw [List.getElem?_eq_getElem (by omega), hc, Nat.mul_one] at h1
      obtain ⟨x, h2, _, h3⟩ := DataW.trod_int he h1
      refine ⟨x, ?_, h3⟩
      have h4 : (List.take 1 (List.drop i cs.toList))[0]? = some (.int k x) := by rw [h2]; rfl
      rw [List.getElem?_take, List.getElem?_drop] at h4
      simpa using h4
    refine ⟨cs.toList.map (fun v => match v with | .int _ x => x | _ => 0), by simpa using hsz, ?_, ?_⟩
    · congr 1
      apply Array.ext_getElem?
      intro i
      by_cases hi : i < n
      · obtain ⟨x, hx, _⟩ := each i hi
        simp [hx]
      · rw [Array.getElem?_eq_none (by omega), Array.getElem?_eq_none (by simp; omega)]
    · intro x hx
      obtain ⟨v, hv, rfl⟩ := List.mem_map.1 hx
      obtain ⟨i, hi, rfl⟩ := List.getElem_of_mem hv
      obtain ⟨x, hx, hw⟩ := each i (by simpa [hsz] using hi)
      have : cs.toList[i] = .int k x := by
        have := Array.getElem?_eq_getElem (xs := cs) (i := i) (by simpa using hi)
        rw [this] at hx
        simpa using hx
      rw [this]
      exact hw

section
variable {P : Program} (w : World)
theorem run_equalIn_ints (d : Nat) (t e : TypeId) (n : Nat) (k : IntKind) (ht : P.underlying t = some (.array n e)) (he : P.underlying e = some (.int k)) (hsz : ∀ w, (sizeOf e).run P w = .ok 1 w)
    (cs : Array Value) (hx : ∀ i, i < n → ∃ x : Int, cs[i]? = some (.int k x)) :
    (Op.equalIn (d + 2) t (.agg cs) (.agg cs)).run P w = .ok true w := by
  rw [Op.equalIn]
  simp only [Sem.run_bind, run_underlying ht, Result.andThen_ok, hsz, Std.Legacy.Range.forIn_eq_forIn_range', Std.Legacy.Range.size, Nat.sub_zero, Nat.add_sub_cancel, Nat.div_one]
  have hl : ∀ i ∈ List.range' 0 n 1, i < n := fun i hi => by simpa using (List.mem_range'_1.1 hi).2
  generalize List.range' 0 n 1 = l at hl ⊢
  induction l with
  | nil => simp
  | cons i l ih =>
    have hi : i < n := hl i (by simp)
    obtain ⟨x, hx'⟩ := hx i hi
    have px : (part e cs (i * 1)).run P w = .ok (.int k x) w := by
      simp [part, isAgg, run_underlying he, hx']
    have pe : (Op.equalIn (d + 1) e (.int k x) (.int k x)).run P w = .ok true w := by
      rw [run_equalIn_int w d e k k _ _ he]
      simp
    simp only [List.forIn_cons, Sem.run_bind, px, pe, Result.andThen_ok]
    simp only [Bool.not_true, Bool.false_eq_true, if_false, Sem.run_pure, Result.andThen_ok]
    exact ih fun j hj => hl j (by simp [hj])
theorem run_eql_same (t e : TypeId) (n : Nat) (k : IntKind) (ht : P.underlying t = some (.array n e)) (he : P.underlying e = some (.int k)) (hsz : ∀ w, (sizeOf e).run P w = .ok 1 w)
    (cs : Array Value) (hx : ∀ i, i < n → ∃ x : Int, cs[i]? = some (.int k x)) : (binOp .eql t (.agg cs) (.agg cs)).run P w = .ok (.bool true) w := by
  rw [run_eql_struct, run_equalIn_ints w 9998 t e n k ht he hsz cs hx]; rfl
theorem run_neq_same (t e : TypeId) (n : Nat) (k : IntKind) (ht : P.underlying t = some (.array n e)) (he : P.underlying e = some (.int k)) (hsz : ∀ w, (sizeOf e).run P w = .ok 1 w)
    (cs : Array Value) (hx : ∀ i, i < n → ∃ x : Int, cs[i]? = some (.int k x)) : (binOp .neq t (.agg cs) (.agg cs)).run P w = .ok (.bool false) w := by
  rw [run_neq_struct, run_equalIn_ints w 9998 t e n k ht he hsz cs hx]; rfl
end

namespace Sha
theorem size_b (w : World) : (sizeOf TU8).run Try.prog w = .ok 1 w := by
  obtain ⟨j0, hj0, hz0, hz1, hz2⟩ := info_parts info_b
  simp [sizeOf, typeInfo, hj0, hz1]
theorem eql_d (d : List B) (h : d.length = 32) (w : World) : (binOp .eql TD (.agg (brr d)) (.agg (brr d))).run Try.prog w = .ok (.bool true) w :=
  run_eql_same w TD TU8 32 .u8 Try.underlying30 Try.underlying5 size_b (brr d) (fun i hi => ⟨_, by rw [brr_get, List.getElem?_eq_getElem (by omega)]; rfl⟩)
theorem neq_d (d : List B) (h : d.length = 32) (w : World) : (binOp .neq TD (.agg (brr d)) (.agg (brr d))).run Try.prog w = .ok (.bool false) w :=
  run_neq_same w TD TU8 32 .u8 Try.underlying30 Try.underlying5 size_b (brr d) (fun i hi => ⟨_, by rw [brr_get, List.getElem?_eq_getElem (by omega)]; rfl⟩)
theorem size_u (w : World) : (sizeOf 22).run Try.prog w = .ok 1 w := by
  obtain ⟨j0, hj0, hz0, hz1, hz2⟩ := info_parts (show (Try.prog.info? 22).map (fun i => (i.zero, i.size, i.bytes)) = some (some (.int .u32 0), 1, 4) by kernel_rfl)
  simp [sizeOf, typeInfo, hj0, hz1]
theorem eql_8 (d : List U) (h : d.length = 8) (w : World) : (binOp .eql T8 (.agg (arr d)) (.agg (arr d))).run Try.prog w = .ok (.bool true) w :=
  run_eql_same w T8 22 8 .u32 Try.underlying23 Try.underlying22 size_u (arr d) (fun i hi => ⟨_, by rw [arr_get, List.getElem?_eq_getElem (by omega)]; rfl⟩)

theorem to_b {x : Int} (h : (Lit.int .u8 x).wf = true) : Value.int .u8 x = C (BitVec.ofInt 8 x) := by
  simp [Lit.wf, IntKind.min, IntKind.max, IntKind.signed, IntKind.bits] at h
  unfold C
  rw [BitVec.toNat_ofInt]
  congr 1
  omega
theorem to_u {x : Int} (h : (Lit.int .u32 x).wf = true) : Value.int .u32 x = V (BitVec.ofInt 32 x) := by
  simp [Lit.wf, IntKind.min, IntKind.max, IntKind.signed, IntKind.bits] at h
  unfold V
  rw [BitVec.toNat_ofInt]
  congr 1
  omega
theorem to_brr {xs : List Int} (h : ∀ x ∈ xs, (Lit.int .u8 x).wf = true) : (xs.map (Value.int .u8)).toArray = brr (xs.map (BitVec.ofInt 8)) := by
  unfold brr
  rw [List.map_map]
  congr 1
  exact List.map_congr_left fun x hx => to_b (h x hx)
theorem to_arr {xs : List Int} (h : ∀ x ∈ xs, (Lit.int .u32 x).wf = true) : (xs.map (Value.int .u32)).toArray = arr (xs.map (BitVec.ofInt 32)) := by
  unfold arr
  rw [List.map_map]
  congr 1
  exact List.map_congr_left fun x hx => to_u (h x hx)
theorem to_cells {xs : List Int} (h : ∀ x ∈ xs, (Lit.int .u8 x).wf = true) : (xs.map (BitVec.ofInt 8)).flatMap eb = xs.flatMap (fun x : Int => [Value.int .u8 x]) := by
  induction xs with
  | nil => rfl
  | cons x r ih =>
    rw [List.map_cons, List.flatMap_cons, List.flatMap_cons, ih (fun y hy => h y (List.mem_cons_of_mem _ hy)), to_b (h x (List.mem_cons_self ..))]
    rfl
theorem to_sl {w : World} {v : Value} {xs : List Int} (hs : SL (fun x : Int => [Value.int .u8 x]) w v xs) (h : ∀ x ∈ xs, (Lit.int .u8 x).wf = true) : SL eb w v (xs.map (BitVec.ofInt 8)) := by
  obtain ⟨A, cap, rfl, hc, hr⟩ := hs
  refine ⟨A, cap, by rw [List.length_map], by rw [List.length_map]; exact hc, fun h0 => ?_⟩
  rw [List.length_map] at h0
  rw [to_cells h]
  exact hr h0

set_option maxHeartbeats 1600000 in
theorem same_any (va vb : Value) (xs ys : List B) (w : World) (ha : SL eb w va xs) (hb : SL eb w vb ys) (hx : xs.length ≤ 8388608) :
    Calls Try.prog 17 #[va, vb] w fun e w' => e = .returned (.bool (decide (xs = ys))) ∧ Dr w w' := by
  have HA := Lib.hid ha
  have HB := Lib.hid hb
  obtain ⟨A, ca, rfl, _⟩ := ha.len
  obtain ⟨B, cb, rfl, _⟩ := hb.len
  clear ha hb
  by_cases hl : xs.length = ys.length
  · have hl1 : ((xs.length : Int) != (ys.length : Int)) = false := by rw [bne_eq_false_iff_eq]; omega
    have hx' : (xs.length : Int) ≤ 8388608 := by omega
    have Hl := Lib.hid hl
    clear hl
    go_enter Try.func17, Try.ntmps17
    go_wp2
    go_loopg [5] (xs.length + 1) (fun m s5 wr => ∃ k : Nat, s5 = .int .i64 k ∧ Hid (k ≤ xs.length ∧ xs.length - k < m) ∧ Hid (Dr w wr) ∧ Hid (xs.take k = ys.take k))
    case atStart => exact ⟨0, rfl, ⟨Nat.zero_le _, by omega⟩, Dr.refl _, by simp [Hid]⟩
    case round =>
      obtain ⟨k, rfl, HK, HD, HE⟩ := hrel
      by_cases hk : k < xs.length
      · have hk2 : k < ys.length := by have := Hl.out; omega
        obtain ⟨b1, o1, rfl, _, hc1⟩ := (HA.out.gr HD.out.gr).at_ (s := 1) (fun _ => rfl) rfl hk
        obtain ⟨b2, o2, rfl, _, hc2⟩ := (HB.out.gr HD.out.gr).at_ (s := 1) (fun _ => rfl) rfl hk2
        have c1 := hc1 0 (by omega)
        have c2 := hc2 0 (by omega)
        clear hc1 hc2
        simp only [eb, Nat.mul_one, Nat.add_zero, List.getElem?_cons_zero] at c1 c2
        have E1 := Lib.hid (List.take_succ_eq_append_getElem hk)
        have E2 := Lib.hid (List.take_succ_eq_append_getElem hk2)
        have G1 := Lib.hid (List.getElem?_eq_getElem hk)
        have G2 := Lib.hid (List.getElem?_eq_getElem hk2)
        generalize xs[k] = x at c1 E1 G1
        generalize ys[k] = y at c2 E2 G2
        have hki : (k : Int) < xs.length := by omega
        have hki2 : (k : Int) < ys.length := by omega
        by_cases hxy : x = y
        · have hb1 : ((x.toNat : Int) != (y.toNat : Int)) = false := by rw [bne_eq_false_iff_eq, hxy]
          have hb2 : (x.toNat != y.toNat) = false := by rw [bne_eq_false_iff_eq, hxy]
          have Hxy := Lib.hid hxy
          clear hxy
          go_wp2_with fail
          go_quiet (fail)
          go_wp2_with fail
          go_roundg (gk - 1)
          case measure => have := HK.out; omega
          case rel => exact ⟨k + 1, by go_num, ⟨hk, by have := HK.out; omega⟩, HD.out.drewN _, show _ = _ by rw [E1.out, E2.out, HE.out, Hxy.out]⟩
        · have hnn : x.toNat ≠ y.toNat := fun h => hxy (BitVec.eq_of_toNat_eq h)
          have hb1 : ((x.toNat : Int) != (y.toNat : Int)) = true := by rw [bne_iff_ne]; omega
          have hb2 : (x.toNat != y.toNat) = true := by rw [bne_iff_ne]; exact hnn
          have Hxy := Lib.hid hxy
          clear hxy hnn
          go_wp2_with fail
          go_quiet (fail)
          go_wp2_with fail
          go_ret
          refine ⟨?_, HD.out.drewN _⟩
          have : decide (xs = ys) = false := decide_eq_false (fun e => by
            subst e
            have := G1.out.symm.trans G2.out
            injection this with this
            exact Hxy.out this)
          rw [this]; rfl
      · have hkk : decide ((k : Int) < xs.length) = false := decide_eq_false (by omega)
        go_wp2_with fail
        go_ret
        refine ⟨?_, HD.out⟩
        have : decide (xs = ys) = true := decide_eq_true (by
          have h1 := HE.out
          rw [List.take_of_length_le (by omega), List.take_of_length_le (by have := Hl.out; omega)] at h1
          exact h1)
        rw [this]; rfl
  · have hl1 : ((xs.length : Int) != (ys.length : Int)) = true := by rw [bne_iff_ne]; omega
    have Hn := Lib.hid (show decide (xs = ys) = false from decide_eq_false (fun e => hl (by rw [e])))
    go_enter Try.func17, Try.ntmps17
    go_wp2
    go_ret
    refine ⟨?_, Dr.refl _⟩
    rw [Hn.out]; rfl
end Sha
end Go.Proofs.Ytfpgfnmidkkgjaa
