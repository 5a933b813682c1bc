/- leb: Put. leb: Put of both packages. leb: Get. leb: Get of the reference. -/
import Derived.Test.YtlodbhlidgepfaaVTa
import Derived.Test.YtlodbhlidgepfaaLib
import Derived.Test.YtlodbhlidgepfaaGPl
set_option linter.unusedVariables false
set_option linter.unusedSimpArgs false
namespace Go.Proofs.Ytlodbhlidgepfaa
open Go.RowKit
open Voc
/-- 'x[:k:m]' -/
theorem run_slice_to3 {P : Program} (t e : TypeId) (i : TypeInfo) (ht : P.underlying t = some (.slice e)) (hi : P.info? e = some i) (A : Option Addr) (n cap k m : Nat) (hk : k ≤ m) (hm : m ≤ cap) (w : World) :
    (Instr.slice t (.slice A n cap) none (some (.int .i64 (k : Int))) (some (.int .i64 (m : Int)))).run P w = .ok (.slice A k m) w := by
  have h1 : (0 : Int) ≤ k ∧ (k : Int) ≤ m := by omega
  have h2 : (0 : Int) ≤ m ∧ (m : Int) ≤ cap := by omega
  simp [Instr.slice, Instr.sliceBounds, run_underlying ht, sizeOf, typeInfo, hi, go_sem, h1, h2]
  first
    | (intro h; omega)
    | (cases A <;> simp [Addr.add])
namespace Leb
/-- a slice with no room behind it -/
def FullS (v : Value) : Prop := ∃ (A : Option Addr) (n : Nat), v = .slice A n n
def encW (n : Nat) : List Value := [.int .u64 (n : Int)]
theorem or128 (m : Nat) : bits .or .u8 ((m : Int) % 256) 128 = ((m % 128 + 128 : Nat) : Int) := by
  have := or8 (show m % 256 < 2 ^ 8 by omega) (show 128 < 2 ^ 8 by decide)
  rw [or_128 (by omega)] at this
  rw [show (m : Int) % 256 = ((m % 256 : Nat) : Int) by omega]
  refine this.trans ?_
  omega
theorem SL.cut {α : Type} {enc : α → List Value} {w : World} {A : Option Addr} {xs : List α} {cap : Nat} (h : SL enc w (.slice A xs.length cap) xs) : SL enc w (.slice A xs.length xs.length) xs := by
  obtain ⟨A', c', he, hc, hr⟩ := h
  injection he with h1 h2 h3
  subst h1 h3
  exact ⟨A, xs.length, rfl, Nat.le_refl _, hr⟩
set_option maxRecDepth 20000 in
set_option maxHeartbeats 4000000 in
theorem put_full {w : World} {v : Value} {ls : List Nat} (hs : SL encW w v ls) (hb : ∀ n ∈ ls, n < 2 ^ 64) (hl : ls.length ≤ 65536) :
    Calls Try.prog 88 #[v] w fun e w' => ∃ tv, e = .returned tv ∧ SL encB w' tv (ls.flatMap putL) ∧ (∀ k, tv.ownBlock = some k → w.heap.size ≤ k) ∧ Gr w w' ∧ FullS tv := by
  have HS := Lib.hid hs
  obtain ⟨A, cap, rfl⟩ := SL.form hs
  have HB := Lib.hid hb
  have Hl := Lib.hid hl
  have hl' : (ls.length : Int) ≤ 65536 := by omega
  obtain ⟨i0, hi0, hz0, hz1, hz2⟩ := info_parts info_u8
  have Hsl := Lib.hid (fun (A' : Option Addr) (n c : Nat) (h : n ≤ c) (w' : World) => run_slice_to3 (P := Try.prog) 32 5 i0 Try.underlying32 hi0 A' n c n n (Nat.le_refl _) h w')
  have Hfl := Lib.hid (show ∀ k, (ls.take k).flatMap putL = (ls.take k).flatMap putL ∧ ((ls.take k).flatMap putL).length ≤ 10 * k from fun k => ⟨rfl, by
    rw [List.length_flatMap]
    have : ∀ l : List Nat, (l.map fun a => (putL a).length).sum ≤ 10 * l.length := by
      intro l
      induction l with
      | nil => simp
      | cons a l ih => rw [List.map_cons, List.sum_cons, List.length_cons]; have := putL_len a; omega
    have h1 := this (ls.take k)
    have h2 := List.length_take_le k ls
    omega⟩)
  clear hs hb hl
  go_enter Try.func88, Try.ntmps88
  go_upto_block 0 with (fail)
  go_cut [3] (fun s3 wx => ∃ va, va = s3 ∧ Hid (Gr w wx ∧ wx.ownsRow w.heap.size 5 1 va (ls.flatMap putL).length ((ls.flatMap putL).flatMap encB)))
  case first =>
    go_wp2_with fail
    go_loopg [3, 8] (ls.length + 1) (fun m s3 s8 wr => ∃ (k : Nat) (va : Value), va = s3 ∧ s8 = .int .i64 k ∧ Hid (k ≤ ls.length ∧ ls.length - k < m) ∧ Hid (Gr w wr ∧ wr.ownsRow w.heap.size 5 1 va ((ls.take k).flatMap putL).length (((ls.take k).flatMap putL).flatMap encB)))
    case atStart => exact ⟨0, _, rfl, rfl, ⟨Nat.zero_le _, by omega⟩, Fr.refl _ _, World.ownsRow_nil _ _ _ _⟩
    case round =>
      obtain ⟨k, va, rfl, rfl, HK, HP⟩ := hrel
      by_cases hk : k < ls.length
      · obtain ⟨b1, o1, rfl, hb1, hc1⟩ := (HS.out.gr HP.out.1).at_ (s := 1) (fun _ => rfl) rfl hk
        have c1 := hc1 0 (by omega)
        clear hc1
        simp [encW] at c1
        have Hx := Lib.hid (HB.out _ (List.getElem_mem hk))
        have Hst := Lib.hid (List.take_succ_eq_append_getElem hk)
        generalize ls[k] = n at c1 Hx Hst
        have hki : (k : Int) < ls.length := by omega
        have Hk := Lib.hid hk
        clear hk hb1
        obtain ⟨pre, hpre⟩ : ∃ p, (ls.take k).flatMap putL = p := ⟨_, rfl⟩
        have Hpl := Lib.hid (show pre.length ≤ 655360 by rw [← hpre]; have := (Hfl.out k).2; have := Hk.out; have := Hl.out; omega)
        rw [hpre] at HP
        have Hpre := Lib.hid hpre
        clear hpre
        go_upto_block 2 with (fail)
        go_cut [3, 5] (fun s3 s5 wx => ∃ (va : Value) (part : List Int) (m f : Nat), va = s3 ∧ s5 = .int .u64 m ∧ Hid (Gr w wx ∧ wx.ownsRow w.heap.size 5 1 va (pre ++ part).length ((pre ++ part).flatMap encB) ∧ putL n = part ++ [(m : Int)] ∧ m < 128))
        case first =>
          go_wp2_with fail
          obtain ⟨wo, rfl⟩ : ∃ wo : World, wo = wr := ⟨_, rfl⟩
          go_loopg [3, 5] 11 (fun g s3 s5 wx => ∃ (va : Value) (part : List Int) (m f : Nat), va = s3 ∧ s5 = .int .u64 m ∧ Hid (f + 1 ≤ g ∧ part.length + f + 1 = 10) ∧ Hid (Gr w wx ∧ wx.ownsRow w.heap.size 5 1 va (pre ++ part).length ((pre ++ part).flatMap encB) ∧ putL n = part ++ putN (f + 1) m ∧ m < 128 ^ (f + 1)))
          case atStart =>
            refine ⟨_, [], n, 9, rfl, rfl, ⟨by omega, rfl⟩, HP.out.1, by rw [List.append_nil]; exact HP.out.2, rfl, ?_⟩
            have : (2 : Nat) ^ 64 < 128 ^ (9 + 1) := by decide
            have := Hx.out
            omega
          case round =>
            obtain ⟨va2, part, m, f, rfl, rfl, HF, HQ⟩ := hrel
            by_cases hm : m < 128
            · have hm1 : decide ((m : Int) ≥ 128) = false := decide_eq_false (by omega)
              have hm2 : ¬ (m : Int) ≥ 128 := by omega
              have Hm := Lib.hid hm
              clear hm
              go_wp2_with fail
              go_meet
              exact ⟨_, part, m, 0, rfl, rfl, HQ.out.1, HQ.out.2.1, by rw [HQ.out.2.2.1, putN, if_pos Hm.out], Hm.out⟩
            · have hm1 : (m : Int) ≥ 128 := by omega
              have Hm := Lib.hid hm
              clear hm
              obtain ⟨f, rfl⟩ : ∃ f', f = f' + 1 := by
                cases f with
                | zero => exact absurd HQ.out.2.2.2 (by have := Hm.out; simp; omega)
                | succ f => exact ⟨f, rfl⟩
              have Hor := Lib.hid (or128 m)
              have hpp := Lib.hid (show (pre ++ part).length ≤ 655370 by rw [List.length_append]; have := Hpl.out; have := HF.out; omega)
              go_wp2_with (
                at_builtin
                refine wpList_append_sl _ encB rfl _ _ 32 rfl w.heap.size 5 i0 (.int .u8 0) 1 1 Try.underlying32 hi0 hz0 hz1 hz2 rfl (by decide) va2 _ _ rfl (HQ.out.2.1.alloc _) (.slice (some ⟨wr.heap.size, 0, none⟩) 1 1) [bits .or .u8 ((m : Int) % 256) 128] rfl (sl_one (enc := encB) wr _ _ rfl 5) (fun _ => rfl) encB_one (by have := hpp.out; simp only [maxLen, List.length_singleton]; omega) (by have := hpp.out; simp only [List.length_singleton]; omega) (by have := HQ.out.1.size; simp; omega) ?_
                intro v4 w4 ho hf hat
                have HO4 := Lib.hid ho
                have HG4 := Lib.hid (show Gr w w4 from (HQ.out.1.alloc _).trans hf (fun i hi h => by have := (HQ.out.2.1.lt i h).1; omega))
                clear ho hf hat)
              go_roundg (gk - 1)
              case measure => have := HF.out; omega
              case rel =>
                refine ⟨_, part ++ [((m % 128 + 128 : Nat) : Int)], m / 128, f, rfl, by go_num, ⟨by have := HF.out; omega, by rw [List.length_append, List.length_singleton]; have := HF.out; omega⟩, HG4.out, ?_, ?_, ?_⟩
                · rw [← List.append_assoc, List.length_append, List.flatMap_append, ← Hor.out]
                  exact HO4.out
                · rw [HQ.out.2.2.1, List.append_assoc]
                  congr 1
                  rw [putN, if_neg Hm.out]
                  rfl
                · rw [Nat.div_lt_iff_lt_mul (by omega)]
                  have := HQ.out.2.2.2
                  rw [Nat.pow_succ] at this
                  exact this
        case rest =>
        obtain ⟨va2, part, m, _, rfl, rfl, HQ⟩ := hcut
        have hpp := Lib.hid (show (pre ++ part).length ≤ 655370 by
          rw [List.length_append]
          have := Hpl.out
          have h1 := putL_len n
          rw [HQ.out.2.2.1, List.length_append] at h1
          omega)
        have hm1 : (m : Int) < 128 := by have := HQ.out.2.2.2; omega
        have hm2 : (m : Int) % 256 = (m : Int) := by omega
        have Hm2 := Lib.hid hm2
        clear hm2
        go_wp2_with (
          at_builtin
          refine wpList_append_sl _ encB rfl _ _ 32 rfl w.heap.size 5 i0 (.int .u8 0) 1 1 Try.underlying32 hi0 hz0 hz1 hz2 rfl (by decide) va2 _ _ rfl (HQ.out.2.1.alloc _) (.slice (some ⟨wc.heap.size, 0, none⟩) 1 1) [(m : Int)] rfl (sl_one (enc := encB) wc _ _ rfl 5) (fun _ => rfl) encB_one (by have := hpp.out; simp only [maxLen, List.length_singleton]; omega) (by have := hpp.out; simp only [List.length_singleton]; omega) (by have := HQ.out.1.size; simp; omega) ?_
          intro v4 w4 ho hf hat
          have HO4 := Lib.hid ho
          have HG4 := Lib.hid (show Gr w w4 from (HQ.out.1.alloc _).trans hf (fun i hi h => by have := (HQ.out.2.1.lt i h).1; omega))
          clear ho hf hat)
        go_roundg (gk - 1)
        case measure => have := HK.out; omega
        case rel =>
          refine ⟨k + 1, _, rfl, by go_num, ⟨by have := Hk.out; omega, by have := HK.out; omega⟩, HG4.out, ?_⟩
          have e : (ls.take (k + 1)).flatMap putL = (pre ++ part) ++ [(m : Int)] := by
            rw [Hst.out, List.flatMap_append, Hpre.out, List.flatMap_cons, List.flatMap_nil, List.append_nil, HQ.out.2.2.1, List.append_assoc]
          rw [e, List.length_append, List.flatMap_append]
          exact HO4.out
      · have hkk : decide ((k : Int) < ls.length) = false := decide_eq_false (by omega)
        obtain rfl : k = ls.length := by have := HK.out; omega
        have hfull : ls.take ls.length = ls := List.take_length
        rw [hfull] at HP
        go_wp2_with fail
        go_meet
        exact ⟨_, rfl, HP.out⟩
  case rest =>
  obtain ⟨va, rfl, HP⟩ := hcut
  obtain ⟨bs, hbs⟩ : ∃ bs, ls.flatMap putL = bs := ⟨_, rfl⟩
  rw [hbs] at HP
  have Hbs := Lib.hid hbs
  clear hbs
  obtain ⟨Av, cv, rfl⟩ := own_formN HP.out.2
  have HSv := Lib.hid (SL.of_own (enc := encB) HP.out.2 rfl)
  have hlen := HSv.out.len
  obtain ⟨A', c', h1, h2⟩ := hlen
  injection h1 with h0 h3 h4
  subst h0 h4
  have hsl := Hsl.out Av _ _ h2
  have Hlt := Lib.hid (HP.out.2.lt)
  clear h3 h2
  go_wp2_with fail
  go_ret
  refine ⟨.slice Av bs.length bs.length, rfl, by rw [Hbs.out]; exact SL.cut HSv.out, fun k hk => ?_, HP.out.1, Av, bs.length, rfl⟩
  exact (Hlt.out k (by cases Av <;> simp [Value.ownBlock] at hk ⊢; exact hk)).1
theorem put_any {w : World} {v : Value} {ls : List Nat} (hs : SL encW w v ls) (hb : ∀ n ∈ ls, n < 2 ^ 64) (hl : ls.length ≤ 65536) :
    Calls Try.prog 88 #[v] w fun e w' => ∃ tv, e = .returned tv ∧ SL encB w' tv (ls.flatMap putL) ∧ (∀ k, tv.ownBlock = some k → w.heap.size ≤ k) ∧ Gr w w' :=
  (put_full hs hb hl).mono fun e w' ⟨tv, h1, h2, h3, h4, _⟩ => ⟨tv, h1, h2, h3, h4⟩
end Leb
end Go.Proofs.Ytlodbhlidgepfaa

namespace Go.Proofs.Ytlodbhlidgepfaa
open Go.RowKit
open Voc
namespace Leb
theorem Put_full (n : Nat) (hn : n < 2 ^ 64) (w : World) :
    Calls Try.prog 77 #[.int .u64 (n : Int)] w fun e w' => ∃ tv, e = .returned tv ∧ SL encB w' tv (putL n) ∧ (∀ k, tv.ownBlock = some k → w.heap.size ≤ k) ∧ Gr w w' ∧ FullS tv := by
  have HG := Lib.hid ((Fr.refl w NoneS).alloc (.cells #[.int .u64 (n : Int)] 24))
  have HP := Lib.hid (put_full (w := w.alloc (.cells #[.int .u64 (n : Int)] 24)) (v := .slice (some ⟨w.heap.size, 0, none⟩) 1 1) (ls := [n]) (sl_one (enc := encW) w n _ rfl _) (by intro m hm; simp at hm; subst hm; exact hn) (by simp))
  have hone : [n].flatMap putL = putL n := by simp
  rw [hone] at HP
  clear hn hone
  go_enter Try.func77, Try.ntmps77
  go_wp2_with (
    go_at_call 88
    refine HP.out.mono ?_
    rintro e w' ⟨tv, rfl, hs, hk, hg, hA⟩
    have HX := Lib.hid (And.intro hs (And.intro hk (And.intro hg hA)))
    clear hs hk hg hA)
  go_ret
  exact ⟨tv, rfl, HX.out.1, fun k hk => by have := HX.out.2.1 k hk; simp at this; omega, HG.out.trans HX.out.2.2.1 (fun _ _ h => h), HX.out.2.2.2⟩
theorem Put_any (n : Nat) (hn : n < 2 ^ 64) (w : World) :
    Calls Try.prog 77 #[.int .u64 (n : Int)] w fun e w' => ∃ tv, e = .returned tv ∧ SL encB w' tv (putL n) ∧ (∀ k, tv.ownBlock = some k → w.heap.size ≤ k) ∧ Gr w w' :=
  (Put_full n hn w).mono fun e w' ⟨tv, h1, h2, h3, h4, _⟩ => ⟨tv, h1, h2, h3, h4⟩
end Leb
end Go.Proofs.Ytlodbhlidgepfaa

namespace Go.Proofs.Ytlodbhlidgepfaa
open Go.RowKit
open Voc
namespace Leb
def Bs (bs : List Int) : Prop := ∀ c ∈ bs, 0 ≤ c ∧ c < 256
/-- what Get answers -/
def getE (bs : List Int) (at_ : Int) : Int × Int × Int :=
  if at_ < 0 ∨ (bs.length : Int) < at_ then (0, 0, 2)
  else if (lebE (bs.drop at_.toNat)).2.2 ≠ 0 then (0, 0, (lebE (bs.drop at_.toNat)).2.2)
  else (((lebE (bs.drop at_.toNat)).1 : Nat), at_ + ((lebE (bs.drop at_.toNat)).2.1 : Nat), 0)
set_option maxRecDepth 20000 in
theorem step_or {acc y k : Nat} (hacc : acc < 128 ^ k) (hy : y < 256) (hk : k ≤ 8 ∨ (k = 9 ∧ y ≤ 1)) :
    bits BinOp.or IntKind.u64 (acc : Int) (IntKind.u64.wrap (IntKind.u64.wrap (bits BinOp.and IntKind.u8 (y : Int) 127) * 2 ^ (7 * k))) = ((acc + y % 128 * 128 ^ k : Nat) : Int) := by
  have e1 : bits BinOp.and IntKind.u8 (y : Int) 127 = ((y % 128 : Nat) : Int) := by
    have := and8 (show y < 2 ^ 8 by omega) (show 127 < 2 ^ 8 by decide)
    rw [and_127] at this
    exact this
  have e2 : IntKind.u64.wrap ((y % 128 : Nat) : Int) = ((y % 128 : Nat) : Int) := by show ((y % 128 : Nat) : Int) % 18446744073709551616 = _; omega
  have e3 : (128 : Nat) ^ k = 2 ^ (7 * k) := by rw [Nat.pow_mul]
  have hb : y % 128 * 2 ^ (7 * k) < 2 ^ 64 := by
    rcases hk with h | ⟨rfl, h⟩
    · have h1 : 2 ^ (7 * k) ≤ 2 ^ 56 := Nat.pow_le_pow_right (by omega) (by omega)
      have h2 : y % 128 * 2 ^ (7 * k) ≤ 127 * 2 ^ 56 := Nat.mul_le_mul (by omega) h1
      have h3 : 127 * 2 ^ 56 < (2 : Nat) ^ 64 := by decide
      exact Nat.lt_of_le_of_lt h2 h3
    · have h2 : y % 128 * 2 ^ (7 * 9) ≤ 1 * 2 ^ 63 := Nat.mul_le_mul (by omega) (by decide)
      have h3 : 1 * 2 ^ 63 < (2 : Nat) ^ 64 := by decide
      exact Nat.lt_of_le_of_lt h2 h3
  have ha : acc < 2 ^ 64 := by
    rcases hk with h | ⟨rfl, h⟩
    · have h1 : 128 ^ k ≤ 128 ^ 8 := Nat.pow_le_pow_right (by omega) h
      have h3 : 128 ^ 8 < (2 : Nat) ^ 64 := by decide
      omega
    · have h3 : 128 ^ 9 < (2 : Nat) ^ 64 := by decide
      omega
  have e4 : IntKind.u64.wrap (((y % 128 : Nat) : Int) * 2 ^ (7 * k)) = ((y % 128 * 2 ^ (7 * k) : Nat) : Int) := by
    have : ((y % 128 : Nat) : Int) * 2 ^ (7 * k) = ((y % 128 * 2 ^ (7 * k) : Nat) : Int) := by
      rw [Int.natCast_mul, Int.natCast_pow]; rfl
    rw [this]
    show ((y % 128 * 2 ^ (7 * k) : Nat) : Int) % 18446744073709551616 = _
    have h64 : (2 : Nat) ^ 64 = 18446744073709551616 := by decide
    omega
  rw [e1, e2, e4, or64 ha hb, or_add (by rw [← e3]; exact hacc), e3]
/-- the number as far as it has come; behind what leaves the loop -/
def NAt (l : List Int) (k : Nat) (N : Int) : Prop := k ≤ 9 → N = ((accF l k : Nat) : Int)
set_option maxRecDepth 20000 in
set_option maxHeartbeats 4000000 in
theorem get_in {w : World} {v : Value} {bs : List Int} (a : Nat) (ha : a ≤ bs.length) (hs : SL encB w v bs) (hb : Bs bs) (hl : bs.length ≤ 4194304) (r1 r2 r3 : Int) (hr : getE bs (a : Int) = (r1, r2, r3)) :
    Calls Try.prog 73 #[v, .int .i64 (a : Int)] w fun e w' => e = .returned (.tuple #[.int .u64 r1, .int .i64 r2, .int .i64 r3]) ∧ w = w' := by
  have HS := Lib.hid hs
  obtain ⟨A, cap, rfl⟩ := SL.form hs
  have HB := Lib.hid hb
  have hl' : (bs.length : Int) ≤ 4194304 := by omega
  have ha' : (a : Int) ≤ bs.length := by omega
  have Ha := Lib.hid ha
  have ha1 : decide (bs.length < a) = false := decide_eq_false (by omega)
  have ha2 : decide ((a : Int) < 0) = false := decide_eq_false (by omega)
  obtain ⟨l, hlq⟩ : ∃ l, bs.drop a = l := ⟨_, rfl⟩
  have Hll := Lib.hid (show l.length = bs.length - a by rw [← hlq, List.length_drop])
  have Hget := Lib.hid (show ∀ k, k < l.length → l.getD k 0 = bs.getD (a + k) 0 from fun k hk => by
    rw [← hlq, List.getD_eq_getElem?_getD, List.getElem?_drop, ← List.getD_eq_getElem?_getD])
  have Hr := Lib.hid (show (lebE l).2.2 ≠ 0 ∧ r1 = 0 ∧ r2 = 0 ∧ r3 = (lebE l).2.2 ∨ (lebE l).2.2 = 0 ∧ r1 = ((lebE l).1 : Nat) ∧ r2 = (a : Int) + ((lebE l).2.1 : Nat) ∧ r3 = 0 from by
    unfold getE at hr
    rw [if_neg (by omega), Int.toNat_natCast, hlq] at hr
    split at hr
    · rename_i h
      injection hr with h1 hr
      injection hr with h2 h3
      exact .inl ⟨h, h1.symm, h2.symm, h3.symm⟩
    · rename_i h
      injection hr with h1 hr
      injection hr with h2 h3
      exact .inr ⟨by simpa using h, h1.symm, h2.symm, h3.symm⟩)
  clear hs hb hl ha hr hlq
  go_enter Try.func73, Try.ntmps73
  go_wp2_with fail
  go_step3
  go_wp2_with fail
  go_step3
  go_upto_block 0 with (fail)
  go_cut [4, 7] (fun s4 s7 wx => ∃ (k : Nat) (N : Int), s7 = .int .i64 k ∧ s4 = .int .u64 N ∧ wx = w ∧ Hid ((∀ j, j < k → 128 ≤ l.getD j 0) ∧ k ≤ 10 ∧ (k = 10 ∧ 10 ≤ l.length ∨ k ≤ 9 ∧ k < l.length ∧ l.getD k 0 < 128 ∧ ((k ≤ 8 ∨ (k = 9 ∧ l.getD 9 0 ≤ 1)) → N = ((accF l (k + 1) : Nat) : Int)))))
  case first =>
    go_wp2_with fail
    go_loopg [4, 7] 11 (fun g s4 s7 wx => ∃ (k : Nat) (N : Int), s7 = .int .i64 k ∧ s4 = .int .u64 N ∧ wx = w ∧ Hid (k ≤ 10 ∧ 10 - k < g ∧ k ≤ l.length) ∧ Hid ((∀ j, j < k → 128 ≤ l.getD j 0) ∧ NAt l k N))
    case atStart => exact ⟨0, 0, rfl, rfl, rfl, ⟨by omega, by omega, Nat.zero_le _⟩, fun j hj => by omega, fun _ => rfl⟩
    case round =>
      obtain ⟨k, N, rfl, rfl, rfl, HK, HN⟩ := hrel
      by_cases hk : k < 10
      · have hki : (k : Int) < 10 := by omega
        have Hk := Lib.hid hk
        clear hk
        by_cases hend : a + k = bs.length
        · have hee : ((a : Int) + k == bs.length) = true := by rw [beq_iff_eq]; omega
          have hlk : k = l.length := by have := Hll.out; have := Ha.out; omega
          have hrun : runN 9 l = l.length := by
            rw [← hlk]
            exact runN_eq HN.out.1 (by have := Hk.out; omega) (by omega) (fun _ h => by omega)
          have hle : lebE l = (0, 0, 4) := by unfold lebE; rw [if_pos hrun]
          have hres : r1 = 0 ∧ r2 = 0 ∧ r3 = 4 := by
            have := Hr.out
            rw [hle] at this
            rcases this with h | h
            · exact ⟨h.2.1, h.2.2.1, h.2.2.2⟩
            · exact absurd h.1 (by decide)
          obtain ⟨rfl, rfl, rfl⟩ := hres
          clear hle hrun hlk hend
          go_wp2_with fail
          try rw [Exit.noGoto_ret]
          go_ret3
          exact ⟨rfl, rfl⟩
        · have hne : ((a : Int) + k == bs.length) = false := by rw [beq_eq_false_iff_ne]; omega
          have hlt : a + k < bs.length := by have := HK.out; have := Hll.out; have := Ha.out; omega
          have hkl : k < l.length := by have := Hll.out; omega
          obtain ⟨b1, o1, rfl, _, hc1⟩ := HS.out.at_ (s := 1) (fun _ => rfl) rfl hlt
          have c1 := hc1 0 (by omega)
          have Hx := Lib.hid (HB.out _ (List.getElem_mem hlt))
          have Hlk := Lib.hid (show l.getD k 0 = bs[a + k] by rw [Hget.out k hkl, List.getD_eq_getElem?_getD, List.getElem?_eq_getElem hlt]; rfl)
          have Hkl := Lib.hid hkl
          simp [encB] at c1
          generalize bs[a + k] = x at c1 Hx Hlk
          obtain ⟨y, rfl⟩ : ∃ y : Nat, x = y := ⟨x.toNat, by have := Hx.out; omega⟩
          have hlt' : (a : Int) + k < bs.length := by omega
          have hnn : (0 : Int) ≤ (a : Int) + k := by omega
          have htn : ((a : Int) + k).toNat = a + k := by omega
          have Hor := Lib.hid (show (k ≤ 8 ∨ (k = 9 ∧ y ≤ 1)) → bits BinOp.or IntKind.u64 N (IntKind.u64.wrap (IntKind.u64.wrap (bits BinOp.and IntKind.u8 (y : Int) 127) * 2 ^ (7 * k))) = ((accF l (k + 1) : Nat) : Int) from fun h => by
            rw [HN.out.2 (by omega), step_or (accF_lt l k) (by have := Hx.out; omega) h]
            simp only [accF]
            rw [Hlk.out, Int.toNat_natCast])
          clear hend hlt hkl hc1
          by_cases hy : y < 128
          · have hy1 : decide ((y : Int) < 128) = true := decide_eq_true (by omega)
            have hy2 : (y : Int) < 128 := by omega
            have Hy := Lib.hid hy
            clear hy
            go_wp2_with fail
            go_meet
            refine ⟨k, _, rfl, rfl, rfl, HN.out.1, by have := Hk.out; omega, .inr ⟨by have := Hk.out; omega, Hkl.out, by rw [Hlk.out]; have := Hy.out; omega, fun h => ?_⟩⟩
            refine Hor.out ?_
            rcases h with h | ⟨h, h2⟩
            · exact .inl h
            · subst h; rw [Hlk.out] at h2; exact .inr ⟨rfl, by omega⟩
          · have hy1 : decide ((y : Int) < 128) = false := decide_eq_false (by omega)
            have hy2 : ¬ (y : Int) < 128 := by omega
            have Hy := Lib.hid hy
            clear hy
            go_wp2_with fail
            go_roundg (gk - 1)
            case measure => have := HK.out; omega
            case rel =>
              refine ⟨k + 1, _, by go_num, rfl, rfl, ⟨by have := Hk.out; omega, by have := HK.out; omega, by have := Hkl.out; omega⟩, fun j hj => ?_, fun h9 => Hor.out (.inl (by omega))⟩
              rcases Nat.lt_or_ge j k with h | h
              · exact HN.out.1 j h
              · obtain rfl : j = k := by omega
                rw [Hlk.out]
                have := Hy.out
                omega
      · obtain rfl : k = 10 := by have := HK.out; omega
        go_wp2_with fail
        go_meet
        exact ⟨10, N, rfl, rfl, rfl, HN.out.1, Nat.le_refl _, .inl ⟨rfl, HK.out.2.2⟩⟩
  case rest =>
  obtain ⟨k, N, rfl, rfl, rfl, HC⟩ := hcut
  have hki : (k : Int) ≤ 10 := by have := HC.out.2.1; omega
  by_cases h10 : k = 10
  · subst h10
    have hle : lebE l = (0, 0, 5) := by
      have hl10 : 10 ≤ l.length := by
        rcases HC.out.2.2 with h | h
        · exact h.2
        · omega
      have hrun : runN 9 l = 9 := runN_eq (fun j hj => HC.out.1 j (by omega)) (Nat.le_refl _) (by omega) (fun h => by omega)
      have h9 := HC.out.1 9 (by omega)
      unfold lebE
      rw [hrun, if_neg (by omega), if_pos (by unfold bad; exact .inl ⟨rfl, by omega⟩)]
    have hres : r1 = 0 ∧ r2 = 0 ∧ r3 = 5 := by
      have := Hr.out
      rw [hle] at this
      rcases this with h | h
      · exact ⟨h.2.1, h.2.2.1, h.2.2.2⟩
      · exact absurd h.1 (by decide)
    obtain ⟨rfl, rfl, rfl⟩ := hres
    clear hle
    go_wp2_with fail
    try rw [Exit.noGoto_ret]
    go_ret3
    exact ⟨rfl, rfl⟩
  · obtain ⟨h9, hkl, hc, hN⟩ := HC.out.2.2.resolve_left (fun h => h10 h.1)
    have hlt : a + k < bs.length := by have := Hll.out; omega
    have hrun : runN 9 l = k := runN_eq HC.out.1 h9 (by omega) (fun _ _ => hc)
    obtain ⟨b1, o1, rfl, _, hc1⟩ := HS.out.at_ (s := 1) (fun _ => rfl) rfl hlt
    have c1 := hc1 0 (by omega)
    have Hx := Lib.hid (HB.out _ (List.getElem_mem hlt))
    have hlk : l.getD k 0 = bs[a + k] := by rw [Hget.out k hkl, List.getD_eq_getElem?_getD, List.getElem?_eq_getElem hlt]; rfl
    simp [encB] at c1
    have Hle := Lib.hid (show (bad (bs[a + k]) k → lebE l = (0, 0, 5)) ∧ (¬ bad (bs[a + k]) k → lebE l = (accF l (k + 1), k + 1, 0)) from by
      unfold lebE
      rw [hrun, if_neg (by omega), hlk]
      exact ⟨fun h => if_pos h, fun h => if_neg h⟩)
    have HN := Lib.hid (show (k ≤ 8 ∨ (k = 9 ∧ bs[a + k] ≤ 1)) → N = ((accF l (k + 1) : Nat) : Int) from fun h => hN (by
      rcases h with h | ⟨h, h2⟩
      · exact .inl h
      · subst h; rw [← hlk] at h2; exact .inr ⟨rfl, h2⟩))
    generalize bs[a + k] = x at c1 Hx Hle HN
    have hlt' : (a : Int) + k < bs.length := by omega
    have hnn : (0 : Int) ≤ (a : Int) + k := by omega
    have htn : ((a : Int) + k).toNat = a + k := by omega
    have hk10 : ((k : Int) == 10) = false := by rw [beq_eq_false_iff_ne]; omega
    have hx0 : (0 : Int) ≤ x := by have := Hx.out; omega
    have H9 := Lib.hid h9
    clear h9 hkl hc hN hlt hrun hc1 hlk h10 HC
    by_cases hbad : bad x k
    · have hle := Hle.out.1 hbad
      have hres : r1 = 0 ∧ r2 = 0 ∧ r3 = 5 := by
        have := Hr.out
        rw [hle] at this
        rcases this with h | h
        · exact ⟨h.2.1, h.2.2.1, h.2.2.2⟩
        · exact absurd h.1 (by decide)
      obtain ⟨rfl, rfl, rfl⟩ := hres
      clear hle
      by_cases hb1 : k = 9 ∧ 1 < x
      · obtain ⟨rfl, hx1⟩ := hb1
        have hgt : x > 1 := hx1
        go_wp2_with fail
        try rw [Exit.noGoto_ret]
        go_ret3
        exact ⟨rfl, rfl⟩
      · obtain ⟨hk0, rfl⟩ : 0 < k ∧ x = 0 := by
          unfold bad at hbad
          rcases hbad with h | h
          · exact absurd h hb1
          · exact h
        have hkp : (k : Int) > 0 := by omega
        have hkd : decide (0 < k) = true := decide_eq_true hk0
        clear hb1 hbad
        by_cases hk9 : k = 9
        · subst hk9
          go_wp2_with fail
          go_ret3
          exact ⟨rfl, rfl⟩
        · have hk9' : ((k : Int) == 9) = false := by rw [beq_eq_false_iff_ne]; omega
          clear hk9 hk0
          go_wp2_with fail
          go_ret3
          exact ⟨rfl, rfl⟩
    · have hle := Hle.out.2 hbad
      have hres : r1 = ((accF l (k + 1) : Nat) : Int) ∧ r2 = (a : Int) + ((k + 1 : Nat) : Int) ∧ r3 = 0 := by
        have := Hr.out
        rw [hle] at this
        rcases this with h | h
        · exact absurd rfl h.1
        · exact h.2
      obtain ⟨rfl, rfl, rfl⟩ := hres
      have hNk : N = ((accF l (k + 1) : Nat) : Int) := HN.out (by
        unfold bad at hbad
        have := H9.out
        rcases Nat.lt_or_ge k 9 with h | h
        · exact .inl (by omega)
        · exact .inr ⟨by omega, by omega⟩)
      have Hb := Lib.hid hbad
      have HNk := Lib.hid hNk
      clear hle hbad hNk
      have he2 : (a : Int) + ((k + 1 : Nat) : Int) = (a : Int) + (k : Int) + 1 := by omega
      have He2 := Lib.hid he2
      clear he2
      by_cases hk9 : k = 9
      · subst hk9
        have hx1 : ¬ x > 1 := fun h => Hb.out (.inl ⟨rfl, h⟩)
        have hx2 : (x == 0) = false := by rw [beq_eq_false_iff_ne]; exact fun h => Hb.out (.inr ⟨by omega, h⟩)
        go_wp2_with fail
        try rw [Exit.noGoto_ret]
        go_ret3
        refine ⟨?_, rfl⟩
        rw [← HNk.out, He2.out]
        rfl
      · have hk9' : ((k : Int) == 9) = false := by rw [beq_eq_false_iff_ne]; omega
        by_cases hk0 : k = 0
        · have hkd : decide (0 < k) = false := decide_eq_false (by omega)
          have hkg : ¬ (k : Int) > 0 := by omega
          clear hk9 hk0
          go_wp2_with fail
          try rw [Exit.noGoto_ret]
          go_ret3
          refine ⟨?_, rfl⟩
          rw [← HNk.out, He2.out]
          rfl
        · have hkd : decide (0 < k) = true := decide_eq_true (by omega)
          have hkg : (k : Int) > 0 := by omega
          have hx2 : (x == 0) = false := by rw [beq_eq_false_iff_ne]; exact fun h => Hb.out (.inr ⟨by omega, h⟩)
          clear hk9 hk0
          go_wp2_with fail
          try rw [Exit.noGoto_ret]
          go_ret3
          refine ⟨?_, rfl⟩
          rw [← HNk.out, He2.out]
          rfl
end Leb
end Go.Proofs.Ytlodbhlidgepfaa

namespace Go.Proofs.Ytlodbhlidgepfaa
open Go.RowKit
open Voc
namespace Leb
theorem acc_top {l : List Int} {k : Nat} (hk : k = runN 9 l) (hnb : ¬ bad (l.getD k 0) k) (hr : runN 9 l < l.length) (hb : ∀ c ∈ l, 0 ≤ c) : accF l (k + 1) < 2 ^ 64 := by
  have h9 := (runN_le 9 l).1
  rcases Nat.lt_or_ge k 9 with h | h
  · have := accF_lt l (k + 1)
    have h2 : 128 ^ (k + 1) ≤ 128 ^ 9 := Nat.pow_le_pow_right (by omega) (by omega)
    have h3 : (128 : Nat) ^ 9 = 2 ^ 63 := by decide
    have h4 : (2 : Nat) ^ 63 < 2 ^ 64 := by decide
    exact Nat.lt_trans (Nat.lt_of_lt_of_le this (Nat.le_trans h2 (Nat.le_of_eq h3))) h4
  · have : k = 9 := by omega
    subst this
    have h1 := accF_lt l 9
    have h3 : (128 : Nat) ^ 9 = 2 ^ 63 := by decide
    unfold bad at hnb
    have hc1 : l.getD 9 0 ≤ 1 := by omega
    simp only [accF] at h1 ⊢
    have h4 : (l.getD 9 0).toNat % 128 * 128 ^ 9 ≤ 1 * 128 ^ 9 := Nat.mul_le_mul_right _ (by omega)
    have h5 : 1 * 128 ^ 9 + 128 ^ 9 = (2 : Nat) ^ 64 := by decide
    have h6 := Nat.add_lt_add_of_le_of_lt h4 h1
    rw [h5] at h6
    rw [Nat.add_comm]
    exact h6
/-- a digit more, from the top -/
theorem horner {l : List Int} {v j T : Nat} (h : v * 128 ^ (j + 1) + accF l (j + 1) = T) : (128 * v + (l.getD j 0).toNat % 128) * 128 ^ j + accF l j = T := by
  simp only [accF] at h
  have e : v * 128 ^ (j + 1) = 128 * v * 128 ^ j := by rw [Nat.pow_succ, Nat.mul_comm 128 v, Nat.mul_assoc, Nat.mul_comm 128]
  rw [e] at h
  rw [Nat.add_mul]
  omega
theorem horner_le {v j T x : Nat} (h : v * 128 ^ j + x = T) : v ≤ T := by
  have : 0 < 128 ^ j := Nat.pow_pos (by omega)
  have : v * 1 ≤ v * 128 ^ j := Nat.mul_le_mul_left v this
  omega
def Fits (v : Nat) : Prop := v < 18446744073709551616
theorem wrapF {v : Nat} (h : Fits v) : IntKind.u64.wrap (v : Int) = (v : Int) := by unfold Fits at h; show (v : Int) % 18446744073709551616 = _; omega
end Leb
end Go.Proofs.Ytlodbhlidgepfaa
