/- leb: Put. -/
import Derived.Test.YtmjpghaggnpdbaaVPe
import Derived.Test.YtmjpghaggnpdbaaLib
import Derived.Test.YtmjpghaggnpdbaaGPl
set_option linter.unusedVariables false
set_option linter.unusedSimpArgs false
namespace Go.Proofs.Ytmjpghaggnpdbaa
open Go.RowKit
open Voc
/-- 'x[:k:m]' -/
theorem run_slice_to3 {P : Program} (t e : TypeId) (i : TypeInfo) (ht : P.underlying t = some (.slice e)) (hi : P.info? e = some i) (A : Option Addr) (n cap k m : Nat) (hk : k ≤ m) (hm : m ≤ cap) (w : World) :
    (Instr.slice t (.slice A n cap) none (some (.int .i64 (k : Int))) (some (.int .i64 (m : Int)))).run P w = .ok (.slice A k m) w := by
  have h1 : (0 : Int) ≤ k ∧ (k : Int) ≤ m := by omega
  have h2 : (0 : Int) ≤ m ∧ (m : Int) ≤ cap := by omega
  simp [Instr.slice, Instr.sliceBounds, run_underlying ht, sizeOf, typeInfo, hi, go_sem, h1, h2]
  first
    | (intro h; omega)
    | (cases A <;> simp [Addr.add])
namespace Leb
def encW (n : Nat) : List Value := [.int .u64 (n : Int)]
theorem or128 (m : Nat) : bits .or .u8 ((m : Int) % 256) 128 = ((m % 128 + 128 : Nat) : Int) := by
  have := or8 (show m % 256 < 2 ^ 8 by omega) (show 128 < 2 ^ 8 by decide)
  rw [or_128 (by omega)] at this
  rw [show (m : Int) % 256 = ((m % 256 : Nat) : Int) by omega]
  refine this.trans ?_
  omega
theorem SL.cut {α : Type} {enc : α → List Value} {w : World} {A : Option Addr} {xs : List α} {cap : Nat} (h : SL enc w (.slice A xs.length cap) xs) : SL enc w (.slice A xs.length xs.length) xs := by
  obtain ⟨A', c', he, hc, hr⟩ := h
  injection he with h1 h2 h3
  subst h1 h3
  exact ⟨A, xs.length, rfl, Nat.le_refl _, hr⟩
set_option maxRecDepth 20000 in
set_option maxHeartbeats 4000000 in
theorem put_any {w : World} {v : Value} {ls : List Nat} (hs : SL encW w v ls) (hb : ∀ n ∈ ls, n < 2 ^ 64) (hl : ls.length ≤ 65536) :
    Calls Try.prog 49 #[v] w fun e w' => ∃ tv, e = .returned tv ∧ SL encB w' tv (ls.flatMap putL) ∧ (∀ k, tv.ownBlock = some k → w.heap.size ≤ k) ∧ Gr w w' := by
  have HS := Lib.hid hs
  obtain ⟨A, cap, rfl⟩ := SL.form hs
  have HB := Lib.hid hb
  have Hl := Lib.hid hl
  have hl' : (ls.length : Int) ≤ 65536 := by omega
  obtain ⟨i0, hi0, hz0, hz1, hz2⟩ := info_parts info_u8
  have Hsl := Lib.hid (fun (A' : Option Addr) (n c : Nat) (h : n ≤ c) (w' : World) => run_slice_to3 (P := Try.prog) 22 5 i0 Try.underlying22 hi0 A' n c n n (Nat.le_refl _) h w')
  have Hfl := Lib.hid (show ∀ k, (ls.take k).flatMap putL = (ls.take k).flatMap putL ∧ ((ls.take k).flatMap putL).length ≤ 10 * k from fun k => ⟨rfl, by
    rw [List.length_flatMap]
    have : ∀ l : List Nat, (l.map fun a => (putL a).length).sum ≤ 10 * l.length := by
      intro l
      induction l with
      | nil => simp
      | cons a l ih => rw [List.map_cons, List.sum_cons, List.length_cons]; have := putL_len a; omega
    have h1 := this (ls.take k)
    have h2 := List.length_take_le k ls
    omega⟩)
  clear hs hb hl
  go_enter Try.func49, Try.ntmps49
  go_upto_block 0 with (fail)
  go_cut [3] (fun s3 wx => ∃ va, va = s3 ∧ Hid (Gr w wx ∧ wx.ownsRow w.heap.size 5 1 va (ls.flatMap putL).length ((ls.flatMap putL).flatMap encB)))
  case first =>
    go_wp2_with fail
    go_loopg [3, 8] (ls.length + 1) (fun m s3 s8 wr => ∃ (k : Nat) (va : Value), va = s3 ∧ s8 = .int .i64 k ∧ Hid (k ≤ ls.length ∧ ls.length - k < m) ∧ Hid (Gr w wr ∧ wr.ownsRow w.heap.size 5 1 va ((ls.take k).flatMap putL).length (((ls.take k).flatMap putL).flatMap encB)))
    case atStart => exact ⟨0, _, rfl, rfl, ⟨Nat.zero_le _, by omega⟩, Fr.refl _ _, World.ownsRow_nil _ _ _ _⟩
    case round =>
      obtain ⟨k, va, rfl, rfl, HK, HP⟩ := hrel
      by_cases hk : k < ls.length
      · obtain ⟨b1, o1, rfl, hb1, hc1⟩ := (HS.out.gr HP.out.1).at_ (s := 1) (fun _ => rfl) rfl hk
        have c1 := hc1 0 (by omega)
        clear hc1
        simp [encW] at c1
        have Hx := Lib.hid (HB.out _ (List.getElem_mem hk))
        have Hst := Lib.hid (List.take_succ_eq_append_getElem hk)
        generalize ls[k] = n at c1 Hx Hst
        have hki : (k : Int) < ls.length := by omega
        have Hk := Lib.hid hk
        clear hk hb1
        obtain ⟨pre, hpre⟩ : ∃ p, (ls.take k).flatMap putL = p := ⟨_, rfl⟩
        have Hpl := Lib.hid (show pre.length ≤ 655360 by rw [← hpre]; have := (Hfl.out k).2; have := Hk.out; have := Hl.out; omega)
        rw [hpre] at HP
        have Hpre := Lib.hid hpre
        clear hpre
        go_upto_block 2 with (fail)
        go_cut [3, 5] (fun s3 s5 wx => ∃ (va : Value) (part : List Int) (m f : Nat), va = s3 ∧ s5 = .int .u64 m ∧ Hid (Gr w wx ∧ wx.ownsRow w.heap.size 5 1 va (pre ++ part).length ((pre ++ part).flatMap encB) ∧ putL n = part ++ [(m : Int)] ∧ m < 128))
        case first =>
          go_wp2_with fail
          obtain ⟨wo, rfl⟩ : ∃ wo : World, wo = wr := ⟨_, rfl⟩
          go_loopg [3, 5] 11 (fun g s3 s5 wx => ∃ (va : Value) (part : List Int) (m f : Nat), va = s3 ∧ s5 = .int .u64 m ∧ Hid (f + 1 ≤ g ∧ part.length + f + 1 = 10) ∧ Hid (Gr w wx ∧ wx.ownsRow w.heap.size 5 1 va (pre ++ part).length ((pre ++ part).flatMap encB) ∧ putL n = part ++ putN (f + 1) m ∧ m < 128 ^ (f + 1)))
          case atStart =>
            refine ⟨_, [], n, 9, rfl, rfl, ⟨by omega, rfl⟩, HP.out.1, by rw [List.append_nil]; exact HP.out.2, rfl, ?_⟩
            have : (2 : Nat) ^ 64 < 128 ^ (9 + 1) := by decide
            have := Hx.out
            omega
          case round =>
            obtain ⟨va2, part, m, f, rfl, rfl, HF, HQ⟩ := hrel
            by_cases hm : m < 128
            · have hm1 : decide ((m : Int) ≥ 128) = false := decide_eq_false (by omega)
              have hm2 : ¬ (m : Int) ≥ 128 := by omega
              have Hm := Lib.hid hm
              clear hm
              go_wp2_with fail
              go_meet
              exact ⟨_, part, m, 0, rfl, rfl, HQ.out.1, HQ.out.2.1, by rw [HQ.out.2.2.1, putN, if_pos Hm.out], Hm.out⟩
            · have hm1 : (m : Int) ≥ 128 := by omega
              have Hm := Lib.hid hm
              clear hm
              obtain ⟨f, rfl⟩ : ∃ f', f = f' + 1 := by
                cases f with
                | zero => exact absurd HQ.out.2.2.2 (by have := Hm.out; simp; omega)
                | succ f => exact ⟨f, rfl⟩
              have Hor := Lib.hid (or128 m)
              have hpp := Lib.hid (show (pre ++ part).length ≤ 655370 by rw [List.length_append]; have := Hpl.out; have := HF.out; omega)
              go_wp2_with (
                at_builtin
                refine wpList_append_sl _ encB rfl _ _ 22 rfl w.heap.size 5 i0 (.int .u8 0) 1 1 Try.underlying22 hi0 hz0 hz1 hz2 rfl (by decide) va2 _ _ rfl (HQ.out.2.1.alloc _) (.slice (some ⟨wr.heap.size, 0, none⟩) 1 1) [bits .or .u8 ((m : Int) % 256) 128] rfl (sl_one (enc := encB) wr _ _ rfl 5) (fun _ => rfl) encB_one (by have := hpp.out; simp only [maxLen, List.length_singleton]; omega) (by have := hpp.out; simp only [List.length_singleton]; omega) (by have := HQ.out.1.size; simp; omega) ?_
                intro v4 w4 ho hf hat
                have HO4 := Lib.hid ho
                have HG4 := Lib.hid (show Gr w w4 from (HQ.out.1.alloc _).trans hf (fun i hi h => by have := (HQ.out.2.1.lt i h).1; omega))
                clear ho hf hat)
              go_roundg (gk - 1)
              case measure => have := HF.out; omega
              case rel =>
                refine ⟨_, part ++ [((m % 128 + 128 : Nat) : Int)], m / 128, f, rfl, by go_num, ⟨by have := HF.out; omega, by rw [List.length_append, List.length_singleton]; have := HF.out; omega⟩, HG4.out, ?_, ?_, ?_⟩
                · rw [← List.append_assoc, List.length_append, List.flatMap_append, ← Hor.out]
                  exact HO4.out
                · rw [HQ.out.2.2.1, List.append_assoc]
                  congr 1
                  rw [putN, if_neg Hm.out]
                  rfl
                · rw [Nat.div_lt_iff_lt_mul (by omega)]
                  have := HQ.out.2.2.2
                  rw [Nat.pow_succ] at this
                  exact this
        case rest =>
        obtain ⟨va2, part, m, _, rfl, rfl, HQ⟩ := hcut
        have hpp := Lib.hid (show (pre ++ part).length ≤ 655370 by
          rw [List.length_append]
          have := Hpl.out
          have h1 := putL_len n
          rw [HQ.out.2.2.1, List.length_append] at h1
          omega)
        have hm1 : (m : Int) < 128 := by have := HQ.out.2.2.2; omega
        have hm2 : (m : Int) % 256 = (m : Int) := by omega
        have Hm2 := Lib.hid hm2
        clear hm2
        go_wp2_with (
          at_builtin
          refine wpList_append_sl _ encB rfl _ _ 22 rfl w.heap.size 5 i0 (.int .u8 0) 1 1 Try.underlying22 hi0 hz0 hz1 hz2 rfl (by decide) va2 _ _ rfl (HQ.out.2.1.alloc _) (.slice (some ⟨wc.heap.size, 0, none⟩) 1 1) [(m : Int)] rfl (sl_one (enc := encB) wc _ _ rfl 5) (fun _ => rfl) encB_one (by have := hpp.out; simp only [maxLen, List.length_singleton]; omega) (by have := hpp.out; simp only [List.length_singleton]; omega) (by have := HQ.out.1.size; simp; omega) ?_
          intro v4 w4 ho hf hat
          have HO4 := Lib.hid ho
          have HG4 := Lib.hid (show Gr w w4 from (HQ.out.1.alloc _).trans hf (fun i hi h => by have := (HQ.out.2.1.lt i h).1; omega))
          clear ho hf hat)
        go_roundg (gk - 1)
        case measure => have := HK.out; omega
        case rel =>
          refine ⟨k + 1, _, rfl, by go_num, ⟨by have := Hk.out; omega, by have := HK.out; omega⟩, HG4.out, ?_⟩
          have e : (ls.take (k + 1)).flatMap putL = (pre ++ part) ++ [(m : Int)] := by
            rw [Hst.out, List.flatMap_append, Hpre.out, List.flatMap_cons, List.flatMap_nil, List.append_nil, HQ.out.2.2.1, List.append_assoc]
          rw [e, List.length_append, List.flatMap_append]
          exact HO4.out
      · have hkk : decide ((k : Int) < ls.length) = false := decide_eq_false (by omega)
        obtain rfl : k = ls.length := by have := HK.out; omega
        have hfull : ls.take ls.length = ls := List.take_length
        rw [hfull] at HP
        go_wp2_with fail
        go_meet
        exact ⟨_, rfl, HP.out⟩
  case rest =>
  obtain ⟨va, rfl, HP⟩ := hcut
  obtain ⟨bs, hbs⟩ : ∃ bs, ls.flatMap putL = bs := ⟨_, rfl⟩
  rw [hbs] at HP
  have Hbs := Lib.hid hbs
  clear hbs
  obtain ⟨Av, cv, rfl⟩ := own_formN HP.out.2
  have HSv := Lib.hid (SL.of_own (enc := encB) HP.out.2 rfl)
  have hlen := HSv.out.len
  obtain ⟨A', c', h1, h2⟩ := hlen
  injection h1 with h0 h3 h4
  subst h0 h4
  have hsl := Hsl.out Av _ _ h2
  have Hlt := Lib.hid (HP.out.2.lt)
  clear h3 h2
  go_wp2_with fail
  go_ret
  refine ⟨.slice Av bs.length bs.length, rfl, by rw [Hbs.out]; exact SL.cut HSv.out, fun k hk => ?_, HP.out.1⟩
  exact (Hlt.out k (by cases Av <;> simp [Value.ownBlock] at hk ⊢; exact hk)).1
end Leb
end Go.Proofs.Ytmjpghaggnpdbaa
