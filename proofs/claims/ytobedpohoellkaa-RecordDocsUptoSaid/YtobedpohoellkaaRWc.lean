/- record: Put. -/
import Derived.Test.YtobedpohoellkaaRWb
set_option linter.unusedVariables false
set_option linter.unusedSimpArgs false
namespace Go.Proofs.Ytobedpohoellkaa
open Go.RowKit
open Voc Leb Bpe
namespace Rec
abbrev TRc : TypeId := 27
def rcA (r : Rc) (tv : Value) : Array Value := (r.d.map (Value.int .u8) ++ [.int .u64 r.v, .int .i64 r.n, tv]).toArray
theorem rcA_size {r : Rc} (tv : Value) (hd : r.d.length = 32) : (rcA r tv).size = 35 := by simp [rcA, hd]
theorem rcA_v {r : Rc} (tv : Value) (hd : r.d.length = 32) : (rcA r tv)[32]? = some (.int .u64 r.v) := by
  unfold rcA; rw [List.getElem?_toArray, List.getElem?_append_right (by simp [hd])]; simp [hd]
theorem rcA_n {r : Rc} (tv : Value) (hd : r.d.length = 32) : (rcA r tv)[33]? = some (.int .i64 r.n) := by
  unfold rcA; rw [List.getElem?_toArray, List.getElem?_append_right (by simp [hd])]; simp [hd]
theorem rcA_t {r : Rc} (tv : Value) (hd : r.d.length = 32) : (rcA r tv)[34]? = some tv := by
  unfold rcA; rw [List.getElem?_toArray, List.getElem?_append_right (by simp [hd])]; simp [hd]
theorem rcA_d {r : Rc} (tv : Value) {i : Nat} (hi : i < r.d.length) : (rcA r tv)[i]? = (r.d[i]?).map (Value.int .u8) := by
  unfold rcA; rw [List.getElem?_toArray, List.getElem?_append_left (by simpa using hi), List.getElem?_map]
theorem rcA_one {r : Rc} {tv : Value} (h : tv.oneCell' = true) : (rcA r tv).all (·.oneCell') = true := by
  simp [rcA, Value.oneCell']
  exact h
theorem flat_u8 (l : List Int) : l.flatMap encB = l.map (Value.int .u8) := by induction l with
  | nil => rfl
  | cons x r ih => rw [List.flatMap_cons, ih]; rfl
theorem rcA_sl {w : World} {p : Nat} {r : Rc} {tv : Value} (h : Blk w p TRc (rcA r tv)) (hd : r.d.length = 32) : SL encB w (.slice (some ⟨p, 0, none⟩) 32 32) r.d := by
  refine ⟨_, 32, by rw [hd], by omega, fun _ => ⟨p, 0, rfl, h.lt, fun i u hu => ?_⟩⟩
  have hi := (List.getElem?_eq_some_iff.1 hu).1
  rw [flat_u8, List.length_map] at hi
  rw [Nat.zero_add, h.cell, rcA_d tv hi, ← List.getElem?_map, ← flat_u8]
  exact hu
theorem wpList_ob {ops : Array Oper} {rest : List Oper} {o : Oper} {a : Act} {Q : Exit → Act → World → Prop} (hgd : o.guard = none) (s x : Operand) (t : TypeId) (ht : Try.prog.underlying t = some (.slice 5))
    (ho : o.op = .call { callee := .builtin .append, args := #[s, x], argTypes := #[t, t] })
    {wB w : World} (v sv : Value) (ps xs : List Int) (hsv : a.eval s = v) (hO : OB w wB.heap.size v ps) (hG : Gr wB w) (hxv : a.eval x = sv) (hs : SL encB w sv xs) (hb : ps.length + xs.length ≤ 1048576)
    (K : ∀ v' w', Gr wB w' → OB w' wB.heap.size v' (ps ++ xs) → Fr w w' (fun k => v.ownBlock = some k) → wpList Try.prog ops Q rest (a.put o.dst v') w') : wpList Try.prog ops Q (o :: rest) a w := by
  obtain ⟨i0, hi0, hz0, hz1, hz2⟩ := info_parts info_u8
  refine wpList_append_st w encB hgd s x t ho wB.heap.size 5 i0 (.int .u8 0) 1 1 ht hi0 hz0 hz1 hz2 rfl (by decide) v ps.length _ hsv hO.own sv xs hxv hs (fun _ => rfl) encB_1' (by unfold maxLen; omega) (by omega) hG.size ?_
  intro v' w' h1 h2 h3 h4
  refine K v' w' (gr_keep' hG hO.own h2) ⟨?_, h4 IsB (fun u hu => by simp [Value.cells] at hu; subst hu; exact ⟨0, rfl⟩) (fun u hu => encB_isB _ u hu) hO.spare⟩ h2
  rw [List.length_append, List.flatMap_append]
  exact h1
theorem ob_empty (w : World) : OB (w.alloc (.cells #[] 5)) w.heap.size (.slice (some ⟨w.heap.size, 0, none⟩) 0 0) [] :=
  ⟨⟨rfl, Or.inr ⟨w.heap.size, 0, #[], rfl, Nat.le_refl _, Blk.new w 5 _, Nat.le_refl _, by unfold maxLen; decide, rfl, rfl⟩⟩, fun g cs t fr hg hc u hu => by
    have : w.heap.size = g := by simpa [Value.ownBlock] using hg
    subst this
    rw [heap_alloc_new] at hc
    injection hc with hc
    injection hc with hc
    subst hc
    simp at hu⟩
set_option maxRecDepth 20000 in
theorem clone_any {w : World} {b off n c : Nat} {xs : List Int} (hs : SL encB w (.slice (some ⟨b, off, none⟩) n c) xs) (hl : xs.length ≤ 1048576) :
    Calls Try.prog 31 #[.slice (some ⟨b, off, none⟩) n c] w fun e w' => ∃ r, e = .returned r ∧ OB w' w.heap.size r xs ∧ Gr w w' := by
  have HS := Lib.hid hs
  have Hl := Lib.hid hl
  have hq := eql_nil
  clear hs hl
  go_enter Try.func31, Try.ntmps31
  go_wp2_with (
    at_builtin
    refine wpList_ob rfl _ _ 28 Try.underlying28 rfl (wB := w) (.slice (some ⟨w.heap.size, 0, none⟩) 0 0) (.slice (some ⟨b, off, none⟩) n c) [] xs rfl (ob_empty w) ((Fr.refl w NoneS).alloc _) rfl (HS.out.gr ((Fr.refl w NoneS).alloc _)) (by have := Hl.out; simp; omega) ?_
    intro v2 w2 hg ho hf
    have HG := Lib.hid hg
    have HO := Lib.hid ho
    clear hg ho hf)
  go_ret
  exact ⟨v2, rfl, by simpa using HO.out, HG.out⟩
theorem le8_next (v : Int) {k : Nat} (hk : k < 8) : (le8 v).take (k + 1) = (le8 v).take k ++ [v / 2 ^ (8 * k) % 256] := by
  match k, hk with
  | 0, _ | 1, _ | 2, _ | 3, _ | 4, _ | 5, _ | 6, _ | 7, _ => simp [le8]
set_option maxRecDepth 20000 in
set_option maxHeartbeats 4000000 in
theorem recPut_any {w : World} {tv : Value} {r : Rc} (hd : r.d.length = 32) (hv : 0 ≤ r.v ∧ r.v < 18446744073709551616) (hs : SL encI w tv r.t) (hl : r.t.length ≤ 1048576) :
    Calls Try.prog 11 #[.agg (rcA r tv)] w fun e w' => ∃ bv, e = .returned (.tuple #[bv, .int .i64 (putR r).2]) ∧ OB w' w.heap.size bv (putR r).1 ∧ Gr w w' := by
  obtain ⟨A, cap, rfl⟩ := SL.form hs
  have HG := Lib.hid ((Fr.refl w NoneS).alloc (.cells (rcA r (.slice A r.t.length cap)) TRc))
  have HB := Lib.hid (Blk.new w TRc (rcA r (.slice A r.t.length cap)))
  have HS := Lib.hid (hs.gr HG.out)
  have Hd := Lib.hid hd
  have Hv := Lib.hid hv
  have Hl := Lib.hid hl
  obtain ⟨PR, hPR⟩ : ∃ P, putR r = P := ⟨_, rfl⟩
  rw [hPR]
  have HPR := Lib.hid hPR
  clear hs hd hv hl hPR
  obtain ⟨p, hp⟩ : ∃ p, w.heap.size = p := ⟨_, rfl⟩
  have Hp := Lib.hid hp
  go_enter Try.func11, Try.ntmps11
  go_upto_region 1 with (fail)
  clear hp
  generalize hx : World.alloc w _ = wa at HG HB HS ⊢
  clear hx
  rw [Hp.out] at HB
  have Hbs := Lib.hid (show w.heap.size ≤ p by have := Hp.out; omega)
  have f33 : wa.cell? ⟨p, 33, none⟩ = some (.int .i64 r.n) := by rw [HB.out.cell]; exact rcA_n _ Hd.out
  by_cases hn : r.n < 0 ∨ 4096 < r.n
  case pos =>
    have Hq := Lib.hid (show PR = ([], 2) by rw [← HPR.out]; unfold putR; rw [if_pos hn])
    by_cases h1 : r.n < 0
    · have h1' : decide (r.n < 0) = true := decide_eq_true h1
      clear hn h1
      go_wp2_with fail
      go_ret2
      rw [Hq.out]
      exact ⟨_, rfl, OB.nil _ _, HG.out⟩
    · have h1' : decide (r.n < 0) = false := decide_eq_false h1
      have h2' : decide (4096 < r.n) = true := decide_eq_true (hn.resolve_left h1)
      clear hn h1
      go_wp2_with fail
      go_ret2
      rw [Hq.out]
      exact ⟨_, rfl, OB.nil _ _, HG.out⟩
  have h1' : decide (r.n < 0) = false := decide_eq_false (by omega)
  have h2' : decide (4096 < r.n) = false := decide_eq_false (by omega)
  have HnN := Lib.hid (show 0 ≤ r.n ∧ r.n ≤ 4096 by omega)
  have f34 : wa.cell? ⟨p, 34, none⟩ = some (.slice A r.t.length cap) := by rw [HB.out.cell]; exact rcA_t _ Hd.out
  have HPk := Lib.hid (packPut_any HS.out Hl.out)
  obtain ⟨⟨P1, P2⟩, hP⟩ : ∃ y, packE r.t = y := ⟨_, rfl⟩
  rw [hP] at HPk
  simp only at HPk
  have Hq := Lib.hid (show PR = if P2 ≠ 0 then ([], P2) else (r.d ++ (le8 r.v ++ (putL r.n.toNat ++ P1)), 0) by rw [← HPR.out]; unfold putR; rw [if_neg hn, hP])
  have HPok := Lib.hid (show P2 = 0 → P1.length ≤ 700000 from fun h => by
    rw [h] at hP
    obtain ⟨h1, _, h2⟩ := packE_ok hP
    rw [h2, List.length_append]
    have := putL_len r.t.length
    have := deltas_len r.t 0
    omega)
  clear hn hP HPR
  go_upto_region 4 with (go_at_call 30; refine HPk.out.mono ?_; rintro e w2 ⟨pv, rfl, hs2, hk2, hg2⟩; have HT2 := Lib.hid hs2; have HF2 := Lib.hid hg2; have HG2 := Lib.hid (HG.out.trans hg2 (fun _ _ h => h)); have HB2 := Lib.hid (HB.out.fr hg2 (fun h => h)); clear hs2 hk2 hg2)
  by_cases hP2 : P2 = 0
  case neg =>
    have hE1 : (P2 != 0) = true := bne_iff_ne.2 hP2
    rw [if_pos hP2] at Hq
    clear hP2 f33 f34
    go_wp2_with fail
    go_ret2
    rw [Hq.out]
    exact ⟨_, rfl, OB.nil _ _, HG2.out⟩
  subst hP2
  rw [if_neg (by decide)] at Hq
  have HPl := Lib.hid (HPok.out rfl)
  have HCl := Lib.hid (clone_any (rcA_sl HB2.out Hd.out) (by rw [Hd.out]; decide))
  clear f33 f34 HPok
  go_upto_region 7 with (go_at_call 31; refine HCl.out.mono ?_; rintro e w3 ⟨rv, rfl, ho3, hg3⟩; have HO3 := Lib.hid ho3; have HK3 := Lib.hid hg3; have HG3 := Lib.hid (HG2.out.trans hg3 (fun _ _ h => h)); have HB3 := Lib.hid (HB2.out.fr hg3 (fun h => h)); have HT3 := Lib.hid (HT2.out.gr hg3); clear ho3 hg3)
  go_wp2_with fail
  go_loopg [6, 28] 9 (fun m s6 s28 wr => ∃ (k : Nat) (va : Value), va = s6 ∧ s28 = .int .i64 k ∧ Hid (k ≤ 8 ∧ 8 - k < m) ∧ Hid (OB wr w2.heap.size va (r.d ++ (le8 r.v).take k)) ∧ Hid (Gr w2 wr))
  case atStart => exact ⟨0, rv, rfl, rfl, ⟨by omega, by omega⟩, Lib.hid (by simpa using HO3.out), HK3.out⟩
  case round =>
    obtain ⟨k, va, rfl, rfl, HK, HO, HD⟩ := hrel
    by_cases hk : k < 8
    · have hki : (k : Int) < 8 := by omega
      have hk0 : (0 : Int) ≤ (k : Int) := by omega
      have f32 : wr.cell? ⟨p, 32, none⟩ = some (.int .u64 r.v) := by rw [(HB2.out.fr HD.out (fun h => h)).cell]; exact rcA_v _ Hd.out
      have Hk := Lib.hid hk
      clear hk
      have Hnx := Lib.hid (le8_next r.v Hk.out)
      have Hln := Lib.hid (show (r.d ++ (le8 r.v).take k).length ≤ 40 by rw [List.length_append, Hd.out, List.length_take, le8_len]; omega)
      go_wp2_with (
        at_builtin
        refine wpList_ob rfl _ _ 28 Try.underlying28 rfl (wB := w2) va (.slice (some ⟨wr.heap.size, 0, none⟩) 1 1) (r.d ++ (le8 r.v).take k) [r.v / 2 ^ (8 * k) % 256] rfl (HO.out.gr ((Fr.refl wr NoneS).alloc _)) (HD.out.alloc _) rfl (sl_one (enc := encB) wr (r.v / 2 ^ (8 * k) % 256) #[.int .u8 (r.v / 2 ^ (8 * k) % 256)] rfl 5) (by have := Hln.out; simp only [List.length_singleton]; omega) ?_
        intro v5 w5 hg5 ho5 hf5
        have HD5 := Lib.hid hg5
        have HO5 := Lib.hid ho5
        clear hg5 ho5 hf5)
      go_roundg (gk - 1)
      case measure => have := HK.out; have := Hk.out; omega
      case rel => exact ⟨k + 1, v5, rfl, by go_num, ⟨Hk.out, by have := HK.out; have := Hk.out; omega⟩, Lib.hid (by rw [Hnx.out, ← List.append_assoc]; exact HO5.out), HD5.out⟩
    · obtain rfl : k = 8 := by have := HK.out; omega
      have HO8 := Lib.hid (show OB wr w2.heap.size va (r.d ++ le8 r.v) from by have h := HO.out; rw [List.take_of_length_le (by rw [le8_len]; decide)] at h; exact h)
      have Hln := Lib.hid (show (r.d ++ le8 r.v).length = 40 by rw [List.length_append, Hd.out, le8_len])
      have f33 : wr.cell? ⟨p, 33, none⟩ = some (.int .i64 r.n) := by rw [(HB2.out.fr HD.out (fun h => h)).cell]; exact rcA_n _ Hd.out
      have HnN2 := HnN.out
      obtain ⟨nn, hnn⟩ : ∃ nn : Nat, r.n = (nn : Int) := ⟨r.n.toNat, by omega⟩
      rw [hnn] at f33
      have Hnn := Lib.hid (show r.n.toNat = nn by omega)
      have hnb : (nn : Int) ≤ 4096 := by omega
      have HPl2 := Lib.hid (fun wx => Put_any nn (by have : (2 : Nat) ^ 64 = 18446744073709551616 := by decide
                                                     omega) wx)
      have HT8 := Lib.hid (HT2.out.gr HD.out)
      clear HnN2 hnn h1' h2'
      go_upto_region 13 with (first
        | (go_at_call 32; refine (HPl2.out _).mono ?_; rintro e w6 ⟨nv, rfl, hs6, hk6, hg6⟩; have HN6 := Lib.hid hs6; have HD6 := Lib.hid (HD.out.trans hg6 (fun _ _ h => h)); have HO6 := Lib.hid (HO8.out.gr hg6); clear hs6 hk6 hg6)
        | (at_builtin
           refine wpList_ob rfl _ _ 28 Try.underlying28 rfl (wB := w2) va nv (r.d ++ le8 r.v) (putL nn) rfl HO6.out HD6.out rfl HN6.out (by have := Hln.out; have := putL_len nn; omega) ?_
           intro v7 w7 hg7 ho7 hf7
           have HD7 := Lib.hid hg7
           have HO7 := Lib.hid ho7
           clear hg7 ho7 hf7))
      have HT7 := Lib.hid (HT2.out.gr HD7.out)
      go_wp2_with (
        at_builtin
        refine wpList_ob rfl _ _ 28 Try.underlying28 rfl (wB := w2) v7 pv (r.d ++ le8 r.v ++ putL nn) P1 rfl HO7.out HD7.out rfl HT7.out (by have := Hln.out; have := putL_len nn; have := HPl.out; rw [List.length_append]; omega) ?_
        intro v8 w8 hg8 ho8 hf8
        have HD8 := Lib.hid hg8
        have HO9 := Lib.hid ho8
        clear hg8 ho8 hf8)
      go_ret2
      rw [Hq.out, Hnn.out]
      refine ⟨v8, rfl, ?_, HG2.out.trans HD8.out (fun _ _ h => h)⟩
      have h := HO9.out.base HG2.out.size
      rw [List.append_assoc, List.append_assoc] at h
      exact h
end Rec
end Go.Proofs.Ytobedpohoellkaa
