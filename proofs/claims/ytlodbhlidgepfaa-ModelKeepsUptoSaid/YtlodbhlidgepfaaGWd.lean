/- vocfile: the reader. bytes as a string; a part of a slice. vocfile: the reader's piece. vocfile: the reader's end. vocfile: Get's deferred function. -/
import Derived.Test.YtlodbhlidgepfaaGMg
import Derived.Test.YtlodbhlidgepfaaBWa
import Derived.Deep.QuietTactic
import Derived.BigQuiet
import Derived.Laws.IdiomStrings
import Derived.OrdersHeld
import Derived.Defers
import Derived.Recover
import Derived.Laws.Pointers
set_option linter.unusedVariables false
set_option linter.unusedSimpArgs false
namespace Go.Proofs.Ytlodbhlidgepfaa
open Go.RowKit
open Voc Leb Crc
namespace Vf
def flt (E : Int) (x : Nat) : List PanicEntry := [{ v := .iface 104 (.agg #[.int .i64 E, .int .i64 (x : Int)]), recovered := false }]
/-- a reader at p, of these bytes, that stands here -/
def Rd (w : World) (p : Nat) (bv : Value) (a : Nat) : Prop := Blk w p 108 #[bv, .int .i64 (a : Int)]
/-- what a reading answers, and what it leaves -/
def RP {α : Type} (V : α → Value) (w : World) (p : Nat) (bv : Value) (r : R α) (e : Ending) (w' : World) : Prop :=
  match r with
  | .bad E x => e = .panicked (flt E x) ∧ Fr w w' (fun k => k = p)
  | .ok c a => e = .returned (V c) ∧ Fr w w' (fun k => k = p) ∧ Rd w' p bv a
theorem Rd.fr {w w' : World} {p : Nat} {bv : Value} {a : Nat} {S : Nat → Prop} (h : Rd w p bv a) (hf : Fr w w' S) (hn : ¬ S p) : Rd w' p bv a := Blk.fr h hf hn
theorem Rd.to {w : World} {p : Nat} {bv : Value} {a b : Nat} (h : Rd w p bv a) : Rd (w.setCell ⟨p, 1, none⟩ (.int .i64 (b : Int))) p bv b := Blk.set_ h 1 _
theorem rd_ne {w : World} {p b o : Nat} {A : Option Addr} {n m a : Nat} {c : Int} (h : Rd w p (.slice A n m) a) (hc : w.cell? ⟨b, o, none⟩ = some (.int .u8 c)) : b ≠ p := by
  intro e
  subst e
  rw [Blk.cell h] at hc
  match o with
  | 0 => simp at hc
  | 1 => simp at hc
  | k + 2 => simp at hc
theorem sl_rd {w w' : World} {p : Nat} {v : Value} {bs : List Int} {a : Nat} (hs : SL encB w v bs) (h : Rd w p v a) (hf : Fr w w' (fun k => k = p)) : SL encB w' v bs := by
  obtain ⟨A, cap, rfl, hc, hr⟩ := hs
  refine ⟨A, cap, rfl, hc, fun h0 => ?_⟩
  obtain ⟨b, off, rfl, hb, hcell⟩ := hr h0
  have hne : b ≠ p := by
    obtain ⟨c, r, rfl⟩ : ∃ c r, bs = c :: r := by
      cases bs with
      | nil => simp at h0
      | cons c r => exact ⟨c, r, rfl⟩
    exact rd_ne h (hcell 0 (.int .u8 c) rfl)
  exact ⟨b, off, rfl, Nat.lt_of_lt_of_le hb hf.size, fun i u hu => (hf.cell (p := ⟨b, off + i, none⟩) hb hne).trans (hcell i u hu)⟩
set_option maxRecDepth 20000 in
set_option maxHeartbeats 4000000 in
theorem next_any {w : World} {p : Nat} {v : Value} {bs : List Int} {a : Nat} (HR : Rd w p v a) (HS : SL encB w v bs) (ha : a ≤ bs.length) (hl : bs.length ≤ 1048576) (r : R Int) (hr : byteR bs a = r) :
    Calls Try.prog 74 #[.pointer (some ⟨p, 0, none⟩)] w (RP (fun c : Int => Value.int .u8 c) w p v r) := by
  obtain ⟨A, cap, rfl⟩ := SL.form HS
  have HR1 := Lib.hid HR
  have HS1 := Lib.hid HS
  have c0 : w.cell? ⟨p, 0, none⟩ = some (.slice A bs.length cap) := by rw [Blk.cell HR]; rfl
  have c1 : w.cell? ⟨p, 1, none⟩ = some (.int .i64 (a : Int)) := by rw [Blk.cell HR]; rfl
  have z1 : w.frozen? ⟨p, 1, none⟩ = false := Blk.frozen HR 1
  have hl' : (bs.length : Int) ≤ 1048576 := by omega
  have Hr := Lib.hid hr
  clear hr HR HS
  by_cases he : a = bs.length
  · have h1 : ((a : Int) == (bs.length : Int)) = true := by simp [he]
    have Hr2 := Lib.hid (show r = .bad 4 bs.length from by rw [← Hr.out]; unfold byteR; rw [if_pos he])
    clear he
    go_enter Try.func74, Try.ntmps74
    go_upto_region 1 with (fail)
    go_quiet (fail)
    go_wp2_with fail
    refine ⟨rfl, ?_⟩
    rw [Hr2.out]
    exact ⟨rfl, (Fr.refl w _).drewN nq⟩
  · have h1 : ((a : Int) == (bs.length : Int)) = false := by simp; omega
    have hlt : a < bs.length := by omega
    have Hr2 := Lib.hid (show r = .ok (bs.getD a 0) (a + 1) from by rw [← Hr.out]; unfold byteR; rw [if_neg he])
    obtain ⟨b1, o1, rfl, hb1, hc1⟩ := HS1.out.at_ (s := 1) (fun _ => rfl) rfl hlt
    have hai : (a : Int) < bs.length := by omega
    have Hd := Lib.hid (hc1 0 (by omega))
    clear he hc1
    go_enter Try.func74, Try.ntmps74
    go_upto_region 1 with (fail)
    go_quiet (fail)
    go_upto_region 4 with (fail)
    have HF2 := Lib.hid (show Fr w ((w.drewN nq).setCell ⟨p, 1, none⟩ (.int .i64 ((a : Int) + 1))) (fun k => k = p) from ((Fr.refl w (fun k => k = p)).drewN nq).setCell (p := ⟨p, 1, none⟩) (fun _ => rfl) _)
    have HR2 := Lib.hid (show Rd ((w.drewN nq).setCell ⟨p, 1, none⟩ (.int .i64 ((a : Int) + 1))) p (.slice (some ⟨b1, o1, none⟩) bs.length cap) (a + 1) from Rd.to (b := a + 1) (HR1.out.drewN nq))
    have HS2 := Lib.hid (sl_rd HS1.out HR1.out HF2.out)
    clear c0 c1 z1
    generalize World.setCell _ _ _ = w2 at HF2 HR2 HS2 ⊢
    have e0 : w2.cell? ⟨p, 0, none⟩ = some (.slice (some ⟨b1, o1, none⟩) bs.length cap) := by rw [Blk.cell HR2.out]; rfl
    have e1 : w2.cell? ⟨p, 1, none⟩ = some (.int .i64 ((a : Int) + 1)) := by rw [Blk.cell HR2.out]; rfl
    have e2 : w2.cell? ⟨b1, o1 + a, none⟩ = some (.int .u8 (bs.getD a 0)) := by
      obtain ⟨b2, o2, hA, _, hc⟩ := HS2.out.at_ (s := 1) (fun _ => rfl) rfl hlt
      cases hA
      have := hc 0 (by omega)
      rw [List.getD_eq_getElem?_getD, List.getElem?_eq_getElem hlt]
      simpa [encB] using this
    have a1 : (a : Int) + 1 - 1 = a := by omega
    generalize bs.getD a 0 = c at e2 Hr2
    go_quiet (fail)
    go_wp2_with fail
    go_ret
    rw [Hr2.out]
    exact ⟨rfl, HF2.out.drewN _, HR2.out.drewN _⟩
theorem numR_at {bs : List Int} {a most : Nat} (ha : a ≤ bs.length) {r1 r2 r3 : Int} (hg : getE bs (a : Int) = (r1, r2, r3)) :
    (r3 ≠ 0 → numR bs a most = .bad r3 a) ∧ (r3 = 0 → ∃ n a2 : Nat, r1 = (n : Int) ∧ r2 = (a2 : Int) ∧ numR bs a most = if most < n then .bad 3 a else .ok n a2) := by
  unfold getE at hg
  rw [if_neg (by omega), Int.toNat_natCast] at hg
  unfold numR
  split at hg
  · rename_i h
    injection hg with h1 hg
    injection hg with h2 h3
    refine ⟨fun _ => by rw [if_pos h, h3], fun h0 => absurd (h3.trans h0) h⟩
  · rename_i h
    injection hg with h1 hg
    injection hg with h2 h3
    refine ⟨fun h0 => absurd h3.symm h0, fun _ => ⟨_, _, h1.symm, by rw [← h2]; rfl, by rw [if_neg h]⟩⟩
set_option maxRecDepth 20000 in
set_option maxHeartbeats 4000000 in
theorem number_any {w : World} {p : Nat} {v : Value} {bs : List Int} {a : Nat} (HR : Rd w p v a) (HS : SL encB w v bs) (hb : Leb.Bs bs) (ha : a ≤ bs.length) (hl : bs.length ≤ 1048576) (most : Nat) (hm : most < 2 ^ 63) (r : R Nat) (hr : numR bs a most = r) :
    Calls Try.prog 54 #[.pointer (some ⟨p, 0, none⟩), .int .u64 (most : Int)] w (RP (fun n : Nat => .int .u64 (n : Int)) w p v r) := by
  obtain ⟨A, cap, rfl⟩ := SL.form HS
  have HR1 := Lib.hid HR
  have c0 : w.cell? ⟨p, 0, none⟩ = some (.slice A bs.length cap) := by rw [Blk.cell HR]; rfl
  have c1 : w.cell? ⟨p, 1, none⟩ = some (.int .i64 (a : Int)) := by rw [Blk.cell HR]; rfl
  have z1 : w.frozen? ⟨p, 1, none⟩ = false := Blk.frozen HR 1
  obtain ⟨⟨r1, r2, r3⟩, hg⟩ : ∃ x, getE bs (a : Int) = x := ⟨_, rfl⟩
  have HC := Lib.hid (fun w (hs : SL encB w (.slice A bs.length cap) bs) => get_in (w := w) a ha hs hb (by omega) r1 r2 r3 hg)
  have HN := Lib.hid (numR_at (most := most) ha hg)
  have Hr := Lib.hid hr
  have HS1 := Lib.hid HS
  clear hr HR HS hg hb ha
  go_enter Try.func54, Try.ntmps54
  go_upto_region 1 with (fail)
  go_quiet ((go_at_call 73; exact Calls.quiet_of_same ((HC.out _ (HS1.out.drewN _)).mono (fun e w' h => ⟨h.1, h.2.symm⟩))))
  by_cases h3 : r3 = 0
  · obtain ⟨n, a2, rfl, rfl, hn⟩ := HN.out.2 h3
    subst h3
    by_cases hlt : most < n
    · have h4 : decide ((n : Int) > (most : Int)) = true := decide_eq_true (by omega)
      have h4' : decide (n > most) = true := decide_eq_true hlt
      have h4'' : decide (most < n) = true := decide_eq_true hlt
      have Hr2 := Lib.hid (show r = .bad 3 a by rw [← Hr.out, hn, if_pos hlt])
      clear hn hlt
      go_wp2_with fail
      refine ⟨rfl, ?_⟩
      rw [Hr2.out]
      exact ⟨rfl, (Fr.refl w _).drewN nq⟩
    · have h4 : decide ((n : Int) > (most : Int)) = false := decide_eq_false (by omega)
      have h4' : decide (n > most) = false := decide_eq_false hlt
      have h4'' : decide (most < n) = false := decide_eq_false hlt
      have Hr2 := Lib.hid (show r = .ok n a2 by rw [← Hr.out, hn, if_neg hlt])
      clear hn hlt
      go_wp2_with fail
      go_ret
      rw [Hr2.out]
      exact ⟨rfl, ((Fr.refl w (fun k => k = p)).drewN nq).setCell (p := ⟨p, 1, none⟩) (fun _ => rfl) _, Rd.to (b := a2) (HR1.out.drewN nq)⟩
  · have hp := HN.out.1 h3
    have h4 : (r3 != 0) = true := bne_iff_ne.2 h3
    have Hr2 := Lib.hid (show r = .bad r3 a by rw [← Hr.out, hp])
    clear hp h3
    go_wp2_with fail
    refine ⟨rfl, ?_⟩
    rw [Hr2.out]
    exact ⟨rfl, (Fr.refl w _).drewN nq⟩
end Vf
end Go.Proofs.Ytlodbhlidgepfaa

namespace Go.Proofs.Ytlodbhlidgepfaa
open Go.RowKit
open Voc Leb
namespace Vf
def strB (bs : List Int) : ByteArray := ⟨(bs.map fun c => UInt8.ofNat c.toNat).toArray⟩
theorem u8_back {c : Int} (h : 0 ≤ c ∧ c < 256) : (((UInt8.ofNat c.toNat).toNat : Nat) : Int) = c := by
  rw [UInt8.toNat_ofNat']
  have : c.toNat % 2 ^ 8 = c.toNat := Nat.mod_eq_of_lt (by omega)
  rw [this]; omega
theorem strB_inj {x y : List Int} (hx : Leb.Bs x) (hy : Leb.Bs y) (h : strB x = strB y) : x = y := by
  unfold strB at h
  injection h with h
  have h := congrArg Array.toList h
  simp only at h
  have hl : x.length = y.length := by simpa using congrArg List.length h
  apply List.ext_getElem hl
  intro i h1 h2
  have e := List.ext_getElem_iff.1 h |>.2 i (by simpa using h1) (by simpa using h2)
  rw [List.getElem_map, List.getElem_map] at e
  have a := u8_back (hx _ (List.getElem_mem h1))
  have b := u8_back (hy _ (List.getElem_mem h2))
  rw [e] at a
  rw [← a, b]
theorem run_str {w : World} {v : Value} {bs : List Int} (hs : SL encB w v bs) (hb : Leb.Bs bs) (h0 : 0 < bs.length) : (convert 32 9 v).run Try.prog w = .ok (.string (strB bs)) w := by
  obtain ⟨A, cap, rfl, hc, hr⟩ := hs
  obtain ⟨b, off, rfl, hlt, hcell⟩ := hr h0
  have := run_convert_bytes_back (P := Try.prog) w 32 9 5 ⟨b, off, none⟩ cap (bs.map fun c => UInt8.ofNat c.toNat) Try.underlying32 Try.underlying5 Try.underlying9 (fun j hj => by
    have hj' : j < bs.length := by simpa using hj
    rw [addr_add, hcell j (.int .u8 bs[j]) (by
      have := get_flatMap encB 1 (fun _ => rfl) bs j 0 (by omega)
      rw [Nat.mul_one, Nat.add_zero] at this
      rw [this, List.getElem?_eq_getElem hj']; rfl)]
    rw [List.getElem_map, u8_back (hb _ (List.getElem_mem hj'))])
  rw [List.length_map] at this
  exact this
theorem strB_eq {x y : List Int} (hx : Leb.Bs x) (hy : Leb.Bs y) (b : Bool) (h : decide (x = y) = b) : ((strB x).toList == (strB y).toList) = b := by
  subst h
  by_cases e : x = y
  · subst e; simp
  · rw [decide_eq_false e, beq_eq_false_iff_ne]
    intro h
    rw [ByteArray.toList_eq, ByteArray.toList_eq] at h
    apply e
    apply strB_inj hx hy
    cases hx' : strB x
    cases hy' : strB y
    rw [hx', hy'] at h
    simp only at h
    congr 1
    exact Array.toList_inj.1 h
theorem sl_mid {α : Type} {enc : α → List Value} {w : World} {xs : List α} {A : Option Addr} {n cap lo k s : Nat} (h : SL enc w (.slice A n cap) xs) (hs : ∀ x, (enc x).length = s) (hk : lo + k ≤ n) :
    SL enc w (.slice (if k = 0 then A else A.map (fun x => x.add (lo * s))) k k) ((xs.drop lo).take k) := by
  have hn : n = xs.length := by obtain ⟨_, _, hv, _⟩ := h; injection hv
  by_cases h0 : k = 0
  · subst h0
    rw [if_pos rfl, List.take_zero]
    exact SL.empty _ _ _
  · rw [if_neg h0]
    have h1 := h.from_ hs (k := lo) (by omega)
    have hcap : n ≤ cap := by obtain ⟨_, _, hv, hc, _⟩ := h; injection hv with _ a b; omega
    rw [if_neg (by omega)] at h1
    have h2 := h1.take (k := k) (by rw [List.length_drop]; omega)
    obtain ⟨A', c', hv, hc, hr⟩ := h2
    injection hv with e1 e2 e3
    subst e1
    refine ⟨_, k, by rw [← e2], by rw [← e2]; exact Nat.le_refl _, hr⟩
theorem run_slice_mid3 {P : Program} (t e : TypeId) (i : TypeInfo) (size : Nat) (ht : P.underlying t = some (.slice e)) (hi : P.info? e = some i) (hsz : i.size = size) (A : Option Addr) (n cap lo k : Nat) (h : Int) (hh : h = (lo : Int) + (k : Int)) (hk : lo + k ≤ cap) (w : World) :
    (Instr.slice t (.slice A n cap) (some (.int .i64 (lo : Int))) (some (.int .i64 h)) (some (.int .i64 h))).run P w = .ok (.slice (if k = 0 then A else A.map (fun x => x.add (lo * size))) k k) w := by
  subst hh
  have h1 : (0 : Int) ≤ (lo : Int) ∧ (lo : Int) ≤ (lo : Int) + (k : Int) := by omega
  have h2 : (0 : Int) ≤ (lo : Int) + (k : Int) ∧ (lo : Int) + (k : Int) ≤ cap := by omega
  have h3 : ((lo : Int) + (k : Int)).toNat = lo + k := by omega
  simp [Instr.slice, Instr.sliceBounds, run_underlying ht, sizeOf, typeInfo, hi, go_sem, h1, h2, h3, hsz]
end Vf
end Go.Proofs.Ytlodbhlidgepfaa

namespace Go.Proofs.Ytlodbhlidgepfaa
open Go.RowKit
open Voc Leb Crc
namespace Vf
def agP (p : Pc) : Value := .agg #[.bool p.j, .int .u8 p.b, .int .i64 p.l, .int .i64 p.r, .int .u32 p.k]
theorem byteR_le {bs : List Int} {a : Nat} {c : Int} {a1 : Nat} (ha : a ≤ bs.length) (h : byteR bs a = .ok c a1) : a1 ≤ bs.length := by
  unfold byteR at h
  split at h
  · cases h
  · injection h with h1 h2; omega
theorem numR_most {bs : List Int} {a most n a2 : Nat} (h : numR bs a most = .ok n a2) : n ≤ most := by
  unfold numR at h
  split at h
  · cases h
  · split at h
    · cases h
    · rename_i hn
      injection h with h1 h2
      omega
theorem gblk_setRow {w : World} {g : Nat} {t : TypeId} {old : Array Value} (h : Blk w g t old) (cs : Array Value) : Blk (w.setRow g cs) g t cs := setRow_heap _ g _ _ _ (0, 0) h
theorem gfr_setRow {w w' : World} {S : Nat → Prop} (h : Fr w w' S) {g : Nat} (hg : g < w.heap.size → S g) (cs : Array Value) : Fr w (w'.setRow g cs) S :=
  h.trans (T := fun k => k = g) ⟨rfl, rfl, rfl, by simp [World.setRow], fun k hk hn => by unfold World.setRow; simp [Array.getElem?_modify, Ne.symm hn]⟩ (fun i hi e => by subst e; exact hg hi)
set_option maxRecDepth 20000 in
set_option maxHeartbeats 8000000 in
theorem piece_any {w : World} {p : Nat} {v : Value} {bs : List Int} {a : Nat} (HR : Rd w p v a) (HS : SL encB w v bs) (hb : Leb.Bs bs) (ha : a ≤ bs.length) (hl : bs.length ≤ 1048576) (r : R Pc) (hr : pieceR bs a = r) :
    Calls Try.prog 55 #[.pointer (some ⟨p, 0, none⟩)] w (RP agP w p v r) := by
  have HF1 := Lib.hid ((Fr.refl w (fun k => k = p)).alloc (.cells #[.bool false, .int .u8 0, .int .i64 0, .int .i64 0, .int .u32 0] TPc))
  have HB1 := Lib.hid (Blk.new w TPc #[.bool false, .int .u8 0, .int .i64 0, .int .i64 0, .int .u32 0])
  have HR1 := Lib.hid (show Rd _ p v a from Blk.alloc HR (.cells #[.bool false, .int .u8 0, .int .i64 0, .int .i64 0, .int .u32 0] TPc))
  have HS1 := Lib.hid (HS.gr ((Fr.refl w NoneS).alloc (.cells #[.bool false, .int .u8 0, .int .i64 0, .int .i64 0, .int .u32 0] TPc)))
  obtain ⟨q, hq⟩ : ∃ q, w.heap.size = q := ⟨_, rfl⟩
  have Hpq := Lib.hid (show p ≠ q by have := Blk.lt HR; omega)
  have Hr := Lib.hid hr
  have Hb := Lib.hid hb
  have Ha := Lib.hid ha
  rw [hq] at HB1
  clear HR HS hr hb ha
  have HNx := Lib.hid (fun (w : World) (a : Nat) (HR : Rd w p v a) (HS : SL encB w v bs) (ha : a ≤ bs.length) (r : R Int) (hr : byteR bs a = r) => next_any HR HS ha hl r hr)
  have HNu := Lib.hid (fun (w : World) (a : Nat) (HR : Rd w p v a) (HS : SL encB w v bs) (ha : a ≤ bs.length) (most : Nat) (hm : most < 2 ^ 63) (r : R Nat) (hr : numR bs a most = r) => number_any HR HS Hb.out ha hl most hm r hr)
  go_enter Try.func55, Try.ntmps55
  go_upto_region 1 with (fail)
  generalize World.alloc w _ = w1 at HF1 HB1 HR1 HS1 ⊢
  have c1 : w1.cell? ⟨p, 1, none⟩ = some (.int .i64 (a : Int)) := by rw [Blk.cell HR1.out]; rfl
  go_upto_region 2 with (fail)
  clear c1
  obtain ⟨r1, hr1⟩ : ∃ x, byteR bs a = x := ⟨_, rfl⟩
  have HC1 := Lib.hid (HNx.out w1 a HR1.out HS1.out Ha.out r1 hr1)
  have H1 := Lib.hid hr1
  clear hr1
  cases r1 with
  | bad E x =>
    have Hr2 := Lib.hid (show r = .bad E x by rw [← Hr.out]; unfold pieceR; rw [H1.out])
    go_wp2_with (go_at_call 74; refine HC1.out.mono ?_; intro e w2 h; obtain ⟨rfl, hf⟩ := h; have HF2 := Lib.hid (HF1.out.trans hf (fun _ _ h => h)); clear hf)
    refine ⟨rfl, ?_⟩
    rw [Hr2.out]
    exact ⟨rfl, HF2.out⟩
  | ok t a1 =>
    have HA1 := Lib.hid (byteR_le Ha.out H1.out)
    by_cases h0 : t = 0
    · subst h0
      obtain ⟨r2, hr2⟩ : ∃ x, byteR bs a1 = x := ⟨_, rfl⟩
      have H2 := Lib.hid hr2
      clear hr2
      go_upto_block 0 with (go_at_call 74; refine HC1.out.mono ?_; intro e w2 h; obtain ⟨rfl, hf, hrd⟩ := h; have HF2 := Lib.hid hf; have HR2 := Lib.hid hrd; clear hf hrd)
      have HS2 := Lib.hid (sl_rd HS1.out HR1.out HF2.out)
      have HB2 := Lib.hid (HB1.out.fr HF2.out (fun h => Hpq.out h.symm))
      have HC2 := Lib.hid (HNx.out w2 a1 HR2.out HS2.out HA1.out r2 H2.out)
      cases r2 with
      | bad E x =>
        have Hr2 := Lib.hid (show r = .bad E x by rw [← Hr.out]; unfold pieceR; rw [H1.out]; simp only [if_true]; rw [H2.out])
        go_wp2_with (go_at_call 74; refine HC2.out.mono ?_; intro e w3 h; obtain ⟨rfl, hf⟩ := h; have HF3 := Lib.hid hf; clear hf)
        refine ⟨rfl, ?_⟩
        rw [Hr2.out]
        exact ⟨rfl, (HF1.out.trans HF2.out (fun _ _ h => h)).trans HF3.out (fun _ _ h => h)⟩
      | ok c a2 =>
        have Hr2 := Lib.hid (show r = .ok ⟨false, c, 0, 0, 0⟩ a2 by rw [← Hr.out]; unfold pieceR; rw [H1.out]; simp only [if_true]; rw [H2.out])
        go_wp2_with (first
          | (go_at_call 74; refine HC2.out.mono ?_; intro e w3 h; obtain ⟨rfl, hf, hrd⟩ := h; have HF3 := Lib.hid hf; have HR3 := Lib.hid hrd; have HB3 := Lib.hid (HB2.out.fr hf (fun h => Hpq.out h.symm)); clear hf hrd)
          | refine wpList_store_row rfl _ _ _ rfl q #[.bool false, .int .u8 c, .int .i64 0, .int .i64 0, .int .u32 0] rfl rfl TPc _ HB3.out (by kernel_rfl) (by kernel_rfl) (by kernel_rfl) ?_)
        try simp only [Exit.inBlock, Exit.then]
        refine bodyPost_ret (results_cell_row Try.results55 _ _ q _ #[.bool false, .int .u8 c, .int .i64 0, .int .i64 0, .int .u32 0] (0, 0) _ rfl (gblk_setRow HB3.out _) Try.underlying68 rfl (by kernel_rfl)) rfl ?_
        rw [Hr2.out]
        have hF := (HF1.out.trans HF2.out (fun _ _ h => h)).trans HF3.out (fun _ _ h => h)
        refine ⟨rfl, gfr_setRow hF (fun h => by omega) _, ?_⟩
        exact (show Rd w3 p v a2 from HR3.out).fr (gfr_setRow (S := fun k => k = q) (Fr.refl w3 _) (fun _ => rfl) _) Hpq.out
    · have e0 : (t == 0) = false := by simpa using h0
      by_cases h1 : t = 1
      · subst h1
        obtain ⟨r2, hr2⟩ : ∃ x, numR bs a1 4095 = x := ⟨_, rfl⟩
        have H2 := Lib.hid hr2
        clear hr2
        go_upto_region 6 with (go_at_call 74; refine HC1.out.mono ?_; intro e w2 h; obtain ⟨rfl, hf, hrd⟩ := h; have HF2 := Lib.hid hf; have HR2 := Lib.hid hrd; clear hf hrd)
        have HS2 := Lib.hid (sl_rd HS1.out HR1.out HF2.out)
        have HB2 := Lib.hid (HB1.out.fr HF2.out (fun h => Hpq.out h.symm))
        have HF12 := Lib.hid (HF1.out.trans HF2.out (fun _ _ h => h))
        have HC2 := Lib.hid (HNu.out w2 a1 HR2.out HS2.out HA1.out 4095 (by decide) r2 H2.out)
        cases r2 with
        | bad E x =>
          have Hr2 := Lib.hid (show r = .bad E x by rw [← Hr.out]; unfold pieceR; rw [H1.out]; simp only [h0, if_false, if_true]; rw [H2.out])
          go_wp2_with (go_at_call 54; refine HC2.out.mono ?_; intro e w3 h; obtain ⟨rfl, hf⟩ := h; have HF3 := Lib.hid hf; clear hf)
          refine ⟨rfl, ?_⟩
          rw [Hr2.out]
          exact ⟨rfl, HF12.out.trans HF3.out (fun _ _ h => h)⟩
        | ok l a2 =>
        have hl1 := numR_most H2.out
        have wl : IntKind.i64.wrap (l : Int) = (l : Int) := IntWalk.i64_in _ (by omega)
        have HA2 := Lib.hid (numR_le H2.out)
        obtain ⟨r3, hr3⟩ : ∃ x, numR bs a2 4095 = x := ⟨_, rfl⟩
        have H3 := Lib.hid hr3
        clear hr3
        go_upto_region 7 with (go_at_call 54; refine HC2.out.mono ?_; intro e w3 h; obtain ⟨rfl, hf, hrd⟩ := h; have HF3 := Lib.hid hf; have HR3 := Lib.hid hrd; clear hf hrd)
        have HS3 := Lib.hid (sl_rd HS2.out HR2.out HF3.out)
        have HB3 := Lib.hid (HB2.out.fr HF3.out (fun h => Hpq.out h.symm))
        have HF13 := Lib.hid (HF12.out.trans HF3.out (fun _ _ h => h))
        have HC3 := Lib.hid (HNu.out w3 a2 HR3.out HS3.out HA2.out 4095 (by decide) r3 H3.out)
        cases r3 with
        | bad E x =>
          have Hr2 := Lib.hid (show r = .bad E x by rw [← Hr.out]; unfold pieceR; rw [H1.out]; simp only [h0, if_false, if_true]; rw [H2.out]; simp only; rw [H3.out])
          go_wp2_with (go_at_call 54; refine HC3.out.mono ?_; intro e w4 h; obtain ⟨rfl, hf⟩ := h; have HF4 := Lib.hid hf; clear hf)
          refine ⟨rfl, ?_⟩
          rw [Hr2.out]
          exact ⟨rfl, HF13.out.trans HF4.out (fun _ _ h => h)⟩
        | ok rr a3 =>
        have hr1 := numR_most H3.out
        have wr : IntKind.i64.wrap (rr : Int) = (rr : Int) := IntWalk.i64_in _ (by omega)
        have HA3 := Lib.hid (numR_le H3.out)
        obtain ⟨r4, hr4⟩ : ∃ x, numR bs a3 4294967295 = x := ⟨_, rfl⟩
        have H4 := Lib.hid hr4
        clear hr4
        go_upto_region 8 with (go_at_call 54; refine HC3.out.mono ?_; intro e w4 h; obtain ⟨rfl, hf, hrd⟩ := h; have HF4 := Lib.hid hf; have HR4 := Lib.hid hrd; clear hf hrd)
        have HS4 := Lib.hid (sl_rd HS3.out HR3.out HF4.out)
        have HB4 := Lib.hid (HB3.out.fr HF4.out (fun h => Hpq.out h.symm))
        have HF14 := Lib.hid (HF13.out.trans HF4.out (fun _ _ h => h))
        have HC4 := Lib.hid (HNu.out w4 a3 HR4.out HS4.out HA3.out 4294967295 (by decide) r4 H4.out)
        cases r4 with
        | bad E x =>
          have Hr2 := Lib.hid (show r = .bad E x by rw [← Hr.out]; unfold pieceR; rw [H1.out]; simp only [h0, if_false, if_true]; rw [H2.out]; simp only; rw [H3.out]; simp only; rw [H4.out])
          go_wp2_with (go_at_call 54; refine HC4.out.mono ?_; intro e w5 h; obtain ⟨rfl, hf⟩ := h; have HF5 := Lib.hid hf; clear hf)
          refine ⟨rfl, ?_⟩
          rw [Hr2.out]
          exact ⟨rfl, HF14.out.trans HF5.out (fun _ _ h => h)⟩
        | ok k a4 =>
        have hk1 := numR_most H4.out
        have wk : IntKind.u32.wrap (k : Int) = (k : Int) := by show (k : Int) % 4294967296 = _; omega
        have Hr2 := Lib.hid (show r = .ok ⟨true, 0, l, rr, k⟩ a4 by rw [← Hr.out]; unfold pieceR; rw [H1.out]; simp only [h0, if_false, if_true]; rw [H2.out]; simp only; rw [H3.out]; simp only; rw [H4.out])
        go_wp2_with (first
          | (go_at_call 54; refine HC4.out.mono ?_; intro e w5 h; obtain ⟨rfl, hf, hrd⟩ := h; have HF5 := Lib.hid hf; have HR5 := Lib.hid hrd; have HB5 := Lib.hid (HB4.out.fr hf (fun h => Hpq.out h.symm)); clear hf hrd)
          | refine wpList_store_row rfl _ _ _ rfl q #[.bool true, .int .u8 0, .int .i64 (l : Nat), .int .i64 (rr : Nat), .int .u32 (k : Nat)] rfl rfl TPc _ HB5.out (by kernel_rfl) (by kernel_rfl) (by kernel_rfl) ?_)
        try simp only [Exit.inBlock, Exit.then]
        refine bodyPost_ret (results_cell_row Try.results55 _ _ q _ #[.bool true, .int .u8 0, .int .i64 (l : Nat), .int .i64 (rr : Nat), .int .u32 (k : Nat)] (0, 0) _ rfl (gblk_setRow HB5.out _) Try.underlying68 rfl (by kernel_rfl)) rfl ?_
        rw [Hr2.out]
        have hF := HF14.out.trans HF5.out (fun _ _ h => h)
        refine ⟨rfl, gfr_setRow hF (fun h => by omega) _, ?_⟩
        exact (show Rd w5 p v a4 from HR5.out).fr (gfr_setRow (S := fun k => k = q) (Fr.refl w5 _) (fun _ => rfl) _) Hpq.out
      · have e1 : (t == 1) = false := by simpa using h1
        have Hr2 := Lib.hid (show r = .bad 5 a by rw [← Hr.out]; unfold pieceR; rw [H1.out]; simp only [h0, h1, if_false])
        go_wp2_with (go_at_call 74; refine HC1.out.mono ?_; intro e w2 h; obtain ⟨rfl, hf, hrd⟩ := h; have HF2 := Lib.hid hf; clear hf hrd)
        refine ⟨rfl, ?_⟩
        rw [Hr2.out]
        exact ⟨rfl, HF1.out.trans HF2.out (fun _ _ h => h)⟩
end Vf
end Go.Proofs.Ytlodbhlidgepfaa

namespace Go.Proofs.Ytlodbhlidgepfaa
open Go.RowKit
open Voc Leb Crc
namespace Vf
def endR (b : List Int) (s : Nat) : R Unit :=
  if b.length < s + 4 then .bad 4 b.length
  else if (b.drop s).take 4 ≠ four (crcN (b.take s)) then .bad 6 s
  else if s + 4 < b.length then .bad 5 (s + 4)
  else .ok () s
set_option maxRecDepth 20000 in
set_option maxHeartbeats 8000000 in
theorem end_any {w : World} {p : Nat} {v : Value} {bs : List Int} {a : Nat} (HR : Rd w p v a) (HS : SL encB w v bs) (hb : Leb.Bs bs) (ha : a ≤ bs.length) (hl : bs.length ≤ 1048576) (r : R Unit) (hr : endR bs a = r) :
    Calls Try.prog 56 #[.pointer (some ⟨p, 0, none⟩)] w (RP (fun _ => .tuple #[]) w p v r) := by
  obtain ⟨A, cap, rfl⟩ := SL.form HS
  have HR1 := Lib.hid HR
  have HS1 := Lib.hid HS
  have Hb := Lib.hid hb
  have c0 : w.cell? ⟨p, 0, none⟩ = some (.slice A bs.length cap) := by rw [Blk.cell HR]; rfl
  have c1 : w.cell? ⟨p, 1, none⟩ = some (.int .i64 (a : Int)) := by rw [Blk.cell HR]; rfl
  have hl' : (bs.length : Int) ≤ 1048576 := by omega
  have ha' : (a : Int) ≤ bs.length := by omega
  have Hr := Lib.hid hr
  clear hr HR HS hb
  by_cases h4 : bs.length < a + 4
  · have e1 : decide ((bs.length : Int) - (a : Int) < 4) = true := decide_eq_true (by omega)
    have Hr2 := Lib.hid (show r = .bad 4 bs.length by rw [← Hr.out]; unfold endR; rw [if_pos h4])
    clear h4
    go_enter Try.func56, Try.ntmps56
    go_upto_region 0 with (fail)
    go_quiet (fail)
    go_wp2_with fail
    refine ⟨rfl, ?_⟩
    rw [Hr2.out]
    exact ⟨rfl, (Fr.refl w _).drewN _⟩
  · have e1 : decide ((bs.length : Int) - (a : Int) < 4) = false := decide_eq_false (by omega)
    have hlt : a < bs.length := by omega
    obtain ⟨b1, o1, rfl, hb1, hc1⟩ := HS1.out.at_ (s := 1) (fun _ => rfl) rfl hlt
    clear hc1
    have hcap : bs.length ≤ cap := by obtain ⟨_, _, hv, hc, _⟩ := HS1.out; injection hv with _ a b; omega
    have h4' : (a : Int) + 4 ≤ bs.length := by omega
    have w4 : IntKind.i64.wrap ((a : Int) + 4) = (a : Int) + 4 := IntWalk.i64_in _ (by omega)
    obtain ⟨i0, hi0, hz0, hz1, hz2⟩ := info_parts info_u8
    have Hmid := Lib.hid (fun w (h : SL encB w (.slice (some ⟨b1, o1, none⟩) bs.length cap) bs) => (show SL encB w (.slice (some ⟨b1, o1 + a, none⟩) 4 4) ((bs.drop a).take 4) from by
      have := sl_mid (lo := a) (k := 4) h (fun _ => rfl) (by omega)
      simpa [addr_add] using this))
    have Hmb := Lib.hid (show Leb.Bs ((bs.drop a).take 4) from fun c hc => Hb.out c (List.mem_of_mem_drop (List.mem_of_mem_take hc)))
    have Hml := Lib.hid (show ((bs.drop a).take 4).length = 4 by rw [List.length_take, List.length_drop]; omega)
    have Htk := Lib.hid (fun w (h : SL encB w (.slice (some ⟨b1, o1, none⟩) bs.length cap) bs) => (show SL encB w (.slice (some ⟨b1, o1, none⟩) a a) (bs.take a) from by
      have h2 := SL.take (k := a) h (by omega)
      obtain ⟨A', c', hv, hc, hr⟩ := h2
      injection hv with q1 q2 q3
      subst q1
      exact ⟨_, a, by rw [← q2], by rw [← q2]; exact Nat.le_refl _, hr⟩))
    have Htb := Lib.hid (show Leb.Bs (bs.take a) from fun c hc => Hb.out c (List.mem_of_mem_take hc))
    have s1 := fun w => run_slice_to3 (P := Try.prog) 32 5 i0 Try.underlying32 hi0 (some ⟨b1, o1, none⟩) bs.length cap a a (Nat.le_refl _) (by omega) w
    have s2 : ∀ w, (Instr.slice 32 (.slice (some ⟨b1, o1, none⟩) bs.length cap) (some (.int .i64 (a : Int))) (some (.int .i64 ((a : Int) + 4))) (some (.int .i64 ((a : Int) + 4)))).run Try.prog w = .ok (.slice (some ⟨b1, o1 + a, none⟩) 4 4) w := fun w => by
      have := run_slice_mid3 (P := Try.prog) 32 5 i0 1 Try.underlying32 hi0 hz1 (some ⟨b1, o1, none⟩) bs.length cap a 4 ((a : Int) + 4) rfl (by omega) w
      simpa [addr_add] using this
    go_enter Try.func56, Try.ntmps56
    go_upto_region 0 with (fail)
    go_quiet (fail)
    go_upto_region 2 with (fail)
    refine wp_region_held_drew (S := fun wx => wx.cell? ⟨p, 0, none⟩ = some (.slice (some ⟨b1, o1, none⟩) bs.length cap) ∧ wx.cell? ⟨p, 1, none⟩ = some (.int .i64 (a : Int)) ∧ Hid (SL encB wx (.slice (some ⟨b1, o1, none⟩) bs.length cap) bs)) (by kernel_rfl) ⟨c0, c1, HS1⟩ (fun hHeld => ?_)
    refine wpAnyH_take (i := 0) (v := (.pointer (some ⟨p, 0, none⟩))) rfl (by kernel_rfl) (by kernel_rfl) (by kernel_rfl) (fun _ _ _ h => h) (Or.inl ⟨by kernel_rfl, ?_⟩) (by with_reducible assumption) ?_
    focus (intro w hSw; (try dsimp only at hSw); obtain ⟨e0, e1, hs⟩ := hSw; go_simp)
    try simp only [Act.put, List.getElem_toArray, List.getElem_cons_succ, List.getElem_cons_zero, List.setIfInBounds_toArray, List.set_cons_zero, List.set_cons_succ]
    refine wpAnyH_take (i := 1) (v := (.pointer (some ⟨p, 0, none⟩))) rfl (by kernel_rfl) (by kernel_rfl) (by kernel_rfl) (fun _ _ _ h => h) (Or.inl ⟨by kernel_rfl, ?_⟩) (by with_reducible assumption) ?_
    focus (intro w hSw; (try dsimp only at hSw); obtain ⟨e0, e1, hs⟩ := hSw; go_simp)
    try simp only [Act.put, List.getElem_toArray, List.getElem_cons_succ, List.getElem_cons_zero, List.setIfInBounds_toArray, List.set_cons_zero, List.set_cons_succ]
    refine wpAnyH_take (i := 2) (v := (.pointer (some ⟨p, 0, none⟩))) rfl (by kernel_rfl) (by kernel_rfl) (by kernel_rfl) (fun _ _ _ h => h) (Or.inl ⟨by kernel_rfl, ?_⟩) (by with_reducible assumption) ?_
    focus (intro w hSw; (try dsimp only at hSw); obtain ⟨e0, e1, hs⟩ := hSw; go_simp)
    try simp only [Act.put, List.getElem_toArray, List.getElem_cons_succ, List.getElem_cons_zero, List.setIfInBounds_toArray, List.set_cons_zero, List.set_cons_succ]
    refine wpAnyH_take (i := 3) (v := (.slice (some ⟨b1, o1, none⟩) bs.length cap)) rfl (by kernel_rfl) (by kernel_rfl) (by kernel_rfl) (fun _ _ _ h => h) (Or.inl ⟨by kernel_rfl, ?_⟩) (by with_reducible assumption) ?_
    focus (intro w hSw; (try dsimp only at hSw); obtain ⟨e0, e1, hs⟩ := hSw; go_simp)
    try simp only [Act.put, List.getElem_toArray, List.getElem_cons_succ, List.getElem_cons_zero, List.setIfInBounds_toArray, List.set_cons_zero, List.set_cons_succ]
    refine wpAnyH_take (i := 4) (v := (.pointer (some ⟨p, 0, none⟩))) rfl (by kernel_rfl) (by kernel_rfl) (by kernel_rfl) (fun _ _ _ h => h) (Or.inl ⟨by kernel_rfl, ?_⟩) (by with_reducible assumption) ?_
    focus (intro w hSw; (try dsimp only at hSw); obtain ⟨e0, e1, hs⟩ := hSw; go_simp)
    try simp only [Act.put, List.getElem_toArray, List.getElem_cons_succ, List.getElem_cons_zero, List.setIfInBounds_toArray, List.set_cons_zero, List.set_cons_succ]
    refine wpAnyH_take (i := 5) (v := (.pointer (some ⟨p, 0, none⟩))) rfl (by kernel_rfl) (by kernel_rfl) (by kernel_rfl) (fun _ _ _ h => h) (Or.inl ⟨by kernel_rfl, ?_⟩) (by with_reducible assumption) ?_
    focus (intro w hSw; (try dsimp only at hSw); obtain ⟨e0, e1, hs⟩ := hSw; go_simp)
    try simp only [Act.put, List.getElem_toArray, List.getElem_cons_succ, List.getElem_cons_zero, List.setIfInBounds_toArray, List.set_cons_zero, List.set_cons_succ]
    refine wpAnyH_take (i := 6) (v := (.pointer (some ⟨p, 1, none⟩))) rfl (by kernel_rfl) (by kernel_rfl) (by kernel_rfl) (fun _ _ _ h => h) (Or.inl ⟨by kernel_rfl, ?_⟩) (by with_reducible assumption) ?_
    focus (intro w hSw; (try dsimp only at hSw); obtain ⟨e0, e1, hs⟩ := hSw; go_simp)
    try simp only [Act.put, List.getElem_toArray, List.getElem_cons_succ, List.getElem_cons_zero, List.setIfInBounds_toArray, List.set_cons_zero, List.set_cons_succ]
    refine wpAnyH_take (i := 7) (v := (.int .i64 (a : Int))) rfl (by kernel_rfl) (by kernel_rfl) (by kernel_rfl) (fun _ _ _ h => h) (Or.inl ⟨by kernel_rfl, ?_⟩) (by with_reducible assumption) ?_
    focus (intro w hSw; (try dsimp only at hSw); obtain ⟨e0, e1, hs⟩ := hSw; go_simp)
    try simp only [Act.put, List.getElem_toArray, List.getElem_cons_succ, List.getElem_cons_zero, List.setIfInBounds_toArray, List.set_cons_zero, List.set_cons_succ]
    refine wpAnyH_take (i := 8) (v := (.pointer (some ⟨p, 0, none⟩))) rfl (by kernel_rfl) (by kernel_rfl) (by kernel_rfl) (fun _ _ _ h => h) (Or.inl ⟨by kernel_rfl, ?_⟩) (by with_reducible assumption) ?_
    focus (intro w hSw; (try dsimp only at hSw); obtain ⟨e0, e1, hs⟩ := hSw; go_simp)
    try simp only [Act.put, List.getElem_toArray, List.getElem_cons_succ, List.getElem_cons_zero, List.setIfInBounds_toArray, List.set_cons_zero, List.set_cons_succ]
    refine wpAnyH_take (i := 9) (v := (.pointer (some ⟨p, 0, none⟩))) rfl (by kernel_rfl) (by kernel_rfl) (by kernel_rfl) (fun _ _ _ h => h) (Or.inl ⟨by kernel_rfl, ?_⟩) (by with_reducible assumption) ?_
    focus (intro w hSw; (try dsimp only at hSw); obtain ⟨e0, e1, hs⟩ := hSw; go_simp)
    try simp only [Act.put, List.getElem_toArray, List.getElem_cons_succ, List.getElem_cons_zero, List.setIfInBounds_toArray, List.set_cons_zero, List.set_cons_succ]
    refine wpAnyH_take (i := 10) (v := (.pointer (some ⟨p, 1, none⟩))) rfl (by kernel_rfl) (by kernel_rfl) (by kernel_rfl) (fun _ _ _ h => h) (Or.inl ⟨by kernel_rfl, ?_⟩) (by with_reducible assumption) ?_
    focus (intro w hSw; (try dsimp only at hSw); obtain ⟨e0, e1, hs⟩ := hSw; go_simp)
    try simp only [Act.put, List.getElem_toArray, List.getElem_cons_succ, List.getElem_cons_zero, List.setIfInBounds_toArray, List.set_cons_zero, List.set_cons_succ]
    refine wpAnyH_take (i := 11) (v := (.int .i64 (a : Int))) rfl (by kernel_rfl) (by kernel_rfl) (by kernel_rfl) (fun _ _ _ h => h) (Or.inl ⟨by kernel_rfl, ?_⟩) (by with_reducible assumption) ?_
    focus (intro w hSw; (try dsimp only at hSw); obtain ⟨e0, e1, hs⟩ := hSw; go_simp)
    try simp only [Act.put, List.getElem_toArray, List.getElem_cons_succ, List.getElem_cons_zero, List.setIfInBounds_toArray, List.set_cons_zero, List.set_cons_succ]
    refine wpAnyH_take (i := 12) (v := (.slice (some ⟨b1, o1, none⟩) a a)) rfl (by kernel_rfl) (by kernel_rfl) (by kernel_rfl) (fun _ _ _ h => h) (Or.inl ⟨by kernel_rfl, ?_⟩) (by with_reducible assumption) ?_
    focus (intro w hSw; (try dsimp only at hSw); obtain ⟨e0, e1, hs⟩ := hSw; go_simp)
    try simp only [Act.put, List.getElem_toArray, List.getElem_cons_succ, List.getElem_cons_zero, List.setIfInBounds_toArray, List.set_cons_zero, List.set_cons_succ]
    refine wpAnyH_take (i := 16) (v := (.pointer (some ⟨p, 0, none⟩))) rfl (by kernel_rfl) (by kernel_rfl) (by kernel_rfl) (fun _ _ _ h => h) (Or.inl ⟨by kernel_rfl, ?_⟩) (by with_reducible assumption) ?_
    focus (intro w hSw; (try dsimp only at hSw); obtain ⟨e0, e1, hs⟩ := hSw; go_simp)
    try simp only [Act.put, List.getElem_toArray, List.getElem_cons_succ, List.getElem_cons_zero, List.setIfInBounds_toArray, List.set_cons_zero, List.set_cons_succ]
    refine wpAnyH_take (i := 17) (v := (.pointer (some ⟨p, 0, none⟩))) rfl (by kernel_rfl) (by kernel_rfl) (by kernel_rfl) (fun _ _ _ h => h) (Or.inl ⟨by kernel_rfl, ?_⟩) (by with_reducible assumption) ?_
    focus (intro w hSw; (try dsimp only at hSw); obtain ⟨e0, e1, hs⟩ := hSw; go_simp)
    try simp only [Act.put, List.getElem_toArray, List.getElem_cons_succ, List.getElem_cons_zero, List.setIfInBounds_toArray, List.set_cons_zero, List.set_cons_succ]
    refine wpAnyH_take (i := 18) (v := (.pointer (some ⟨p, 0, none⟩))) rfl (by kernel_rfl) (by kernel_rfl) (by kernel_rfl) (fun _ _ _ h => h) (Or.inl ⟨by kernel_rfl, ?_⟩) (by with_reducible assumption) ?_
    focus (intro w hSw; (try dsimp only at hSw); obtain ⟨e0, e1, hs⟩ := hSw; go_simp)
    try simp only [Act.put, List.getElem_toArray, List.getElem_cons_succ, List.getElem_cons_zero, List.setIfInBounds_toArray, List.set_cons_zero, List.set_cons_succ]
    refine wpAnyH_take (i := 19) (v := (.slice (some ⟨b1, o1, none⟩) bs.length cap)) rfl (by kernel_rfl) (by kernel_rfl) (by kernel_rfl) (fun _ _ _ h => h) (Or.inl ⟨by kernel_rfl, ?_⟩) (by with_reducible assumption) ?_
    focus (intro w hSw; (try dsimp only at hSw); obtain ⟨e0, e1, hs⟩ := hSw; go_simp)
    try simp only [Act.put, List.getElem_toArray, List.getElem_cons_succ, List.getElem_cons_zero, List.setIfInBounds_toArray, List.set_cons_zero, List.set_cons_succ]
    refine wpAnyH_take (i := 20) (v := (.pointer (some ⟨p, 0, none⟩))) rfl (by kernel_rfl) (by kernel_rfl) (by kernel_rfl) (fun _ _ _ h => h) (Or.inl ⟨by kernel_rfl, ?_⟩) (by with_reducible assumption) ?_
    focus (intro w hSw; (try dsimp only at hSw); obtain ⟨e0, e1, hs⟩ := hSw; go_simp)
    try simp only [Act.put, List.getElem_toArray, List.getElem_cons_succ, List.getElem_cons_zero, List.setIfInBounds_toArray, List.set_cons_zero, List.set_cons_succ]
    refine wpAnyH_take (i := 21) (v := (.pointer (some ⟨p, 0, none⟩))) rfl (by kernel_rfl) (by kernel_rfl) (by kernel_rfl) (fun _ _ _ h => h) (Or.inl ⟨by kernel_rfl, ?_⟩) (by with_reducible assumption) ?_
    focus (intro w hSw; (try dsimp only at hSw); obtain ⟨e0, e1, hs⟩ := hSw; go_simp)
    try simp only [Act.put, List.getElem_toArray, List.getElem_cons_succ, List.getElem_cons_zero, List.setIfInBounds_toArray, List.set_cons_zero, List.set_cons_succ]
    refine wpAnyH_take (i := 22) (v := (.pointer (some ⟨p, 1, none⟩))) rfl (by kernel_rfl) (by kernel_rfl) (by kernel_rfl) (fun _ _ _ h => h) (Or.inl ⟨by kernel_rfl, ?_⟩) (by with_reducible assumption) ?_
    focus (intro w hSw; (try dsimp only at hSw); obtain ⟨e0, e1, hs⟩ := hSw; go_simp)
    try simp only [Act.put, List.getElem_toArray, List.getElem_cons_succ, List.getElem_cons_zero, List.setIfInBounds_toArray, List.set_cons_zero, List.set_cons_succ]
    refine wpAnyH_take (i := 23) (v := (.int .i64 (a : Int))) rfl (by kernel_rfl) (by kernel_rfl) (by kernel_rfl) (fun _ _ _ h => h) (Or.inl ⟨by kernel_rfl, ?_⟩) (by with_reducible assumption) ?_
    focus (intro w hSw; (try dsimp only at hSw); obtain ⟨e0, e1, hs⟩ := hSw; go_simp)
    try simp only [Act.put, List.getElem_toArray, List.getElem_cons_succ, List.getElem_cons_zero, List.setIfInBounds_toArray, List.set_cons_zero, List.set_cons_succ]
    refine wpAnyH_take (i := 24) (v := (.pointer (some ⟨p, 0, none⟩))) rfl (by kernel_rfl) (by kernel_rfl) (by kernel_rfl) (fun _ _ _ h => h) (Or.inl ⟨by kernel_rfl, ?_⟩) (by with_reducible assumption) ?_
    focus (intro w hSw; (try dsimp only at hSw); obtain ⟨e0, e1, hs⟩ := hSw; go_simp)
    try simp only [Act.put, List.getElem_toArray, List.getElem_cons_succ, List.getElem_cons_zero, List.setIfInBounds_toArray, List.set_cons_zero, List.set_cons_succ]
    refine wpAnyH_take (i := 25) (v := (.pointer (some ⟨p, 0, none⟩))) rfl (by kernel_rfl) (by kernel_rfl) (by kernel_rfl) (fun _ _ _ h => h) (Or.inl ⟨by kernel_rfl, ?_⟩) (by with_reducible assumption) ?_
    focus (intro w hSw; (try dsimp only at hSw); obtain ⟨e0, e1, hs⟩ := hSw; go_simp)
    try simp only [Act.put, List.getElem_toArray, List.getElem_cons_succ, List.getElem_cons_zero, List.setIfInBounds_toArray, List.set_cons_zero, List.set_cons_succ]
    refine wpAnyH_take (i := 26) (v := (.pointer (some ⟨p, 1, none⟩))) rfl (by kernel_rfl) (by kernel_rfl) (by kernel_rfl) (fun _ _ _ h => h) (Or.inl ⟨by kernel_rfl, ?_⟩) (by with_reducible assumption) ?_
    focus (intro w hSw; (try dsimp only at hSw); obtain ⟨e0, e1, hs⟩ := hSw; go_simp)
    try simp only [Act.put, List.getElem_toArray, List.getElem_cons_succ, List.getElem_cons_zero, List.setIfInBounds_toArray, List.set_cons_zero, List.set_cons_succ]
    refine wpAnyH_take (i := 27) (v := (.int .i64 (a : Int))) rfl (by kernel_rfl) (by kernel_rfl) (by kernel_rfl) (fun _ _ _ h => h) (Or.inl ⟨by kernel_rfl, ?_⟩) (by with_reducible assumption) ?_
    focus (intro w hSw; (try dsimp only at hSw); obtain ⟨e0, e1, hs⟩ := hSw; go_simp)
    try simp only [Act.put, List.getElem_toArray, List.getElem_cons_succ, List.getElem_cons_zero, List.setIfInBounds_toArray, List.set_cons_zero, List.set_cons_succ]
    refine wpAnyH_take (i := 28) (v := (.int .i64 ((a : Int) + 4))) rfl (by kernel_rfl) (by kernel_rfl) (by kernel_rfl) (fun _ _ _ h => h) (Or.inl ⟨by kernel_rfl, ?_⟩) (by with_reducible assumption) ?_
    focus (intro w hSw; (try dsimp only at hSw); obtain ⟨e0, e1, hs⟩ := hSw; go_simp)
    try simp only [Act.put, List.getElem_toArray, List.getElem_cons_succ, List.getElem_cons_zero, List.setIfInBounds_toArray, List.set_cons_zero, List.set_cons_succ]
    refine wpAnyH_take (i := 29) (v := (.pointer (some ⟨p, 0, none⟩))) rfl (by kernel_rfl) (by kernel_rfl) (by kernel_rfl) (fun _ _ _ h => h) (Or.inl ⟨by kernel_rfl, ?_⟩) (by with_reducible assumption) ?_
    focus (intro w hSw; (try dsimp only at hSw); obtain ⟨e0, e1, hs⟩ := hSw; go_simp)
    try simp only [Act.put, List.getElem_toArray, List.getElem_cons_succ, List.getElem_cons_zero, List.setIfInBounds_toArray, List.set_cons_zero, List.set_cons_succ]
    refine wpAnyH_take (i := 30) (v := (.pointer (some ⟨p, 0, none⟩))) rfl (by kernel_rfl) (by kernel_rfl) (by kernel_rfl) (fun _ _ _ h => h) (Or.inl ⟨by kernel_rfl, ?_⟩) (by with_reducible assumption) ?_
    focus (intro w hSw; (try dsimp only at hSw); obtain ⟨e0, e1, hs⟩ := hSw; go_simp)
    try simp only [Act.put, List.getElem_toArray, List.getElem_cons_succ, List.getElem_cons_zero, List.setIfInBounds_toArray, List.set_cons_zero, List.set_cons_succ]
    refine wpAnyH_take (i := 31) (v := (.pointer (some ⟨p, 1, none⟩))) rfl (by kernel_rfl) (by kernel_rfl) (by kernel_rfl) (fun _ _ _ h => h) (Or.inl ⟨by kernel_rfl, ?_⟩) (by with_reducible assumption) ?_
    focus (intro w hSw; (try dsimp only at hSw); obtain ⟨e0, e1, hs⟩ := hSw; go_simp)
    try simp only [Act.put, List.getElem_toArray, List.getElem_cons_succ, List.getElem_cons_zero, List.setIfInBounds_toArray, List.set_cons_zero, List.set_cons_succ]
    refine wpAnyH_take (i := 32) (v := (.int .i64 (a : Int))) rfl (by kernel_rfl) (by kernel_rfl) (by kernel_rfl) (fun _ _ _ h => h) (Or.inl ⟨by kernel_rfl, ?_⟩) (by with_reducible assumption) ?_
    focus (intro w hSw; (try dsimp only at hSw); obtain ⟨e0, e1, hs⟩ := hSw; go_simp)
    try simp only [Act.put, List.getElem_toArray, List.getElem_cons_succ, List.getElem_cons_zero, List.setIfInBounds_toArray, List.set_cons_zero, List.set_cons_succ]
    refine wpAnyH_take (i := 33) (v := (.int .i64 ((a : Int) + 4))) rfl (by kernel_rfl) (by kernel_rfl) (by kernel_rfl) (fun _ _ _ h => h) (Or.inl ⟨by kernel_rfl, ?_⟩) (by with_reducible assumption) ?_
    focus (intro w hSw; (try dsimp only at hSw); obtain ⟨e0, e1, hs⟩ := hSw; go_simp)
    try simp only [Act.put, List.getElem_toArray, List.getElem_cons_succ, List.getElem_cons_zero, List.setIfInBounds_toArray, List.set_cons_zero, List.set_cons_succ]
    refine wpAnyH_take (i := 34) (v := (.slice (some ⟨b1, o1 + a, none⟩) 4 4)) rfl (by kernel_rfl) (by kernel_rfl) (by kernel_rfl) (fun _ _ _ h => h) (Or.inl ⟨by kernel_rfl, ?_⟩) (by with_reducible assumption) ?_
    focus (intro w hSw; (try dsimp only at hSw); obtain ⟨e0, e1, hs⟩ := hSw; go_simp)
    try simp only [Act.put, List.getElem_toArray, List.getElem_cons_succ, List.getElem_cons_zero, List.setIfInBounds_toArray, List.set_cons_zero, List.set_cons_succ]
    refine wpAnyH_take (i := 35) (v := (.string (strB ((bs.drop a).take 4)))) rfl (by kernel_rfl) (by kernel_rfl) (by kernel_rfl) (fun _ _ _ h => h) (Or.inl ⟨by kernel_rfl, ?_⟩) (by with_reducible assumption) ?_
    focus (intro w hSw; (try dsimp only at hSw); obtain ⟨e0, e1, hs⟩ := hSw; have h55 := run_str (Hmid.out _ hs.out) Hmb.out (by rw [Hml.out]; decide); go_simp)
    try simp only [Act.put, List.getElem_toArray, List.getElem_cons_succ, List.getElem_cons_zero, List.setIfInBounds_toArray, List.set_cons_zero, List.set_cons_succ]
    obtain ⟨wd, hwd⟩ : ∃ x, (w.drewN nq).drew = x := ⟨_, rfl⟩
    have HGd := Lib.hid (show Gr w wd by rw [← hwd]; exact ((Fr.refl w NoneS).drewN nq).drew)
    rw [hwd] at hHeld ⊢
    clear hwd
    have HSd := Lib.hid (HS1.out.gr HGd.out)
    have HRd := Lib.hid (show Rd wd p _ a from HR1.out.fr HGd.out (fun h => h))
    have HCr := Lib.hid (of_any (Htk.out wd HSd.out) Htb.out (by rw [List.length_take]; omega))
    have HFr := Lib.hid (fun w' => four_any (crcN (bs.take a)) (crcN_lt Htb.out) w')
    have Hf4 := Lib.hid (show (four (crcN (bs.take a))).length = 4 by simp [four])
    have Hfb := Lib.hid (show Leb.Bs (four (crcN (bs.take a))) from fun c hc => four_byte _ c hc)
    refine wpAnyH_ready (rs := [13]) (by kernel_rfl) (by simp) ?_
    refine AllReadyH.cons rfl ?_ AllReadyH.nil
    intro K hK
    go_simp
    go_at_call 76
    refine (HCr.out).mono ?_
    rintro e w2 ⟨rfl, rfl⟩
    refine hK.out _ _ (hHeld) (fun hHeld => ?_)
    clear hK K
    try simp only [Act.put, List.getElem_toArray, List.getElem_cons_succ, List.getElem_cons_zero, List.setIfInBounds_toArray, List.set_cons_zero, List.set_cons_succ]
    refine wpAnyH_ready (rs := [14]) (by kernel_rfl) (by simp) ?_
    refine AllReadyH.cons rfl ?_ AllReadyH.nil
    intro K hK
    go_simp
    go_at_call 75
    refine (HFr.out _).mono ?_
    rintro e w2 hp
    obtain ⟨tw, rfl, hs, hg⟩ := four_sl hp
    have HSq := Lib.hid hs
    have HG2 := Lib.hid (HGd.out.trans hg (fun _ _ h => h))
    have HR2 := Lib.hid (show Rd w2 p _ a from HR1.out.fr HG2.out (fun h => h))
    have g0 : w2.cell? ⟨p, 0, none⟩ = some (.slice (some ⟨b1, o1, none⟩) bs.length cap) := by rw [Blk.cell HR2.out]; rfl
    have g1 : w2.cell? ⟨p, 1, none⟩ = some (.int .i64 (a : Int)) := by rw [Blk.cell HR2.out]; rfl
    clear hp hs hg hHeld
    refine hK.out _ _ (⟨g0, g1, Lib.hid (HS1.out.gr HG2.out)⟩) (fun hHeld => ?_)
    clear hK K
    try simp only [Act.put, List.getElem_toArray, List.getElem_cons_succ, List.getElem_cons_zero, List.setIfInBounds_toArray, List.set_cons_zero, List.set_cons_succ]
    have hst := run_str HSq.out Hfb.out (by rw [Hf4.out]; decide)
    refine wpAnyH_ready (rs := [15]) (by kernel_rfl) (by simp) ?_
    refine AllReadyH.cons rfl ?_ AllReadyH.nil
    intro K hK
    go_simp
    refine hK.out _ _ (hHeld) (fun hHeld => ?_)
    clear hK K
    try simp only [Act.put, List.getElem_toArray, List.getElem_cons_succ, List.getElem_cons_zero, List.setIfInBounds_toArray, List.set_cons_zero, List.set_cons_succ]
    have k0 := hHeld.1
    have k1 := hHeld.2.1
    by_cases hne : four (crcN (bs.take a)) = (bs.drop a).take 4
    · have hsb := strB_eq Hfb.out Hmb.out true (decide_eq_true hne)
      have Hne := Lib.hid hne
      clear hne hst Hfb Hmb
      generalize strB (four (crcN (bs.take a))) = sx at hsb ⊢
      generalize strB ((bs.drop a).take 4) = sy at hsb ⊢
      refine wpAnyH_take (i := 36) (v := (.bool false)) rfl (by kernel_rfl) (by kernel_rfl) (by kernel_rfl) (fun _ _ _ h => h) (Or.inl ⟨by kernel_rfl, ?_⟩) (by with_reducible assumption) ?_
      focus (intro w hSw; (try dsimp only at hSw); go_simp)
      try simp only [Act.put, List.getElem_toArray, List.getElem_cons_succ, List.getElem_cons_zero, List.setIfInBounds_toArray, List.set_cons_zero, List.set_cons_succ]
      refine wpAnyH_done (by kernel_rfl) ?_ _
      go_upto_region 4 with (fail)
      by_cases h5 : a + 4 < bs.length
      · have e5 : decide ((bs.length : Int) > (a : Int) + 4) = true := decide_eq_true (by omega)
        have e5' : decide ((a : Int) + 4 < (bs.length : Int)) = true := decide_eq_true (by omega)
        have Hr2 := Lib.hid (show r = .bad 5 (a + 4) by rw [← Hr.out]; unfold endR; rw [if_neg h4, if_neg (fun h => h Hne.out.symm), if_pos h5])
        go_quiet (fail)
        go_wp2_with fail
        refine ⟨rfl, ?_⟩
        rw [Hr2.out]
        exact ⟨rfl, (Gr.mono HG2.out _).drewN _⟩
      · have e5 : decide ((bs.length : Int) > (a : Int) + 4) = false := decide_eq_false (by omega)
        have e5' : decide ((a : Int) + 4 < (bs.length : Int)) = false := decide_eq_false (by omega)
        have Hr2 := Lib.hid (show r = .ok () a by rw [← Hr.out]; unfold endR; rw [if_neg h4, if_neg (fun h => h Hne.out.symm), if_neg h5])
        go_quiet (fail)
        go_wp2_with fail
        refine ⟨rfl, .tuple #[], by kernel_rfl, ?_⟩
        rw [Hr2.out]
        exact ⟨rfl, (Gr.mono HG2.out _).drewN _, HR2.out.drewN _⟩
    · have hsb := strB_eq Hfb.out Hmb.out false (decide_eq_false hne)
      have Hr2 := Lib.hid (show r = .bad 6 a by rw [← Hr.out]; unfold endR; rw [if_neg h4, if_pos (fun h => hne h.symm)])
      clear hne hst Hfb Hmb
      generalize strB (four (crcN (bs.take a))) = sx at hsb ⊢
      generalize strB ((bs.drop a).take 4) = sy at hsb ⊢
      refine wpAnyH_take (i := 36) (v := (.bool true)) rfl (by kernel_rfl) (by kernel_rfl) (by kernel_rfl) (fun _ _ _ h => h) (Or.inl ⟨by kernel_rfl, ?_⟩) (by with_reducible assumption) ?_
      focus (intro w hSw; (try dsimp only at hSw); go_simp)
      try simp only [Act.put, List.getElem_toArray, List.getElem_cons_succ, List.getElem_cons_zero, List.setIfInBounds_toArray, List.set_cons_zero, List.set_cons_succ]
      refine wpAnyH_done (by kernel_rfl) ?_ _
      go_wp2_with fail
      refine ⟨rfl, ?_⟩
      rw [Hr2.out]
      exact ⟨rfl, Gr.mono HG2.out _⟩
end Vf
end Go.Proofs.Ytlodbhlidgepfaa

namespace Go.Proofs.Ytlodbhlidgepfaa
open Go.RowKit
open Voc Leb Crc
namespace Vf
def Fr3 (w w' : World) (q1 q2 q3 : Nat) : Prop := Fr w w' (fun k => k = q1 ∨ k = q2 ∨ k = q3)
theorem ta_fault (E : Int) (x : Nat) (w : World) : (Instr.typeAssert (.iface 104 (.agg #[.int .i64 E, .int .i64 (x : Int)])) 20 104 true).run Try.prog w = .ok (.tuple #[.agg #[.int .i64 E, .int .i64 (x : Int)], .bool true]) w := by kernel_rfl
theorem ta_nil (w : World) : (Instr.typeAssert .nilIface 20 104 true).run Try.prog w = .ok (.tuple #[.agg #[.int .i64 0, .int .i64 0], .bool false]) w := by kernel_rfl
set_option maxRecDepth 20000 in
set_option maxHeartbeats 1000000 in
theorem catch_panicking (q1 q2 q3 : Nat) (a1 a2 a3 : Value) (E : Int) (x : Nat) (w : World) (h1 : Blk w q1 27 #[a1]) (h2 : Blk w q2 3 #[a2]) (h3 : Blk w q3 35 #[a3]) :
    CallsD Try.prog 53 #[.pointer (some ⟨q1, 0, none⟩), .pointer (some ⟨q2, 0, none⟩), .pointer (some ⟨q3, 0, none⟩)] (.panicking (flt E x)) w fun e u' w' =>
      e = .returned (.tuple #[]) ∧ u' = .panicking [{ v := .iface 104 (.agg #[.int .i64 E, .int .i64 (x : Int)]), recovered := true }] ∧
      Blk w' q1 27 #[.slice none 0 0] ∧ Blk w' q2 3 #[.int .i64 (x : Int)] ∧ Blk w' q3 35 #[.int .i64 E] ∧ Fr3 w w' q1 q2 q3 := by
  have H1 := Lib.hid h1
  have H2 := Lib.hid h2
  have H3 := Lib.hid h3
  clear h1 h2 h3
  refine callsD_of_wpS Try.func53 rfl fun c₀ cs hu => ?_
  apply wpS_seq
  apply wpS_region
  simp [wpOpsS, go_sem, recoverD, hu, Try.ntmps53, Exit.thenS, flt, ta_fault]
  refine wpS_of_wp ?_
  rw [show Array.replicate 13 undef = #[undef, undef, undef, undef, undef, undef, undef, undef, undef, undef, undef, undef, undef] from rfl]
  simp only [List.setIfInBounds_toArray, List.set_cons_zero, List.set_cons_succ, List.append_toArray, List.cons_append, List.nil_append]
  have HG := Lib.hid ((Fr.refl w NoneS).alloc (.cells #[.int .i64 E, .int .i64 (x : Int)] 104))
  have HBf := Lib.hid (Blk.new w 104 #[.int .i64 E, .int .i64 (x : Int)])
  have B1 := Lib.hid (H1.out.fr HG.out (fun h => h))
  have B2 := Lib.hid (H2.out.fr HG.out (fun h => h))
  have B3 := Lib.hid (H3.out.fr HG.out (fun h => h))
  obtain ⟨f, hf⟩ : ∃ f, w.heap.size = f := ⟨_, rfl⟩
  have Hf := Lib.hid hf
  rw [hf] at HBf ⊢
  clear hf
  generalize World.alloc w _ = w1 at HG HBf B1 B2 B3 ⊢
  have d1 : w1.cell? ⟨f, 0, none⟩ = some (.int .i64 E) := by rw [HBf.out.cell]; rfl
  have d2 : w1.cell? ⟨f, 1, none⟩ = some (.int .i64 (x : Int)) := by rw [HBf.out.cell]; rfl
  have c1 : w1.cell? ⟨q1, 0, none⟩ = some a1 := by rw [B1.out.cell]; rfl
  have c2 : w1.cell? ⟨q2, 0, none⟩ = some a2 := by rw [B2.out.cell]; rfl
  have c3 : w1.cell? ⟨q3, 0, none⟩ = some a3 := by rw [B3.out.cell]; rfl
  have z1 : w1.frozen? ⟨q1, 0, none⟩ = false := B1.out.frozen 0
  have z2 : w1.frozen? ⟨q2, 0, none⟩ = false := B2.out.frozen 0
  have z3 : w1.frozen? ⟨q3, 0, none⟩ = false := B3.out.frozen 0
  have n12 : q1 ≠ q2 := H1.out.ne_ H2.out (by decide)
  have n13 : q1 ≠ q3 := H1.out.ne_ H3.out (by decide)
  have n23 : q2 ≠ q3 := H2.out.ne_ H3.out (by decide)
  have nf1 : q1 ≠ f := B1.out.ne_ HBf.out (by decide)
  have nf2 : q2 ≠ f := B2.out.ne_ HBf.out (by decide)
  have nf3 : q3 ≠ f := B3.out.ne_ HBf.out (by decide)
  have n21 := n12.symm
  have n31 := n13.symm
  have n32 := n23.symm
  have mf1 := nf1.symm
  have mf2 := nf2.symm
  have mf3 := nf3.symm
  go_upto_region 2 with (fail)
  go_region
  go_wp2_with fail
  refine ⟨rfl, _, rfl, .tuple #[], by kernel_rfl, rfl, rfl, ?_⟩
  have b1 := (((B1.out.set_ 0 (.slice none 0 0)).far (p := ⟨q2, 0, none⟩) n12 (.int .i64 (x : Int))).far (p := ⟨q3, 0, none⟩) n13 (.int .i64 E)).drew
  have b2 := (((B2.out.far (p := ⟨q1, 0, none⟩) n21 (.slice none 0 0)).set_ 0 (.int .i64 (x : Int))).far (p := ⟨q3, 0, none⟩) n23 (.int .i64 E)).drew
  have b3 := (((B3.out.far (p := ⟨q1, 0, none⟩) n31 (.slice none 0 0)).far (p := ⟨q2, 0, none⟩) n32 (.int .i64 (x : Int))).set_ 0 (.int .i64 E)).drew
  refine ⟨b1, b2, b3, ?_⟩
  exact ((((HG.out.mono (fun _ _ h => h.elim)).setCell (p := ⟨q1, 0, none⟩) (fun _ => .inl rfl) _).setCell (p := ⟨q2, 0, none⟩) (fun _ => .inr (.inl rfl)) _).setCell (p := ⟨q3, 0, none⟩) (fun _ => .inr (.inr rfl)) _).drew
set_option maxRecDepth 20000 in
set_option maxHeartbeats 1000000 in
theorem catch_idle (p1 p2 p3 : Value) (w : World) :
    CallsD Try.prog 53 #[p1, p2, p3] .returning w fun e u' w' => e = .returned (.tuple #[]) ∧ u' = .returning ∧ Gr w w' := by
  refine callsD_of_wpS Try.func53 rfl fun c₀ cs hu => ?_
  apply wpS_seq
  apply wpS_region
  simp [wpOpsS, go_sem, recoverD, hu, Try.ntmps53, Exit.thenS, ta_nil]
  refine wpS_of_wp ?_
  rw [show Array.replicate 13 undef = #[undef, undef, undef, undef, undef, undef, undef, undef, undef, undef, undef, undef, undef] from rfl]
  simp only [List.setIfInBounds_toArray, List.set_cons_zero, List.set_cons_succ, List.append_toArray, List.cons_append, List.nil_append]
  go_wp2_with fail
  refine ⟨rfl, .returning, ?_, .tuple #[], by kernel_rfl, rfl, rfl, (Fr.refl w NoneS).alloc _⟩
  cases c₀
  simp_all
end Vf
end Go.Proofs.Ytlodbhlidgepfaa
