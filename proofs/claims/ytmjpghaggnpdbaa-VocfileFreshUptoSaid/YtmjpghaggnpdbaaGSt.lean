/- bytes as a string; a part of a slice. -/
import Derived.Test.YtmjpghaggnpdbaaBWa
import Derived.Laws.IdiomStrings
set_option linter.unusedVariables false
set_option linter.unusedSimpArgs false
namespace Go.Proofs.Ytmjpghaggnpdbaa
open Go.RowKit
open Voc Leb
namespace Vf
def strB (bs : List Int) : ByteArray := ⟨(bs.map fun c => UInt8.ofNat c.toNat).toArray⟩
theorem u8_back {c : Int} (h : 0 ≤ c ∧ c < 256) : (((UInt8.ofNat c.toNat).toNat : Nat) : Int) = c := by
  rw [UInt8.toNat_ofNat']
  have : c.toNat % 2 ^ 8 = c.toNat := Nat.mod_eq_of_lt (by omega)
  rw [this]; omega
theorem strB_inj {x y : List Int} (hx : Leb.Bs x) (hy : Leb.Bs y) (h : strB x = strB y) : x = y := by
  unfold strB at h
  injection h with h
  have h := congrArg Array.toList h
  simp only at h
  have hl : x.length = y.length := by simpa using congrArg List.length h
  apply List.ext_getElem hl
  intro i h1 h2
  have e := List.ext_getElem_iff.1 h |>.2 i (by simpa using h1) (by simpa using h2)
  rw [List.getElem_map, List.getElem_map] at e
  have a := u8_back (hx _ (List.getElem_mem h1))
  have b := u8_back (hy _ (List.getElem_mem h2))
  rw [e] at a
  rw [← a, b]
theorem run_str {w : World} {v : Value} {bs : List Int} (hs : SL encB w v bs) (hb : Leb.Bs bs) (h0 : 0 < bs.length) : (convert 22 9 v).run Try.prog w = .ok (.string (strB bs)) w := by
  obtain ⟨A, cap, rfl, hc, hr⟩ := hs
  obtain ⟨b, off, rfl, hlt, hcell⟩ := hr h0
  have := run_convert_bytes_back (P := Try.prog) w 22 9 5 ⟨b, off, none⟩ cap (bs.map fun c => UInt8.ofNat c.toNat) Try.underlying22 Try.underlying5 Try.underlying9 (fun j hj => by
    have hj' : j < bs.length := by simpa using hj
    rw [addr_add, hcell j (.int .u8 bs[j]) (by
      have := get_flatMap encB 1 (fun _ => rfl) bs j 0 (by omega)
      rw [Nat.mul_one, Nat.add_zero] at this
      rw [this, List.getElem?_eq_getElem hj']; rfl)]
    rw [List.getElem_map, u8_back (hb _ (List.getElem_mem hj'))])
  rw [List.length_map] at this
  exact this
theorem strB_eq {x y : List Int} (hx : Leb.Bs x) (hy : Leb.Bs y) (b : Bool) (h : decide (x = y) = b) : ((strB x).toList == (strB y).toList) = b := by
  subst h
  by_cases e : x = y
  · subst e; simp
  · rw [decide_eq_false e, beq_eq_false_iff_ne]
    intro h
    rw [ByteArray.toList_eq, ByteArray.toList_eq] at h
    apply e
    apply strB_inj hx hy
    cases hx' : strB x
    cases hy' : strB y
    rw [hx', hy'] at h
    simp only at h
    congr 1
    exact Array.toList_inj.1 h
theorem sl_mid {α : Type} {enc : α → List Value} {w : World} {xs : List α} {A : Option Addr} {n cap lo k s : Nat} (h : SL enc w (.slice A n cap) xs) (hs : ∀ x, (enc x).length = s) (hk : lo + k ≤ n) :
    SL enc w (.slice (if k = 0 then A else A.map (fun x => x.add (lo * s))) k k) ((xs.drop lo).take k) := by
  have hn : n = xs.length := by obtain ⟨_, _, hv, _⟩ := h; injection hv
  by_cases h0 : k = 0
  · subst h0
    rw [if_pos rfl, List.take_zero]
    exact SL.empty _ _ _
  · rw [if_neg h0]
    have h1 := h.from_ hs (k := lo) (by omega)
    have hcap : n ≤ cap := by obtain ⟨_, _, hv, hc, _⟩ := h; injection hv with _ a b; omega
    rw [if_neg (by omega)] at h1
    have h2 := h1.take (k := k) (by rw [List.length_drop]; omega)
    obtain ⟨A', c', hv, hc, hr⟩ := h2
    injection hv with e1 e2 e3
    subst e1
    refine ⟨_, k, by rw [← e2], by rw [← e2]; exact Nat.le_refl _, hr⟩
theorem run_slice_mid3 {P : Program} (t e : TypeId) (i : TypeInfo) (size : Nat) (ht : P.underlying t = some (.slice e)) (hi : P.info? e = some i) (hsz : i.size = size) (A : Option Addr) (n cap lo k : Nat) (h : Int) (hh : h = (lo : Int) + (k : Int)) (hk : lo + k ≤ cap) (w : World) :
    (Instr.slice t (.slice A n cap) (some (.int .i64 (lo : Int))) (some (.int .i64 h)) (some (.int .i64 h))).run P w = .ok (.slice (if k = 0 then A else A.map (fun x => x.add (lo * size))) k k) w := by
  subst hh
  have h1 : (0 : Int) ≤ (lo : Int) ∧ (lo : Int) ≤ (lo : Int) + (k : Int) := by omega
  have h2 : (0 : Int) ≤ (lo : Int) + (k : Int) ∧ (lo : Int) + (k : Int) ≤ cap := by omega
  have h3 : ((lo : Int) + (k : Int)).toNat = lo + k := by omega
  simp [Instr.slice, Instr.sliceBounds, run_underlying ht, sizeOf, typeInfo, hi, go_sem, h1, h2, h3, hsz]
end Vf
end Go.Proofs.Ytmjpghaggnpdbaa
