/- sha: Parse, and the reference's; the reference's Text. -/
import Derived.Test.YtfpgfnmidkkgjaaHLc
import Derived.StillTailTactics
set_option linter.unusedVariables false
set_option linter.unusedSimpArgs false
namespace Go.Proofs.Ytfpgfnmidkkgjaa
open Go.RowKit

theorem results_cell_tmp {P : Program} {fn : Func} {p q : Tmp} {ty : TypeId} (h : fn.results = #[.cell p ty, .tmp q]) (tmps : Array Value) (w : World) (g : Nat) (t : TypeId) (cs : Array Value) (fr : Nat × Nat) (d : TypeDesc) (u : Value)
    (hp : tmps.getD p undef = .pointer (some ⟨g, 0, none⟩)) (hq : tmps.getD q undef = u) (hg : w.heap[g]? = some (.cells cs t fr))
    (hu : P.underlying ty = some d) (hd : (match d with | .struct _ | .array _ _ => true | _ => false) = true) (hi : (P.info? ty).map (·.size) = some cs.size) :
    (results fn tmps).run P w = .ok (.tuple #[.agg cs, u]) w := by
  have hp' : tmps[p]?.getD undef = .pointer (some ⟨g, 0, none⟩) := by simpa using hp
  have hq' : tmps[q]?.getD undef = u := by simpa using hq
  simp [results, h, hp', hq', asAddr, run_loadVar_row w g t ty cs fr d hg hu hd hi]

namespace Sha
/-- a digit's value; 16: it is none -/
def hv (c : B) : Nat := if 48 ≤ c.toNat ∧ c.toNat ≤ 57 then c.toNat - 48 else if 97 ≤ c.toNat ∧ c.toNat ≤ 102 then c.toNat - 87 else 16
theorem hv_le (c : B) : hv c ≤ 16 := by unfold hv; split; omega; split <;> omega
theorem hv_dg : ∀ n : Fin 16, hv (dg n.val) = n.val := by decide +kernel
theorem dg_hv (c : B) (h : hv c ≠ 16) : dg (hv c) = c := by
  have : ∀ n : Fin 256, hv (BitVec.ofNat 8 n.val) ≠ 16 → dg (hv (BitVec.ofNat 8 n.val)) = BitVec.ofNat 8 n.val := by decide +kernel
  have h1 := this ⟨c.toNat, c.isLt⟩
  simp at h1
  exact h1 h
theorem dg_nat : ∀ n : Fin 16, (dg n.val).toNat = if n.val < 10 then 48 + n.val else 87 + n.val := by decide +kernel
/-- letter k of a text -/
def chr (s : ByteArray) (k : Nat) : B := (s.data.toList.getD k 0).toBitVec
def GoodAt (s : ByteArray) (j : Nat) : Prop := hv (chr s (2 * j)) ≠ 16 ∧ hv (chr s (2 * j + 1)) ≠ 16
def Good (s : ByteArray) : Prop := s.size = 64 ∧ ∀ j, j < 32 → GoodAt s j
def nib (s : ByteArray) (j : Nat) : B := BitVec.ofNat 8 (16 * hv (chr s (2 * j)) + hv (chr s (2 * j + 1)))
def prs (s : ByteArray) : List B := (List.range 32).map (nib s)
theorem prs_len (s : ByteArray) : (prs s).length = 32 := by simp [prs]
theorem prs_get (s : ByteArray) (j : Nat) (h : j < 32) : (prs s).getD j 0 = nib s j := by simp [prs, List.getElem?_range, h]
open Classical in
noncomputable def pd (s : ByteArray) : List B := if Good s then prs s else List.replicate 32 0
open Classical in
noncomputable def pe (s : ByteArray) : Int := if Good s then 0 else 5

/-- sha's value -/
def vI (c : B) : Int := if hv c = 16 then -1 else (hv c : Int)
def vN (n : Nat) : Int := if 48 ≤ n ∧ n ≤ 57 then (n : Int) - 48 else if 97 ≤ n ∧ n ≤ 102 then (n : Int) - 87 else -1
theorem vI_vN (c : B) : vI c = vN c.toNat := by
  unfold vI hv vN
  by_cases h1 : 48 ≤ c.toNat ∧ c.toNat ≤ 57
  · rw [if_pos h1, if_pos h1, if_neg (by omega)]; omega
  · rw [if_neg h1, if_neg h1]
    by_cases h2 : 97 ≤ c.toNat ∧ c.toNat ≤ 102
    · rw [if_pos h2, if_pos h2, if_neg (by omega)]; omega
    · rw [if_neg h2, if_neg h2, if_pos rfl]
theorem value_nat (n : Nat) (hn : n < 256) (w : World) : Calls Try.prog 38 #[.int .u8 (n : Int)] w fun e w' => e = .returned (.int .i64 (vN n)) ∧ w' = w := by
  have Hn := Lib.hid hn
  clear hn
  go_enter Try.func38, Try.ntmps38
  go_wp2_with fail
  all_goals go_ret
  all_goals refine ⟨?_, rfl⟩
  all_goals exact congrArg (fun x => Ending.returned (.int .i64 x)) (by unfold vN; (repeat' split) <;> omega)
theorem value_any (c : B) (w : World) : Calls Try.prog 38 #[C c] w fun e w' => e = .returned (.int .i64 (vI c)) ∧ w' = w := by
  rw [vI_vN]; exact value_nat c.toNat c.isLt w

theorem digit_any (n : Nat) (h : n < 16) (w : World) : Calls Try.prog 40 #[.int .u8 (n : Int)] w fun e w' => e = .returned (C (dg n)) ∧ w' = w := by
  have hd := dg_nat ⟨n, h⟩
  simp only [] at hd
  by_cases h1 : n < 10
  · rw [if_pos h1] at hd
    have Hd := Lib.hid hd
    have a1 : (n : Int) < 10 := by omega
    clear hd h1 h
    go_enter Try.func40, Try.ntmps40
    go_wp2_with fail
    go_ret
    refine ⟨?_, rfl⟩
    unfold C
    rw [Hd.out, Int.natCast_add]; rfl
  · rw [if_neg h1] at hd
    have Hd := Lib.hid hd
    have a1 : decide ((n : Int) < 10) = false := decide_eq_false (by omega)
    have a2 : (n : Int) ≤ 15 := by omega
    clear hd h1 h
    go_enter Try.func40, Try.ntmps40
    go_wp2_with fail
    go_ret
    refine ⟨?_, rfl⟩
    unfold C
    rw [Hd.out]
    exact congrArg (fun x => Ending.returned (.int .u8 x)) (by omega)

theorem rvalue_any (c : B) (w : World) : Calls Try.prog 39 #[C c] w fun e w' => e = .returned (.int .u8 (hv c : Int)) ∧ w' = w := by
  have Hl := Lib.hid (hv_le c)
  have Hd := Lib.hid (fun (n : Nat) (h : n < 16) (e : dg n = c) => show hv c = n by rw [← e]; exact hv_dg ⟨n, h⟩)
  have Hv := Lib.hid (dg_hv c)
  go_enter Try.func39, Try.ntmps39
  go_wp2_with fail
  go_loopg [3] 17 (fun m s3 wr => ∃ k : Nat, s3 = .int .u8 k ∧ Hid (k ≤ 16 ∧ 16 - k < m ∧ k ≤ hv c) ∧ Hid (wr = w))
  case atStart => exact ⟨0, rfl, ⟨by omega, by omega, by omega⟩, rfl⟩
  case round =>
    obtain ⟨k, rfl, HK, HW⟩ := hrel
    obtain rfl := HW.out
    by_cases hk : k < 16
    · have hki : (k : Int) < 16 := by omega
      by_cases hx : dg k = c
      · have he := Hd.out k hk hx
        have hb : ((dg k).toNat : Int) = (c.toNat : Int) := by rw [hx]
        have hb1 : (((dg k).toNat : Int) == (c.toNat : Int)) = true := beq_iff_eq.2 hb
        have hb2 : ((dg k).toNat == c.toNat) = true := by rw [beq_iff_eq, hx]
        have He := Lib.hid he
        clear hx hb he
        go_wp2_with (go_at_call 40; refine (digit_any k hk _).mono ?_; rintro e w' ⟨rfl, rfl⟩)
        go_ret
        exact ⟨by rw [He.out]; rfl, rfl⟩
      · have hn : (dg k).toNat ≠ c.toNat := fun h => hx (BitVec.eq_of_toNat_eq h)
        have hb1 : (((dg k).toNat : Int) == (c.toNat : Int)) = false := beq_eq_false_iff_ne.2 (by omega)
        have hb2 : ((dg k).toNat == c.toNat) = false := beq_eq_false_iff_ne.2 hn
        have Hx := Lib.hid hx
        clear hx hn
        go_wp2_with (go_at_call 40; refine (digit_any k hk _).mono ?_; rintro e w' ⟨rfl, rfl⟩)
        go_roundg (gk - 1)
        case measure => have := HK.out; omega
        case rel =>
          refine ⟨k + 1, by go_num, ⟨hk, by have := HK.out; omega, ?_⟩, rfl⟩
          have h1 := HK.out.2.2
          rcases Nat.lt_or_ge k (hv c) with h | h
          · exact h
          · have h2 : hv c = k := by omega
            exact absurd (by have := Hv.out (by omega); rw [h2] at this; exact this) Hx.out
    · obtain rfl : k = 16 := by have := HK.out; omega
      have He := Lib.hid (show hv c = 16 by have := HK.out; have := Hl.out; omega)
      go_wp2_with fail
      go_ret
      exact ⟨by rw [He.out]; rfl, rfl⟩
end Sha
end Go.Proofs.Ytfpgfnmidkkgjaa
