/- pack and record, in plain Lean: a row's bytes, a record's bytes, and back. -/
import Derived.Test.YtobedpohoellkaaBWa
set_option linter.unusedVariables false
set_option linter.unusedSimpArgs false
namespace Go.Proofs.Ytobedpohoellkaa
open Go.RowKit
open Leb
namespace Rec
def foldN (n : Int) : Nat := if 0 ≤ n then 2 * n.toNat else 2 * (-(n + 1)).toNat + 1
def unfI (u : Nat) : Int := if u % 2 = 0 then ((u / 2 : Nat) : Int) else -((u / 2 : Nat) : Int) - 1
theorem unf_fold (n : Int) : unfI (foldN n) = n := by
  unfold foldN
  by_cases h : 0 ≤ n
  · rw [if_pos h]; unfold unfI; rw [if_pos (by omega)]; omega
  · rw [if_neg h]; unfold unfI; rw [if_neg (by omega)]; omega
theorem fold_unf (u : Nat) : foldN (unfI u) = u := by
  unfold unfI
  by_cases h : u % 2 = 0
  · rw [if_pos h]; unfold foldN; rw [if_pos (by omega)]; omega
  · rw [if_neg h]; unfold foldN; rw [if_neg (by omega)]; omega
theorem foldN_lt {n : Int} (h : -1048576 ≤ n ∧ n ≤ 1048576) : foldN n < 2 ^ 64 := by
  have h2 : (2 : Nat) ^ 64 = 18446744073709551616 := by decide
  unfold foldN; split <;> omega
def badT (x : Int) : Bool := decide (x < 0) || decide (1048575 < x)
theorem badT_no {x : Int} (h : badT x = false) : 0 ≤ x ∧ x ≤ 1048575 := by unfold badT at h; simp at h; omega
theorem badT_of {x : Int} (h : 0 ≤ x ∧ x ≤ 1048575) : badT x = false := by unfold badT; simp; omega
def deltas : Int → List Int → List Int
  | _, [] => []
  | was, x :: l => putL (foldN (x - was)) ++ deltas x l
def packE (l : List Int) : List Int × Int := if 65536 < l.length then ([], 3) else if l.any badT = true then ([], 2) else (putL l.length ++ deltas 0 l, 0)
def rowR (bs : List Int) : Nat → List Int → Int → Nat → List Int × Nat × Int
  | 0, l, _, a => (l, a, 0)
  | n + 1, l, was, a =>
    if (lebE (bs.drop a)).2.2 ≠ 0 then ([], 0, (lebE (bs.drop a)).2.2)
    else if unfI (lebE (bs.drop a)).1 < -was ∨ 1048575 - was < unfI (lebE (bs.drop a)).1 then ([], 0, 5)
    else rowR bs n (l ++ [was + unfI (lebE (bs.drop a)).1]) (was + unfI (lebE (bs.drop a)).1) (a + (lebE (bs.drop a)).2.1)
def unpackE (bs : List Int) (a : Nat) : List Int × Nat × Int :=
  if (lebE (bs.drop a)).2.2 ≠ 0 then ([], 0, (lebE (bs.drop a)).2.2)
  else if 65536 < (lebE (bs.drop a)).1 then ([], 0, 3)
  else rowR bs (lebE (bs.drop a)).1 [] 0 (a + (lebE (bs.drop a)).2.1)

theorem drop_more {bs p r : List Int} {a : Nat} (h : bs.drop a = p ++ r) : bs.drop (a + p.length) = r := by
  rw [← List.drop_drop, h, List.drop_left]
theorem rowR_deltas {bs : List Int} : ∀ (l : List Int) (was : Int) (pre : List Int) (a : Nat) (r : List Int), (∀ x ∈ l, badT x = false) → 0 ≤ was ∧ was ≤ 1048575 → bs.drop a = deltas was l ++ r → rowR bs l.length pre was a = (pre ++ l, a + (deltas was l).length, 0)
  | [], was, pre, a, r, _, _, _ => by simp [rowR, deltas]
  | x :: l, was, pre, a, r, hb, hw, h => by
    have hx := badT_no (hb x (by simp))
    simp only [deltas] at h
    rw [List.append_assoc] at h
    have hl := lebE_put (foldN (x - was)) (foldN_lt (by omega)) (deltas x l ++ r)
    have hd := drop_more h
    simp only [List.length_cons, rowR]
    rw [h, hl]
    simp only [unf_fold]
    rw [if_neg (by omega), if_neg (by omega), show was + (x - was) = x by omega]
    rw [rowR_deltas l x (pre ++ [x]) _ r (fun y hy => hb y (List.mem_cons_of_mem _ hy)) hx hd]
    simp only [deltas, List.length_append, List.append_assoc, List.singleton_append, Nat.add_assoc]
theorem any_no {l : List Int} (h : ¬ (l.any badT = true)) : ∀ x ∈ l, badT x = false := by
  intro x hx
  cases hb : badT x with
  | false => rfl
  | true => exact absurd (List.any_eq_true.2 ⟨x, hx, hb⟩) h
theorem any_of {l : List Int} (h : ∀ x ∈ l, badT x = false) : ¬ (l.any badT = true) := by
  rw [List.any_eq_true]; rintro ⟨x, hx, hb⟩; rw [h x hx] at hb; cases hb
theorem packE_ok {l p : List Int} (h : packE l = (p, 0)) : l.length ≤ 65536 ∧ (∀ x ∈ l, badT x = false) ∧ p = putL l.length ++ deltas 0 l := by
  unfold packE at h
  split at h
  · cases h
  · rename_i h1
    split at h
    · cases h
    · rename_i h2
      injection h with h _
      exact ⟨by omega, any_no h2, h.symm⟩
theorem packE_of {l : List Int} (h1 : l.length ≤ 65536) (h2 : ∀ x ∈ l, badT x = false) : packE l = (putL l.length ++ deltas 0 l, 0) := by
  unfold packE; rw [if_neg (by omega), if_neg (any_of h2)]
theorem unpack_pack {bs l p r : List Int} {a : Nat} (h : packE l = (p, 0)) (hd : bs.drop a = p ++ r) : unpackE bs a = (l, a + p.length, 0) := by
  obtain ⟨h1, h2, rfl⟩ := packE_ok h
  rw [List.append_assoc] at hd
  have hl := lebE_put l.length (by have : (2 : Nat) ^ 64 = 18446744073709551616 := by decide
                                   omega) (deltas 0 l ++ r)
  have hm := drop_more hd
  unfold unpackE
  rw [hd, hl]
  simp only
  rw [if_neg (by omega), if_neg (by omega), rowR_deltas l 0 [] _ r h2 (by omega) hm, List.length_append, Nat.add_assoc]
  rfl
theorem rowR_read {bs : List Int} (hb : ∀ c ∈ bs, 0 ≤ c ∧ c < 256) : ∀ (n : Nat) (pre : List Int) (was : Int) (a : Nat) (l : List Int) (e : Nat), a ≤ bs.length → 0 ≤ was ∧ was ≤ 1048575 → rowR bs n pre was a = (l, e, 0) →
    ∃ l', l = pre ++ l' ∧ l'.length = n ∧ (∀ x ∈ l', badT x = false) ∧ bs.drop a = deltas was l' ++ bs.drop e ∧ e ≤ bs.length
  | 0, pre, was, a, l, e, ha, _, h => by
    simp only [rowR] at h
    injection h with h1 h2
    injection h2 with h2 _
    subst h1 h2
    exact ⟨[], by simp, rfl, by simp, by simp [deltas], ha⟩
  | n + 1, pre, was, a, l, e, ha, hw, h => by
    simp only [rowR] at h
    split at h
    · rename_i h1; injection h with _ h; injection h with _ h; exact absurd h h1
    · rename_i h1
      split at h
      · cases h
      · rename_i h2
        obtain ⟨u, k, e0, hu⟩ : ∃ u k e0, lebE (bs.drop a) = (u, k, e0) := ⟨_, _, _, rfl⟩
        rw [hu] at h h1 h2
        simp only at h h1 h2
        obtain rfl : e0 = 0 := Decidable.byContradiction h1
        obtain ⟨g1, g2, g3, g4⟩ := putL_read (fun c hc => hb c (List.mem_of_mem_drop hc)) hu
        rw [List.length_drop] at g2
        obtain ⟨l', r1, r2, r3, r4, r5⟩ := rowR_read hb n _ _ _ l e (by omega) (by omega) h
        refine ⟨(was + unfI u) :: l', by rw [r1]; simp, by simp [r2], ?_, ?_, r5⟩
        · intro x hx
          rcases List.mem_cons.1 hx with h | h
          · rw [h]; exact badT_of (by omega)
          · exact r3 x h
        · simp only [deltas]
          rw [show was + unfI u - was = unfI u by omega, fold_unf, ← g1, List.append_assoc, ← r4, ← List.drop_drop, List.take_append_drop]
theorem unpack_read {bs l : List Int} {a e : Nat} (hb : ∀ c ∈ bs, 0 ≤ c ∧ c < 256) (ha : a ≤ bs.length) (h : unpackE bs a = (l, e, 0)) : packE l = (putL l.length ++ deltas 0 l, 0) ∧ bs.drop a = (putL l.length ++ deltas 0 l) ++ bs.drop e ∧ e ≤ bs.length := by
  unfold unpackE at h
  split at h
  · rename_i h1; injection h with _ h; injection h with _ h; exact absurd h h1
  · rename_i h1
    split at h
    · cases h
    · rename_i h2
      obtain ⟨u, k, e0, hu⟩ : ∃ u k e0, lebE (bs.drop a) = (u, k, e0) := ⟨_, _, _, rfl⟩
      rw [hu] at h h1 h2
      simp only at h h1 h2
      obtain rfl : e0 = 0 := Decidable.byContradiction h1
      obtain ⟨g1, g2, g3, g4⟩ := putL_read (fun c hc => hb c (List.mem_of_mem_drop hc)) hu
      rw [List.length_drop] at g2
      obtain ⟨l', r1, r2, r3, r4, r5⟩ := rowR_read hb u _ _ _ l e (by omega) (by omega) h
      rw [List.nil_append] at r1
      subst r1
      refine ⟨packE_of (by omega) r3, ?_, r5⟩
      rw [r2, ← g1, List.append_assoc, ← r4, ← List.drop_drop, List.take_append_drop]

/-! ### records -/
structure Rc where
  d : List Int
  v : Int
  n : Int
  t : List Int
def zeroR : Rc := ⟨List.replicate 32 0, 0, 0, []⟩
def le8 (v : Int) : List Int := [v % 256, v / 256 % 256, v / 65536 % 256, v / 16777216 % 256, v / 4294967296 % 256, v / 1099511627776 % 256, v / 281474976710656 % 256, v / 72057594037927936 % 256]
def un8 (b : List Int) : Int := b.getD 0 0 + 256 * (b.getD 1 0 + 256 * (b.getD 2 0 + 256 * (b.getD 3 0 + 256 * (b.getD 4 0 + 256 * (b.getD 5 0 + 256 * (b.getD 6 0 + 256 * b.getD 7 0))))))
def putR (r : Rc) : List Int × Int := if r.n < 0 ∨ 4096 < r.n then ([], 2) else if (packE r.t).2 ≠ 0 then ([], (packE r.t).2) else (r.d ++ (le8 r.v ++ (putL r.n.toNat ++ (packE r.t).1)), 0)
def getR (bs : List Int) : Rc × Int :=
  if bs.length < 40 then (zeroR, 4)
  else if (lebE (bs.drop 40)).2.2 ≠ 0 then (zeroR, (lebE (bs.drop 40)).2.2)
  else if 4096 < (lebE (bs.drop 40)).1 then (zeroR, 3)
  else if (unpackE bs (40 + (lebE (bs.drop 40)).2.1)).2.2 ≠ 0 then (zeroR, (unpackE bs (40 + (lebE (bs.drop 40)).2.1)).2.2)
  else if (unpackE bs (40 + (lebE (bs.drop 40)).2.1)).2.1 < bs.length then (zeroR, 5)
  else (⟨bs.take 32, un8 (bs.drop 32), ((lebE (bs.drop 40)).1 : Nat), (unpackE bs (40 + (lebE (bs.drop 40)).2.1)).1⟩, 0)
theorem le8_len (v : Int) : (le8 v).length = 8 := rfl
theorem un8_le8 {v : Int} (h : 0 ≤ v ∧ v < 18446744073709551616) (r : List Int) : un8 (le8 v ++ r) = v := by
  simp only [un8, le8, List.cons_append, List.getD_cons_zero, List.getD_cons_succ]
  omega
theorem le8_un8 {b : List Int} (hb : ∀ c ∈ b, 0 ≤ c ∧ c < 256) (hl : 8 ≤ b.length) : le8 (un8 b) = b.take 8 := by
  match b, hl with
  | c0 :: c1 :: c2 :: c3 :: c4 :: c5 :: c6 :: c7 :: r, _ =>
    have h0 := hb c0 (by simp)
    have h1 := hb c1 (by simp)
    have h2 := hb c2 (by simp)
    have h3 := hb c3 (by simp)
    have h4 := hb c4 (by simp)
    have h5 := hb c5 (by simp)
    have h6 := hb c6 (by simp)
    have h7 := hb c7 (by simp)
    simp only [un8, le8, List.getD_cons_zero, List.getD_cons_succ, List.take_succ_cons, List.take_zero]
    simp only [List.cons.injEq, and_true]
    refine ⟨?_, ?_, ?_, ?_, ?_, ?_, ?_, ?_⟩ <;> omega
theorem un8_in {b : List Int} (hb : ∀ c ∈ b, 0 ≤ c ∧ c < 256) (hl : 8 ≤ b.length) : 0 ≤ un8 b ∧ un8 b < 18446744073709551616 := by
  match b, hl with
  | c0 :: c1 :: c2 :: c3 :: c4 :: c5 :: c6 :: c7 :: r, _ =>
    have h0 := hb c0 (by simp)
    have h1 := hb c1 (by simp)
    have h2 := hb c2 (by simp)
    have h3 := hb c3 (by simp)
    have h4 := hb c4 (by simp)
    have h5 := hb c5 (by simp)
    have h6 := hb c6 (by simp)
    have h7 := hb c7 (by simp)
    simp only [un8, List.getD_cons_zero, List.getD_cons_succ]
    omega
/-- a record comes back of its bytes -/
theorem get_put {r : Rc} {b : List Int} (hd : r.d.length = 32) (hv : 0 ≤ r.v ∧ r.v < 18446744073709551616) (h : putR r = (b, 0)) : getR b = (r, 0) := by
  unfold putR at h
  split at h
  · cases h
  rename_i h1
  split at h
  · rename_i h2; injection h with _ h; exact absurd h h2
  rename_i h2
  obtain ⟨p, e, hp⟩ : ∃ p e, packE r.t = (p, e) := ⟨_, _, rfl⟩
  rw [hp] at h h2
  simp only at h h2
  obtain rfl : e = 0 := Decidable.byContradiction h2
  injection h with h _
  subst h
  have e32 : (r.d ++ (le8 r.v ++ (putL r.n.toNat ++ p))).drop 32 = le8 r.v ++ (putL r.n.toNat ++ p) := List.drop_left' hd
  have e40 : (r.d ++ (le8 r.v ++ (putL r.n.toNat ++ p))).drop 40 = putL r.n.toNat ++ p := by
    rw [show 40 = 32 + 8 from rfl, ← List.drop_drop, e32]; exact List.drop_left' (le8_len _)
  have hl := lebE_put r.n.toNat (by have : (2 : Nat) ^ 64 = 18446744073709551616 := by decide
                                    omega) p
  have hm := drop_more e40
  have hu := unpack_pack (r := []) hp (by rw [List.append_nil]; exact hm)
  have hlen : (r.d ++ (le8 r.v ++ (putL r.n.toNat ++ p))).length = 40 + (putL r.n.toNat).length + p.length := by
    simp only [List.length_append, hd, le8_len]; omega
  unfold getR
  rw [e40, hl]
  simp only
  rw [hu, hlen, e32, un8_le8 hv, List.take_left' hd]
  simp only
  rw [if_neg (by omega), if_neg (by omega), if_neg (by omega), if_neg (by omega), if_neg (by omega)]
  have : ((r.n.toNat : Nat) : Int) = r.n := by omega
  rw [this]
theorem get_read {r : Rc} {b : List Int} (hb : ∀ c ∈ b, 0 ≤ c ∧ c < 256) (h : getR b = (r, 0)) : putR r = (b, 0) := by
  unfold getR at h
  split at h
  · cases h
  rename_i h1
  split at h
  · rename_i h2; injection h with _ h; exact absurd h h2
  rename_i h2
  split at h
  · cases h
  rename_i h3
  split at h
  · rename_i h4; injection h with _ h; exact absurd h h4
  rename_i h4
  split at h
  · cases h
  rename_i h5
  obtain ⟨u, k, e0, hu⟩ : ∃ u k e0, lebE (b.drop 40) = (u, k, e0) := ⟨_, _, _, rfl⟩
  rw [hu] at h h2 h3 h4 h5
  simp only at h h2 h3 h4 h5
  obtain rfl : e0 = 0 := Decidable.byContradiction h2
  obtain ⟨g1, g2, g3, g4⟩ := putL_read (fun c hc => hb c (List.mem_of_mem_drop hc)) hu
  rw [List.length_drop] at g2
  obtain ⟨l, e, e1, hp⟩ : ∃ l e e1, unpackE b (40 + k) = (l, e, e1) := ⟨_, _, _, rfl⟩
  rw [hp] at h h4 h5
  simp only at h h4 h5
  obtain rfl : e1 = 0 := Decidable.byContradiction h4
  obtain ⟨p1, p2, p3⟩ := unpack_read hb (by omega) hp
  injection h with h _
  subst h
  have he : e = b.length := by omega
  subst he
  rw [List.drop_length, List.append_nil] at p2
  unfold putR
  simp only
  rw [if_neg (by omega), p1]
  simp only
  rw [if_neg (by omega), le8_un8 (fun c hc => hb c (List.mem_of_mem_drop hc)) (by rw [List.length_drop]; omega), Int.toNat_natCast, ← p2, ← g1]
  rw [show b.drop (40 + k) = (b.drop 40).drop k from (List.drop_drop ..).symm, List.take_append_drop, show b.drop 40 = (b.drop 32).drop 8 by rw [List.drop_drop], List.take_append_drop, List.take_append_drop]
end Rec
end Go.Proofs.Ytobedpohoellkaa
