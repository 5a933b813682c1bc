/- model: what states read as; deed.Changes, model.May, own, from, New. -/
import Derived.Test.YtlodbhlidgepfaaMBs
import Derived.Test.YtlodbhlidgepfaaVPm
import Derived.Deep.AppendLies
set_option linter.unusedVariables false
set_option linter.unusedSimpArgs false
namespace Go.Proofs.Ytlodbhlidgepfaa
open Go.RowKit
open Voc Leb Bpe
namespace Mod
/-- two lists, element by element -/
def Al {α β : Type} (R : α → β → Prop) : List α → List β → Prop
  | [], [] => True
  | a :: l, b :: m => R a b ∧ Al R l m
  | _, _ => False
section
variable {α β : Type} {R T : α → β → Prop}
theorem Al.len : ∀ {l : List α} {m : List β}, Al R l m → l.length = m.length
  | [], [], _ => rfl
  | _ :: _, _ :: _, h => by rw [List.length_cons, List.length_cons, Al.len h.2]
  | [], _ :: _, h => h.elim
  | _ :: _, [], h => h.elim
theorem Al.imp (hi : ∀ a b, R a b → T a b) : ∀ {l : List α} {m : List β}, Al R l m → Al T l m
  | [], [], _ => trivial
  | _ :: _, _ :: _, h => ⟨hi _ _ h.1, Al.imp hi h.2⟩
  | [], _ :: _, h => h.elim
  | _ :: _, [], h => h.elim
theorem Al.get : ∀ {l : List α} {m : List β}, Al R l m → ∀ (i : Nat) (h1 : i < l.length) (h2 : i < m.length), R l[i] m[i]
  | [], [], _, i, h1, _ => absurd h1 (by simp)
  | _ :: _, _ :: _, h, 0, _, _ => h.1
  | _ :: l, _ :: m, h, i + 1, h1, h2 => Al.get h.2 i (by simpa using h1) (by simpa using h2)
  | [], _ :: _, h, _, _, _ => h.elim
  | _ :: _, [], h, _, _, _ => h.elim
theorem Al.snoc {a : α} {b : β} (hr : R a b) : ∀ {l : List α} {m : List β}, Al R l m → Al R (l ++ [a]) (m ++ [b])
  | [], [], _ => ⟨hr, trivial⟩
  | _ :: _, _ :: _, h => ⟨h.1, Al.snoc hr h.2⟩
  | [], _ :: _, h => h.elim
  | _ :: _, [], h => h.elim
theorem Al.erase : ∀ {l : List α} {m : List β}, Al R l m → ∀ i, Al R (l.eraseIdx i) (m.eraseIdx i)
  | [], [], _, _ => trivial
  | _ :: _, _ :: _, h, 0 => h.2
  | _ :: _, _ :: _, h, i + 1 => ⟨h.1, Al.erase h.2 i⟩
  | [], _ :: _, h, _ => h.elim
  | _ :: _, [], h, _ => h.elim
theorem Al.drop : ∀ {l : List α} {m : List β}, Al R l m → ∀ i, Al R (l.drop i) (m.drop i)
  | l, m, h, 0 => h
  | [], [], _, _ + 1 => trivial
  | _ :: _, _ :: _, h, i + 1 => Al.drop h.2 i
  | [], _ :: _, h, _ + 1 => h.elim
  | _ :: _, [], h, _ + 1 => h.elim
theorem Al.take : ∀ {l : List α} {m : List β}, Al R l m → ∀ i, Al R (l.take i) (m.take i)
  | l, m, h, 0 => trivial
  | [], [], _, _ + 1 => trivial
  | _ :: _, _ :: _, h, i + 1 => ⟨h.1, Al.take h.2 i⟩
  | [], _ :: _, h, _ + 1 => h.elim
  | _ :: _, [], h, _ + 1 => h.elim
end
/-- the value of a slice -/
structure Sv where
  a : Option Addr
  n : Nat
  c : Nat
def Sv.v (s : Sv) : Value := .slice s.a s.n s.c
theorem sv_of {α : Type} {enc : α → List Value} {w : World} {v : Value} {xs : List α} (h : SL enc w v xs) : ∃ s : Sv, v = s.v := by obtain ⟨A, c, rfl, _⟩ := h; exact ⟨⟨A, xs.length, c⟩, rfl⟩
abbrev TDoc : TypeId := 45
abbrev TDocs : TypeId := 23
abbrev TSt : TypeId := 29
def encD (d : Int × Sv) : List Value := [.int .u64 d.1, d.2.v]
theorem encD_one : ∀ x : Int × Sv, ∀ u ∈ encD x, u.oneCell' = true := by intro x u hu; simp [encD] at hu; rcases hu with rfl | rfl <;> rfl
/-- what is there lies in blocks of B -/
def SB (B : Nat → Prop) (v : Value) (n : Nat) : Prop := 0 < n → ∀ k, v.ownBlock = some k → B k
theorem SB.imp {B C : Nat → Prop} {v : Value} {n : Nat} (h : SB B v n) (hi : ∀ k, B k → C k) : SB C v n := fun h0 k hk => hi k (h h0 k hk)
theorem sl_frB {α : Type} {enc : α → List Value} {w w' : World} {v : Value} {xs : List α} {S B : Nat → Prop} (h : SL enc w v xs) (hb : SB B v xs.length) (hf : Fr w w' S) (hn : ∀ k, B k → ¬ S k) : SL enc w' v xs := by
  rcases Nat.eq_zero_or_pos xs.length with h0 | h0
  · have : xs = [] := List.eq_nil_of_length_eq_zero h0
    subst this
    obtain ⟨A, c, rfl, _⟩ := h
    exact SL.empty _ _ _
  · exact h.fr hf (fun k hk => hn k (hb h0 k hk))
theorem sb_old {α : Type} {enc : α → List Value} {w : World} {v : Value} {xs : List α} (h : SL enc w v xs) : SB (fun k => k < w.heap.size) v xs.length := by
  intro h0 k hk
  obtain ⟨A, c, rfl, _, hr⟩ := h
  obtain ⟨b, off, rfl, hb, _⟩ := hr h0
  have : b = k := by simpa [Value.ownBlock] using hk
  omega
def RDR (B : Nat → Prop) (w : World) (d : Int × Sv) (c : Dc) : Prop := d.1 = c.id ∧ SL encB w d.2.v c.b ∧ SB B d.2.v c.b.length
def ODR (b : Nat) (w : World) (d : Int × Sv) (c : Dc) : Prop := d.1 = c.id ∧ OB w b d.2.v c.b
/-- a state that is read; its memory lies in blocks of B -/
structure RS (B : Nat → Prop) (w : World) (dv pv : Value) (s : St) : Prop where
  ex : ∃ D, SL encD w dv D ∧ Al (RDR B w) D s.docs
  voc : SL encP w pv s.voc
  bd : SB B dv s.docs.length
  bp : SB B pv s.voc.length
theorem RS.fr {B : Nat → Prop} {w w' : World} {dv pv : Value} {s : St} {S : Nat → Prop} (h : RS B w dv pv s) (hf : Fr w w' S) (hn : ∀ k, B k → ¬ S k) : RS B w' dv pv s := by
  obtain ⟨D, hd, ha⟩ := h.ex
  exact ⟨⟨D, sl_frB hd (by rw [ha.len]; exact h.bd) hf hn, ha.imp fun a c hr => ⟨hr.1, sl_frB hr.2.1 hr.2.2 hf hn, hr.2.2⟩⟩, sl_frB h.voc h.bp hf hn, h.bd, h.bp⟩
theorem RS.gr {B : Nat → Prop} {w w' : World} {dv pv : Value} {s : St} (h : RS B w dv pv s) (hf : Gr w w') : RS B w' dv pv s := h.fr hf (fun _ _ h => h)
theorem RS.imp {B C : Nat → Prop} {w : World} {dv pv : Value} {s : St} (h : RS B w dv pv s) (hi : ∀ k, B k → C k) : RS C w dv pv s := by
  obtain ⟨D, hd, ha⟩ := h.ex
  exact ⟨⟨D, hd, ha.imp fun a c hr => ⟨hr.1, hr.2.1, hr.2.2.imp hi⟩⟩, h.voc, h.bd.imp hi, h.bp.imp hi⟩
theorem RS.form {B : Nat → Prop} {w : World} {dv pv : Value} {s : St} (h : RS B w dv pv s) : (∃ A c, dv = .slice A s.docs.length c) ∧ ∃ A c, pv = .slice A s.voc.length c := by
  obtain ⟨D, hd, ha⟩ := h.ex
  obtain ⟨A, c, e⟩ := SL.form hd
  rw [ha.len] at e
  exact ⟨⟨A, c, e⟩, SL.form h.voc⟩
/-- a state of its own memory -/
structure OS (b : Nat) (w : World) (dv pv : Value) (s : St) : Prop where
  ex : ∃ D : List (Int × Sv), w.ownsRow b TDoc 2 dv s.docs.length (D.flatMap encD) ∧ Al (ODR b w) D s.docs
  voc : w.ownsRow b TPc 5 pv s.voc.length (s.voc.flatMap encP)
theorem ob_sb {w : World} {b : Nat} {v : Value} {l : List Int} (h : OB w b v l) : SB (fun k => b ≤ k ∧ k < w.heap.size) v l.length := fun _ k hk => h.own.lt k hk
theorem own_sb {w : World} {b : Nat} {e : TypeId} {s n m : Nat} {v : Value} {l : List Value} (h : w.ownsRow b e s v n l) : SB (fun k => b ≤ k ∧ k < w.heap.size) v m := fun _ k hk => h.lt k hk
theorem OS.rs {b : Nat} {w : World} {dv pv : Value} {s : St} (h : OS b w dv pv s) : RS (fun k => b ≤ k ∧ k < w.heap.size) w dv pv s := by
  obtain ⟨D, hd, ha⟩ := h.ex
  exact ⟨⟨D, SL.of_own (enc := encD) hd ha.len.symm, ha.imp fun a c hr => ⟨hr.1, hr.2.sl, ob_sb hr.2⟩⟩, SL.of_own (enc := encP) h.voc rfl, own_sb hd, own_sb h.voc⟩
theorem OS.base {b b' : Nat} {w : World} {dv pv : Value} {s : St} (h : OS b w dv pv s) (hb : b' ≤ b) : OS b' w dv pv s := by
  obtain ⟨D, hd, ha⟩ := h.ex
  exact ⟨⟨D, own_base hd hb, ha.imp fun a c hr => ⟨hr.1, hr.2.base hb⟩⟩, own_base h.voc hb⟩
theorem OS.fr {b : Nat} {w w' : World} {dv pv : Value} {s : St} {S : Nat → Prop} (h : OS b w dv pv s) (hf : Fr w w' S) (hn : ∀ k, b ≤ k → k < w.heap.size → ¬ S k) : OS b w' dv pv s := by
  obtain ⟨D, hd, ha⟩ := h.ex
  exact ⟨⟨D, hf.owns hd (fun k hk => hn k (hd.lt k hk).1 (hd.lt k hk).2), ha.imp fun a c hr => ⟨hr.1, hr.2.fr hf (fun k hk => hn k (hr.2.own.lt k hk).1 (hr.2.own.lt k hk).2)⟩⟩, hf.owns h.voc (fun k hk => hn k (h.voc.lt k hk).1 (h.voc.lt k hk).2)⟩
theorem OS.gr {b : Nat} {w w' : World} {dv pv : Value} {s : St} (h : OS b w dv pv s) (hf : Gr w w') : OS b w' dv pv s := h.fr hf (fun _ _ _ h => h)
/-- a block of another type turns -/
theorem OS.far {b g : Nat} {w w' : World} {dv pv : Value} {s : St} {t : TypeId} {cs : Array Value} (h : OS b w dv pv s) (hb : Blk w g t cs) (h1 : TDoc ≠ t) (h2 : TU8 ≠ t) (h3 : TPc ≠ t) (hf : Fr w w' (fun k => k = g)) : OS b w' dv pv s := by
  obtain ⟨D, hd, ha⟩ := h.ex
  exact ⟨⟨D, hf.owns hd (fun k hk e => own_blk_ne hd hb h1 (e ▸ hk)), ha.imp fun a c hr => ⟨hr.1, hr.2.fr hf (fun k hk e => own_blk_ne hr.2.own hb h2 (e ▸ hk))⟩⟩, hf.owns h.voc (fun k hk e => own_blk_ne h.voc hb h3 (e ▸ hk))⟩
def stA (dv pv : Value) (n : Int) : Array Value := #[dv, .int .u64 n, pv]

set_option maxRecDepth 20000 in
set_option maxHeartbeats 4000000 in
theorem changes_any {w : World} {bv : Value} (d : Dd) (HS : SL encB w bv d.b) (hl : d.b.length ≤ 1048576) :
    Calls Try.prog 8 #[.agg (ddA d bv)] w fun e w' => e = .returned (.bool (decide (d.k = 1 ∨ d.k = 2 ∨ d.k = 7 ∨ d.k = 9) && dmayE d)) ∧ Gr w w' := by
  have HM := Lib.hid (fun wx (hg : Gr w wx) => dmay_any d (HS.gr hg) hl)
  obtain ⟨A, cap, rfl, _⟩ := HS.len
  obtain ⟨k, id, n, b⟩ := d
  have HG := Lib.hid ((Fr.refl w NoneS).alloc (.cells (ddA ⟨k, id, n, b⟩ (.slice A b.length cap)) TDd))
  have HB := Lib.hid (Blk.new w TDd (ddA ⟨k, id, n, b⟩ (.slice A b.length cap)))
  clear HS hl
  unfold ddA at HM ⊢
  generalize dmayE ⟨k, id, n, b⟩ = M at HM ⊢
  obtain ⟨R, hR⟩ : ∃ R, (decide (k = 1 ∨ k = 2 ∨ k = 7 ∨ k = 9) && M) = R := ⟨_, rfl⟩
  simp only at HM ⊢
  rw [hR]
  go_enter Try.func8, Try.ntmps8
  go_upto_region 1 with (fail)
  change Code.wp _ _ _ _ (w.alloc (.cells (ddA ⟨k, id, n, b⟩ (.slice A b.length cap)) TDd))
  generalize w.heap.size = q at HB ⊢
  generalize hx : World.alloc w _ = w1 at HG HB ⊢
  clear hx
  have c0 : w1.cell? ⟨q, 0, none⟩ = some (.int .u8 k) := by rw [HB.out.cell]; rfl
  have c1 : w1.cell? ⟨q, 1, none⟩ = some (.int .u64 id) := by rw [HB.out.cell]; rfl
  have c2 : w1.cell? ⟨q, 2, none⟩ = some (.int .i64 n) := by rw [HB.out.cell]; rfl
  have c3 : w1.cell? ⟨q, 3, none⟩ = some (.slice A b.length cap) := by rw [HB.out.cell]; rfl
  by_cases hA : k = 1 ∨ k = 2 ∨ k = 7 ∨ k = 9
  · rw [decide_eq_true hA, Bool.true_and] at hR
    subst hR
    rcases hA with rfl | rfl | rfl | rfl
    all_goals
      go_wp2_with (go_at_call 20; refine (HM.out _ HG.out).mono ?_; rintro e w2 ⟨rfl, hg⟩; have HG2 := Lib.hid (HG.out.trans hg (fun _ _ h => h)); clear hg)
      go_ret
      exact ⟨rfl, HG2.out⟩
  · rw [decide_eq_false hA, Bool.false_and] at hR
    subst hR
    have e1 : (k == 1) = false := beq_eq_false_iff_ne.2 (by omega)
    have e2 : (k == 2) = false := beq_eq_false_iff_ne.2 (by omega)
    have e7 : (k == 7) = false := beq_eq_false_iff_ne.2 (by omega)
    have e9 : (k == 9) = false := beq_eq_false_iff_ne.2 (by omega)
    clear hA
    go_wp2_with fail
    go_ret
    exact ⟨rfl, HG.out⟩
end Mod
end Go.Proofs.Ytlodbhlidgepfaa
