/- Deeds, documents and states that come in. -/
import Derived.Test.YtlodbhlidgepfaaFopv
import Derived.Test.YtlodbhlidgepfaaMWb
set_option linter.unusedVariables false
set_option linter.unusedSimpArgs false
namespace Go.Proofs.Ytlodbhlidgepfaa
open Go.ChangeShapes Go.WideShapes Go.ChangeAt Go.RowKit
open Voc Leb Bpe
namespace Mod
/-- a deed, as it lies in a row -/
structure Ds where
  k : Int
  id : Int
  n : Int
  s : Sv
def encDs (x : Ds) : List Value := [.int .u8 x.k, .int .u64 x.id, .int .i64 x.n, x.s.v]
def DdR (B : Nat → Prop) (w : World) (x : Ds) (d : Dd) : Prop := x.k = d.k ∧ x.id = d.id ∧ x.n = d.n ∧ SL encB w x.s.v d.b ∧ SB B x.s.v d.b.length
structure wfDd (d : Dd) : Prop where
  k : (Lit.int .u8 d.k).wf = true
  id : (Lit.int .u64 d.id).wf = true
  n : (Lit.int .i64 d.n).wf = true
  b : Leb.Bs d.b
  l : d.b.length ≤ 1048576
theorem al_of {α β : Type} {R : α → β → Prop} {Q : β → Prop} : ∀ {l : List α}, (∀ x ∈ l, ∃ y, R x y ∧ Q y) → ∃ m, Al R l m ∧ ∀ y ∈ m, Q y
  | [], _ => ⟨[], trivial, fun _ h => by cases h⟩
  | x :: l, h => by
    obtain ⟨y, h1, h2⟩ := h x (by simp)
    obtain ⟨m, h3, h4⟩ := al_of (l := l) (fun z hz => h z (by simp [hz]))
    exact ⟨y :: m, ⟨h1, h3⟩, fun z hz => by
      rcases List.mem_cons.1 hz with e | e
      · subst e; exact h2
      · exact h4 z e⟩
theorem bs_of {xs : List Int} (h : ∀ x ∈ xs, (Lit.int .u8 x).wf = true) : Leb.Bs xs := fun c hc => by
  have := h c hc
  simp [Lit.wf, IntKind.min, IntKind.max, IntKind.signed, IntKind.bits] at this
  omega
theorem u64_of {x : Int} (h : (Lit.int .u64 x).wf = true) : 0 ≤ x ∧ x < 18446744073709551616 := by
  simp [Lit.wf, IntKind.min, IntKind.max, IntKind.signed, IntKind.bits] at h
  omega
set_option maxRecDepth 20000 in
theorem trod_bytes {H : Type} {enc : TypeId × Value → H} {W : World} {n : Nat} {c : Value} {y : DataW H × List MemPlace} (h : DataW.trod enc Try.prog W 0 (fun _ => true) true n 32 [c] = some y) :
    ∃ (s : Sv) (xs : List Int), c = s.v ∧ SL encB W s.v xs ∧ Leb.Bs xs ∧ xs.length ≤ Rows.uptoBulk y.1 := by
  obtain ⟨A, len, cap, rfl⟩ : ∃ A len cap, c = .slice A len cap := by
    rcases DataW.trod_slice Try.underlying32 h with ⟨h4, _⟩ | ⟨a, len', cap', _, _, _, _, h4, _⟩
    · simp at h4; exact ⟨_, _, _, h4⟩
    · simp at h4; exact ⟨_, _, _, h4⟩
  obtain ⟨ts, hs, hw, htl⟩ := open_ints' (P := Try.prog) Try.underlying32 Try.underlying5 (by kernel_rfl)
    (show DataW.Trod enc Try.prog W 0 (fun _ => true) true 32 (.slice A len cap) y.1 y.2 from ⟨n, h⟩) ⟨_, _, _, rfl⟩
  exact ⟨⟨A, len, cap⟩, ts, rfl, hs, bs_of hw, htl⟩
set_option maxRecDepth 20000 in
theorem trod_deed {H : Type} {enc : TypeId × Value → H} {W : World} {n : Nat} {cs : List Value} {y : DataW H × List MemPlace} (h : DataW.trod enc Try.prog W 0 (fun _ => true) true n 34 cs = some y) (hl : cs.length = 4) :
    ∃ x : Ds, cs = encDs x ∧ (∃ d : Dd, DdR (fun k => k < W.heap.size) W x d ∧ ((Lit.int .u8 d.k).wf = true ∧ (Lit.int .u64 d.id).wf = true ∧ (Lit.int .i64 d.n).wf = true ∧ Leb.Bs d.b)) ∧ x.s.n ≤ Rows.uptoBulk y.1 := by
  obtain ⟨xs, m, _, hx, _, hlen, hf⟩ := DataW.trod_struct Try.underlying34 h
  obtain ⟨y0, y1, y2, y3, rfl⟩ : ∃ y0 y1 y2 y3, xs = [y0, y1, y2, y3] := by
    match xs, hlen with
    | [y0, y1, y2, y3], _ => exact ⟨_, _, _, _, rfl⟩
  match cs, hl with
  | [c0, c1, c2, c3], _ =>
    obtain ⟨k, h0, _, w0⟩ := DataW.trod_int Try.underlying31 (hf 0 _ rfl)
    obtain ⟨id, h1, _, w1⟩ := DataW.trod_int Try.underlying24 (hf 1 _ rfl)
    obtain ⟨nn, h2, _, w2⟩ := DataW.trod_int Try.underlying3 (hf 2 _ rfl)
    have e0 : Try.prog.cellsOf 31 = 1 := by kernel_rfl
    have e1 : Try.prog.cellsOf 24 = 1 := by kernel_rfl
    have e2 : Try.prog.cellsOf 3 = 1 := by kernel_rfl
    have e3 : Try.prog.cellsOf 32 = 1 := by kernel_rfl
    have h3 := hf 3 _ rfl
    simp [e0, e1, e2, e3] at h0 h1 h2 h3
    obtain ⟨s, bs, rfl, hs, hb, hbl⟩ := trod_bytes h3
    subst h0 h1 h2
    refine ⟨⟨k, id, nn, s⟩, rfl, ⟨⟨k, id, nn, bs⟩, ⟨rfl, rfl, rfl, hs, sb_old hs⟩, w0, w1, w2, hb⟩, ?_⟩
    obtain ⟨A, c, e, _⟩ := hs
    have : s.n = bs.length := by cases s; simp only [Sv.v] at e; injection e
    show s.n ≤ _
    rw [this]
    rw [hx]
    simp only [Rows.uptoBulk, Rows.uptoBulkAll, List.map_cons, List.map_nil]
    omega
set_option maxRecDepth 20000 in
theorem open_deeds {H : Type} {enc : TypeId × Value → H} {W : World} {v : Value} {d : DataW H} {p : List MemPlace} (hv : ∃ A len cap, v = .slice A len cap) (h : DataW.Trod enc Try.prog W 0 (fun _ => true) true 22 v d p) :
    ∃ (X : List Ds) (L : List Dd), SL encDs W v X ∧ Al (DdR (fun k => k < W.heap.size) W) X L ∧ (∀ x ∈ L, (Lit.int .u8 x.k).wf = true ∧ (Lit.int .u64 x.id).wf = true ∧ (Lit.int .i64 x.n).wf = true ∧ Leb.Bs x.b) ∧ L.length ≤ Rows.uptoBulk d ∧ (∀ x ∈ L, x.b.length ≤ Rows.uptoBulk d) := by
  obtain ⟨X, hs, hw, hl, hm⟩ := open_slm (P := Try.prog) (e := 34) (s := 4) encDs (fun x => ∃ d : Dd, DdR (fun k => k < W.heap.size) W x d ∧ ((Lit.int .u8 d.k).wf = true ∧ (Lit.int .u64 d.id).wf = true ∧ (Lit.int .i64 d.n).wf = true ∧ Leb.Bs d.b)) (fun x => x.s.n) Try.underlying22 (by kernel_rfl) (by omega) (fun _ => rfl)
    (fun n cs y hy hl => trod_deed hy hl) h hv
  have hmax : ∀ x ∈ X, x.s.n ≤ Rows.uptoBulk d := fun x hx => by
    have : ∀ (l : List Ds), x ∈ l → x.s.n ≤ (l.map (fun x => x.s.n)).sum := by
      intro l
      induction l with
      | nil => intro h; cases h
      | cons y l ih =>
        intro h
        simp only [List.map_cons, List.sum_cons]
        rcases List.mem_cons.1 h with e | e
        · subst e; omega
        · have := ih e; omega
    have := this X hx
    omega
  obtain ⟨L, ha, hq⟩ := al_of (R := DdR (fun k => k < W.heap.size) W) (Q := fun x => ((Lit.int .u8 x.k).wf = true ∧ (Lit.int .u64 x.id).wf = true ∧ (Lit.int .i64 x.n).wf = true ∧ Leb.Bs x.b) ∧ x.b.length ≤ Rows.uptoBulk d) (l := X) (fun x hx => by
    obtain ⟨y, hr, hq⟩ := hw x hx
    refine ⟨y, hr, hq, ?_⟩
    have h1 := hmax x hx
    obtain ⟨A, c, e, _⟩ := hr.2.2.2.1
    have : x.s.n = y.b.length := by
      cases hxs : x.s with
      | mk a n c' => rw [hxs] at e; simp only [Sv.v] at e; injection e
    omega)
  exact ⟨X, L, hs, ha, fun x hx => (hq x hx).1, by rw [← ha.len]; exact hl, fun x hx => (hq x hx).2⟩
end Mod
end Go.Proofs.Ytlodbhlidgepfaa
