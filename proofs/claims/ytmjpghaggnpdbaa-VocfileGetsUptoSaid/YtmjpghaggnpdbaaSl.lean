/- Slices that are read. -/
import Derived.Test.YtmjpghaggnpdbaaLib
set_option linter.unusedVariables false
set_option linter.unusedSimpArgs false
namespace Go.Proofs.Ytmjpghaggnpdbaa
open Go.RowKit

/-! ### a slice that is read -/
/-- the slice value v reads as the list xs, each element by its cells -/
def SL {α : Type} (enc : α → List Value) (w : World) (v : Value) (xs : List α) : Prop :=
  ∃ A cap, v = .slice A xs.length cap ∧ xs.length ≤ cap ∧ (0 < xs.length → ∃ b off, A = some ⟨b, off, none⟩ ∧ b < w.heap.size ∧ ∀ i u, (xs.flatMap enc)[i]? = some u → w.cell? ⟨b, off + i, none⟩ = some u)

namespace SL
variable {α : Type} {enc : α → List Value} {w w' : World} {v : Value} {xs : List α} {S : Nat → Prop}
theorem nil (w : World) : SL enc w (.slice none 0 0) [] := ⟨none, 0, rfl, Nat.le_refl _, fun h => absurd h (by simp)⟩
theorem fr (h : SL enc w v xs) (hf : Fr w w' S) (hn : ∀ k, v.ownBlock = some k → ¬ S k) : SL enc w' v xs := by
  obtain ⟨A, cap, rfl, hc, hr⟩ := h
  refine ⟨A, cap, rfl, hc, fun hl => ?_⟩
  obtain ⟨b, off, rfl, hb, hcell⟩ := hr hl
  exact ⟨b, off, rfl, Nat.lt_of_lt_of_le hb hf.size, fun i u hu => (hf.cell (p := ⟨b, off + i, none⟩) hb (hn b rfl)).trans (hcell i u hu)⟩
theorem gr (h : SL enc w v xs) (hf : Gr w w') : SL enc w' v xs := h.fr hf (fun _ _ h => h)
theorem drew (h : SL enc w v xs) : SL enc w.drew v xs := h
theorem drewN (h : SL enc w v xs) (n : Nat) : SL enc (w.drewN n) v xs := h
theorem of_own {base : Nat} {e : TypeId} {s n : Nat} (h : w.ownsRow base e s v n (xs.flatMap enc)) (hn : n = xs.length) : SL enc w v xs := by
  subst hn
  rcases h.2 with ⟨rfl, h0⟩ | ⟨g, cap, cur, rfl, hb, hg, hnc, hcm, hcs, htake⟩
  · have : xs = [] := List.eq_nil_of_length_eq_zero h0
    subst this; exact nil w
  · refine ⟨_, cap, rfl, hnc, fun _ => ⟨g, 0, rfl, ?_, fun i u hu => ?_⟩⟩
    · rcases Nat.lt_or_ge g w.heap.size with hlt | hge
      · exact hlt
      · rw [Array.getElem?_eq_none hge] at hg; cases hg
    · have hi := (List.getElem?_eq_some_iff.1 hu).1
      have := h.cellAt (g := g) (cap := cap) i (by rw [← h.1]; exact hi)
      rw [Nat.zero_add, this]; exact hu
/-- element k's cell j -/
theorem at_ (h : SL enc w v xs) {s : Nat} (hs : ∀ x, (enc x).length = s) {A : Option Addr} {n cap : Nat} (hv : v = .slice A n cap) {k : Nat} (hk : k < xs.length) :
    ∃ b off, A = some ⟨b, off, none⟩ ∧ b < w.heap.size ∧ ∀ j, j < s → w.cell? ⟨b, off + (k * s + j), none⟩ = (enc xs[k])[j]? := by
  obtain ⟨A', cap', rfl, hc, hr⟩ := h
  obtain ⟨rfl, _, _⟩ : A' = A ∧ xs.length = n ∧ cap' = cap := by simpa using hv
  obtain ⟨b, off, rfl, hb, hcell⟩ := hr (by omega)
  refine ⟨b, off, rfl, hb, fun j hj => ?_⟩
  have h1 := get_flatMap enc s hs xs k j hj
  rw [List.getElem?_eq_getElem hk] at h1
  have hj' : j < (enc xs[k]).length := by rw [hs]; exact hj
  have h2 : (enc xs[k])[j]? = some ((enc xs[k])[j]'hj') := List.getElem?_eq_getElem hj'
  rw [h2]
  exact hcell _ _ (h1.trans h2)
end SL

theorem gr_keep' {w0 w w' : World} {s n : Nat} {e : TypeId} {v : Value} {xs : List Value} (hg : Gr w0 w) (ho : w.ownsRow w0.heap.size e s v n xs) (hf : Fr w w' (fun k => v.ownBlock = some k)) : Gr w0 w' :=
  hg.trans hf (fun i hi hv => by have := (ho.lt i hv).1; omega)
theorem own_base {w : World} {b b' : Nat} {e : TypeId} {s n : Nat} {v : Value} {x : List Value} (h : w.ownsRow b e s v n x) (hb : b' ≤ b) : w.ownsRow b' e s v n x := by
  refine ⟨h.1, ?_⟩
  rcases h.2 with h' | ⟨g, cap, cur, hv, hg, r⟩
  · exact .inl h'
  · exact .inr ⟨g, cap, cur, hv, Nat.le_trans hb hg, r⟩
/-- rows of different element types lie in different blocks -/
theorem own_own_ne {w : World} {b1 b2 : Nat} {e1 e2 : TypeId} {s1 s2 n1 n2 : Nat} {v1 v2 : Value} {x1 x2 : List Value} (h1 : w.ownsRow b1 e1 s1 v1 n1 x1) (h2 : w.ownsRow b2 e2 s2 v2 n2 x2) (hne : e1 ≠ e2) :
    ∀ k, v1.ownBlock = some k → v2.ownBlock ≠ some k := by
  intro k hk
  rcases h1.2 with ⟨rfl, _⟩ | ⟨g, cap, cur, rfl, _, hh, _⟩
  · simp [Value.ownBlock] at hk
  · have : g = k := by simpa [Value.ownBlock] using hk
    subst this
    exact own_blk_ne h2 hh (Ne.symm hne)

end Go.Proofs.Ytmjpghaggnpdbaa
