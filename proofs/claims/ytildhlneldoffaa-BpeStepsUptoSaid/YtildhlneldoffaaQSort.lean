/- Sorting by the queue's heap, as plain functions. -/
import Derived.Test.YtildhlneldoffaaQPlain
set_option linter.unusedVariables false
set_option linter.unusedSimpArgs false
namespace Go.Proofs.Ytildhlneldoffaa
namespace QP
variable {α : Type}

/-- all are pushed -/
def fill (lt : α → α → Bool) : List α → List (α × Nat) → Nat → List (α × Nat)
  | [], l, _ => l
  | x :: xs, l, n => fill lt xs (push lt l (x, n)) (n + 1)
/-- all are popped -/
def drain (lt : α → α → Bool) : Nat → List (α × Nat) → List α
  | 0, _ => []
  | f + 1, l => match l with
    | [] => []
    | e :: r => e.1 :: drain lt f (pop lt (e :: r))
def sorted (lt : α → α → Bool) (xs : List α) : List α := drain lt xs.length (fill lt xs [] 0)
theorem length_fill (lt : α → α → Bool) : ∀ (xs : List α) (l : List (α × Nat)) (n : Nat), (fill lt xs l n).length = l.length + xs.length
  | [], _, _ => rfl
  | x :: xs, l, n => by rw [fill, length_fill lt xs, length_push, List.length_cons]; omega
theorem length_drain (lt : α → α → Bool) : ∀ (f : Nat) (l : List (α × Nat)), l.length ≤ f → (drain lt f l).length = l.length
  | 0, l, h => by simp at h; subst h; rfl
  | f + 1, [], h => rfl
  | f + 1, e :: r, h => by
    have := length_pop lt (e :: r)
    simp only [List.length_cons] at this h
    rw [drain, List.length_cons, length_drain lt f _ (by omega), this, List.length_cons]; omega
theorem length_sorted (lt : α → α → Bool) (xs : List α) : (sorted lt xs).length = xs.length := by
  unfold sorted; rw [length_drain lt _ _ (by rw [length_fill]; simp), length_fill]; simp
theorem fill_snoc (lt : α → α → Bool) : ∀ (xs : List α) (x : α) (l : List (α × Nat)) (n : Nat), fill lt (xs ++ [x]) l n = push lt (fill lt xs l n) (x, n + xs.length)
  | [], _, _, _ => rfl
  | y :: xs, x, l, n => by rw [List.cons_append, fill, fill, fill_snoc lt xs, List.length_cons, show n + 1 + xs.length = n + (xs.length + 1) by omega]

/-- what Pop tells -/
def hd (d : α) (l : List (α × Nat)) : α := match l with
  | [] => d
  | e :: _ => e.1
theorem drain_succ (lt : α → α → Bool) (d : α) (l : List (α × Nat)) (h : l ≠ []) : drain lt l.length l = hd d l :: drain lt (pop lt l).length (pop lt l) := by
  cases l with
  | nil => exact absurd rfl h
  | cons e r => rw [List.length_cons, drain, length_pop]; rfl
end QP
end Go.Proofs.Ytildhlneldoffaa
