/- bytes that are appended; the six bytes of a constant. -/
import Derived.Test.YtlodbhlidgepfaaGPl
import Derived.Test.YtlodbhlidgepfaaBWa
import Derived.Test.YtlodbhlidgepfaaCWa
import Derived.Lib.SlBytesConst
import Derived.ArgAppend
set_option linter.unusedVariables false
set_option linter.unusedSimpArgs false
namespace Go.Proofs.Ytlodbhlidgepfaa
open Go.RowKit
open Voc Leb Crc
namespace Vf
theorem putL_pos (n : Nat) : 0 < (putL n).length := by
  show 0 < (putN (9 + 1) n).length
  unfold putN
  split <;> simp
theorem u64_of {x : Int} (h : 0 ≤ x ∧ x < 4294967296) : IntKind.u64.wrap x = ((x.toNat : Nat) : Int) := by
  show x % 18446744073709551616 = _
  omega
def OwB (b : Nat) (w : World) (v : Value) (ps : List Int) : Prop := w.ownsRow b 5 1 v ps.length (ps.flatMap encB)
theorem OwB.sl {b : Nat} {w : World} {v : Value} {ps : List Int} (h : OwB b w v ps) : SL encB w v ps := SL.of_own h rfl
theorem OwB.fr {b : Nat} {w w' : World} {v : Value} {ps : List Int} (h : OwB b w v ps) (hg : Gr w w') : OwB b w' v ps := hg.owns h (fun _ _ h => h)
theorem encB_len (c : Int) : (encB c).length = 1 := rfl
theorem encB_flat (ps : List Int) : (ps.flatMap encB).length = ps.length := by rw [len_flatMap encB 1 (fun _ => rfl)]; omega
theorem wpList_app {ops : Array Oper} {rest : List Oper} {o : Oper} {a : Act} {Q : Exit → Act → World → Prop} (hgd : o.guard = none) (s x : Operand)
    (ho : o.op = .call { callee := .builtin .append, args := #[s, x], argTypes := #[32, 32] })
    {wB w : World} (v sv : Value) (ps xs : List Int) (hsv : a.eval s = v) (hO : OwB wB.heap.size w v ps) (hG : Gr wB w) (hxv : a.eval x = sv) (hs : SL encB w sv xs) (hb : ps.length + xs.length ≤ 1048576)
    (K : ∀ v' w', Gr wB w' → OwB wB.heap.size w' v' (ps ++ xs) → (∀ g t cs, 5 ≠ t → Blk w g t cs → Blk w' g t cs) → wpList Try.prog ops Q rest (a.put o.dst v') w') : wpList Try.prog ops Q (o :: rest) a w := by
  obtain ⟨i0, hi0, hz0, hz1, hz2⟩ := info_parts info_u8
  refine wpList_append_sl w encB hgd s x 32 ho wB.heap.size 5 i0 (.int .u8 0) 1 1 Try.underlying32 hi0 hz0 hz1 hz2 rfl (by decide) v ps.length _ hsv hO sv xs hxv hs (fun _ => rfl) encB_one (by unfold maxLen; omega) (by omega) hG.size ?_
  intro v' w' h1 h2 h3
  refine K v' w' (gr_keep' hG hO h2) ?_ (fun g t cs hne hb => hb.fr h2 (fun e => own_blk_ne hO hb hne e))
  unfold OwB
  rw [List.length_append, List.flatMap_append]
  exact h1
theorem wpList_app3 {ops : Array Oper} {rest : List Oper} {o : Oper} {a : Act} {Q : Exit → Act → World → Prop} (hgd : o.guard = none) (s x : Operand)
    (ho : o.op = .call { callee := .builtin .append, args := #[s, x], argTypes := #[32, 32] })
    {wB w : World} (lo hi : Nat) (v sv : Value) (ps xs : List Int) (hsv : a.eval s = v) (hO : OwB wB.heap.size w v ps) (hG : Gr wB w) (hxv : a.eval x = sv) (hs : SL encB w sv xs) (hb : ps.length + xs.length ≤ 1048576)
    (hhi : hi ≤ w.heap.size) (hz : ∀ k, v.ownBlock = some k → k < lo ∨ hi ≤ k)
    (K : ∀ v' w', Gr wB w' → OwB wB.heap.size w' v' (ps ++ xs) → hi ≤ w'.heap.size → (∀ k, v'.ownBlock = some k → k < lo ∨ hi ≤ k) → (∀ tv ys, SL encB w tv ys → (∀ k, tv.ownBlock = some k → lo ≤ k ∧ k < hi) → SL encB w' tv ys) → wpList Try.prog ops Q rest (a.put o.dst v') w') : wpList Try.prog ops Q (o :: rest) a w := by
  obtain ⟨i0, hi0, hz0, hz1, hz2⟩ := info_parts info_u8
  refine wpList_append_sl w encB hgd s x 32 ho wB.heap.size 5 i0 (.int .u8 0) 1 1 Try.underlying32 hi0 hz0 hz1 hz2 rfl (by decide) v ps.length _ hsv hO sv xs hxv hs (fun _ => rfl) encB_one (by unfold maxLen; omega) (by omega) hG.size ?_
  intro v' w' h1 h2 h3
  refine K v' w' (gr_keep' hG hO h2) ?_ (Nat.le_trans hhi h2.size) ?_ ?_
  · unfold OwB
    rw [List.length_append, List.flatMap_append]
    exact h1
  · intro k hk
    rcases h3 with h3 | h3
    · exact hz k (h3 ▸ hk)
    · rw [hk] at h3; cases h3; exact .inr hhi
  · intro tv ys hs2 hf
    exact hs2.fr h2 (fun k hk he => by have := hf k hk; have := hz k he; omega)
def Mg (w : World) (g : Nat) : Prop := ∀ j u, (magic.flatMap encB)[j]? = some u → w.cell? ⟨g, j, none⟩ = some u
theorem Mg.new (w : World) : Mg (w.alloc (.cells #[.int .u8 115, .int .u8 116, .int .u8 111, .int .u8 111, .int .u8 107, .int .u8 118] 5 (6, 7))) w.heap.size := by
  intro j u hu
  rw [cell_of_row _ _ j _ _ (6, 7) (heap_alloc_new w _)]
  simpa [magic, encB] using hu
theorem Mg.gr {w w' : World} {g : Nat} (h : Mg w g) (hg : Gr w w') (hlt : g < w.heap.size) : Mg w' g := fun j u hu => (hg.cell (p := ⟨g, j, none⟩) hlt (fun h => h)).trans (h j u hu)
theorem wpList_magic {ops : Array Oper} {rest : List Oper} {o : Oper} {a : Act} {Q : Exit → Act → World → Prop} (hgd : o.guard = none) (s x : Operand)
    (ho : o.op = .call { callee := .builtin .append, args := #[s, x], argTypes := #[32, 32] })
    {w : World} (g : Nat) (sv : Value) (xs : List Int) (hsv : a.eval s = .slice (some ⟨g, 0, none⟩) 6 6) (hm : Mg w g) (hxv : a.eval x = sv) (hs : SL encB w sv xs) (h0 : 0 < xs.length) (hb : xs.length ≤ 1000000)
    (K : ∀ v' w', Gr w w' → OwB w.heap.size w' v' (magic ++ xs) → wpList Try.prog ops Q rest (a.put o.dst v') w') : wpList Try.prog ops Q (o :: rest) a w := by
  obtain ⟨i0, hi0, hz0, hz1, hz2⟩ := info_parts info_u8
  obtain ⟨A, cap, rfl, hc, hr⟩ := hs
  obtain ⟨b, off, rfl, _, hcell⟩ := hr h0
  refine wpList_append_grows w hgd s x 32 ho 5 i0 (.int .u8 0) 1 1 Try.underlying32 hi0 hz0 hz1 hz2 rfl (by decide) (some ⟨g, 0, none⟩) 6 6 (magic.flatMap encB) hsv (by intro h; cases h) rfl
    (by intro q hq j u hu; cases hq; rw [addr_add, Nat.zero_add]; exact hm j u hu) ⟨b, off, none⟩ xs.length cap (xs.flatMap encB) hxv (by rw [encB_flat]; omega) (by intro j u hu; rw [addr_add]; exact hcell j u hu)
    (fun u hu => by obtain ⟨x, _, hx⟩ := List.mem_flatMap.1 hu; exact encB_one x u hx) (by omega) (by unfold maxLen; omega) (by omega) ?_
  intro v' w' h1 h2
  refine K v' w' ((Fr.refl w NoneS).grown h2 (by intro k hk; cases hk)) ?_
  unfold OwB
  rw [List.length_append, List.flatMap_append]
  exact h1
theorem sl1 (w : World) (a : Int) : SL encB (w.alloc (.cells #[.int .u8 a] 5)) (.slice (some ⟨w.heap.size, 0, none⟩) 1 1) [a] := by
  refine ⟨_, 1, rfl, by simp, fun _ => ⟨w.heap.size, 0, rfl, by simp, fun i u hu => ?_⟩⟩
  rw [Nat.zero_add, World.cell?_alloc_new]
  simpa [encB] using hu
theorem sl2 (w : World) (a b : Int) : SL encB (w.alloc (.cells #[.int .u8 a, .int .u8 b] 5)) (.slice (some ⟨w.heap.size, 0, none⟩) 2 2) [a, b] := by
  refine ⟨_, 2, rfl, by simp, fun _ => ⟨w.heap.size, 0, rfl, by simp, fun i u hu => ?_⟩⟩
  rw [Nat.zero_add, World.cell?_alloc_new]
  simpa [encB] using hu
theorem own1 (w : World) (a : Int) : OwB w.heap.size (w.alloc (.cells #[.int .u8 a] 5)) (.slice (some ⟨w.heap.size, 0, none⟩) 1 1) [a] := by
  refine ⟨rfl, .inr ⟨w.heap.size, 1, _, rfl, Nat.le_refl _, heap_alloc_new w _, Nat.le_refl _, by unfold maxLen; omega, rfl, rfl⟩⟩
theorem own2 (w : World) (a b : Int) : OwB w.heap.size (w.alloc (.cells #[.int .u8 a, .int .u8 b] 5)) (.slice (some ⟨w.heap.size, 0, none⟩) 2 2) [a, b] := by
  refine ⟨rfl, .inr ⟨w.heap.size, 2, _, rfl, Nat.le_refl _, heap_alloc_new w _, Nat.le_refl _, by unfold maxLen; omega, rfl, rfl⟩⟩
theorem four_sl {w : World} {n : Nat} {e : Ending} {w' : World} (h : FourPost w n e w') : ∃ tv, e = .returned tv ∧ SL encB w' tv (four n) ∧ Gr w w' := by
  obtain ⟨g, rfl, _, h, hg⟩ := h
  exact ⟨_, rfl, SL.of_own h (by simp [four]), hg⟩
end Vf
end Go.Proofs.Ytlodbhlidgepfaa
