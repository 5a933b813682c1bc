/- QueueNil: a queue that is not there, or has no order; the walk. -/
import Derived.Test.YtngmlelocgnbiaaQSorts
set_option linter.unusedVariables false
set_option linter.unusedSimpArgs false
namespace Go.Proofs.Ytngmlelocgnbiaa
open Go.RowKit

theorem run_equalIn_nilfunc {P : Program} (w : World) (d : Nat) (t : TypeId) (ps rs : Array TypeId) (vr : Bool) (h : P.underlying t = some (.func ps rs vr)) :
    (Op.equalIn (d + 1) t .nilFunc .nilFunc).run P w = .ok true w := by
  simp [Op.equalIn, run_underlying h]
theorem run_neq_nilfunc {P : Program} (w : World) (t : TypeId) (ps rs : Array TypeId) (vr : Bool) (h : P.underlying t = some (.func ps rs vr)) :
    (binOp .neq t .nilFunc .nilFunc).run P w = .ok (.bool false) w := by
  simp only [binOp]
  simp [Op.equal, Op.maxDepth, run_equalIn_nilfunc w 9999 t ps rs vr h]
theorem run_eql_nilfunc {P : Program} (w : World) (t : TypeId) (ps rs : Array TypeId) (vr : Bool) (h : P.underlying t = some (.func ps rs vr)) :
    (binOp .eql t .nilFunc .nilFunc).run P w = .ok (.bool true) w := by
  simp only [binOp]
  simp [Op.equal, Op.maxDepth, run_equalIn_nilfunc w 9999 t ps rs vr h]

namespace Qi
/-- no queue: nil, or one without an order -/
def NoQ (w : World) (p : Value) : Prop := p = .pointer none ∨ ∃ qb, p = .pointer (some ⟨qb, 0, none⟩) ∧ w.cell? ⟨qb, 0, none⟩ = some .nilFunc

theorem made_no (p : Value) (w : World) (h : NoQ w p) : Calls Try.prog 38 #[p] w fun e w' => e = .returned (.bool false) ∧ w = w' := by
  have hn := fun w => run_neq_nilfunc (P := Try.prog) w 25 _ _ _ Try.underlying25
  rcases h with rfl | ⟨qb, rfl, hc⟩
  all_goals
    go_enter Try.func38, Try.ntmps38
    go_wp2
    go_ret
    exact ⟨rfl, rfl⟩

theorem push_no (p : Value) (x : Int) (w : World) (h : NoQ w p) : Calls Try.prog 24 #[p, .int .i64 x] w fun e w' => e = .returned (.int .i64 1) ∧ w = w' := by
  have Hm := Lib.hid (made_no p w h)
  rcases h with rfl | ⟨qb, rfl, hc⟩
  all_goals
    go_enter Try.func24, Try.ntmps24
    go_wp2_with (go_at_call 38; refine Hm.out.mono ?_; rintro e w' ⟨rfl, rfl⟩)
    go_ret
    exact ⟨rfl, rfl⟩

theorem peek_no (p : Value) (w : World) (h : NoQ w p) : Calls Try.prog 26 #[p] w fun e w' => e = .returned (.tuple #[.int .i64 0, .bool false]) ∧ w = w' := by
  have Hm := Lib.hid (made_no p w h)
  rcases h with rfl | ⟨qb, rfl, hc⟩
  all_goals
    go_enter Try.func26, Try.ntmps26
    go_wp2_with (go_at_call 38; refine Hm.out.mono ?_; rintro e w' ⟨rfl, rfl⟩)
    go_ret2
    exact ⟨rfl, rfl⟩

theorem len_no (p : Value) (w : World) (h : NoQ w p) : Calls Try.prog 28 #[p] w fun e w' => e = .returned (.int .i64 0) ∧ w = w' := by
  have Hm := Lib.hid (made_no p w h)
  rcases h with rfl | ⟨qb, rfl, hc⟩
  all_goals
    go_enter Try.func28, Try.ntmps28
    go_wp2_with (go_at_call 38; refine Hm.out.mono ?_; rintro e w' ⟨rfl, rfl⟩)
    go_ret
    exact ⟨rfl, rfl⟩

theorem pop_no (p : Value) (w : World) (h : NoQ w p) : Calls Try.prog 27 #[p] w fun e w' => e = .returned (.tuple #[.int .i64 0, .bool false]) ∧ w = w' := by
  have Hm := Lib.hid (peek_no p w h)
  rcases h with rfl | ⟨qb, rfl, hc⟩
  all_goals
    go_enter Try.func27, Try.ntmps27
    go_wp2_with (go_at_call 26; refine Hm.out.mono ?_; rintro e w' ⟨rfl, rfl⟩)
    go_ret2
    exact ⟨rfl, rfl⟩

theorem new_no (w : World) : Calls Try.prog 22 #[.nilFunc] w fun e w' => e = .returned (.pointer none) ∧ w = w' := by
  have hn := fun w => run_eql_nilfunc (P := Try.prog) w 25 _ _ _ Try.underlying25
  go_enter Try.func22, Try.ntmps22
  go_wp2
  go_ret
  exact ⟨rfl, rfl⟩

theorem sorted_no (v : Value) (xs : List Int) (w : World) (hs : SL enc w v xs) (hl : xs.length ≤ 2097152) : Calls Try.prog 10 #[v, .nilFunc] w fun e w' => e = .returned (.slice none 0 0) ∧ w = w' := by
  have HS := Lib.hid hs
  obtain ⟨A, cap, rfl, hnc, _⟩ := hs
  have hxl : (xs.length : Int) ≤ 2097152 := by omega
  have Hnew := Lib.hid (new_no w)
  have Hpush := Lib.hid (fun x => push_no (.pointer none) x w (.inl rfl))
  have Hpop := Lib.hid (pop_no (.pointer none) w (.inl rfl))
  go_enter Try.func10, Try.ntmps10
  go_wp2_with fail
  refine Hnew.out.mono ?_
  rintro e w' ⟨rfl, rfl⟩
  go_wp2_with fail
  go_loopg [15] (xs.length + 1) (fun m s15 wr => ∃ k : Nat, s15 = .int .i64 k ∧ Hid (k ≤ xs.length ∧ xs.length - k < m) ∧ Hid (wr = w))
  case atStart => exact ⟨0, rfl, ⟨Nat.zero_le _, by omega⟩, rfl⟩
  case round =>
    obtain ⟨k, rfl, HK, HW⟩ := hrel
    obtain rfl := HW.out
    by_cases hk : k < xs.length
    · obtain ⟨b, off, rfl, hb, hcell⟩ := HS.out.at_ (s := 1) (fun _ => rfl) rfl hk
      have hc := hcell 0 (by omega)
      clear hcell
      simp [enc] at hc
      generalize xs[k] = x at hc
      have hki : (k : Int) < xs.length := by omega
      go_wp2_with fail
      refine (Hpush.out x).mono ?_
      rintro e w' ⟨rfl, rfl⟩
      go_wp2_with fail
      go_roundg (gk - 1)
      case measure => have := HK.out; omega
      case rel => exact ⟨k + 1, by go_num, ⟨hk, by have := HK.out; omega⟩, rfl⟩
    · obtain rfl : k = xs.length := by have := HK.out; omega
      go_wp2_with fail
      refine Hpop.out.mono ?_
      rintro e w' ⟨rfl, rfl⟩
      go_wp2_with fail
      refine wp_loop_rounds 1 ?_
      rw [rounds_succ]
      go_wp2
      go_ret
      exact ⟨rfl, rfl⟩
end Qi

set_option maxHeartbeats 6400000 in
set_option maxRecDepth 100000 in
theorem QueueNil_walk (w : World) (x : Int) (wx : (Lit.int .i64 x).wf = true) (v : Value) (xs : List Int) (hs : SL encI w v xs) (hwf : ∀ x ∈ xs, (Lit.int .i64 x).wf = true) (hl : xs.length ≤ 1048576) :
    Calls Try.prog 9 #[.int .i64 x, v] w fun e w' => e = .returned (.bool true) ∧ Gr w w' := by
  have HS := Lib.hid hs
  clear hs hwf wx
  have Hl := Lib.hid hl
  clear hl
  go_enter Try.func9, Try.ntmps9
  go_wp2_with fail
  have HG := Lib.hid ((Fr.refl w NoneS).alloc (.cells #[.nilFunc, .slice none 0 0, .int .i64 0] 62))
  have HN := Lib.hid (show Qi.NoQ (w.alloc (.cells #[.nilFunc, .slice none 0 0, .int .i64 0] 62)) (.pointer (some ⟨w.heap.size, 0, none⟩)) from .inr ⟨_, rfl, by simp⟩)
  generalize w.alloc (.cells #[.nilFunc, .slice none 0 0, .int .i64 0] 62) = w1 at HG HN ⊢
  generalize w.heap.size = qb at HN ⊢
  refine (Qi.pop_no _ w1 (.inl rfl)).mono ?_
  rintro e w' ⟨rfl, rfl⟩
  go_wp2_with fail
  refine (Qi.peek_no _ w1 HN.out).mono ?_
  rintro e w' ⟨rfl, rfl⟩
  go_wp2_with fail
  refine (Qi.new_no w1).mono ?_
  rintro e w' ⟨rfl, rfl⟩
  go_wp2_with fail
  refine (Qi.sorted_no v xs w1 (HS.out.gr HG.out) (by have := Hl.out; omega)).mono ?_
  rintro e w' ⟨rfl, rfl⟩
  go_wp2_with fail
  refine (Qi.push_no _ x w1 (.inl rfl)).mono ?_
  rintro e w' ⟨rfl, rfl⟩
  go_wp2_with fail
  refine (Qi.push_no _ x w1 HN.out).mono ?_
  rintro e w' ⟨rfl, rfl⟩
  go_wp2_with fail
  refine (Qi.len_no _ w1 (.inl rfl)).mono ?_
  rintro e w' ⟨rfl, rfl⟩
  go_wp2_with fail
  refine (Qi.len_no _ w1 HN.out).mono ?_
  rintro e w' ⟨rfl, rfl⟩
  go_wp2_with fail
  refine (works_any w1).mono ?_
  rintro e w2 ⟨rfl, hg⟩
  have HG2 := Lib.hid hg
  clear hg
  go_wp2_with fail
  go_ret
  exact ⟨rfl, HG.out.trans HG2.out (fun _ _ h => h)⟩
end Go.Proofs.Ytngmlelocgnbiaa
