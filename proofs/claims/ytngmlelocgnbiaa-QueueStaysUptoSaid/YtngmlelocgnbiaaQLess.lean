/- The orders of chapter 7's statements, as function values; works. -/
import Derived.Test.YtngmlelocgnbiaaQRef3
set_option linter.unusedVariables false
set_option linter.unusedSimpArgs false
namespace Go.Proofs.Ytngmlelocgnbiaa
open Go.RowKit


set_option maxHeartbeats 1600000 in
theorem less_QueueSorts (b : Int) (pb : Nat) (Bl : Nat) (W0 : World) (hp : pb < Bl) (hc : W0.cell? ⟨pb, 0, none⟩ = some (.int .i64 b)) :
    LessOK Try.prog Qi.enc (.func (.func 11) #[] #[.pointer (some ⟨pb, 0, none⟩)]) (ltR b) Bl W0 := by
  refine ⟨11, #[.pointer (some ⟨pb, 0, none⟩)], rfl, callFunc_enters Try.func11 (by kernel_rfl) (by kernel_rfl), ?_⟩
  intro x y w hw
  have c := (hw.cell (p := ⟨pb, 0, none⟩) hp).trans hc
  show Calls Try.prog 11 #[.int .i64 x, .int .i64 y, .pointer (some ⟨pb, 0, none⟩)] w _
  clear hw hc
  go_enter Try.func11, Try.ntmps11
  go_wp2_with fail
  go_quiet ((exact Calls.quiet_of_same ((Rank_any _ _ _).mono (fun _ _ h => ⟨h.1, h.2.symm⟩))))
  go_wp2
  go_ret
  exact ⟨rfl, _, rfl⟩

set_option maxHeartbeats 1600000 in
theorem less_QueueBoth (b : Int) (pb : Nat) (Bl : Nat) (W0 : World) (hp : pb < Bl) (hc : W0.cell? ⟨pb, 0, none⟩ = some (.int .i64 b)) :
    LessOK Try.prog Qi.enc (.func (.func 21) #[] #[.pointer (some ⟨pb, 0, none⟩)]) (ltR b) Bl W0 := by
  refine ⟨21, #[.pointer (some ⟨pb, 0, none⟩)], rfl, callFunc_enters Try.func21 (by kernel_rfl) (by kernel_rfl), ?_⟩
  intro x y w hw
  have c := (hw.cell (p := ⟨pb, 0, none⟩) hp).trans hc
  show Calls Try.prog 21 #[.int .i64 x, .int .i64 y, .pointer (some ⟨pb, 0, none⟩)] w _
  clear hw hc
  go_enter Try.func21, Try.ntmps21
  go_wp2_with fail
  go_quiet ((exact Calls.quiet_of_same ((Rank_any _ _ _).mono (fun _ _ h => ⟨h.1, h.2.symm⟩))))
  go_wp2
  go_ret
  exact ⟨rfl, _, rfl⟩

set_option maxHeartbeats 1600000 in
theorem less_QueuePlays (b : Int) (pb : Nat) (Bl : Nat) (W0 : World) (hp : pb < Bl) (hc : W0.cell? ⟨pb, 0, none⟩ = some (.int .i64 b)) :
    LessOK Try.prog Qi.enc (.func (.func 23) #[] #[.pointer (some ⟨pb, 0, none⟩)]) (ltR b) Bl W0 := by
  refine ⟨23, #[.pointer (some ⟨pb, 0, none⟩)], rfl, callFunc_enters Try.func23 (by kernel_rfl) (by kernel_rfl), ?_⟩
  intro x y w hw
  have c := (hw.cell (p := ⟨pb, 0, none⟩) hp).trans hc
  show Calls Try.prog 23 #[.int .i64 x, .int .i64 y, .pointer (some ⟨pb, 0, none⟩)] w _
  clear hw hc
  go_enter Try.func23, Try.ntmps23
  go_wp2_with fail
  go_quiet ((exact Calls.quiet_of_same ((Rank_any _ _ _).mono (fun _ _ h => ⟨h.1, h.2.symm⟩))))
  go_wp2
  go_ret
  exact ⟨rfl, _, rfl⟩

theorem less_Fresh (Bl : Nat) (W0 : World) : LessOK Try.prog Qi.enc (.func (.func 19) #[] #[]) (fun a b => decide (a < b)) Bl W0 := by
  refine ⟨19, #[], rfl, callFunc_enters Try.func19 (by kernel_rfl) (by kernel_rfl), ?_⟩
  intro x y w hw
  show Calls Try.prog 19 #[.int .i64 x, .int .i64 y] w _
  clear hw
  go_enter Try.func19, Try.ntmps19
  go_wp2
  go_ret
  exact ⟨rfl, 0, rfl⟩

/-- the order of 'works' -/
def lt10 (x y : Int) : Bool := decide (x.tmod 10 < y.tmod 10)
theorem less_works (Bl : Nat) (W0 : World) : LessOK Try.prog Qi.enc (.func (.func 34) #[] #[]) lt10 Bl W0 := by
  refine ⟨34, #[], rfl, callFunc_enters Try.func34 (by kernel_rfl) (by kernel_rfl), ?_⟩
  intro x y w hw
  show Calls Try.prog 34 #[.int .i64 x, .int .i64 y] w _
  clear hw
  go_enter Try.func34, Try.ntmps34
  go_wp2
  go_ret
  exact ⟨rfl, 0, rfl⟩

theorem sl_lit3 (w : World) (a b c : Int) (t : TypeId) : SL encI (w.alloc (.cells #[.int .i64 a, .int .i64 b, .int .i64 c] t)) (.slice (some ⟨w.heap.size, 0, none⟩) 3 3) [a, b, c] := by
  refine ⟨_, 3, rfl, by simp, fun _ => ⟨w.heap.size, 0, rfl, by simp, fun i u hu => ?_⟩⟩
  rw [Nat.zero_add, World.cell?_alloc_new]
  simpa [encI] using hu

set_option maxHeartbeats 1600000 in
theorem works_any (w : World) : Calls Try.prog 15 #[] w fun e w' => e = .returned (.bool true) ∧ Gr w w' := by
  have HS := Lib.hid (sl_lit3 w 5 15 4 3)
  have hL := (fun (w1 : World) (v : Value) (hs : SL encI w1 v [5, 15, 4]) => Qi.sorted_any lt10 (.func (.func 34) #[] #[]) v [5, 15, 4] w1 hs (less_works _ _) (by decide))
  have HL := Lib.hid hL
  clear hL
  have Hsorted := Lib.hid (show QP.sorted lt10 [5, 15, 4] = [4, 5, 15] by decide)
  go_enter Try.func15, Try.ntmps15
  go_wp2_with fail
  refine (HL.out _ _ HS.out).mono ?_
  rintro e w2 ⟨r, rfl, ho, hg⟩
  have HO := Lib.hid ho
  have HG := Lib.hid (show Gr w w2 from ((Fr.refl w NoneS).alloc _).trans hg (fun _ _ h => h))
  clear ho hg
  go_wp2_with fail
  have HI := Lib.hid (Ints_any r _ [4, 5, 15] [4, 5, 15] _ ((SL.of_own (enc := encI) (xs := [4, 5, 15]) (by have := HO.out; rw [Hsorted.out] at this; exact this) rfl).gr ((Fr.refl w2 NoneS).alloc _)) (sl_lit3 w2 4 5 15 3) (by decide))
  refine HI.out.mono ?_
  rintro e w3 ⟨rfl, hd⟩
  have HD := Lib.hid hd
  clear hd
  go_wp2_with fail
  go_ret
  exact ⟨by simp, (HG.out.trans ((Fr.refl w2 NoneS).alloc _) (fun _ _ h => h)).trans HD.out.gr (fun _ _ h => h)⟩
end Go.Proofs.Ytngmlelocgnbiaa
