/- The queue of ints: Pop of nothing, Sorted. -/
import Derived.Test.YtngmlelocgnbiaaQWd
import Derived.Test.YtngmlelocgnbiaaQSort
import Derived.Test.YtngmlelocgnbiaaSpare
set_option linter.unusedVariables false
set_option linter.unusedSimpArgs false
namespace Go.Proofs.Ytngmlelocgnbiaa
open Go.RowKit

namespace Qi
theorem info_x : (Try.prog.info? 3).map (fun i => (i.zero, i.size, i.bytes)) = some (some (.int .i64 0), 1, 8) := by kernel_rfl

theorem enc_one : ∀ x : Int, ∀ u ∈ enc x, u.oneCell' = true := by intro x u hu; simp [enc] at hu; subst hu; rfl

theorem pop_none (fv hv : Value) (B qb : Nat) (w : World) (next : Nat) (hq : Q w B qb fv hv [] next) (f : Fn) (x y : Array Value) (hfv : fv = .func f x y) :
    Calls Try.prog 27 #[.pointer (some ⟨qb, 0, none⟩)] w fun e w' => e = .returned (.tuple #[.int .i64 0, .bool false]) ∧ w = w' := by
  have Hpeek := Lib.hid (peek_none fv hv B qb w next hq _ _ _ hfv)
  clear hq hfv
  go_enter Try.func27, Try.ntmps27
  go_wp2_with (go_at_call 26; refine Hpeek.out.mono ?_; rintro e w' ⟨rfl, rfl⟩)
  go_ret2
  exact ⟨rfl, rfl⟩

theorem pop_any (lt : Int → Int → Bool) (fv hv : Value) (B qb Bl : Nat) (W0 w : World) (l : List (Int × Nat)) (next : Nat) (hq : Q w B qb fv hv l next)
    (hless : LessOK Try.prog enc fv lt Bl W0) (hW : Below Bl W0 w) (hBl : Bl ≤ B) (hlen : l.length ≤ 4194304) :
    Calls Try.prog 27 #[.pointer (some ⟨qb, 0, none⟩)] w fun e w' => e = .returned (.tuple #[.int .i64 (QP.hd 0 l), .bool (!l.isEmpty)]) ∧
      ∃ hv', Q w' B qb fv hv' (QP.pop lt l) next ∧ Fr w w' (QS qb hv) ∧ hv'.ownBlock = hv.ownBlock := by
  cases l with
  | nil =>
    obtain ⟨f, c, hfv, _⟩ := hless
    refine (pop_none fv hv B qb w next hq _ _ _ hfv).mono ?_
    rintro e w' ⟨rfl, rfl⟩
    exact ⟨rfl, hv, hq, Fr.refl _ _, rfl⟩
  | cons z r =>
    refine (pop_some lt fv hv B qb Bl W0 w (z :: r) next hq hless hW hBl r.length rfl hlen z.1 z.2 rfl).mono ?_
    rintro e w' ⟨rfl, h⟩
    exact ⟨rfl, h⟩

theorem gr_of_q {w w1 w2 : World} {qb : Nat} {hv : Value} (h1 : Gr w w1) (h2 : Fr w1 w2 (QS qb hv)) (hq : w.heap.size ≤ qb) (ho : ∀ k, hv.ownBlock = some k → w.heap.size ≤ k) : Gr w w2 :=
  h1.trans h2 (fun i hi hs => by
    rcases hs with hs | hs
    · omega
    · have := ho i hs; omega)

theorem q_keep {w w' : World} {B qb : Nat} {fv hv : Value} {l : List (Int × Nat)} {next b s n : Nat} {e : TypeId} {v : Value} {xs : List Value} (hq : Q w B qb fv hv l next) (ho : w.ownsRow b e s v n xs)
    (he1 : e ≠ 62) (he2 : e ≠ 69) (hf : Fr w w' (fun k => v.ownBlock = some k)) : Q w' B qb fv hv l next :=
  hq.fr hf (fun k hk hv => by
    rcases hk with rfl | hk
    · exact own_blk_ne ho hq.blk he1 hv
    · exact own_own_ne hq.own ho (Ne.symm he2) k hk hv)
theorem own_keep {w w' : World} {B qb : Nat} {fv hv : Value} {l : List (Int × Nat)} {next b s n : Nat} {e : TypeId} {v : Value} {xs : List Value} (hq : Q w B qb fv hv l next) (ho : w.ownsRow b e s v n xs)
    (he1 : e ≠ 62) (he2 : e ≠ 69) (hf : Fr w w' (QS qb hv)) : w'.ownsRow b e s v n xs :=
  hf.owns ho (fun k hv hk => by
    rcases hk with rfl | hk
    · exact own_blk_ne ho hq.blk he1 hv
    · exact own_own_ne hq.own ho (Ne.symm he2) k hk hv)
theorem gr_keep {w0 w w' : World} {s n : Nat} {e : TypeId} {v : Value} {xs : List Value} (hg : Gr w0 w) (ho : w.ownsRow w0.heap.size e s v n xs) (hf : Fr w w' (fun k => v.ownBlock = some k)) : Gr w0 w' :=
  hg.trans hf (fun i hi hv => by have := (ho.lt i hv).1; omega)

set_option maxHeartbeats 6400000 in
set_option maxRecDepth 100000 in
theorem sorted_full (T : Value → Prop) (hT0 : T (.int .i64 0)) (hT1 : ∀ x : Int, T (.int .i64 x)) (lt : Int → Int → Bool) (fv v : Value) (xs : List Int) (w : World) (hs : SL enc w v xs) (hless : LessOK Try.prog enc fv lt w.heap.size w) (hlen : xs.length ≤ 2097152) :
    Calls Try.prog 10 #[v, fv] w fun e w' => ∃ r, e = .returned r ∧ w'.ownsRow w.heap.size 3 1 r xs.length ((QP.sorted lt xs).flatMap enc) ∧ Gr w w' ∧ SpareT T w' r := by
  have HT0 := Lib.hid hT0
  have HT1 := Lib.hid hT1
  clear hT0 hT1
  obtain ⟨i0, hi0, hz0, hz1, hz2⟩ := info_parts info_x
  have Hless := Lib.hid hless
  obtain ⟨f, c, rfl, hcf, hl⟩ := hless
  clear hl hcf
  have HS := Lib.hid hs
  obtain ⟨A, cap, rfl, hnc, _⟩ := hs
  have hxl : (xs.length : Int) ≤ 2097152 := by omega
  go_enter Try.func10, Try.ntmps10
  go_wp2_with (go_at_call 22; refine (new_any _ _ _ _).mono ?_; rintro e w' ⟨rfl, rfl⟩)
  have HQ0 := Lib.hid (show Q (w.alloc (.cells #[.func (.func f) #[] c, .slice none 0 0, .int .i64 0] 62)) w.heap.size w.heap.size (.func (.func f) #[] c) (.slice none 0 0) [] 0 from
    ⟨Nat.le_refl _, Blk.new _ _ _, World.ownsRow_nil _ _ _ _, by simp [Value.ownBlock]⟩)
  have HG0 := Lib.hid ((Fr.refl w NoneS).alloc (.cells #[.func (.func f) #[] c, .slice none 0 0, .int .i64 0] 62))
  generalize World.alloc w _ = w1 at HQ0 HG0 ⊢
  go_loopg [15] (xs.length + 1) (fun m s15 wr => ∃ (k : Nat) (hv : Value), s15 = .int .i64 k ∧ Hid (k ≤ xs.length ∧ xs.length - k < m) ∧
    Hid (Q wr w.heap.size w.heap.size (.func (.func f) #[] c) hv (QP.fill lt (xs.take k) [] 0) k) ∧ Hid (Gr w wr))
  case atStart => exact ⟨0, _, rfl, ⟨Nat.zero_le _, by omega⟩, HQ0.out, HG0.out⟩
  case round =>
    obtain ⟨k, hv, rfl, HK, HQ, HG⟩ := hrel
    by_cases hk : k < xs.length
    · obtain ⟨b, off, rfl, hb, hcell⟩ := (HS.out.gr HG.out).at_ (s := 1) (fun _ => rfl) rfl hk
      have hc := hcell 0 (by omega)
      clear hcell
      simp [enc] at hc
      have Hx := Lib.hid (List.take_succ_eq_append_getElem hk)
      generalize xs[k] = x at hc Hx
      have hki : (k : Int) < xs.length := by omega
      have HP := Lib.hid (push_any lt _ hv _ _ w.heap.size w wr _ _ HQ.out Hless.out (Gr.below HG.out) (Nat.le_refl _) x (by rw [QP.length_fill]; simp; omega) (by have := HK.out; omega))
      go_wp2_with (go_at_call 24; refine HP.out.mono ?_; rintro e w2 ⟨rfl, hv2, hq2, hf2, ho2⟩; have HQ2 := Lib.hid hq2; have HF2 := Lib.hid hf2; clear hq2 hf2 ho2)
      go_roundg (gk - 1)
      case measure => have := HK.out; omega
      case rel =>
        refine ⟨k + 1, hv2, by go_num, ⟨hk, by have := HK.out; omega⟩, ?_, gr_of_q HG.out HF2.out (Nat.le_refl _) (fun k hk => (HQ.out.own.lt k hk).1)⟩
        rw [Hx.out, QP.fill_snoc, Nat.zero_add, List.length_take, Nat.min_eq_left (Nat.le_of_lt hk)]
        exact HQ2.out
    · obtain rfl : k = xs.length := by have := HK.out; omega
      have HQ2 : Hid (Q wr w.heap.size w.heap.size (.func (.func f) #[] c) hv (QP.fill lt xs [] 0) xs.length) := by have := HQ.out; rw [List.take_length] at this; exact this
      have HP := Lib.hid (pop_any lt _ hv _ _ w.heap.size w wr _ _ HQ2.out Hless.out (Gr.below HG.out) (Nat.le_refl _) (by rw [QP.length_fill]; simp; omega))
      go_wp2_with (go_at_call 27; refine HP.out.mono ?_; rintro e w2 ⟨rfl, hv2, hq2, hf2, ho2⟩; have HQ3 := Lib.hid hq2; have HF3 := Lib.hid hf2; have HO3 := Lib.hid ho2; clear hq2 hf2 ho2)
      have HG2 := Lib.hid (gr_of_q HG.out HF3.out (Nat.le_refl _) (fun k hk => (HQ.out.own.lt k hk).1))
      clear HQ0 HG0 HP HQ HF3
      go_loopg [8, 9, 10] (xs.length + 1) (fun m s8 s9 s10 wx => ∃ (x : Int) (ok : Bool) (l : List (Int × Nat)) (acc : List Int) (hx : Value), s9 = .int .i64 x ∧ s10 = .bool ok ∧
        Hid (x = QP.hd 0 l ∧ ok = !l.isEmpty ∧ l.length < m ∧ l.length + acc.length = xs.length ∧ acc ++ QP.drain lt l.length l = QP.sorted lt xs) ∧
        Hid (wx.ownsRow w.heap.size 3 1 s8 acc.length (acc.flatMap enc)) ∧ Hid (SpareT T wx s8) ∧
        Hid (Q wx w.heap.size w.heap.size (.func (.func f) #[] c) hx (QP.pop lt l) xs.length) ∧ Hid (Gr w wx))
      case atStart => exact ⟨_, _, QP.fill lt xs [] 0, [], hv2, rfl, rfl, ⟨rfl, rfl, by rw [QP.length_fill]; simp, by rw [QP.length_fill]; simp, by rw [QP.length_fill]; simp [QP.sorted]⟩, World.ownsRow_nil _ _ _ _, SpareT.nil _ _, HQ3.out, HG2.out⟩
      case round =>
        obtain ⟨x, ok, l, acc, hx, rfl, rfl, HI, HO, HT, HQ, HG⟩ := hrel
        cases l with
        | nil =>
          obtain ⟨h01, h02, h1, h2, h3⟩ := HI.out
          have H3 := Lib.hid h3
          have H2 := Lib.hid h2
          obtain rfl : x = 0 := h01
          obtain rfl : ok = false := h02
          clear h1 h2 h3 HI
          go_wp2_with fail
          go_ret
          refine ⟨_, rfl, ?_, HG.out, HT.out⟩
          have h2 := H2.out
          have h3 := H3.out
          rw [List.length_nil, Nat.zero_add] at h2
          simp only [List.length_nil, QP.drain, List.append_nil] at h3
          rw [← h2, ← h3]
          exact HO.out
        | cons z r =>
          obtain ⟨h01, h02, h1, h2, h3⟩ := HI.out
          have H3 := Lib.hid h3
          have H2 := Lib.hid h2
          have H1 := Lib.hid h1
          have H01 := Lib.hid h01
          obtain rfl : ok = true := h02
          clear h1 h2 h3 HI h01
          have hal : acc.length ≤ 2097152 := by have := H2.out; omega
          have HP := Lib.hid (fun (w3 : World) (hq3 : Q w3 w.heap.size w.heap.size (.func (.func f) #[] c) hx (QP.pop lt (z :: r)) xs.length) (hg3 : Gr w w3) =>
            pop_any lt _ hx _ _ w.heap.size w w3 _ _ hq3 Hless.out (Gr.below hg3) (Nat.le_refl _) (by rw [QP.length_pop]; have := H2.out; simp at this ⊢; omega))
          go_wp2_with (first
            | (at_builtin; refine wpList_append_st _ enc rfl _ _ 22 rfl w.heap.size 3 i0 (.int .i64 0) 1 8 Try.underlying22 hi0 hz0 hz1 hz2 rfl (by decide) _ _ _ rfl (HO.out.alloc _) (.slice (some ⟨wr.heap.size, 0, none⟩) 1 1) [x] rfl (sl_one wr x _ rfl _) (fun _ => rfl) enc_one (by simp only [List.length_singleton]; unfold maxLen; omega) (by simp only [List.length_singleton]; omega) (by have := HG.out.size; simp; omega) ?_
               intro v4 w4 hown4 hg4 hat4 hsp4
               have HO4 := Lib.hid hown4
               have HG4 := Lib.hid ((((Fr.refl wr (fun k => Value.ownBlock _ = some k)).alloc _).trans hg4 (fun _ _ h => h)))
               have HT4 := Lib.hid (hsp4 T (by intro u hu; simp [Value.cells] at hu; subst hu; exact HT0.out) (by intro u hu; simp [enc] at hu; subst hu; exact HT1.out x) (HT.out.own HO.out ((Fr.refl wr NoneS).alloc _) (fun _ _ h => h)))
               clear hown4 hg4 hat4 hsp4)
            | (go_at_call 27; refine (HP.out _ (by exact q_keep HQ.out HO.out (by decide) (by decide) HG4.out) (by exact gr_keep HG.out HO.out HG4.out)).mono ?_
               rintro e w5 ⟨rfl, hv5, hq5, hf5, ho5⟩
               have HQ5 := Lib.hid hq5
               have HF5 := Lib.hid hf5
               clear hq5 hf5 ho5))
          have HQ4 := Lib.hid (q_keep HQ.out HO.out (by decide) (by decide) HG4.out)
          have HO5 := Lib.hid (own_keep HQ4.out HO4.out (by decide) (by decide) HF5.out)
          have HT5 := Lib.hid (HT4.out.own HO4.out HF5.out (fun k hv hk => by
            rcases hk with rfl | hk
            · exact own_blk_ne HO4.out HQ4.out.blk (by decide) hv
            · exact own_own_ne HQ4.out.own HO4.out (by decide) k hk hv))
          go_roundg (gk - 1)
          case measure => have := H1.out; omega
          case rel =>
            refine ⟨_, _, QP.pop lt (z :: r), acc ++ [x], hv5, rfl, rfl, ⟨rfl, rfl, ?_, ?_, ?_⟩, ?_, HT5.out, HQ5.out, gr_of_q (gr_keep HG.out HO.out HG4.out) HF5.out (Nat.le_refl _) (fun k hk => (HQ4.out.own.lt k hk).1)⟩
            · have := H1.out; rw [QP.length_pop]; simp at this ⊢; omega
            · have := H2.out; rw [QP.length_pop]; simp at this ⊢; omega
            · have h3 := H3.out
              rw [QP.drain_succ lt 0 (z :: r) (by simp), ← H01.out] at h3
              rw [List.append_assoc]; exact h3
            · have h5 := HO5.out
              rw [List.flatMap_append, List.length_append]
              exact h5

theorem sorted_any (lt : Int → Int → Bool) (fv v : Value) (xs : List Int) (w : World) (hs : SL enc w v xs) (hless : LessOK Try.prog enc fv lt w.heap.size w) (hlen : xs.length ≤ 2097152) :
    Calls Try.prog 10 #[v, fv] w fun e w' => ∃ r, e = .returned r ∧ w'.ownsRow w.heap.size 3 1 r xs.length ((QP.sorted lt xs).flatMap enc) ∧ Gr w w' :=
  (sorted_full (fun _ => True) trivial (fun _ => trivial) lt fv v xs w hs hless hlen).mono fun e w' ⟨r, h1, h2, h3, _⟩ => ⟨r, h1, h2, h3⟩
end Qi
end Go.Proofs.Ytngmlelocgnbiaa
