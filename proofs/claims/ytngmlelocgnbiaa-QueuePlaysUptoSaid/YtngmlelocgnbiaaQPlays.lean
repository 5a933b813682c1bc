/- QueuePlays: the walk. -/
import Derived.Test.YtngmlelocgnbiaaQSorts
import Derived.Test.YtngmlelocgnbiaaQLaw2
import Derived.Test.YtngmlelocgnbiaaFrame
set_option linter.unusedVariables false
set_option linter.unusedSimpArgs false
namespace Go.Proofs.Ytngmlelocgnbiaa
open Go.RowKit

/-- every block of v holds elements of type e -/
def ElemT (w : World) (v : Value) (e : TypeId) : Prop := ∀ k, v.ownBlock = some k → ∃ cs fr, w.heap[k]? = some (.cells cs e fr)
theorem ElemT.lt {w : World} {v : Value} {e : TypeId} (h : ElemT w v e) : ∀ k, v.ownBlock = some k → k < w.heap.size := fun k hk => by
  obtain ⟨cs, fr, hc⟩ := h k hk
  exact (Array.getElem?_eq_some_iff.1 hc).1
theorem ElemT.fr {w w' : World} {v : Value} {e : TypeId} {S : Nat → Prop} (h : ElemT w v e) (hf : Fr w w' S) (hn : ∀ k, v.ownBlock = some k → ¬ S k) : ElemT w' v e := fun k hk => by
  obtain ⟨cs, fr, hc⟩ := h k hk
  exact ⟨cs, fr, by rw [hf.block k (h.lt k hk) (hn k hk)]; exact hc⟩
theorem ElemT.of_own {w : World} {b : Nat} {e : TypeId} {s n : Nat} {v : Value} {xs : List Value} (h : w.ownsRow b e s v n xs) : ElemT w v e := fun k hk => by
  rcases h.2 with ⟨rfl, _⟩ | ⟨g, cap, cur, rfl, _, hg, _⟩
  · simp [Value.ownBlock] at hk
  · have : g = k := by simpa [Value.ownBlock] using hk
    subst this
    exact ⟨cur, (0, 0), hg⟩
theorem ElemT.ne_blk {w : World} {v : Value} {e t : TypeId} {g : Nat} {cs : Array Value} (h : ElemT w v e) (hb : Blk w g t cs) (hne : e ≠ t) : v.ownBlock ≠ some g := fun hk => by
  obtain ⟨cs', fr, hc⟩ := h g hk
  unfold Blk at hb
  rw [hb] at hc
  injection hc with hc
  injection hc with _ h2 _
  exact hne h2.symm
theorem ElemT.ne_own {w : World} {v u : Value} {e t : TypeId} {b s n : Nat} {xs : List Value} (h : ElemT w v e) (ho : w.ownsRow b t s u n xs) (hne : e ≠ t) : ∀ k, v.ownBlock = some k → u.ownBlock ≠ some k := fun k hk hu => by
  obtain ⟨cs', fr, hc⟩ := h k hk
  obtain ⟨cs, fr2, hc2⟩ := (ElemT.of_own ho) k hu
  rw [hc] at hc2
  injection hc2 with hc2
  injection hc2 with _ h2 _
  exact hne h2

namespace Qi
/-- the state of a play -/
structure PS (w1 wr : World) (b : Int) (qb : Nat) (fv hv s6 : Value) (l : List (Int × Nat)) (nx : Nat) (now : List Int) : Prop where
  q : Q wr w1.heap.size qb fv hv l nx
  inv : QP.QInv (ltR b) l nx
  dr : QP.drain (ltR b) l.length l = now
  sl : SL encI wr s6 now
  el : ElemT wr s6 3
  gr : Gr w1 wr
  nx : l.length ≤ nx

namespace PS
variable {w1 wr w2 w3 : World} {b : Int} {qb : Nat} {fv hv hv2 s6 r : Value} {l : List (Int × Nat)} {nx : Nat} {now : List Int}
theorem qs_ne (h : PS w1 wr b qb fv hv s6 l nx now) : ∀ k, s6.ownBlock = some k → ¬ QS qb hv k := fun k hk hs => by
  rcases hs with rfl | hs
  · exact h.el.ne_blk h.q.blk (by decide) hk
  · exact h.el.ne_own h.q.own (by decide) k hk hs
theorem of_gr (h : PS w1 wr b qb fv hv s6 l nx now) (hg : Gr wr w2) : PS w1 w2 b qb fv hv s6 l nx now :=
  ⟨h.q.gr hg, h.inv, h.dr, h.sl.gr hg, h.el.fr hg (fun _ _ h => h), h.gr.trans hg (fun _ _ h => h), h.nx⟩
theorem gr_q (h : PS w1 wr b qb fv hv s6 l nx now) (hf : Fr wr w2 (QS qb hv)) : Gr w1 w2 :=
  gr_of_q h.gr hf h.q.base (fun k hk => (h.q.own.lt k hk).1)
theorem push1 (h : PS w1 wr b qb fv hv s6 l nx now) (hf : Fr wr w2 (QS qb hv)) : SL encI w2 s6 now := h.sl.fr hf (fun k hk => h.qs_ne k hk)
theorem push2 (h : PS w1 wr b qb fv hv s6 l nx now) {x : Int} (hq : Q w2 w1.heap.size qb fv hv2 (QP.push (ltR b) l (x, nx)) (nx + 1)) (hf : Fr wr w2 (QS qb hv))
    (ho : w3.ownsRow w2.heap.size 3 1 r (now.length + 1) ((QP.ins (ltR b) now x).flatMap encI)) (hg : Gr w2 w3) : PS w1 w3 b qb fv hv2 r (QP.push (ltR b) l (x, nx)) (nx + 1) (QP.ins (ltR b) now x) :=
  ⟨hq.gr hg, h.inv.push (swo_ltR b) x, by rw [QP.drain_push (swo_ltR b) h.inv, h.dr], SL.of_own ho (length_ins _ _ _).symm, ElemT.of_own ho, (h.gr_q hf).trans hg (fun _ _ h => h), by rw [QP.length_push]; have := h.nx; omega⟩
theorem pop2 (h : PS w1 wr b qb fv hv s6 l nx now) (hl : l ≠ []) (hq : Q w2 w1.heap.size qb fv hv2 (QP.pop (ltR b) l) nx) (hf : Fr wr w2 (QS qb hv)) {S : Value} (hS : ∀ w (xs : List Int), SL encI w s6 xs → SL encI w S (xs.drop 1)) (hSb : S.ownBlock = s6.ownBlock) :
    PS w1 w2 b qb fv hv2 S (QP.pop (ltR b) l) nx (now.drop 1) :=
  ⟨hq, h.inv.pop (swo_ltR b), by rw [← h.dr, QP.drain_succ _ 0 l hl]; rfl, hS _ _ (h.push1 hf), fun k hk => (h.el.fr hf (fun k hk => h.qs_ne k hk)) k (by rw [← hSb]; exact hk), h.gr_q hf, by rw [QP.length_pop]; have := h.nx; omega⟩
theorem pop0 (h : PS w1 wr b qb fv hv s6 [] nx now) (hq : Q w2 w1.heap.size qb fv hv2 (QP.pop (ltR b) []) nx) (hf : Fr wr w2 (QS qb hv)) : PS w1 w2 b qb fv hv2 s6 [] nx now :=
  ⟨hq, h.inv, h.dr, h.push1 hf, h.el.fr hf (fun k hk => h.qs_ne k hk), h.gr_q hf, h.nx⟩
theorem now_len (h : PS w1 wr b qb fv hv s6 l nx now) : now.length = l.length := by rw [← h.dr, QP.drain_length]
theorem now_hd (h : PS w1 wr b qb fv hv s6 l nx now) (hl : l ≠ []) : now[0]? = some (QP.hd 0 l) := by rw [← h.dr, QP.drain_succ _ 0 l hl]; rfl
end PS

/-- Peek, whatever there is -/
theorem peek_any (fv hv : Value) (B qb : Nat) (w : World) (l : List (Int × Nat)) (next : Nat) (hq : Q w B qb fv hv l next) (f : Fn) (x y : Array Value) (hfv : fv = .func f x y) :
    Calls Try.prog 26 #[.pointer (some ⟨qb, 0, none⟩)] w fun e w' => e = .returned (.tuple #[.int .i64 (QP.hd 0 l), .bool (!l.isEmpty)]) ∧ w = w' := by
  cases l with
  | nil => exact peek_none fv hv B qb w next hq f x y hfv
  | cons z r => exact peek_some fv hv B qb w (z :: r) next hq f x y hfv z.1 z.2 rfl
end Qi

/-- an Op's cells -/
def encOp (o : Int × Int) : List Value := [.int .u8 o.1, .int .i64 o.2]

set_option maxHeartbeats 12800000 in
set_option maxRecDepth 100000 in
theorem QueuePlays_walk (w : World) (b : Int) (wb : (Lit.int .i64 b).wf = true) (v : Value) (xs : List (Int × Int)) (hs : SL encOp w v xs) (hl : xs.length ≤ 1048576) :
    Calls Try.prog 7 #[.int .i64 b, v] w fun e w' => e = .returned (.bool true) ∧ Gr w w' := by
  obtain ⟨i0, hi0, hz0, hz1, hz2⟩ := info_parts info_int
  have HS := Lib.hid hs
  obtain ⟨A, cap, rfl, hcap⟩ := hs.len
  clear hs wb
  have hl' : (xs.length : Int) ≤ 1048576 := by omega
  have Hl := Lib.hid hl
  clear hl
  have hmf := @makeFunc_run Try.prog
  have HG1 := Lib.hid ((Fr.refl w NoneS).alloc (.cells #[.int .i64 b] 3))
  have HC1 := Lib.hid (show (w.alloc (.cells #[.int .i64 b] 3)).cell? ⟨w.heap.size, 0, none⟩ = some (.int .i64 b) by simp)
  have Hlt := Lib.hid (show w.heap.size < (w.alloc (.cells #[.int .i64 b] 3)).heap.size by simp)
  go_enter Try.func7, Try.ntmps7
  go_wp2_with fail
  generalize w.alloc (.cells #[.int .i64 b] 3) = w1 at HG1 HC1 Hlt ⊢
  have Hless := Lib.hid (less_QueuePlays b w.heap.size w1.heap.size w1 Hlt.out HC1.out)
  generalize hfve : Value.func (.func 23) #[] #[.pointer (some ⟨w.heap.size, 0, none⟩)] = fv at Hless ⊢
  have Hfv := Lib.hid hfve.symm
  rw [← hfve]
  refine (Qi.new_any _ _ _ w1).mono ?_
  rintro e w2 ⟨rfl, rfl⟩
  rw [hfve]
  clear hfve
  have HP0 := Lib.hid (show Qi.PS w1 (w1.alloc (.cells #[fv, .slice none 0 0, .int .i64 0] 62)) b w1.heap.size fv (.slice none 0 0) (.slice none 0 0) [] 0 [] from
    ⟨⟨Nat.le_refl _, Blk.new _ _ _, World.ownsRow_nil _ _ _ _, by simp [Value.ownBlock]⟩, QP.QInv.nil, rfl, SL.nil _, fun k hk => by simp [Value.ownBlock] at hk, (Fr.refl w1 NoneS).alloc _, Nat.le_refl _⟩)
  generalize w1.alloc (.cells #[fv, .slice none 0 0, .int .i64 0] 62) = w2 at HP0 ⊢
  obtain ⟨qb, hqb⟩ : ∃ qb, w1.heap.size = qb := ⟨_, rfl⟩
  have HP0 : Hid (Qi.PS w1 w2 b qb fv (.slice none 0 0) (.slice none 0 0) [] 0 []) := by rw [← hqb]; exact HP0
  rw [hqb]
  have Hqb := Lib.hid hqb
  clear hqb
  go_wp2_with fail
  go_loopg [6, 7] (xs.length + 1) (fun m s6 s7 wr => ∃ (k : Nat) (l : List (Int × Nat)) (nx : Nat) (now : List Int) (hv : Value), s7 = .int .i64 k ∧ Hid (k ≤ xs.length ∧ xs.length - k < m ∧ nx ≤ k) ∧ Hid (Qi.PS w1 wr b qb fv hv s6 l nx now))
  case atStart => exact ⟨0, [], 0, [], _, rfl, ⟨Nat.zero_le _, by omega, Nat.le_refl _⟩, HP0.out⟩
  case round =>
    obtain ⟨k, l, nx, now, hv, rfl, HK, HP⟩ := hrel
    clear HP0
    by_cases hk : k < xs.length
    · obtain ⟨b1, o1, rfl, hb1, hcell⟩ := ((HS.out.gr HG1.out).gr HP.out.gr).at_ (s := 2) (fun _ => rfl) rfl hk
      have c0 := hcell 0 (by omega)
      have c1 := hcell 1 (by omega)
      clear hcell
      simp [encOp] at c0 c1
      rw [← Nat.add_assoc] at c1
      obtain ⟨⟨c, x⟩, hx⟩ : ∃ e, e = xs[k] := ⟨_, rfl⟩
      rw [← hx] at c0 c1
      clear hx
      simp only at c0 c1
      have hki : (k : Int) < xs.length := by omega
      go_upto_region 9 with (fail)
      have Ho0 := Lib.hid (show (wr.alloc (.cells #[.int .u8 c, .int .i64 x] 42)).cell? ⟨wr.heap.size, 0, none⟩ = some (.int .u8 c) by simp)
      have Ho1 := Lib.hid (show (wr.alloc (.cells #[.int .u8 c, .int .i64 x] 42)).cell? ⟨wr.heap.size, 1, none⟩ = some (.int .i64 x) by simp)
      have HPa := Lib.hid (HP.out.of_gr ((Fr.refl wr NoneS).alloc (.cells #[.int .u8 c, .int .i64 x] 42)))
      have Hoq := Lib.hid (show ∀ kk, QS qb hv kk → kk ≠ wr.heap.size from fun kk hq e => by
        rcases hq with h | h
        · have := HP.out.q.blk.lt; omega
        · have := (HP.out.q.own.lt kk h).2; omega)
      have Hol := Lib.hid (show wr.heap.size < (wr.alloc (.cells #[.int .u8 c, .int .i64 x] 42)).heap.size by simp)
      generalize wr.alloc (.cells #[.int .u8 c, .int .i64 x] 42) = wa at Ho0 Ho1 HPa Hol ⊢
      generalize wr.heap.size = ob at Ho0 Ho1 Hoq Hol ⊢
      have d0 := Ho0.out
      have d1 := Ho1.out
      clear c0 c1 hb1
      by_cases hc : c = 0
      · have hcb : (c == 0) = true := beq_iff_eq.2 hc
        have Hc := Lib.hid hc
        clear hc
        go_wp2_with fail
        refine (Qi.push_any (ltR b) fv hv w1.heap.size qb w1.heap.size w1 wa l nx HPa.out.q Hless.out (Gr.below HPa.out.gr) (Nat.le_refl _) x (by have := HPa.out.nx; have := HK.out; have := Hl.out; omega) (by have := HK.out; have := Hl.out; omega)).mono ?_
        rintro e w3 ⟨rfl, hv3, hq3, hf3, ho3⟩
        have HQ3 := Lib.hid hq3
        have HF3 := Lib.hid hf3
        clear hq3 hf3 ho3
        have d0' : w3.cell? ⟨ob, 0, none⟩ = some (.int .u8 c) := (HF3.out.cell (p := ⟨ob, 0, none⟩) Hol.out (fun h => Hoq.out _ h rfl)).trans Ho0.out
        have d1' : w3.cell? ⟨ob, 1, none⟩ = some (.int .i64 x) := (HF3.out.cell (p := ⟨ob, 1, none⟩) Hol.out (fun h => Hoq.out _ h rfl)).trans Ho1.out
        have e0 : w3.cell? ⟨w.heap.size, 0, none⟩ = some (.int .i64 b) := ((HPa.out.gr_q HF3.out).cell (p := ⟨w.heap.size, 0, none⟩) Hlt.out (fun h => h)).trans HC1.out
        clear d0 d1
        go_wp2_with fail
        refine (Push_any _ now x b w3 (HPa.out.push1 HF3.out) (by rw [HPa.out.now_len]; have := HPa.out.nx; have := HK.out; have := Hl.out; omega)).mono ?_
        rintro e w4 ⟨r, rfl, ho4, hg4⟩
        have HP4 := Lib.hid (HPa.out.push2 HQ3.out HF3.out ho4 hg4)
        clear ho4 hg4 d0' d1' e0
        obtain ⟨rA, rc, hr, _⟩ := HP4.out.sl.len
        subst hr
        go_wp2_with fail
        refine (Qi.len_any fv hv3 w1.heap.size qb w4 _ _ HP4.out.q _ _ _ Hfv.out).mono ?_
        rintro e w5 ⟨rfl, rfl⟩
        have hlen : (((QP.push (ltR b) l (x, nx)).length : Int) != ((QP.ins (ltR b) now x).length : Int)) = false := by rw [bne_eq_false_iff_eq, HP4.out.now_len]
        go_wp2_with fail
        go_roundg (gk - 1)
        case measure => have := HK.out; omega
        case rel => exact ⟨k + 1, _, nx + 1, _, hv3, by go_num, ⟨hk, by have := HK.out; omega, by have := HK.out; omega⟩, HP4.out⟩
      · have hcb : (c == 0) = false := beq_eq_false_iff_ne.2 hc
        clear hc
        have Hpk := Lib.hid (Qi.peek_any fv hv w1.heap.size qb wa l nx HPa.out.q _ _ _ Hfv.out)
        have Hpp := Lib.hid (Qi.pop_any (ltR b) fv hv w1.heap.size qb w1.heap.size w1 wa l nx HPa.out.q Hless.out (Gr.below HPa.out.gr) (Nat.le_refl _) (by have := HPa.out.nx; have := HK.out; have := Hl.out; omega))
        obtain ⟨sA, sc, hs6, hsc⟩ := HPa.out.sl.len
        subst hs6
        have Hnl := Lib.hid HPa.out.now_len
        by_cases hc1 : c = 1
        · have hcb1 : (c == 1) = true := beq_iff_eq.2 hc1
          clear hc1
          cases l with
          | nil =>
            have hn0 : now = [] := List.eq_nil_of_length_eq_zero Hnl.out
            subst hn0
            go_wp2_with fail
            refine Hpk.out.mono ?_
            rintro e w' ⟨rfl, rfl⟩
            simp only [QP.hd, List.isEmpty_nil, Bool.not_true]
            go_wp2_with fail
            refine Hpp.out.mono ?_
            rintro e w3 ⟨rfl, hv3, hq3, hf3, ho3⟩
            have HP3 := Lib.hid (HPa.out.pop0 hq3 hf3)
            have d0' : w3.cell? ⟨ob, 0, none⟩ = some (.int .u8 c) := (hf3.cell (p := ⟨ob, 0, none⟩) Hol.out (fun h => Hoq.out _ h rfl)).trans Ho0.out
            clear hq3 hf3 ho3 d0 d1
            simp only [QP.hd, List.isEmpty_nil, Bool.not_true]
            go_wp2_with fail
            refine (Qi.len_any fv hv3 w1.heap.size qb w3 _ _ HP3.out.q _ _ _ Hfv.out).mono ?_
            rintro e w5 ⟨rfl, rfl⟩
            go_wp2_with fail
            go_roundg (gk - 1)
            case measure => have := HK.out; omega
            case rel => exact ⟨k + 1, _, nx, _, hv3, by go_num, ⟨hk, by have := HK.out; omega, by have := HK.out; omega⟩, HP3.out⟩
          | cons z r =>
            have hl1 : ((now.length : Int) == 0) = false := beq_eq_false_iff_ne.2 (by have := Hnl.out; simp at this; omega)
            have hl2 : (0 : Int) < now.length := by have := Hnl.out; simp at this; omega
            have hh := HPa.out.now_hd (by simp)
            obtain ⟨hn, hh⟩ := List.getElem?_eq_some_iff.1 hh
            obtain ⟨b2, o2, rfl, hb2, hcell2⟩ := HPa.out.sl.at_ (s := 1) (fun _ => rfl) rfl hn
            have n0 := hcell2 0 (by omega)
            rw [hh] at n0
            simp [encI, QP.hd] at n0
            clear hcell2 hh hb2
            have hzz : (z.1 != z.1) = false := by simp
            obtain ⟨S, hS, hSs, hSb⟩ := slice_from_ex (P := Try.prog) encI 22 3 i0 1 Try.underlying22 hi0 hz1 (fun _ => rfl) (some ⟨b2, o2, none⟩) now.length sc 1 hn
            have hS' : ∀ w, (Instr.slice 22 (.slice (some ⟨b2, o2, none⟩) now.length sc) (some (.int .i64 1)) none none).run Try.prog w = .ok S w := hS
            have HSs := Lib.hid hSs
            have HSb := Lib.hid hSb
            clear hS hSs hSb
            go_wp2_with fail
            refine Hpk.out.mono ?_
            rintro e w' ⟨rfl, rfl⟩
            simp only [QP.hd, List.isEmpty_cons, Bool.not_false]
            go_wp2_with fail
            refine Hpp.out.mono ?_
            rintro e w3 ⟨rfl, hv3, hq3, hf3, ho3⟩
            have HP3 := Lib.hid (HPa.out.pop2 (by simp) hq3 hf3 HSs.out HSb.out)
            have d0' : w3.cell? ⟨ob, 0, none⟩ = some (.int .u8 c) := (hf3.cell (p := ⟨ob, 0, none⟩) Hol.out (fun h => Hoq.out _ h rfl)).trans Ho0.out
            have n0' : w3.cell? ⟨b2, o2, none⟩ = some (.int .i64 z.1) := (hf3.cell (p := ⟨b2, o2, none⟩) (World.block_lt_of_cell? _ _ n0) (fun h => HPa.out.qs_ne b2 rfl h)).trans n0
            clear hq3 hf3 ho3 d0 d1 n0
            obtain ⟨now', hnow⟩ : ∃ n', n' = now.drop 1 := ⟨_, rfl⟩
            rw [← hnow] at HP3
            clear hnow
            obtain ⟨l', hl'⟩ : ∃ n', n' = QP.pop (ltR b) (z :: r) := ⟨_, rfl⟩
            rw [← hl'] at HP3
            clear hl'
            obtain ⟨tA, tc, hs7, htc⟩ := HP3.out.sl.len
            subst hs7
            simp only [QP.hd, List.isEmpty_cons, Bool.not_false]
            go_wp2_with fail
            refine (Qi.len_any fv hv3 w1.heap.size qb w3 _ _ HP3.out.q _ _ _ Hfv.out).mono ?_
            rintro e w5 ⟨rfl, rfl⟩
            have hlen : ((l'.length : Int) != (now'.length : Int)) = false := by rw [bne_eq_false_iff_eq, HP3.out.now_len]
            go_wp2_with fail
            go_roundg (gk - 1)
            case measure => have := HK.out; omega
            case rel => exact ⟨k + 1, _, nx, _, hv3, by go_num, ⟨hk, by have := HK.out; omega, by have := HK.out; omega⟩, HP3.out⟩
        · have hcb1 : (c == 1) = false := beq_eq_false_iff_ne.2 hc1
          clear hc1
          cases l with
          | nil =>
            have hn0 : now = [] := List.eq_nil_of_length_eq_zero Hnl.out
            subst hn0
            go_wp2_with fail
            refine Hpk.out.mono ?_
            rintro e w' ⟨rfl, rfl⟩
            simp only [QP.hd, List.isEmpty_nil, Bool.not_true]
            go_wp2_with fail
            refine (Qi.len_any fv hv w1.heap.size qb wa _ _ HPa.out.q _ _ _ Hfv.out).mono ?_
            rintro e w5 ⟨rfl, rfl⟩
            go_wp2_with fail
            go_roundg (gk - 1)
            case measure => have := HK.out; omega
            case rel => exact ⟨k + 1, _, nx, _, hv, by go_num, ⟨hk, by have := HK.out; omega, by have := HK.out; omega⟩, HPa.out⟩
          | cons z r =>
            have hl1 : ((now.length : Int) == 0) = false := beq_eq_false_iff_ne.2 (by have := Hnl.out; simp at this; omega)
            have hl2 : (0 : Int) < now.length := by have := Hnl.out; simp at this; omega
            have hh := HPa.out.now_hd (by simp)
            obtain ⟨hn, hh⟩ := List.getElem?_eq_some_iff.1 hh
            obtain ⟨b2, o2, rfl, hb2, hcell2⟩ := HPa.out.sl.at_ (s := 1) (fun _ => rfl) rfl hn
            have n0 := hcell2 0 (by omega)
            rw [hh] at n0
            simp [encI, QP.hd] at n0
            clear hcell2 hh hb2
            have hzz : (z.1 != z.1) = false := by simp
            go_wp2_with fail
            refine Hpk.out.mono ?_
            rintro e w' ⟨rfl, rfl⟩
            simp only [QP.hd, List.isEmpty_cons, Bool.not_false]
            go_wp2_with fail
            refine (Qi.len_any fv hv w1.heap.size qb wa _ _ HPa.out.q _ _ _ Hfv.out).mono ?_
            rintro e w5 ⟨rfl, rfl⟩
            have hlen : (((r.length : Int) + 1) != (now.length : Int)) = false := by rw [bne_eq_false_iff_eq, HPa.out.now_len]; simp
            go_wp2_with fail
            go_roundg (gk - 1)
            case measure => have := HK.out; omega
            case rel => exact ⟨k + 1, _, nx, _, hv, by go_num, ⟨hk, by have := HK.out; omega, by have := HK.out; omega⟩, HPa.out⟩
    · have hki : decide ((k : Int) < xs.length) = false := decide_eq_false (by omega)
      go_wp2_with fail
      refine (works_any wr).mono ?_
      rintro e w9 ⟨rfl, hg⟩
      have HG9 := Lib.hid hg
      clear hg
      go_wp2_with fail
      go_ret
      exact ⟨rfl, (HG1.out.trans HP.out.gr (fun _ _ h => h)).trans HG9.out (fun _ _ h => h)⟩
end Go.Proofs.Ytngmlelocgnbiaa
