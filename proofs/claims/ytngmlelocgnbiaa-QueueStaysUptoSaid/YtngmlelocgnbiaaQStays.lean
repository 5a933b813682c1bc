/- QueueStays: the walk. -/
import Derived.Test.YtngmlelocgnbiaaAWd
import Derived.Test.YtngmlelocgnbiaaQStP
import Derived.Test.YtngmlelocgnbiaaQLess
import Derived.Laws.MakeOwn
set_option linter.unusedVariables false
set_option linter.unusedSimpArgs false
namespace Go.Proofs.Ytngmlelocgnbiaa
open Go.RowKit
open QP

theorem less_A (Bl : Nat) (W0 : World) : Qa.LessGr (.func (.func 30) #[] #[]) ltA Bl W0 := by
  refine ⟨30, #[], rfl, callFunc_enters Try.func30 (by kernel_rfl) (by kernel_rfl), ?_⟩
  intro x y w hw
  obtain ⟨xa, xb⟩ := x
  obtain ⟨ya, yb⟩ := y
  show Calls Try.prog 30 #[.agg #[.int .i64 xa, .int .i64 xb], .agg #[.int .i64 ya, .int .i64 yb]] w _
  clear hw
  go_enter Try.func30, Try.ntmps30
  go_wp2
  go_ret
  exact ⟨rfl, ((Fr.refl _ _).alloc _).alloc _⟩
theorem made_i (i0 : TypeInfo) (hz1 : i0.size = 1) (s : Nat) : madeCells (Value.int .i64 0).cells (((s : Nat) : Int).toNat * i0.size) = (List.replicate s (Value.int .i64 0)).toArray := by
  rw [hz1]
  simp [madeCells, Value.cells]
  apply Array.ext_getElem?
  intro j
  simp only [Array.getElem?_map, Array.getElem?_range, Array.getElem?_replicate]
  split
  · simp [Nat.mod_one]
  · rfl
/-- the state while all go out -/
structure PG (w wr : World) (qb g5 p6 : Nat) (hv : Value) (fv : Value) (l : List Int) (n k : Nat) (lv lp : Int) : Prop where
  q : Qa.Q wr w.heap.size qb fv hv (hk l n k) n
  b5 : Blk wr g5 3 (cl l n k)
  b6 : Blk wr p6 54 #[.int .i64 lv, .int .i64 lp]
  gr : Gr w wr
  o : w.heap.size ≤ g5 ∧ w.heap.size ≤ p6
theorem PG.next {w wr w2 : World} {qb g5 p6 : Nat} {hv hv2 fv : Value} {l : List Int} {n k : Nat} {lv lp : Int} (H : PG w wr qb g5 p6 hv fv l n k lv lp)
    (hq : Qa.Q w2 w.heap.size qb fv hv2 (hk l n (k + 1)) n) (hf : Fr wr w2 (QS qb hv)) :
    Blk w2 g5 3 (cl l n k) ∧ Blk w2 p6 54 #[.int .i64 lv, .int .i64 lp] ∧ Gr w w2 := by
  refine ⟨H.b5.fr hf (fun h => ?_), H.b6.fr hf (fun h => ?_), H.gr.trans hf (fun i hi h => ?_)⟩
  · rcases h with h | h
    · exact Blk.ne_ H.b5 H.q.blk (by decide) h
    · exact own_blk_ne H.q.own H.b5 (by decide) h
  · rcases h with h | h
    · exact Blk.ne_ H.b6 H.q.blk (by decide) h
    · exact own_blk_ne H.q.own H.b6 (by decide) h
  · rcases h with h | h
    · have := H.q.base; omega
    · have := (H.q.own.lt i h).1; omega

set_option maxHeartbeats 6400000 in
set_option maxRecDepth 100000 in
theorem QueueStays_walk (w : World) (v : Value) (l : List Int) (hs : SL (fun x : Int => [Value.int .u8 x]) w v l) (hwf : ∀ x ∈ l, (Lit.int .u8 x).wf = true) (hl : l.length ≤ 1048576) :
    Calls Try.prog 8 #[v] w fun e w' => e = .returned (.bool true) ∧ Gr w w' := by
  obtain ⟨i0, hi0, hz0, hz1, hz2⟩ := info_parts info_int
  have HS := Lib.hid hs
  obtain ⟨A, cap, rfl, _⟩ := hs.len
  have Hbd := Lib.hid (show ∀ t, t < l.length → 0 ≤ l.getD t 0 ∧ l.getD t 0 ≤ 255 from fun t ht => by
    have h := hwf l[t] (List.getElem_mem ht)
    simp [Lit.wf, IntKind.min, IntKind.max, IntKind.signed, IntKind.bits] at h
    rw [List.getD_eq_getElem?_getD, List.getElem?_eq_getElem ht]
    simp only [Option.getD_some]
    omega)
  have hli : (l.length : Int) ≤ 1048576 := by omega
  have Hl := Lib.hid hl
  obtain ⟨n, hn⟩ : ∃ n, n = l.length := ⟨_, rfl⟩
  rw [← hn] at hli Hl Hbd HS ⊢
  have Hn := Lib.hid hn
  have Hfv : Hid (∀ Bl W0, Qa.LessGr (.func (.func 30) #[] #[]) ltA Bl W0) := fun Bl W0 => less_A Bl W0
  have Hread := Lib.hid (show ∀ wx, Gr w wx → ∀ t, t < n → ∃ b off, A = some ⟨b, off, none⟩ ∧ wx.cell? ⟨b, off + t, none⟩ = some (.int .u8 (l.getD t 0)) from fun wx hg t ht => by
    have ht' : t < l.length := by rw [← hn]; exact ht
    obtain ⟨b, off, hA, _, hc⟩ := (hs.gr hg).at_ (s := 1) (fun _ => rfl) rfl ht'
    have h := hc 0 (by omega)
    refine ⟨b, off, hA, ?_⟩
    rw [List.getD_eq_getElem?_getD, List.getElem?_eq_getElem ht']
    simpa using h)
  have hmk := fun w => run_make (P := Try.prog) w 22 3 i0 (.int .i64 0) Try.underlying22 hi0 hz0 .i64 .i64 (n : Nat) (n : Nat) (by omega) (by omega) (by rw [hz2]; omega) (by omega)
  rw [made_i i0 hz1, ← cl_zero l n] at hmk
  simp only [Int.toNat_natCast] at hmk
  have Hmk := Lib.hid hmk
  clear hs hwf hl hn hmk hi0 hz0 hz1 hz2
  go_enter Try.func8, Try.ntmps8
  go_upto_region 2 with (go_at_call 29; refine (Qa.new_any _ _ _ _).mono ?_; rintro e w1 ⟨rfl, hw1⟩; have HW1 := Lib.hid hw1; clear hw1)
  have HQ1 := Lib.hid (show Qa.Q w1 w.heap.size w.heap.size (.func (.func 30) #[] #[]) (.slice none 0 0) (hp l 0) 0 from by
    rw [HW1.out]
    exact ⟨Nat.le_refl _, Blk.new w _ _, World.ownsRow_nil _ _ _ _, by simp [Value.ownBlock]⟩)
  have HG1 := Lib.hid (show Gr w w1 from by rw [HW1.out]; exact (Fr.refl w _).alloc _)
  clear HW1
  obtain ⟨qb, hqb⟩ : ∃ qb, qb = w.heap.size := ⟨_, rfl⟩
  rw [← hqb]
  have HQ1' : Hid (Qa.Q w1 w.heap.size qb (.func (.func 30) #[] #[]) (.slice none 0 0) (hp l 0) 0) := by rw [hqb]; exact HQ1
  have Hqb := Lib.hid hqb
  clear hqb HQ1
  go_upto_block 0 with (fail)
  go_cut [] (fun wx => ∃ hv, Hid (Qa.Q wx w.heap.size qb (.func (.func 30) #[] #[]) hv (hp l n) n ∧ Gr w wx))
  case first =>
    go_wp2_with fail
    go_loopg [4] (n + 1) (fun m s4 wr => ∃ (k : Nat) (hv : Value), s4 = .int .i64 k ∧ Hid (k ≤ n ∧ n - k < m) ∧ Hid (Qa.Q wr w.heap.size qb (.func (.func 30) #[] #[]) hv (hp l k) k ∧ Gr w wr))
    case atStart => exact ⟨0, _, rfl, ⟨Nat.zero_le _, by omega⟩, HQ1'.out, HG1.out⟩
    case round =>
      obtain ⟨k, hv, rfl, HK, HP⟩ := hrel
      by_cases hk : k < n
      · have hki : (k : Int) < (n : Int) := by omega
        have Hk := Lib.hid hk
        obtain ⟨b, off, rfl, c1⟩ := Hread.out wr HP.out.2 k hk
        obtain ⟨hx0, hx1⟩ := Hbd.out k hk
        have Hpush := Lib.hid (Qa.push_any ltA _ hv w.heap.size qb w.heap.size w wr (hp l k) k HP.out.1 (Hfv.out _ _) (Gr.below HP.out.2) (Nat.le_refl _) (l.getD k 0) k (by rw [hp_len]; have := Hl.out; omega) (by have := Hl.out; omega))
        rw [← hp_succ] at Hpush
        generalize l.getD k 0 = x at c1 hx0 hx1 Hpush
        clear hk
        go_wp2_with (go_at_call 31; refine Hpush.out.mono ?_; rintro e w2 ⟨rfl, hv2, hq2, hf2, _⟩; have HQ2 := Lib.hid hq2; have HF2 := Lib.hid hf2; clear hq2 hf2)
        go_roundg (gk - 1)
        case measure => have := HK.out; have := Hk.out; omega
        case rel =>
          refine ⟨k + 1, hv2, by go_num, ⟨Hk.out, by have := HK.out; have := Hk.out; omega⟩, HQ2.out, HP.out.2.trans HF2.out (fun i hi h => ?_)⟩
          rcases h with h | h
          · have := HP.out.1.base; omega
          · have := (HP.out.1.own.lt i h).1; omega
      · obtain rfl : k = n := by have := HK.out; omega
        go_wp2_with fail
        go_meet
        exact ⟨hv, HP.out⟩
  case rest =>
  obtain ⟨hv0, HP0⟩ := hcut
  clear HQ1' HG1
  have hmk := Hmk.out
  go_upto_region 8 with (fail)
  have HB5 := Lib.hid (Blk.new wc 3 (cl l n 0))
  have HG5 := Lib.hid (HP0.out.2.alloc (.cells (cl l n 0) 3))
  have HQ5 := Lib.hid (HP0.out.1.gr ((Fr.refl wc NoneS).alloc (.cells (cl l n 0) 3)))
  have Hg5 := Lib.hid HP0.out.2.size
  generalize wc.heap.size = g5 at HB5 Hg5 ⊢
  generalize World.alloc wc _ = w5 at HB5 HG5 HQ5 ⊢
  clear hmk Hmk HP0
  go_upto_region 9 with (fail)
  have HP6 := Lib.hid (show PG w (w5.alloc (.cells #[.int .i64 (-1), .int .i64 (-1)] 54)) qb g5 w5.heap.size hv0 _ l n 0 (-1) (-1) from
    ⟨HQ5.out.gr ((Fr.refl w5 NoneS).alloc _), HB5.out.alloc _, Blk.new _ _ _, HG5.out.alloc _, ⟨Hg5.out, HG5.out.size⟩⟩)
  generalize w5.heap.size = p6 at HP6 ⊢
  generalize World.alloc w5 _ = w6 at HP6 ⊢
  clear HB5 HG5 HQ5 Hg5
  go_upto_block 2 with (fail)
  go_cut [] (fun wx => ∃ hv lv lp, Hid (PG w wx qb g5 p6 hv (.func (.func 30) #[] #[]) l n n lv lp))
  case first =>
    go_wp2_with fail
    go_loopg [7] (n + 1) (fun m s7 wr => ∃ (k : Nat) (hv : Value) (lv lp : Int), s7 = .int .i64 k ∧ Hid (k ≤ n ∧ n - k < m) ∧ Hid ((k = 0 ∧ lv = -1 ∧ lp = -1) ∨ ∃ j s, k = j + 1 ∧ (dr l n)[j]? = some ((lv, lp), s) ∧ lp = (s : Nat)) ∧ Hid (PG w wr qb g5 p6 hv (.func (.func 30) #[] #[]) l n k lv lp))
    case atStart => exact ⟨0, hv0, -1, -1, rfl, ⟨Nat.zero_le _, by omega⟩, Or.inl ⟨rfl, rfl, rfl⟩, HP6.out⟩
    case round =>
      obtain ⟨k, hv, lv, lp, rfl, HK, HL, HP⟩ := hrel
      clear HP6
      by_cases hkn : k < n
      · have hki : (k : Int) < (n : Int) := by omega
        have Hk := Lib.hid hkn
        obtain ⟨t, ht, hd⟩ := dr_at l n k hkn
        have hh := hk_head l n k hkn
        rw [hd] at hh
        obtain ⟨m, hm⟩ : ∃ m, n - k = m + 1 := ⟨n - k - 1, by omega⟩
        have Hpop := Lib.hid (Qa.pop_some ltA _ hv w.heap.size qb w.heap.size w wr (hk l n k) n HP.out.q (Hfv.out _ _) (Gr.below HP.out.gr) (Nat.le_refl _) m (by rw [hk_len]; exact hm) (by rw [hk_len]; have := Hl.out; omega) (l.getD t 0) (t : Int) t hh)
        have Hd := Lib.hid hd
        have Hbt := Lib.hid (Hbd.out t ht)
        have hlast : lv < l.getD t 0 ∨ (lv = l.getD t 0 ∧ lp ≤ (t : Int)) := by
          rcases HL.out with ⟨_, h1, h2⟩ | ⟨j, s, hj, h1, h2⟩
          · have := Hbt.out.1; left; omega
          · subst hj
            have h3 := dr_next l n j _ _ _ _ h1 hd
            simp only at h3
            rcases h3 with h3 | h3
            · left; exact h3
            · right; exact ⟨h3.1, by omega⟩
        have Hread' := Lib.hid (fun wx hg => Hread.out wx hg t ht)
        have hti : (t : Int) < (n : Int) := by omega
        generalize hx : l.getD t 0 = x at Hpop Hbt hlast Hread' Hd
        have Hx := Lib.hid hx
        have Ht := Lib.hid ht
        clear hkn hd hh hm hx ht
        go_upto_region 13 with (go_at_call 32; refine Hpop.out.mono ?_; rintro e w2 ⟨rfl, hv2, hq2, hf2, _⟩; have HQ2 := Lib.hid hq2; have HF2 := Lib.hid hf2; clear hq2 hf2)
        have HN := Lib.hid (HP.out.next HQ2.out HF2.out)
        have HG8 := Lib.hid ((Fr.refl w2 NoneS).alloc (.cells #[.int .i64 x, .int .i64 (t : Int)] 54))
        have HB8 := Lib.hid (Blk.new w2 54 #[.int .i64 x, .int .i64 (t : Int)])
        have HQ8 := Lib.hid (HQ2.out.gr HG8.out)
        have HN8 := Lib.hid (show Blk _ g5 3 (cl l n k) ∧ Blk _ p6 54 #[.int .i64 lv, .int .i64 lp] ∧ Gr w _ from ⟨HN.out.1.fr HG8.out (fun h => h), HN.out.2.1.fr HG8.out (fun h => h), HN.out.2.2.trans HG8.out (fun _ _ h => h)⟩)
        generalize w2.heap.size = p8 at HB8 ⊢
        generalize World.alloc w2 _ = w8 at HG8 HB8 HQ8 HN8 ⊢
        clear HQ2 HN Hpop
        obtain ⟨b, off, rfl, c1⟩ := Hread'.out w8 HN8.out.2.2
        have k0 := HB8.out.cell 0
        have k1 := HB8.out.cell 1
        have m0 := HN8.out.2.1.cell 0
        have m1 := HN8.out.2.1.cell 1
        simp at k0 k1 m0 m1
        obtain ⟨hx0, hx1⟩ := Hbt.out
        have hb0 : (x != x) = false := by simp
        have hb1 : decide (x < lv) = false := decide_eq_false (by omega)
        have hb2 : decide (n ≤ t) = false := decide_eq_false (by have := Ht.out; omega)
        have hb3 : decide ((n : Int) ≤ (t : Int)) = false := decide_eq_false (by have := Ht.out; omega)
        have ht0 : (0 : Int) ≤ (t : Int) := by omega
        have step : ∀ q : Nat, Hid (∃ lv lp, Hid ((k + 1 = 0 ∧ lv = -1 ∧ lp = -1) ∨ ∃ j s, k + 1 = j + 1 ∧ (dr l n)[j]? = some ((lv, lp), s) ∧ lp = (s : Nat)) ∧ PG w (((((w8.drewN q).setCell ⟨g5, t, none⟩ (.int .i64 ((cnt l n k t : Nat) + 1 : Int)))).setCell ⟨p6, 0, none⟩ (.int .i64 x)).setCell ⟨p6, 1, none⟩ (.int .i64 (t : Int))) qb g5 p6 hv2 (.func (.func 30) #[] #[]) l n (k + 1) lv lp) := by
          intro q
          refine ⟨x, (t : Int), Or.inr ⟨k, t, rfl, Hd.out, rfl⟩, ?_⟩
          have hq := HQ8.out.gr ((Fr.refl w8 NoneS).drewN q)
          have g56 : g5 ≠ p6 := Blk.ne_ HP.out.b5 HP.out.b6 (by decide)
          have b5 := ((HN8.out.1.drewN q).set_ t (.int .i64 ((cnt l n k t : Nat) + 1 : Int)))
          rw [cl_succ l n k t _ Hd.out Ht.out] at b5
          have b6 := (((HN8.out.2.1.drewN q).far (p := ⟨g5, t, none⟩) (Ne.symm g56) (.int .i64 ((cnt l n k t : Nat) + 1 : Int))).set_ 0 (.int .i64 x)).set_ 1 (.int .i64 (t : Int))
          refine ⟨?_, (b5.far (p := ⟨p6, 0, none⟩) g56 _).far (p := ⟨p6, 1, none⟩) g56 _, b6, ?_, HP.out.o⟩
          · have nq5 : qb ≠ g5 := Blk.ne_ hq.blk (HN8.out.1.drewN q) (by decide)
            have nq6 : qb ≠ p6 := Blk.ne_ hq.blk (HN8.out.2.1.drewN q) (by decide)
            have nh5 := own_blk_ne hq.own (HN8.out.1.drewN q) (by decide)
            have nh6 := own_blk_ne hq.own (HN8.out.2.1.drewN q) (by decide)
            exact hq.fr (S := fun i => i = g5 ∨ i = p6) ((((Fr.refl _ (fun i => i = g5 ∨ i = p6)).setCell (p := ⟨g5, t, none⟩) (fun _ => Or.inl rfl) _).setCell (p := ⟨p6, 0, none⟩) (fun _ => Or.inr rfl) _).setCell (p := ⟨p6, 1, none⟩) (fun _ => Or.inr rfl) _)
              (fun i hi hs => by
                rcases hi with hi | hi
                · subst hi; rcases hs with hs | hs
                  · exact nq5 hs
                  · exact nq6 hs
                · rcases hs with hs | hs
                  · subst hs; exact nh5 hi
                  · subst hs; exact nh6 hi)
          · have ho := HP.out.o
            exact ((((HN8.out.2.2.drewN q).setCell (p := ⟨g5, t, none⟩) (fun h => by simp only at h; omega) _).setCell (p := ⟨p6, 0, none⟩) (fun h => by simp only at h; omega) _).setCell (p := ⟨p6, 1, none⟩) (fun h => by simp only at h; omega) _)
        have Hstep := Lib.hid step
        have k5 : w8.cell? ⟨g5, t, none⟩ = some (.int .i64 (cnt l n k t : Nat)) := by rw [HN8.out.1.cell, cl_get _ _ _ _ Ht.out]
        have f5 := HN8.out.1.frozen t
        have f60 := HN8.out.2.1.frozen 0
        have f61 := HN8.out.2.1.frozen 1
        have g56 : g5 ≠ p6 := Blk.ne_ HP.out.b5 HP.out.b6 (by decide)
        have hcn : ((cnt l n k t : Nat) : Int) ≤ 1048576 := by have := cnt_le l n k t; have := Hl.out; omega
        have g58 : g5 ≠ p8 := Blk.ne_ HN8.out.1 HB8.out (by decide)
        have g85 : p8 ≠ g5 := Ne.symm g58
        have g65 : p6 ≠ g5 := Ne.symm g56
        generalize cnt l n k t = cc at k5 hcn Hstep
        have hwx : IntKind.i64.wrap x = x := IntWalk.i64_in _ (by omega)
        clear step hx0 hx1
        by_cases hxl : x = lv
        · subst hxl
          have hb4 : decide ((t : Int) < lp) = false := decide_eq_false (by omega)
          clear hlast
          go_quiet (fail)
          go_wp2_with fail
          go_roundg (gk - 1)
          case measure => have := HK.out; have := Hk.out; omega
          case rel =>
            obtain ⟨lv', lp', h1, h2⟩ := (Hstep.out _).out
            exact ⟨k + 1, hv2, lv', lp', by go_num, ⟨Hk.out, by have := HK.out; have := Hk.out; omega⟩, h1, h2⟩
        · have hb4 : (x == lv) = false := beq_eq_false_iff_ne.2 hxl
          clear hlast hxl
          go_quiet (fail)
          go_wp2_with fail
          go_roundg (gk - 1)
          case measure => have := HK.out; have := Hk.out; omega
          case rel =>
            obtain ⟨lv', lp', h1, h2⟩ := (Hstep.out _).out
            exact ⟨k + 1, hv2, lv', lp', by go_num, ⟨Hk.out, by have := HK.out; have := Hk.out; omega⟩, h1, h2⟩
      · obtain rfl : k = n := by have := HK.out; omega
        go_wp2_with fail
        go_meet
        exact ⟨hv, lv, lp, HP.out⟩
  case rest =>
  obtain ⟨hv, lv, lp, HPn⟩ := hcut
  clear HP6
  go_upto_block 4 with (fail)
  go_cut [] (fun wx => Hid (wx = wc))
  case first =>
    go_wp2_with fail
    go_loopg [10] (n + 1) (fun m s10 wr => ∃ k : Nat, s10 = .int .i64 k ∧ Hid (k ≤ n ∧ n - k < m) ∧ Hid (wr = wc))
    case atStart => exact ⟨0, rfl, ⟨Nat.zero_le _, by omega⟩, rfl⟩
    case round =>
      obtain ⟨k, rfl, HK, HW⟩ := hrel
      obtain rfl := HW.out
      by_cases hkn : k < n
      · have hki : (k : Int) < (n : Int) := by omega
        have Hk := Lib.hid hkn
        have k5 : wr.cell? ⟨g5, k, none⟩ = some (.int .i64 1) := by rw [HPn.out.b5.cell, cl_get _ _ _ _ hkn, cnt_end _ _ _ hkn]; rfl
        clear hkn
        go_wp2_with fail
        go_roundg (gk - 1)
        case measure => have := HK.out; have := Hk.out; omega
        case rel => exact ⟨k + 1, by go_num, ⟨Hk.out, by have := HK.out; have := Hk.out; omega⟩, rfl⟩
      · obtain rfl : k = n := by have := HK.out; omega
        go_wp2_with fail
        go_meet
        exact rfl
  case rest =>
  obtain rfl := hcut.out
  have Hpop := Lib.hid (Qa.pop_none _ hv w.heap.size qb wc n (by
    have h := HPn.out.q
    have e : hk l n n = [] := List.eq_nil_of_length_eq_zero (by rw [hk_len]; omega)
    rw [e] at h
    exact h) _ _ _ rfl)
  go_upto_region 23 with (go_at_call 32; refine Hpop.out.mono ?_; rintro e w9 ⟨rfl, hg9⟩; have HG9 := Lib.hid hg9; clear hg9)
  have HGa := Lib.hid ((Fr.refl w9 NoneS).alloc (.cells #[.int .i64 0, .int .i64 0] 54))
  have HQn := Lib.hid ((HPn.out.q.gr HG9.out).gr HGa.out)
  have HGn := Lib.hid ((HPn.out.gr.trans HG9.out (fun _ _ h => h)).trans HGa.out (fun _ _ h => h))
  generalize World.alloc w9 _ = w10 at HGa HQn HGn ⊢
  have Hlen := Lib.hid (Qa.len_any _ hv w.heap.size qb w10 (hk l n n) n HQn.out _ _ _ rfl)
  have e0 : ((hk l n n).length : Int) = 0 := by rw [hk_len]; omega
  rw [e0] at Hlen
  clear e0 Hpop
  go_wp2_with (first
    | (go_at_call 33; refine Hlen.out.mono ?_; rintro e w' ⟨rfl, rfl⟩)
    | (go_at_call 15; refine (works_any w10).mono ?_; rintro e w11 ⟨rfl, hg⟩; have HG11 := Lib.hid hg; clear hg))
  go_ret
  exact ⟨rfl, HGn.out.trans HG11.out (fun _ _ h => h)⟩
end Go.Proofs.Ytngmlelocgnbiaa
