/- the document's vocfile: Get. -/
import Derived.Test.YtmjpghaggnpdbaaGRc
import Derived.Test.YtmjpghaggnpdbaaGWh
import Derived.Test.YtmjpghaggnpdbaaVRd
set_option linter.unusedVariables false
set_option linter.unusedSimpArgs false
namespace Go.Proofs.Ytmjpghaggnpdbaa
open Go.RowKit
open Voc Leb Crc
namespace Vf
structure LR (w0 : World) (B : Nat) (bv : Value) (q1 q7 p : Nat) (s : R Unit) (pv xv : Value) (pl : List Nat) (xl : List Pc) (w : World) : Prop where
  st : StP w p bv s
  b1 : Blk w q1 26 #[.slice none 0 0]
  b7 : Blk w q7 26 #[xv]
  po : w.ownsRow B 3 1 pv pl.length (pl.flatMap encN)
  xo : w.ownsRow B 42 5 xv xl.length (xl.flatMap encP)
  gr : Gr w0 w
  h1 : w0.heap.size ≤ q1
  h7 : w0.heap.size ≤ q7
  hp : w0.heap.size ≤ p
  ne : q1 ≠ q7
  hB : q1 < B ∧ q7 < B ∧ p < B ∧ B ≤ w.heap.size
namespace LR
variable {w0 w w' : World} {bs : List Int} {B : Nat} {bv : Value} {q1 q7 p : Nat} {s s' : R Unit} {pv xv : Value} {pl : List Nat} {xl : List Pc}
theorem ne_p (H : LR w0 B bv q1 q7 p s pv xv pl xl w) : q1 ≠ p ∧ q7 ≠ p := by
  obtain ⟨a, E, x, h⟩ := H.st.rq
  exact ⟨Blk.ne_ H.b1 h (by decide), Blk.ne_ H.b7 h (by decide)⟩
theorem step (H : LR w0 B bv q1 q7 p s pv xv pl xl w) (hf : Fr w w' (fun k => k = p)) (hr : StP w' p bv s') : LR w0 B bv q1 q7 p s' pv xv pl xl w' :=
  ⟨hr, H.b1.fr hf H.ne_p.1, H.b7.fr hf H.ne_p.2, hf.owns H.po (fun k hk e => by have := (H.po.lt k hk).1; have := H.hB; omega), hf.owns H.xo (fun k hk e => by have := (H.xo.lt k hk).1; have := H.hB; omega),
    H.gr.trans hf (fun i hi e => by have := H.hp; omega), H.h1, H.h7, H.hp, H.ne, by have := H.hB; have := hf.size; omega⟩
theorem any (H : LR w0 B bv q1 q7 p s pv xv pl xl w) (hg : Gr w w') : LR w0 B bv q1 q7 p s pv xv pl xl w' :=
  ⟨H.st.fr hg (fun h => h), H.b1.fr hg (fun h => h), H.b7.fr hg (fun h => h), hg.owns H.po (fun _ _ h => h), hg.owns H.xo (fun _ _ h => h), H.gr.trans hg (fun _ _ h => h), H.h1, H.h7, H.hp, H.ne, by have := H.hB; have := hg.size; omega⟩
theorem place (H : LR w0 B bv q1 q7 p s pv xv pl xl w) (hf : Fr w w' (fun k => pv.ownBlock = some k)) {pv' : Value} {n : Nat} (ho : w'.ownsRow B 3 1 pv' (pl ++ [n]).length ((pl ++ [n]).flatMap encN)) : LR w0 B bv q1 q7 p s pv' xv (pl ++ [n]) xl w' := by
  have hn : ∀ k, k < B → ¬ pv.ownBlock = some k := fun k hk e => by have := (H.po.lt k e).1; omega
  have hB := H.hB
  exact ⟨H.st.fr hf (hn _ (by omega)), H.b1.fr hf (hn _ (by omega)), H.b7.fr hf (hn _ (by omega)), ho, hf.owns H.xo (fun k hk e => own_own_ne H.xo H.po (by decide) k hk e),
    H.gr.trans hf (fun i hi e => hn i (by have := H.h1; omega) e), H.h1, H.h7, H.hp, H.ne, by have := hf.size; omega⟩
theorem piece (H : LR w0 B bv q1 q7 p s pv xv pl xl w) (hf : Fr w w' (fun k => xv.ownBlock = some k)) {xv' : Value} {c : Pc} (ho : w'.ownsRow B 42 5 xv' (xl ++ [c]).length ((xl ++ [c]).flatMap encP)) :
    LR w0 B bv q1 q7 p s pv xv' pl (xl ++ [c]) (w'.setCell ⟨q7, 0, none⟩ xv') := by
  have hn : ∀ k, k < B → ¬ xv.ownBlock = some k := fun k hk e => by have := (H.xo.lt k e).1; omega
  have hB := H.hB
  have hs : Fr w' (w'.setCell ⟨q7, 0, none⟩ xv') (fun k => k = q7) := (Fr.refl w' (fun k => k = q7)).setCell (p := ⟨q7, 0, none⟩) (fun _ => rfl) _
  have hp := H.ne_p
  exact ⟨(H.st.fr hf (hn _ (by omega))).fr hs hp.2.symm, (H.b1.fr hf (hn _ (by omega))).fr hs H.ne, (H.b7.fr hf (hn _ (by omega))).set_ 0 xv',
    hs.owns (hf.owns H.po (fun k hk e => own_own_ne H.po H.xo (by decide) k hk e)) (fun k hk e => by have := (H.po.lt k hk).1; omega), hs.owns ho (fun k hk e => by have := (ho.lt k hk).1; omega),
    (H.gr.trans hf (fun i hi e => hn i (by have := H.h1; omega) e)).trans hs (fun i hi e => by have := H.h7; omega), H.h1, H.h7, H.hp, H.ne, by have := hf.size; have := hs.size; omega⟩
end LR
def outR (bs : List Int) (r : R (List (Nat × Pc))) : List Pc × Nat × Int :=
  match r with
  | .bad e x => ([], x, e)
  | .ok l s => endE bs l s
/-- what is known in the loop -/
def IR (bs : List Int) (m k : Nat) (s : R Unit) (pl : List Nat) (xl : List Pc) : Prop :=
  pl.length = k ∧ xl.length = k ∧ match s with
  | .bad E x => readE bs = ([], x, E)
  | .ok _ a => ∃ l : List (Nat × Pc), pl = l.map (·.1) ∧ xl = l.map (·.2) ∧ a ≤ bs.length ∧ (∀ q ∈ xl, wfP q) ∧ readE bs = outR bs (joinR l (piecesR bs (m - k) a))
theorem IR.go {bs : List Int} {m k a : Nat} {pl : List Nat} {xl : List Pc} {u : Unit} (hb : Leb.Bs bs) (H : IR bs m k (.ok u a) pl xl) (hk : k < m) (c : Pc) (s' : R Unit)
    (h : match pieceR bs a with | .bad E x => s' = .bad E x | .ok p a1 => s' = .ok () a1 ∧ c = p) : IR bs m (k + 1) s' (pl ++ [a]) (xl ++ [c]) := by
  obtain ⟨h1, h2, l, rfl, rfl, h3, h4, h5⟩ := H
  rw [show m - k = (m - (k + 1)) + 1 by omega, piecesR_succ] at h5
  refine ⟨by simp [← h1], by simp [← h2], ?_⟩
  cases hp : pieceR bs a with
  | bad E x =>
    rw [hp] at h h5
    simp only at h
    subst h
    exact h5
  | ok p a1 =>
    rw [hp] at h h5
    obtain ⟨rfl, rfl⟩ := h
    refine ⟨l ++ [(a, c)], by simp, by simp, pieceR_le h3 hp, ?_, h5⟩
    intro q hq
    rcases List.mem_append.1 hq with h | h
    · exact h4 q h
    · rw [List.mem_singleton] at h
      subst h
      exact (pieceR_ok hb h3 hp).2.2
theorem rq_piece {bs : List Int} {w w' : World} {p : Nat} {v : Value} {a : Nat} {e : Ending} (ha : a ≤ bs.length) (h : RQ agP (fun u => ∃ c, u = agP c) w p v (pieceR bs a) e w') :
    ∃ c s', e = .returned (.agg #[.bool c.j, .int .u8 c.b, .int .i64 c.l, .int .i64 c.r, .int .u32 c.k]) ∧ Fr w w' (fun k => k = p) ∧ StP w' p v s' ∧ StIn bs s' ∧ (match pieceR bs a with | .bad E x => s' = .bad E x | .ok p a1 => s' = .ok () a1 ∧ c = p) := by
  cases hp : pieceR bs a with
  | bad E x =>
    rw [hp] at h
    obtain ⟨u, rfl, ⟨c, rfl⟩, hf, hB⟩ := h
    exact ⟨c, .bad E x, rfl, hf, hB, trivial, rfl⟩
  | ok c a1 =>
    rw [hp] at h
    obtain ⟨rfl, hf, hG⟩ := h
    exact ⟨c, .ok () a1, rfl, hf, hG, pieceR_le ha hp, rfl, rfl⟩
theorem ret10 {w wz : World} {q1 : Nat} {tv : Value} {x : Nat} {E : Int} {ps : List Pc} {bs : List Int} {a : Act} (hd : a.defers = []) (t2 : a.tmps.getD 2 undef = .pointer (some ⟨q1, 0, none⟩)) (t3 : a.tmps.getD 3 undef = .int .i64 (x : Int)) (t4 : a.tmps.getD 4 undef = .int .i64 E)
    (B : Blk wz q1 26 #[tv]) (hr : readE bs = (ps, x, E)) (ho : wz.ownsRow w.heap.size 42 5 tv ps.length (ps.flatMap encP)) (hg : Gr w wz) : bodyPost Try.prog Try.f10 (GPost w bs) Exit.ret a wz := by
  have c1 : wz.cell? ⟨q1, 0, none⟩ = some tv := by rw [B.cell]; rfl
  have t2' : a.tmps[2]?.getD undef = .pointer (some ⟨q1, 0, none⟩) := by simpa using t2
  have t3' : a.tmps[3]?.getD undef = .int .i64 (x : Int) := by simpa using t3
  have t4' : a.tmps[4]?.getD undef = .int .i64 E := by simpa using t4
  refine ⟨hd, .tuple #[.agg #[tv], .int .i64 (x : Int), .int .i64 E], by simp [results, Try.results10, t2', t3', t4', asAddr, go_sem, c1], tv, by rw [hr], by rw [hr]; exact ho, hg⟩
set_option maxRecDepth 20000 in
set_option maxHeartbeats 16000000 in
theorem rget_any {w : World} {v : Value} {bs : List Int} (HS : SL encB w v bs) (hb : Leb.Bs bs) (hl : bs.length ≤ 1048576) :
    Calls Try.prog 10 #[v] w (GPost w bs) := by
  obtain ⟨A, cap, rfl⟩ := SL.form HS
  have HB1 := Lib.hid (Blk.new w 26 #[.slice none 0 0])
  have HG1 := Lib.hid ((Fr.refl w NoneS).alloc (.cells #[.slice none 0 0] 26))
  obtain ⟨q1, hq1⟩ : ∃ q, w.heap.size = q := ⟨_, rfl⟩
  rw [hq1] at HB1
  have Hq1 := Lib.hid hq1
  have HS1 := Lib.hid HS
  have Hb := Lib.hid hb
  obtain ⟨bg, hbg⟩ : ∃ b, decide (bs.take 6 = magic) = b := ⟨_, rfl⟩
  have HBg := Lib.hid (begins_any (HS.gr HG1.out) hl bg hbg)
  have Hbg := Lib.hid hbg
  clear HS hb hbg
  go_enter Try.func10, Try.ntmps10
  go_upto_region 1 with (fail)
  generalize World.alloc w _ = w1 at HB1 HG1 HBg ⊢
  cases bg with
  | false =>
    have Hre := Lib.hid (show readE bs = ([], 0, 5) by unfold readE; rw [if_pos (of_decide_eq_false Hbg.out)])
    go_wp2_with (first
      | (go_at_call 27; refine HBg.out.mono ?_; rintro e w2 ⟨rfl, hd⟩; have HB2 := Lib.hid (HB1.out.fr hd.gr (fun h => h)); have HG2 := Lib.hid (HG1.out.trans hd.gr (fun _ _ h => h)); clear hd; have k2 := HB2.out.cell 0; have z2 := HB2.out.frozen 0)
      | fail)
    exact ret10 rfl rfl rfl rfl (HB2.out.set_ 0 _) Hre.out (World.ownsRow_nil _ _ _ _) (HG2.out.setCell (p := ⟨q1, 0, none⟩) (fun h => by have := Hq1.out; simp only at h; omega) _)
  | true =>
    have Hrd := Lib.hid (show readE bs = match numR bs 6 4096 with | .bad e x => ([], x, e) | .ok m a => outR bs (piecesR bs m a) by unfold readE; rw [if_neg (fun h => h (of_decide_eq_true Hbg.out))]; rfl)
    go_upto_region 4 with (go_at_call 27; refine HBg.out.mono ?_; rintro e w2 ⟨rfl, hd⟩; have HB2 := Lib.hid (HB1.out.fr hd.gr (fun h => h)); have HG2 := Lib.hid (HG1.out.trans hd.gr (fun _ _ h => h)); clear hd)
    have HBr := Lib.hid (Blk.new w2 60 #[.slice A bs.length cap, .int .i64 6, .int .i64 0, .int .i64 0])
    have HB3 := Lib.hid (HB2.out.alloc (.cells #[.slice A bs.length cap, .int .i64 6, .int .i64 0, .int .i64 0] 60))
    have HG3 := Lib.hid (HG2.out.alloc (.cells #[.slice A bs.length cap, .int .i64 6, .int .i64 0, .int .i64 0] 60))
    have Hp := Lib.hid (show w.heap.size ≤ w2.heap.size ∧ q1 < w2.heap.size from ⟨HG2.out.size, HB2.out.lt⟩)
    obtain ⟨p, hp⟩ : ∃ p, w2.heap.size = p := ⟨_, rfl⟩
    rw [hp] at HBr Hp ⊢
    clear hp HB1 HG1 HBg hq1
    generalize World.alloc w2 _ = w3 at HBr HB3 HG3 ⊢
    have H6 := Lib.hid (show 6 ≤ bs.length by
      have h := congrArg List.length (of_decide_eq_true Hbg.out)
      rw [List.length_take] at h
      simp [magic] at h
      omega)
    have HSl := Lib.hid (fun (w' : World) (hg : Gr w w') => HS1.out.gr hg)
    obtain ⟨⟨m, s⟩, hms⟩ : ∃ y, nxt bs (.ok () 6) 4096 = y := ⟨_, rfl⟩
    have hm4 := nxt_most bs (.ok () 6) 4096
    have Hsi := Lib.hid (nxt_in (bs := bs) (s := .ok () 6) (most := 4096) H6.out)
    have HI0 := Lib.hid (show IR bs m 0 s [] [] by
      refine ⟨rfl, rfl, ?_⟩
      unfold nxt at hms
      simp only at hms
      cases hn : numR bs 6 4096 with
      | bad E x =>
        rw [hn] at hms
        injection hms with h1 h2
        subst h1 h2
        show readE bs = _
        rw [Hrd.out, hn]
      | ok n a2 =>
        rw [hn] at hms
        injection hms with h1 h2
        subst h1 h2
        refine ⟨[], rfl, rfl, numR_le hn, fun q hq => by simp at hq, ?_⟩
        rw [joinR_nil, Hrd.out, hn]
        rfl)
    have HC := Lib.hid (number_st (s := .ok () 6) (show StP w3 p (.slice A bs.length cap) (.ok () 6) from HBr.out) (HSl.out _ HG3.out) Hb.out H6.out hl 4096 (by decide) m s hms)
    rw [hms] at hm4 Hsi
    simp only at hm4
    have wm : IntKind.i64.wrap (m : Int) = (m : Int) := IntWalk.i64_in _ (by omega)
    clear hms Hrd
    go_upto_region 7 with (go_at_call 28; refine HC.out.mono ?_; rintro e w4 ⟨rfl, hf, ht⟩; have HF4 := Lib.hid hf; have HT4 := Lib.hid ht; clear hf ht)
    have HBv := Lib.hid (Blk.new w4 26 #[.slice none 0 0])
    have HL0 := Lib.hid (show LR w (w4.heap.size + 1) (.slice A bs.length cap) q1 w4.heap.size p s (.slice none 0 0) (.slice none 0 0) [] [] (w4.alloc (.cells #[.slice none 0 0] 26)) from by
      have h1 := Hp.out
      have h2 := HF4.out.size
      have h3 := HBr.out.lt
      refine ⟨(HT4.out.fr ((Fr.refl w4 NoneS).alloc _) (fun h => h)), (HB3.out.fr HF4.out (fun h => by omega)).alloc _, HBv.out, World.ownsRow_nil _ _ _ _, World.ownsRow_nil _ _ _ _, (HG3.out.trans HF4.out (fun i hi h => by omega)).alloc _, by have := Hq1.out; omega, by omega, by omega, by omega, ?_⟩
      simp only [World.size_alloc]
      omega)
    obtain ⟨q7, hq7⟩ : ∃ q, w4.heap.size = q := ⟨_, rfl⟩
    rw [hq7] at HL0 ⊢
    obtain ⟨B, hB⟩ : ∃ B, q7 + 1 = B := ⟨_, rfl⟩
    rw [hB] at HL0
    clear hq7 hB HBv HT4 HF4 HB2 HG2 HB3 HG3 HBr HC wm
    generalize World.alloc w4 _ = w5 at HL0 ⊢
    go_wp2_with fail
    go_loopg [8, 9] (m + 2) (fun g s8 s9 wr => ∃ (k : Nat) (pv xv : Value) (pl : List Nat) (xl : List Pc) (s : R Unit), pv = s8 ∧ s9 = .int .i64 k ∧ Hid (k ≤ m ∧ m - k < g) ∧ Hid (LR w B (.slice A bs.length cap) q1 q7 p s pv xv pl xl wr) ∧ Hid (IR bs m k s pl xl) ∧ Hid (StIn bs s))
    case atStart => exact ⟨0, _, _, [], [], s, rfl, rfl, ⟨Nat.zero_le _, by omega⟩, HL0, HI0, Hsi⟩
    case round =>
      clear HL0 HI0 Hsi
      obtain ⟨k, pv, xv, pl, xl, s, rfl, rfl, HK, HL, HI, Hsi⟩ := hrel
      cases s with
      | bad E x =>
        by_cases hk : k < m
        · have hk2 : decide ((k : Int) < (m : Int)) = true := decide_eq_true (by omega)
          have Hre := Lib.hid (show readE bs = ([], x, E) from HI.out.2.2)
          obtain ⟨hE, a, hq⟩ := HL.out.st
          have c1 : wr.cell? ⟨p, 1, none⟩ = some (.int .i64 a) := by rw [Blk.cell hq]; rfl
          have c2 : wr.cell? ⟨p, 2, none⟩ = some (.int .i64 E) := by rw [Blk.cell hq]; rfl
          have c3 : wr.cell? ⟨p, 3, none⟩ = some (.int .i64 (x : Int)) := by rw [Blk.cell hq]; rfl
          have k1 : wr.cell? ⟨q1, 0, none⟩ = some (.slice none 0 0) := by rw [HL.out.b1.cell]; rfl
          have z1 : wr.frozen? ⟨q1, 0, none⟩ = false := HL.out.b1.frozen 0
          have np := HL.out.ne_p.1
          have np' := np.symm
          have eE : (E == 0) = false := by simpa using hE
          have eE' : (E != 0) = true := bne_iff_ne.2 hE
          clear hE hq
          go_upto_region 14 with (fail)
          go_region
          go_wp2_with fail
          exact ret10 rfl rfl rfl rfl (HL.out.b1.set_ 0 _).drew Hre.out (World.ownsRow_nil _ _ _ _) ((HL.out.gr.setCell (p := ⟨q1, 0, none⟩) (fun h => by have := HL.out.h1; simp only at h; omega) _).drew)
        · have hk2 : decide ((k : Int) < (m : Int)) = false := decide_eq_false (by omega)
          have Hre := Lib.hid (show readE bs = ([], x, E) from HI.out.2.2)
          obtain ⟨hE, a, hq⟩ := HL.out.st
          have c1 : wr.cell? ⟨p, 1, none⟩ = some (.int .i64 a) := by rw [Blk.cell hq]; rfl
          have c2 : wr.cell? ⟨p, 2, none⟩ = some (.int .i64 E) := by rw [Blk.cell hq]; rfl
          have c3 : wr.cell? ⟨p, 3, none⟩ = some (.int .i64 (x : Int)) := by rw [Blk.cell hq]; rfl
          have k1 : wr.cell? ⟨q1, 0, none⟩ = some (.slice none 0 0) := by rw [HL.out.b1.cell]; rfl
          have z1 : wr.frozen? ⟨q1, 0, none⟩ = false := HL.out.b1.frozen 0
          have np := HL.out.ne_p.1
          have np' := np.symm
          have eE : (E == 0) = false := by simpa using hE
          have eE' : (E != 0) = true := bne_iff_ne.2 hE
          clear hE hq
          go_upto_region 14 with (fail)
          go_region
          go_wp2_with fail
          exact ret10 rfl rfl rfl rfl (HL.out.b1.set_ 0 _).drew Hre.out (World.ownsRow_nil _ _ _ _) ((HL.out.gr.setCell (p := ⟨q1, 0, none⟩) (fun h => by have := HL.out.h1; simp only at h; omega) _).drew)
      | ok u a =>
      have hq := HL.out.st
      have c1 : wr.cell? ⟨p, 1, none⟩ = some (.int .i64 (a : Int)) := by rw [Blk.cell hq]; rfl
      have c2 : wr.cell? ⟨p, 2, none⟩ = some (.int .i64 0) := by rw [Blk.cell hq]; rfl
      by_cases hk : k < m
      · have hk2 : decide ((k : Int) < (m : Int)) = true := decide_eq_true (by omega)
        have Hk := Lib.hid hk
        have hkm : (k : Int) < 4096 := by omega
        clear hq hk
        obtain ⟨j0, hj0, hy0, hy1, hy2⟩ := info_parts (show (Try.prog.info? 3).map (fun i => (i.zero, i.size, i.bytes)) = some (some (.int .i64 0), 1, 8) by kernel_rfl)
        have Hone := Lib.hid (show SL encN (wr.alloc (.cells #[.int .i64 (a : Int)] 3)) (.slice (some ⟨wr.heap.size, 0, none⟩) 1 1) [a] from by
          refine ⟨_, 1, rfl, by simp, fun _ => ⟨wr.heap.size, 0, rfl, by simp, fun i u hu => ?_⟩⟩
          rw [Nat.zero_add, World.cell?_alloc_new]
          simpa [encN] using hu)
        have HLa := Lib.hid (HL.out.any ((Fr.refl wr NoneS).alloc (.cells #[.int .i64 (a : Int)] 3)))
        have Hlen := Lib.hid (show pl.length ≤ 4096 by rw [HI.out.1]; have := HK.out; omega)
        have Hlx := Lib.hid (show xl.length ≤ 4096 by rw [HI.out.2.1]; have := HK.out; omega)
        go_upto_region 11 with (
          at_builtin
          refine wpList_append_sl _ encN rfl _ _ 53 rfl B 3 j0 (.int .i64 0) 1 8 Try.underlying53 hj0 hy0 hy1 hy2 rfl (by decide) pv _ _ rfl HLa.out.po (.slice (some ⟨wr.heap.size, 0, none⟩) 1 1) [a] rfl Hone.out (fun _ => rfl) (by intro x u hu; simp [encN] at hu; subst hu; rfl) (by have := Hlen.out; simp only [maxLen, List.length_cons, List.length_nil]; omega) (by have := Hlen.out; simp only [List.length_cons, List.length_nil]; omega) HLa.out.hB.2.2.2 ?_
          intro v8 w8 ho hf hat
          have HL8 := Lib.hid (HLa.out.place (pv' := v8) (n := a) hf (by rw [List.length_append, List.flatMap_append]; exact ho))
          clear ho hf hat)
        clear c1 c2
        have HPc := Lib.hid (rpieceR_any HL8.out.st (HSl.out _ HL8.out.gr) Hb.out Hsi.out hl _ rfl)
        go_upto_region 12 with (go_at_call 29; refine HPc.out.mono ?_; intro e w9 h; obtain ⟨c, s', rfl, hf, ht, hin, hst⟩ := rq_piece Hsi.out h; have HL9 := Lib.hid (HL8.out.step hf ht); have Hin := Lib.hid hin; have Hst := Lib.hid hst; clear h hf ht hin hst)
        have HBc := Lib.hid (Blk.new w9 TPc #[.bool c.j, .int .u8 c.b, .int .i64 c.l, .int .i64 c.r, .int .u32 c.k])
        have HLb := Lib.hid (HL9.out.any ((Fr.refl w9 NoneS).alloc (.cells #[.bool c.j, .int .u8 c.b, .int .i64 c.l, .int .i64 c.r, .int .u32 c.k] TPc)))
        obtain ⟨q9, hq9⟩ : ∃ q, w9.heap.size = q := ⟨_, rfl⟩
        rw [hq9] at HBc ⊢
        clear hq9
        generalize World.alloc w9 _ = w10 at HBc HLb ⊢
        have g0 : w10.cell? ⟨q9, 0, none⟩ = some (.bool c.j) := by rw [HBc.out.cell]; rfl
        have g1 : w10.cell? ⟨q9, 1, none⟩ = some (.int .u8 c.b) := by rw [HBc.out.cell]; rfl
        have g2 : w10.cell? ⟨q9, 2, none⟩ = some (.int .i64 c.l) := by rw [HBc.out.cell]; rfl
        have g3 : w10.cell? ⟨q9, 3, none⟩ = some (.int .i64 c.r) := by rw [HBc.out.cell]; rfl
        have g4 : w10.cell? ⟨q9, 4, none⟩ = some (.int .u32 c.k) := by rw [HBc.out.cell]; rfl
        have g7 : w10.cell? ⟨q7, 0, none⟩ = some xv := by rw [HLb.out.b7.cell]; rfl
        obtain ⟨i1, hi1, hx0, hx1, hx2⟩ := info_parts info_pc
        have HSc := Lib.hid (slPc w10 c)
        have HLc := Lib.hid (HLb.out.any ((Fr.refl w10 NoneS).alloc (.cells #[.bool c.j, .int .u8 c.b, .int .i64 c.l, .int .i64 c.r, .int .u32 c.k] TPc)))
        go_wp2_with (
          at_builtin
          refine wpList_append_sl _ encP rfl _ _ 24 rfl B TPc i1 (.agg #[.bool false, .int .u8 0, .int .i64 0, .int .i64 0, .int .u32 0]) 5 32 Try.underlying24 hi1 hx0 hx1 hx2 rfl (by decide) xv _ _ rfl HLc.out.xo (.slice (some ⟨w10.heap.size, 0, none⟩) 1 1) [c] rfl HSc.out encP_len encP_one1 (by have := Hlx.out; simp only [maxLen, List.length_cons, List.length_nil]; omega) (by have := Hlx.out; simp only [List.length_cons, List.length_nil]; omega) HLc.out.hB.2.2.2 ?_
          intro va wa ho hf hat
          have ho2 : wa.ownsRow B TPc 5 va (xl ++ [c]).length ((xl ++ [c]).flatMap encP) := by
            rw [List.length_append, List.flatMap_append]; exact ho
          obtain ⟨Av, nv, cv, rfl⟩ : ∃ A n c, va = .slice A n c := by
            obtain ⟨A, c, h⟩ := SL.form (SL.of_own (enc := encP) ho2 rfl)
            exact ⟨A, _, c, h⟩
          have HLn := Lib.hid (HLc.out.piece (xv' := .slice Av nv cv) (c := c) hf ho2)
          have HB7 := HLc.out.b7.fr hf (fun e => by have := (HLc.out.xo.lt q7 e).1; have := HLc.out.hB; omega)
          have cqa : wa.cell? ⟨q7, 0, none⟩ = some xv := by rw [HB7.cell]; rfl
          have zqa : wa.frozen? ⟨q7, 0, none⟩ = false := HB7.frozen 0
          clear ho ho2 hf hat HB7)
        go_roundg (gk - 1)
        case measure => have := HK.out; omega
        case rel =>
          exact ⟨k + 1, _, _, pl ++ [a], xl ++ [c], s', rfl, by go_num, ⟨by have := Hk.out; omega, by have := HK.out; have := Hk.out; omega⟩, HLn, Lib.hid (HI.out.go Hb.out Hk.out c s' Hst.out), Hin⟩
      · have hk2 : decide ((k : Int) < (m : Int)) = false := decide_eq_false (by omega)
        obtain rfl : k = m := by have := HK.out; omega
        obtain ⟨l, hpl, hxl, hpa, hxw, hre⟩ := HI.out.2.2
        have Hre := Lib.hid (show readE bs = endE bs l a by
          rw [hre, Nat.sub_self]
          simp [piecesR, joinR, outR])
        subst hpl hxl
        have Hxw := Lib.hid hxw
        have Hpa := Lib.hid hpa
        have Hll := Lib.hid (show l.length ≤ 4096 by have := HI.out.1; rw [List.length_map] at this; omega)
        clear hre hq hxw hpa hk
        have hl' : (bs.length : Int) ≤ 1048576 := by omega
        have ha' : (a : Int) ≤ bs.length := by have := Hpa.out; omega
        have k1 : wr.cell? ⟨q1, 0, none⟩ = some (.slice none 0 0) := by rw [HL.out.b1.cell]; rfl
        have z1 : wr.frozen? ⟨q1, 0, none⟩ = false := HL.out.b1.frozen 0
        go_upto_region 16 with (fail)
        clear c1 c2
        by_cases h4 : bs.length < a + 4
        · have e1 : decide ((bs.length : Int) - (a : Int) < 4) = true := decide_eq_true (by omega)
          have Hrx := Lib.hid (show readE bs = ([], bs.length, 4) by rw [Hre.out]; unfold endE; rw [if_pos h4])
          clear h4
          go_wp2_with fail
          exact ret10 rfl rfl rfl rfl (HL.out.b1.set_ 0 _) Hrx.out (World.ownsRow_nil _ _ _ _) (HL.out.gr.setCell (p := ⟨q1, 0, none⟩) (fun h => by have := HL.out.h1; simp only at h; omega) _)
        have e1 : decide ((bs.length : Int) - (a : Int) < 4) = false := decide_eq_false (by omega)
        have H4 := Lib.hid h4
        have h4' : (a : Int) + 4 ≤ bs.length := by omega
        have w4x : IntKind.i64.wrap ((a : Int) + 4) = (a : Int) + 4 := IntWalk.i64_in _ (by omega)
        clear h4
        obtain ⟨i0, hi0, hz0, hz1, hz2⟩ := info_parts info_u8
        have hcap : bs.length ≤ cap := by obtain ⟨_, _, hv, hc, _⟩ := HS1.out; injection hv with _ a b; omega
        have s6 : ∀ w, (Instr.slice 22 (.slice A bs.length cap) none (some (.int .i64 (a : Int))) none).run Try.prog w = .ok (.slice A a cap) w := fun w => run_slice_to (P := Try.prog) 22 5 i0 Try.underlying22 hi0 A bs.length cap a (by omega) w
        have Htb := Lib.hid (show Leb.Bs (bs.take a) from fun c hc => Hb.out c (List.mem_of_mem_take hc))
        have HCr := Lib.hid (rof_any ((HSl.out _ HL.out.gr).take (k := a) Hpa.out) Htb.out (by rw [List.length_take]; omega))
        have HFr := Lib.hid (fun w' => rfour_any (crcN (bs.take a)) (crcN_lt Htb.out) w')
        have Hf4 := Lib.hid (show (four (crcN (bs.take a))).length = 4 by simp [four])
        have Hend := Lib.hid (show readE bs = if (bs.drop a).take 4 ≠ four (crcN (bs.take a)) then ([], a, 6) else if a + 4 < bs.length then ([], a + 4, 5) else if (checkE (l.map (·.2))).1 ≠ 0 then ([], (l.map (·.1)).getD (checkE (l.map (·.2))).2 a, 11) else (l.map (·.2), 0, 0) by
          rw [Hre.out]; unfold endE; rw [if_neg H4.out])
        clear Hre
        generalize crcN (bs.take a) = cc at HCr HFr Hf4 Hend
        go_upto_region 19 with (first
          | (go_at_call 31; refine HCr.out.mono ?_; rintro e wx ⟨rfl, rfl⟩)
          | (go_at_call 30
             refine (HFr.out _).mono ?_
             intro e wy hp
             obtain ⟨tw, rfl, hs, hg⟩ := four_sl hp
             have HSq := Lib.hid hs
             have HLy := Lib.hid (HL.out.any hg)
             clear hp hs hg))
        obtain ⟨b9, o9, c9, rfl⟩ : ∃ b9 o9 c9, tw = .slice (some ⟨b9, o9, none⟩) 4 c9 := by
          obtain ⟨A9, c9, rfl, hc9, hr9⟩ := HSq.out
          obtain ⟨b, o, rfl, _⟩ := hr9 (by rw [Hf4.out]; decide)
          exact ⟨b, o, c9, by rw [Hf4.out]⟩
        clear k1 z1 HCr HFr
        go_wp2_with fail
        obtain ⟨m0, rfl⟩ : ∃ m0, gk = m0 + 1 := ⟨gk - 1, by have := HK.out; omega⟩
        obtain ⟨wo, rfl⟩ : ∃ wo : World, wo = wr := ⟨_, rfl⟩
        go_loopg [13] 5 (fun g s13 wz => ∃ i : Nat, s13 = .int .i64 i ∧ Hid (i ≤ 4 ∧ 4 - i < g) ∧ Hid (Dr wy wz ∧ (bs.drop a).take i = (four cc).take i))
        case atStart => exact ⟨0, rfl, ⟨by omega, by omega⟩, Dr.refl _, rfl⟩
        case round =>
          obtain ⟨i, rfl, HI2, HP2⟩ := hrel
          have HLz := Lib.hid (HLy.out.any HP2.out.1.gr)
          have z1 : wr.frozen? ⟨q1, 0, none⟩ = false := HLz.out.b1.frozen 0
          have k1 : wr.cell? ⟨q1, 0, none⟩ = some (.slice none 0 0) := by rw [HLz.out.b1.cell]; rfl
          by_cases hi : i < 4
          · have hi1 : decide ((i : Int) < 4) = true := decide_eq_true (by omega)
            have hlt : a + i < bs.length := by have := H4.out; omega
            have hlt2 : i < (four cc).length := by rw [Hf4.out]; omega
            have hai : (a : Int) + (i : Int) < bs.length := by omega
            have wai : IntKind.i64.wrap ((a : Int) + (i : Int)) = (a : Int) + (i : Int) := IntWalk.i64_in _ (by omega)
            have hai0 : (0 : Int) ≤ (a : Int) + (i : Int) := by omega
            have hi4 : (i : Int) < 4 := by omega
            have hci : ((a : Int) + (i : Int)).toNat = a + i := by omega
            obtain ⟨b1, o1, hA1, hb1, hc1⟩ := (HSl.out _ HLz.out.gr).at_ (s := 1) (fun _ => rfl) rfl hlt
            have hd1 := hc1 0 (by omega)
            obtain ⟨b2, o2, hA2, hb2, hc2⟩ := (HSq.out.gr HP2.out.1.gr).at_ (s := 1) (fun _ => rfl) rfl hlt2
            have hd2 := hc2 0 (by omega)
            cases hA2
            subst hA1
            simp [encB] at hd1 hd2
            have Hs1 := Lib.hid (show (bs.drop a).take (i + 1) = (bs.drop a).take i ++ [bs[a + i]] from by
              rw [List.take_succ_eq_append_getElem (by rw [List.length_drop]; omega), List.getElem_drop])
            have Hs2 := Lib.hid (List.take_succ_eq_append_getElem hlt2)
            have Hdr := Lib.hid (show (bs.drop a).take 4 = four cc → bs[a + i] = (four cc)[i] from fun h => by
              have h1 : ((bs.drop a).take 4)[i]? = (four cc)[i]? := by rw [h]
              rw [List.getElem?_take, if_pos hi, List.getElem?_drop, List.getElem?_eq_getElem hlt, List.getElem?_eq_getElem hlt2] at h1
              exact Option.some.inj h1)
            have Hi := Lib.hid hi
            generalize bs[a + i]'hlt = c1 at hd1 Hs1 Hdr
            generalize (four cc)[i]'hlt2 = c2 at hd2 Hs2 Hdr
            clear hc1 hc2 hb1 hb2
            by_cases hne : c1 = c2
            · have hn1 : (c1 != c2) = false := by simp [hne]
              go_upto_region 22 with (fail)
              go_quiet (fail)
              go_wp2_with fail
              go_roundg (gk - 1)
              case measure => have := HI2.out; omega
              case rel =>
                refine ⟨i + 1, by go_num, ⟨by have := Hi.out; omega, by have := HI2.out; have := Hi.out; omega⟩, HP2.out.1.drewN _, ?_⟩
                rw [Hs1.out, Hs2.out, HP2.out.2, hne]
            · have hn1 : (c1 != c2) = true := bne_iff_ne.2 hne
              have Hrx := Lib.hid (show readE bs = ([], a, 6) by rw [Hend.out, if_pos (fun h => hne (Hdr.out h))])
              go_upto_region 22 with (fail)
              go_quiet (fail)
              go_wp2_with fail
              exact ret10 rfl rfl rfl rfl ((HLz.out.b1.drewN _).set_ 0 _) Hrx.out (World.ownsRow_nil _ _ _ _) ((HLz.out.gr.drewN _).setCell (p := ⟨q1, 0, none⟩) (fun h => by have := HLz.out.h1; simp only at h; omega) _)
          · have hi1 : decide ((i : Int) < 4) = false := decide_eq_false (by omega)
            obtain rfl : i = 4 := by have := HI2.out; omega
            have Hen2 := Lib.hid (show readE bs = if a + 4 < bs.length then ([], a + 4, 5) else if (checkE (l.map (·.2))).1 ≠ 0 then ([], (l.map (·.1)).getD (checkE (l.map (·.2))).2 a, 11) else (l.map (·.2), 0, 0) by
              rw [Hend.out, if_neg (fun h => h (by have h2 := HP2.out.2; rw [h2, List.take_of_length_le (by rw [Hf4.out]; exact Nat.le_refl _)]))])
            clear Hend
            go_upto_region 24 with (fail)
            by_cases h5 : a + 4 < bs.length
            · have e5 : decide ((bs.length : Int) > (a : Int) + 4) = true := decide_eq_true (by omega)
              have e5' : decide ((a : Int) + 4 < (bs.length : Int)) = true := decide_eq_true (by omega)
              have Hrx := Lib.hid (show readE bs = ([], a + 4, 5) by rw [Hen2.out, if_pos h5])
              go_wp2_with fail
              exact ret10 (x := a + 4) rfl rfl rfl rfl (HLz.out.b1.set_ 0 _) Hrx.out (World.ownsRow_nil _ _ _ _) (HLz.out.gr.setCell (p := ⟨q1, 0, none⟩) (fun h => by have := HLz.out.h1; simp only at h; omega) _)
            have e5 : decide ((bs.length : Int) > (a : Int) + 4) = false := decide_eq_false (by omega)
            have e5' : decide ((a : Int) + 4 < (bs.length : Int)) = false := decide_eq_false (by omega)
            have Hen3 := Lib.hid (show readE bs = if (checkE (l.map (·.2))).1 ≠ 0 then ([], (l.map (·.1)).getD (checkE (l.map (·.2))).2 a, 11) else (l.map (·.2), 0, 0) by rw [Hen2.out, if_neg h5])
            clear Hen2 h5
            have k7 : wr.cell? ⟨q7, 0, none⟩ = some xv := by rw [HLz.out.b7.cell]; rfl
            go_upto_region 26 with (fail)
            have HCk := Lib.hid (rcheck_any (SL.of_own (enc := encP) HLz.out.xo rfl) Hxw.out (by rw [List.length_map]; have := Hll.out; omega))
            have Hcl := Lib.hid (check_le (l.map (·.2)))
            clear z1 k1
            go_upto_region 27 with (go_at_call 32; refine HCk.out.mono ?_; rintro e w6 ⟨rfl, hg⟩; have HL6 := Lib.hid (HLz.out.any hg); clear hg)
            clear k7 HCk
            have k7 : w6.cell? ⟨q7, 0, none⟩ = some xv := by rw [HL6.out.b7.cell]; rfl
            have k1 : w6.cell? ⟨q1, 0, none⟩ = some (.slice none 0 0) := by rw [HL6.out.b1.cell]; rfl
            have z1 : w6.frozen? ⟨q1, 0, none⟩ = false := HL6.out.b1.frozen 0
            generalize (checkE (l.map (·.2))).1 = E at Hen3 ⊢
            generalize (checkE (l.map (·.2))).2 = at_ at Hen3 Hcl ⊢
            rw [List.length_map] at Hcl
            have HSp := Lib.hid (SL.of_own (enc := encN) HL6.out.po rfl)
            obtain ⟨Ap, cp, rfl⟩ := SL.form HSp.out
            have hlm : (l.map (·.1)).length = l.length := List.length_map ..
            by_cases hE : E = 0
            · subst hE
              have Hrz := Lib.hid (show readE bs = (l.map (·.2), 0, 0) by rw [Hen3.out, if_neg (by simp)])
              obtain ⟨Av, nv, cv, rfl⟩ : ∃ A n c, xv = .slice A n c := by
                obtain ⟨A, c, h⟩ := SL.form (SL.of_own (enc := encP) HL6.out.xo rfl)
                exact ⟨A, _, c, h⟩
              go_wp2_with fail
              have hset : Fr w6 (w6.setCell ⟨q1, 0, none⟩ (.slice Av nv cv)) (fun k => k = q1) := (Fr.refl w6 (fun k => k = q1)).setCell (p := ⟨q1, 0, none⟩) (fun _ => rfl) _
              have hB := HL6.out.hB
              have hh1 := HL6.out.h1
              have hq := Hq1.out
              exact ret10 (x := 0) rfl rfl rfl rfl (HL6.out.b1.set_ 0 _) Hrz.out (own_base (hset.owns HL6.out.xo (fun k hk e => by have := (HL6.out.xo.lt k hk).1; omega)) (by omega)) (HL6.out.gr.trans hset (fun i hi h => by omega))
            have hE1 : (E != 0) = true := bne_iff_ne.2 hE
            have Hrz := Lib.hid (show readE bs = ([], (l.map (·.1)).getD at_ a, 11) by rw [Hen3.out, if_pos hE])
            by_cases hat : at_ < l.length
            · have ht1 : decide (at_ < l.length) = true := decide_eq_true hat
              have ht2 : decide ((at_ : Int) < (l.length : Int)) = true := decide_eq_true (by omega)
              have hatm : at_ < (l.map (·.1)).length := by rw [List.length_map]; exact hat
              obtain ⟨b8, o8, rfl, hb8, hc8⟩ := HSp.out.at_ (s := 1) (fun _ => rfl) rfl hatm
              have hd : w6.cell? ⟨b8, o8 + at_, none⟩ = some (.int .i64 ((((l.map (·.1)).getD at_ a : Nat)) : Int)) := by
                have := hc8 0 (by omega)
                rw [Nat.add_zero, Nat.mul_one] at this
                rw [this, List.getD_eq_getElem?_getD, List.getElem?_eq_getElem hatm]
                rfl
              have hati : (at_ : Int) < (l.length : Int) := by omega
              have nb : b8 ≠ q1 := fun e => by have := (HL6.out.po.lt b8 rfl).1; have := HL6.out.hB; omega
              have nb' := nb.symm
              generalize (l.map (·.1)).getD at_ a = xx at hd Hrz
              rw [hlm]
              clear hc8 hatm hb8 hat
              go_upto_region 28 with (fail)
              go_region
              go_wp2_with fail
              exact ret10 (x := xx) rfl rfl rfl rfl (HL6.out.b1.set_ 0 _).drew Hrz.out (World.ownsRow_nil _ _ _ _) ((HL6.out.gr.setCell (p := ⟨q1, 0, none⟩) (fun h => by have := HL6.out.h1; simp only at h; omega) _).drew)
            · have ht1 : decide (at_ < l.length) = false := decide_eq_false hat
              have ht2 : decide ((at_ : Int) < (l.length : Int)) = false := decide_eq_false (by omega)
              have Hrx := Lib.hid (show readE bs = ([], a, 11) by
                rw [Hrz.out, List.getD_eq_getElem?_getD, List.getElem?_eq_none (by rw [List.length_map]; omega)]; rfl)
              rw [hlm]
              clear hat
              go_wp2_with fail
              exact ret10 (x := a) rfl rfl rfl rfl (HL6.out.b1.set_ 0 _) Hrx.out (World.ownsRow_nil _ _ _ _) (HL6.out.gr.setCell (p := ⟨q1, 0, none⟩) (fun h => by have := HL6.out.h1; simp only at h; omega) _)
end Vf
end Go.Proofs.Ytmjpghaggnpdbaa
