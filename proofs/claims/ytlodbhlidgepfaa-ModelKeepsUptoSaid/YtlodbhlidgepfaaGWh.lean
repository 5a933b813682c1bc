/- vocfile: Get. -/
import Derived.Test.YtlodbhlidgepfaaGWd
import Derived.Test.YtlodbhlidgepfaaVTa
import Derived.Test.YtlodbhlidgepfaaVPl
set_option linter.unusedVariables false
set_option linter.unusedSimpArgs false
namespace Go.Proofs.Ytlodbhlidgepfaa
open Go.RowKit
open Voc Leb Crc
namespace Vf
def joinR (done : List (Nat × Pc)) : R (List (Nat × Pc)) → R (List (Nat × Pc))
  | .bad E x => .bad E x
  | .ok l a => .ok (done ++ l) a
theorem piecesR_succ (b : List Int) (m a : Nat) (done : List (Nat × Pc)) : joinR done (piecesR b (m + 1) a) = match pieceR b a with
    | .bad E x => .bad E x
    | .ok p a1 => joinR (done ++ [(a, p)]) (piecesR b m a1) := by
  rw [piecesR]
  cases pieceR b a with
  | bad E x => rfl
  | ok p a1 =>
    simp only
    cases piecesR b m a1 with
    | bad E x => rfl
    | ok l a' => simp [joinR]
theorem joinR_nil (r : R (List (Nat × Pc))) : joinR [] r = r := by cases r <;> simp [joinR]
theorem endE_eq (b : List Int) (l : List (Nat × Pc)) (s : Nat) : endE b l s = match endR b s with
    | .bad E x => ([], x, E)
    | .ok _ _ => if (checkE (l.map (·.2))).1 ≠ 0 then ([], (l.map (·.1)).getD (checkE (l.map (·.2))).2 s, 11) else (l.map (·.2), 0, 0) := by
  unfold endE endR
  split
  · rfl
  · split
    · rfl
    · split <;> rfl
/-- Get's own state: the results' three cells, the reader, what is read -/
structure LS (w0 : World) (B : Nat) (bv : Value) (q1 q2 q3 p : Nat) (a : Nat) (pv xv : Value) (pl : List Nat) (xl : List Pc) (w : World) : Prop where
  rd : Rd w p bv a
  b1 : Blk w q1 27 #[xv]
  b2 : Blk w q2 3 #[.int .i64 0]
  b3 : Blk w q3 35 #[.int .i64 0]
  po : w.ownsRow B 3 1 pv pl.length (pl.flatMap encN)
  xo : w.ownsRow B 68 5 xv xl.length (xl.flatMap encP)
  gr : Gr w0 w
  h1 : w0.heap.size ≤ q1
  h2 : w0.heap.size ≤ q2
  h3 : w0.heap.size ≤ q3
  hp : w0.heap.size ≤ p
  hB : q1 < B ∧ q2 < B ∧ q3 < B ∧ p < B ∧ B ≤ w.heap.size
/-- at a panic: what the deferred function will find -/
def PP (w0 : World) (bs : List Int) (q1 q2 q3 : Nat) (c : List PanicEntry) (w : World) : Prop :=
  ∃ E x a1 a2 a3, c = flt E x ∧ readE bs = ([], x, E) ∧ Gr w0 w ∧ Blk w q1 27 #[a1] ∧ Blk w q2 3 #[a2] ∧ Blk w q3 35 #[a3] ∧ w0.heap.size ≤ q1 ∧ w0.heap.size ≤ q2 ∧ w0.heap.size ≤ q3
def GPost (w0 : World) (bs : List Int) (e : Ending) (w : World) : Prop :=
  ∃ tv, e = .returned (.tuple #[.agg #[tv], .int .i64 ((readE bs).2.1 : Int), .int .i64 (readE bs).2.2]) ∧ w.ownsRow w0.heap.size 68 5 tv (readE bs).1.length ((readE bs).1.flatMap encP) ∧ Gr w0 w
def QP (w0 : World) (bs : List Int) (q1 q2 q3 : Nat) (e : Exit) (a : Act) (w : World) : Prop :=
  match e with
  | .panic c => a.defers = [{ target := .fn (.func 53) #[.pointer (some ⟨q1, 0, none⟩), .pointer (some ⟨q2, 0, none⟩), .pointer (some ⟨q3, 0, none⟩)], args := #[] }] ∧
      a.tmps.getD 2 undef = .pointer (some ⟨q1, 0, none⟩) ∧ a.tmps.getD 3 undef = .pointer (some ⟨q2, 0, none⟩) ∧ a.tmps.getD 4 undef = .pointer (some ⟨q3, 0, none⟩) ∧ PP w0 bs q1 q2 q3 c w
  | e => bodyPostD Try.prog Try.f40 (GPost w0 bs) e a w
theorem encP_one1 : ∀ x : Pc, ∀ u ∈ encP x, u.oneCell' = true := by intro x u hu; simp [encP] at hu; rcases hu with rfl | rfl | rfl | rfl | rfl <;> rfl
theorem slPc (w : World) (c : Pc) : SL encP (w.alloc (.cells #[.bool c.j, .int .u8 c.b, .int .i64 c.l, .int .i64 c.r, .int .u32 c.k] TPc)) (.slice (some ⟨w.heap.size, 0, none⟩) 1 1) [c] := by
  refine ⟨_, 1, rfl, by simp, fun _ => ⟨w.heap.size, 0, rfl, by simp, fun i u hu => ?_⟩⟩
  rw [Nat.zero_add, World.cell?_alloc_new]
  simpa [encP] using hu
theorem qp_put {w0 : World} {bs : List Int} {q1 q2 q3 n : Nat} {c : List PanicEntry} {a : Act} {w : World} {v : Value} (hn : 5 ≤ n) (h : QP w0 bs q1 q2 q3 (.panic c) (a.put (some n) v) w) : QP w0 bs q1 q2 q3 (.panic c) a w := by
  obtain ⟨h1, h2, h3, h4, h5⟩ := h
  refine ⟨h1, ?_, ?_, ?_, h5⟩
  · simpa [Act.put, Array.getElem?_setIfInBounds_ne (show n ≠ 2 by omega)] using h2
  · simpa [Act.put, Array.getElem?_setIfInBounds_ne (show n ≠ 3 by omega)] using h3
  · simpa [Act.put, Array.getElem?_setIfInBounds_ne (show n ≠ 4 by omega)] using h4
namespace LS
variable {w0 w w' : World} {bs : List Int} {B : Nat} {bv : Value} {q1 q2 q3 p a a' : Nat} {pv xv : Value} {pl : List Nat} {xl : List Pc}
theorem ne_p (H : LS w0 B bv q1 q2 q3 p a pv xv pl xl w) : q1 ≠ p ∧ q2 ≠ p ∧ q3 ≠ p := ⟨Blk.ne_ H.b1 H.rd (by decide), Blk.ne_ H.b2 H.rd (by decide), Blk.ne_ H.b3 H.rd (by decide)⟩
theorem step (H : LS w0 B bv q1 q2 q3 p a pv xv pl xl w) (hf : Fr w w' (fun k => k = p)) (hr : Rd w' p bv a') : LS w0 B bv q1 q2 q3 p a' pv xv pl xl w' :=
  ⟨hr, H.b1.fr hf H.ne_p.1, H.b2.fr hf H.ne_p.2.1, H.b3.fr hf H.ne_p.2.2, hf.owns H.po (fun k hk e => by have := (H.po.lt k hk).1; have := H.hB; omega), hf.owns H.xo (fun k hk e => by have := (H.xo.lt k hk).1; have := H.hB; omega),
    H.gr.trans hf (fun i hi e => by have := H.hp; omega), H.h1, H.h2, H.h3, H.hp, by have := H.hB; have := hf.size; omega⟩
theorem pp (H : LS w0 B bv q1 q2 q3 p a pv xv pl xl w) {E : Int} {x : Nat} (hr : readE bs = ([], x, E)) : PP w0 bs q1 q2 q3 (flt E x) w :=
  ⟨E, x, _, _, _, rfl, hr, H.gr, H.b1, H.b2, H.b3, H.h1, H.h2, H.h3⟩
theorem bad (H : LS w0 B bv q1 q2 q3 p a pv xv pl xl w) (hf : Fr w w' (fun k => k = p)) {E : Int} {x : Nat} (hr : readE bs = ([], x, E)) : PP w0 bs q1 q2 q3 (flt E x) w' :=
  ⟨E, x, _, _, _, rfl, hr, H.gr.trans hf (fun i hi e => by have := H.hp; omega), H.b1.fr hf H.ne_p.1, H.b2.fr hf H.ne_p.2.1, H.b3.fr hf H.ne_p.2.2, H.h1, H.h2, H.h3⟩
theorem any (H : LS w0 B bv q1 q2 q3 p a pv xv pl xl w) (hg : Gr w w') : LS w0 B bv q1 q2 q3 p a pv xv pl xl w' :=
  ⟨H.rd.fr hg (fun h => h), H.b1.fr hg (fun h => h), H.b2.fr hg (fun h => h), H.b3.fr hg (fun h => h), hg.owns H.po (fun _ _ h => h), hg.owns H.xo (fun _ _ h => h), H.gr.trans hg (fun _ _ h => h), H.h1, H.h2, H.h3, H.hp, by have := H.hB; have := hg.size; omega⟩
theorem place (H : LS w0 B bv q1 q2 q3 p a pv xv pl xl w) (hf : Fr w w' (fun k => pv.ownBlock = some k)) {pv' : Value} {s : Nat} (ho : w'.ownsRow B 3 1 pv' (pl ++ [s]).length ((pl ++ [s]).flatMap encN)) : LS w0 B bv q1 q2 q3 p a pv' xv (pl ++ [s]) xl w' := by
  have hn : ∀ k, k < B → ¬ pv.ownBlock = some k := fun k hk e => by have := (H.po.lt k e).1; omega
  have hB := H.hB
  exact ⟨H.rd.fr hf (hn _ (by omega)), H.b1.fr hf (hn _ (by omega)), H.b2.fr hf (hn _ (by omega)), H.b3.fr hf (hn _ (by omega)), ho, hf.owns H.xo (fun k hk e => own_own_ne H.xo H.po (by decide) k hk e),
    H.gr.trans hf (fun i hi e => hn i (by have := H.h1; omega) e), H.h1, H.h2, H.h3, H.hp, by have := hf.size; omega⟩
theorem piece (H : LS w0 B bv q1 q2 q3 p a pv xv pl xl w) (hf : Fr w w' (fun k => xv.ownBlock = some k)) {xv' : Value} {c : Pc} (ho : w'.ownsRow B 68 5 xv' (xl ++ [c]).length ((xl ++ [c]).flatMap encP)) :
    LS w0 B bv q1 q2 q3 p a pv xv' pl (xl ++ [c]) (w'.setCell ⟨q1, 0, none⟩ xv') := by
  have hn : ∀ k, k < B → ¬ xv.ownBlock = some k := fun k hk e => by have := (H.xo.lt k e).1; omega
  have hB := H.hB
  have hs : Fr w' (w'.setCell ⟨q1, 0, none⟩ xv') (fun k => k = q1) := (Fr.refl w' (fun k => k = q1)).setCell (p := ⟨q1, 0, none⟩) (fun _ => rfl) _
  have n12 := Blk.ne_ H.b1 H.b2 (by decide)
  have n13 := Blk.ne_ H.b1 H.b3 (by decide)
  have hp := H.ne_p
  exact ⟨(H.rd.fr hf (hn _ (by omega))).fr hs hp.1.symm, (H.b1.fr hf (hn _ (by omega))).set_ 0 xv', (H.b2.fr hf (hn _ (by omega))).fr hs n12.symm, (H.b3.fr hf (hn _ (by omega))).fr hs n13.symm,
    hs.owns (hf.owns H.po (fun k hk e => own_own_ne H.po H.xo (by decide) k hk e)) (fun k hk e => by have := (H.po.lt k hk).1; omega), hs.owns ho (fun k hk e => by have := (ho.lt k hk).1; omega),
    (H.gr.trans hf (fun i hi e => hn i (by have := H.h1; omega) e)).trans hs (fun i hi e => by have := H.h1; omega), H.h1, H.h2, H.h3, H.hp, by have := hf.size; have := hs.size; omega⟩
end LS
theorem badF_le : ∀ (r ps : List Pc) (sz : List Nat) (y : Int × Nat), badF ps sz r = some y → y.2 ≤ ps.length + r.length
  | [], ps, sz, y, h => by simp [badF] at h
  | q :: r, ps, sz, y, h => by
    unfold badF at h
    split at h
    · have := badF_le r _ _ y h
      simp at this ⊢
      omega
    · injection h with h
      subst h
      simp
theorem check_le (xs : List Pc) : (checkE xs).2 ≤ xs.length := by
  unfold checkE
  split
  · exact Nat.zero_le _
  · split
    · rename_i x h
      have := badF_le _ _ _ _ h
      simpa using this
    · split
      · exact Nat.le_refl _
      · exact Nat.zero_le _
theorem res_get (tmps : Array Value) (w : World) (q1 q2 q3 : Nat) (a : Value) (x E : Int) (t2 : tmps.getD 2 undef = .pointer (some ⟨q1, 0, none⟩)) (t3 : tmps.getD 3 undef = .pointer (some ⟨q2, 0, none⟩)) (t4 : tmps.getD 4 undef = .pointer (some ⟨q3, 0, none⟩))
    (B1 : Blk w q1 27 #[a]) (B2 : Blk w q2 3 #[.int .i64 x]) (B3 : Blk w q3 35 #[.int .i64 E]) :
    (results Try.f40 tmps).run Try.prog w = .ok (.tuple #[.agg #[a], .int .i64 x, .int .i64 E]) w := by
  have c2 : w.cell? ⟨q2, 0, none⟩ = some (.int .i64 x) := by rw [B2.cell]; rfl
  have c3 : w.cell? ⟨q3, 0, none⟩ = some (.int .i64 E) := by rw [B3.cell]; rfl
  have t2' : tmps[2]?.getD undef = .pointer (some ⟨q1, 0, none⟩) := by simpa using t2
  have t3' : tmps[3]?.getD undef = .pointer (some ⟨q2, 0, none⟩) := by simpa using t3
  have t4' : tmps[4]?.getD undef = .pointer (some ⟨q3, 0, none⟩) := by simpa using t4
  have c1 : w.cell? ⟨q1, 0, none⟩ = some a := by rw [B1.cell]; rfl
  simp [results, Try.results40, t2', t3', t4', asAddr, go_sem, c1, c2, c3]
set_option maxRecDepth 20000 in
set_option maxHeartbeats 8000000 in
theorem get_any {w : World} {v : Value} {bs : List Int} (HS : SL encB w v bs) (hb : Leb.Bs bs) (hl : bs.length ≤ 1048576) :
    Calls Try.prog 40 #[v] w (GPost w bs) := by
  obtain ⟨A, cap, rfl⟩ := SL.form HS
  have hmf : ∀ (fn : Fn) (first cap : Array Value) (w : World), (Instr.makeFunc fn first cap).run Try.prog w = .ok (.func fn first cap) w := fun _ _ _ _ => rfl
  obtain ⟨q1, hq1⟩ : ∃ q, w.heap.size = q := ⟨_, rfl⟩
  go_enter_defers Try.func40, Try.ntmps40
  refine Code.wp_mono (Q := QP w bs q1 (q1 + 1) (q1 + 1 + 1)) ?_ ?_
  · intro e a wx h
    cases e with
    | panic c =>
      obtain ⟨hd, t2, t3, t4, E, x, a1, a2, a3, rfl, hr, hg, B1, B2, B3, k1, k2, k3⟩ := h
      show Leaves _ _ _ _ _ _ _
      rw [hd]
      refine leaves_cons (f := 53) (args := #[.pointer (some ⟨q1, 0, none⟩), .pointer (some ⟨q1 + 1, 0, none⟩), .pointer (some ⟨q1 + 1 + 1, 0, none⟩)]) (by simp) (by simp [go_sem]) ?_
      refine (catch_panicking q1 (q1 + 1) (q1 + 1 + 1) a1 a2 a3 E x wx B1 B2 B3).mono ?_
      rintro e u' w' ⟨rfl, rfl, c1, c2, c3, hf⟩
      refine ⟨_, res_get a.tmps w' q1 (q1 + 1) (q1 + 1 + 1) _ _ _ t2 t3 t4 c1 c2 c3, ?_⟩
      refine ⟨_, by rw [hr], by rw [hr]; exact World.ownsRow_nil _ _ _ _, ?_⟩
      exact hg.trans hf (fun i hi h => by rcases h with h | h | h <;> omega)
    | _ => exact h
  · have HS1 := Lib.hid HS
    have Hb := Lib.hid hb
    clear HS hb
    have X1 := Lib.hid (((Blk.new w 27 #[.slice none 0 0]).alloc (.cells #[.int .i64 0] 3)).alloc (.cells #[.int .i64 0] 35))
    have X2 := Lib.hid ((Blk.new (w.alloc (.cells #[.slice none 0 0] 27)) 3 #[.int .i64 0]).alloc (.cells #[.int .i64 0] 35))
    have X3 := Lib.hid (Blk.new ((w.alloc (.cells #[.slice none 0 0] 27)).alloc (.cells #[.int .i64 0] 3)) 35 #[.int .i64 0])
    have XG := Lib.hid ((((Fr.refl w NoneS).alloc (.cells #[.slice none 0 0] 27)).alloc (.cells #[.int .i64 0] 3)).alloc (.cells #[.int .i64 0] 35))
    have Hq1 := Lib.hid hq1
    simp only [World.size_alloc, hq1] at X1 X2 X3
    go_upto_region 2 with (fail)
    generalize World.alloc _ _ = w3 at X1 X2 X3 XG ⊢
    have HS3 := Lib.hid (HS1.out.gr XG.out)
    obtain ⟨i0, hi0, hz0, hz1, hz2⟩ := info_parts info_u8
    have hl' : (bs.length : Int) ≤ 1048576 := by omega
    by_cases h6 : bs.length < 6
    · have e1 : decide (bs.length < 6) = true := decide_eq_true h6
      have e2 : decide ((bs.length : Int) < 6) = true := decide_eq_true (by omega)
      have Hre := Lib.hid (show readE bs = ([], 0, 5) by
        unfold readE
        rw [if_pos (fun h => by have := congrArg List.length h; rw [List.length_take] at this; simp [magic] at this; omega)])
      go_wp2_with fail
      exact ⟨rfl, rfl, rfl, rfl, 5, 0, _, _, _, rfl, Hre.out, XG.out, X1.out, X2.out, X3.out, by have := Hq1.out; omega, by have := Hq1.out; omega, by have := Hq1.out; omega⟩
    · have e1 : decide (bs.length < 6) = false := decide_eq_false h6
      have e2 : decide ((bs.length : Int) < 6) = false := decide_eq_false (by omega)
      have hcap : bs.length ≤ cap := by obtain ⟨_, _, hv, hc, _⟩ := HS3.out; injection hv with _ a b; omega
      have s6 : ∀ w, (Instr.slice 32 (.slice A bs.length cap) none (some (.int .i64 6)) (some (.int .i64 6))).run Try.prog w = .ok (.slice A 6 6) w := fun w => run_slice_to3 (P := Try.prog) 32 5 i0 Try.underlying32 hi0 A bs.length cap 6 6 (Nat.le_refl _) (by omega) w
      have Ht6 := Lib.hid (show SL encB w3 (.slice A 6 6) (bs.take 6) from by
        have h2 := SL.take (k := 6) HS3.out (by omega)
        obtain ⟨A', c', hv, hc, hr⟩ := h2
        injection hv with q1 q2 q3
        subst q1
        exact ⟨_, 6, by rw [← q2], by rw [← q2]; exact Nat.le_refl _, hr⟩)
      have Hb6 := Lib.hid (show Leb.Bs (bs.take 6) from fun c hc => Hb.out c (List.mem_of_mem_take hc))
      have hst := run_str Ht6.out Hb6.out (by rw [List.length_take]; omega)
      have Hmb := Lib.hid (show Leb.Bs magic from by intro c hc; simp [magic] at hc; omega)
      have htl : (ByteArray.mk #[115, 116, 111, 111, 107, 118]).toList = [115, 116, 111, 111, 107, 118] := ByteArray.toList_eq _
      by_cases hm : bs.take 6 = magic
      case neg =>
        have hsb : ((strB (bs.take 6)).toList == (ByteArray.mk #[115, 116, 111, 111, 107, 118]).toList) = false := strB_eq Hb6.out Hmb.out false (decide_eq_false hm)
        have Hre := Lib.hid (show readE bs = ([], 0, 5) by unfold readE; rw [if_pos hm])
        rw [htl] at hsb
        clear hm htl
        generalize strB (bs.take 6) = sx at hst hsb
        go_wp2_with fail
        exact ⟨rfl, rfl, rfl, rfl, 5, 0, _, _, _, rfl, Hre.out, XG.out, X1.out, X2.out, X3.out, by have := Hq1.out; omega, by have := Hq1.out; omega, by have := Hq1.out; omega⟩
      have hsb : ((strB (bs.take 6)).toList == (ByteArray.mk #[115, 116, 111, 111, 107, 118]).toList) = true := strB_eq Hb6.out Hmb.out true (decide_eq_true hm)
      have Hrd := Lib.hid (show readE bs = match numR bs 6 4096 with
          | .bad e x => ([], x, e)
          | .ok m a => match piecesR bs m a with
            | .bad e x => ([], x, e)
            | .ok l s => endE bs l s by unfold readE; rw [if_neg (by simpa using hm)]; rfl)
      have H6 := Lib.hid (show 6 ≤ bs.length by omega)
      rw [htl] at hsb
      clear hm htl
      generalize strB (bs.take 6) = sx at hst hsb
      go_upto_region 6 with (fail)
      have HL0 := Lib.hid (show LS w (w3.heap.size + 1) (.slice A bs.length cap) q1 (q1 + 1) (q1 + 1 + 1) w3.heap.size 6 (.slice none 0 0) (.slice none 0 0) [] [] (w3.alloc (.cells #[.slice A bs.length cap, .int .i64 6] 108)) from
        ⟨Blk.new w3 _ _, X1.out.alloc _, X2.out.alloc _, X3.out.alloc _, World.ownsRow_nil _ _ _ _, World.ownsRow_nil _ _ _ _, XG.out.alloc _, by have := Hq1.out; omega, by have := Hq1.out; omega, by have := Hq1.out; omega, XG.out.size,
          by have := X1.out.lt; have := X2.out.lt; have := X3.out.lt; simp only [World.size_alloc]; omega⟩)
      obtain ⟨p, hp⟩ : ∃ p, w3.heap.size = p := ⟨_, rfl⟩
      rw [hp] at HL0 ⊢
      clear hp X1 X2 X3 XG HS3 Ht6 Hb6 Hmb hst hsb s6 hi0 hz0 hz1 hz2 hq1 e1 e2 h6
      obtain ⟨B, hB⟩ : ∃ B, p + 1 = B := ⟨_, rfl⟩
      rw [hB] at HL0
      clear hB
      generalize World.alloc w3 _ = w4 at HL0 ⊢
      have HSl := Lib.hid (fun (w' : World) (hg : Gr w w') => HS1.out.gr hg)
      obtain ⟨r, hr⟩ : ∃ r, numR bs 6 4096 = r := ⟨_, rfl⟩
      have HC := Lib.hid (number_any HL0.out.rd (HSl.out _ HL0.out.gr) Hb.out H6.out hl 4096 (by decide) r hr)
      have HR := Lib.hid hr
      clear hr
      cases r with
      | bad E x =>
        have Hre := Lib.hid (show readE bs = ([], x, E) by rw [Hrd.out, HR.out])
        go_wp2_with (go_at_call 54; refine HC.out.mono ?_; intro e w5 h; obtain ⟨rfl, hf⟩ := h; have HP := Lib.hid (HL0.out.bad hf Hre.out); clear hf)
        exact ⟨rfl, rfl, rfl, rfl, HP.out⟩
      | ok m a =>
      have hm := numR_most HR.out
      have HA := Lib.hid (numR_le HR.out)
      have Hr2 := Lib.hid (show readE bs = match piecesR bs m a with
            | .bad e x => ([], x, e)
            | .ok l s => endE bs l s by rw [Hrd.out, HR.out])
      clear Hrd
      go_upto_block 0 with (go_at_call 54; refine HC.out.mono ?_; intro e w5 h; obtain ⟨rfl, hf, hrd⟩ := h; have HL5 := Lib.hid (HL0.out.step hf hrd); clear hf hrd)
      clear HC HL0 HS1 HR
      go_wp2_with fail
      go_loopg [6, 26] (m + 1) (fun g s6 s26 wr => ∃ (k : Nat) (pv xv : Value) (l : List (Nat × Pc)) (s : Nat), pv = s6 ∧ s26 = .int .u64 k ∧ Hid (k ≤ m ∧ m - k < g) ∧ Hid (LS w B (.slice A bs.length cap) q1 (q1 + 1) (q1 + 1 + 1) p s pv xv (l.map (·.1)) (l.map (·.2)) wr ∧ l.length = k ∧ s ≤ bs.length ∧ piecesR bs m a = joinR l (piecesR bs (m - k) s)))
      case atStart => exact ⟨0, _, _, [], a, rfl, rfl, ⟨Nat.zero_le _, by omega⟩, HL5.out, rfl, HA.out, by rw [joinR_nil]; rfl⟩
      case round =>
        obtain ⟨k, pv, xv, l, s, rfl, rfl, HK, HP⟩ := hrel
        by_cases hk : k < m
        · have hk1 : decide (k < m) = true := decide_eq_true hk
          have hk2 : decide ((k : Int) < (m : Int)) = true := decide_eq_true (by omega)
          have c1 : wr.cell? ⟨p, 1, none⟩ = some (.int .i64 (s : Int)) := by rw [Blk.cell HP.out.1.rd]; rfl
          obtain ⟨j0, hj0, hy0, hy1, hy2⟩ := info_parts (show (Try.prog.info? 3).map (fun i => (i.zero, i.size, i.bytes)) = some (some (.int .i64 0), 1, 8) by kernel_rfl)
          have Hone := Lib.hid (show SL encN (wr.alloc (.cells #[.int .i64 (s : Int)] 3)) (.slice (some ⟨wr.heap.size, 0, none⟩) 1 1) [s] from by
            refine ⟨_, 1, rfl, by simp, fun _ => ⟨wr.heap.size, 0, rfl, by simp, fun i u hu => ?_⟩⟩
            rw [Nat.zero_add, World.cell?_alloc_new]
            simpa [encN] using hu)
          have HLa := Lib.hid (HP.out.1.any ((Fr.refl wr NoneS).alloc (.cells #[.int .i64 (s : Int)] 3)))
          have Hlen := Lib.hid (show (l.map (·.1)).length ≤ 4096 by rw [List.length_map, HP.out.2.1]; have := HK.out; omega)
          go_upto_region 9 with (
            at_builtin
            refine wpList_append_sl _ encN rfl _ _ 60 rfl B 3 j0 (.int .i64 0) 1 8 Try.underlying60 hj0 hy0 hy1 hy2 rfl (by decide) pv _ _ rfl HLa.out.po (.slice (some ⟨wr.heap.size, 0, none⟩) 1 1) [s] rfl Hone.out (fun _ => rfl) (by intro x u hu; simp [encN] at hu; subst hu; rfl) (by have := Hlen.out; simp only [maxLen, List.length_cons, List.length_nil]; omega) (by have := Hlen.out; simp only [List.length_cons, List.length_nil]; omega) (by have := HLa.out.hB; omega) ?_
            intro v8 w8 ho hf hat
            have HL8 := Lib.hid (HLa.out.place (pv' := v8) (s := s) hf (by rw [List.length_append, List.flatMap_append]; exact ho))
            clear ho hf hat)
          have Hk := Lib.hid hk
          have hkm : (k : Int) < 4096 := by omega
          have HLd := Lib.hid (HL8.out.any ((Fr.refl w8 NoneS).drew))
          have cq : w8.drew.cell? ⟨q1, 0, none⟩ = some xv := by rw [HLd.out.b1.cell]; rfl
          obtain ⟨i1, hi1, hx0, hx1, hx2⟩ := info_parts info_pc
          obtain ⟨rp, hrp⟩ : ∃ r, pieceR bs s = r := ⟨_, rfl⟩
          have HCp := Lib.hid (piece_any HLd.out.rd (HSl.out _ HLd.out.gr) Hb.out HP.out.2.2.1 hl rp hrp)
          have HRp := Lib.hid hrp
          have Hlx := Lib.hid (show (l.map (·.2)).length ≤ 4096 by rw [List.length_map, HP.out.2.1]; have := HK.out; omega)
          clear hrp hk Hone HLa c1
          refine wp_region_held_drew (S := fun _ => True) (by kernel_rfl) trivial (fun hHeld => ?_)
          clear hHeld
          refine wpAnyH_take (i := 0) (v := .pointer (some ⟨q1, 0, none⟩)) rfl (by kernel_rfl) (by kernel_rfl) (by kernel_rfl) (fun c a w h => qp_put (by decide) h) (Or.inl ⟨by kernel_rfl, ?_⟩) trivial ?_
          focus (intro w hSw; go_simp)
          try simp only [Act.put, List.getElem_toArray, List.getElem_cons_succ, List.getElem_cons_zero, List.setIfInBounds_toArray, List.set_cons_zero, List.set_cons_succ]
          refine wpAnyH_take (i := 2) (v := .pointer (some ⟨p, 0, none⟩)) rfl (by kernel_rfl) (by kernel_rfl) (by kernel_rfl) (fun c a w h => qp_put (by decide) h) (Or.inl ⟨by kernel_rfl, ?_⟩) trivial ?_
          focus (intro w hSw; go_simp)
          try simp only [Act.put, List.getElem_toArray, List.getElem_cons_succ, List.getElem_cons_zero, List.setIfInBounds_toArray, List.set_cons_zero, List.set_cons_succ]
          generalize World.drew w8 = wd at HLd cq HCp ⊢
          cases rp with
          | bad E x =>
            have Hre := Lib.hid (show readE bs = ([], x, E) by
              have h := HP.out.2.2.2
              rw [show m - k = (m - (k + 1)) + 1 by have := Hk.out; omega, piecesR_succ, HRp.out] at h
              rw [Hr2.out, h])
            refine wpAnyH_ready (rs := [1, 3]) (by kernel_rfl) (by simp) ?_
            refine AllReadyH.cons rfl ?_ (AllReadyH.cons rfl ?_ AllReadyH.nil)
            · intro K hK
              go_simp
              refine hK.out _ _ trivial (fun hHeld => ?_)
              clear hK K hHeld
              try simp only [Act.put, List.getElem_toArray, List.getElem_cons_succ, List.getElem_cons_zero, List.setIfInBounds_toArray, List.set_cons_zero, List.set_cons_succ]
              refine wpAnyH_ready (rs := [3]) (by kernel_rfl) (by simp) ?_
              refine AllReadyH.cons rfl ?_ AllReadyH.nil
              intro K hK
              go_simp
              go_at_call 55
              refine HCp.out.mono ?_
              intro e w9 h
              obtain ⟨rfl, hf⟩ := h
              exact ⟨rfl, rfl, rfl, rfl, HLd.out.bad hf Hre.out⟩
            · intro K hK
              go_simp
              go_at_call 55
              refine HCp.out.mono ?_
              intro e w9 h
              obtain ⟨rfl, hf⟩ := h
              exact ⟨rfl, rfl, rfl, rfl, HLd.out.bad hf Hre.out⟩
          | ok c s' =>
            have Hs' := Lib.hid (pieceR_le HP.out.2.2.1 HRp.out)
            refine wpAnyH_ready (rs := [1, 3]) (by kernel_rfl) (by simp) ?_
            refine AllReadyH.cons rfl ?_ (AllReadyH.cons rfl ?_ AllReadyH.nil)
            · intro K hK
              go_simp
              refine hK.out _ _ trivial (fun hHeld => ?_)
              clear hK K hHeld
              try simp only [Act.put, List.getElem_toArray, List.getElem_cons_succ, List.getElem_cons_zero, List.setIfInBounds_toArray, List.set_cons_zero, List.set_cons_succ]
              refine wpAnyH_ready (rs := [3]) (by kernel_rfl) (by simp) ?_
              refine AllReadyH.cons rfl ?_ AllReadyH.nil
              intro K hK
              go_simp
              go_at_call 55
              refine HCp.out.mono ?_
              intro e w9 h
              obtain ⟨rfl, hf, hrd⟩ := h
              have HL9 := Lib.hid (HLd.out.step hf hrd)
              have cq9 : w9.cell? ⟨q1, 0, none⟩ = some xv := by rw [HL9.out.b1.cell]; rfl
              clear hf hrd
              unfold agP
              refine hK.out _ _ trivial (fun hHeld => ?_)
              clear hK K hHeld
              try simp only [Act.put, List.getElem_toArray, List.getElem_cons_succ, List.getElem_cons_zero, List.setIfInBounds_toArray, List.set_cons_zero, List.set_cons_succ]
              refine wpAnyH_ready (rs := [4]) (by kernel_rfl) (by simp) ?_
              refine AllReadyH.cons rfl ?_ AllReadyH.nil
              have HSc := Lib.hid (slPc w9 c)
              have HLb := Lib.hid (HL9.out.any ((Fr.refl w9 NoneS).alloc (.cells #[.bool c.j, .int .u8 c.b, .int .i64 c.l, .int .i64 c.r, .int .u32 c.k] TPc)))
              have cqb := (World.cell?_alloc_some w9 ⟨q1, 0, none⟩ (.cells #[.bool c.j, .int .u8 c.b, .int .i64 c.l, .int .i64 c.r, .int .u32 c.k] TPc) (by rw [cq9]; rfl)).trans cq9
              intro K hK
              go_simp
              refine hK.out _ _ trivial (fun hHeld => ?_)
              clear hK K hHeld
              try simp only [Act.put, List.getElem_toArray, List.getElem_cons_succ, List.getElem_cons_zero, List.setIfInBounds_toArray, List.set_cons_zero, List.set_cons_succ]
              refine wpAnyH_ready (rs := [5]) (by kernel_rfl) (by simp) ?_
              refine AllReadyH.cons rfl ?_ AllReadyH.nil
              intro K hK
              refine step_append_sl _ encP (by rfl) (.tmp 36) (.tmp 39) 25 (by rfl) B TPc i1 (.agg #[.bool false, .int .u8 0, .int .i64 0, .int .i64 0, .int .u32 0]) 5 32 Try.underlying25 hi1 hx0 hx1 hx2 rfl (by decide) xv _ _ (by rfl) HLb.out.xo (.slice (some ⟨w9.heap.size, 0, none⟩) 1 1) [c] (by rfl) HSc.out encP_len encP_one1 (by have := Hlx.out; simp only [maxLen, List.length_cons, List.length_nil]; omega) (by have := Hlx.out; simp only [List.length_cons, List.length_nil]; omega) HLb.out.hB.2.2.2.2 ?_
              intro va wa ho hf hat
              have ho2 : wa.ownsRow B TPc 5 va ((l.map (·.2)) ++ [c]).length (((l.map (·.2)) ++ [c]).flatMap encP) := by
                rw [List.length_append, List.flatMap_append]; exact ho
              obtain ⟨Av, nv, cv, rfl⟩ : ∃ A n c, va = .slice A n c := by
                obtain ⟨A, c, h⟩ := SL.form (SL.of_own (enc := encP) ho2 rfl)
                exact ⟨A, _, c, h⟩
              have Ho := Lib.hid ho2
              have Hf := Lib.hid hf
              have cqa : wa.cell? ⟨q1, 0, none⟩ = some xv := (hf.cell (p := ⟨q1, 0, none⟩) HLb.out.b1.lt (fun e => by have := (HLb.out.xo.lt q1 e).1; have := HLb.out.hB; omega)).trans cqb
              have zqa : wa.frozen? ⟨q1, 0, none⟩ = false := (HLb.out.b1.fr hf (fun e => by have := (HLb.out.xo.lt q1 e).1; have := HLb.out.hB; omega)).frozen 0
              clear ho ho2 hf hat
              refine hK.out _ _ trivial (fun hHeld => ?_)
              clear hK K hHeld
              try simp only [Act.put, List.getElem_toArray, List.getElem_cons_succ, List.getElem_cons_zero, List.setIfInBounds_toArray, List.set_cons_zero, List.set_cons_succ]
              refine wpAnyH_take (i := 6) (v := .pointer (some ⟨q1, 0, none⟩)) rfl (by kernel_rfl) (by kernel_rfl) (by kernel_rfl) (fun c a w h => qp_put (by decide) h) (Or.inl ⟨by kernel_rfl, ?_⟩) trivial ?_
              focus (intro w hSw; go_simp)
              try simp only [Act.put, List.getElem_toArray, List.getElem_cons_succ, List.getElem_cons_zero, List.setIfInBounds_toArray, List.set_cons_zero, List.set_cons_succ]
              refine wpAnyH_ready (rs := [7]) (by kernel_rfl) (by simp) ?_
              refine AllReadyH.cons rfl ?_ AllReadyH.nil
              intro K hK
              go_simp
              refine hK.out _ _ trivial (fun hHeld => ?_)
              clear hK K hHeld
              try simp only [Act.put, List.getElem_toArray, List.getElem_cons_succ, List.getElem_cons_zero, List.setIfInBounds_toArray, List.set_cons_zero, List.set_cons_succ]
              refine wpAnyH_done (by kernel_rfl) ?_ _
              have HLn := Lib.hid (HLb.out.piece (xv' := .slice Av nv cv) (c := c) Hf.out Ho.out)
              generalize World.setCell _ _ _ = wn at HLn ⊢
              clear cqa zqa cqb cq9 Ho Hf HSc HLb
              go_wp2_with fail
              go_roundg (gk - 1)
              case measure => have := HK.out; omega
              case rel =>
                refine ⟨k + 1, _, .slice Av nv cv, l ++ [(s, c)], s', rfl, by go_num, ⟨by have := Hk.out; omega, by have := HK.out; have := Hk.out; omega⟩, by rw [List.map_append, List.map_append]; exact HLn.out, by rw [List.length_append, HP.out.2.1]; rfl, Hs'.out, ?_⟩
                rw [HP.out.2.2.2, show m - k = (m - (k + 1)) + 1 by have := Hk.out; omega, piecesR_succ, HRp.out]
            · intro K hK
              go_simp
              go_at_call 55
              refine HCp.out.mono ?_
              intro e w9 h
              obtain ⟨rfl, hf, hrd⟩ := h
              have HL9 := Lib.hid (HLd.out.step hf hrd)
              have cq9 : w9.cell? ⟨q1, 0, none⟩ = some xv := by rw [HL9.out.b1.cell]; rfl
              clear hf hrd
              unfold agP
              refine hK.out _ _ trivial (fun hHeld => ?_)
              clear hK K hHeld
              try simp only [Act.put, List.getElem_toArray, List.getElem_cons_succ, List.getElem_cons_zero, List.setIfInBounds_toArray, List.set_cons_zero, List.set_cons_succ]
              refine wpAnyH_ready (rs := [1, 4]) (by kernel_rfl) (by simp) ?_
              refine AllReadyH.cons rfl ?_ (AllReadyH.cons rfl ?_ AllReadyH.nil)
              · intro K hK
                go_simp
                refine hK.out _ _ trivial (fun hHeld => ?_)
                clear hK K hHeld
                try simp only [Act.put, List.getElem_toArray, List.getElem_cons_succ, List.getElem_cons_zero, List.setIfInBounds_toArray, List.set_cons_zero, List.set_cons_succ]
                refine wpAnyH_ready (rs := [4]) (by kernel_rfl) (by simp) ?_
                refine AllReadyH.cons rfl ?_ AllReadyH.nil
                have HSc := Lib.hid (slPc w9 c)
                have HLb := Lib.hid (HL9.out.any ((Fr.refl w9 NoneS).alloc (.cells #[.bool c.j, .int .u8 c.b, .int .i64 c.l, .int .i64 c.r, .int .u32 c.k] TPc)))
                have cqb := (World.cell?_alloc_some w9 ⟨q1, 0, none⟩ (.cells #[.bool c.j, .int .u8 c.b, .int .i64 c.l, .int .i64 c.r, .int .u32 c.k] TPc) (by rw [cq9]; rfl)).trans cq9
                intro K hK
                go_simp
                refine hK.out _ _ trivial (fun hHeld => ?_)
                clear hK K hHeld
                try simp only [Act.put, List.getElem_toArray, List.getElem_cons_succ, List.getElem_cons_zero, List.setIfInBounds_toArray, List.set_cons_zero, List.set_cons_succ]
                refine wpAnyH_ready (rs := [5]) (by kernel_rfl) (by simp) ?_
                refine AllReadyH.cons rfl ?_ AllReadyH.nil
                intro K hK
                refine step_append_sl _ encP (by rfl) (.tmp 36) (.tmp 39) 25 (by rfl) B TPc i1 (.agg #[.bool false, .int .u8 0, .int .i64 0, .int .i64 0, .int .u32 0]) 5 32 Try.underlying25 hi1 hx0 hx1 hx2 rfl (by decide) xv _ _ (by rfl) HLb.out.xo (.slice (some ⟨w9.heap.size, 0, none⟩) 1 1) [c] (by rfl) HSc.out encP_len encP_one1 (by have := Hlx.out; simp only [maxLen, List.length_cons, List.length_nil]; omega) (by have := Hlx.out; simp only [List.length_cons, List.length_nil]; omega) HLb.out.hB.2.2.2.2 ?_
                intro va wa ho hf hat
                have ho2 : wa.ownsRow B TPc 5 va ((l.map (·.2)) ++ [c]).length (((l.map (·.2)) ++ [c]).flatMap encP) := by
                  rw [List.length_append, List.flatMap_append]; exact ho
                obtain ⟨Av, nv, cv, rfl⟩ : ∃ A n c, va = .slice A n c := by
                  obtain ⟨A, c, h⟩ := SL.form (SL.of_own (enc := encP) ho2 rfl)
                  exact ⟨A, _, c, h⟩
                have Ho := Lib.hid ho2
                have Hf := Lib.hid hf
                have cqa : wa.cell? ⟨q1, 0, none⟩ = some xv := (hf.cell (p := ⟨q1, 0, none⟩) HLb.out.b1.lt (fun e => by have := (HLb.out.xo.lt q1 e).1; have := HLb.out.hB; omega)).trans cqb
                have zqa : wa.frozen? ⟨q1, 0, none⟩ = false := (HLb.out.b1.fr hf (fun e => by have := (HLb.out.xo.lt q1 e).1; have := HLb.out.hB; omega)).frozen 0
                clear ho ho2 hf hat
                refine hK.out _ _ trivial (fun hHeld => ?_)
                clear hK K hHeld
                try simp only [Act.put, List.getElem_toArray, List.getElem_cons_succ, List.getElem_cons_zero, List.setIfInBounds_toArray, List.set_cons_zero, List.set_cons_succ]
                refine wpAnyH_take (i := 6) (v := .pointer (some ⟨q1, 0, none⟩)) rfl (by kernel_rfl) (by kernel_rfl) (by kernel_rfl) (fun c a w h => qp_put (by decide) h) (Or.inl ⟨by kernel_rfl, ?_⟩) trivial ?_
                focus (intro w hSw; go_simp)
                try simp only [Act.put, List.getElem_toArray, List.getElem_cons_succ, List.getElem_cons_zero, List.setIfInBounds_toArray, List.set_cons_zero, List.set_cons_succ]
                refine wpAnyH_ready (rs := [7]) (by kernel_rfl) (by simp) ?_
                refine AllReadyH.cons rfl ?_ AllReadyH.nil
                intro K hK
                go_simp
                refine hK.out _ _ trivial (fun hHeld => ?_)
                clear hK K hHeld
                try simp only [Act.put, List.getElem_toArray, List.getElem_cons_succ, List.getElem_cons_zero, List.setIfInBounds_toArray, List.set_cons_zero, List.set_cons_succ]
                refine wpAnyH_done (by kernel_rfl) ?_ _
                have HLn := Lib.hid (HLb.out.piece (xv' := .slice Av nv cv) (c := c) Hf.out Ho.out)
                generalize World.setCell _ _ _ = wn at HLn ⊢
                clear cqa zqa cqb cq9 Ho Hf HSc HLb
                go_wp2_with fail
                go_roundg (gk - 1)
                case measure => have := HK.out; omega
                case rel =>
                  refine ⟨k + 1, _, .slice Av nv cv, l ++ [(s, c)], s', rfl, by go_num, ⟨by have := Hk.out; omega, by have := HK.out; have := Hk.out; omega⟩, by rw [List.map_append, List.map_append]; exact HLn.out, by rw [List.length_append, HP.out.2.1]; rfl, Hs'.out, ?_⟩
                  rw [HP.out.2.2.2, show m - k = (m - (k + 1)) + 1 by have := Hk.out; omega, piecesR_succ, HRp.out]
              · have HSc := Lib.hid (slPc w9 c)
                have HLb := Lib.hid (HL9.out.any ((Fr.refl w9 NoneS).alloc (.cells #[.bool c.j, .int .u8 c.b, .int .i64 c.l, .int .i64 c.r, .int .u32 c.k] TPc)))
                have cqb := (World.cell?_alloc_some w9 ⟨q1, 0, none⟩ (.cells #[.bool c.j, .int .u8 c.b, .int .i64 c.l, .int .i64 c.r, .int .u32 c.k] TPc) (by rw [cq9]; rfl)).trans cq9
                intro K hK
                go_simp
                refine hK.out _ _ trivial (fun hHeld => ?_)
                clear hK K hHeld
                try simp only [Act.put, List.getElem_toArray, List.getElem_cons_succ, List.getElem_cons_zero, List.setIfInBounds_toArray, List.set_cons_zero, List.set_cons_succ]
                refine wpAnyH_ready (rs := [1]) (by kernel_rfl) (by simp) ?_
                refine AllReadyH.cons rfl ?_ AllReadyH.nil
                intro K hK
                go_simp
                refine hK.out _ _ trivial (fun hHeld => ?_)
                clear hK K hHeld
                try simp only [Act.put, List.getElem_toArray, List.getElem_cons_succ, List.getElem_cons_zero, List.setIfInBounds_toArray, List.set_cons_zero, List.set_cons_succ]
                refine wpAnyH_ready (rs := [5]) (by kernel_rfl) (by simp) ?_
                refine AllReadyH.cons rfl ?_ AllReadyH.nil
                intro K hK
                refine step_append_sl _ encP (by rfl) (.tmp 36) (.tmp 39) 25 (by rfl) B TPc i1 (.agg #[.bool false, .int .u8 0, .int .i64 0, .int .i64 0, .int .u32 0]) 5 32 Try.underlying25 hi1 hx0 hx1 hx2 rfl (by decide) xv _ _ (by rfl) HLb.out.xo (.slice (some ⟨w9.heap.size, 0, none⟩) 1 1) [c] (by rfl) HSc.out encP_len encP_one1 (by have := Hlx.out; simp only [maxLen, List.length_cons, List.length_nil]; omega) (by have := Hlx.out; simp only [List.length_cons, List.length_nil]; omega) HLb.out.hB.2.2.2.2 ?_
                intro va wa ho hf hat
                have ho2 : wa.ownsRow B TPc 5 va ((l.map (·.2)) ++ [c]).length (((l.map (·.2)) ++ [c]).flatMap encP) := by
                  rw [List.length_append, List.flatMap_append]; exact ho
                obtain ⟨Av, nv, cv, rfl⟩ : ∃ A n c, va = .slice A n c := by
                  obtain ⟨A, c, h⟩ := SL.form (SL.of_own (enc := encP) ho2 rfl)
                  exact ⟨A, _, c, h⟩
                have Ho := Lib.hid ho2
                have Hf := Lib.hid hf
                have cqa : wa.cell? ⟨q1, 0, none⟩ = some xv := (hf.cell (p := ⟨q1, 0, none⟩) HLb.out.b1.lt (fun e => by have := (HLb.out.xo.lt q1 e).1; have := HLb.out.hB; omega)).trans cqb
                have zqa : wa.frozen? ⟨q1, 0, none⟩ = false := (HLb.out.b1.fr hf (fun e => by have := (HLb.out.xo.lt q1 e).1; have := HLb.out.hB; omega)).frozen 0
                clear ho ho2 hf hat
                refine hK.out _ _ trivial (fun hHeld => ?_)
                clear hK K hHeld
                try simp only [Act.put, List.getElem_toArray, List.getElem_cons_succ, List.getElem_cons_zero, List.setIfInBounds_toArray, List.set_cons_zero, List.set_cons_succ]
                refine wpAnyH_take (i := 6) (v := .pointer (some ⟨q1, 0, none⟩)) rfl (by kernel_rfl) (by kernel_rfl) (by kernel_rfl) (fun c a w h => qp_put (by decide) h) (Or.inl ⟨by kernel_rfl, ?_⟩) trivial ?_
                focus (intro w hSw; go_simp)
                try simp only [Act.put, List.getElem_toArray, List.getElem_cons_succ, List.getElem_cons_zero, List.setIfInBounds_toArray, List.set_cons_zero, List.set_cons_succ]
                refine wpAnyH_ready (rs := [7]) (by kernel_rfl) (by simp) ?_
                refine AllReadyH.cons rfl ?_ AllReadyH.nil
                intro K hK
                go_simp
                refine hK.out _ _ trivial (fun hHeld => ?_)
                clear hK K hHeld
                try simp only [Act.put, List.getElem_toArray, List.getElem_cons_succ, List.getElem_cons_zero, List.setIfInBounds_toArray, List.set_cons_zero, List.set_cons_succ]
                refine wpAnyH_done (by kernel_rfl) ?_ _
                have HLn := Lib.hid (HLb.out.piece (xv' := .slice Av nv cv) (c := c) Hf.out Ho.out)
                generalize World.setCell _ _ _ = wn at HLn ⊢
                clear cqa zqa cqb cq9 Ho Hf HSc HLb
                go_wp2_with fail
                go_roundg (gk - 1)
                case measure => have := HK.out; omega
                case rel =>
                  refine ⟨k + 1, _, .slice Av nv cv, l ++ [(s, c)], s', rfl, by go_num, ⟨by have := Hk.out; omega, by have := HK.out; have := Hk.out; omega⟩, by rw [List.map_append, List.map_append]; exact HLn.out, by rw [List.length_append, HP.out.2.1]; rfl, Hs'.out, ?_⟩
                  rw [HP.out.2.2.2, show m - k = (m - (k + 1)) + 1 by have := Hk.out; omega, piecesR_succ, HRp.out]
        · have hk1 : decide (k < m) = false := decide_eq_false hk
          have hk2 : decide ((k : Int) < (m : Int)) = false := decide_eq_false (by omega)
          obtain rfl : k = m := by have := HK.out; omega
          have Hpr := Lib.hid (show piecesR bs k a = .ok l s by
            have h := HP.out.2.2.2
            rw [Nat.sub_self] at h
            rw [h]
            simp [piecesR, joinR])
          have HLz := Lib.hid HP.out.1
          have Hs := Lib.hid HP.out.2.2.1
          have Hll := Lib.hid (show l.length ≤ 4096 by rw [HP.out.2.1]; omega)
          have Hpo := Lib.hid (piecesR_ok Hb.out HA.out Hpr.out)
          have Hre := Lib.hid (show readE bs = endE bs l s by rw [Hr2.out, Hpr.out])
          clear HP HK HL5 Hr2 hk hk1 hk2 hm
          go_upto_region 11 with (fail)
          obtain ⟨re, hre⟩ : ∃ r, endR bs s = r := ⟨_, rfl⟩
          have HCe := Lib.hid (end_any HLz.out.rd (HSl.out _ HLz.out.gr) Hb.out Hs.out hl re hre)
          have HR := Lib.hid hre
          clear hre
          cases re with
          | bad E x =>
            have Hrx := Lib.hid (show readE bs = ([], x, E) by rw [Hre.out, endE_eq, HR.out])
            go_wp2_with (go_at_call 56; refine HCe.out.mono ?_; intro e w5 h; obtain ⟨rfl, hf⟩ := h; have HP := Lib.hid (HLz.out.bad hf Hrx.out); clear hf)
            exact ⟨rfl, rfl, rfl, rfl, HP.out⟩
          | ok u1 s1 =>
          have Hss := Lib.hid (show s1 = s by
            have h := HR.out
            unfold endR at h
            split at h
            · cases h
            · split at h
              · cases h
              · split at h
                · cases h
                · injection h with h1 h2; exact h2.symm)
          have Hrx := Lib.hid (show readE bs = if (checkE (l.map (·.2))).1 ≠ 0 then ([], (l.map (·.1)).getD (checkE (l.map (·.2))).2 s, 11) else (l.map (·.2), 0, 0) by rw [Hre.out, endE_eq, HR.out])
          go_upto_region 12 with (go_at_call 56; refine HCe.out.mono ?_; intro e w5 h; obtain ⟨rfl, hf, hrd⟩ := h; rw [Hss.out] at hrd; have HL5 := Lib.hid (HLz.out.step hf hrd); clear hf hrd)
          have cq5 : w5.cell? ⟨q1, 0, none⟩ = some xv := by rw [HL5.out.b1.cell]; rfl
          have HCk := Lib.hid (check_any (SL.of_own (enc := encP) HL5.out.xo rfl) (fun q hq => (Hpo.out.2.2.1 q hq).2) (by rw [List.length_map]; have := Hll.out; omega))
          have Hcl := Lib.hid (check_le (l.map (·.2)))
          go_upto_region 13 with (go_at_call 27; refine HCk.out.mono ?_; rintro e w6 ⟨rfl, hg⟩; have HL6 := Lib.hid (HL5.out.any hg); clear hg)
          clear cq5 HCk HCe
          generalize (checkE (l.map (·.2))).1 = E at Hrx ⊢
          generalize (checkE (l.map (·.2))).2 = at_ at Hrx Hcl ⊢
          rw [List.length_map] at Hcl
          by_cases hE : E = 0
          · subst hE
            have Hrz := Lib.hid (show readE bs = (l.map (·.2), 0, 0) by rw [Hrx.out, if_neg (by simp)])
            have cq6 : w6.cell? ⟨q1, 0, none⟩ = some xv := by rw [HL6.out.b1.cell]; rfl
            have ca6 : w6.cell? ⟨q1 + 1, 0, none⟩ = some (.int .i64 0) := by rw [HL6.out.b2.cell]; rfl
            have ce6 : w6.cell? ⟨q1 + 1 + 1, 0, none⟩ = some (.int .i64 0) := by rw [HL6.out.b3.cell]; rfl
            have zq6 : w6.frozen? ⟨q1, 0, none⟩ = false := HL6.out.b1.frozen 0
            have za6 : w6.frozen? ⟨q1 + 1, 0, none⟩ = false := HL6.out.b2.frozen 0
            have ze6 : w6.frozen? ⟨q1 + 1 + 1, 0, none⟩ = false := HL6.out.b3.frozen 0
            obtain ⟨Av, nv, cv, rfl⟩ : ∃ A n c, xv = .slice A n c := by
              obtain ⟨A, c, h⟩ := SL.form (SL.of_own (enc := encP) HL6.out.xo rfl)
              exact ⟨A, _, c, h⟩
            go_wp2_with fail
            show Leaves _ _ _ _ _ _ _
            refine leaves_cons (f := 53) (args := #[.pointer (some ⟨q1, 0, none⟩), .pointer (some ⟨q1 + 1, 0, none⟩), .pointer (some ⟨q1 + 1 + 1, 0, none⟩)]) (by simp) (by simp [go_sem]) ?_
            refine (catch_idle _ _ _ _).mono ?_
            rintro e u' w' ⟨rfl, rfl, hg⟩
            have n12 : q1 ≠ q1 + 1 := by omega
            have n13 : q1 ≠ q1 + 1 + 1 := by omega
            have n23 : q1 + 1 ≠ q1 + 1 + 1 := by omega
            have z1 := ((HL6.out.b1.set_ 0 (.slice Av nv cv)).far (p := ⟨q1 + 1, 0, none⟩) n12 (.int .i64 0)).far (p := ⟨q1 + 1 + 1, 0, none⟩) n13 (.int .i64 0)
            have z2 := ((HL6.out.b2.far (p := ⟨q1, 0, none⟩) n12.symm (.slice Av nv cv)).set_ 0 (.int .i64 0)).far (p := ⟨q1 + 1 + 1, 0, none⟩) n23 (.int .i64 0)
            have z3 := ((HL6.out.b3.far (p := ⟨q1, 0, none⟩) n13.symm (.slice Av nv cv)).far (p := ⟨q1 + 1, 0, none⟩) n23.symm (.int .i64 0)).set_ 0 (.int .i64 0)
            have hset : Fr w6 (((w6.setCell ⟨q1, 0, none⟩ (.slice Av nv cv)).setCell ⟨q1 + 1, 0, none⟩ (.int .i64 0)).setCell ⟨q1 + 1 + 1, 0, none⟩ (.int .i64 0)) (fun k => k = q1 ∨ k = q1 + 1 ∨ k = q1 + 1 + 1) :=
              (((Fr.refl w6 (fun k => k = q1 ∨ k = q1 + 1 ∨ k = q1 + 1 + 1)).setCell (p := ⟨q1, 0, none⟩) (fun _ => .inl rfl) _).setCell (p := ⟨q1 + 1, 0, none⟩) (fun _ => .inr (.inl rfl)) _).setCell (p := ⟨q1 + 1 + 1, 0, none⟩) (fun _ => .inr (.inr rfl)) _
            have hB := HL6.out.hB
            have hx := hg.owns (hset.owns HL6.out.xo (fun k hk e => by have := (HL6.out.xo.lt k hk).1; omega)) (fun _ _ h => h)
            refine ⟨_, res_get _ w' q1 (q1 + 1) (q1 + 1 + 1) _ 0 0 rfl rfl rfl (z1.fr hg (fun h => h)) (z2.fr hg (fun h => h)) (z3.fr hg (fun h => h)), ?_⟩
            have hw := Hq1.out
            refine ⟨_, by rw [Hrz.out]; rfl, by rw [Hrz.out]; exact own_base hx (by omega), (HL6.out.gr.trans hset (fun i hi h => by omega)).trans hg (fun _ _ h => h)⟩
          · have hE1 : (E != 0) = true := bne_iff_ne.2 hE
            have Hrz := Lib.hid (show readE bs = ([], (l.map (·.1)).getD at_ s, 11) by rw [Hrx.out, if_pos hE])
            have c1 : w6.cell? ⟨p, 1, none⟩ = some (.int .i64 (s : Int)) := by rw [Blk.cell HL6.out.rd]; rfl
            obtain ⟨j0, hj0, hy0, hy1, hy2⟩ := info_parts (show (Try.prog.info? 3).map (fun i => (i.zero, i.size, i.bytes)) = some (some (.int .i64 0), 1, 8) by kernel_rfl)
            have Hone := Lib.hid (show SL encN (w6.alloc (.cells #[.int .i64 (s : Int)] 3)) (.slice (some ⟨w6.heap.size, 0, none⟩) 1 1) [s] from by
              refine ⟨_, 1, rfl, by simp, fun _ => ⟨w6.heap.size, 0, rfl, by simp, fun i u hu => ?_⟩⟩
              rw [Nat.zero_add, World.cell?_alloc_new]
              simpa [encN] using hu)
            have HLa := Lib.hid (HL6.out.any ((Fr.refl w6 NoneS).alloc (.cells #[.int .i64 (s : Int)] 3)))
            have Hlen := Lib.hid (show (l.map (·.1)).length ≤ 4096 by rw [List.length_map]; exact Hll.out)
            clear hE
            go_upto_region 15 with (
              at_builtin
              refine wpList_append_sl _ encN rfl _ _ 60 rfl B 3 j0 (.int .i64 0) 1 8 Try.underlying60 hj0 hy0 hy1 hy2 rfl (by decide) pv _ _ rfl HLa.out.po (.slice (some ⟨w6.heap.size, 0, none⟩) 1 1) [s] rfl Hone.out (fun _ => rfl) (by intro x u hu; simp [encN] at hu; subst hu; rfl) (by have := Hlen.out; simp only [maxLen, List.length_cons, List.length_nil]; omega) (by have := Hlen.out; simp only [List.length_cons, List.length_nil]; omega) HLa.out.hB.2.2.2.2 ?_
              intro v8 w8 ho hf hat
              have HL8 := Lib.hid (HLa.out.place (pv' := v8) (s := s) hf (by rw [List.length_append, List.flatMap_append]; exact ho))
              clear ho hf hat)
            have HSp := Lib.hid (SL.of_own (enc := encN) HL8.out.po rfl)
            obtain ⟨Ap, cp, rfl⟩ := SL.form HSp.out
            have hat : at_ < (l.map (·.1) ++ [s]).length := by rw [List.length_append, List.length_map]; have := Hcl.out; simp; omega
            obtain ⟨b8, o8, rfl, hb8, hc8⟩ := HSp.out.at_ (s := 1) (fun _ => rfl) rfl hat
            have hd : w8.cell? ⟨b8, o8 + at_, none⟩ = some (.int .i64 ((((l.map (·.1)).getD at_ s : Nat)) : Int)) := by
              have := hc8 0 (by omega)
              rw [Nat.add_zero, Nat.mul_one] at this
              rw [this]
              have e : (l.map (·.1) ++ [s])[at_] = (l.map (·.1)).getD at_ s := by
                rw [List.getD_eq_getElem?_getD]
                by_cases h : at_ < (l.map (·.1)).length
                · rw [List.getElem_append_left h, List.getElem?_eq_getElem h]; rfl
                · have h2 := Hcl.out
                  rw [List.length_map] at h
                  obtain rfl : at_ = l.length := by omega
                  rw [List.getElem?_eq_none (by rw [List.length_map]; exact Nat.le_refl _)]
                  simp
              rw [e]; rfl
            have hat2 : (at_ : Int) < ((l.map (·.1) ++ [s]).length : Int) := by omega
            obtain ⟨nn, hnn⟩ : ∃ n, (l.map (·.1) ++ [s]).length = n := ⟨_, rfl⟩
            rw [hnn] at hat2 ⊢
            have HPx := Lib.hid (HL8.out.pp Hrz.out)
            generalize (l.map (·.1)).getD at_ s = xx at hd HPx
            clear hc8 hat hnn c1
            go_wp2_with fail
            exact ⟨rfl, rfl, rfl, rfl, HPx.out⟩
end Vf
end Go.Proofs.Ytlodbhlidgepfaa
