/- Ranges over functions whose rounds are told of what they are handed: the law; the iterators of vocab.All. -/
import Derived.RangeFuncNested
import Derived.RangeFuncBound
import Derived.RangeFuncCalls
import Derived.RangeFuncLeaves
import Derived.Shelf.Abstract
import Derived.Shelf.RegionOpen
import Derived.WalkKit
import Derived.OwnWalkIn
import Derived.TacticsInMore
import Derived.LoopNIn
import Derived.LoopIn
import Derived.Test.YtdogccgebgdlmaaVEx
import Derived.Test.YtdogccgebgdlmaaVGe
set_option linter.unusedVariables false
set_option linter.unusedSimpArgs false
namespace Go.Proofs.Ytdogccgebgdlmaa
open Go.RowKit Go.Shelf
attribute [local go_sem] Oper.semAt_some
namespace Voc

/-- what a call of an iterator gives, where each round may know Rd of what it is handed -/
def SeqR {α : Type} (n : Nat) (P : Program) (g : Nat) (lb : Array Value) (encs : α → Array Value) (n₀ : Nat) (Rd : List α → α → World → Prop) (S Sp : List α → Prop) (w : World) : Prop :=
  ∀ (l : Nat) (J Jx : List α → World → Prop) (W : World), Below w.heap.size w W → AbidesFrom W.heap.size J → AbidesFrom W.heap.size Jx →
    (∀ pre x W1, J pre W1 → Rd pre x W1 → YieldAt Fence.wide (n - 1) P l (encs x) W1 fun e W' =>
      (e = .returned (.bool true) ∧ J (pre ++ [x]) W' ∧ Below n₀ W1 W') ∨ (e = .returned (.bool false) ∧ Jx (pre ++ [x]) W')) →
    J [] W →
    CallsIn Fence.wide n P g (#[.func (.yield l) #[] #[]] ++ lb) W fun e W' => (∃ v, e = .returned v) ∧ ((∃ xs, S xs ∧ J xs W') ∨ (∃ pre, Sp pre ∧ Jx pre W'))

theorem rangeFunc_told {n : Nat} {P : Program} {α : Type} {g : Operand} {ps : Array Tmp} {assign body : Code} {Q : Exit → Act → World → Prop} {a : Act} {w : World}
    (h1 : 1 ≤ n) {gf : Nat} {lb : Array Value} (hg : a.eval g = .func (.func gf) #[] lb) (eg : ∀ args w, (callFunc gf args).run P w = .ok (.enter gf args) w)
    {encs : α → Array Value} {n₀ : Nat} {Rd : List α → α → World → Prop} {S Sp : List α → Prop} (hseq : SeqR (n - 1) P gf lb encs n₀ Rd S Sp w)
    (hn₀ : n₀ ≤ w.heap.size) (hps : ∀ x, (encs x).size = ps.size)
    (hRd : ∀ pre x W l o o', Rd pre x W → W.heap[l]? = some o → o.isCells = false → Rd pre x (W.putObj l o'))
    (I : List α → World → Prop) (Ix : Code → List α → World → Prop) (hI : OwnFrom w.heap.size I) (hIx : ∀ c, OwnFrom w.heap.size (Ix c)) (h0 : I [] w) (a₁ : α → Act)
    (hassign : ∀ (l : Nat) (x : α) (W : World) (K : Act → World → Prop), K (a₁ x) W →
      assign.wpIn (Fence.wide.inRound l) (n - 1 - 1) P (Exit.then K (fun _ _ _ => False)) { tmps := (ps.zip (encs x)).foldl (fun t (p, v) => t.setIfInBounds p v) a.tmps, defers := [] } W)
    (hbody : ∀ (l : Nat) (pre : List α) (x : α) (W : World), I pre W → Rd pre x W → body.wpIn (Fence.wide.inRound l) (n - 1 - 1) P (ownPostG w.heap.size (Below n₀) I Ix (pre ++ [x]) W) (a₁ x) W)
    (hdone : ∀ (D : Nat) (xs : List α) (W : World), w.heap.size ≤ D → S xs → I xs W → W.heap[D]? = some (.deferred (some [])) → Q .normal { a with defers := { target := .collected D, args := #[] } :: a.defers } W)
    (hstop : ∀ (D : Nat) (c : Code) (pre : List α) (W : World), w.heap.size ≤ D → Sp pre → Ix c pre W → W.heap[D]? = some (.deferred (some [])) → c.wpIn Fence.wide n P Q { a with defers := { target := .collected D, args := #[] } :: a.defers } W) :
    (Code.rangeFunc g ps assign body).wpIn Fence.wide n P Q a w := by
  refine wpIn_rangeFunc ?_
  intro fn hfn
  obtain ⟨rec, hrec⟩ : ∃ rec : LoopState → Option Code → Loop, rec = fun st pe => { state := st, pending := pe, fn, tmps := a.tmps, params := ps, assign, body, defers := w.heap.size } := ⟨_, rfl⟩
  generalize hW1 : (w.alloc (.deferred (some []))).alloc (.loop (rec .ready none)) = W1
  obtain ⟨lo, hlo⟩ : ∃ lo, lo = w.heap.size + 1 := ⟨_, rfl⟩
  have hsz : W1.heap.size = w.heap.size + 2 := by rw [← hW1]; simp
  have hL1 : W1.heap[lo]? = some (.loop (rec .ready none)) := by
    rw [← hW1, hlo]; have := World.alloc_heap_new (w.alloc (.deferred (some []))) (.loop (rec .ready none)); rwa [World.size_alloc] at this
  have hK1 : W1.heap[w.heap.size]? = some (.deferred (some [])) := by
    rw [← hW1]; exact (Below.heap_alloc _ _ _ (by simp)).trans (World.alloc_heap_new w _)
  have hI1 : I [] W1 := by rw [← hW1]; exact hI.alloc _ (hI.alloc _ h0)
  have hb1 : Below w.heap.size w W1 := by rw [← hW1]; exact ((Below.refl _ w).alloc (Nat.le_refl _) _).alloc (by simp) _
  refine ⟨lo, [{ target := .collected w.heap.size, args := #[] }], W1, { target := .fn (.func gf) lb, args := #[.func (.yield lo) #[] #[]] }, W1, gf,
    #[.func (.yield lo) #[] #[]] ++ lb, W1, ?_, ?_, fun _ _ => trivial, ?_, fun _ => h1, ?_⟩
  · rw [← hW1, hrec, hlo]; exact run_enterLoop_outer _ _ _ _ _
  · simp only [resolve, hg]
    simp [go_sem]
  · simp [invoke, go_sem, eg]
  have hlt0 : w.heap.size < lo := by omega
  have hle0 : w.heap.size ≤ lo := by omega
  have hbelow : ∀ (W : World) (o : Obj), Below n₀ W (W.putObj lo o) := fun W o =>
    ⟨rfl, rfl, rfl, by simp, fun k hk => World.putObj_heap_other (by omega)⟩
  -- the turn of the loop's own record
  have turn : ∀ (W : World) (o o' : Obj), W.heap[lo]? = some o → o.isCells = false → W.heap[w.heap.size]? = some (.deferred (some [])) →
      (W.putObj lo o').heap[lo]? = some o' ∧ (W.putObj lo o').heap[w.heap.size]? = some (.deferred (some [])) ∧ (∀ pre, I pre W → I pre (W.putObj lo o')) ∧ (∀ c pre, Ix c pre W → Ix c pre (W.putObj lo o')) :=
    fun W o o' hl ho hk => ⟨World.putObj_heap_same (Array.getElem?_eq_some_iff.1 hl).1, (World.putObj_heap_other (by omega)).trans hk, fun _ h => hI.putObj _ h hle0 hl ho, fun c _ h => (hIx c).putObj _ h hle0 hl ho⟩
  have walks : ∀ {A B : World} {row : Option Nat} {k : Nat} {o : Obj}, A.grownBy B row → (∀ r, row = some r → W1.heap.size ≤ r ∧ ∃ o : Obj, A.heap[r]? = some o ∧ o.isWalk = true) → A.heap[k]? = some o → o.isWalk = false → B.heap[k]? = some o :=
    fun hg' hr hk ho => (grownBy_keeps hg' (fun r e => (hr r e).2) hk ho).trans hk
  have cells : ∀ {A : World} {row : Option Nat}, (∀ r, row = some r → W1.heap.size ≤ r ∧ ∃ o : Obj, A.heap[r]? = some o ∧ o.isWalk = true) → (∀ r, row = some r → w.heap.size ≤ r ∧ ∃ o : Obj, A.heap[r]? = some o ∧ o.isCells = false) :=
    fun hr r e => by obtain ⟨hB, o, ho, hw⟩ := hr r e; exact ⟨by omega, o, ho, Obj.not_cells_of_walk hw⟩
  refine (hseq lo
    (fun pre W => I pre W ∧ W.heap[lo]? = some (.loop (rec .ready none)) ∧ W.heap[w.heap.size]? = some (.deferred (some [])))
    (fun pre W => ∃ c, Ix c pre W ∧ W.heap[lo]? = some (.loop (rec .done (some c))) ∧ W.heap[w.heap.size]? = some (.deferred (some [])))
    W1 hb1
    (fun s A B row hs hg' hr => ⟨hI s A B row hs.1 hg' (cells hr), walks hg' hr hs.2.1 rfl, walks hg' hr hs.2.2 rfl⟩)
    (fun s A B row hs hg' hr => hs.elim fun c h => ⟨c, hIx c s A B row h.1 hg' (cells hr), walks hg' hr h.2.1 rfl, walks hg' hr h.2.2 rfl⟩)
    ?_ ⟨hI1, hL1, hK1⟩).mono ?_
  · rintro pre x W ⟨hi, hl, hk⟩ hrd
    have hy := run_yield (P := P) (args := encs x) hl (by rw [hrec]; exact hps x)
    rw [hrec] at hy
    refine ⟨fn, _, assign, body, hy, roundIn_of_wpIn hfn (hassign _ x W _ ⟨_, run_beginRound hl (by rw [hrec]), ?_⟩)⟩
    obtain ⟨hl2, hk2, hi2, _⟩ := turn W _ (.loop { rec .ready none with state := .busy }) hl rfl hk
    refine wpIn_mono (hbody _ pre x _ (hi2 _ hi) (hRd _ _ _ _ _ _ hrd hl rfl)) ?_
    have fin : ∀ (jump : Option Code) (W3 : World), KeepsFrom w.heap.size (W.putObj lo (.loop { rec .ready none with state := .busy })) W3 →
        (Instr.endRound lo jump).run P W3 = .ok (.bool jump.isNone) (W3.putObj lo (.loop (rec (if jump.isNone then .ready else .done) jump))) ∧
        W3.heap[lo]? = some (.loop { rec .ready none with state := .busy }) ∧ W3.heap[w.heap.size]? = some (.deferred (some [])) := fun jump W3 hk3 => by
      have hl3 := hk3.same _ _ hle0 hl2 rfl
      have := run_endRound (P := P) jump hl3
      rw [hrec] at this ⊢
      exact ⟨this, by rw [hrec] at hl3; exact hl3, hk3.same _ _ (Nat.le_refl _) hk2 rfl⟩
    rintro e a3 W3 hp
    cases e with
    | normal =>
      obtain ⟨hk3, hkp3, hi3⟩ := hp
      obtain ⟨hr, hl3, hd3⟩ := fin none W3 hk3
      obtain ⟨hl4, hk4, hi4, _⟩ := turn W3 _ (.loop (rec .ready none)) hl3 rfl hd3
      exact ⟨_, _, hr, .inl ⟨rfl, ⟨hi4 _ hi3, hl4, hk4⟩, ((hbelow _ _).trans hkp3).trans (hbelow _ _)⟩⟩
    | ret =>
      obtain ⟨hr, hl3, hd3⟩ := fin (some .ret) W3 hp.1
      obtain ⟨hl4, hk4, _, hi4⟩ := turn W3 _ (.loop (rec .done (some .ret))) hl3 rfl hd3
      exact ⟨_, _, hr, .inr ⟨rfl, .ret, hi4 _ _ hp.2, hl4, hk4⟩⟩
    | exit id =>
      obtain ⟨hr, hl3, hd3⟩ := fin (some (.exit id)) W3 hp.1
      obtain ⟨hl4, hk4, _, hi4⟩ := turn W3 _ (.loop (rec .done (some (.exit id)))) hl3 rfl hd3
      exact ⟨_, _, hr, .inr ⟨rfl, .exit id, hi4 _ _ hp.2, hl4, hk4⟩⟩
    | goto t =>
      obtain ⟨hr, hl3, hd3⟩ := fin (some (.goto t)) W3 hp.1
      obtain ⟨hl4, hk4, _, hi4⟩ := turn W3 _ (.loop (rec .done (some (.goto t)))) hl3 rfl hd3
      exact ⟨_, _, hr, .inr ⟨rfl, .goto t, hi4 _ _ hp.2, hl4, hk4⟩⟩
    | panic ch => exact hp.elim
    | outgrown => exact hp.elim
  · rintro e W2 ⟨⟨v, rfl⟩, (⟨xs, hS, hi, hl, hk⟩ | ⟨pre, hSp, c, hi, hl, hk⟩)⟩
    · refine ⟨none, _, by have := run_endLoop (P := P) hl (by rw [hrec]; simp); rw [hrec] at this; exact this, ?_⟩
      exact hdone _ xs _ (Nat.le_refl _) hS (hI.putObj _ hi hle0 hl rfl) ((World.putObj_heap_other (by omega)).trans hk)
    · refine ⟨some c, _, by have := run_endLoop (P := P) hl (by rw [hrec]; simp); rw [hrec] at this; exact this, ?_⟩
      exact hstop _ c pre _ (Nat.le_refl _) hSp ((hIx c).putObj _ hi hle0 hl rfl) ((World.putObj_heap_other (by omega)).trans hk)

/-- what a round of vocab.All is handed -/
def RdV (xs : List Pc) (B0 : Nat) (pre : List (Nat × Value)) (x : Nat × Value) (W : World) : Prop :=
  x.1 = pre.length ∧ x.1 < xs.length ∧ W.ownsRow B0 5 1 x.2 (expE xs x.1).length ((expE xs x.1).flatMap encB) ∧ SpareT IsB W x.2
theorem fr_putObj {W : World} {l : Nat} {o : Obj} (h : W.heap[l]? = some o) (o' : Obj) : Fr W (W.putObj l o') (fun k => k = l) :=
  ⟨rfl, rfl, rfl, by simp, fun k _ hk => World.putObj_heap_other hk⟩
theorem own_ne_obj {w : World} {base g : Nat} {e : TypeId} {size n : Nat} {v : Value} {xs : List Value} {o : Obj} (h : w.ownsRow base e size v n xs) (hg : w.heap[g]? = some o) (ho : o.isCells = false) : v.ownBlock ≠ some g := by
  rcases h.2 with ⟨rfl, _⟩ | ⟨g', cap, cur, rfl, _, hh, _⟩
  · simp [Value.ownBlock]
  · intro he
    have : g' = g := by simpa [Value.ownBlock] using he
    subst this
    rw [hh] at hg; cases hg; simp [Obj.isCells] at ho
theorem rdV_turn (xs : List Pc) (B0 : Nat) : ∀ pre x W l o o', RdV xs B0 pre x W → W.heap[l]? = some o → o.isCells = false → RdV xs B0 pre x (W.putObj l o') :=
  fun pre x W l o o' h hl ho => by
    have hne : ∀ k, x.2.ownBlock = some k → ¬ k = l := fun k hk e => own_ne_obj h.2.2.1 hl ho (e ▸ hk)
    exact ⟨h.1, h.2.1, (fr_putObj hl o').owns h.2.2.1 hne, h.2.2.2.own h.2.2.1 (fr_putObj hl o') hne⟩
theorem Gr.grownBy {w w' : World} (h : Gr w w') : w.grownBy w' none := ⟨h.os, h.tape, h.output, h.size, fun k hk _ => h.block k hk (fun h => h)⟩

theorem meas_lt {n k : Nat} {v : Int} (hv : v = (k : Int) + 1) (hk : k < n) : n - (intOf (.int .i64 v)).toNat < n - (intOf (.int .i64 (k : Int))).toNat := by
  subst hv
  show n - ((k : Int) + 1).toNat < n - ((k : Int)).toNat
  omega
set_option maxRecDepth 100000 in
set_option maxHeartbeats 4000000 in
/-- the closure of vocab.All -/
theorem all_iter (n : Nat) (hn : 1 ≤ n) (xs : List Pc) (hc : (checkE xs).1 = 0) (sv : Value) (BO n₀ : Nat) (w : World) (hBO : BO < n₀) (hn₀ : n₀ ≤ w.heap.size) (hsv : ∀ k, sv.ownBlock = some k → k < n₀)
    (hcell : w.cell? ⟨BO, 0, none⟩ = some sv) (hsl : SL encP w sv xs) :
    SeqR n Try.prog 45 #[.pointer (some ⟨BO, 0, none⟩)] (fun x : Nat × Value => #[Value.int .i64 (x.1 : Int), x.2]) n₀ (RdV xs w.heap.size) (fun ys => ys.length = xs.length) (fun _ => True) w := fun l J Jx W hW hJ hJx hY h0 => by
  obtain ⟨A, cap, rfl⟩ := SL.form hsl
  have hx4 : xs.length ≤ 4096 := (good_of hc).len
  have HC := Lib.hid (fun (wr : World) (hb : Below n₀ w wr) => (hb.cell (p := ⟨BO, 0, none⟩) hBO).trans hcell)
  have HE := Lib.hid (show ∀ (k : Nat) (wr : World), k < xs.length → Below n₀ w wr → w.heap.size ≤ wr.heap.size → Calls Try.prog 38 #[.agg #[.slice A xs.length cap], .int .i64 (k : Int), .slice none 0 0] wr fun e w' => ∃ tv, e = .returned tv ∧ w'.ownsRow w.heap.size 5 1 tv (expE xs k).length ((expE xs k).flatMap encB) ∧ SpareT IsB w' tv ∧ Gr wr w' from fun k wr hk hb hsz => by
    have hs2 : SL encP wr (.slice A xs.length cap) xs := hsl.fr (S := fun k => n₀ ≤ k) ⟨hb.os, hb.tape, hb.output, hb.size, fun j _ hj => hb.block j (by omega)⟩ (fun j hj => by have := hsv j hj; omega)
    have h256 := expE_le xs k
    have h := expand_any (good_of hc).ok.back (k + 1) k (by omega) hk wr w.heap.size (.slice none 0 0) 0 [] hs2 (fun j hj => by have := hsv j hj; omega) hsz (World.ownsRow_nil _ _ _ _) (by rw [← expE_at hc hk]; omega)
    rw [← expE_at hc hk] at h
    refine h.mono ?_
    rintro e w' ⟨tv, rfl, ho, hf, _, hsp⟩
    rw [Nat.zero_add, List.nil_append] at ho
    exact ⟨tv, rfl, ho, hsp (SpareT.nil _ _), hf.mono (fun k _ hk => by simp [Value.ownBlock] at hk)⟩)
  have Hx4 := Lib.hid hx4
  have HY := Lib.hid hY
  have HJ := Lib.hid hJ
  have HW := Lib.hid hW
  have Hn₀ := Lib.hid hn₀
  clear hY hJ hJx hW hn₀ hsl hcell hx4 hc hsv
  refine callsIn_of_wp Try.func45 rfl trivial ?_ rfl
  simp only [Try.ntmps45, List.size_toArray, List.length_cons, List.length_nil, Nat.reduceAdd, Nat.reduceSub, Array.replicate_succ, Array.replicate_zero, List.push_toArray, List.append_toArray, List.nil_append, List.cons_append]
  have c0 := HC.out W (HW.out.mono Hn₀.out)
  gi_wp2
  gi_loopw [7] (fun i wr => ∃ (k : Nat) (pre : List (Nat × Value)), i = .int .i64 k ∧ Hid (k ≤ xs.length ∧ pre.length = k) ∧ Hid (J pre wr) ∧ Hid (Below n₀ w wr ∧ W.heap.size ≤ wr.heap.size))
    (fun i _ => xs.length - (intOf i).toNat)
  case atStart => exact ⟨0, [], rfl, ⟨Nat.zero_le _, rfl⟩, h0, HW.out.mono Hn₀.out, Nat.le_refl _⟩
  case round =>
    obtain ⟨k, pre, rfl, hk, hJs, hB⟩ := hrel
    have c1 := HC.out wr hB.out.1
    by_cases hlt : k < xs.length
    · have hki : (k : Int) < (xs.length : Int) := by omega
      have Hk := Lib.hid hlt
      have HEk := Lib.hid (HE.out k wr hlt hB.out.1 (Nat.le_trans HW.out.size hB.out.2))
      clear hlt HE
      gi_wp2_with (refine ⟨trivial, ?_⟩; gi_at_call 38; refine (callsIn_wide.2 HEk.out).mono ?_; rintro e w4 ⟨tv, rfl, h4⟩; have HJ4 := Lib.hid (HJ.out pre wr w4 none hJs.out (Gr.grownBy h4.2.2) (fun r e => by cases e)); have HB4 := Lib.hid (show Below n₀ w w4 ∧ W.heap.size ≤ w4.heap.size from ⟨hB.out.1.trans (h4.2.2.below.mono (Nat.le_trans Hn₀.out (Nat.le_trans HW.out.size hB.out.2))), Nat.le_trans hB.out.2 h4.2.2.size⟩); obtain ⟨fn, tmps, assign, body, hy, hR⟩ := HY.out pre (k, tv) w4 HJ4.out ⟨hk.out.2.symm, Hk.out, h4.1, h4.2.1⟩; have HR := Lib.hid hR; dsimp only at hy; clear h4 hR)
      refine HR.out.mono ?_
      rintro e W3 (⟨rfl, hJ3, hk3⟩ | ⟨rfl, hJx3⟩)
      · have HJ3 := Lib.hid hJ3
        have HK3 := Lib.hid (show Below n₀ w W3 ∧ W.heap.size ≤ W3.heap.size from ⟨HB4.out.1.trans hk3, Nat.le_trans HB4.out.2 hk3.size⟩)
        clear hJ3 hk3
        have hwr : wrap64 ((k : Int) + 1) = (k : Int) + 1 := by have := Hk.out; have := Hx4.out; simp only [wrap64]; omega
        gi_wp2
        go_roundw
        case rel => exact ⟨k + 1, _, by simp [hwr], ⟨by have := Hk.out; omega, by rw [List.length_append, hk.out.2]; rfl⟩, HJ3, HK3⟩
        case measure => exact meas_lt hwr Hk.out
      · gi_wp2
        refine bodyPost_ret (results_none rfl _ _ _) rfl ?_
        exact ⟨⟨_, rfl⟩, .inr ⟨_, trivial, hJx3⟩⟩
    · have hkl : k = xs.length := by have := hk.out.1; omega
      subst hkl
      gi_wp2
      go_end0
      exact ⟨⟨_, rfl⟩, .inl ⟨pre, hk.out.2, hJs.out⟩⟩

set_option maxHeartbeats 1000000 in
/-- the function that vocab.All answers where the vocabulary may not be -/
theorem none_iter (n : Nat) (encs : Nat × Value → Array Value) (n₀ : Nat) (Rd : List (Nat × Value) → Nat × Value → World → Prop) (w : World) :
    SeqR n Try.prog 43 #[] encs n₀ Rd (fun ys => ys.length = 0) (fun _ => True) w := fun l J Jx W hW hJ hJx hY h0 => by
  refine callsIn_of_wp Try.func43 rfl trivial ?_ rfl
  simp only [Try.ntmps43, List.size_toArray, List.length_cons, List.length_nil, Nat.reduceAdd, Nat.reduceSub, Array.replicate_succ, Array.replicate_zero, List.push_toArray, List.append_toArray, List.nil_append, List.cons_append]
  gi_wp2
  go_end0
  exact ⟨⟨_, rfl⟩, .inl ⟨[], rfl, h0⟩⟩
end Voc
end Go.Proofs.Ytdogccgebgdlmaa
