/- stooklaw08.over. -/
import Derived.Test.YtdogccgebgdlmaaVAa
import Derived.Test.YtdogccgebgdlmaaFsame
import Derived.Test.YtdogccgebgdlmaaFspoil
set_option linter.unusedVariables false
set_option linter.unusedSimpArgs false
namespace Go.Proofs.Ytdogccgebgdlmaa
open Go.RowKit Go.Shelf
attribute [local go_sem] Oper.semAt_some
namespace Voc
def encRow (v : Value) : List Value := [v]
/-- rows of bytes that are read -/
def RowsB (w : World) (v : Value) (svs : List Value) (ls : List (List Int)) : Prop := SL encRow w v svs ∧ svs.length = ls.length ∧ ∀ (i : Nat) (s : Value) (l : List Int), svs[i]? = some s → ls[i]? = some l → SL encB w s l
theorem RowsB.gr {w w' : World} {v : Value} {svs : List Value} {ls : List (List Int)} (h : RowsB w v svs ls) (hg : Gr w w') : RowsB w' v svs ls :=
  ⟨h.1.gr hg, h.2.1, fun i s l hs hl => (h.2.2 i s l hs hl).gr hg⟩
theorem blk_grown {W W' : World} {g : Nat} {t : TypeId} {cs : Array Value} {row : Option Nat} (h : Blk W g t cs) (hg : W.grownBy W' row) (hr : ∀ r, row = some r → ∃ o : Obj, W.heap[r]? = some o ∧ o.isCells = false) : Blk W' g t cs :=
  (grownBy_keeps_cells hg hr h rfl).trans h

/-- between two rounds -/
structure OI (p4 p5 p8 p9 : Nat) (vw : Value) (stop : Int) (n : Int) (W : World) : Prop where
  b4 : Blk W p4 54 #[vw]
  b5 : Blk W p5 3 #[.int .i64 stop]
  b8 : Blk W p8 3 #[.int .i64 n]
  b9 : Blk W p9 4 #[.bool true]
theorem OI.grown {p4 p5 p8 p9 : Nat} {vw : Value} {stop n : Int} {W W' : World} {row : Option Nat} (h : OI p4 p5 p8 p9 vw stop n W) (hg : W.grownBy W' row) (hr : ∀ r, row = some r → ∃ o : Obj, W.heap[r]? = some o ∧ o.isCells = false) : OI p4 p5 p8 p9 vw stop n W' :=
  ⟨blk_grown h.b4 hg hr, blk_grown h.b5 hg hr, blk_grown h.b8 hg hr, blk_grown h.b9 hg hr⟩

theorem OI.fr {p4 p5 p8 p9 : Nat} {vw : Value} {stop n : Int} {W W' : World} {S : Nat → Prop} (h : OI p4 p5 p8 p9 vw stop n W) (hf : Fr W W' S) (hS : ¬ S p4 ∧ ¬ S p5 ∧ ¬ S p8 ∧ ¬ S p9) : OI p4 p5 p8 p9 vw stop n W' :=
  ⟨h.b4.fr hf hS.1, h.b5.fr hf hS.2.1, h.b8.fr hf hS.2.2.1, h.b9.fr hf hS.2.2.2⟩
theorem OI.set9 {p : Nat} {vw : Value} {stop n : Int} {W : World} (h : OI p (p + 1) (p + 1 + 1) (p + 1 + 1 + 1) vw stop n W) : OI p (p + 1) (p + 1 + 1) (p + 1 + 1 + 1) vw stop n (W.setCell ⟨p + 1 + 1 + 1, 0, none⟩ (.bool true)) :=
  ⟨h.b4.far (by simp only; omega) _, h.b5.far (by simp only; omega) _, h.b8.far (by simp only; omega) _, h.b9.set_ 0 _⟩
theorem OI.set8 {p : Nat} {vw : Value} {stop n : Int} {W : World} (h : OI p (p + 1) (p + 1 + 1) (p + 1 + 1 + 1) vw stop n W) (m : Int) : OI p (p + 1) (p + 1 + 1) (p + 1 + 1 + 1) vw stop m (W.setCell ⟨p + 1 + 1, 0, none⟩ (.int .i64 m)) :=
  ⟨h.b4.far (by simp only; omega) _, h.b5.far (by simp only; omega) _, h.b8.set_ 0 _, h.b9.far (by simp only; omega) _⟩
/-- what is no cells stays where only cells are written -/
theorem keeps_of_fr {W W' : World} {v : Value} {B base s n : Nat} {e : TypeId} {xs : List Value} (ho : W.ownsRow base e s v n xs) (hf : Fr W W' (fun k => v.ownBlock = some k)) : KeepsFrom B W W' :=
  ⟨hf.size, fun k o _ hk hc => (hf.block k (Array.getElem?_eq_some_iff.1 hk).1 (fun e => own_ne_obj ho hk hc e)).trans hk⟩
theorem OI.owned {p4 p5 p8 p9 : Nat} {vw : Value} {stop : Int} {B : Nat} {w : World} (hB : w.heap.size ≤ B) {β : Type} (nf : β → Int) (Pp : β → Prop) :
    OwnFrom B (fun (s : β) W => OI p4 p5 p8 p9 vw stop (nf s) W ∧ Pp s ∧ Gr w W) := fun s W W' row hs hg hr =>
  ⟨hs.1.grown hg (fun r e => (hr r e).2), hs.2.1, hs.2.2.grown hg (fun k hk hlt => by have := (hr k hk).1; omega)⟩

abbrev TIt : TypeId := 57
theorem equalIn_it (w : World) (d f : Nat) (b : Array Value) : (Op.equalIn (d + 1) TIt (.func (.func f) #[] b) .nilFunc).run Try.prog w = .ok false w := by
  simp [Op.equalIn, run_underlying Try.underlying57]
theorem eql_it (w : World) (f : Nat) (b : Array Value) : (binOp .eql TIt (.func (.func f) #[] b) .nilFunc).run Try.prog w = .ok (.bool false) w := by
  simp only [binOp]
  simp [Op.equal, Op.maxDepth, equalIn_it w 9999 f b]
set_option maxRecDepth 100000 in
set_option maxHeartbeats 8000000 in
theorem over_any (w : World) (xs : List Pc) (hx : xs.length ≤ 1048576) (gf : Nat) (lb : Array Value) (eg : ∀ args w, (callFunc gf args).run Try.prog w = .ok (.enter gf args) w)
    (hseq : ∀ W0, Gr w W0 → SeqR 2 Try.prog gf lb (fun x : Nat × Value => #[Value.int .i64 (x.1 : Int), x.2]) w.heap.size (RdV xs W0.heap.size) (fun ys => ys.length = xs.length) (fun _ => True) W0)
    (vw : Value) (svs : List Value) (hw : RowsB w vw svs ((List.range xs.length).map fun (i : Nat) => expE xs (i : Int))) (stop : Int) (hs : (Lit.int .i64 stop).wf = true) :
    Calls Try.prog 35 #[.func (.func gf) #[] lb, vw, .int .i64 stop] w fun e w' => e = .returned (.tuple #[.int .i64 (if 0 ≤ stop ∧ stop < xs.length then stop else xs.length), .bool true]) ∧ Gr w w' := by
  obtain ⟨r, hr⟩ : ∃ r, r = (if 0 ≤ stop ∧ stop < (xs.length : Int) then stop else (xs.length : Int)) := ⟨_, rfl⟩
  rw [← hr]
  have Hr := Lib.hid hr
  clear hr
  refine (callsIn_wide (n := 3)).1 ?_
  have HSEQ := Lib.hid hseq
  have HW := Lib.hid hw
  have Hx := Lib.hid hx
  obtain ⟨AW, capW, rfl⟩ := SL.form hw.1
  clear hseq hw hx hs
  refine callsIn_of_wp_marks Try.func35 rfl trivial ?_ rfl
  simp only [Try.ntmps35, List.size_toArray, List.length_cons, List.length_nil, Nat.reduceAdd, Nat.reduceSub, Array.replicate_succ, Array.replicate_zero, List.push_toArray, List.append_toArray, List.nil_append, List.cons_append]
  have he := fun w => eql_it w gf lb
  gi_wp2
  clear he
  obtain ⟨p4, hp4⟩ : ∃ p, w.heap.size = p := ⟨_, rfl⟩
  have HO := Lib.hid (show OI p4 (p4 + 1) (p4 + 1 + 1) (p4 + 1 + 1 + 1) (.slice AW svs.length capW) stop 0 ((((w.alloc (.cells #[.slice AW svs.length capW] 54)).alloc (.cells #[.int .i64 stop] 3)).alloc (.cells #[.int .i64 0] 3)).alloc (.cells #[.bool true] 4)) from by
    subst hp4
    refine ⟨(((Blk.new w _ _).alloc _).alloc _).alloc _, ?_, ?_, ?_⟩
    · have := ((Blk.new (w.alloc (.cells #[.slice AW svs.length capW] 54)) 3 #[.int .i64 stop]).alloc (.cells #[.int .i64 0] 3)).alloc (.cells #[.bool true] 4)
      rwa [World.size_alloc] at this
    · have := (Blk.new ((w.alloc (.cells #[.slice AW svs.length capW] 54)).alloc (.cells #[.int .i64 stop] 3)) 3 #[.int .i64 0]).alloc (.cells #[.bool true] 4)
      rwa [World.size_alloc, World.size_alloc] at this
    · have := Blk.new (((w.alloc (.cells #[.slice AW svs.length capW] 54)).alloc (.cells #[.int .i64 stop] 3)).alloc (.cells #[.int .i64 0] 3)) 4 #[.bool true]
      rwa [World.size_alloc, World.size_alloc, World.size_alloc] at this)
  have HG := Lib.hid (show Gr w ((((w.alloc (.cells #[.slice AW svs.length capW] 54)).alloc (.cells #[.int .i64 stop] 3)).alloc (.cells #[.int .i64 0] 3)).alloc (.cells #[.bool true] 4)) from ((((Fr.refl w NoneS).alloc _).alloc _).alloc _).alloc _)
  have hsz0 : ((((w.alloc (.cells #[.slice AW svs.length capW] 54)).alloc (.cells #[.int .i64 stop] 3)).alloc (.cells #[.int .i64 0] 3)).alloc (.cells #[.bool true] 4)).heap.size = p4 + 4 := by rw [← hp4]; simp
  rw [hp4]
  generalize ((((w.alloc (.cells #[.slice AW svs.length capW] 54)).alloc (.cells #[.int .i64 stop] 3)).alloc (.cells #[.int .i64 0] 3)).alloc (.cells #[.bool true] 4)) = W0 at HO HG hsz0 ⊢
  have Hsz0 := Lib.hid hsz0
  have HP4 := Lib.hid hp4
  refine rangeFunc_told (n := 3) (by omega) (gf := gf) (lb := lb) rfl eg (HSEQ.out W0 HG.out) (by omega) (fun _ => rfl) (rdV_turn xs _)
    (fun pre W => OI p4 (p4 + 1) (p4 + 1 + 1) (p4 + 1 + 1 + 1) (.slice AW svs.length capW) stop (pre.length : Int) W ∧ (¬ (0 ≤ stop ∧ stop < (pre.length : Int))) ∧ Gr w W)
    (fun c pre W => OI p4 (p4 + 1) (p4 + 1 + 1) (p4 + 1 + 1 + 1) (.slice AW svs.length capW) stop stop W ∧ (c = .exit 0 ∧ 0 ≤ stop ∧ stop < (xs.length : Int)) ∧ Gr w W)
    (OI.owned (by omega) _ _) (fun c => OI.owned (by omega) _ _)
    ⟨HO.out, by simp, HG.out⟩
    (fun x => { tmps := #[.func (.func gf) #[] lb, .slice AW svs.length capW, .int .i64 stop, undef, .pointer (some ⟨p4, 0, none⟩), .pointer (some ⟨p4 + 1, 0, none⟩), .int .i64 0, .bool false, .pointer (some ⟨p4 + 1 + 1, 0, none⟩), .pointer (some ⟨p4 + 1 + 1 + 1, 0, none⟩), .int .i64 (x.1 : Int), x.2, .func (.func gf) #[] lb, .bool false, .func (.func gf) #[] lb, .int .i64 (x.1 : Int), x.2, undef, undef, undef, undef, undef, undef, undef, undef, undef, undef, undef, undef, undef, undef, undef, undef, undef, undef, undef, undef, undef, undef, undef, undef, undef, undef, undef, undef, undef], defers := [] }) ?assign ?body ?done ?stop
  case assign =>
    intro l x W K hK
    gi_wp2
    exact hK
  case body =>
    rintro l pre ⟨k, tv⟩ W ⟨ho, hst, hg⟩ ⟨hk, hkl, hown, hsp⟩
    simp only at hk hkl hown hsp
    obtain ⟨At, ct, rfl⟩ := own_formN hown
    have hsv : k < svs.length := by rw [HW.out.2.1]; simpa using hkl
    obtain ⟨ba, oa, rfl, hba, hcell⟩ := (HW.out.1.gr hg).at_ (s := 1) (fun _ => rfl) rfl hsv
    have d0 := hcell 0 (by omega)
    simp [encRow] at d0
    have Hsk := Lib.hid (HW.out.2.2 k svs[k] (expE xs (k : Int)) (List.getElem?_eq_getElem hsv) (by simp [hkl]))
    generalize svs[k] = sk at d0 Hsk
    obtain ⟨Ak, ck, rfl, _⟩ := Hsk.out.len
    have c4 : W.cell? ⟨p4, 0, none⟩ = some (.slice (some ⟨ba, oa, none⟩) svs.length capW) := by rw [ho.b4.cell]; rfl
    have c8 : W.cell? ⟨p4 + 1 + 1, 0, none⟩ = some (.int .i64 (k : Int)) := by rw [ho.b8.cell, hk]; rfl
    have c9 : W.cell? ⟨p4 + 1 + 1 + 1, 0, none⟩ = some (.bool true) := by rw [ho.b9.cell]; rfl
    have f9 := ho.b9.frozen 0
    have hki : (k : Int) < (svs.length : Int) := by omega
    have HS := Lib.hid (show ∀ W', Gr W W' → Calls Try.prog 24 #[.slice At (expE xs (k : Int)).length ct, .slice Ak (expE xs (k : Int)).length ck] W' fun e w' => e = .returned (.bool true) ∧ Gr W w' from fun W' hgW => by
      have h256 := expE_le xs (k : Int)
      refine (same_any _ _ _ _ W' ((SL.of_own hown rfl).gr hgW) ((Hsk.out.gr hg).gr hgW) (by omega)).mono ?_
      rintro e w' ⟨rfl, hd⟩
      exact ⟨by simp, hgW.trans hd.gr (fun _ _ h => h)⟩)
    have HP := Lib.hid (show ∀ W', Fr W W' (fun k => k = p4 + 1 + 1 + 1) → Calls Try.prog 20 #[.slice At (expE xs (k : Int)).length ct, .int .u8 1] W' fun e w' => e = .returned (.tuple #[]) ∧ Fr W' w' (fun j => (Value.slice At (expE xs (k : Int)).length ct).ownBlock = some j) ∧ KeepsFrom W0.heap.size W' w' ∧ Below w.heap.size W' w' from fun W' hf => by
      have hne : ∀ j, (Value.slice At (expE xs (k : Int)).length ct).ownBlock = some j → ¬ j = p4 + 1 + 1 + 1 := fun j hj e => by have := (hown.lt j hj).1; have := Hsz0.out; omega
      have ho' := hf.owns hown hne
      refine (spoil_any _ _ _ _ 1 W' ho' (hsp.own hown hf hne)).mono ?_
      rintro e w' ⟨rfl, hd⟩
      exact ⟨rfl, hd, keeps_of_fr ho' hd, hd.below (Nat.le_trans hg.size hf.size) (fun j hj e => by have := (ho'.lt j e).1; have := Hsz0.out; have := HP4.out; omega)⟩)
    have HO2 := Lib.hid (show ∀ w4, Gr W w4 → OI p4 (p4 + 1) (p4 + 1 + 1) (p4 + 1 + 1 + 1) (.slice (some ⟨ba, oa, none⟩) svs.length capW) stop (k : Int) w4 from fun w4 h => (by have := ho.fr h ⟨fun h => h, fun h => h, fun h => h, fun h => h⟩; rw [← hk] at this; exact this))
    have HO3 := Lib.hid (show ∀ w5 w6, OI p4 (p4 + 1) (p4 + 1 + 1) (p4 + 1 + 1 + 1) (.slice (some ⟨ba, oa, none⟩) svs.length capW) stop (k : Int) w5 → Fr w5 w6 (fun j => (Value.slice At (expE xs (k : Int)).length ct).ownBlock = some j) → OI p4 (p4 + 1) (p4 + 1 + 1) (p4 + 1 + 1 + 1) (.slice (some ⟨ba, oa, none⟩) svs.length capW) stop (k : Int) w6 from fun w5 w6 h hf => h.fr hf (by
      have := Hsz0.out
      exact ⟨fun e => by have := (hown.lt _ e).1; omega, fun e => by have := (hown.lt _ e).1; omega, fun e => by have := (hown.lt _ e).1; omega, fun e => by have := (hown.lt _ e).1; omega⟩))
    have HS9 := Lib.hid (show ∀ w4, Gr W w4 → Fr W (w4.setCell ⟨p4 + 1 + 1 + 1, 0, none⟩ (.bool true)) (fun j => j = p4 + 1 + 1 + 1) from fun w4 h => (Gr.mono h (fun j => j = p4 + 1 + 1 + 1)).setCell (p := ⟨p4 + 1 + 1 + 1, 0, none⟩) (fun _ => rfl) _)
    have Ho := Lib.hid ho
    have Hst := Lib.hid hst
    have Hg := Lib.hid hg
    have Hk := Lib.hid (And.intro hk hkl)
    have Hown := Lib.hid hown
    have Hsp := Lib.hid hsp
    clear ho hst hg hk hkl hown hsp hcell hba hsv
    have hwr : wrap64 ((k : Int) + 1) = (k : Int) + 1 := by have := Hk.out.2; have := Hx.out; unfold wrap64; omega
    have HF := Lib.hid (show ∀ w4 w6, Gr W w4 → KeepsFrom W0.heap.size w4 w6 → Below w.heap.size (w4.setCell ⟨p4 + 1 + 1 + 1, 0, none⟩ (.bool true)) w6 → KeepsFrom W0.heap.size W w6 ∧ Below w.heap.size W w6 ∧ Gr w w6 from fun w4 w6 h1 h2 h3 => by
      have hb : Below w.heap.size W w6 := ((h1.below.mono Hg.out.size).setCell (p := ⟨p4 + 1 + 1 + 1, 0, none⟩) (by rw [HP4.out]; simp only; omega) (.bool true)).trans h3
      exact ⟨KeepsFrom.trans ⟨h1.size, fun k o _ hk _ => (h1.block k (Array.getElem?_eq_some_iff.1 hk).1 (fun h => h)).trans hk⟩ h2, hb, Fr.of_below (Hg.out.below.trans hb) (Nat.le_refl _)⟩)
    have Hwr := Lib.hid hwr
    clear hwr
    gi_wp2_with (first
      | (refine ⟨trivial, ?_⟩; gi_at_call 24; refine (CallsIn.inRound l (callsIn_wide.2 (HS.out _ (Fr.refl _ _)))).mono ?_; rintro e w4 ⟨rfl, hg4⟩; have HG4 := Lib.hid hg4; clear hg4; have HO4 := Lib.hid (HO2.out w4 HG4.out); have c9 : w4.cell? ⟨p4 + 1 + 1 + 1, 0, none⟩ = some (.bool true) := (by rw [HO4.out.b9.cell]; rfl); have f9 := HO4.out.b9.frozen 0)
      | (refine ⟨trivial, ?_⟩; gi_at_call 20; refine (CallsIn.inRound l (callsIn_wide.2 (HP.out _ (HS9.out _ HG4.out)))).mono ?_; rintro e w6 ⟨rfl, hf6, hk6, hb6⟩; have HO6 := Lib.hid (HO3.out _ _ HO4.out.set9 hf6); have HK6 := Lib.hid (((KeepsFrom.refl W0.heap.size _).trans ((KeepsOthers.setCell _ _ _).from _)).trans hk6); have HB6 := Lib.hid hb6; have c8 : w6.cell? ⟨p4 + 1 + 1, 0, none⟩ = some (.int .i64 (k : Int)) := (by rw [HO6.out.b8.cell]; rfl); have c5 : w6.cell? ⟨p4 + 1, 0, none⟩ = some (.int .i64 stop) := (by rw [HO6.out.b5.cell]; rfl); have f8 := HO6.out.b8.frozen 0; clear hf6 hk6 hb6))
    · rename_i hx
      have hx : stop = (k : Int) := by have := beq_iff_eq.1 hx; exact this.symm
      obtain ⟨a1, a2, a3⟩ := HF.out _ _ HG4.out HK6.out HB6.out
      have := Hk.out
      exact ⟨a1, hx ▸ HO6.out, ⟨rfl, by omega, by omega⟩, a3⟩
    · rename_i hx
      have hx : stop ≠ (k : Int) := by intro h; rw [h] at hx; simp at hx
      obtain ⟨a1, a2, a3⟩ := HF.out _ _ HG4.out HK6.out HB6.out
      have hkk := Hk.out
      have hst := Hst.out
      rw [Hwr.out]
      have hl : (((pre ++ [((k : Nat), Value.slice At (expE xs (k : Int)).length ct)]).length : Nat) : Int) = (k : Int) + 1 := by rw [List.length_append, ← hkk.1]; simp
      exact ⟨a1.trans ((KeepsOthers.setCell _ _ _).from _), a2.setCell (p := ⟨p4 + 1 + 1, 0, none⟩) (by rw [HP4.out]; simp only; omega) _, by rw [hl]; exact HO6.out.set8 _, by rw [hl]; omega, a3.setCell (p := ⟨p4 + 1 + 1, 0, none⟩) (fun h => by have := HP4.out; simp only at h; omega) _⟩
  case done =>
    rintro D ys W hD hys ⟨ho, hst, hg⟩ hK
    have c8 : W.cell? ⟨p4 + 1 + 1, 0, none⟩ = some (.int .i64 (ys.length : Int)) := by rw [ho.b8.cell]; rfl
    have c9 : W.cell? ⟨p4 + 1 + 1 + 1, 0, none⟩ = some (.bool true) := by rw [ho.b9.cell]; rfl
    have hif : (if 0 ≤ stop ∧ stop < (xs.length : Int) then stop else (xs.length : Int)) = (ys.length : Int) := by rw [hys] at hst ⊢; exact if_neg hst
    have Hf := Lib.hid (And.intro hif hst)
    clear hif hst
    have hmx : Try.prog.follows .mixedOrders = true := by kernel_rfl
    gi_wp2
    gi_region_o
    all_goals gi_wp2
    all_goals (try go_bits)
    refine ⟨by simp, .inl ⟨_, _, rfl, run_takeDeferred (w := W.drew) hK, ?_⟩⟩
    exact ⟨_, results_tmp2 rfl _ _ _, by rw [Hr.out, Hf.out.1, hys]; rfl, hg.drew.trans (fr_putObj (W := W.drew) hK _) (fun i hi h => by subst h; have := HP4.out; omega)⟩
  case stop =>
    rintro D c pre W hD _ ⟨ho, ⟨rfl, h0, h1⟩, hg⟩ hK
    have c8 : W.cell? ⟨p4 + 1 + 1, 0, none⟩ = some (.int .i64 stop) := by rw [ho.b8.cell]; rfl
    have c9 : W.cell? ⟨p4 + 1 + 1 + 1, 0, none⟩ = some (.bool true) := by rw [ho.b9.cell]; rfl
    have hif : (if 0 ≤ stop ∧ stop < (xs.length : Int) then stop else (xs.length : Int)) = stop := if_pos ⟨h0, h1⟩
    have Hf := Lib.hid (And.intro hif (And.intro h0 h1))
    clear hif h0 h1
    have hmx : Try.prog.follows .mixedOrders = true := by kernel_rfl
    gi_wp2
    gi_region_o
    all_goals gi_wp2
    all_goals (try go_bits)
    refine ⟨by simp, .inl ⟨_, _, rfl, run_takeDeferred (w := W.drew) hK, ?_⟩⟩
    exact ⟨_, results_tmp2 rfl _ _ _, by rw [Hr.out, Hf.out.1]; rfl, hg.drew.trans (fr_putObj (W := W.drew) hK _) (fun i hi h => by subst h; have := HP4.out; omega)⟩
end Voc
end Go.Proofs.Ytdogccgebgdlmaa
