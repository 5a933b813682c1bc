/- bpe: the bytes of tokens, each kept when it is found: Decode's inner function. bpe: Decode. -/
import Derived.Test.YtobedpohoellkaaVGe
import Derived.Test.YtobedpohoellkaaEWb
import Derived.Deep.RegionWith
import Derived.Laws.EntriesVeiled
set_option linter.unusedVariables false
set_option linter.unusedSimpArgs false
namespace Go.Proofs.Ytobedpohoellkaa
open Go.RowKit
open Voc
namespace Bpe
abbrev TU8 : TypeId := 5
abbrev TSB : TypeId := 28
abbrev TSS : TypeId := 110
abbrev TFn : TypeId := 111
/-- a row of bytes of one's own -/
structure OB (w : World) (B : Nat) (v : Value) (l : List Int) : Prop where
  own : w.ownsRow B TU8 1 v l.length (l.flatMap encB)
  spare : SpareT IsB w v
theorem OB.nil (w : World) (B : Nat) : OB w B (.slice none 0 0) [] := ⟨World.ownsRow_nil _ _ _ _, SpareT.nil _ _⟩
theorem OB.sl {w : World} {B : Nat} {v : Value} {l : List Int} (h : OB w B v l) : SL encB w v l := SL.of_own (enc := encB) h.own rfl
theorem OB.fr {w w' : World} {B : Nat} {v : Value} {l : List Int} {S : Nat → Prop} (h : OB w B v l) (hf : Fr w w' S) (hn : ∀ k, v.ownBlock = some k → ¬ S k) : OB w' B v l := ⟨hf.owns h.own hn, h.spare.own h.own hf hn⟩
theorem OB.gr {w w' : World} {B : Nat} {v : Value} {l : List Int} (h : OB w B v l) (hf : Gr w w') : OB w' B v l := h.fr hf (fun _ _ h => h)
theorem OB.base {w : World} {B B' : Nat} {v : Value} {l : List Int} (h : OB w B v l) (hb : B' ≤ B) : OB w B' v l := ⟨own_base h.own hb, h.spare⟩
/-- a new block of one byte -/
theorem own_byte (w : World) (B : Nat) (hB : B ≤ w.heap.size) (c : Int) : (w.alloc (.cells #[.int .u8 c] TU8)).ownsRow B TU8 1 (.slice (some ⟨w.heap.size, 0, none⟩) 1 1) [c].length ([c].flatMap encB) :=
  ⟨by simp [encB], Or.inr ⟨w.heap.size, 1, #[.int .u8 c], rfl, hB, Blk.new w TU8 _, Nat.le_refl _, by unfold maxLen; decide, rfl, by simp [encB]⟩⟩
abbrev nilS : Value := .slice none 0 0
abbrev decF (b10 b2 b11 : Nat) : Value := .func (.func 74) #[] #[.pointer (some ⟨b10, 0, none⟩), .pointer (some ⟨b2, 0, none⟩), .pointer (some ⟨b11, 0, none⟩)]
/-- what is found so far, in memory -/
structure DA (W0 w : World) (ga b10 b2 b11 : Nat) (sv : Value) (xs : List Pc) (vals : List Value) : Prop where
  gr : Gr W0 w
  voc : SL encP W0 sv xs
  lo : W0.heap.size ≤ ga
  ba : Blk w ga TSB vals.toArray
  c10 : Blk w b10 TSS #[.slice (some ⟨ga, 0, none⟩) xs.length xs.length]
  c2 : Blk w b2 41 #[sv]
  c11 : Blk w b11 TFn #[decF b10 b2 b11]
  len : vals.length = xs.length
  ok : ∀ (i : Nat) (v : Value), vals[i]? = some v → v = nilS ∨ w.ownsRow W0.heap.size TU8 1 v (expE xs i).length ((expE xs i).flatMap encB)
def Ext (vals vals' : List Value) : Prop := ∀ (i : Nat) (v : Value), vals[i]? = some v → v ≠ nilS → vals'[i]? = some v
theorem Ext.refl (vals : List Value) : Ext vals vals := fun _ _ h _ => h
theorem Ext.trans {a b c : List Value} (h : Ext a b) (k : Ext b c) : Ext a c := fun i v h1 h2 => k i v (h i v h1 h2) h2
section
variable {W0 w w' : World} {ga b10 b2 b11 : Nat} {sv : Value} {xs : List Pc} {vals : List Value}
theorem DA.any (H : DA W0 w ga b10 b2 b11 sv xs vals) (hg : Gr w w') : DA W0 w' ga b10 b2 b11 sv xs vals :=
  ⟨H.gr.trans hg (fun _ _ h => h), H.voc, H.lo, H.ba.fr hg (fun h => h), H.c10.fr hg (fun h => h), H.c2.fr hg (fun h => h), H.c11.fr hg (fun h => h), H.len, fun i v hv => (H.ok i v hv).imp id (fun h => hg.owns h (fun _ _ h => h))⟩
theorem DA.put (H : DA W0 w ga b10 b2 b11 sv xs vals) {x : Nat} {v : Value} (hv : w.ownsRow W0.heap.size TU8 1 v (expE xs x).length ((expE xs x).flatMap encB)) : DA W0 (w.setCell ⟨ga, x, none⟩ v) ga b10 b2 b11 sv xs (vals.set x v) := by
  have hf : Fr w (w.setCell ⟨ga, x, none⟩ v) (fun k => k = ga) := (Fr.refl w (fun k => k = ga)).setCell (p := ⟨ga, x, none⟩) (fun _ => rfl) _
  have hk : ∀ {u : Value} {n : Nat} {ys : List Value}, w.ownsRow W0.heap.size TU8 1 u n ys → (w.setCell ⟨ga, x, none⟩ v).ownsRow W0.heap.size TU8 1 u n ys := fun h => hf.owns h (fun k hk e => own_blk_ne h H.ba (by decide) (e ▸ hk))
  refine ⟨H.gr.trans hf (fun i hi e => by subst e; have := H.lo; omega), H.voc, H.lo, ?_, H.c10.fr hf (H.c10.ne_ H.ba (by decide)), H.c2.fr hf (H.c2.ne_ H.ba (by decide)), H.c11.fr hf (H.c11.ne_ H.ba (by decide)), by rw [List.length_set]; exact H.len, fun i u hu => ?_⟩
  · have h := H.ba.set_ x v
    rw [List.setIfInBounds_toArray] at h
    exact h
  · rw [List.getElem?_set] at hu
    split at hu
    · rename_i hx
      subst hx
      split at hu
      · injection hu with hu; subst hu; exact Or.inr (hk hv)
      · cases hu
    · exact (H.ok i u hu).imp id hk
theorem DA.cells (H : DA W0 w ga b10 b2 b11 sv xs vals) : w.cell? ⟨b10, 0, none⟩ = some (.slice (some ⟨ga, 0, none⟩) xs.length xs.length) ∧ w.cell? ⟨b2, 0, none⟩ = some sv ∧ w.cell? ⟨b11, 0, none⟩ = some (decF b10 b2 b11) := by
  refine ⟨?_, ?_, ?_⟩
  · rw [H.c10.cell]; rfl
  · rw [H.c2.cell]; rfl
  · rw [H.c11.cell]; rfl
theorem equalIn_nil (w : World) (d : Nat) (a : Option Addr) (l c : Nat) : (Op.equalIn (d + 1) TSB (.slice a l c) (.slice none 0 0)).run Try.prog w = .ok a.isNone w := by
  cases a <;> simp [Op.equalIn, run_underlying Try.underlying28]
theorem eql_nil (w : World) (a : Option Addr) (l c : Nat) : (binOp .eql TSB (.slice a l c) (.slice none 0 0)).run Try.prog w = .ok (.bool a.isNone) w := by
  simp only [binOp]
  simp [Op.equal, Op.maxDepth, equalIn_nil w 9999 a l c]
/-- what is new lies in new memory -/
def Nw (w : World) (vals vals' : List Value) : Prop := ∀ (i : Nat) (u : Value), vals'[i]? = some u → vals[i]? = some u ∨ ∀ k, u.ownBlock = some k → w.heap.size ≤ k
theorem Nw.refl (w : World) (vals : List Value) : Nw w vals vals := fun _ _ h => Or.inl h
theorem Nw.trans {w w1 : World} {a b c : List Value} (h : Nw w a b) (k : Nw w1 b c) (hs : w.heap.size ≤ w1.heap.size) : Nw w a c := fun i u hu => by
  rcases k i u hu with h1 | h1
  · exact h i u h1
  · exact Or.inr (fun g hg => Nat.le_trans hs (h1 g hg))
theorem Nw.put {w : World} {a b : List Value} (h : Nw w a b) (x : Nat) (v : Value) (hv : ∀ k, v.ownBlock = some k → w.heap.size ≤ k) : Nw w a (b.set x v) := fun i u hu => by
  rw [List.getElem?_set] at hu
  split at hu
  · split at hu
    · injection hu with hu; subst hu; exact Or.inr hv
    · cases hu
  · exact h i u hu
/-- what the inner function leaves -/
def DP (W0 w : World) (ga b10 b2 b11 : Nat) (sv : Value) (xs : List Pc) (vals : List Value) (x : Nat) (e : Ending) (w' : World) : Prop :=
  ∃ (v : Value) (vals' : List Value), e = .returned v ∧ DA W0 w' ga b10 b2 b11 sv xs vals' ∧ vals'[x]? = some v ∧ v ≠ nilS ∧ Ext vals vals' ∧ Fr w w' (fun k => k = ga) ∧ Nw w vals vals'
set_option maxRecDepth 20000 in
set_option maxHeartbeats 6400000 in
theorem dec_any (hc : (checkE xs).1 = 0) : ∀ (f x : Nat) (vals : List Value) (w : World), x < f → x < xs.length → DA W0 w ga b10 b2 b11 sv xs vals →
    Calls Try.prog 74 #[.int .i64 (x : Nat), .pointer (some ⟨b10, 0, none⟩), .pointer (some ⟨b2, 0, none⟩), .pointer (some ⟨b11, 0, none⟩)] w (DP W0 w ga b10 b2 b11 sv xs vals x)
  | 0, x, vals, w, h, _, _ => by omega
  | f + 1, x, vals, w, h, hx, H => by
    have ih := dec_any hc f
    have HX := Lib.hid (good_of hc)
    have Hc := Lib.hid hc
    have HD := Lib.hid H
    have Hh := Lib.hid h
    have hxi : (x : Int) < (xs.length : Int) := by omega
    have hxl : (xs.length : Int) ≤ 4096 := by have := HX.out.len; omega
    have hxv : x < vals.length := by rw [H.len]; exact hx
    obtain ⟨v, hv⟩ : ∃ v, vals[x]? = some v := ⟨_, List.getElem?_eq_getElem hxv⟩
    obtain ⟨c10, c2, c11⟩ := H.cells
    have ca : w.cell? ⟨ga, x, none⟩ = some v := by rw [H.ba.cell, List.getElem?_toArray]; exact hv
    have Hv := Lib.hid hv
    have Hih := Lib.hid ih
    have hql := eql_nil
    rcases H.ok x v hv with h0 | h0
    · subst h0
      obtain ⟨A, cap, hsv⟩ := SL.form H.voc
      subst hsv
      obtain ⟨bv, ov, rfl, hbv, hcell⟩ := (HD.out.voc.gr HD.out.gr).at_ (s := 5) (fun _ => rfl) rfl hx
      have d0 := hcell 0 (by omega)
      have d1 := hcell 1 (by omega)
      have d2 := hcell 2 (by omega)
      have d3 := hcell 3 (by omega)
      have d4 := hcell 4 (by omega)
      clear hcell
      simp [encP] at d0 d1 d2 d3 d4
      rw [← Nat.add_assoc] at d1 d2 d3 d4
      have Hget := Lib.hid (show xs[x]? = some (xs[x]'hx) from List.getElem?_eq_getElem hx)
      have Hx := Lib.hid hx
      generalize xs[x]'hx = q at d0 d1 d2 d3 d4 Hget
      obtain ⟨jj, bb, ll, rr, kk⟩ := q
      simp only at d0 d1 d2 d3 d4
      have hfz := HD.out.ba.frozen x
      clear ih h hx H hxv hv hc hbv
      go_enter Try.func74, Try.ntmps74
      go_upto_region 3 with (fail)
      have HPb := Lib.hid (Blk.new w TPc #[.bool jj, .int .u8 bb, .int .i64 ll, .int .i64 rr, .int .u32 kk])
      have HD1 := Lib.hid (HD.out.any ((Fr.refl w NoneS).alloc (.cells #[.bool jj, .int .u8 bb, .int .i64 ll, .int .i64 rr, .int .u32 kk] TPc)))
      have HG1 := Lib.hid ((Fr.refl w NoneS).alloc (.cells #[.bool jj, .int .u8 bb, .int .i64 ll, .int .i64 rr, .int .u32 kk] TPc))
      clear d0 d1 d2 d3 d4 c10 c2 c11 ca hfz
      generalize w.heap.size = pb at HPb ⊢
      generalize World.alloc w _ = w1 at HPb HD1 HG1 ⊢
      obtain ⟨c10, c2, c11⟩ := HD1.out.cells
      have g0 : w1.cell? ⟨pb, 0, none⟩ = some (.bool jj) := by rw [HPb.out.cell]; rfl
      have g1 : w1.cell? ⟨pb, 1, none⟩ = some (.int .u8 bb) := by rw [HPb.out.cell]; rfl
      have g2 : w1.cell? ⟨pb, 2, none⟩ = some (.int .i64 ll) := by rw [HPb.out.cell]; rfl
      have g3 : w1.cell? ⟨pb, 3, none⟩ = some (.int .i64 rr) := by rw [HPb.out.cell]; rfl
      cases jj with
      | false =>
        have ca : w1.cell? ⟨ga, x, none⟩ = some nilS := by rw [HD1.out.ba.cell, List.getElem?_toArray]; exact Hv.out
        have hfz := HD1.out.ba.frozen x
        have hgl := HD1.out.ba.lt
        have HN := Lib.hid (show DA W0 ((w1.setCell ⟨ga, x, none⟩ (.slice (some ⟨w1.heap.size, 0, none⟩) 1 1)).alloc (.cells #[.int .u8 bb] TU8)) ga b10 b2 b11 _ xs (vals.set x (.slice (some ⟨w1.heap.size, 0, none⟩) 1 1)) from by
          rw [← World.setCell_alloc_past (w := w1) (.cells #[.int .u8 bb] TU8) ga x _ hgl]
          exact (HD1.out.any ((Fr.refl w1 NoneS).alloc (.cells #[.int .u8 bb] TU8))).put (by
            rw [expE_byte Hc.out Hget.out rfl]
            exact own_byte w1 _ HD1.out.gr.size bb))
        have HF := Lib.hid (show Fr w ((w1.setCell ⟨ga, x, none⟩ (.slice (some ⟨w1.heap.size, 0, none⟩) 1 1)).alloc (.cells #[.int .u8 bb] TU8)) (fun k => k = ga) from
          (((Gr.mono HG1.out (fun k => k = ga)).setCell (p := ⟨ga, x, none⟩) (fun _ => rfl) _).alloc _))
        go_upto_region 7 with (fail)
        generalize hnew : Value.slice (some ⟨w1.heap.size, 0, none⟩) 1 1 = nv at HN HF ⊢
        have hnn : nv ≠ nilS := by rw [← hnew]; simp
        have Hnb := Lib.hid (show ∀ k, nv.ownBlock = some k → w.heap.size ≤ k from by
          intro k hk
          rw [← hnew] at hk
          have h1 := HG1.out.size
          have : w1.heap.size = k := by simpa [Value.ownBlock] using hk
          omega)
        have Hnn := Lib.hid hnn
        clear hnew hnn ca hfz hgl c10 c2 c11 g0 g1 g2 g3
        generalize World.alloc (World.setCell w1 _ _) _ = w2 at HN HF ⊢
        obtain ⟨c10, c2, c11⟩ := HN.out.cells
        have hxv : (vals.set x nv)[x]? = some nv := List.getElem?_set_self (by rw [HD.out.len]; exact Hx.out)
        have ca : w2.cell? ⟨ga, x, none⟩ = some nv := by rw [HN.out.ba.cell, List.getElem?_toArray]; exact hxv
        have Hxv := Lib.hid hxv
        clear hxv
        go_wp2_with fail
        go_ret
        refine ⟨nv, _, rfl, HN.out, Hxv.out, Hnn.out, fun i u hi hu => ?_, HF.out, (Nw.refl _ _).put _ _ Hnb.out⟩
        rw [List.getElem?_set_ne (fun e => by subst e; rw [Hv.out] at hi; injection hi with hi; exact hu hi.symm)]
        exact hi
      | true =>
        obtain ⟨⟨hl0, hl1⟩, hr0, hr1⟩ := HX.out.ok.back x _ Hget.out rfl
        simp only at hl0 hl1 hr0 hr1
        obtain ⟨ln, rfl⟩ : ∃ m : Nat, ll = m := ⟨ll.toNat, by omega⟩
        obtain ⟨rn, rfl⟩ : ∃ m : Nat, rr = m := ⟨rr.toNat, by omega⟩
        have HCL := Lib.hid (fun (vs : List Value) (wx : World) (hd : DA W0 wx ga b10 b2 b11 (.slice (some ⟨bv, ov, none⟩) xs.length cap) xs vs) => Hih.out ln vs wx (by have := Hh.out; omega) (by have := Hx.out; omega) hd)
        have HCR := Lib.hid (fun (vs : List Value) (wx : World) (hd : DA W0 wx ga b10 b2 b11 (.slice (some ⟨bv, ov, none⟩) xs.length cap) xs vs) => Hih.out rn vs wx (by have := Hh.out; omega) (by have := Hx.out; omega) hd)
        have Hlr := Lib.hid (show ln < xs.length ∧ rn < xs.length by have := Hx.out; omega)
        clear hl0 hl1 hr0 hr1
        go_upto_region 5 with (fail)
        go_region_held3 (fun wx => wx.cell? ⟨b11, 0, none⟩ = some (decF b10 b2 b11) ∧ wx.cell? ⟨pb, 2, none⟩ = some (.int .i64 (ln : Nat)) ∧ wx.cell? ⟨pb, 3, none⟩ = some (.int .i64 (rn : Nat)))
          (first | with_reducible exact ⟨c11'', g2'', g3''⟩ | with_reducible exact ⟨c11', g2', g3'⟩ | exact ⟨c11, g2, g3⟩)
          (first
          | (go_at_call 74
             (with_reducible refine (HCL.out _ _ (HD1.out.any ((Fr.refl _ NoneS).drew))).mono ?_)
             rintro e w5 ⟨v1, vals1, rfl, k1, k2, k3, k4, k5, k6⟩
             have HL5 := Lib.hid (And.intro k1 (And.intro k2 (And.intro k3 (And.intro k4 k5))))
             have HN5 := Lib.hid k6
             have c10' := k1.cells.1
             have c11' := k1.cells.2.2
             have g2' : w5.cell? ⟨pb, 2, none⟩ = some (.int .i64 (ln : Nat)) := (k5.cell (p := ⟨pb, 2, none⟩) HPb.out.lt (HPb.out.ne_ HD1.out.ba (by decide))).trans g2
             have g3' : w5.cell? ⟨pb, 3, none⟩ = some (.int .i64 (rn : Nat)) := (k5.cell (p := ⟨pb, 3, none⟩) HPb.out.lt (HPb.out.ne_ HD1.out.ba (by decide))).trans g3
             clear k1 k2 k3 k4 k5 k6)
          | (go_at_call 74
             (with_reducible refine (HCR.out _ _ HL5.out.1).mono ?_)
             rintro e w6 ⟨v2, vals2, rfl, k1, k2, k3, k4, k5, k6⟩
             have HL6 := Lib.hid (And.intro k1 (And.intro k2 (And.intro k3 (And.intro k4 k5))))
             have HN6 := Lib.hid k6
             have c10'' := k1.cells.1
             have c11'' := k1.cells.2.2
             have g2'' : w6.cell? ⟨pb, 2, none⟩ = some (.int .i64 (ln : Nat)) := (k5.cell (p := ⟨pb, 2, none⟩) (Nat.lt_of_lt_of_le HPb.out.lt HL5.out.2.2.2.2.size) (HPb.out.ne_ HD1.out.ba (by decide))).trans g2'
             have g3'' : w6.cell? ⟨pb, 3, none⟩ = some (.int .i64 (rn : Nat)) := (k5.cell (p := ⟨pb, 3, none⟩) (Nat.lt_of_lt_of_le HPb.out.lt HL5.out.2.2.2.2.size) (HPb.out.ne_ HD1.out.ba (by decide))).trans g3'
             clear k1 k2 k3 k4 k5 k6))
        obtain ⟨i0, hi0, hz0, hz1, hz2⟩ := info_parts info_u8
        have HD6 := HL6.out.1
        have hok1 := (HD6.ok ln v1 (HL6.out.2.2.2.1 ln v1 HL5.out.2.1 HL5.out.2.2.1)).resolve_left HL5.out.2.2.1
        have hok2 := (HD6.ok rn v2 HL6.out.2.1).resolve_left HL6.out.2.2.1
        have HS1 := Lib.hid (show SL encB w6 v1 (expE xs ln) from SL.of_own (enc := encB) hok1 rfl)
        have HS2 := Lib.hid (show SL encB w6 v2 (expE xs rn) from SL.of_own (enc := encB) hok2 rfl)
        have HE1 := Lib.hid (expE_le xs ln)
        have HE2 := Lib.hid (expE_le xs rn)
        have HEj := Lib.hid (show expE xs x = expE xs ln ++ expE xs rn from (expE_join Hc.out Hget.out rfl).1)
        have HFr := Lib.hid (show Fr w w6 (fun k => k = ga) from (((Gr.mono HG1.out (fun k => k = ga)).drew).trans HL5.out.2.2.2.2 (fun _ _ h => h)).trans HL6.out.2.2.2.2 (fun _ _ h => h))
        have HExt := Lib.hid (HL5.out.2.2.2.1.trans HL6.out.2.2.2.1)
        have HNw := Lib.hid (show Nw w vals vals2 from by
          have h1 := HG1.out.size
          have h2 := HL5.out.2.2.2.2.size
          have h3 : Nw w vals vals1 := fun i u hu => (HN5.out i u hu).imp id (fun h k hk => Nat.le_trans h1 (h k hk))
          exact h3.trans HN6.out (Nat.le_trans h1 h2))
        have HDD := Lib.hid HD6
        clear HD6 hok1 hok2 c10 c2 c11 g0 g1 g2 g3 c10' c11' g2' g3' c11'' g2'' g3'' HCL HCR HL5 HL6 HN5 HN6
        generalize expE xs ln = l1 at HS1 HE1 HEj
        generalize expE xs rn = l2 at HS2 HE2 HEj
        go_upto_region 6 with (fail)
        have c0 := HDD.out.cells.1
        have Hbs := Lib.hid HDD.out.gr.size
        have Hga := Lib.hid HDD.out.ba.lt
        have ca : w6.cell? ⟨ga, x, none⟩ = some ((vals2[x]?).getD nilS) := by
          rw [HDD.out.ba.cell, List.getElem?_toArray, List.getElem?_eq_getElem (by rw [HDD.out.len]; exact Hx.out)]; rfl
        have hfz := HDD.out.ba.frozen x
        generalize (vals2[x]?).getD nilS = cv0 at ca
        go_region_held3 (fun wx => wx.cell? ⟨b10, 0, none⟩ = some (.slice (some ⟨ga, 0, none⟩) xs.length xs.length))
          (first | with_reducible exact s9 | with_reducible exact s8 | with_reducible exact s7 | exact c0)
          (first
            | ((refine step_append_sl _ encB rfl _ _ TSB rfl w6.heap.size TU8 i0 (.int .u8 0) 1 1 Try.underlying28 hi0 hz0 hz1 hz2 rfl (by decide) nilS 0 [] (by rfl) (World.ownsRow_nil _ _ _ _) v1 l1 (by rfl) (by exact HS1.out) (fun _ => rfl) encB_one (by have := HE1.out; unfold maxLen; omega) (by have := HE1.out; omega) (by exact Nat.le_refl _) ?_)
               intro v3 w7 ho hf hat
               have HO3 := Lib.hid ho
               have HG7 := Lib.hid (show Gr w6 w7 from ((Fr.refl w6 NoneS).drew).trans hf (fun i hi e => by simp [Value.ownBlock] at e))
               have s7 := (HG7.out.cell (p := ⟨b10, 0, none⟩) HDD.out.c10.lt (fun h => h)).trans c0
               clear ho hf hat)
            | ((refine step_append_sl _ encB rfl _ _ TSB rfl w6.heap.size TU8 i0 (.int .u8 0) 1 1 Try.underlying28 hi0 hz0 hz1 hz2 rfl (by decide) v3 (0 + l1.length) _ (by rfl) HO3.out v2 l2 (by rfl) (by exact HS2.out.gr HG7.out) (fun _ => rfl) encB_one (by have := HE1.out; have := HE2.out; unfold maxLen; omega) (by have := HE1.out; have := HE2.out; omega) (by exact HG7.out.size) ?_)
               intro v4 w8 ho hf hat
               rw [Nat.zero_add, List.nil_append] at ho
               obtain ⟨A4, cap4, rfl⟩ := own_formN ho
               have HO4 := Lib.hid ho
               have HG8 := Lib.hid (show Gr w6 w8 from HG7.out.trans hf (fun i hi e => by have := (HO3.out.lt i e).1; omega))
               have s8 := (HG8.out.cell (p := ⟨b10, 0, none⟩) HDD.out.c10.lt (fun h => h)).trans c0
               have ca8 := (HG8.out.cell (p := ⟨ga, x, none⟩) Hga.out (fun h => h)).trans ca
               have hfz8 := (HG8.out.frozen (p := ⟨ga, x, none⟩) Hga.out (fun h => h)).trans hfz
               have HD8 := Lib.hid (DA.put (x := x) (v := .slice A4 (l1.length + l2.length) cap4) (HDD.out.any HG8.out) (by
                 rw [HEj.out, List.length_append, List.flatMap_append]
                 exact own_base HO4.out Hbs.out))
               have s9 := HD8.out.cells.1
               clear ho hf hat))
        have Hnn := Lib.hid (show Value.slice A4 (l1.length + l2.length) cap4 ≠ nilS from by
          have := expE_pos Hc.out (x + 1) x (by omega) Hx.out
          rw [HEj.out, List.length_append] at this
          intro e
          injection e with _ e2 _
          omega)
        have HF9 := Lib.hid (show Fr w (w8.setCell ⟨ga, x, none⟩ (.slice A4 (l1.length + l2.length) cap4)) (fun k => k = ga) from
          (HFr.out.trans HG8.out (fun _ _ h => h.elim)).setCell (p := ⟨ga, x, none⟩) (fun _ => rfl) _)
        have hxv : (vals2.set x (Value.slice A4 (l1.length + l2.length) cap4))[x]? = some (Value.slice A4 (l1.length + l2.length) cap4) := List.getElem?_set_self (by rw [HDD.out.len]; exact Hx.out)
        have Hxv := Lib.hid hxv
        clear hxv c0 ca hfz s7 s8 ca8 hfz8 s9
        generalize World.setCell w8 _ _ = w9 at HD8 HF9 ⊢
        obtain ⟨c10, c2, c11⟩ := HD8.out.cells
        have ca : w9.cell? ⟨ga, x, none⟩ = some (Value.slice A4 (l1.length + l2.length) cap4) := by rw [HD8.out.ba.cell, List.getElem?_toArray]; exact Hxv.out
        go_wp2_with fail
        go_ret
        refine ⟨_, _, rfl, HD8.out, Hxv.out, Hnn.out, fun i u hi hu => ?_, HF9.out, HNw.out.put _ _ (fun k hk => Nat.le_trans HFr.out.size (HO4.out.lt k hk).1)⟩
        rw [List.getElem?_set_ne (fun e => by subst e; rw [Hv.out] at hi; injection hi with hi; exact hu hi.symm)]
        exact HExt.out i u hi hu
    · have hp := expE_pos hc (x + 1) x (by omega) hx
      rcases h0.2 with ⟨h1, h2⟩ | ⟨g, cap, cur, rfl, hr⟩
      · omega
      clear ih h hx H hxv hv h0 hp hr hc
      go_enter Try.func74, Try.ntmps74
      go_wp2_with fail
      go_ret
      exact ⟨_, vals, rfl, HD.out, Hv.out, by simp, Ext.refl _, Fr.refl _ _, Nw.refl _ _⟩
end
end Bpe
end Go.Proofs.Ytobedpohoellkaa

namespace Go.Proofs.Ytobedpohoellkaa
open Go.RowKit
open Voc
namespace Bpe
/-- is a token no piece? -/
def badX (xs : List Pc) (x : Int) : Bool := decide (x < 0) || decide ((xs.length : Int) ≤ x)
def flatE (xs : List Pc) (l : List Int) : List Int := l.flatMap (expE xs)
def decE (xs : List Pc) (l : List Int) : List Int × Int := if (checkE xs).1 ≠ 0 then ([], 11) else if l.any (badX xs) = true then ([], 2) else if 4096 < (flatE xs l).length then ([], 3) else (flatE xs l, 0)
theorem flatE_take (xs : List Pc) (l : List Int) {k : Nat} (hk : k < l.length) : flatE xs (l.take (k + 1)) = flatE xs (l.take k) ++ expE xs (l[k]) := by
  unfold flatE
  rw [List.take_succ_eq_append_getElem hk, List.flatMap_append]
  simp
theorem flatE_le (xs : List Pc) (l : List Int) (k : Nat) : (flatE xs (l.take k)).length ≤ (flatE xs l).length := by
  have h : flatE xs l = flatE xs (l.take k) ++ flatE xs (l.drop k) := by
    unfold flatE
    rw [← List.flatMap_append, List.take_append_drop]
  rw [h, List.length_append]; omega
theorem info_sb : (Try.prog.info? TSB).map (fun i => (i.zero, i.size, i.bytes)) = some (some nilS, 1, 24) := by kernel_rfl
theorem made_s (i0 : TypeInfo) (hz1 : i0.size = 1) (s : Nat) : madeCells nilS.cells (((s : Nat) : Int).toNat * i0.size) = (List.replicate s nilS).toArray := by
  rw [hz1]
  simp [madeCells, Value.cells]
  apply Array.ext_getElem?
  intro j
  simp only [Array.getElem?_map, Array.getElem?_range, Array.getElem?_replicate]
  split
  · simp [Nat.mod_one]
  · rfl
/-- the rows that are kept lie apart from the one that grows -/
def Dj (vals : List Value) (v : Value) : Prop := ∀ (i : Nat) (u : Value) (g : Nat), vals[i]? = some u → u.ownBlock = some g → v.ownBlock ≠ some g
theorem DA.apart {W0 w w' : World} {ga b10 b2 b11 : Nat} {sv : Value} {xs : List Pc} {vals : List Value} {v : Value} {n : Nat} {ys : List Value} (H : DA W0 w ga b10 b2 b11 sv xs vals) (hv : w.ownsRow W0.heap.size TU8 1 v n ys) (hd : Dj vals v) (hf : Fr w w' (fun k => v.ownBlock = some k)) : DA W0 w' ga b10 b2 b11 sv xs vals := by
  refine ⟨H.gr.trans hf (fun i hi e => by have := (hv.lt i e).1; omega), H.voc, H.lo, H.ba.fr hf (own_blk_ne hv H.ba (by decide)), H.c10.fr hf (own_blk_ne hv H.c10 (by decide)), H.c2.fr hf (own_blk_ne hv H.c2 (by decide)), H.c11.fr hf (own_blk_ne hv H.c11 (by decide)), H.len, fun i u hu => ?_⟩
  rcases H.ok i u hu with h | h
  · exact Or.inl h
  · exact Or.inr (hf.owns h (fun k hk e => hd i u k hu hk e))
set_option maxRecDepth 20000 in
set_option maxHeartbeats 6400000 in
theorem decode_yes {w : World} {v vl : Value} {xs : List Pc} {l : List Int} (HS : SL encP w v xs) (HV : SL encI w vl l) (hw : ∀ q ∈ xs, wfP q) (hl : xs.length ≤ 1048576) (hll : l.length ≤ 1048576) (hc : (checkE xs).1 = 0) :
    Calls Try.prog 47 #[.agg #[v], vl] w fun e w' => ∃ r, e = .returned (.tuple #[r, .int .i64 (decE xs l).2]) ∧ OB w' w.heap.size r (decE xs l).1 ∧ Gr w w' := by
  obtain ⟨A, cap, rfl⟩ := SL.form HS
  obtain ⟨A2, cap2, rfl⟩ := SL.form HV
  have HG := Lib.hid ((Fr.refl w NoneS).alloc (.cells #[.slice A xs.length cap] 41))
  have HB := Lib.hid (Blk.new w 41 #[.slice A xs.length cap])
  have HS0 := Lib.hid HS
  have HV0 := Lib.hid HV
  have HX := Lib.hid (good_of hc)
  have Hc := Lib.hid hc
  have Hll := Lib.hid hll
  have hck := check_any (HS.gr HG.out) hw hl
  rw [hc] at hck
  have HC := Lib.hid hck
  have hxi : (xs.length : Int) ≤ 4096 := by have := HX.out.len; omega
  have hli : (l.length : Int) ≤ 1048576 := by omega
  obtain ⟨⟨L, E⟩, hE⟩ : ∃ y, decE xs l = y := ⟨_, rfl⟩
  rw [hE]
  have HE := Lib.hid hE
  simp only
  obtain ⟨q1, hq1⟩ : ∃ q, w.heap.size = q := ⟨_, rfl⟩
  rw [hq1] at HB
  have Hq1 := Lib.hid hq1
  clear HS HV hw hl hll hc hck hE
  go_enter Try.func47, Try.ntmps47
  go_upto_region 1 with (fail)
  clear hq1
  generalize World.alloc w _ = wa at HG HB HC ⊢
  have f0 : wa.cell? ⟨q1, 0, none⟩ = some (.slice A xs.length cap) := by rw [HB.out.cell]; rfl
  go_upto_block 0 with (go_at_call 41; refine HC.out.mono ?_; rintro e w3 ⟨rfl, hg⟩; have HG3 := Lib.hid (HG.out.trans hg (fun _ _ h => h)); have HB3 := Lib.hid (HB.out.fr hg (fun h => h)); clear hg)
  clear f0
  go_cut [] (fun wx => Hid (wx = w3 ∧ ∀ x ∈ l, badX xs x = false))
  case first =>
    have f3 : w3.cell? ⟨q1, 0, none⟩ = some (.slice A xs.length cap) := by rw [HB3.out.cell]; rfl
    go_wp2_with fail
    go_loopg [25] (l.length + 1) (fun m s25 wr => ∃ k : Nat, s25 = .int .i64 k ∧ w3 = wr ∧ Hid (k ≤ l.length ∧ l.length - k < m ∧ ∀ x ∈ l.take k, badX xs x = false))
    case atStart => exact ⟨0, rfl, rfl, Nat.zero_le _, by omega, fun x hx => by simp at hx⟩
    case round =>
      obtain ⟨k, rfl, rfl, HK⟩ := hrel
      by_cases hk : k < l.length
      · obtain ⟨ba, oa, rfl, hba, hcell⟩ := (HV0.out.gr HG3.out).at_ (s := 1) (fun _ => rfl) rfl hk
        have d0 := hcell 0 (by omega)
        simp [encI] at d0
        have hki : (k : Int) < l.length := by omega
        have Hk := Lib.hid hk
        obtain ⟨x, hx⟩ : ∃ x, l[k]'hk = x := ⟨_, rfl⟩
        rw [hx] at d0
        have Hmem := Lib.hid (show x ∈ l by rw [← hx]; exact List.getElem_mem hk)
        have Htk := Lib.hid (show badX xs x = false → ∀ y ∈ l.take (k + 1), badX xs y = false from fun hb y hy => by
          rw [List.take_succ_eq_append_getElem hk] at hy
          rcases List.mem_append.1 hy with h | h
          · exact HK.out.2.2 y h
          · simp at h; rw [h, hx, hb])
        clear hcell hba hx hk
        by_cases h1 : x < 0
        case pos =>
          have Hb := Lib.hid (show badX xs x = true by unfold badX; rw [decide_eq_true h1]; rfl)
          go_wp2_with fail
          go_ret2
          have he := HE.out
          unfold decE at he
          rw [if_neg (by rw [Hc.out]; decide), if_pos (List.any_eq_true.2 ⟨x, Hmem.out, Hb.out⟩)] at he
          injection he with e1 e2
          subst e1 e2
          exact ⟨_, rfl, OB.nil _ _, HG3.out⟩
        by_cases h2 : (xs.length : Int) ≤ x
        case pos =>
          have Hb := Lib.hid (show badX xs x = true by unfold badX; rw [decide_eq_true h2, Bool.or_true])
          have h1' : decide (x < 0) = false := decide_eq_false h1
          clear h1
          go_wp2_with fail
          go_ret2
          have he := HE.out
          unfold decE at he
          rw [if_neg (by rw [Hc.out]; decide), if_pos (List.any_eq_true.2 ⟨x, Hmem.out, Hb.out⟩)] at he
          injection he with e1 e2
          subst e1 e2
          exact ⟨_, rfl, OB.nil _ _, HG3.out⟩
        have Hb := Lib.hid (show badX xs x = false by unfold badX; rw [decide_eq_false h1, decide_eq_false h2]; rfl)
        have h1' : decide (x < 0) = false := decide_eq_false h1
        have h2' : decide ((xs.length : Int) ≤ x) = false := decide_eq_false h2
        clear h1 h2
        go_wp2_with fail
        go_roundg (gk - 1)
        case measure => have := HK.out; have := Hk.out; omega
        case rel => exact ⟨k + 1, by go_num, rfl, ⟨Hk.out, by have := HK.out; have := Hk.out; omega, Htk.out Hb.out⟩⟩
      · have Hk := Lib.hid (show k = l.length by have := HK.out; omega)
        go_wp2_with fail
        go_meet
        refine Lib.hid ⟨rfl, fun x hx => HK.out.2.2 x (by rw [Hk.out, List.take_of_length_le (Nat.le_refl _)]; exact hx)⟩
  case rest =>
  obtain ⟨rfl, hin⟩ := hcut.out
  have Hin := Lib.hid hin
  clear hin hcut
  obtain ⟨i0, hi0, hz0, hz1, hz2⟩ := info_parts info_sb
  have f3 : wc.cell? ⟨q1, 0, none⟩ = some (.slice A xs.length cap) := by rw [HB3.out.cell]; rfl
  have hmk := fun w => run_make (P := Try.prog) w TSS TSB i0 nilS Try.underlying110 hi0 hz0 .i64 .i64 (xs.length : Nat) (xs.length : Nat) (by omega) (by omega) (by rw [hz2]; omega) (by omega)
  rw [made_s i0 hz1] at hmk
  simp only [Int.toNat_natCast] at hmk
  clear hi0 hz0 hz1 hz2
  go_upto_region 13 with (fail)
  have HD := Lib.hid (show DA w (((wc.alloc (.cells (Array.replicate xs.length nilS) TSB)).alloc (.cells #[.slice (some ⟨wc.heap.size, 0, none⟩) xs.length xs.length] TSS)).alloc (.cells #[decF (wc.heap.size + 1) q1 (wc.heap.size + 1 + 1)] TFn)) wc.heap.size (wc.heap.size + 1) q1 (wc.heap.size + 1 + 1) (.slice A xs.length cap) xs (List.replicate xs.length nilS) from by
    have b1 := Blk.new wc TSB (Array.replicate xs.length nilS)
    have b2 := Blk.new (wc.alloc (.cells (Array.replicate xs.length nilS) TSB)) TSS #[.slice (some ⟨wc.heap.size, 0, none⟩) xs.length xs.length]
    have b3 := Blk.new ((wc.alloc (.cells (Array.replicate xs.length nilS) TSB)).alloc (.cells #[.slice (some ⟨wc.heap.size, 0, none⟩) xs.length xs.length] TSS)) TFn #[decF (wc.heap.size + 1) q1 (wc.heap.size + 1 + 1)]
    have s1 : (wc.alloc (.cells (Array.replicate xs.length nilS) TSB)).heap.size = wc.heap.size + 1 := by simp
    have s2 : ((wc.alloc (.cells (Array.replicate xs.length nilS) TSB)).alloc (.cells #[.slice (some ⟨wc.heap.size, 0, none⟩) xs.length xs.length] TSS)).heap.size = wc.heap.size + 1 + 1 := by simp
    rw [s1] at b2
    rw [s2] at b3
    refine ⟨((HG3.out.alloc _).alloc _).alloc _, HS0.out, HG3.out.size, ?_, b2.alloc _, ((HB3.out.alloc _).alloc _).alloc _, b3, by simp, fun i v hv => Or.inl ?_⟩
    · rw [show (List.replicate xs.length nilS).toArray = Array.replicate xs.length nilS by simp]
      exact (b1.alloc _).alloc _
    · rw [List.getElem?_replicate] at hv
      split at hv
      · injection hv with hv; exact hv.symm
      · cases hv)
  obtain ⟨b10, hb10⟩ : ∃ b, wc.heap.size + 1 = b := ⟨_, rfl⟩
  rw [hb10] at HD ⊢
  obtain ⟨b11, hb11⟩ : ∃ b, b10 + 1 = b := ⟨_, rfl⟩
  rw [hb11] at HD ⊢
  clear hb10 hb11 hmk f3
  generalize wc.heap.size = ga at HD ⊢
  generalize World.alloc (World.alloc (World.alloc wc _) _) _ = w4 at HD ⊢
  go_wp2_with fail
  go_loopg [12, 46] (l.length + 1) (fun m s12 s46 wr => ∃ (k : Nat) (v : Value) (vals : List Value), v = s12 ∧ s46 = .int .i64 k ∧ Hid (k ≤ l.length ∧ l.length - k < m) ∧ Hid (DA w wr ga b10 q1 b11 (.slice A xs.length cap) xs vals ∧ OB wr w.heap.size v (flatE xs (l.take k)) ∧ Dj vals v ∧ (flatE xs (l.take k)).length ≤ 4096))
  case atStart => exact ⟨0, nilS, _, rfl, rfl, ⟨Nat.zero_le _, by omega⟩, HD.out, OB.nil _ _, fun i u g _ _ => by simp [Value.ownBlock], Nat.zero_le _⟩
  case round =>
    obtain ⟨k, v, vals, rfl, rfl, HK, HP⟩ := hrel
    clear HD
    by_cases hk : k < l.length
    · obtain ⟨ba, oa, rfl, hba, hcell⟩ := (HV0.out.gr HP.out.1.gr).at_ (s := 1) (fun _ => rfl) rfl hk
      have d0 := hcell 0 (by omega)
      simp [encI] at d0
      have hki : (k : Int) < l.length := by omega
      have Hk := Lib.hid hk
      obtain ⟨xn, hx⟩ : ∃ x : Nat, l[k]'hk = x := by
        have h := Hin.out _ (List.getElem_mem hk)
        unfold badX at h
        simp at h
        exact ⟨(l[k]'hk).toNat, by omega⟩
      have Hxn := Lib.hid (show xn < xs.length from by
        have h := Hin.out _ (List.getElem_mem hk)
        unfold badX at h
        simp at h
        omega)
      rw [hx] at d0
      have Hft := Lib.hid (show flatE xs (l.take (k + 1)) = flatE xs (l.take k) ++ expE xs xn by rw [flatE_take xs l hk, hx])
      have Hcl := Lib.hid (dec_any Hc.out (xn + 1) xn vals wr (by omega) Hxn.out HP.out.1)
      have c11 := HP.out.1.cells.2.2
      clear hcell hba hx hk
      obtain ⟨Av, cv, rfl⟩ := own_formN HP.out.2.1.own
      have Hel := Lib.hid (expE_le xs xn)
      go_upto_region 18 with (go_at_call 74; refine Hcl.out.mono ?_; rintro e w5 ⟨u, vals1, rfl, h1, h2, h3, h4, h5, h6⟩; have HL := Lib.hid (And.intro h1 (And.intro h2 (And.intro h3 (And.intro h5 h6)))); clear h1 h2 h3 h4 h5 h6)
      have hou := (HL.out.1.ok xn u HL.out.2.1).resolve_left HL.out.2.2.1
      obtain ⟨Au, cu, rfl⟩ := own_formN hou
      have Hou := Lib.hid hou
      have Hlt := Lib.hid (fun kk hk => (HP.out.2.1.own.lt kk hk).2)
      have HOv := Lib.hid (HP.out.2.1.fr HL.out.2.2.2.1 (fun kk hk e => own_blk_ne HP.out.2.1.own HP.out.1.ba (by decide) (e ▸ hk)))
      have HDj := Lib.hid (show Dj vals1 (.slice Av (flatE xs (l.take k)).length cv) from fun i u2 g hu hg e => by
        rcases HL.out.2.2.2.2 i u2 hu with h | h
        · exact HP.out.2.2.1 i u2 g h hg e
        · have := h g hg
          have := Hlt.out g e
          omega)
      clear hou Hcl c11 d0
      have hml : ((flatE xs (l.take k)).length : Int) ≤ 4096 := by have := HP.out.2.2.2; omega
      have hel : ((expE xs xn).length : Int) ≤ 256 := by have := Hel.out; omega
      by_cases hbig : 4096 < (flatE xs (l.take k)).length + (expE xs xn).length
      · have hb1 : (4096 : Int) < ((flatE xs (l.take k)).length : Int) + ((expE xs xn).length : Int) := by omega
        have Hbig := Lib.hid hbig
        clear hbig
        go_wp2_with fail
        go_ret2
        have he := HE.out
        unfold decE at he
        have hf := flatE_le xs l (k + 1)
        rw [Hft.out, List.length_append] at hf
        rw [if_neg (by rw [Hc.out]; decide), if_neg (by rw [List.any_eq_true]; rintro ⟨y, hy, hy2⟩; rw [Hin.out y hy] at hy2; cases hy2), if_pos (by have := Hbig.out; omega)] at he
        injection he with e1 e2
        subst e1 e2
        exact ⟨_, rfl, OB.nil _ _, HL.out.1.gr⟩
      · have hb1 : ¬ (4096 : Int) < ((flatE xs (l.take k)).length : Int) + ((expE xs xn).length : Int) := by omega
        have Hbig := Lib.hid hbig
        obtain ⟨i1, hi1, hx0, hx1, hx2⟩ := info_parts info_u8
        clear hbig
        go_wp2_with (
          at_builtin
          refine wpList_append_st _ encB rfl (.tmp 59) (.tmp 60) TSB rfl w.heap.size TU8 i1 (.int .u8 0) 1 1 Try.underlying28 hi1 hx0 hx1 hx2 rfl (by decide) (.slice Av (flatE xs (l.take k)).length cv) _ _ rfl HOv.out.own (.slice Au (expE xs xn).length cu) (expE xs xn) rfl (SL.of_own (enc := encB) Hou.out rfl) (fun _ => rfl) encB_one (by have := Hbig.out; unfold maxLen; omega) (by have := Hbig.out; omega) HL.out.1.gr.size ?_
          intro v3 w6 hown3 hg3 hat3 hsp3
          rw [← List.flatMap_append] at hown3
          obtain ⟨A3, cap3, rfl⟩ := own_formN hown3
          have HO3 := Lib.hid (show OB w6 w.heap.size (.slice A3 ((flatE xs (l.take k)).length + (expE xs xn).length) cap3) (flatE xs (l.take (k + 1))) from ⟨by rw [Hft.out, List.length_append]; exact hown3, hsp3 IsB (fun u hu => by simp [Value.cells] at hu; subst hu; exact ⟨0, rfl⟩) (fun u hu => encB_isB _ u hu) HOv.out.spare⟩)
          have HD3 := Lib.hid (HL.out.1.apart HOv.out.own HDj.out hg3)
          have HJ3 := Lib.hid (show Dj vals1 (.slice A3 ((flatE xs (l.take k)).length + (expE xs xn).length) cap3) from fun i u2 g hu hg e => by
            rcases hat3 with h | h
            · exact HDj.out i u2 g hu hg (h ▸ e)
            · rw [h] at e
              injection e with e
              rcases HL.out.1.ok i u2 hu with h2 | h2
              · subst h2; simp [Value.ownBlock] at hg
              · have := (h2.lt g hg).2
                omega)
          clear hown3 hg3 hat3 hsp3)
        go_roundg (gk - 1)
        case measure => have := HK.out; have := Hk.out; omega
        case rel => exact ⟨k + 1, _, vals1, rfl, by go_num, ⟨Hk.out, by have := HK.out; have := Hk.out; omega⟩, HD3.out, HO3.out, HJ3.out, by rw [Hft.out, List.length_append]; have := Hbig.out; omega⟩
    · have Hk := Lib.hid (show k = l.length by have := HK.out; omega)
      go_wp2_with fail
      go_ret2
      have he := HE.out
      have hfull : flatE xs (l.take k) = flatE xs l := by rw [Hk.out, List.take_of_length_le (Nat.le_refl _)]
      have hm := HP.out.2.2.2
      rw [hfull] at hm
      unfold decE at he
      rw [if_neg (by rw [Hc.out]; decide), if_neg (by rw [List.any_eq_true]; rintro ⟨y, hy, hy2⟩; rw [Hin.out y hy] at hy2; cases hy2), if_neg (by omega)] at he
      injection he with e1 e2
      subst e1 e2
      exact ⟨v, rfl, by rw [← hfull]; exact HP.out.2.1, HP.out.1.gr⟩
end Bpe
end Go.Proofs.Ytobedpohoellkaa
