/- model: the walk of ModelKeeps. -/
import Derived.Test.YtlodbhlidgepfaaMLv
import Derived.Test.YtlodbhlidgepfaaMPk
import Derived.Test.YtlodbhlidgepfaaFopd
set_option linter.unusedVariables false
set_option linter.unusedSimpArgs false
namespace Go.Proofs.Ytlodbhlidgepfaa
open Go.RowKit
open Voc Leb Bpe
namespace Mod
theorem deed_at {B : Nat → Prop} {w : World} {A : Option Addr} {n cap : Nat} {X : List Ds} {L : List Dd} (hd : SL encDs w (.slice A n cap) X) (ha : Al (DdR B w) X L) {k : Nat} (hk : k < L.length) :
    ∃ b off A2 c2, A = some ⟨b, off, none⟩ ∧ b < w.heap.size ∧ w.cell? ⟨b, off + k * 4, none⟩ = some (.int .u8 L[k].k) ∧ w.cell? ⟨b, off + k * 4 + 1, none⟩ = some (.int .u64 L[k].id) ∧ w.cell? ⟨b, off + k * 4 + 2, none⟩ = some (.int .i64 L[k].n) ∧
      w.cell? ⟨b, off + k * 4 + 3, none⟩ = some (.slice A2 L[k].b.length c2) ∧ SL encB w (.slice A2 L[k].b.length c2) L[k].b ∧ SB B (.slice A2 L[k].b.length c2) L[k].b.length := by
  have hkD : k < X.length := by rw [ha.len]; exact hk
  obtain ⟨b, off, rfl, hb, hc⟩ := hd.at_ (s := 4) (fun _ => rfl) rfl hkD
  obtain ⟨h1, h2, h3, h4, h5⟩ := ha.get k hkD hk
  obtain ⟨A2, c2, e⟩ := SL.form h4
  refine ⟨b, off, A2, c2, rfl, hb, ?_, ?_, ?_, ?_, by rw [← e]; exact h4, by rw [← e]; exact h5⟩
  · have := hc 0 (by omega); rw [Nat.add_zero] at this; rw [this, ← h1]; rfl
  · have := hc 1 (by omega); rw [← Nat.add_assoc] at this; rw [this, ← h2]; rfl
  · have := hc 2 (by omega); rw [← Nat.add_assoc] at this; rw [this, ← h3]; rfl
  · have := hc 3 (by omega); rw [← Nat.add_assoc] at this; rw [this, ← e]; rfl
theorem RS.lt {B : Nat → Prop} {w : World} {dv pv : Value} {s : St} (h : RS B w dv pv s) : RS (fun k => B k ∧ k < w.heap.size) w dv pv s := by
  obtain ⟨D, hd, ha⟩ := h.ex
  have h1 := sb_old hd
  rw [ha.len] at h1
  exact ⟨⟨D, hd, ha.imp fun a c hr => ⟨hr.1, hr.2.1, fun h0 k hk => ⟨hr.2.2 h0 k hk, sb_old hr.2.1 h0 k hk⟩⟩⟩, h.voc, fun h0 k hk => ⟨h.bd h0 k hk, h1 h0 k hk⟩, fun h0 k hk => ⟨h.bp h0 k hk, sb_old h.voc h0 k hk⟩⟩
def Was (k : Int) (b : Bool) (d : Dd) (a : An) : Prop := b = true ↔ d.k = k ∧ a.e = 0
/-- documents, by what they read as in the world w -/
def Own (w wr : World) (b : Nat) (tv : Value) (ds : List Dc) : Prop := ∃ D, wr.ownsRow b TDoc 2 tv ds.length (D.flatMap encD) ∧ Al (RDR (fun k => k < w.heap.size) w) D ds
theorem Own.fr {w wr w' : World} {b : Nat} {tv : Value} {ds : List Dc} {S : Nat → Prop} (h : Own w wr b tv ds) (hf : Fr wr w' S) (hn : ∀ k, tv.ownBlock = some k → ¬ S k) : Own w w' b tv ds := by
  obtain ⟨D, hd, ha⟩ := h
  exact ⟨D, hf.owns hd hn, ha⟩
theorem Own.far {w wr w' : World} {b g : Nat} {tv : Value} {ds : List Dc} {t : TypeId} {cs : Array Value} (h : Own w wr b tv ds) (hb : Blk wr g t cs) (ht : TDoc ≠ t) (hf : Fr wr w' (fun k => k = g)) : Own w w' b tv ds := by
  obtain ⟨D, hd, ha⟩ := h
  exact ⟨D, hf.owns hd (fun k hk e => own_blk_ne hd hb ht (e ▸ hk)), ha⟩
theorem Own.lt {w wr : World} {b : Nat} {tv : Value} {ds : List Dc} (h : Own w wr b tv ds) : ∀ k, tv.ownBlock = some k → b ≤ k ∧ k < wr.heap.size := by
  obtain ⟨D, hd, _⟩ := h
  exact fun k hk => hd.lt k hk
theorem Own.form {w wr : World} {b : Nat} {tv : Value} {ds : List Dc} (h : Own w wr b tv ds) : ∃ A c, tv = .slice A ds.length c := by
  obtain ⟨D, hd, _⟩ := h
  exact own_formN hd
/-- the state so far, and the documents that are there -/
structure KI (w wr : World) (p : Nat) (s : St) (dv pv tv : Value) (i : Nat) : Prop where
  gr : Gr w wr
  lo : w.heap.size ≤ p
  may : mayB s = true
  wf : wfS s
  len : s.docs.length ≤ i
  blk : Blk wr p TSt (stA dv pv s.next)
  rs : RS (fun k => k ≠ p) wr dv pv s
  own : Own w wr w.heap.size tv s.docs
theorem KI.up {w wr : World} {p : Nat} {s : St} {dv pv tv : Value} {i j : Nat} (H : KI w wr p s dv pv tv i) (h : i ≤ j) : KI w wr p s dv pv tv j := ⟨H.gr, H.lo, H.may, H.wf, Nat.le_trans H.len h, H.blk, H.rs, H.own⟩
theorem doc_at2 {B : Nat → Prop} {w wr : World} {A : Option Addr} {n cap : Nat} {D : List (Int × Sv)} {ds : List Dc} (hd : SL encD wr (.slice A n cap) D) (ha : Al (RDR B w) D ds) {k : Nat} (hk : k < ds.length) :
    ∃ b off A2 c2, A = some ⟨b, off, none⟩ ∧ b < wr.heap.size ∧ wr.cell? ⟨b, off + k * 2, none⟩ = some (.int .u64 ds[k].id) ∧ wr.cell? ⟨b, off + k * 2 + 1, none⟩ = some (.slice A2 ds[k].b.length c2) ∧
      RDR B w (ds[k].id, ⟨A2, ds[k].b.length, c2⟩) ds[k] := by
  have hkD : k < D.length := by rw [ha.len]; exact hk
  obtain ⟨b, off, rfl, hb, hc⟩ := hd.at_ (s := 2) (fun _ => rfl) rfl hkD
  obtain ⟨h1, h2, h3⟩ := ha.get k hkD hk
  obtain ⟨A2, c2, e⟩ := SL.form h2
  have e2 : D[k].2 = ⟨A2, ds[k].b.length, c2⟩ := by
    cases hs : D[k].2 with
    | mk a n c => rw [hs] at e; simp only [Sv.v] at e; injection e with e3 e4 e5; subst e3 e4 e5; rfl
  refine ⟨b, off, A2, c2, rfl, hb, ?_, ?_, rfl, by rw [← e2]; exact h2, by rw [← e2]; exact h3⟩
  · have := hc 0 (by omega); rw [Nat.add_zero] at this; rw [this, ← h1]; rfl
  · have := hc 1 (by omega); rw [← Nat.add_assoc] at this; rw [this, ← e]; rfl
/-- the deed is done, and the state is laid -/
structure KJ (w wr : World) (p g6 g7 g8 n0 : Nat) (s' : St) (a : An) (d : Dd) (dv pv tv bv bv8 iv8 : Value) (ds : List Dc) : Prop where
  gr : Gr w wr
  blk : Blk wr p TSt (stA dv pv s'.next)
  rs : RS (fun k => n0 ≤ k ∧ k < g7) wr dv pv s'
  own : Own w wr w.heap.size tv ds
  b6 : Blk wr g6 TDd (ddA d bv)
  b7 : Blk wr g7 TSt (stA dv pv s'.next)
  b8 : Blk wr g8 TAn (anA a bv8 iv8)
  lo : w.heap.size ≤ p ∧ p < g6 ∧ g6 < n0 ∧ n0 ≤ g7 ∧ g7 < g8
  tb : ∀ k, tv.ownBlock = some k → k < n0 ∨ g7 ≤ k
section
variable {w wr w' : World} {p g6 g7 g8 n0 : Nat} {s' : St} {a : An} {d : Dd} {dv pv tv bv bv8 iv8 : Value} {ds : List Dc}
theorem KJ.any (H : KJ w wr p g6 g7 g8 n0 s' a d dv pv tv bv bv8 iv8 ds) (hg : Gr wr w') : KJ w w' p g6 g7 g8 n0 s' a d dv pv tv bv bv8 iv8 ds :=
  ⟨H.gr.trans hg (fun _ _ h => h), H.blk.fr hg (fun h => h), H.rs.gr hg, H.own.fr hg (fun _ _ h => h), H.b6.fr hg (fun h => h), H.b7.fr hg (fun h => h), H.b8.fr hg (fun h => h), H.lo, H.tb⟩
/-- another row of documents of one's own takes the place -/
theorem KJ.turn {T : Value} {es : List Dc} (H : KJ w wr p g6 g7 g8 n0 s' a d dv pv tv bv bv8 iv8 ds) {S : Nat → Prop} (hf : Fr wr w' S) (hS : ∀ k, S k → (tv.ownBlock = some k ∨ wr.heap.size ≤ k)) (ho : Own w w' w.heap.size T es) (hT : ∀ k, T.ownBlock = some k → k < n0 ∨ g7 ≤ k) :
    KJ w w' p g6 g7 g8 n0 s' a d dv pv T bv bv8 iv8 es := by
  obtain ⟨D, hd, _⟩ := H.own
  have hlo := H.lo
  have h8 := H.b8.lt
  have keep : ∀ {g : Nat} {t : TypeId} {cs : Array Value}, TDoc ≠ t → Blk wr g t cs → Blk w' g t cs := fun ht hb => hb.fr hf (fun h => by
    rcases hS _ h with h1 | h1
    · exact own_blk_ne hd hb ht h1
    · have := hb.lt; omega)
  refine ⟨H.gr.trans hf (fun i hi h => ?_), keep (by decide) H.blk, H.rs.fr hf (fun k hk h => ?_), ho, keep (by decide) H.b6, keep (by decide) H.b7, keep (by decide) H.b8, hlo, hT⟩
  · rcases hS _ h with h1 | h1
    · have := (hd.lt i h1).1; omega
    · have := H.gr.size; omega
  · rcases hS _ h with h1 | h1
    · have := H.tb k h1; omega
    · omega
end
theorem KJ.ki {w wr : World} {p g6 g7 g8 n0 i : Nat} {s' : St} {a : An} {d : Dd} {dv pv tv bv bv8 iv8 : Value} (H : KJ w wr p g6 g7 g8 n0 s' a d dv pv tv bv bv8 iv8 s'.docs) (hm : mayB s' = true) (hw : wfS s') (hl : s'.docs.length ≤ i) : KI w wr p s' dv pv tv i :=
  ⟨H.gr, H.lo.1, hm, hw, hl, H.blk, H.rs.imp fun k hk => by have := H.lo; omega, H.own⟩
set_option maxRecDepth 20000 in
set_option maxHeartbeats 8000000 in
theorem ModelKeeps_walk (w : World) (v : Value) (X : List Ds) (L : List Dd) (hX : SL encDs w v X) (hA : Al (DdR (fun k => k < w.heap.size) w) X L) (hL : ∀ x ∈ L, (Lit.int .u8 x.k).wf = true ∧ (Lit.int .u64 x.id).wf = true ∧ (Lit.int .i64 x.n).wf = true ∧ Leb.Bs x.b) (hn : L.length ≤ 1048576) (hb : ∀ x ∈ L, x.b.length ≤ 1048576) :
    Calls Try.prog 3 #[v] w fun e w' => e = .returned (.bool true) ∧ Gr w w' := by
  obtain ⟨A, ca, rfl⟩ := SL.form hX
  rw [hA.len] at hX ⊢
  have HX := Lib.hid (And.intro hX hA)
  have HL := Lib.hid (And.intro hL hb)
  have hn' : (L.length : Int) ≤ 1048576 := by omega
  obtain ⟨i0, hi0, hz0, hz1, hz2⟩ := info_parts info_doc
  clear hX hA hL hb
  have hN := newM_any w
  unfold stA at hN
  have HN := Lib.hid hN
  clear hN
  go_enter Try.func3, Try.ntmps3
  go_upto_region 2 with (go_at_call 5; refine HN.out.mono ?_; rintro e w1 ⟨pv, rfl, ho, hg⟩; obtain ⟨E0, f0, rfl⟩ := ho.rs.form.2; have HO := Lib.hid ho; have HG1 := Lib.hid hg; clear ho hg)
  have HK0 := Lib.hid (show KI w (w1.alloc (.cells (stA nilV (.slice E0 (pls 256).length f0) 1) TSt)) w1.heap.size sv0 nilV (.slice E0 (pls 256).length f0) nilV 0 from
    ⟨HG1.out.alloc _, HG1.out.size, sv0_may, sv0_wf, Nat.le_refl _, Blk.new w1 TSt _, ((HO.out.rs.imp fun k h => (by omega : k ≠ w1.heap.size)).gr ((Fr.refl w1 NoneS).alloc _)), ⟨[], World.ownsRow_nil _ _ _ _, trivial⟩⟩)
  change Code.wp _ _ _ _ (w1.alloc (.cells (stA nilV (.slice E0 (pls 256).length f0) 1) TSt))
  generalize w1.heap.size = p at HK0 ⊢
  generalize World.alloc w1 _ = v0 at HK0 ⊢
  clear HO HG1 HN
  go_upto_block 0 with (fail)
  go_cut [4] (fun s4 wx => ∃ (s : St) (dv pv tv : Value), tv = s4 ∧ Hid (KI w wx p s dv pv tv 30))
  case first =>
    --<< FIRST
    go_wp2_with fail
    go_loopg [2, 4, 5] 31 (fun m s2 s4 s5 wr => ∃ (i : Nat) (s : St) (dv pv tv : Value), s2 = .bool false ∧ tv = s4 ∧ s5 = .int .i64 i ∧ Hid (i ≤ L.length ∧ i ≤ 30 ∧ 30 - i < m) ∧ Hid (KI w wr p s dv pv tv i))
    case atStart => exact ⟨0, _, _, _, _, rfl, rfl, rfl, ⟨Nat.zero_le _, by omega, by omega⟩, HK0.out⟩
    case round =>
      obtain ⟨i, s, dv, pv, tv, rfl, rfl, rfl, HK, HP⟩ := hrel
      by_cases hi : i < L.length
      · by_cases h3 : i < 30
        · have hdi := HX.out
          obtain ⟨ba, oa, A3, c3, e, hba, x0, x1, x2, x3, hsl, hsb⟩ := deed_at (hdi.1.gr HP.out.gr) (hdi.2.imp fun a c h => (⟨h.1, h.2.1, h.2.2.1, h.2.2.2.1.gr HP.out.gr, h.2.2.2.2⟩ : DdR (fun k => k < w.heap.size) wr a c)) hi
          have hslw := (deed_at hdi.1 hdi.2 hi)
          subst e
          have hwd := HL.out.1 _ (List.getElem_mem hi)
          have hwl := HL.out.2 _ (List.getElem_mem hi)
          have hii : (i : Int) < (L.length : Int) := by omega
          have h3i : (i : Int) < 30 := by omega
          have HSw := Lib.hid (show SL encB w (.slice A3 L[i].b.length c3) L[i].b ∧ SB (fun k => k < w.heap.size) (.slice A3 L[i].b.length c3) L[i].b.length from by
            obtain ⟨b', o', A3', c3', e', _, _, _, _, y3, z1, z2⟩ := hslw
            injection e' with e'
            injection e' with e1 e2
            subst e1 e2
            have h1 := (HP.out.gr.cell (p := ⟨ba, oa + i * 4 + 3, none⟩) (World.block_lt_of_cell? _ _ y3) (fun h => h)).trans y3
            rw [x3] at h1
            injection h1 with h1
            rw [h1]
            exact ⟨z1, z2⟩)
          have Hi := Lib.hid (And.intro hi h3)
          clear hslw hdi hsb hba h3 hsl
          generalize L[i]'hi = d at x0 x1 x2 x3 hwd hwl HSw
          clear hi
          have HWd := Lib.hid (And.intro hwd hwl)
          clear hwd hwl
          go_upto_region 7 with (fail)
          have HP1 := Lib.hid ((Fr.refl wr NoneS).alloc (.cells (ddA d (.slice A3 d.b.length c3)) TDd))
          have HB1 := Lib.hid (Blk.new wr TDd (ddA d (.slice A3 d.b.length c3)))
          change Code.wp _ _ _ _ (wr.alloc (.cells (ddA d (.slice A3 d.b.length c3)) TDd))
          have Hg6 := Lib.hid (show p < wr.heap.size from HP.out.blk.lt)
          generalize wr.heap.size = g6 at HB1 Hg6 ⊢
          generalize hx : wr.alloc (.cells (ddA d (.slice A3 d.b.length c3)) TDd) = wa at HP1 HB1 ⊢
          clear hx x0 x1 x2 x3
          obtain ⟨⟨A1, c1, rfl⟩, E1, f1, rfl⟩ := HP.out.rs.form
          have HPa := Lib.hid (HP.out.blk.fr HP1.out (fun h => h))
          have k0 : wa.cell? ⟨p, 0, none⟩ = some (.slice A1 s.docs.length c1) := by rw [HPa.out.cell]; rfl
          have k1 : wa.cell? ⟨p, 1, none⟩ = some (.int .u64 s.next) := by rw [HPa.out.cell]; rfl
          have k2 : wa.cell? ⟨p, 2, none⟩ = some (.slice E1 s.voc.length f1) := by rw [HPa.out.cell]; rfl
          have d0 : wa.cell? ⟨g6, 0, none⟩ = some (.int .u8 d.k) := by rw [HB1.out.cell]; rfl
          have d1 : wa.cell? ⟨g6, 1, none⟩ = some (.int .u64 d.id) := by rw [HB1.out.cell]; rfl
          have d2 : wa.cell? ⟨g6, 2, none⟩ = some (.int .i64 d.n) := by rw [HB1.out.cell]; rfl
          have d3 : wa.cell? ⟨g6, 3, none⟩ = some (.slice A3 d.b.length c3) := by rw [HB1.out.cell]; rfl
          have HD := Lib.hid (do_any (d := d) (HP.out.rs.gr HP1.out) HP.out.wf (by have := HP.out.len; have := Hi.out; omega) (HSw.out.1.gr (HP.out.gr.trans HP1.out (fun _ _ h => h))) HWd.out.1.2.2.2 HWd.out.2)
          have Hwf2 := Lib.hid (do_wf (d := d) HP.out.wf (by have := HP.out.len; have := Hi.out; omega) HWd.out.1.2.2.2)
          have Hmy2 := Lib.hid (do_may (d := d) HWd.out.1.2.2.2 HP.out.may)
          have Hnx2 := Lib.hid (do_next s d)
          have Hst2 := Lib.hid (fun h => do_still (s := s) (d := d) h)
          have Her2 := Lib.hid (fun h => do_err (s := s) (d := d) h)
          have Hin2 := Lib.hid (fun h1 h2 => do_ing (s := s) (d := d) h1 h2)
          have Hde2 := Lib.hid (fun h1 h2 => do_del (s := s) (d := d) HP.out.may h1 h2)
          have Hot2 := Lib.hid (fun h1 h2 => do_other (s := s) (d := d) h1 h2)
          have Hln2 := Lib.hid (do_len s d)
          generalize doE s d = R at HD Hwf2 Hmy2 Hnx2 Hst2 Her2 Hin2 Hde2 Hot2 Hln2
          obtain ⟨s', a'⟩ := R
          simp only at HD Hwf2 Hmy2 Hnx2 Hst2 Her2 Hin2 Hde2 Hot2 Hln2
          unfold stA ddA at HD
          go_upto_region 8 with (first
            | (go_at_call 6; refine HD.out.mono ?_; rintro e w4 ⟨dv4, pv4, bv4, iv4, n4, rfl, hr, hn4, hb4, hi4, hg4⟩; obtain ⟨⟨A4, c4, rfl⟩, E4, f4, rfl⟩ := hr.form; obtain ⟨X4, x4, rfl⟩ := own_formN hb4.own; obtain ⟨Y4, y4, rfl⟩ := own_formN hi4; have HR4 := Lib.hid hr; have HK4 := Lib.hid hg4; clear hr hn4 hb4 hi4 hg4; unfold stA anA)
            | fail)
          have HK5 := Lib.hid ((HK4.out.alloc (.cells (stA (.slice A4 s'.docs.length c4) (.slice E4 s'.voc.length f4) s'.next) TSt)).alloc (.cells (anA a' (.slice X4 a'.b.length x4) (.slice Y4 a'.ids.length y4)) TAn))
          have HB7 := Lib.hid ((Blk.new w4 TSt (stA (.slice A4 s'.docs.length c4) (.slice E4 s'.voc.length f4) s'.next)).alloc (.cells (anA a' (.slice X4 a'.b.length x4) (.slice Y4 a'.ids.length y4)) TAn))
          have HB8 := Lib.hid (Blk.new (w4.alloc (.cells (stA (.slice A4 s'.docs.length c4) (.slice E4 s'.voc.length f4) s'.next) TSt)) TAn (anA a' (.slice X4 a'.b.length x4) (.slice Y4 a'.ids.length y4)))
          have hsz : (w4.alloc (.cells (stA (.slice A4 s'.docs.length c4) (.slice E4 s'.voc.length f4) s'.next) TSt)).heap.size = w4.heap.size + 1 := by simp
          rw [hsz] at HB8
          have HRt := Lib.hid (((HR4.out.lt.imp (C := fun k => wa.heap.size ≤ k ∧ k < w4.heap.size) fun k h => ⟨h.1.1, h.2⟩).gr ((Fr.refl w4 NoneS).alloc (.cells (stA (.slice A4 s'.docs.length c4) (.slice E4 s'.voc.length f4) s'.next) TSt))).gr ((Fr.refl _ NoneS).alloc (.cells (anA a' (.slice X4 a'.b.length x4) (.slice Y4 a'.ids.length y4)) TAn)))
          change Code.wp _ _ _ _ ((w4.alloc (.cells (stA (.slice A4 s'.docs.length c4) (.slice E4 s'.voc.length f4) s'.next) TSt)).alloc (.cells (anA a' (.slice X4 a'.b.length x4) (.slice Y4 a'.ids.length y4)) TAn))
          have Hg7 := Lib.hid (show wa.heap.size ≤ w4.heap.size from HK4.out.size)
          obtain ⟨g8, hg8⟩ : ∃ g, w4.heap.size + 1 = g := ⟨_, rfl⟩
          rw [hg8] at HB8 ⊢
          have Hg8 := Lib.hid hg8
          have Hs5 := Lib.hid (show w4.heap.size ≤ ((w4.alloc (.cells (stA (.slice A4 s'.docs.length c4) (.slice E4 s'.voc.length f4) s'.next) TSt)).alloc (.cells (anA a' (.slice X4 a'.b.length x4) (.slice Y4 a'.ids.length y4)) TAn)).heap.size by simp; omega)
          generalize w4.heap.size = g7 at HB7 HRt Hg7 Hg8 Hs5 ⊢
          generalize World.alloc (World.alloc w4 _) _ = w5 at HK5 HB7 HB8 HRt Hs5 ⊢
          clear hg8 hsz HR4 HK4 k0 k1 k2 d0 d1 d2 d3 HD
          have HK6 := Lib.hid (HP1.out.trans HK5.out (fun _ _ h => h))
          have HBp := Lib.hid (HPa.out.fr HK5.out (fun h => h))
          have HBd := Lib.hid (HB1.out.fr HK5.out (fun h => h))
          have k0 : w5.cell? ⟨g7, 0, none⟩ = some (.slice A4 s'.docs.length c4) := by rw [HB7.out.cell]; rfl
          have k1 : w5.cell? ⟨g7, 1, none⟩ = some (.int .u64 s'.next) := by rw [HB7.out.cell]; rfl
          have k2 : w5.cell? ⟨g7, 2, none⟩ = some (.slice E4 s'.voc.length f4) := by rw [HB7.out.cell]; rfl
          have HMt := Lib.hid (fun wx (hg : Gr w5 wx) => mayM_any (HRt.out.gr hg) Hwf2.out)
          rw [Hmy2.out] at HMt
          have HCh := Lib.hid (fun wx (hg : Gr w5 wx) => changes_any d ((HSw.out.1.gr (HP.out.gr.trans HK6.out (fun _ _ h => h))).gr hg) HWd.out.2)
          have HSa := Lib.hid (fun wx (hg : Gr w5 wx) => sameM_any ((HP.out.rs.gr HK6.out).gr hg) (HRt.out.gr hg) HP.out.wf Hwf2.out)
          unfold stA at HMt HSa
          unfold ddA at HCh
          obtain ⟨cc, hcc⟩ : ∃ c, (decide (d.k = 1 ∨ d.k = 2 ∨ d.k = 7 ∨ d.k = 9) && dmayE d) = c := ⟨_, rfl⟩
          rw [hcc] at HCh Hst2
          clear hcc
          go_cut [66] (fun s66 wx => s66 = .bool false ∧ Hid (Gr w5 wx))
          case first =>
            --<< R8
            have hnx : decide (s'.next < s.next) = false := decide_eq_false (by have := Hnx2.out; omega)
            have Hkey := Lib.hid (show ∀ wx, Gr w5 wx → wx.cell? ⟨g7, 0, none⟩ = some (.slice A4 s'.docs.length c4) ∧ wx.cell? ⟨g7, 1, none⟩ = some (.int .u64 s'.next) ∧ wx.cell? ⟨g7, 2, none⟩ = some (.slice E4 s'.voc.length f4) ∧
                wx.cell? ⟨p, 0, none⟩ = some (.slice A1 s.docs.length c1) ∧ wx.cell? ⟨p, 1, none⟩ = some (.int .u64 s.next) ∧ wx.cell? ⟨p, 2, none⟩ = some (.slice E1 s.voc.length f1) ∧
                wx.cell? ⟨g6, 0, none⟩ = some (.int .u8 d.k) ∧ wx.cell? ⟨g6, 1, none⟩ = some (.int .u64 d.id) ∧ wx.cell? ⟨g6, 2, none⟩ = some (.int .i64 d.n) ∧ wx.cell? ⟨g6, 3, none⟩ = some (.slice A3 d.b.length c3) ∧ wx.cell? ⟨g8, 0, none⟩ = some (.int .i64 a'.e) from fun wx hg => by
              have b7 := HB7.out.fr hg (fun h => h)
              have b8 := HB8.out.fr hg (fun h => h)
              have bp := HBp.out.fr hg (fun h => h)
              have bd := HBd.out.fr hg (fun h => h)
              exact ⟨by rw [b7.cell]; rfl, by rw [b7.cell]; rfl, by rw [b7.cell]; rfl, by rw [bp.cell]; rfl, by rw [bp.cell]; rfl, by rw [bp.cell]; rfl, by rw [bd.cell]; rfl, by rw [bd.cell]; rfl, by rw [bd.cell]; rfl, by rw [bd.cell]; rfl, by rw [b8.cell]; rfl⟩)
            have HE0 := Lib.hid (show a'.e ≠ 0 → s' = s from Her2.out)
            have HC0 := Lib.hid (show cc = false → s' = s from Hst2.out)
            have hself := sameE_self s
            have Hself := Lib.hid (show s' = s → sameE s s' = true from fun h => by rw [h]; exact hself)
            clear hself
            obtain ⟨ee, hee⟩ : ∃ x, a'.e = x := ⟨_, rfl⟩
            rw [hee] at HE0
            have Hee := Lib.hid hee
            by_cases he : ee = 0
            · have he1 : (ee != 0) = false := by rw [he]; rfl
              rw [hee] at Hkey
              clear he hee
              cases cc with
              | true =>
                go_wp2_with (first
                  | (go_at_call 7; refine (HMt.out _ (Fr.refl w5 NoneS)).mono ?_; rintro e wm ⟨rfl, hgx⟩; obtain ⟨k0, k1, k2, q0, q1, q2, d0, d1, d2, d3, e0⟩ := Hkey.out _ hgx)
                  | (go_at_call 8; refine (HCh.out _ (by assumption)).mono ?_; rintro e wm2 ⟨rfl, hg⟩; have hgx := Fr.trans (S := NoneS) (T := NoneS) (w := w5) (by assumption) hg (fun _ _ h => h); clear hg; obtain ⟨k0, k1, k2, q0, q1, q2, d0, d1, d2, d3, e0⟩ := Hkey.out _ hgx)
                  | (go_at_call 9; refine (HSa.out _ (by assumption)).mono ?_; rintro e wm3 ⟨rfl, hg⟩; have hgx := Fr.trans (S := NoneS) (T := NoneS) (w := w5) (by assumption) hg (fun _ _ h => h); clear hg; obtain ⟨k0, k1, k2, q0, q1, q2, d0, d1, d2, d3, e0⟩ := Hkey.out _ hgx))
                go_meet
                exact ⟨rfl, by assumption⟩
              | false =>
                rw [Hself.out (HC0.out rfl)] at HSa
                go_wp2_with (first
                  | (go_at_call 7; refine (HMt.out _ (Fr.refl w5 NoneS)).mono ?_; rintro e wm ⟨rfl, hgx⟩; obtain ⟨k0, k1, k2, q0, q1, q2, d0, d1, d2, d3, e0⟩ := Hkey.out _ hgx)
                  | (go_at_call 8; refine (HCh.out _ (by assumption)).mono ?_; rintro e wm2 ⟨rfl, hg⟩; have hgx := Fr.trans (S := NoneS) (T := NoneS) (w := w5) (by assumption) hg (fun _ _ h => h); clear hg; obtain ⟨k0, k1, k2, q0, q1, q2, d0, d1, d2, d3, e0⟩ := Hkey.out _ hgx)
                  | (go_at_call 9; refine (HSa.out _ (by assumption)).mono ?_; rintro e wm3 ⟨rfl, hg⟩; have hgx := Fr.trans (S := NoneS) (T := NoneS) (w := w5) (by assumption) hg (fun _ _ h => h); clear hg; obtain ⟨k0, k1, k2, q0, q1, q2, d0, d1, d2, d3, e0⟩ := Hkey.out _ hgx))
                go_meet
                exact ⟨rfl, by assumption⟩
            · have he1 : (ee != 0) = true := bne_iff_ne.2 he
              rw [hee] at Hkey
              rw [Hself.out (HE0.out he)] at HSa
              clear he hee
              cases cc with
              | true =>
                go_wp2_with (first
                  | (go_at_call 7; refine (HMt.out _ (Fr.refl w5 NoneS)).mono ?_; rintro e wm ⟨rfl, hgx⟩; obtain ⟨k0, k1, k2, q0, q1, q2, d0, d1, d2, d3, e0⟩ := Hkey.out _ hgx)
                  | (go_at_call 8; refine (HCh.out _ (by assumption)).mono ?_; rintro e wm2 ⟨rfl, hg⟩; have hgx := Fr.trans (S := NoneS) (T := NoneS) (w := w5) (by assumption) hg (fun _ _ h => h); clear hg; obtain ⟨k0, k1, k2, q0, q1, q2, d0, d1, d2, d3, e0⟩ := Hkey.out _ hgx)
                  | (go_at_call 9; refine (HSa.out _ (by assumption)).mono ?_; rintro e wm3 ⟨rfl, hg⟩; have hgx := Fr.trans (S := NoneS) (T := NoneS) (w := w5) (by assumption) hg (fun _ _ h => h); clear hg; obtain ⟨k0, k1, k2, q0, q1, q2, d0, d1, d2, d3, e0⟩ := Hkey.out _ hgx))
                go_meet
                exact ⟨rfl, by assumption⟩
              | false =>
                go_wp2_with (first
                  | (go_at_call 7; refine (HMt.out _ (Fr.refl w5 NoneS)).mono ?_; rintro e wm ⟨rfl, hgx⟩; obtain ⟨k0, k1, k2, q0, q1, q2, d0, d1, d2, d3, e0⟩ := Hkey.out _ hgx)
                  | (go_at_call 8; refine (HCh.out _ (by assumption)).mono ?_; rintro e wm2 ⟨rfl, hg⟩; have hgx := Fr.trans (S := NoneS) (T := NoneS) (w := w5) (by assumption) hg (fun _ _ h => h); clear hg; obtain ⟨k0, k1, k2, q0, q1, q2, d0, d1, d2, d3, e0⟩ := Hkey.out _ hgx)
                  | (go_at_call 9; refine (HSa.out _ (by assumption)).mono ?_; rintro e wm3 ⟨rfl, hg⟩; have hgx := Fr.trans (S := NoneS) (T := NoneS) (w := w5) (by assumption) hg (fun _ _ h => h); clear hg; obtain ⟨k0, k1, k2, q0, q1, q2, d0, d1, d2, d3, e0⟩ := Hkey.out _ hgx))
                go_meet
                exact ⟨rfl, by assumption⟩
            -->> R8
          case rest =>
          obtain ⟨rfl, HGc⟩ := hcut
          have HB7c := Lib.hid (HB7.out.fr HGc.out (fun h => h))
          clear k0 k1 k2
          have k0 : wc.cell? ⟨g7, 0, none⟩ = some (.slice A4 s'.docs.length c4) := by rw [HB7c.out.cell]; rfl
          have k1 : wc.cell? ⟨g7, 1, none⟩ = some (.int .u64 s'.next) := by rw [HB7c.out.cell]; rfl
          have k2 : wc.cell? ⟨g7, 2, none⟩ = some (.slice E4 s'.voc.length f4) := by rw [HB7c.out.cell]; rfl
          have HBpc := Lib.hid (HBp.out.fr HGc.out (fun h => h))
          go_upto_region 11 with (first
            | refine wpList_store_row rfl _ _ _ rfl p (stA (.slice A4 s'.docs.length c4) (.slice E4 s'.voc.length f4) s'.next) rfl rfl TSt _ HBpc.out (by kernel_rfl) (by kernel_rfl) (by kernel_rfl) ?_
            | fail)
          have HJ := Lib.hid (show KJ w (wc.setRow p (stA (.slice A4 s'.docs.length c4) (.slice E4 s'.voc.length f4) s'.next)) p g6 g7 g8 wa.heap.size s' a' d (.slice A4 s'.docs.length c4) (.slice E4 s'.voc.length f4) tv (.slice A3 d.b.length c3) (.slice X4 a'.b.length x4) (.slice Y4 a'.ids.length y4) s.docs from by
            have hf : Fr wc (wc.setRow p (stA (.slice A4 s'.docs.length c4) (.slice E4 s'.voc.length f4) s'.next)) (fun k => k = p) := Sha.fr_setRow (S := fun k => k = p) (Fr.refl wc _) (fun _ => rfl) _
            have h6 := Hg6.out
            have h61 := HB1.out.lt
            have h7 := Hg7.out
            have h8 := Hg8.out
            have hw := HP.out.lo
            have hgw := (HK6.out.trans HGc.out (fun _ _ h => h))
            have hsz := HP.out.gr.size
            have hsa := HP1.out.size
            refine ⟨((HP.out.gr.trans HK6.out (fun _ _ h => h)).trans HGc.out (fun _ _ h => h)).trans hf (fun i hi e => by omega), Sha.blk_setRow HBpc.out _, (HRt.out.gr HGc.out).fr hf (fun k hk e => by omega), (HP.out.own.fr hgw (fun _ _ h => h)).far HBpc.out (by decide) hf, (HBd.out.fr HGc.out (fun h => h)).fr hf (by omega), HB7c.out.fr hf (by omega), (HB8.out.fr HGc.out (fun h => h)).fr hf (by omega), ⟨hw, h6, h61, h7, by omega⟩, fun k hk => Or.inl ?_⟩
            have := (HP.out.own.lt k hk).2
            omega)
          generalize World.setRow wc _ _ = w9 at HJ ⊢
          clear k0 k1 k2 HB7c HBpc HB7 HB8 HRt HBp HBd HK5 HK6 HMt HCh HSa HGc HPa HB1 HP1
          obtain ⟨Tv, tvc, rfl⟩ := HJ.out.own.form
          have Hb9 := Lib.hid (show s.docs.length ≤ 30 from by have := HP.out.len; have := Hi.out; omega)
          have HnxL := Lib.hid (show 1 ≤ s'.next ∧ s'.next ≤ 4294967296 from (may_parts Hmy2.out).1)
          try simp only [Act.put]
          go_cut [75] (fun s75 wx => ∃ b : Bool, s75 = .bool b ∧ wx = w9 ∧ Hid (Was 1 b d a'))
          case first =>
            --<< R11
            have d0 : w9.cell? ⟨g6, 0, none⟩ = some (.int .u8 d.k) := by rw [HJ.out.b6.cell]; rfl
            have a0 : w9.cell? ⟨g8, 0, none⟩ = some (.int .i64 a'.e) := by rw [HJ.out.b8.cell]; rfl
            obtain ⟨kk, hkk⟩ : ∃ k, d.k = k := ⟨_, rfl⟩
            have Hkk := Lib.hid hkk
            rw [hkk] at d0
            obtain ⟨ee, hee⟩ : ∃ k, a'.e = k := ⟨_, rfl⟩
            have Hee := Lib.hid hee
            rw [hee] at a0
            clear hkk hee
            by_cases h1 : kk = 1
            · by_cases h2 : ee = 0
              · subst h1 h2
                go_wp2_with fail
                go_meet
                exact ⟨true, rfl, rfl, ⟨fun _ => ⟨Hkk.out, Hee.out⟩, fun _ => rfl⟩⟩
              · have he1 : (ee == 0) = false := beq_eq_false_iff_ne.2 h2
                have H2 := Lib.hid h2
                subst h1
                clear h2
                go_wp2_with fail
                go_meet
                exact ⟨false, rfl, rfl, ⟨fun h => (by cases h), fun h => absurd (Hee.out.symm.trans h.2) H2.out⟩⟩
            · have he1 : (kk == 1) = false := beq_eq_false_iff_ne.2 h1
              have H2 := Lib.hid h1
              clear h1
              go_wp2_with fail
              go_meet
              exact ⟨false, rfl, rfl, ⟨fun h => (by cases h), fun h => absurd (Hkk.out.symm.trans h.1) H2.out⟩⟩
            -->> R11
          case rest =>
          obtain ⟨b11, rfl, rfl, Hb11⟩ := hcut
          go_upto_if 75 with (fail)
          go_cut [2, 4] (fun s2 s4 wx => ∃ (t1 : Value) (ds1 : List Dc), s2 = .bool false ∧ t1 = s4 ∧ Hid (KJ w wx p g6 g7 g8 wa.heap.size s' a' d (.slice A4 s'.docs.length c4) (.slice E4 s'.voc.length f4) t1 (.slice A3 d.b.length c3) (.slice X4 a'.b.length x4) (.slice Y4 a'.ids.length y4) ds1) ∧ Hid ((d.k = 1 ∧ a'.e = 0 → ds1 = s.docs ++ [⟨a'.id, d.b⟩]) ∧ (¬ (d.k = 1 ∧ a'.e = 0) → ds1 = s.docs)))
          case first =>
            --<< R12
            cases b11 with
            | true =>
              have hb := Hb11.out.1 rfl
              have d3 : wc.cell? ⟨g6, 3, none⟩ = some (.slice A3 d.b.length c3) := by rw [HJ.out.b6.cell]; rfl
              have a1 : wc.cell? ⟨g8, 1, none⟩ = some (.int .u64 a'.id) := by rw [HJ.out.b8.cell]; rfl
              have t1 : wc.cell? ⟨g7, 1, none⟩ = some (.int .u64 s'.next) := by rw [HJ.out.b7.cell]; rfl
              have hid := (Hin2.out hb.1 hb.2).2
              have hw1 : IntKind.u64.wrap (s'.next - 1) = a'.id := by rw [hid]; have := HnxL.out; exact IntWalk.u64_in _ ⟨by omega, by omega⟩
              have Hb := Lib.hid hb
              clear hid hb
              go_wp2_with (
                at_builtin
                refine wpList_append_sl _ encD rfl _ _ TDocs rfl w.heap.size TDoc i0 (.agg #[.int .u64 0, .slice none 0 0]) 2 32 Try.underlying23 hi0 hz0 hz1 hz2 rfl (by decide) (.slice Tv s.docs.length tvc) s.docs.length (HJ.out.own.choose.flatMap encD) rfl (((Fr.refl wc NoneS).alloc _).owns HJ.out.own.choose_spec.1 (fun _ _ h => h)) (.slice (some ⟨wc.heap.size, 0, none⟩) 1 1) [(a'.id, ⟨A3, d.b.length, c3⟩)] rfl (sl_one (enc := encD) wc (a'.id, ⟨A3, d.b.length, c3⟩) #[.int .u64 a'.id, .slice A3 d.b.length c3] rfl TDoc) (fun _ => rfl) encD_one (by have := Hb9.out; unfold maxLen; simp; omega) (by have := Hb9.out; simp; omega) (HJ.out.gr.alloc _).size ?_
                intro v7 w7 ho hf hat
                have HO7 := Lib.hid ho
                have HF7 := Lib.hid hf
                have HT7 := Lib.hid hat
                clear ho hf hat)
              go_meet
              have hga := (Fr.refl wc NoneS).alloc (.cells #[.int .u64 a'.id, .slice A3 d.b.length c3] TDoc)
              have hown : Own w w7 w.heap.size v7 (s.docs ++ [⟨a'.id, d.b⟩]) := by
                refine ⟨HJ.out.own.choose ++ [(a'.id, ⟨A3, d.b.length, c3⟩)], ?_, Al.snoc ⟨rfl, HSw.out.1, HSw.out.2⟩ HJ.out.own.choose_spec.2⟩
                rw [List.flatMap_append, List.length_append]
                exact HO7.out
              refine ⟨_, _, rfl, rfl, (HJ.out.any hga).turn HF7.out (fun k h => Or.inl h) hown (fun k hk => ?_), fun _ => rfl, fun h => absurd Hb.out h⟩
              rcases HT7.out with h | h
              · exact HJ.out.tb k (h ▸ hk)
              · rw [h] at hk; injection hk with hk; have := HJ.out.b8.lt; have := HJ.out.lo; simp only [World.size_alloc] at hk; omega
            | false =>
              go_wp2_with fail
              go_meet
              exact ⟨_, _, rfl, rfl, HJ.out, fun h => absurd (Hb11.out.2 h) (by decide), fun _ => rfl⟩
            -->> R12
          case rest =>
          obtain ⟨t1, ds1, rfl, rfl, HJ1, Hds⟩ := hcut
          have Hlen := Lib.hid (show s'.docs.length ≤ i + 1 from by have := Hln2.out; have := HP.out.len; omega)
          go_upto_region 15 with (fail)
          go_cut [97] (fun s97 wx => ∃ b : Bool, s97 = .bool b ∧ wx = wc ∧ Hid (Was 2 b d a'))
          case first =>
            --<< R15
            have d0 : wc.cell? ⟨g6, 0, none⟩ = some (.int .u8 d.k) := by rw [HJ1.out.b6.cell]; rfl
            have a0 : wc.cell? ⟨g8, 0, none⟩ = some (.int .i64 a'.e) := by rw [HJ1.out.b8.cell]; rfl
            obtain ⟨kk, hkk⟩ : ∃ k, d.k = k := ⟨_, rfl⟩
            have Hkk := Lib.hid hkk
            rw [hkk] at d0
            obtain ⟨ee, hee⟩ : ∃ k, a'.e = k := ⟨_, rfl⟩
            have Hee := Lib.hid hee
            rw [hee] at a0
            clear hkk hee
            by_cases h1 : kk = 2
            · by_cases h2 : ee = 0
              · subst h1 h2
                go_wp2_with fail
                go_meet
                exact ⟨true, rfl, rfl, ⟨fun _ => ⟨Hkk.out, Hee.out⟩, fun _ => rfl⟩⟩
              · have he1 : (ee == 0) = false := beq_eq_false_iff_ne.2 h2
                have H2 := Lib.hid h2
                subst h1
                clear h2
                go_wp2_with fail
                go_meet
                exact ⟨false, rfl, rfl, ⟨fun h => (by cases h), fun h => absurd (Hee.out.symm.trans h.2) H2.out⟩⟩
            · have he1 : (kk == 2) = false := beq_eq_false_iff_ne.2 h1
              have H2 := Lib.hid h1
              clear h1
              go_wp2_with fail
              go_meet
              exact ⟨false, rfl, rfl, ⟨fun h => (by cases h), fun h => absurd (Hkk.out.symm.trans h.1) H2.out⟩⟩
            -->> R15
          case rest =>
          obtain ⟨b15, rfl, hwc, Hb15⟩ := hcut
          subst hwc
          go_upto_if 97 with (fail)
          cases b15 with
          | false =>
            have Hds2 := Lib.hid (show s'.docs = ds1 from by
              by_cases h1 : d.k = 1 ∧ a'.e = 0
              · rw [Hds.out.1 h1]; exact (Hin2.out h1.1 h1.2).1
              · rw [Hds.out.2 h1]; exact Hot2.out h1 (fun h2 => absurd (Hb15.out.2 h2) (by decide)))
            have Hki := Lib.hid (KJ.ki (i := i + 1) (by have h := HJ1.out; rw [← Hds2.out] at h; exact h) Hmy2.out Hwf2.out Hlen.out)
            go_wp2_with fail
            go_roundg (gk - 1)
            case measure => have := HK.out; have := Hi.out; omega
            case rel => exact ⟨i + 1, s', _, _, _, rfl, rfl, by go_num, ⟨Hi.out.1, Hi.out.2, by have := HK.out; have := Hi.out; omega⟩, Hki.out⟩
          | true =>
            have hb := Hb15.out.1 rfl
            have hds : ds1 = s.docs := Hds.out.2 (fun h => by have := hb.1; have := h.1; omega)
            subst hds
            have Hfl := Lib.hid (Hde2.out hb.1 hb.2)
            obtain ⟨Tv1, tvc1, rfl⟩ := HJ1.out.own.form
            have Hown1 := Lib.hid HJ1.out.own
            have d1 : wc.cell? ⟨g6, 1, none⟩ = some (.int .u64 d.id) := by rw [HJ1.out.b6.cell]; rfl
            have hnl : (s.docs.length : Int) ≤ 30 := by have := Hb9.out; omega
            clear hb
            go_wp2_with fail
            obtain ⟨gO, hgO⟩ : ∃ g : Nat, g = gk := ⟨_, rfl⟩
            have HgO := Lib.hid hgO
            clear hgO
            go_loopg [9, 10] (s.docs.length + 1) (fun m s9 s10 wr2 => ∃ (k : Nat) (rv : Value), rv = s9 ∧ s10 = .int .i64 k ∧ Hid (k ≤ s.docs.length ∧ s.docs.length - k < m) ∧ Hid (Gr wc wr2) ∧ Hid (Own w wr2 wc.heap.size rv ((s.docs.take k).filter (fun x => decide (x.id ≠ d.id)))))
            case atStart => exact ⟨0, _, rfl, rfl, ⟨Nat.zero_le _, by omega⟩, Fr.refl _ _, ⟨[], World.ownsRow_nil _ _ _ _, trivial⟩⟩
            case round =>
              obtain ⟨k, rv, rfl, rfl, HKk, HGk, HOk⟩ := hrel
              by_cases hk : k < s.docs.length
              · obtain ⟨D, hd, ha⟩ := Hown1.out
                obtain ⟨b1, o1, A6, c6, e, hb1, x0, x1, hrd⟩ := doc_at2 (SL.of_own (enc := encD) (HGk.out.owns hd (fun _ _ h => h)) ha.len.symm) ha hk
                subst e
                have hki : (k : Int) < (s.docs.length : Int) := by omega
                have Htk := Lib.hid (List.take_succ_eq_append_getElem hk)
                generalize s.docs[k]'hk = x at x0 x1 hrd Htk
                have Hk := Lib.hid hk
                have Hrd := Lib.hid hrd
                have e1 : wr.cell? ⟨g6, 1, none⟩ = some (.int .u64 d.id) := by rw [(HJ1.out.b6.fr HGk.out (fun h => h)).cell]; rfl
                clear hd ha hrd hk hb1
                by_cases hx : x.id = d.id
                · have hx1 : (x.id != d.id) = false := by rw [bne_eq_false_iff_eq]; exact hx
                  have Hf := Lib.hid (show (s.docs.take (k + 1)).filter (fun x => decide (x.id ≠ d.id)) = (s.docs.take k).filter (fun x => decide (x.id ≠ d.id)) from by rw [Htk.out, List.filter_append]; simp [hx])
                  clear hx
                  go_wp2_with fail
                  go_quiet (fail)
                  go_wp2_with fail
                  go_roundg (gk - 1)
                  case measure => have := HKk.out; have := Hk.out; omega
                  case rel => exact ⟨k + 1, rv, rfl, by go_num, ⟨Hk.out, by have := HKk.out; have := Hk.out; omega⟩, HGk.out.drewN _, by rw [Hf.out]; exact HOk.out.fr ((Fr.refl wr NoneS).drewN _) (fun _ _ h => h)⟩
                · have hx1 : (x.id != d.id) = true := bne_iff_ne.2 hx
                  have Hf := Lib.hid (show (s.docs.take (k + 1)).filter (fun x => decide (x.id ≠ d.id)) = (s.docs.take k).filter (fun x => decide (x.id ≠ d.id)) ++ [x] from by rw [Htk.out, List.filter_append]; simp [hx])
                  have Hfl3 := Lib.hid (show ((s.docs.take k).filter (fun x => decide (x.id ≠ d.id))).length ≤ k from Nat.le_trans (List.length_filter_le _ _) (by rw [List.length_take]; omega))
                  generalize (s.docs.take k).filter (fun x => decide (x.id ≠ d.id)) = fs at HOk Hf Hfl3
                  obtain ⟨Rv, rvc, rfl⟩ := HOk.out.form
                  clear hx
                  go_wp2_with fail
                  go_quiet (fail)
                  have HG3 := Lib.hid (HGk.out.drewN nq)
                  have HO3 := Lib.hid (HOk.out.fr ((Fr.refl wr NoneS).drewN nq) (fun _ _ h => h))
                  have x0' : (wr.drewN nq).cell? ⟨b1, o1 + k * 2, none⟩ = some (.int .u64 x.id) := x0
                  have x1' : (wr.drewN nq).cell? ⟨b1, o1 + k * 2 + 1, none⟩ = some (.slice A6 x.b.length c6) := x1
                  clear x0 x1 e1
                  generalize wr.drewN nq = w3 at HG3 HO3 x0' x1' ⊢
                  go_wp2_with (
                    at_builtin
                    refine wpList_append_sl _ encD rfl _ _ TDocs rfl wc.heap.size TDoc i0 (.agg #[.int .u64 0, .slice none 0 0]) 2 32 Try.underlying23 hi0 hz0 hz1 hz2 rfl (by decide) (.slice Rv fs.length rvc) fs.length (HO3.out.choose.flatMap encD) rfl (((Fr.refl w3 NoneS).alloc _).owns HO3.out.choose_spec.1 (fun _ _ h => h)) (.slice (some ⟨w3.heap.size, 0, none⟩) 1 1) [(x.id, ⟨A6, x.b.length, c6⟩)] rfl (sl_one (enc := encD) w3 (x.id, ⟨A6, x.b.length, c6⟩) #[.int .u64 x.id, .slice A6 x.b.length c6] rfl TDoc) (fun _ => rfl) encD_one (by have := Hfl3.out; have := Hk.out; have := Hb9.out; unfold maxLen; simp; omega) (by have := Hfl3.out; have := Hk.out; have := Hb9.out; simp; omega) (HG3.out.alloc _).size ?_
                    intro v7 w7 ho hf hat
                    have HO7 := Lib.hid ho
                    have HF7 := Lib.hid hf
                    clear ho hf hat)
                  go_roundg (gk - 1)
                  case measure => have := HKk.out; have := Hk.out; omega
                  case rel =>
                    have hown : Own w w7 wc.heap.size v7 (fs ++ [x]) := by
                      refine ⟨HO3.out.choose ++ [(x.id, ⟨A6, x.b.length, c6⟩)], ?_, Al.snoc Hrd.out HO3.out.choose_spec.2⟩
                      rw [List.flatMap_append, List.length_append]
                      exact HO7.out
                    refine ⟨k + 1, v7, rfl, by go_num, ⟨Hk.out, by have := HKk.out; have := Hk.out; omega⟩, ?_, by rw [Hf.out]; exact hown⟩
                    exact (HG3.out.alloc _).trans HF7.out (fun i hi h => by have := (HO3.out.lt i h).1; omega)
              · have hke : k = s.docs.length := by have := HKk.out; omega
                have HOf := Lib.hid (show Own w wr wc.heap.size rv s'.docs from by have h := HOk.out; rw [hke, List.take_of_length_le (Nat.le_refl _), ← Hfl.out] at h; exact h)
                have Hki := Lib.hid (KJ.ki (i := i + 1) (HJ1.out.turn HGk.out (fun k h => h.elim) ⟨HOf.out.choose, own_base HOf.out.choose_spec.1 HJ1.out.gr.size, HOf.out.choose_spec.2⟩ (fun k hk => Or.inr (by have := (HOf.out.lt k hk).1; have := HJ1.out.b7.lt; omega))) Hmy2.out Hwf2.out Hlen.out)
                go_wp2_with fail
                go_roundg (gO - 1)
                case measure => have := HK.out; have := Hi.out; have := HgO.out; omega
                case rel => exact ⟨i + 1, s', _, _, _, rfl, rfl, by go_num, ⟨Hi.out.1, Hi.out.2, by have := HK.out; have := Hi.out; have := HgO.out; omega⟩, Hki.out⟩
        · have h3i : i = 30 := by have := HK.out; omega
          have hii : (i : Int) < (L.length : Int) := by omega
          subst h3i
          go_wp2_with fail
          go_meet
          exact ⟨s, dv, pv, tv, rfl, HP.out⟩
      · have HKu := Lib.hid (HP.out.up HK.out.2.1)
        go_wp2_with fail
        go_meet
        exact ⟨s, dv, pv, tv, rfl, HKu.out⟩
    -->> FIRST
  --== LAST
  case rest =>
  obtain ⟨s, dv, pv, tv, rfl, HK⟩ := hcut
  obtain ⟨⟨A1, c1, rfl⟩, E1, f1, rfl⟩ := HK.out.rs.form
  obtain ⟨Tv, tvc, rfl⟩ := HK.out.own.form
  have hnl : (s.docs.length : Int) ≤ 30 := by have := HK.out.len; omega
  clear HK0
  go_upto_block 4 with (fail)
  go_cut [] (fun wx => Hid (Gr wc wx))
  case first =>
    go_wp2_with fail
    go_loopg [11] (s.docs.length + 1) (fun m s11 wr => ∃ k : Nat, s11 = .int .i64 k ∧ Hid (k ≤ s.docs.length ∧ s.docs.length - k < m) ∧ Hid (Gr wc wr))
    case atStart => exact ⟨0, rfl, ⟨Nat.zero_le _, by omega⟩, Fr.refl _ _⟩
    case round =>
      obtain ⟨k, rfl, HKk, HGk⟩ := hrel
      by_cases hk : k < s.docs.length
      · obtain ⟨D, hd, ha⟩ := HK.out.own
        obtain ⟨b1, o1, A6, c6, e, hb1, x0, x1, hrd⟩ := doc_at2 (SL.of_own (enc := encD) (HGk.out.owns hd (fun _ _ h => h)) ha.len.symm) ha hk
        subst e
        have hki : (k : Int) < (s.docs.length : Int) := by omega
        have hget := do_get HK.out.may hk
        have hwd := HK.out.wf.docs _ (List.getElem_mem hk)
        generalize s.docs[k]'hk = x at x0 x1 hrd hget hwd
        have Hk := Lib.hid hk
        have Hrd := Lib.hid hrd
        have Hwd := Lib.hid hwd
        have HD := Lib.hid (show ∀ wx, Gr wr wx → Calls Try.prog 6 #[.agg #[.slice A1 s.docs.length c1, .int .u64 s.next, .slice E1 s.voc.length f1], .agg #[.int .u8 3, .int .u64 x.id, .int .i64 0, .slice none 0 0]] wx (DoPost wx s { an0 with b := x.b }) from fun wx hg => by
          have h := do_any (d := ⟨3, x.id, 0, []⟩) ((HK.out.rs.gr HGk.out).gr hg) HK.out.wf (by have := HK.out.len; omega) (SL.nil wx) (by intro c hc; cases hc) (Nat.zero_le _)
          rw [hget] at h
          exact h)
        have Hkey := Lib.hid (show ∀ wx, Gr wr wx → wx.cell? ⟨p, 0, none⟩ = some (.slice A1 s.docs.length c1) ∧ wx.cell? ⟨p, 1, none⟩ = some (.int .u64 s.next) ∧ wx.cell? ⟨p, 2, none⟩ = some (.slice E1 s.voc.length f1) ∧ wx.cell? ⟨b1, o1 + k * 2, none⟩ = some (.int .u64 x.id) from fun wx hg => by
          have hb := (HK.out.blk.fr HGk.out (fun h => h)).fr hg (fun h => h)
          exact ⟨by rw [hb.cell]; rfl, by rw [hb.cell]; rfl, by rw [hb.cell]; rfl, (hg.cell (p := ⟨b1, o1 + k * 2, none⟩) hb1 (fun h => h)).trans x0⟩)
        have Hk2 := Lib.hid (show ∀ wx, Gr wr wx → wx.cell? ⟨b1, o1 + k * 2 + 1, none⟩ = some (.slice A6 x.b.length c6) from fun wx hg => (hg.cell (p := ⟨b1, o1 + k * 2 + 1, none⟩) hb1 (fun h => h)).trans x1)
        clear hd ha hrd hk hb1 x0 x1 hget hwd
        go_upto_region 26 with (fail)
        go_cut [12, 13] (fun s12 s13 wx => ∃ (ga gb : Nat) (bv iv : Value), s12 = .pointer (some ⟨ga, 0, none⟩) ∧ s13 = .pointer (some ⟨gb, 0, none⟩) ∧ Hid (Gr wr wx) ∧ Hid (Blk wx gb TAn (anA { an0 with b := x.b } bv iv)) ∧ Hid (SL encB wx bv x.b))
        case first =>
          --<< R26
          have HT0 := Lib.hid (show Fr wr wr.drew NoneS from (Fr.refl wr _).drew)
          refine wp_region_held_drew (S := fun wx => Fr wr wx NoneS) (by kernel_rfl) HT0.out (fun hHeld => ?_)
          refine wpAnyH_take (i := 0) (v := .agg #[.slice A1 s.docs.length c1, .int .u64 s.next, .slice E1 s.voc.length f1]) rfl (by kernel_rfl) (by kernel_rfl) (by kernel_rfl) (fun _ _ _ h => h) (Or.inl ⟨by kernel_rfl, ?_⟩) hHeld ?_
          · intro w hSw; obtain ⟨k0, k1, k2, x0⟩ := Hkey.out _ hSw; go_simp
          try simp only [Act.put, List.getElem_toArray, List.getElem_cons_succ, List.getElem_cons_zero, List.setIfInBounds_toArray, List.set_cons_zero, List.set_cons_succ]
          refine wpAnyH_take (i := 1) (v := .slice (some ⟨b1, o1, none⟩) s.docs.length tvc) rfl (by kernel_rfl) (by kernel_rfl) (by kernel_rfl) (fun _ _ _ h => h) (Or.inl ⟨by kernel_rfl, ?_⟩) hHeld ?_
          · intro w hSw; go_simp
          try simp only [Act.put, List.getElem_toArray, List.getElem_cons_succ, List.getElem_cons_zero, List.setIfInBounds_toArray, List.set_cons_zero, List.set_cons_succ]
          refine wpAnyH_take (i := 2) (v := .int .i64 (k : Int)) rfl (by kernel_rfl) (by kernel_rfl) (by kernel_rfl) (fun _ _ _ h => h) (Or.inl ⟨by kernel_rfl, ?_⟩) hHeld ?_
          · intro w hSw; go_simp
          try simp only [Act.put, List.getElem_toArray, List.getElem_cons_succ, List.getElem_cons_zero, List.setIfInBounds_toArray, List.set_cons_zero, List.set_cons_succ]
          refine wpAnyH_take (i := 3) (v := .pointer (some ⟨b1, o1 + k * 2, none⟩)) rfl (by kernel_rfl) (by kernel_rfl) (by kernel_rfl) (fun _ _ _ h => h) (Or.inl ⟨by kernel_rfl, ?_⟩) hHeld ?_
          · intro w hSw; go_simp
          try simp only [Act.put, List.getElem_toArray, List.getElem_cons_succ, List.getElem_cons_zero, List.setIfInBounds_toArray, List.set_cons_zero, List.set_cons_succ]
          refine wpAnyH_take (i := 4) (v := .pointer (some ⟨b1, o1 + k * 2, none⟩)) rfl (by kernel_rfl) (by kernel_rfl) (by kernel_rfl) (fun _ _ _ h => h) (Or.inl ⟨by kernel_rfl, ?_⟩) hHeld ?_
          · intro w hSw; go_simp
          try simp only [Act.put, List.getElem_toArray, List.getElem_cons_succ, List.getElem_cons_zero, List.setIfInBounds_toArray, List.set_cons_zero, List.set_cons_succ]
          refine wpAnyH_take (i := 5) (v := .int .u64 x.id) rfl (by kernel_rfl) (by kernel_rfl) (by kernel_rfl) (fun _ _ _ h => h) (Or.inl ⟨by kernel_rfl, ?_⟩) hHeld ?_
          · intro w hSw; obtain ⟨k0, k1, k2, x0⟩ := Hkey.out _ hSw; go_simp
          try simp only [Act.put, List.getElem_toArray, List.getElem_cons_succ, List.getElem_cons_zero, List.setIfInBounds_toArray, List.set_cons_zero, List.set_cons_succ]
          refine wpAnyH_take (i := 6) (v := .agg #[.int .u8 3, .int .u64 x.id, .int .i64 0, .slice none 0 0]) rfl (by kernel_rfl) (by kernel_rfl) (by kernel_rfl) (fun _ _ _ h => h) (Or.inl ⟨by kernel_rfl, ?_⟩) hHeld ?_
          · intro w hSw; go_simp
          try simp only [Act.put, List.getElem_toArray, List.getElem_cons_succ, List.getElem_cons_zero, List.setIfInBounds_toArray, List.set_cons_zero, List.set_cons_succ]
          generalize wr.drew = y at hHeld ⊢
          refine wpAnyH_ready (rs := [7, 11, 12]) (by kernel_rfl) (by simp) ?_
          refine AllReadyH.cons rfl (fun K hK => ?_) (AllReadyH.cons rfl (fun K hK => ?_) (AllReadyH.cons rfl (fun K hK => ?_) AllReadyH.nil))
          · go_simp
            go_at_call 6
            refine (HD.out _ hHeld).mono ?_
            rintro e y2 ⟨dv4, pv4, bv4, iv4, n4, rfl, hr, hn4, hb4, hi4, hg4⟩
            obtain ⟨⟨A4, c4, rfl⟩, E4, f4, rfl⟩ := hr.form
            obtain ⟨X4, x4, rfl⟩ := own_formN hb4.own
            obtain ⟨Y4, y4, rfl⟩ := own_formN hi4
            have HOb := Lib.hid hb4
            refine hK.out _ _ (Fr.trans hHeld hg4 (fun _ _ h => h)) (fun hHeld => ?_)
            clear hK K hr hn4 hb4 hi4 hg4
            skip
            try simp only [Act.put, List.getElem_toArray, List.getElem_cons_succ, List.getElem_cons_zero, List.setIfInBounds_toArray, List.set_cons_zero, List.set_cons_succ]
            refine wpAnyH_take (i := 8) (v := .tuple #[.agg (stA (.slice A4 s.docs.length c4) (.slice E4 s.voc.length f4) s.next), .agg (anA { an0 with b := x.b } (.slice X4 x.b.length x4) (.slice Y4 an0.ids.length y4))]) rfl (by kernel_rfl) (by kernel_rfl) (by kernel_rfl) (fun _ _ _ h => h) (Or.inl ⟨by kernel_rfl, ?_⟩) hHeld ?_
            · intro w hSw; go_simp
            try simp only [Act.put, List.getElem_toArray, List.getElem_cons_succ, List.getElem_cons_zero, List.setIfInBounds_toArray, List.set_cons_zero, List.set_cons_succ]
            refine wpAnyH_take (i := 9) (v := .agg (stA (.slice A4 s.docs.length c4) (.slice E4 s.voc.length f4) s.next)) rfl (by kernel_rfl) (by kernel_rfl) (by kernel_rfl) (fun _ _ _ h => h) (Or.inl ⟨by kernel_rfl, ?_⟩) hHeld ?_
            · intro w hSw; go_simp
            try simp only [Act.put, List.getElem_toArray, List.getElem_cons_succ, List.getElem_cons_zero, List.setIfInBounds_toArray, List.set_cons_zero, List.set_cons_succ]
            refine wpAnyH_take (i := 10) (v := .agg (anA { an0 with b := x.b } (.slice X4 x.b.length x4) (.slice Y4 an0.ids.length y4))) rfl (by kernel_rfl) (by kernel_rfl) (by kernel_rfl) (fun _ _ _ h => h) (Or.inl ⟨by kernel_rfl, ?_⟩) hHeld ?_
            · intro w hSw; go_simp
            try simp only [Act.put, List.getElem_toArray, List.getElem_cons_succ, List.getElem_cons_zero, List.setIfInBounds_toArray, List.set_cons_zero, List.set_cons_succ]
            generalize y2 = y at hHeld HOb  ⊢
            refine wpAnyH_ready (rs := [11, 12]) (by kernel_rfl) (by simp) ?_
            refine AllReadyH.cons rfl (fun K hK => ?_) (AllReadyH.cons rfl (fun K hK => ?_) AllReadyH.nil)
            · go_simp
              have HA := Lib.hid (Blk.new y TSt stZ)
              have HAlo := Lib.hid (show wr.heap.size ≤ y.heap.size from hHeld.size)
              refine hK.out _ _ (hHeld.alloc (.cells stZ TSt)) (fun hHeld => ?_)
              clear hK K
              have HOb := Lib.hid (HOb.out.gr ((Fr.refl y NoneS).alloc (.cells stZ TSt)))
              change wpAnyH _ _ _ _ _ _ _ _ (y.alloc (.cells stZ TSt))
              have hHeld2 : Fr wr (y.alloc (.cells stZ TSt)) NoneS := hHeld
              clear hHeld
              generalize y.heap.size = ga at HA HAlo ⊢
              generalize y.alloc (.cells stZ TSt) = y at hHeld2 HA HOb ⊢
              have hHeld := hHeld2
              clear hHeld2
              try simp only [Act.put, List.getElem_toArray, List.getElem_cons_succ, List.getElem_cons_zero, List.setIfInBounds_toArray, List.set_cons_zero, List.set_cons_succ]
              refine wpAnyH_ready (rs := [12]) (by kernel_rfl) (by simp) ?_
              refine AllReadyH.cons rfl (fun K hK => ?_) AllReadyH.nil
              · go_simp
                have HB := Lib.hid (Blk.new y TAn anZ)
                have HBlo := Lib.hid (show wr.heap.size ≤ y.heap.size from hHeld.size)
                refine hK.out _ _ (hHeld.alloc (.cells anZ TAn)) (fun hHeld => ?_)
                clear hK K
                have HA := Lib.hid (HA.out.alloc (.cells anZ TAn))
                have HOb := Lib.hid (HOb.out.gr ((Fr.refl y NoneS).alloc (.cells anZ TAn)))
                change wpAnyH _ _ _ _ _ _ _ _ (y.alloc (.cells anZ TAn))
                have hHeld2 : Fr wr (y.alloc (.cells anZ TAn)) NoneS := hHeld
                clear hHeld
                generalize y.heap.size = gb at HB HBlo ⊢
                generalize y.alloc (.cells anZ TAn) = y at hHeld2 HB HA HOb ⊢
                have hHeld := hHeld2
                clear hHeld2
                try simp only [Act.put, List.getElem_toArray, List.getElem_cons_succ, List.getElem_cons_zero, List.setIfInBounds_toArray, List.set_cons_zero, List.set_cons_succ]
                refine wpAnyH_ready (rs := [13]) (by kernel_rfl) (by simp) ?_
                refine AllReadyH.cons rfl (fun K hK => ?_) AllReadyH.nil
                · rw [if_pos (by rfl)]
                  refine wp_store_row TSt _ _ rfl ga (stA (.slice A4 s.docs.length c4) (.slice E4 s.voc.length f4) s.next) rfl rfl TSt _ HA.out (by kernel_rfl) (by kernel_rfl) (by kernel_rfl) ?_
                  refine hK.out _ _ (Sha.fr_setRow hHeld (fun h => by have := HAlo.out; omega) _) (fun hHeld => ?_)
                  clear hK K
                  have HOb := Lib.hid (HOb.out.fr (Sha.fr_setRow (S := fun k => k = ga) (Fr.refl y _) (fun _ => rfl) (stA (.slice A4 s.docs.length c4) (.slice E4 s.voc.length f4) s.next)) (fun k hk e => own_blk_ne HOb.out.own HA.out (by decide) (e ▸ hk)))
                  have HB := Lib.hid (HB.out.fr (Sha.fr_setRow (S := fun k => k = ga) (Fr.refl y _) (fun _ => rfl) (stA (.slice A4 s.docs.length c4) (.slice E4 s.voc.length f4) s.next)) (HB.out.ne_ HA.out (by decide)))
                  have HA := Lib.hid (Sha.blk_setRow HA.out (stA (.slice A4 s.docs.length c4) (.slice E4 s.voc.length f4) s.next))
                  generalize y.setRow ga (stA (.slice A4 s.docs.length c4) (.slice E4 s.voc.length f4) s.next) = y at hHeld HOb HA HB ⊢
                  try simp only [Act.put, List.getElem_toArray, List.getElem_cons_succ, List.getElem_cons_zero, List.setIfInBounds_toArray, List.set_cons_zero, List.set_cons_succ]
                  refine wpAnyH_ready (rs := [14]) (by kernel_rfl) (by simp) ?_
                  refine AllReadyH.cons rfl (fun K hK => ?_) AllReadyH.nil
                  · rw [if_pos (by rfl)]
                    refine wp_store_row TAn _ _ rfl gb (anA { an0 with b := x.b } (.slice X4 x.b.length x4) (.slice Y4 an0.ids.length y4)) rfl rfl TAn _ HB.out (by kernel_rfl) (by kernel_rfl) (by kernel_rfl) ?_
                    refine hK.out _ _ (Sha.fr_setRow hHeld (fun h => by have := HBlo.out; omega) _) (fun hHeld => ?_)
                    clear hK K
                    have HOb := Lib.hid (HOb.out.fr (Sha.fr_setRow (S := fun k => k = gb) (Fr.refl y _) (fun _ => rfl) (anA { an0 with b := x.b } (.slice X4 x.b.length x4) (.slice Y4 an0.ids.length y4))) (fun k hk e => own_blk_ne HOb.out.own HB.out (by decide) (e ▸ hk)))
                    have HA := Lib.hid (HA.out.fr (Sha.fr_setRow (S := fun k => k = gb) (Fr.refl y _) (fun _ => rfl) (anA { an0 with b := x.b } (.slice X4 x.b.length x4) (.slice Y4 an0.ids.length y4))) (HA.out.ne_ HB.out (by decide)))
                    have HB := Lib.hid (Sha.blk_setRow HB.out (anA { an0 with b := x.b } (.slice X4 x.b.length x4) (.slice Y4 an0.ids.length y4)))
                    generalize y.setRow gb (anA { an0 with b := x.b } (.slice X4 x.b.length x4) (.slice Y4 an0.ids.length y4)) = y at hHeld HOb HB HA ⊢
                    try simp only [Act.put, List.getElem_toArray, List.getElem_cons_succ, List.getElem_cons_zero, List.setIfInBounds_toArray, List.set_cons_zero, List.set_cons_succ]
                    refine wpAnyH_done (by kernel_rfl) ?_ _
                    go_wp2_with fail
                    go_meet
                    exact ⟨ga, gb, .slice X4 x.b.length x4, .slice Y4 an0.ids.length y4, rfl, rfl, hHeld, HB.out, HOb.out.sl⟩
            · go_simp
              have HB := Lib.hid (Blk.new y TAn anZ)
              have HBlo := Lib.hid (show wr.heap.size ≤ y.heap.size from hHeld.size)
              refine hK.out _ _ (hHeld.alloc (.cells anZ TAn)) (fun hHeld => ?_)
              clear hK K
              have HOb := Lib.hid (HOb.out.gr ((Fr.refl y NoneS).alloc (.cells anZ TAn)))
              change wpAnyH _ _ _ _ _ _ _ _ (y.alloc (.cells anZ TAn))
              have hHeld2 : Fr wr (y.alloc (.cells anZ TAn)) NoneS := hHeld
              clear hHeld
              generalize y.heap.size = gb at HB HBlo ⊢
              generalize y.alloc (.cells anZ TAn) = y at hHeld2 HB HOb ⊢
              have hHeld := hHeld2
              clear hHeld2
              try simp only [Act.put, List.getElem_toArray, List.getElem_cons_succ, List.getElem_cons_zero, List.setIfInBounds_toArray, List.set_cons_zero, List.set_cons_succ]
              refine wpAnyH_ready (rs := [11]) (by kernel_rfl) (by simp) ?_
              refine AllReadyH.cons rfl (fun K hK => ?_) AllReadyH.nil
              · go_simp
                have HA := Lib.hid (Blk.new y TSt stZ)
                have HAlo := Lib.hid (show wr.heap.size ≤ y.heap.size from hHeld.size)
                refine hK.out _ _ (hHeld.alloc (.cells stZ TSt)) (fun hHeld => ?_)
                clear hK K
                have HB := Lib.hid (HB.out.alloc (.cells stZ TSt))
                have HOb := Lib.hid (HOb.out.gr ((Fr.refl y NoneS).alloc (.cells stZ TSt)))
                change wpAnyH _ _ _ _ _ _ _ _ (y.alloc (.cells stZ TSt))
                have hHeld2 : Fr wr (y.alloc (.cells stZ TSt)) NoneS := hHeld
                clear hHeld
                generalize y.heap.size = ga at HA HAlo ⊢
                generalize y.alloc (.cells stZ TSt) = y at hHeld2 HA HB HOb ⊢
                have hHeld := hHeld2
                clear hHeld2
                try simp only [Act.put, List.getElem_toArray, List.getElem_cons_succ, List.getElem_cons_zero, List.setIfInBounds_toArray, List.set_cons_zero, List.set_cons_succ]
                refine wpAnyH_ready (rs := [13]) (by kernel_rfl) (by simp) ?_
                refine AllReadyH.cons rfl (fun K hK => ?_) AllReadyH.nil
                · rw [if_pos (by rfl)]
                  refine wp_store_row TSt _ _ rfl ga (stA (.slice A4 s.docs.length c4) (.slice E4 s.voc.length f4) s.next) rfl rfl TSt _ HA.out (by kernel_rfl) (by kernel_rfl) (by kernel_rfl) ?_
                  refine hK.out _ _ (Sha.fr_setRow hHeld (fun h => by have := HAlo.out; omega) _) (fun hHeld => ?_)
                  clear hK K
                  have HOb := Lib.hid (HOb.out.fr (Sha.fr_setRow (S := fun k => k = ga) (Fr.refl y _) (fun _ => rfl) (stA (.slice A4 s.docs.length c4) (.slice E4 s.voc.length f4) s.next)) (fun k hk e => own_blk_ne HOb.out.own HA.out (by decide) (e ▸ hk)))
                  have HB := Lib.hid (HB.out.fr (Sha.fr_setRow (S := fun k => k = ga) (Fr.refl y _) (fun _ => rfl) (stA (.slice A4 s.docs.length c4) (.slice E4 s.voc.length f4) s.next)) (HB.out.ne_ HA.out (by decide)))
                  have HA := Lib.hid (Sha.blk_setRow HA.out (stA (.slice A4 s.docs.length c4) (.slice E4 s.voc.length f4) s.next))
                  generalize y.setRow ga (stA (.slice A4 s.docs.length c4) (.slice E4 s.voc.length f4) s.next) = y at hHeld HOb HA HB ⊢
                  try simp only [Act.put, List.getElem_toArray, List.getElem_cons_succ, List.getElem_cons_zero, List.setIfInBounds_toArray, List.set_cons_zero, List.set_cons_succ]
                  refine wpAnyH_ready (rs := [14]) (by kernel_rfl) (by simp) ?_
                  refine AllReadyH.cons rfl (fun K hK => ?_) AllReadyH.nil
                  · rw [if_pos (by rfl)]
                    refine wp_store_row TAn _ _ rfl gb (anA { an0 with b := x.b } (.slice X4 x.b.length x4) (.slice Y4 an0.ids.length y4)) rfl rfl TAn _ HB.out (by kernel_rfl) (by kernel_rfl) (by kernel_rfl) ?_
                    refine hK.out _ _ (Sha.fr_setRow hHeld (fun h => by have := HBlo.out; omega) _) (fun hHeld => ?_)
                    clear hK K
                    have HOb := Lib.hid (HOb.out.fr (Sha.fr_setRow (S := fun k => k = gb) (Fr.refl y _) (fun _ => rfl) (anA { an0 with b := x.b } (.slice X4 x.b.length x4) (.slice Y4 an0.ids.length y4))) (fun k hk e => own_blk_ne HOb.out.own HB.out (by decide) (e ▸ hk)))
                    have HA := Lib.hid (HA.out.fr (Sha.fr_setRow (S := fun k => k = gb) (Fr.refl y _) (fun _ => rfl) (anA { an0 with b := x.b } (.slice X4 x.b.length x4) (.slice Y4 an0.ids.length y4))) (HA.out.ne_ HB.out (by decide)))
                    have HB := Lib.hid (Sha.blk_setRow HB.out (anA { an0 with b := x.b } (.slice X4 x.b.length x4) (.slice Y4 an0.ids.length y4)))
                    generalize y.setRow gb (anA { an0 with b := x.b } (.slice X4 x.b.length x4) (.slice Y4 an0.ids.length y4)) = y at hHeld HOb HB HA ⊢
                    try simp only [Act.put, List.getElem_toArray, List.getElem_cons_succ, List.getElem_cons_zero, List.setIfInBounds_toArray, List.set_cons_zero, List.set_cons_succ]
                    refine wpAnyH_done (by kernel_rfl) ?_ _
                    go_wp2_with fail
                    go_meet
                    exact ⟨ga, gb, .slice X4 x.b.length x4, .slice Y4 an0.ids.length y4, rfl, rfl, hHeld, HB.out, HOb.out.sl⟩
          · go_simp
            have HA := Lib.hid (Blk.new y TSt stZ)
            have HAlo := Lib.hid (show wr.heap.size ≤ y.heap.size from hHeld.size)
            refine hK.out _ _ (hHeld.alloc (.cells stZ TSt)) (fun hHeld => ?_)
            clear hK K
            change wpAnyH _ _ _ _ _ _ _ _ (y.alloc (.cells stZ TSt))
            have hHeld2 : Fr wr (y.alloc (.cells stZ TSt)) NoneS := hHeld
            clear hHeld
            generalize y.heap.size = ga at HA HAlo ⊢
            generalize y.alloc (.cells stZ TSt) = y at hHeld2 HA ⊢
            have hHeld := hHeld2
            clear hHeld2
            try simp only [Act.put, List.getElem_toArray, List.getElem_cons_succ, List.getElem_cons_zero, List.setIfInBounds_toArray, List.set_cons_zero, List.set_cons_succ]
            refine wpAnyH_ready (rs := [7, 12]) (by kernel_rfl) (by simp) ?_
            refine AllReadyH.cons rfl (fun K hK => ?_) (AllReadyH.cons rfl (fun K hK => ?_) AllReadyH.nil)
            · go_simp
              go_at_call 6
              refine (HD.out _ hHeld).mono ?_
              rintro e y2 ⟨dv4, pv4, bv4, iv4, n4, rfl, hr, hn4, hb4, hi4, hg4⟩
              obtain ⟨⟨A4, c4, rfl⟩, E4, f4, rfl⟩ := hr.form
              obtain ⟨X4, x4, rfl⟩ := own_formN hb4.own
              obtain ⟨Y4, y4, rfl⟩ := own_formN hi4
              have HOb := Lib.hid hb4
              have HA := Lib.hid (HA.out.fr hg4 (fun h => h))
              refine hK.out _ _ (Fr.trans hHeld hg4 (fun _ _ h => h)) (fun hHeld => ?_)
              clear hK K hr hn4 hb4 hi4 hg4
              skip
              try simp only [Act.put, List.getElem_toArray, List.getElem_cons_succ, List.getElem_cons_zero, List.setIfInBounds_toArray, List.set_cons_zero, List.set_cons_succ]
              refine wpAnyH_take (i := 8) (v := .tuple #[.agg (stA (.slice A4 s.docs.length c4) (.slice E4 s.voc.length f4) s.next), .agg (anA { an0 with b := x.b } (.slice X4 x.b.length x4) (.slice Y4 an0.ids.length y4))]) rfl (by kernel_rfl) (by kernel_rfl) (by kernel_rfl) (fun _ _ _ h => h) (Or.inl ⟨by kernel_rfl, ?_⟩) hHeld ?_
              · intro w hSw; go_simp
              try simp only [Act.put, List.getElem_toArray, List.getElem_cons_succ, List.getElem_cons_zero, List.setIfInBounds_toArray, List.set_cons_zero, List.set_cons_succ]
              refine wpAnyH_take (i := 9) (v := .agg (stA (.slice A4 s.docs.length c4) (.slice E4 s.voc.length f4) s.next)) rfl (by kernel_rfl) (by kernel_rfl) (by kernel_rfl) (fun _ _ _ h => h) (Or.inl ⟨by kernel_rfl, ?_⟩) hHeld ?_
              · intro w hSw; go_simp
              try simp only [Act.put, List.getElem_toArray, List.getElem_cons_succ, List.getElem_cons_zero, List.setIfInBounds_toArray, List.set_cons_zero, List.set_cons_succ]
              refine wpAnyH_take (i := 10) (v := .agg (anA { an0 with b := x.b } (.slice X4 x.b.length x4) (.slice Y4 an0.ids.length y4))) rfl (by kernel_rfl) (by kernel_rfl) (by kernel_rfl) (fun _ _ _ h => h) (Or.inl ⟨by kernel_rfl, ?_⟩) hHeld ?_
              · intro w hSw; go_simp
              try simp only [Act.put, List.getElem_toArray, List.getElem_cons_succ, List.getElem_cons_zero, List.setIfInBounds_toArray, List.set_cons_zero, List.set_cons_succ]
              generalize y2 = y at hHeld HOb HA ⊢
              refine wpAnyH_ready (rs := [12]) (by kernel_rfl) (by simp) ?_
              refine AllReadyH.cons rfl (fun K hK => ?_) AllReadyH.nil
              · go_simp
                have HB := Lib.hid (Blk.new y TAn anZ)
                have HBlo := Lib.hid (show wr.heap.size ≤ y.heap.size from hHeld.size)
                refine hK.out _ _ (hHeld.alloc (.cells anZ TAn)) (fun hHeld => ?_)
                clear hK K
                have HA := Lib.hid (HA.out.alloc (.cells anZ TAn))
                have HOb := Lib.hid (HOb.out.gr ((Fr.refl y NoneS).alloc (.cells anZ TAn)))
                change wpAnyH _ _ _ _ _ _ _ _ (y.alloc (.cells anZ TAn))
                have hHeld2 : Fr wr (y.alloc (.cells anZ TAn)) NoneS := hHeld
                clear hHeld
                generalize y.heap.size = gb at HB HBlo ⊢
                generalize y.alloc (.cells anZ TAn) = y at hHeld2 HB HA HOb ⊢
                have hHeld := hHeld2
                clear hHeld2
                try simp only [Act.put, List.getElem_toArray, List.getElem_cons_succ, List.getElem_cons_zero, List.setIfInBounds_toArray, List.set_cons_zero, List.set_cons_succ]
                refine wpAnyH_ready (rs := [13]) (by kernel_rfl) (by simp) ?_
                refine AllReadyH.cons rfl (fun K hK => ?_) AllReadyH.nil
                · rw [if_pos (by rfl)]
                  refine wp_store_row TSt _ _ rfl ga (stA (.slice A4 s.docs.length c4) (.slice E4 s.voc.length f4) s.next) rfl rfl TSt _ HA.out (by kernel_rfl) (by kernel_rfl) (by kernel_rfl) ?_
                  refine hK.out _ _ (Sha.fr_setRow hHeld (fun h => by have := HAlo.out; omega) _) (fun hHeld => ?_)
                  clear hK K
                  have HOb := Lib.hid (HOb.out.fr (Sha.fr_setRow (S := fun k => k = ga) (Fr.refl y _) (fun _ => rfl) (stA (.slice A4 s.docs.length c4) (.slice E4 s.voc.length f4) s.next)) (fun k hk e => own_blk_ne HOb.out.own HA.out (by decide) (e ▸ hk)))
                  have HB := Lib.hid (HB.out.fr (Sha.fr_setRow (S := fun k => k = ga) (Fr.refl y _) (fun _ => rfl) (stA (.slice A4 s.docs.length c4) (.slice E4 s.voc.length f4) s.next)) (HB.out.ne_ HA.out (by decide)))
                  have HA := Lib.hid (Sha.blk_setRow HA.out (stA (.slice A4 s.docs.length c4) (.slice E4 s.voc.length f4) s.next))
                  generalize y.setRow ga (stA (.slice A4 s.docs.length c4) (.slice E4 s.voc.length f4) s.next) = y at hHeld HOb HA HB ⊢
                  try simp only [Act.put, List.getElem_toArray, List.getElem_cons_succ, List.getElem_cons_zero, List.setIfInBounds_toArray, List.set_cons_zero, List.set_cons_succ]
                  refine wpAnyH_ready (rs := [14]) (by kernel_rfl) (by simp) ?_
                  refine AllReadyH.cons rfl (fun K hK => ?_) AllReadyH.nil
                  · rw [if_pos (by rfl)]
                    refine wp_store_row TAn _ _ rfl gb (anA { an0 with b := x.b } (.slice X4 x.b.length x4) (.slice Y4 an0.ids.length y4)) rfl rfl TAn _ HB.out (by kernel_rfl) (by kernel_rfl) (by kernel_rfl) ?_
                    refine hK.out _ _ (Sha.fr_setRow hHeld (fun h => by have := HBlo.out; omega) _) (fun hHeld => ?_)
                    clear hK K
                    have HOb := Lib.hid (HOb.out.fr (Sha.fr_setRow (S := fun k => k = gb) (Fr.refl y _) (fun _ => rfl) (anA { an0 with b := x.b } (.slice X4 x.b.length x4) (.slice Y4 an0.ids.length y4))) (fun k hk e => own_blk_ne HOb.out.own HB.out (by decide) (e ▸ hk)))
                    have HA := Lib.hid (HA.out.fr (Sha.fr_setRow (S := fun k => k = gb) (Fr.refl y _) (fun _ => rfl) (anA { an0 with b := x.b } (.slice X4 x.b.length x4) (.slice Y4 an0.ids.length y4))) (HA.out.ne_ HB.out (by decide)))
                    have HB := Lib.hid (Sha.blk_setRow HB.out (anA { an0 with b := x.b } (.slice X4 x.b.length x4) (.slice Y4 an0.ids.length y4)))
                    generalize y.setRow gb (anA { an0 with b := x.b } (.slice X4 x.b.length x4) (.slice Y4 an0.ids.length y4)) = y at hHeld HOb HB HA ⊢
                    try simp only [Act.put, List.getElem_toArray, List.getElem_cons_succ, List.getElem_cons_zero, List.setIfInBounds_toArray, List.set_cons_zero, List.set_cons_succ]
                    refine wpAnyH_done (by kernel_rfl) ?_ _
                    go_wp2_with fail
                    go_meet
                    exact ⟨ga, gb, .slice X4 x.b.length x4, .slice Y4 an0.ids.length y4, rfl, rfl, hHeld, HB.out, HOb.out.sl⟩
            · go_simp
              have HB := Lib.hid (Blk.new y TAn anZ)
              have HBlo := Lib.hid (show wr.heap.size ≤ y.heap.size from hHeld.size)
              refine hK.out _ _ (hHeld.alloc (.cells anZ TAn)) (fun hHeld => ?_)
              clear hK K
              have HA := Lib.hid (HA.out.alloc (.cells anZ TAn))
              change wpAnyH _ _ _ _ _ _ _ _ (y.alloc (.cells anZ TAn))
              have hHeld2 : Fr wr (y.alloc (.cells anZ TAn)) NoneS := hHeld
              clear hHeld
              generalize y.heap.size = gb at HB HBlo ⊢
              generalize y.alloc (.cells anZ TAn) = y at hHeld2 HB HA ⊢
              have hHeld := hHeld2
              clear hHeld2
              try simp only [Act.put, List.getElem_toArray, List.getElem_cons_succ, List.getElem_cons_zero, List.setIfInBounds_toArray, List.set_cons_zero, List.set_cons_succ]
              refine wpAnyH_ready (rs := [7]) (by kernel_rfl) (by simp) ?_
              refine AllReadyH.cons rfl (fun K hK => ?_) AllReadyH.nil
              · go_simp
                go_at_call 6
                refine (HD.out _ hHeld).mono ?_
                rintro e y2 ⟨dv4, pv4, bv4, iv4, n4, rfl, hr, hn4, hb4, hi4, hg4⟩
                obtain ⟨⟨A4, c4, rfl⟩, E4, f4, rfl⟩ := hr.form
                obtain ⟨X4, x4, rfl⟩ := own_formN hb4.own
                obtain ⟨Y4, y4, rfl⟩ := own_formN hi4
                have HOb := Lib.hid hb4
                have HA := Lib.hid (HA.out.fr hg4 (fun h => h))
                have HB := Lib.hid (HB.out.fr hg4 (fun h => h))
                refine hK.out _ _ (Fr.trans hHeld hg4 (fun _ _ h => h)) (fun hHeld => ?_)
                clear hK K hr hn4 hb4 hi4 hg4
                skip
                try simp only [Act.put, List.getElem_toArray, List.getElem_cons_succ, List.getElem_cons_zero, List.setIfInBounds_toArray, List.set_cons_zero, List.set_cons_succ]
                refine wpAnyH_take (i := 8) (v := .tuple #[.agg (stA (.slice A4 s.docs.length c4) (.slice E4 s.voc.length f4) s.next), .agg (anA { an0 with b := x.b } (.slice X4 x.b.length x4) (.slice Y4 an0.ids.length y4))]) rfl (by kernel_rfl) (by kernel_rfl) (by kernel_rfl) (fun _ _ _ h => h) (Or.inl ⟨by kernel_rfl, ?_⟩) hHeld ?_
                · intro w hSw; go_simp
                try simp only [Act.put, List.getElem_toArray, List.getElem_cons_succ, List.getElem_cons_zero, List.setIfInBounds_toArray, List.set_cons_zero, List.set_cons_succ]
                refine wpAnyH_take (i := 9) (v := .agg (stA (.slice A4 s.docs.length c4) (.slice E4 s.voc.length f4) s.next)) rfl (by kernel_rfl) (by kernel_rfl) (by kernel_rfl) (fun _ _ _ h => h) (Or.inl ⟨by kernel_rfl, ?_⟩) hHeld ?_
                · intro w hSw; go_simp
                try simp only [Act.put, List.getElem_toArray, List.getElem_cons_succ, List.getElem_cons_zero, List.setIfInBounds_toArray, List.set_cons_zero, List.set_cons_succ]
                refine wpAnyH_take (i := 10) (v := .agg (anA { an0 with b := x.b } (.slice X4 x.b.length x4) (.slice Y4 an0.ids.length y4))) rfl (by kernel_rfl) (by kernel_rfl) (by kernel_rfl) (fun _ _ _ h => h) (Or.inl ⟨by kernel_rfl, ?_⟩) hHeld ?_
                · intro w hSw; go_simp
                try simp only [Act.put, List.getElem_toArray, List.getElem_cons_succ, List.getElem_cons_zero, List.setIfInBounds_toArray, List.set_cons_zero, List.set_cons_succ]
                generalize y2 = y at hHeld HOb HA HB ⊢
                refine wpAnyH_ready (rs := [13]) (by kernel_rfl) (by simp) ?_
                refine AllReadyH.cons rfl (fun K hK => ?_) AllReadyH.nil
                · rw [if_pos (by rfl)]
                  refine wp_store_row TSt _ _ rfl ga (stA (.slice A4 s.docs.length c4) (.slice E4 s.voc.length f4) s.next) rfl rfl TSt _ HA.out (by kernel_rfl) (by kernel_rfl) (by kernel_rfl) ?_
                  refine hK.out _ _ (Sha.fr_setRow hHeld (fun h => by have := HAlo.out; omega) _) (fun hHeld => ?_)
                  clear hK K
                  have HOb := Lib.hid (HOb.out.fr (Sha.fr_setRow (S := fun k => k = ga) (Fr.refl y _) (fun _ => rfl) (stA (.slice A4 s.docs.length c4) (.slice E4 s.voc.length f4) s.next)) (fun k hk e => own_blk_ne HOb.out.own HA.out (by decide) (e ▸ hk)))
                  have HB := Lib.hid (HB.out.fr (Sha.fr_setRow (S := fun k => k = ga) (Fr.refl y _) (fun _ => rfl) (stA (.slice A4 s.docs.length c4) (.slice E4 s.voc.length f4) s.next)) (HB.out.ne_ HA.out (by decide)))
                  have HA := Lib.hid (Sha.blk_setRow HA.out (stA (.slice A4 s.docs.length c4) (.slice E4 s.voc.length f4) s.next))
                  generalize y.setRow ga (stA (.slice A4 s.docs.length c4) (.slice E4 s.voc.length f4) s.next) = y at hHeld HOb HA HB ⊢
                  try simp only [Act.put, List.getElem_toArray, List.getElem_cons_succ, List.getElem_cons_zero, List.setIfInBounds_toArray, List.set_cons_zero, List.set_cons_succ]
                  refine wpAnyH_ready (rs := [14]) (by kernel_rfl) (by simp) ?_
                  refine AllReadyH.cons rfl (fun K hK => ?_) AllReadyH.nil
                  · rw [if_pos (by rfl)]
                    refine wp_store_row TAn _ _ rfl gb (anA { an0 with b := x.b } (.slice X4 x.b.length x4) (.slice Y4 an0.ids.length y4)) rfl rfl TAn _ HB.out (by kernel_rfl) (by kernel_rfl) (by kernel_rfl) ?_
                    refine hK.out _ _ (Sha.fr_setRow hHeld (fun h => by have := HBlo.out; omega) _) (fun hHeld => ?_)
                    clear hK K
                    have HOb := Lib.hid (HOb.out.fr (Sha.fr_setRow (S := fun k => k = gb) (Fr.refl y _) (fun _ => rfl) (anA { an0 with b := x.b } (.slice X4 x.b.length x4) (.slice Y4 an0.ids.length y4))) (fun k hk e => own_blk_ne HOb.out.own HB.out (by decide) (e ▸ hk)))
                    have HA := Lib.hid (HA.out.fr (Sha.fr_setRow (S := fun k => k = gb) (Fr.refl y _) (fun _ => rfl) (anA { an0 with b := x.b } (.slice X4 x.b.length x4) (.slice Y4 an0.ids.length y4))) (HA.out.ne_ HB.out (by decide)))
                    have HB := Lib.hid (Sha.blk_setRow HB.out (anA { an0 with b := x.b } (.slice X4 x.b.length x4) (.slice Y4 an0.ids.length y4)))
                    generalize y.setRow gb (anA { an0 with b := x.b } (.slice X4 x.b.length x4) (.slice Y4 an0.ids.length y4)) = y at hHeld HOb HB HA ⊢
                    try simp only [Act.put, List.getElem_toArray, List.getElem_cons_succ, List.getElem_cons_zero, List.setIfInBounds_toArray, List.set_cons_zero, List.set_cons_succ]
                    refine wpAnyH_done (by kernel_rfl) ?_ _
                    go_wp2_with fail
                    go_meet
                    exact ⟨ga, gb, .slice X4 x.b.length x4, .slice Y4 an0.ids.length y4, rfl, rfl, hHeld, HB.out, HOb.out.sl⟩
          · go_simp
            have HB := Lib.hid (Blk.new y TAn anZ)
            have HBlo := Lib.hid (show wr.heap.size ≤ y.heap.size from hHeld.size)
            refine hK.out _ _ (hHeld.alloc (.cells anZ TAn)) (fun hHeld => ?_)
            clear hK K
            change wpAnyH _ _ _ _ _ _ _ _ (y.alloc (.cells anZ TAn))
            have hHeld2 : Fr wr (y.alloc (.cells anZ TAn)) NoneS := hHeld
            clear hHeld
            generalize y.heap.size = gb at HB HBlo ⊢
            generalize y.alloc (.cells anZ TAn) = y at hHeld2 HB ⊢
            have hHeld := hHeld2
            clear hHeld2
            try simp only [Act.put, List.getElem_toArray, List.getElem_cons_succ, List.getElem_cons_zero, List.setIfInBounds_toArray, List.set_cons_zero, List.set_cons_succ]
            refine wpAnyH_ready (rs := [7, 11]) (by kernel_rfl) (by simp) ?_
            refine AllReadyH.cons rfl (fun K hK => ?_) (AllReadyH.cons rfl (fun K hK => ?_) AllReadyH.nil)
            · go_simp
              go_at_call 6
              refine (HD.out _ hHeld).mono ?_
              rintro e y2 ⟨dv4, pv4, bv4, iv4, n4, rfl, hr, hn4, hb4, hi4, hg4⟩
              obtain ⟨⟨A4, c4, rfl⟩, E4, f4, rfl⟩ := hr.form
              obtain ⟨X4, x4, rfl⟩ := own_formN hb4.own
              obtain ⟨Y4, y4, rfl⟩ := own_formN hi4
              have HOb := Lib.hid hb4
              have HB := Lib.hid (HB.out.fr hg4 (fun h => h))
              refine hK.out _ _ (Fr.trans hHeld hg4 (fun _ _ h => h)) (fun hHeld => ?_)
              clear hK K hr hn4 hb4 hi4 hg4
              skip
              try simp only [Act.put, List.getElem_toArray, List.getElem_cons_succ, List.getElem_cons_zero, List.setIfInBounds_toArray, List.set_cons_zero, List.set_cons_succ]
              refine wpAnyH_take (i := 8) (v := .tuple #[.agg (stA (.slice A4 s.docs.length c4) (.slice E4 s.voc.length f4) s.next), .agg (anA { an0 with b := x.b } (.slice X4 x.b.length x4) (.slice Y4 an0.ids.length y4))]) rfl (by kernel_rfl) (by kernel_rfl) (by kernel_rfl) (fun _ _ _ h => h) (Or.inl ⟨by kernel_rfl, ?_⟩) hHeld ?_
              · intro w hSw; go_simp
              try simp only [Act.put, List.getElem_toArray, List.getElem_cons_succ, List.getElem_cons_zero, List.setIfInBounds_toArray, List.set_cons_zero, List.set_cons_succ]
              refine wpAnyH_take (i := 9) (v := .agg (stA (.slice A4 s.docs.length c4) (.slice E4 s.voc.length f4) s.next)) rfl (by kernel_rfl) (by kernel_rfl) (by kernel_rfl) (fun _ _ _ h => h) (Or.inl ⟨by kernel_rfl, ?_⟩) hHeld ?_
              · intro w hSw; go_simp
              try simp only [Act.put, List.getElem_toArray, List.getElem_cons_succ, List.getElem_cons_zero, List.setIfInBounds_toArray, List.set_cons_zero, List.set_cons_succ]
              refine wpAnyH_take (i := 10) (v := .agg (anA { an0 with b := x.b } (.slice X4 x.b.length x4) (.slice Y4 an0.ids.length y4))) rfl (by kernel_rfl) (by kernel_rfl) (by kernel_rfl) (fun _ _ _ h => h) (Or.inl ⟨by kernel_rfl, ?_⟩) hHeld ?_
              · intro w hSw; go_simp
              try simp only [Act.put, List.getElem_toArray, List.getElem_cons_succ, List.getElem_cons_zero, List.setIfInBounds_toArray, List.set_cons_zero, List.set_cons_succ]
              generalize y2 = y at hHeld HOb HB ⊢
              refine wpAnyH_ready (rs := [11]) (by kernel_rfl) (by simp) ?_
              refine AllReadyH.cons rfl (fun K hK => ?_) AllReadyH.nil
              · go_simp
                have HA := Lib.hid (Blk.new y TSt stZ)
                have HAlo := Lib.hid (show wr.heap.size ≤ y.heap.size from hHeld.size)
                refine hK.out _ _ (hHeld.alloc (.cells stZ TSt)) (fun hHeld => ?_)
                clear hK K
                have HB := Lib.hid (HB.out.alloc (.cells stZ TSt))
                have HOb := Lib.hid (HOb.out.gr ((Fr.refl y NoneS).alloc (.cells stZ TSt)))
                change wpAnyH _ _ _ _ _ _ _ _ (y.alloc (.cells stZ TSt))
                have hHeld2 : Fr wr (y.alloc (.cells stZ TSt)) NoneS := hHeld
                clear hHeld
                generalize y.heap.size = ga at HA HAlo ⊢
                generalize y.alloc (.cells stZ TSt) = y at hHeld2 HA HB HOb ⊢
                have hHeld := hHeld2
                clear hHeld2
                try simp only [Act.put, List.getElem_toArray, List.getElem_cons_succ, List.getElem_cons_zero, List.setIfInBounds_toArray, List.set_cons_zero, List.set_cons_succ]
                refine wpAnyH_ready (rs := [13]) (by kernel_rfl) (by simp) ?_
                refine AllReadyH.cons rfl (fun K hK => ?_) AllReadyH.nil
                · rw [if_pos (by rfl)]
                  refine wp_store_row TSt _ _ rfl ga (stA (.slice A4 s.docs.length c4) (.slice E4 s.voc.length f4) s.next) rfl rfl TSt _ HA.out (by kernel_rfl) (by kernel_rfl) (by kernel_rfl) ?_
                  refine hK.out _ _ (Sha.fr_setRow hHeld (fun h => by have := HAlo.out; omega) _) (fun hHeld => ?_)
                  clear hK K
                  have HOb := Lib.hid (HOb.out.fr (Sha.fr_setRow (S := fun k => k = ga) (Fr.refl y _) (fun _ => rfl) (stA (.slice A4 s.docs.length c4) (.slice E4 s.voc.length f4) s.next)) (fun k hk e => own_blk_ne HOb.out.own HA.out (by decide) (e ▸ hk)))
                  have HB := Lib.hid (HB.out.fr (Sha.fr_setRow (S := fun k => k = ga) (Fr.refl y _) (fun _ => rfl) (stA (.slice A4 s.docs.length c4) (.slice E4 s.voc.length f4) s.next)) (HB.out.ne_ HA.out (by decide)))
                  have HA := Lib.hid (Sha.blk_setRow HA.out (stA (.slice A4 s.docs.length c4) (.slice E4 s.voc.length f4) s.next))
                  generalize y.setRow ga (stA (.slice A4 s.docs.length c4) (.slice E4 s.voc.length f4) s.next) = y at hHeld HOb HA HB ⊢
                  try simp only [Act.put, List.getElem_toArray, List.getElem_cons_succ, List.getElem_cons_zero, List.setIfInBounds_toArray, List.set_cons_zero, List.set_cons_succ]
                  refine wpAnyH_ready (rs := [14]) (by kernel_rfl) (by simp) ?_
                  refine AllReadyH.cons rfl (fun K hK => ?_) AllReadyH.nil
                  · rw [if_pos (by rfl)]
                    refine wp_store_row TAn _ _ rfl gb (anA { an0 with b := x.b } (.slice X4 x.b.length x4) (.slice Y4 an0.ids.length y4)) rfl rfl TAn _ HB.out (by kernel_rfl) (by kernel_rfl) (by kernel_rfl) ?_
                    refine hK.out _ _ (Sha.fr_setRow hHeld (fun h => by have := HBlo.out; omega) _) (fun hHeld => ?_)
                    clear hK K
                    have HOb := Lib.hid (HOb.out.fr (Sha.fr_setRow (S := fun k => k = gb) (Fr.refl y _) (fun _ => rfl) (anA { an0 with b := x.b } (.slice X4 x.b.length x4) (.slice Y4 an0.ids.length y4))) (fun k hk e => own_blk_ne HOb.out.own HB.out (by decide) (e ▸ hk)))
                    have HA := Lib.hid (HA.out.fr (Sha.fr_setRow (S := fun k => k = gb) (Fr.refl y _) (fun _ => rfl) (anA { an0 with b := x.b } (.slice X4 x.b.length x4) (.slice Y4 an0.ids.length y4))) (HA.out.ne_ HB.out (by decide)))
                    have HB := Lib.hid (Sha.blk_setRow HB.out (anA { an0 with b := x.b } (.slice X4 x.b.length x4) (.slice Y4 an0.ids.length y4)))
                    generalize y.setRow gb (anA { an0 with b := x.b } (.slice X4 x.b.length x4) (.slice Y4 an0.ids.length y4)) = y at hHeld HOb HB HA ⊢
                    try simp only [Act.put, List.getElem_toArray, List.getElem_cons_succ, List.getElem_cons_zero, List.setIfInBounds_toArray, List.set_cons_zero, List.set_cons_succ]
                    refine wpAnyH_done (by kernel_rfl) ?_ _
                    go_wp2_with fail
                    go_meet
                    exact ⟨ga, gb, .slice X4 x.b.length x4, .slice Y4 an0.ids.length y4, rfl, rfl, hHeld, HB.out, HOb.out.sl⟩
            · go_simp
              have HA := Lib.hid (Blk.new y TSt stZ)
              have HAlo := Lib.hid (show wr.heap.size ≤ y.heap.size from hHeld.size)
              refine hK.out _ _ (hHeld.alloc (.cells stZ TSt)) (fun hHeld => ?_)
              clear hK K
              have HB := Lib.hid (HB.out.alloc (.cells stZ TSt))
              change wpAnyH _ _ _ _ _ _ _ _ (y.alloc (.cells stZ TSt))
              have hHeld2 : Fr wr (y.alloc (.cells stZ TSt)) NoneS := hHeld
              clear hHeld
              generalize y.heap.size = ga at HA HAlo ⊢
              generalize y.alloc (.cells stZ TSt) = y at hHeld2 HA HB ⊢
              have hHeld := hHeld2
              clear hHeld2
              try simp only [Act.put, List.getElem_toArray, List.getElem_cons_succ, List.getElem_cons_zero, List.setIfInBounds_toArray, List.set_cons_zero, List.set_cons_succ]
              refine wpAnyH_ready (rs := [7]) (by kernel_rfl) (by simp) ?_
              refine AllReadyH.cons rfl (fun K hK => ?_) AllReadyH.nil
              · go_simp
                go_at_call 6
                refine (HD.out _ hHeld).mono ?_
                rintro e y2 ⟨dv4, pv4, bv4, iv4, n4, rfl, hr, hn4, hb4, hi4, hg4⟩
                obtain ⟨⟨A4, c4, rfl⟩, E4, f4, rfl⟩ := hr.form
                obtain ⟨X4, x4, rfl⟩ := own_formN hb4.own
                obtain ⟨Y4, y4, rfl⟩ := own_formN hi4
                have HOb := Lib.hid hb4
                have HA := Lib.hid (HA.out.fr hg4 (fun h => h))
                have HB := Lib.hid (HB.out.fr hg4 (fun h => h))
                refine hK.out _ _ (Fr.trans hHeld hg4 (fun _ _ h => h)) (fun hHeld => ?_)
                clear hK K hr hn4 hb4 hi4 hg4
                skip
                try simp only [Act.put, List.getElem_toArray, List.getElem_cons_succ, List.getElem_cons_zero, List.setIfInBounds_toArray, List.set_cons_zero, List.set_cons_succ]
                refine wpAnyH_take (i := 8) (v := .tuple #[.agg (stA (.slice A4 s.docs.length c4) (.slice E4 s.voc.length f4) s.next), .agg (anA { an0 with b := x.b } (.slice X4 x.b.length x4) (.slice Y4 an0.ids.length y4))]) rfl (by kernel_rfl) (by kernel_rfl) (by kernel_rfl) (fun _ _ _ h => h) (Or.inl ⟨by kernel_rfl, ?_⟩) hHeld ?_
                · intro w hSw; go_simp
                try simp only [Act.put, List.getElem_toArray, List.getElem_cons_succ, List.getElem_cons_zero, List.setIfInBounds_toArray, List.set_cons_zero, List.set_cons_succ]
                refine wpAnyH_take (i := 9) (v := .agg (stA (.slice A4 s.docs.length c4) (.slice E4 s.voc.length f4) s.next)) rfl (by kernel_rfl) (by kernel_rfl) (by kernel_rfl) (fun _ _ _ h => h) (Or.inl ⟨by kernel_rfl, ?_⟩) hHeld ?_
                · intro w hSw; go_simp
                try simp only [Act.put, List.getElem_toArray, List.getElem_cons_succ, List.getElem_cons_zero, List.setIfInBounds_toArray, List.set_cons_zero, List.set_cons_succ]
                refine wpAnyH_take (i := 10) (v := .agg (anA { an0 with b := x.b } (.slice X4 x.b.length x4) (.slice Y4 an0.ids.length y4))) rfl (by kernel_rfl) (by kernel_rfl) (by kernel_rfl) (fun _ _ _ h => h) (Or.inl ⟨by kernel_rfl, ?_⟩) hHeld ?_
                · intro w hSw; go_simp
                try simp only [Act.put, List.getElem_toArray, List.getElem_cons_succ, List.getElem_cons_zero, List.setIfInBounds_toArray, List.set_cons_zero, List.set_cons_succ]
                generalize y2 = y at hHeld HOb HA HB ⊢
                refine wpAnyH_ready (rs := [13]) (by kernel_rfl) (by simp) ?_
                refine AllReadyH.cons rfl (fun K hK => ?_) AllReadyH.nil
                · rw [if_pos (by rfl)]
                  refine wp_store_row TSt _ _ rfl ga (stA (.slice A4 s.docs.length c4) (.slice E4 s.voc.length f4) s.next) rfl rfl TSt _ HA.out (by kernel_rfl) (by kernel_rfl) (by kernel_rfl) ?_
                  refine hK.out _ _ (Sha.fr_setRow hHeld (fun h => by have := HAlo.out; omega) _) (fun hHeld => ?_)
                  clear hK K
                  have HOb := Lib.hid (HOb.out.fr (Sha.fr_setRow (S := fun k => k = ga) (Fr.refl y _) (fun _ => rfl) (stA (.slice A4 s.docs.length c4) (.slice E4 s.voc.length f4) s.next)) (fun k hk e => own_blk_ne HOb.out.own HA.out (by decide) (e ▸ hk)))
                  have HB := Lib.hid (HB.out.fr (Sha.fr_setRow (S := fun k => k = ga) (Fr.refl y _) (fun _ => rfl) (stA (.slice A4 s.docs.length c4) (.slice E4 s.voc.length f4) s.next)) (HB.out.ne_ HA.out (by decide)))
                  have HA := Lib.hid (Sha.blk_setRow HA.out (stA (.slice A4 s.docs.length c4) (.slice E4 s.voc.length f4) s.next))
                  generalize y.setRow ga (stA (.slice A4 s.docs.length c4) (.slice E4 s.voc.length f4) s.next) = y at hHeld HOb HA HB ⊢
                  try simp only [Act.put, List.getElem_toArray, List.getElem_cons_succ, List.getElem_cons_zero, List.setIfInBounds_toArray, List.set_cons_zero, List.set_cons_succ]
                  refine wpAnyH_ready (rs := [14]) (by kernel_rfl) (by simp) ?_
                  refine AllReadyH.cons rfl (fun K hK => ?_) AllReadyH.nil
                  · rw [if_pos (by rfl)]
                    refine wp_store_row TAn _ _ rfl gb (anA { an0 with b := x.b } (.slice X4 x.b.length x4) (.slice Y4 an0.ids.length y4)) rfl rfl TAn _ HB.out (by kernel_rfl) (by kernel_rfl) (by kernel_rfl) ?_
                    refine hK.out _ _ (Sha.fr_setRow hHeld (fun h => by have := HBlo.out; omega) _) (fun hHeld => ?_)
                    clear hK K
                    have HOb := Lib.hid (HOb.out.fr (Sha.fr_setRow (S := fun k => k = gb) (Fr.refl y _) (fun _ => rfl) (anA { an0 with b := x.b } (.slice X4 x.b.length x4) (.slice Y4 an0.ids.length y4))) (fun k hk e => own_blk_ne HOb.out.own HB.out (by decide) (e ▸ hk)))
                    have HA := Lib.hid (HA.out.fr (Sha.fr_setRow (S := fun k => k = gb) (Fr.refl y _) (fun _ => rfl) (anA { an0 with b := x.b } (.slice X4 x.b.length x4) (.slice Y4 an0.ids.length y4))) (HA.out.ne_ HB.out (by decide)))
                    have HB := Lib.hid (Sha.blk_setRow HB.out (anA { an0 with b := x.b } (.slice X4 x.b.length x4) (.slice Y4 an0.ids.length y4)))
                    generalize y.setRow gb (anA { an0 with b := x.b } (.slice X4 x.b.length x4) (.slice Y4 an0.ids.length y4)) = y at hHeld HOb HB HA ⊢
                    try simp only [Act.put, List.getElem_toArray, List.getElem_cons_succ, List.getElem_cons_zero, List.setIfInBounds_toArray, List.set_cons_zero, List.set_cons_succ]
                    refine wpAnyH_done (by kernel_rfl) ?_ _
                    go_wp2_with fail
                    go_meet
                    exact ⟨ga, gb, .slice X4 x.b.length x4, .slice Y4 an0.ids.length y4, rfl, rfl, hHeld, HB.out, HOb.out.sl⟩
          -->> R26
        case rest =>
        obtain ⟨ga, gb, bv, iv, rfl, rfl, HG26, HB26, HS26⟩ := hcut
        obtain ⟨X4, x4, rfl⟩ := SL.form HS26.out
        have Hkey3 := Lib.hid (show ∀ wx, Gr wc wx → wx.cell? ⟨gb, 0, none⟩ = some (.int .i64 0) ∧ wx.cell? ⟨gb, 3, none⟩ = some (.slice X4 x.b.length x4) ∧ wx.cell? ⟨b1, o1 + k * 2 + 1, none⟩ = some (.slice A6 x.b.length c6) from fun wx hg => by
          have hb := HB26.out.fr hg (fun h => h)
          exact ⟨by rw [hb.cell]; rfl, by rw [hb.cell]; rfl, Hk2.out wx (HG26.out.trans hg (fun _ _ h => h))⟩)
        have HSm := Lib.hid (fun wx (hg : Gr wc wx) => same_any (.slice X4 x.b.length x4) (.slice A6 x.b.length c6) x.b x.b wx (HS26.out.gr hg) ((Hrd.out.2.1.gr (HK.out.gr.trans HGk.out (fun _ _ h => h))).gr (HG26.out.trans hg (fun _ _ h => h))) (by have := Hwd.out.2.2; omega))
        simp only [decide_true] at HSm
        have HT1 := Lib.hid ((Fr.refl wc NoneS).drew)
        go_upto_region 27 with (fail)
        go_region_held3 (fun wx => wx.cell? ⟨gb, 0, none⟩ = some (.int .i64 0) ∧ wx.cell? ⟨gb, 3, none⟩ = some (.slice X4 x.b.length x4) ∧ wx.cell? ⟨b1, o1 + k * 2 + 1, none⟩ = some (.slice A6 x.b.length c6))
          (first | with_reducible exact Hkey3.out _ HT1.out | with_reducible exact Hkey3.out _ HG28.out)
          (first
            | (go_at_call 10
               (with_reducible refine (HSm.out _ HT1.out).mono ?_)
               rintro e w8 ⟨rfl, hg⟩
               have HG28 := Lib.hid (show Gr wc w8 from HT1.out.trans hg.gr (fun _ _ h => h))
               clear hg))
        go_wp2_with fail
        go_roundg (gk - 1)
        case measure => have := HKk.out; have := Hk.out; omega
        case rel => exact ⟨k + 1, by go_num, ⟨Hk.out, by have := HKk.out; have := Hk.out; omega⟩, HGk.out.trans (HG26.out.trans HG28.out (fun _ _ h => h)) (fun _ _ h => h)⟩
      · go_wp2_with fail
        go_meet
        exact HGk.out
  case rest =>
  have HBp := Lib.hid (HK.out.blk.fr hcut.out (fun h => h))
  have k0 : wc.cell? ⟨p, 0, none⟩ = some (.slice A1 s.docs.length c1) := by rw [HBp.out.cell]; rfl
  have HLv := Lib.hid (fun wx => lives_any wx)
  go_wp2_with (go_at_call 11; refine (HLv.out _).mono ?_; rintro e w9 ⟨rfl, hg⟩; have HG9 := Lib.hid hg; clear hg)
  go_ret
  exact ⟨rfl, (HK.out.gr.trans hcut.out (fun _ _ h => h)).trans HG9.out (fun _ _ h => h)⟩
end Mod
end Go.Proofs.Ytlodbhlidgepfaa
