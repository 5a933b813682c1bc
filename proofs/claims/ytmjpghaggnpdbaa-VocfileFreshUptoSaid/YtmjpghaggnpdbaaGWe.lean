/- vocfile: the reader's piece. -/
import Derived.Test.YtmjpghaggnpdbaaGWd
set_option linter.unusedVariables false
set_option linter.unusedSimpArgs false
namespace Go.Proofs.Ytmjpghaggnpdbaa
open Go.RowKit
open Voc Leb Crc
namespace Vf
def agP (p : Pc) : Value := .agg #[.bool p.j, .int .u8 p.b, .int .i64 p.l, .int .i64 p.r, .int .u32 p.k]
theorem byteR_le {bs : List Int} {a : Nat} {c : Int} {a1 : Nat} (ha : a ≤ bs.length) (h : byteR bs a = .ok c a1) : a1 ≤ bs.length := by
  unfold byteR at h
  split at h
  · cases h
  · injection h with h1 h2; omega
theorem numR_most {bs : List Int} {a most n a2 : Nat} (h : numR bs a most = .ok n a2) : n ≤ most := by
  unfold numR at h
  split at h
  · cases h
  · split at h
    · cases h
    · rename_i hn
      injection h with h1 h2
      omega
theorem gblk_setRow {w : World} {g : Nat} {t : TypeId} {old : Array Value} (h : Blk w g t old) (cs : Array Value) : Blk (w.setRow g cs) g t cs := setRow_heap _ g _ _ _ (0, 0) h
theorem gfr_setRow {w w' : World} {S : Nat → Prop} (h : Fr w w' S) {g : Nat} (hg : g < w.heap.size → S g) (cs : Array Value) : Fr w (w'.setRow g cs) S :=
  h.trans (T := fun k => k = g) ⟨rfl, rfl, rfl, by simp [World.setRow], fun k hk hn => by unfold World.setRow; simp [Array.getElem?_modify, Ne.symm hn]⟩ (fun i hi e => by subst e; exact hg hi)
set_option maxRecDepth 20000 in
set_option maxHeartbeats 8000000 in
theorem piece_any {w : World} {p : Nat} {v : Value} {bs : List Int} {a : Nat} (HR : Rd w p v a) (HS : SL encB w v bs) (hb : Leb.Bs bs) (ha : a ≤ bs.length) (hl : bs.length ≤ 1048576) (r : R Pc) (hr : pieceR bs a = r) :
    Calls Try.prog 24 #[.pointer (some ⟨p, 0, none⟩)] w (RP agP w p v r) := by
  have HF1 := Lib.hid ((Fr.refl w (fun k => k = p)).alloc (.cells #[.bool false, .int .u8 0, .int .i64 0, .int .i64 0, .int .u32 0] TPc))
  have HB1 := Lib.hid (Blk.new w TPc #[.bool false, .int .u8 0, .int .i64 0, .int .i64 0, .int .u32 0])
  have HR1 := Lib.hid (show Rd _ p v a from Blk.alloc HR (.cells #[.bool false, .int .u8 0, .int .i64 0, .int .i64 0, .int .u32 0] TPc))
  have HS1 := Lib.hid (HS.gr ((Fr.refl w NoneS).alloc (.cells #[.bool false, .int .u8 0, .int .i64 0, .int .i64 0, .int .u32 0] TPc)))
  obtain ⟨q, hq⟩ : ∃ q, w.heap.size = q := ⟨_, rfl⟩
  have Hpq := Lib.hid (show p ≠ q by have := Blk.lt HR; omega)
  have Hr := Lib.hid hr
  have Hb := Lib.hid hb
  have Ha := Lib.hid ha
  rw [hq] at HB1
  clear HR HS hr hb ha
  have HNx := Lib.hid (fun (w : World) (a : Nat) (HR : Rd w p v a) (HS : SL encB w v bs) (ha : a ≤ bs.length) (r : R Int) (hr : byteR bs a = r) => next_any HR HS ha hl r hr)
  have HNu := Lib.hid (fun (w : World) (a : Nat) (HR : Rd w p v a) (HS : SL encB w v bs) (ha : a ≤ bs.length) (most : Nat) (hm : most < 2 ^ 63) (r : R Nat) (hr : numR bs a most = r) => number_any HR HS Hb.out ha hl most hm r hr)
  go_enter Try.func24, Try.ntmps24
  go_upto_region 1 with (fail)
  generalize World.alloc w _ = w1 at HF1 HB1 HR1 HS1 ⊢
  have c1 : w1.cell? ⟨p, 1, none⟩ = some (.int .i64 (a : Int)) := by rw [Blk.cell HR1.out]; rfl
  go_upto_region 2 with (fail)
  clear c1
  obtain ⟨r1, hr1⟩ : ∃ x, byteR bs a = x := ⟨_, rfl⟩
  have HC1 := Lib.hid (HNx.out w1 a HR1.out HS1.out Ha.out r1 hr1)
  have H1 := Lib.hid hr1
  clear hr1
  cases r1 with
  | bad E x =>
    have Hr2 := Lib.hid (show r = .bad E x by rw [← Hr.out]; unfold pieceR; rw [H1.out])
    go_wp2_with (go_at_call 42; refine HC1.out.mono ?_; intro e w2 h; obtain ⟨rfl, hf⟩ := h; have HF2 := Lib.hid (HF1.out.trans hf (fun _ _ h => h)); clear hf)
    refine ⟨rfl, ?_⟩
    rw [Hr2.out]
    exact ⟨rfl, HF2.out⟩
  | ok t a1 =>
    have HA1 := Lib.hid (byteR_le Ha.out H1.out)
    by_cases h0 : t = 0
    · subst h0
      obtain ⟨r2, hr2⟩ : ∃ x, byteR bs a1 = x := ⟨_, rfl⟩
      have H2 := Lib.hid hr2
      clear hr2
      go_upto_block 0 with (go_at_call 42; refine HC1.out.mono ?_; intro e w2 h; obtain ⟨rfl, hf, hrd⟩ := h; have HF2 := Lib.hid hf; have HR2 := Lib.hid hrd; clear hf hrd)
      have HS2 := Lib.hid (sl_rd HS1.out HR1.out HF2.out)
      have HB2 := Lib.hid (HB1.out.fr HF2.out (fun h => Hpq.out h.symm))
      have HC2 := Lib.hid (HNx.out w2 a1 HR2.out HS2.out HA1.out r2 H2.out)
      cases r2 with
      | bad E x =>
        have Hr2 := Lib.hid (show r = .bad E x by rw [← Hr.out]; unfold pieceR; rw [H1.out]; simp only [if_true]; rw [H2.out])
        go_wp2_with (go_at_call 42; refine HC2.out.mono ?_; intro e w3 h; obtain ⟨rfl, hf⟩ := h; have HF3 := Lib.hid hf; clear hf)
        refine ⟨rfl, ?_⟩
        rw [Hr2.out]
        exact ⟨rfl, (HF1.out.trans HF2.out (fun _ _ h => h)).trans HF3.out (fun _ _ h => h)⟩
      | ok c a2 =>
        have Hr2 := Lib.hid (show r = .ok ⟨false, c, 0, 0, 0⟩ a2 by rw [← Hr.out]; unfold pieceR; rw [H1.out]; simp only [if_true]; rw [H2.out])
        go_wp2_with (first
          | (go_at_call 42; refine HC2.out.mono ?_; intro e w3 h; obtain ⟨rfl, hf, hrd⟩ := h; have HF3 := Lib.hid hf; have HR3 := Lib.hid hrd; have HB3 := Lib.hid (HB2.out.fr hf (fun h => Hpq.out h.symm)); clear hf hrd)
          | refine wpList_store_row rfl _ _ _ rfl q #[.bool false, .int .u8 c, .int .i64 0, .int .i64 0, .int .u32 0] rfl rfl TPc _ HB3.out (by kernel_rfl) (by kernel_rfl) (by kernel_rfl) ?_)
        try simp only [Exit.inBlock, Exit.then]
        refine bodyPost_ret (results_cell_row Try.results24 _ _ q _ #[.bool false, .int .u8 c, .int .i64 0, .int .i64 0, .int .u32 0] (0, 0) _ rfl (gblk_setRow HB3.out _) Try.underlying42 rfl (by kernel_rfl)) rfl ?_
        rw [Hr2.out]
        have hF := (HF1.out.trans HF2.out (fun _ _ h => h)).trans HF3.out (fun _ _ h => h)
        refine ⟨rfl, gfr_setRow hF (fun h => by omega) _, ?_⟩
        exact (show Rd w3 p v a2 from HR3.out).fr (gfr_setRow (S := fun k => k = q) (Fr.refl w3 _) (fun _ => rfl) _) Hpq.out
    · have e0 : (t == 0) = false := by simpa using h0
      by_cases h1 : t = 1
      · subst h1
        obtain ⟨r2, hr2⟩ : ∃ x, numR bs a1 4095 = x := ⟨_, rfl⟩
        have H2 := Lib.hid hr2
        clear hr2
        go_upto_region 6 with (go_at_call 42; refine HC1.out.mono ?_; intro e w2 h; obtain ⟨rfl, hf, hrd⟩ := h; have HF2 := Lib.hid hf; have HR2 := Lib.hid hrd; clear hf hrd)
        have HS2 := Lib.hid (sl_rd HS1.out HR1.out HF2.out)
        have HB2 := Lib.hid (HB1.out.fr HF2.out (fun h => Hpq.out h.symm))
        have HF12 := Lib.hid (HF1.out.trans HF2.out (fun _ _ h => h))
        have HC2 := Lib.hid (HNu.out w2 a1 HR2.out HS2.out HA1.out 4095 (by decide) r2 H2.out)
        cases r2 with
        | bad E x =>
          have Hr2 := Lib.hid (show r = .bad E x by rw [← Hr.out]; unfold pieceR; rw [H1.out]; simp only [h0, if_false, if_true]; rw [H2.out])
          go_wp2_with (go_at_call 23; refine HC2.out.mono ?_; intro e w3 h; obtain ⟨rfl, hf⟩ := h; have HF3 := Lib.hid hf; clear hf)
          refine ⟨rfl, ?_⟩
          rw [Hr2.out]
          exact ⟨rfl, HF12.out.trans HF3.out (fun _ _ h => h)⟩
        | ok l a2 =>
        have hl1 := numR_most H2.out
        have wl : IntKind.i64.wrap (l : Int) = (l : Int) := IntWalk.i64_in _ (by omega)
        have HA2 := Lib.hid (numR_le H2.out)
        obtain ⟨r3, hr3⟩ : ∃ x, numR bs a2 4095 = x := ⟨_, rfl⟩
        have H3 := Lib.hid hr3
        clear hr3
        go_upto_region 7 with (go_at_call 23; refine HC2.out.mono ?_; intro e w3 h; obtain ⟨rfl, hf, hrd⟩ := h; have HF3 := Lib.hid hf; have HR3 := Lib.hid hrd; clear hf hrd)
        have HS3 := Lib.hid (sl_rd HS2.out HR2.out HF3.out)
        have HB3 := Lib.hid (HB2.out.fr HF3.out (fun h => Hpq.out h.symm))
        have HF13 := Lib.hid (HF12.out.trans HF3.out (fun _ _ h => h))
        have HC3 := Lib.hid (HNu.out w3 a2 HR3.out HS3.out HA2.out 4095 (by decide) r3 H3.out)
        cases r3 with
        | bad E x =>
          have Hr2 := Lib.hid (show r = .bad E x by rw [← Hr.out]; unfold pieceR; rw [H1.out]; simp only [h0, if_false, if_true]; rw [H2.out]; simp only; rw [H3.out])
          go_wp2_with (go_at_call 23; refine HC3.out.mono ?_; intro e w4 h; obtain ⟨rfl, hf⟩ := h; have HF4 := Lib.hid hf; clear hf)
          refine ⟨rfl, ?_⟩
          rw [Hr2.out]
          exact ⟨rfl, HF13.out.trans HF4.out (fun _ _ h => h)⟩
        | ok rr a3 =>
        have hr1 := numR_most H3.out
        have wr : IntKind.i64.wrap (rr : Int) = (rr : Int) := IntWalk.i64_in _ (by omega)
        have HA3 := Lib.hid (numR_le H3.out)
        obtain ⟨r4, hr4⟩ : ∃ x, numR bs a3 4294967295 = x := ⟨_, rfl⟩
        have H4 := Lib.hid hr4
        clear hr4
        go_upto_region 8 with (go_at_call 23; refine HC3.out.mono ?_; intro e w4 h; obtain ⟨rfl, hf, hrd⟩ := h; have HF4 := Lib.hid hf; have HR4 := Lib.hid hrd; clear hf hrd)
        have HS4 := Lib.hid (sl_rd HS3.out HR3.out HF4.out)
        have HB4 := Lib.hid (HB3.out.fr HF4.out (fun h => Hpq.out h.symm))
        have HF14 := Lib.hid (HF13.out.trans HF4.out (fun _ _ h => h))
        have HC4 := Lib.hid (HNu.out w4 a3 HR4.out HS4.out HA3.out 4294967295 (by decide) r4 H4.out)
        cases r4 with
        | bad E x =>
          have Hr2 := Lib.hid (show r = .bad E x by rw [← Hr.out]; unfold pieceR; rw [H1.out]; simp only [h0, if_false, if_true]; rw [H2.out]; simp only; rw [H3.out]; simp only; rw [H4.out])
          go_wp2_with (go_at_call 23; refine HC4.out.mono ?_; intro e w5 h; obtain ⟨rfl, hf⟩ := h; have HF5 := Lib.hid hf; clear hf)
          refine ⟨rfl, ?_⟩
          rw [Hr2.out]
          exact ⟨rfl, HF14.out.trans HF5.out (fun _ _ h => h)⟩
        | ok k a4 =>
        have hk1 := numR_most H4.out
        have wk : IntKind.u32.wrap (k : Int) = (k : Int) := by show (k : Int) % 4294967296 = _; omega
        have Hr2 := Lib.hid (show r = .ok ⟨true, 0, l, rr, k⟩ a4 by rw [← Hr.out]; unfold pieceR; rw [H1.out]; simp only [h0, if_false, if_true]; rw [H2.out]; simp only; rw [H3.out]; simp only; rw [H4.out])
        go_wp2_with (first
          | (go_at_call 23; refine HC4.out.mono ?_; intro e w5 h; obtain ⟨rfl, hf, hrd⟩ := h; have HF5 := Lib.hid hf; have HR5 := Lib.hid hrd; have HB5 := Lib.hid (HB4.out.fr hf (fun h => Hpq.out h.symm)); clear hf hrd)
          | refine wpList_store_row rfl _ _ _ rfl q #[.bool true, .int .u8 0, .int .i64 (l : Nat), .int .i64 (rr : Nat), .int .u32 (k : Nat)] rfl rfl TPc _ HB5.out (by kernel_rfl) (by kernel_rfl) (by kernel_rfl) ?_)
        try simp only [Exit.inBlock, Exit.then]
        refine bodyPost_ret (results_cell_row Try.results24 _ _ q _ #[.bool true, .int .u8 0, .int .i64 (l : Nat), .int .i64 (rr : Nat), .int .u32 (k : Nat)] (0, 0) _ rfl (gblk_setRow HB5.out _) Try.underlying42 rfl (by kernel_rfl)) rfl ?_
        rw [Hr2.out]
        have hF := HF14.out.trans HF5.out (fun _ _ h => h)
        refine ⟨rfl, gfr_setRow hF (fun h => by omega) _, ?_⟩
        exact (show Rd w5 p v a4 from HR5.out).fr (gfr_setRow (S := fun k => k = q) (Fr.refl w5 _) (fun _ => rfl) _) Hpq.out
      · have e1 : (t == 1) = false := by simpa using h1
        have Hr2 := Lib.hid (show r = .bad 5 a by rw [← Hr.out]; unfold pieceR; rw [H1.out]; simp only [h0, h1, if_false])
        go_wp2_with (go_at_call 42; refine HC1.out.mono ?_; intro e w2 h; obtain ⟨rfl, hf, hrd⟩ := h; have HF2 := Lib.hid hf; clear hf hrd)
        refine ⟨rfl, ?_⟩
        rw [Hr2.out]
        exact ⟨rfl, HF1.out.trans HF2.out (fun _ _ h => h)⟩
end Vf
end Go.Proofs.Ytmjpghaggnpdbaa
