/- the document's vocfile: the reader's piece. -/
import Derived.Test.YtmjpghaggnpdbaaGRb
set_option linter.unusedVariables false
set_option linter.unusedSimpArgs false
namespace Go.Proofs.Ytmjpghaggnpdbaa
open Go.RowKit
open Voc Leb Crc
namespace Vf
/-- the reader's state: where it stands, or what is wrong -/
def StP (w : World) (p : Nat) (bv : Value) : R Unit → Prop
  | .bad E x => Bd w p bv E x
  | .ok _ a => Gd w p bv a
def StIn (bs : List Int) : R Unit → Prop
  | .bad _ _ => True
  | .ok _ a => a ≤ bs.length
def nxt (bs : List Int) (s : R Unit) (most : Nat) : Nat × R Unit :=
  match s with
  | .bad E x => (0, .bad E x)
  | .ok _ a => match numR bs a most with
    | .bad E x => (0, .bad E x)
    | .ok n a2 => (n, .ok () a2)
theorem StP.rq {w : World} {p : Nat} {bv : Value} {s : R Unit} (h : StP w p bv s) : ∃ a E x, Rq w p bv a E x := by
  cases s with
  | bad E x => obtain ⟨_, a, h⟩ := h; exact ⟨a, E, x, h⟩
  | ok u a => exact ⟨_, _, _, h⟩
theorem StP.lt {w : World} {p : Nat} {bv : Value} {s : R Unit} (h : StP w p bv s) : p < w.heap.size := by
  obtain ⟨a, E, x, h⟩ := h.rq
  exact Blk.lt h
theorem StP.fr {w w' : World} {p : Nat} {bv : Value} {s : R Unit} {S : Nat → Prop} (h : StP w p bv s) (hf : Fr w w' S) (hn : ¬ S p) : StP w' p bv s := by
  cases s with
  | bad E x => exact Bd.fr h hf hn
  | ok u a => exact Rq.fr h hf hn
theorem sl_st {w w' : World} {p : Nat} {v : Value} {bs : List Int} {s : R Unit} (hs : SL encB w v bs) (h : StP w p v s) (hf : Fr w w' (fun k => k = p)) : SL encB w' v bs := by
  obtain ⟨a, E, x, h⟩ := h.rq
  exact sl_rq hs h hf
/-- bytes stand where the reader and a newer block are written -/
theorem sl_two {w w' : World} {p q : Nat} {v : Value} {bs : List Int} {s : R Unit} (hs : SL encB w v bs) (h : StP w p v s) (hq : w.heap.size ≤ q) (hf : Fr w w' (fun k => k = p ∨ k = q)) : SL encB w' v bs := by
  obtain ⟨a, E, x, h⟩ := h.rq
  obtain ⟨A, cap, rfl, hc, hr⟩ := hs
  refine ⟨A, cap, rfl, hc, fun h0 => ?_⟩
  obtain ⟨b, off, rfl, hb, hcell⟩ := hr h0
  have hne : b ≠ p := by
    obtain ⟨c, r, rfl⟩ : ∃ c r, bs = c :: r := by
      cases bs with
      | nil => simp at h0
      | cons c r => exact ⟨c, r, rfl⟩
    exact rq_ne h (hcell 0 (.int .u8 c) rfl)
  exact ⟨b, off, rfl, Nat.lt_of_lt_of_le hb hf.size, fun i u hu => (hf.cell (p := ⟨b, off + i, none⟩) hb (fun e => by rcases e with e | e <;> simp only at e <;> omega)).trans (hcell i u hu)⟩
theorem nxt_most (bs : List Int) (s : R Unit) (most : Nat) : (nxt bs s most).1 ≤ most := by
  unfold nxt
  cases s with
  | bad E x => exact Nat.zero_le _
  | ok u a =>
    simp only
    cases h : numR bs a most with
    | bad E x => exact Nat.zero_le _
    | ok n a2 => exact numR_most h
theorem nxt_in {bs : List Int} {s : R Unit} {most : Nat} (h : StIn bs s) : StIn bs (nxt bs s most).2 := by
  unfold nxt
  cases s with
  | bad E x => trivial
  | ok u a =>
    simp only
    cases h : numR bs a most with
    | bad E x => trivial
    | ok n a2 => exact numR_le h
theorem number_st {w : World} {p : Nat} {v : Value} {bs : List Int} {s : R Unit} (HR : StP w p v s) (HS : SL encB w v bs) (hb : Leb.Bs bs) (hi : StIn bs s) (hl : bs.length ≤ 1048576) (most : Nat) (hm : most < 2 ^ 63) (n : Nat) (s' : R Unit) (hn : nxt bs s most = (n, s')) :
    Calls Try.prog 28 #[.pointer (some ⟨p, 0, none⟩), .int .u64 (most : Int)] w fun e w' => e = .returned (.int .u64 (n : Int)) ∧ Fr w w' (fun k => k = p) ∧ StP w' p v s' := by
  cases s with
  | bad E x =>
    injection hn with h1 h2
    subst h1 h2
    exact (number_bad HR most).mono fun e w' ⟨h1, h2⟩ => by subst h2; exact ⟨h1, Fr.refl _ _, HR⟩
  | ok u a =>
    obtain ⟨r, hr⟩ : ∃ r, numR bs a most = r := ⟨_, rfl⟩
    have hn : (match numR bs a most with | .bad E x => (0, R.bad E x) | .ok n a2 => (n, R.ok () a2)) = (n, s') := hn
    rw [hr] at hn
    refine (rnumber_any HR HS hb hi hl most hm r hr).mono fun e w' h => ?_
    cases r with
    | bad E x =>
      injection hn with h1 h2
      subst h1 h2
      obtain ⟨u, rfl, rfl, hf, hB⟩ := h
      exact ⟨rfl, hf, hB⟩
    | ok m a2 =>
      injection hn with h1 h2
      subst h1 h2
      obtain ⟨rfl, hf, hG⟩ := h
      exact ⟨rfl, hf, hG⟩
def pcR (s : R Unit) (p : Pc) : R Pc :=
  match s with
  | .bad E x => .bad E x
  | .ok _ a4 => .ok p a4
/-- what a piece comes to -/
theorem piece_st {bs : List Int} {a a1 : Nat} {t : Int} (h1 : byteR bs a = .ok t a1) (h0 : t ≠ 0) (s1 s2 s3 s4 : R Unit) (l rr k : Nat) (hs : s1 = if t = 1 then .ok () a1 else .bad 5 a)
    (e1 : nxt bs s1 4095 = (l, s2)) (e2 : nxt bs s2 4095 = (rr, s3)) (e3 : nxt bs s3 4294967295 = (k, s4)) :
    pieceR bs a = pcR s4 ⟨true, 0, l, rr, k⟩ := by
  unfold pieceR
  rw [h1]
  simp only [if_neg h0]
  by_cases ht : t = 1
  · rw [if_pos ht] at hs
    subst hs
    simp only [if_pos ht]
    unfold nxt at e1
    simp only at e1
    cases hn1 : numR bs a1 4095 with
    | bad E x =>
      rw [hn1] at e1
      injection e1 with x1 x2
      subst x1 x2
      injection e2 with x1 x2
      subst x1 x2
      injection e3 with x1 x2
      subst x1 x2
      rfl
    | ok n a2 =>
      rw [hn1] at e1
      injection e1 with x1 x2
      subst x1 x2
      simp only
      unfold nxt at e2
      simp only at e2
      cases hn2 : numR bs a2 4095 with
      | bad E x =>
        rw [hn2] at e2
        injection e2 with x1 x2
        subst x1 x2
        injection e3 with x1 x2
        subst x1 x2
        rfl
      | ok n2 a3 =>
        rw [hn2] at e2
        injection e2 with x1 x2
        subst x1 x2
        simp only
        unfold nxt at e3
        simp only at e3
        cases hn3 : numR bs a3 4294967295 with
        | bad E x =>
          rw [hn3] at e3
          injection e3 with x1 x2
          subst x1 x2
          rfl
        | ok n3 a4 =>
          rw [hn3] at e3
          injection e3 with x1 x2
          subst x1 x2
          rfl
  · rw [if_neg ht] at hs
    subst hs
    simp only [if_neg ht]
    injection e1 with x1 x2
    subst x1 x2
    injection e2 with x1 x2
    subst x1 x2
    injection e3 with x1 x2
    subst x1 x2
    rfl
theorem rq_fin {bs : List Int} {a : Nat} {r : R Pc} (hr : pieceR bs a = r) {s4 : R Unit} {l rr k : Nat} (h : pieceR bs a = pcR s4 ⟨true, 0, l, rr, k⟩) {w w' : World} {p : Nat} {v : Value}
    (hf : Fr w w' (fun k => k = p)) (ht : StP w' p v s4) : RQ agP (fun u => ∃ c, u = agP c) w p v r (.returned (.agg #[.bool true, .int .u8 0, .int .i64 (l : Int), .int .i64 (rr : Int), .int .u32 (k : Int)])) w' := by
  rw [← hr, h]
  cases s4 with
  | bad E x => exact ⟨_, rfl, ⟨⟨true, 0, l, rr, k⟩, rfl⟩, hf, ht⟩
  | ok u a4 => exact ⟨rfl, hf, ht⟩
set_option maxRecDepth 20000 in
set_option maxHeartbeats 16000000 in
theorem rpieceR_any {w : World} {p : Nat} {v : Value} {bs : List Int} {a : Nat} (HR : Gd w p v a) (HS : SL encB w v bs) (hb : Leb.Bs bs) (ha : a ≤ bs.length) (hl : bs.length ≤ 1048576) (r : R Pc) (hr : pieceR bs a = r) :
    Calls Try.prog 29 #[.pointer (some ⟨p, 0, none⟩)] w (RQ agP (fun u => ∃ c, u = agP c) w p v r) := by
  have HF1 := Lib.hid ((Fr.refl w (fun k => k = p)).alloc (.cells #[.bool false, .int .u8 0, .int .i64 0, .int .i64 0, .int .u32 0] TPc))
  have HB1 := Lib.hid (Blk.new w TPc #[.bool false, .int .u8 0, .int .i64 0, .int .i64 0, .int .u32 0])
  have HR1 := Lib.hid (show Gd _ p v a from Blk.alloc HR (.cells #[.bool false, .int .u8 0, .int .i64 0, .int .i64 0, .int .u32 0] TPc))
  have HS1 := Lib.hid (HS.gr ((Fr.refl w NoneS).alloc (.cells #[.bool false, .int .u8 0, .int .i64 0, .int .i64 0, .int .u32 0] TPc)))
  obtain ⟨q, hq⟩ : ∃ q, w.heap.size = q := ⟨_, rfl⟩
  have Hpq := Lib.hid (show p ≠ q by have := Blk.lt HR; omega)
  have Hqw := Lib.hid hq
  have Hr := Lib.hid hr
  have Hb := Lib.hid hb
  have Ha := Lib.hid ha
  rw [hq] at HB1
  clear HR HS hr hb ha
  obtain ⟨r1, hr1⟩ : ∃ x, byteR bs a = x := ⟨_, rfl⟩
  have HC1 := Lib.hid (rbyte_any1 HR1.out HS1.out Ha.out hl r1 hr1)
  have H1 := Lib.hid hr1
  clear hr1
  go_enter Try.func29, Try.ntmps29
  go_upto_region 1 with (fail)
  generalize World.alloc w _ = w1 at HF1 HB1 HR1 HS1 HC1 ⊢
  have Hw1 := Lib.hid (show w.heap.size ≤ w1.heap.size from HF1.out.size)
  have c1 : w1.cell? ⟨p, 1, none⟩ = some (.int .i64 (a : Int)) := by rw [Blk.cell HR1.out]; rfl
  go_upto_region 2 with (fail)
  clear c1
  cases r1 with
  | bad E x =>
    have Hr2 := Lib.hid (show r = .bad E x by rw [← Hr.out]; unfold pieceR; rw [H1.out])
    go_upto_region 6 with (go_at_call 46; refine HC1.out.mono ?_; intro e w2 h; obtain ⟨u, rfl, rfl, hf, hbd⟩ := h; have HF2 := Lib.hid hf; have HD2 := Lib.hid hbd; clear hf hbd)
    have HB2 := Lib.hid (HB1.out.fr HF2.out (fun h => Hpq.out h.symm))
    have HCb := Lib.hid (byte_bad HD2.out)
    go_wp2_with (first
      | (go_at_call 46; refine HCb.out.mono ?_; rintro e w3 ⟨rfl, rfl⟩)
      | refine wpList_store_row rfl _ _ _ rfl q #[.bool false, .int .u8 0, .int .i64 0, .int .i64 0, .int .u32 0] rfl rfl TPc _ HB2.out (by kernel_rfl) (by kernel_rfl) (by kernel_rfl) ?_)
    try simp only [Exit.inBlock, Exit.then]
    refine bodyPost_ret (results_cell_row Try.results29 _ _ q _ #[.bool false, .int .u8 0, .int .i64 0, .int .i64 0, .int .u32 0] (0, 0) _ rfl (gblk_setRow HB2.out _) Try.underlying42 rfl (by kernel_rfl)) rfl ?_
    rw [Hr2.out]
    exact ⟨_, rfl, ⟨⟨false, 0, 0, 0, 0⟩, rfl⟩, gfr_setRow (HF1.out.trans HF2.out (fun _ _ h => h)) (fun h => by have := Hqw.out; omega) _, HD2.out.fr (gfr_setRow (S := fun k => k = q) (Fr.refl _ _) (fun _ => rfl) _) Hpq.out⟩
  | ok t a1 =>
    have HA1 := Lib.hid (byteR_le Ha.out H1.out)
    have Ht := Lib.hid (show 0 ≤ t ∧ t < 256 from by
      have h := H1.out
      unfold byteR at h
      split at h
      · cases h
      · rename_i hne
        injection h with h1 h2
        have hlt : a < bs.length := by have := Ha.out; omega
        rw [← h1, List.getD_eq_getElem?_getD, List.getElem?_eq_getElem hlt]
        exact Hb.out _ (List.getElem_mem hlt))
    by_cases h0 : t = 0
    · subst h0
      obtain ⟨r2, hr2⟩ : ∃ x, byteR bs a1 = x := ⟨_, rfl⟩
      have H2 := Lib.hid hr2
      clear hr2
      go_upto_region 6 with (go_at_call 46; refine HC1.out.mono ?_; intro e w2 h; obtain ⟨rfl, hf, hrd⟩ := h; have HF2 := Lib.hid hf; have HR2 := Lib.hid hrd; clear hf hrd)
      have HS2 := Lib.hid (sl_rq HS1.out HR1.out HF2.out)
      have HB2 := Lib.hid (HB1.out.fr HF2.out (fun h => Hpq.out h.symm))
      have HC2 := Lib.hid (rbyte_any1 HR2.out HS2.out HA1.out hl r2 H2.out)
      cases r2 with
      | bad E x =>
        have Hr2 := Lib.hid (show r = .bad E x by rw [← Hr.out]; unfold pieceR; rw [H1.out]; simp only [if_true]; rw [H2.out])
        go_wp2_with (first
          | (go_at_call 46; refine HC2.out.mono ?_; intro e w3 h; obtain ⟨u, rfl, rfl, hf, hbd⟩ := h; have HF3 := Lib.hid hf; have HD3 := Lib.hid hbd; have HB3 := Lib.hid (HB2.out.fr hf (fun h => Hpq.out h.symm)); clear hf hbd)
          | refine wpList_store_row rfl _ _ _ rfl q #[.bool false, .int .u8 0, .int .i64 0, .int .i64 0, .int .u32 0] rfl rfl TPc _ HB3.out (by kernel_rfl) (by kernel_rfl) (by kernel_rfl) ?_)
        try simp only [Exit.inBlock, Exit.then]
        refine bodyPost_ret (results_cell_row Try.results29 _ _ q _ #[.bool false, .int .u8 0, .int .i64 0, .int .i64 0, .int .u32 0] (0, 0) _ rfl (gblk_setRow HB3.out _) Try.underlying42 rfl (by kernel_rfl)) rfl ?_
        rw [Hr2.out]
        exact ⟨_, rfl, ⟨⟨false, 0, 0, 0, 0⟩, rfl⟩, gfr_setRow ((HF1.out.trans HF2.out (fun _ _ h => h)).trans HF3.out (fun _ _ h => h)) (fun h => by have := Hqw.out; omega) _, HD3.out.fr (gfr_setRow (S := fun k => k = q) (Fr.refl _ _) (fun _ => rfl) _) Hpq.out⟩
      | ok c a2 =>
        have Hr2 := Lib.hid (show r = .ok ⟨false, c, 0, 0, 0⟩ a2 by rw [← Hr.out]; unfold pieceR; rw [H1.out]; simp only [if_true]; rw [H2.out])
        go_wp2_with (first
          | (go_at_call 46; refine HC2.out.mono ?_; intro e w3 h; obtain ⟨rfl, hf, hrd⟩ := h; have HF3 := Lib.hid hf; have HR3 := Lib.hid hrd; have HB3 := Lib.hid (HB2.out.fr hf (fun h => Hpq.out h.symm)); clear hf hrd)
          | refine wpList_store_row rfl _ _ _ rfl q #[.bool false, .int .u8 c, .int .i64 0, .int .i64 0, .int .u32 0] rfl rfl TPc _ HB3.out (by kernel_rfl) (by kernel_rfl) (by kernel_rfl) ?_)
        try simp only [Exit.inBlock, Exit.then]
        refine bodyPost_ret (results_cell_row Try.results29 _ _ q _ #[.bool false, .int .u8 c, .int .i64 0, .int .i64 0, .int .u32 0] (0, 0) _ rfl (gblk_setRow HB3.out _) Try.underlying42 rfl (by kernel_rfl)) rfl ?_
        rw [Hr2.out]
        exact ⟨rfl, gfr_setRow ((HF1.out.trans HF2.out (fun _ _ h => h)).trans HF3.out (fun _ _ h => h)) (fun h => by have := Hqw.out; omega) _, Rq.fr HR3.out (gfr_setRow (S := fun k => k = q) (Fr.refl _ _) (fun _ => rfl) _) Hpq.out⟩
    · have e0 : (t == 0) = false := by simpa using h0
      have H0 := Lib.hid h0
      by_cases h1 : t = 1
      · subst h1
        clear h0
        go_upto_region 7 with (go_at_call 46; refine HC1.out.mono ?_; intro e w2 h; obtain ⟨rfl, hf, hrd⟩ := h; have HF2 := Lib.hid hf; have HR2 := Lib.hid hrd; clear hf hrd)
        obtain ⟨s1, hs1⟩ : ∃ s : R Unit, s = .ok () a1 := ⟨_, rfl⟩
        have HT := Lib.hid (show StP w2 p v s1 by rw [hs1]; exact HR2.out)
        have HI1 := Lib.hid (show StIn bs s1 by rw [hs1]; exact HA1.out)
        have Hs1 := Lib.hid (show s1 = if (1 : Int) = 1 then .ok () a1 else .bad 5 a by rw [hs1]; rfl)
        have HF12 := Lib.hid (HF1.out.trans HF2.out (fun _ _ h => h))
        have HS2 := Lib.hid (sl_rq HS1.out HR1.out HF2.out)
        clear hs1
        have HB2 := Lib.hid (HB1.out.fr HF2.out (fun h => Hpq.out h.symm))
        have HBn := Lib.hid (Blk.new w2 TPc #[.bool true, .int .u8 0, .int .i64 0, .int .i64 0, .int .u32 0])
        have HG3 := Lib.hid ((Fr.refl w2 NoneS).alloc (.cells #[.bool true, .int .u8 0, .int .i64 0, .int .i64 0, .int .u32 0] TPc))
        have Hn1 := Lib.hid (nxt_most bs s1 4095)
        have Hn2 := Lib.hid (nxt_most bs (nxt bs s1 4095).2 4095)
        have Hn3 := Lib.hid (nxt_most bs (nxt bs (nxt bs s1 4095).2 4095).2 4294967295)
        have Hb1 := Lib.hid (nxt_in (most := 4095) HI1.out)
        have Hb2 := Lib.hid (nxt_in (most := 4095) Hb1.out)
        obtain ⟨⟨l, s2⟩, he1⟩ : ∃ x, nxt bs s1 4095 = x := ⟨_, rfl⟩
        rw [he1] at Hn1 Hn2 Hn3 Hb1 Hb2
        obtain ⟨⟨rr, s3⟩, he2⟩ : ∃ x, nxt bs s2 4095 = x := ⟨_, rfl⟩
        rw [he2] at Hn2 Hn3 Hb2
        obtain ⟨⟨k, s4⟩, he3⟩ : ∃ x, nxt bs s3 4294967295 = x := ⟨_, rfl⟩
        rw [he3] at Hn3
        have He := Lib.hid (And.intro he1 (And.intro he2 he3))
        have hl1 : l ≤ 4095 := Hn1.out
        have hr1 : rr ≤ 4095 := Hn2.out
        have hk1 : k ≤ 4294967295 := Hn3.out
        have wl : IntKind.i64.wrap (l : Int) = (l : Int) := IntWalk.i64_in _ (by omega)
        have wr : IntKind.i64.wrap (rr : Int) = (rr : Int) := IntWalk.i64_in _ (by omega)
        have wk : IntKind.u32.wrap (k : Int) = (k : Int) := by show (k : Int) % 4294967296 = _; omega
        have HC1 := Lib.hid (fun w (H : StP w p v s1) (HS : SL encB w v bs) => number_st H HS Hb.out HI1.out hl 4095 (by decide) l s2 he1)
        have HC2 := Lib.hid (fun w (H : StP w p v s2) (HS : SL encB w v bs) => number_st H HS Hb.out Hb1.out hl 4095 (by decide) rr s3 he2)
        have HC3 := Lib.hid (fun w (H : StP w p v s3) (HS : SL encB w v bs) => number_st H HS Hb.out Hb2.out hl 4294967295 (by decide) k s4 he3)
        have HB3 := Lib.hid (HB2.out.fr HG3.out (fun h => h))
        have HT3 := Lib.hid (HT.out.fr HG3.out (fun h => h))
        have HS3 := Lib.hid (HS2.out.gr HG3.out)
        have HE3 := Lib.hid (show Fr w2 _ (fun k => k = p ∨ k = w2.heap.size) from Gr.mono HG3.out _)
        have Hsz := Lib.hid (Nat.le_refl w2.heap.size)
        have HF3 := Lib.hid (HF12.out.trans (Gr.mono HG3.out (fun k => k = p)) (fun _ _ h => h))
        have Hq5 := Lib.hid (show p < w2.heap.size ∧ q < w2.heap.size from ⟨HT.out.lt, HB2.out.lt⟩)
        clear he1 he2 he3
        go_upto_region 8 with (fail)
        obtain ⟨q5, hq5⟩ : ∃ q, w2.heap.size = q := ⟨_, rfl⟩
        rw [hq5] at HBn Hq5 HE3 ⊢
        have Hsz := Lib.hid (show w2.heap.size ≤ q5 by omega)
        clear hq5
        generalize World.alloc w2 _ = w3 at HBn HG3 HB3 HT3 HS3 HF3 HE3 ⊢
        have d5 : w3.cell? ⟨q5, 2, none⟩ = some (.int .i64 0) := by rw [HBn.out.cell]; rfl
        have HCx := Lib.hid (HC1.out _ HT3.out HS3.out)
        go_upto_region 9 with (go_at_call 28; refine HCx.out.mono ?_; rintro e w4 ⟨rfl, hf, ht⟩; have HF4 := Lib.hid hf; have HT4 := Lib.hid ht; have HBm := Lib.hid (HBn.out.fr hf (fun h => by have := Hq5.out; omega)); have HBq := Lib.hid (HB3.out.fr hf (fun h => Hpq.out h.symm)); have f4 : w4.cell? ⟨q5, 2, none⟩ = some (.int .i64 0) := (by rw [HBm.out.cell]; rfl); have z4 : w4.frozen? ⟨q5, 2, none⟩ = false := HBm.out.frozen 2; clear hf ht)
        clear f4 z4 d5
        have HS4 := Lib.hid (sl_st HS3.out HT3.out HF4.out)
        have HX4 := Lib.hid (show Fr w4 (w4.setCell ⟨q5, 2, none⟩ (.int .i64 (l : Int))) (fun k => k = q5) from (Fr.refl w4 (fun k => k = q5)).setCell (p := ⟨q5, 2, none⟩) (fun _ => rfl) _)
        have HT5 := Lib.hid (HT4.out.fr HX4.out (fun h => by have := Hq5.out; omega))
        have HE5 := Lib.hid ((HE3.out.trans HF4.out (fun _ _ h => .inl h)).trans HX4.out (fun _ _ h => .inr h))
        have HS5 := Lib.hid (sl_two HS2.out HT.out Hsz.out HE5.out)
        have HB5 := Lib.hid (HBq.out.fr HX4.out (fun h => by have := Hq5.out; omega))
        have HN5 := Lib.hid (HBm.out.set_ 2 (.int .i64 (l : Int)))
        have HF5 := Lib.hid ((HF3.out.trans HF4.out (fun _ _ h => h)).trans HX4.out (fun i hi h => by have := Hq5.out; have := Hw1.out; omega))
        generalize World.setCell w4 _ _ = w5 at HX4 HT5 HS5 HB5 HN5 HF5 HE5 ⊢
        have HCy := Lib.hid (HC2.out _ HT5.out HS5.out)
        go_upto_region 10 with (go_at_call 28; refine HCy.out.mono ?_; rintro e w6 ⟨rfl, hf, ht⟩; have HF6 := Lib.hid hf; have HT6 := Lib.hid ht; have HBm6 := Lib.hid (HN5.out.fr hf (fun h => by have := Hq5.out; omega)); have HBq6 := Lib.hid (HB5.out.fr hf (fun h => Hpq.out h.symm)); have f6 : w6.cell? ⟨q5, 3, none⟩ = some (.int .i64 0) := (by rw [HBm6.out.cell]; rfl); have z6 : w6.frozen? ⟨q5, 3, none⟩ = false := HBm6.out.frozen 3; clear hf ht)
        clear f6 z6
        have HS6 := Lib.hid (sl_st HS5.out HT5.out HF6.out)
        have HX6 := Lib.hid (show Fr w6 (w6.setCell ⟨q5, 3, none⟩ (.int .i64 (rr : Int))) (fun k => k = q5) from (Fr.refl w6 (fun k => k = q5)).setCell (p := ⟨q5, 3, none⟩) (fun _ => rfl) _)
        have HT7 := Lib.hid (HT6.out.fr HX6.out (fun h => by have := Hq5.out; omega))
        have HE7 := Lib.hid ((HE5.out.trans HF6.out (fun _ _ h => .inl h)).trans HX6.out (fun _ _ h => .inr h))
        have HS7 := Lib.hid (sl_two HS2.out HT.out Hsz.out HE7.out)
        have HB7 := Lib.hid (HBq6.out.fr HX6.out (fun h => by have := Hq5.out; omega))
        have HN7 := Lib.hid (HBm6.out.set_ 3 (.int .i64 (rr : Int)))
        have HF7 := Lib.hid ((HF5.out.trans HF6.out (fun _ _ h => h)).trans HX6.out (fun i hi h => by have := Hq5.out; have := Hw1.out; omega))
        generalize World.setCell w6 _ _ = w7 at HX6 HT7 HS7 HB7 HN7 HF7 HE7 ⊢
        have HCz := Lib.hid (HC3.out _ HT7.out HS7.out)
        go_upto_region 11 with (go_at_call 28; refine HCz.out.mono ?_; rintro e w8 ⟨rfl, hf, ht⟩; have HF8 := Lib.hid hf; have HT8 := Lib.hid ht; have HBm8 := Lib.hid (HN7.out.fr hf (fun h => by have := Hq5.out; omega)); have HBq8 := Lib.hid (HB7.out.fr hf (fun h => Hpq.out h.symm)); have f8 : w8.cell? ⟨q5, 4, none⟩ = some (.int .u32 0) := (by rw [HBm8.out.cell]; rfl); have z8 : w8.frozen? ⟨q5, 4, none⟩ = false := HBm8.out.frozen 4; clear hf ht)
        clear f8 z8
        have HX8 := Lib.hid (show Fr w8 (w8.setCell ⟨q5, 4, none⟩ (.int .u32 (k : Int))) (fun k => k = q5) from (Fr.refl w8 (fun k => k = q5)).setCell (p := ⟨q5, 4, none⟩) (fun _ => rfl) _)
        have HT9 := Lib.hid (HT8.out.fr HX8.out (fun h => by have := Hq5.out; omega))
        have HB9 := Lib.hid (HBq8.out.fr HX8.out (fun h => by have := Hq5.out; omega))
        have HN9 := Lib.hid (show Blk _ q5 TPc #[.bool true, .int .u8 0, .int .i64 (l : Int), .int .i64 (rr : Int), .int .u32 (k : Int)] from HBm8.out.set_ 4 (.int .u32 (k : Int)))
        have HF9 := Lib.hid ((HF7.out.trans HF8.out (fun _ _ h => h)).trans HX8.out (fun i hi h => by have := Hq5.out; have := Hw1.out; omega))
        generalize World.setCell w8 _ _ = w9 at HX8 HT9 HB9 HN9 HF9 ⊢
        have g0 : w9.cell? ⟨q5, 0, none⟩ = some (.bool true) := by rw [HN9.out.cell]; rfl
        have g1 : w9.cell? ⟨q5, 1, none⟩ = some (.int .u8 0) := by rw [HN9.out.cell]; rfl
        have g2 : w9.cell? ⟨q5, 2, none⟩ = some (.int .i64 (l : Int)) := by rw [HN9.out.cell]; rfl
        have g3 : w9.cell? ⟨q5, 3, none⟩ = some (.int .i64 (rr : Int)) := by rw [HN9.out.cell]; rfl
        have g4 : w9.cell? ⟨q5, 4, none⟩ = some (.int .u32 (k : Int)) := by rw [HN9.out.cell]; rfl
        go_wp2_with (refine wpList_store_row rfl _ _ _ rfl q #[.bool true, .int .u8 0, .int .i64 (l : Nat), .int .i64 (rr : Nat), .int .u32 (k : Nat)] rfl rfl TPc _ HB9.out (by kernel_rfl) (by kernel_rfl) (by kernel_rfl) ?_)
        try simp only [Exit.inBlock, Exit.then]
        refine bodyPost_ret (results_cell_row Try.results29 _ _ q _ #[.bool true, .int .u8 0, .int .i64 (l : Nat), .int .i64 (rr : Nat), .int .u32 (k : Nat)] (0, 0) _ rfl (gblk_setRow HB9.out _) Try.underlying42 rfl (by kernel_rfl)) rfl ?_
        exact (rq_fin Hr.out (piece_st H1.out H0.out s1 s2 s3 s4 l rr k Hs1.out He.out.1 He.out.2.1 He.out.2.2) (gfr_setRow HF9.out (fun h => by have := Hqw.out; omega) _) (HT9.out.fr (gfr_setRow (S := fun k => k = q) (Fr.refl _ _) (fun _ => rfl) _) Hpq.out))
      · have e1 : decide (t > 1) = true := decide_eq_true (by have := Ht.out; omega)
        have e1' : decide (1 < t) = true := decide_eq_true (by have := Ht.out; omega)
        have Hh1 := Lib.hid h1
        clear h0 h1
        go_upto_region 7 with (first
          | (go_at_call 46; refine HC1.out.mono ?_; intro e wy h; obtain ⟨rfl, hf, hrd⟩ := h; have HFy := Lib.hid hf; have HRy := Lib.hid hrd; have HW := Lib.hid (wrong_any hrd 5 (a : Int)); clear hf hrd)
          | (go_at_call 45; refine HW.out.mono ?_; rintro e w2 ⟨rfl, hr, hf⟩; have HR2 := Lib.hid hr; have HF2 := Lib.hid (HFy.out.trans hf (fun _ _ h => h)); clear hr hf))
        obtain ⟨s1, hs1⟩ : ∃ s : R Unit, s = .bad 5 a := ⟨_, rfl⟩
        have HT := Lib.hid (show StP w2 p v s1 by rw [hs1]; exact ⟨by decide, _, HR2.out⟩)
        have HI1 := Lib.hid (show StIn bs s1 by rw [hs1]; trivial)
        have Hs1 := Lib.hid (show s1 = if t = 1 then .ok () a1 else .bad 5 a by rw [hs1, if_neg Hh1.out])
        have HF12 := Lib.hid (HF1.out.trans HF2.out (fun _ _ h => h))
        have HS2 := Lib.hid (sl_rq HS1.out HR1.out HF2.out)
        clear hs1
        have HB2 := Lib.hid (HB1.out.fr HF2.out (fun h => Hpq.out h.symm))
        have HBn := Lib.hid (Blk.new w2 TPc #[.bool true, .int .u8 0, .int .i64 0, .int .i64 0, .int .u32 0])
        have HG3 := Lib.hid ((Fr.refl w2 NoneS).alloc (.cells #[.bool true, .int .u8 0, .int .i64 0, .int .i64 0, .int .u32 0] TPc))
        have Hn1 := Lib.hid (nxt_most bs s1 4095)
        have Hn2 := Lib.hid (nxt_most bs (nxt bs s1 4095).2 4095)
        have Hn3 := Lib.hid (nxt_most bs (nxt bs (nxt bs s1 4095).2 4095).2 4294967295)
        have Hb1 := Lib.hid (nxt_in (most := 4095) HI1.out)
        have Hb2 := Lib.hid (nxt_in (most := 4095) Hb1.out)
        obtain ⟨⟨l, s2⟩, he1⟩ : ∃ x, nxt bs s1 4095 = x := ⟨_, rfl⟩
        rw [he1] at Hn1 Hn2 Hn3 Hb1 Hb2
        obtain ⟨⟨rr, s3⟩, he2⟩ : ∃ x, nxt bs s2 4095 = x := ⟨_, rfl⟩
        rw [he2] at Hn2 Hn3 Hb2
        obtain ⟨⟨k, s4⟩, he3⟩ : ∃ x, nxt bs s3 4294967295 = x := ⟨_, rfl⟩
        rw [he3] at Hn3
        have He := Lib.hid (And.intro he1 (And.intro he2 he3))
        have hl1 : l ≤ 4095 := Hn1.out
        have hr1 : rr ≤ 4095 := Hn2.out
        have hk1 : k ≤ 4294967295 := Hn3.out
        have wl : IntKind.i64.wrap (l : Int) = (l : Int) := IntWalk.i64_in _ (by omega)
        have wr : IntKind.i64.wrap (rr : Int) = (rr : Int) := IntWalk.i64_in _ (by omega)
        have wk : IntKind.u32.wrap (k : Int) = (k : Int) := by show (k : Int) % 4294967296 = _; omega
        have HC1 := Lib.hid (fun w (H : StP w p v s1) (HS : SL encB w v bs) => number_st H HS Hb.out HI1.out hl 4095 (by decide) l s2 he1)
        have HC2 := Lib.hid (fun w (H : StP w p v s2) (HS : SL encB w v bs) => number_st H HS Hb.out Hb1.out hl 4095 (by decide) rr s3 he2)
        have HC3 := Lib.hid (fun w (H : StP w p v s3) (HS : SL encB w v bs) => number_st H HS Hb.out Hb2.out hl 4294967295 (by decide) k s4 he3)
        have HB3 := Lib.hid (HB2.out.fr HG3.out (fun h => h))
        have HT3 := Lib.hid (HT.out.fr HG3.out (fun h => h))
        have HS3 := Lib.hid (HS2.out.gr HG3.out)
        have HE3 := Lib.hid (show Fr w2 _ (fun k => k = p ∨ k = w2.heap.size) from Gr.mono HG3.out _)
        have Hsz := Lib.hid (Nat.le_refl w2.heap.size)
        have HF3 := Lib.hid (HF12.out.trans (Gr.mono HG3.out (fun k => k = p)) (fun _ _ h => h))
        have Hq5 := Lib.hid (show p < w2.heap.size ∧ q < w2.heap.size from ⟨HT.out.lt, HB2.out.lt⟩)
        clear he1 he2 he3
        go_upto_region 8 with (fail)
        obtain ⟨q5, hq5⟩ : ∃ q, w2.heap.size = q := ⟨_, rfl⟩
        rw [hq5] at HBn Hq5 HE3 ⊢
        have Hsz := Lib.hid (show w2.heap.size ≤ q5 by omega)
        clear hq5
        generalize World.alloc w2 _ = w3 at HBn HG3 HB3 HT3 HS3 HF3 HE3 ⊢
        have d5 : w3.cell? ⟨q5, 2, none⟩ = some (.int .i64 0) := by rw [HBn.out.cell]; rfl
        have HCx := Lib.hid (HC1.out _ HT3.out HS3.out)
        go_upto_region 9 with (go_at_call 28; refine HCx.out.mono ?_; rintro e w4 ⟨rfl, hf, ht⟩; have HF4 := Lib.hid hf; have HT4 := Lib.hid ht; have HBm := Lib.hid (HBn.out.fr hf (fun h => by have := Hq5.out; omega)); have HBq := Lib.hid (HB3.out.fr hf (fun h => Hpq.out h.symm)); have f4 : w4.cell? ⟨q5, 2, none⟩ = some (.int .i64 0) := (by rw [HBm.out.cell]; rfl); have z4 : w4.frozen? ⟨q5, 2, none⟩ = false := HBm.out.frozen 2; clear hf ht)
        clear f4 z4 d5
        have HS4 := Lib.hid (sl_st HS3.out HT3.out HF4.out)
        have HX4 := Lib.hid (show Fr w4 (w4.setCell ⟨q5, 2, none⟩ (.int .i64 (l : Int))) (fun k => k = q5) from (Fr.refl w4 (fun k => k = q5)).setCell (p := ⟨q5, 2, none⟩) (fun _ => rfl) _)
        have HT5 := Lib.hid (HT4.out.fr HX4.out (fun h => by have := Hq5.out; omega))
        have HE5 := Lib.hid ((HE3.out.trans HF4.out (fun _ _ h => .inl h)).trans HX4.out (fun _ _ h => .inr h))
        have HS5 := Lib.hid (sl_two HS2.out HT.out Hsz.out HE5.out)
        have HB5 := Lib.hid (HBq.out.fr HX4.out (fun h => by have := Hq5.out; omega))
        have HN5 := Lib.hid (HBm.out.set_ 2 (.int .i64 (l : Int)))
        have HF5 := Lib.hid ((HF3.out.trans HF4.out (fun _ _ h => h)).trans HX4.out (fun i hi h => by have := Hq5.out; have := Hw1.out; omega))
        generalize World.setCell w4 _ _ = w5 at HX4 HT5 HS5 HB5 HN5 HF5 HE5 ⊢
        have HCy := Lib.hid (HC2.out _ HT5.out HS5.out)
        go_upto_region 10 with (go_at_call 28; refine HCy.out.mono ?_; rintro e w6 ⟨rfl, hf, ht⟩; have HF6 := Lib.hid hf; have HT6 := Lib.hid ht; have HBm6 := Lib.hid (HN5.out.fr hf (fun h => by have := Hq5.out; omega)); have HBq6 := Lib.hid (HB5.out.fr hf (fun h => Hpq.out h.symm)); have f6 : w6.cell? ⟨q5, 3, none⟩ = some (.int .i64 0) := (by rw [HBm6.out.cell]; rfl); have z6 : w6.frozen? ⟨q5, 3, none⟩ = false := HBm6.out.frozen 3; clear hf ht)
        clear f6 z6
        have HS6 := Lib.hid (sl_st HS5.out HT5.out HF6.out)
        have HX6 := Lib.hid (show Fr w6 (w6.setCell ⟨q5, 3, none⟩ (.int .i64 (rr : Int))) (fun k => k = q5) from (Fr.refl w6 (fun k => k = q5)).setCell (p := ⟨q5, 3, none⟩) (fun _ => rfl) _)
        have HT7 := Lib.hid (HT6.out.fr HX6.out (fun h => by have := Hq5.out; omega))
        have HE7 := Lib.hid ((HE5.out.trans HF6.out (fun _ _ h => .inl h)).trans HX6.out (fun _ _ h => .inr h))
        have HS7 := Lib.hid (sl_two HS2.out HT.out Hsz.out HE7.out)
        have HB7 := Lib.hid (HBq6.out.fr HX6.out (fun h => by have := Hq5.out; omega))
        have HN7 := Lib.hid (HBm6.out.set_ 3 (.int .i64 (rr : Int)))
        have HF7 := Lib.hid ((HF5.out.trans HF6.out (fun _ _ h => h)).trans HX6.out (fun i hi h => by have := Hq5.out; have := Hw1.out; omega))
        generalize World.setCell w6 _ _ = w7 at HX6 HT7 HS7 HB7 HN7 HF7 HE7 ⊢
        have HCz := Lib.hid (HC3.out _ HT7.out HS7.out)
        go_upto_region 11 with (go_at_call 28; refine HCz.out.mono ?_; rintro e w8 ⟨rfl, hf, ht⟩; have HF8 := Lib.hid hf; have HT8 := Lib.hid ht; have HBm8 := Lib.hid (HN7.out.fr hf (fun h => by have := Hq5.out; omega)); have HBq8 := Lib.hid (HB7.out.fr hf (fun h => Hpq.out h.symm)); have f8 : w8.cell? ⟨q5, 4, none⟩ = some (.int .u32 0) := (by rw [HBm8.out.cell]; rfl); have z8 : w8.frozen? ⟨q5, 4, none⟩ = false := HBm8.out.frozen 4; clear hf ht)
        clear f8 z8
        have HX8 := Lib.hid (show Fr w8 (w8.setCell ⟨q5, 4, none⟩ (.int .u32 (k : Int))) (fun k => k = q5) from (Fr.refl w8 (fun k => k = q5)).setCell (p := ⟨q5, 4, none⟩) (fun _ => rfl) _)
        have HT9 := Lib.hid (HT8.out.fr HX8.out (fun h => by have := Hq5.out; omega))
        have HB9 := Lib.hid (HBq8.out.fr HX8.out (fun h => by have := Hq5.out; omega))
        have HN9 := Lib.hid (show Blk _ q5 TPc #[.bool true, .int .u8 0, .int .i64 (l : Int), .int .i64 (rr : Int), .int .u32 (k : Int)] from HBm8.out.set_ 4 (.int .u32 (k : Int)))
        have HF9 := Lib.hid ((HF7.out.trans HF8.out (fun _ _ h => h)).trans HX8.out (fun i hi h => by have := Hq5.out; have := Hw1.out; omega))
        generalize World.setCell w8 _ _ = w9 at HX8 HT9 HB9 HN9 HF9 ⊢
        have g0 : w9.cell? ⟨q5, 0, none⟩ = some (.bool true) := by rw [HN9.out.cell]; rfl
        have g1 : w9.cell? ⟨q5, 1, none⟩ = some (.int .u8 0) := by rw [HN9.out.cell]; rfl
        have g2 : w9.cell? ⟨q5, 2, none⟩ = some (.int .i64 (l : Int)) := by rw [HN9.out.cell]; rfl
        have g3 : w9.cell? ⟨q5, 3, none⟩ = some (.int .i64 (rr : Int)) := by rw [HN9.out.cell]; rfl
        have g4 : w9.cell? ⟨q5, 4, none⟩ = some (.int .u32 (k : Int)) := by rw [HN9.out.cell]; rfl
        go_wp2_with (refine wpList_store_row rfl _ _ _ rfl q #[.bool true, .int .u8 0, .int .i64 (l : Nat), .int .i64 (rr : Nat), .int .u32 (k : Nat)] rfl rfl TPc _ HB9.out (by kernel_rfl) (by kernel_rfl) (by kernel_rfl) ?_)
        try simp only [Exit.inBlock, Exit.then]
        refine bodyPost_ret (results_cell_row Try.results29 _ _ q _ #[.bool true, .int .u8 0, .int .i64 (l : Nat), .int .i64 (rr : Nat), .int .u32 (k : Nat)] (0, 0) _ rfl (gblk_setRow HB9.out _) Try.underlying42 rfl (by kernel_rfl)) rfl ?_
        exact (rq_fin Hr.out (piece_st H1.out H0.out s1 s2 s3 s4 l rr k Hs1.out He.out.1 He.out.2.1 He.out.2.2) (gfr_setRow HF9.out (fun h => by have := Hqw.out; omega) _) (HT9.out.fr (gfr_setRow (S := fun k => k = q) (Fr.refl _ _) (fun _ => rfl) _) Hpq.out))
end Vf
end Go.Proofs.Ytmjpghaggnpdbaa
