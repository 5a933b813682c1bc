/- sha: the walk of ShaPieces. -/
import Derived.Test.YtfpgfnmidkkgjaaHLc
import Derived.Test.YtfpgfnmidkkgjaaFrame2
set_option linter.unusedVariables false
set_option linter.unusedSimpArgs false
namespace Go.Proofs.Ytfpgfnmidkkgjaa
open Go.RowKit Go.ChangeShapes Go.WideShapes Go.ChangeAt
open Sha

/-- rows of bytes that come in -/
theorem open_rows {H : Type} {enc : TypeId × Value → H} {W : World} {v : Value} {d : DataW H} {p : List MemPlace} (h : DataW.Trod enc Try.prog W 0 (fun _ => true) true 38 v d p) (hv : ∃ A len cap, v = .slice A len cap) :
    ∃ xss : List (Value × List B), SL (fun x => [x.1]) W v xss ∧ (∀ x ∈ xss, SL eb W x.1 x.2) ∧ xss.length ≤ Rows.uptoBulk d ∧ (xss.map fun x => x.2.length).sum ≤ Rows.uptoBulk d := by
  refine open_slm (s := 1) (fun x : Value × List B => [x.1]) (fun x => SL eb W x.1 x.2) (fun x => x.2.length) Try.underlying38 (by kernel_rfl) (by omega) (fun _ => rfl) (fun n cs y hy hl => ?_) h hv
  obtain ⟨c, rfl⟩ : ∃ c, cs = [c] := by match cs, hl with | [c], _ => exact ⟨c, rfl⟩
  have hc : ∃ A len cap, c = .slice A len cap := by
    rcases DataW.trod_slice Try.underlying28 hy with ⟨h1, _⟩ | ⟨a, len, cap, _, _, _, _, h1, _⟩
    · simp at h1; exact ⟨_, _, _, h1⟩
    · simp at h1; exact ⟨_, _, _, h1⟩
  obtain ⟨A, len, cap, rfl⟩ := hc
  obtain ⟨xs, h1, h2, h3⟩ := open_ints' (p := y.2) (d := y.1) Try.underlying28 Try.underlying5 (by kernel_rfl) (show DataW.Trod enc Try.prog W 0 (fun _ => true) true 28 (.slice A len cap) y.1 y.2 from ⟨n, by simpa [Value.cells] using hy⟩) ⟨A, len, cap, rfl⟩
  exact ⟨(.slice A len cap, xs.map (BitVec.ofInt 8)), rfl, to_sl h1 h2, by rw [List.length_map]; exact h3⟩

/-- all that came of the first k rows -/
def al (xss : List (Value × List B)) (k : Nat) : List B := (xss.take k).flatMap (·.2)
theorem al_succ (xss : List (Value × List B)) (k : Nat) (h : k < xss.length) : al xss (k + 1) = al xss k ++ xss[k].2 := by
  unfold al; rw [List.take_succ_eq_append_getElem h, List.flatMap_append]; simp
theorem al_len (xss : List (Value × List B)) : ∀ k, (al xss k).length ≤ (xss.map fun x => x.2.length).sum := by
  intro k
  unfold al
  induction xss generalizing k with
  | nil => simp
  | cons x r ih =>
    cases k with
    | zero => simp
    | succ k => have := ih k; simp only [List.take_succ_cons, List.flatMap_cons, List.length_append, List.map_cons, List.sum_cons]; omega

/-- the hash, and all that came -/
structure PP (w wr : World) (p : Nat) (va lv : Value) (all : List B) : Prop where
  gr : Gr w wr
  st : HSt wr w.heap.size p lv all
  ow : wr.ownsRow w.heap.size TU8 1 va all.length (all.flatMap eb)
  ne : ∀ k, va.ownBlock = some k → lv.ownBlock ≠ some k
theorem PP.gr' {w wr wx : World} {p : Nat} {va lv : Value} {all : List B} (H : PP w wr p va lv all) (hg : Gr wr wx) : PP w wx p va lv all :=
  ⟨H.gr.trans hg (fun _ _ h => h), H.st.gr hg, hg.owns H.ow (fun _ _ h => h), H.ne⟩
theorem PP.np {w wr : World} {p : Nat} {va lv : Value} {all : List B} (H : PP w wr p va lv all) : va.ownBlock ≠ some p := own_blk_ne H.ow H.st.blk (by decide)
theorem PP.low {w wr : World} {p : Nat} {va lv : Value} {all : List B} (H : PP w wr p va lv all) : ∀ i, i < w.heap.size → TS p lv i → False := by
  intro i hi h
  rcases h with rfl | h
  · have := H.st.bs; omega
  · have := (H.st.own.lt i h).1; omega
theorem PP.wrote {w wr w2 : World} {p : Nat} {va lv lv2 : Value} {all xs : List B} (H : PP w wr p va lv all) (h2 : HSt w2 w.heap.size p lv2 (all ++ xs)) (hf : Fr wr w2 (TS p lv)) :
    Gr w w2 ∧ w2.ownsRow w.heap.size TU8 1 va all.length (all.flatMap eb) :=
  ⟨H.gr.trans hf H.low, hf.owns H.ow (fun k hk hs => by rcases hs with rfl | hs; exact H.np hk; exact H.ne k hk hs)⟩
theorem PP.next {w wr w2 w3 : World} {p : Nat} {va va3 lv lv2 : Value} {all xs : List B} (H : PP w wr p va lv all) (h2 : HSt w2 w.heap.size p lv2 (all ++ xs)) (hf : Fr wr w2 (TS p lv)) (hl : ∀ k, lv2.ownBlock = some k → wr.heap.size ≤ k)
    (ho : w3.ownsRow w.heap.size TU8 1 va3 (all.length + xs.length) (all.flatMap eb ++ xs.flatMap eb)) (hg : Fr w2 w3 (fun k => va.ownBlock = some k)) (hat : va3.ownBlock = va.ownBlock ∨ va3.ownBlock = some w2.heap.size) :
    PP w w3 p va3 lv2 (all ++ xs) := by
  obtain ⟨h4, h5⟩ := H.wrote h2 hf
  refine ⟨gr_keep' h4 h5 hg, h2.fr hg H.np (fun k hk hv => ?_), by rw [← List.flatMap_append, ← List.length_append] at ho; exact ho, fun k hk hv => ?_⟩
  · have := hl k hk; have := (H.ow.lt k hv).2; omega
  · have h6 := hl k hv
    rcases hat with h | h
    · rw [h] at hk; have := (H.ow.lt k hk).2; omega
    · rw [h] at hk
      have := (h2.own.lt k hv).2
      simp at hk; omega

set_option maxHeartbeats 3200000 in
set_option maxRecDepth 100000 in
theorem ShaPieces_walk (w : World) (v : Value) (xss : List (Value × List B)) (hs : SL (fun x : Value × List B => [x.1]) w v xss) (hx : ∀ x ∈ xss, SL eb w x.1 x.2) (hl : xss.length ≤ 1048576) (ht : (xss.map fun x => x.2.length).sum ≤ 1048576) (a : Int) :
    Calls Try.prog 6 #[v, .int .i64 a] w fun e w' => e = .returned (.bool true) ∧ Gr w w' := by
  obtain ⟨i0, hi0, hz0, hz1, hz2⟩ := info_parts info_b
  have Hi0 := Lib.hid (And.intro hi0 (And.intro hz0 (And.intro hz1 hz2)))
  have HS := Lib.hid hs
  have HX := Lib.hid hx
  have hli : (xss.length : Int) ≤ 1048576 := by omega
  have Hal := Lib.hid (fun k => Nat.le_trans (al_len xss k) ht)
  have Hsucc := Lib.hid (al_succ xss)
  obtain ⟨A, cap, rfl, _⟩ := hs.len
  clear hs hx hl ht hi0 hz0 hz1 hz2
  go_enter Try.func6, Try.ntmps6
  go_upto_region 2 with (go_at_call 18; refine (new_any w).mono ?_; rintro e w1 ⟨p, rfl, hh, hgr⟩; have HH1 := Lib.hid (HSt.new hh); have HG1 := Lib.hid hgr; clear hh hgr)
  have HP1 := Lib.hid (show PP w w1 p (.slice none 0 0) (.slice none 0 0) (al xss 0) from ⟨HG1.out, HH1.out, World.ownsRow_nil _ _ _ _, fun k hk => (nil_own k hk).elim⟩)
  clear HH1 HG1
  go_upto_block 0 with (fail)
  go_wp2_with fail
  go_loopg [6, 8] (xss.length + 1) (fun m s6 s8 wr => ∃ (k : Nat) (va lv : Value), va = s6 ∧ s8 = .int .i64 k ∧ Hid (k ≤ xss.length ∧ xss.length - k < m) ∧ Hid (PP w wr p va lv (al xss k)))
  case atStart => exact ⟨0, _, _, rfl, rfl, ⟨Nat.zero_le _, by omega⟩, HP1.out⟩
  case round =>
    clear HP1
    obtain ⟨k, va, lv, rfl, rfl, HK, HP⟩ := hrel
    by_cases hk : k < xss.length
    · have hki : (k : Int) < (xss.length : Int) := by omega
      obtain ⟨b1, o1, rfl, _, hc1⟩ := (HS.out.gr HP.out.gr).at_ (s := 1) (fun _ => rfl) rfl hk
      have Hrd := Lib.hid (show ∀ wx, Gr w wx → wx.cell? ⟨b1, o1 + k, none⟩ = some xss[k].1 from fun wx hg => by
        obtain ⟨b2, o2, hA, _, hc2⟩ := (HS.out.gr hg).at_ (s := 1) (fun _ => rfl) rfl hk
        obtain ⟨rfl, rfl⟩ : b1 = b2 ∧ o1 = o2 := by simpa using hA
        have := hc2 0 (by omega)
        simpa using this)
      clear hc1
      have HXk := Lib.hid (HX.out xss[k] (List.getElem_mem hk))
      have Hs := Lib.hid (Hsucc.out k hk)
      generalize xss[k] = x at HXk Hs Hrd
      obtain ⟨vx, bx⟩ := x
      simp only [] at HXk Hs
      have Hlen := Lib.hid (show (al xss k).length ≤ 1048576 ∧ (al xss k).length + bx.length ≤ 1048576 from ⟨Hal.out k, by have h := Hal.out (k + 1); rw [Hs.out, List.length_append] at h; exact h⟩)
      generalize al xss k = all at HP Hs Hlen
      have Hwr := Lib.hid (write_any HP.out.st vx (HXk.out.gr HP.out.gr) (fun h0 h => by have h1 := HXk.out.lt h0 _ h; have h2 := HP.out.st.bs; omega) (by have := Hlen.out; omega) (by have := Hlen.out; omega) HP.out.gr.size)
      have c1 : wr.cell? ⟨b1, o1 + k, none⟩ = some vx := Hrd.out wr HP.out.gr
      go_upto_region 9 with (go_at_call 19; refine Hwr.out.mono ?_; rintro e w2 ⟨rfl, lv2, hh, hf, ho⟩; have HH2 := Lib.hid hh; have HF2 := Lib.hid hf; have HO2 := Lib.hid ho; clear hh hf ho)
      clear c1 Hwr
      have HW2 := Lib.hid (HP.out.wrote HH2.out HF2.out)
      have HX2 := Lib.hid (HXk.out.gr HW2.out.1)
      have c1 : w2.cell? ⟨b1, o1 + k, none⟩ = some vx := Hrd.out w2 HW2.out.1
      go_upto_region 10 with (at_builtin; refine wpList_append_sl _ eb rfl _ _ TS8 rfl w.heap.size TU8 i0 (.int .u8 0) 1 1 Try.underlying28 Hi0.out.1 Hi0.out.2.1 Hi0.out.2.2.1 Hi0.out.2.2.2 rfl (by decide) va all.length _ rfl HW2.out.2 vx bx rfl HX2.out (fun _ => rfl) eb_one (by have := Hlen.out; unfold maxLen; omega) (by have := Hlen.out; omega) HW2.out.1.size ?_
                              intro va3 w3 ho hg hat
                              have HP3 := Lib.hid (HP.out.next HH2.out HF2.out HO2.out ho hg hat)
                              clear ho hg hat)
      clear c1 HW2 HX2 HH2 HF2 HO2 HP HXk Hrd
      rw [← Hs.out] at HP3
      have Hlen3 := Lib.hid (show (al xss (k + 1)).length ≤ 1048576 from Hal.out (k + 1))
      generalize hall3 : al xss (k + 1) = all3 at HP3 Hlen3 Hs
      have Hall3 := Lib.hid hall3
      clear hall3
      have HE := fun w => neq_d (sum all3) (sum_len all3) w
      go_upto_region 12 with (first
        | (go_at_call 20; refine (hsum_any HP3.out.st (by have := Hlen3.out; omega)).mono ?_; rintro e w4 ⟨rfl, hgr⟩; have HG4 := Lib.hid hgr; clear hgr)
        | (go_at_call 13; refine (sum_any va3 all3 w4 (SL.of_own (enc := eb) (HG4.out.owns HP3.out.ow (fun _ _ h => h)) rfl) (by have := Hlen3.out; omega)).mono ?_; rintro e w5 ⟨rfl, hgr⟩; have HG5 := Lib.hid hgr; clear hgr))
      have HP5 := Lib.hid ((HP3.out.gr' HG4.out).gr' HG5.out)
      clear HP3 HG4 HG5 Hs
      by_cases hka : (k : Int) = a
      · have hb : ((k : Int) == a) = true := beq_iff_eq.2 hka
        clear hka
        go_upto_region 14 with (go_at_call 21; refine (copy_any HP5.out.st (by have := rem_len all3; omega)).mono ?_; rintro e w6 ⟨q, lv6, rfl, hh, hgr⟩; have HH6 := Lib.hid (show HSt w6 w5.heap.size q lv6 all3 from hh); have HG6 := Lib.hid hgr; clear hh hgr)
        have HA7 := Lib.hid ((Fr.refl w6 NoneS).alloc (.cells #[.int .u8 1] TU8))
        have Hwr := Lib.hid (write_any (HH6.out.gr HA7.out) (.slice (some ⟨w6.heap.size, 0, none⟩) 1 1) (sl_one w6 (1#8) _ rfl TU8) (fun _ h => by have := HH6.out.blk.lt; simp [Value.ownBlock] at h; omega) (by simp) (by have := Hlen3.out; omega) (Nat.le_trans HG6.out.size HA7.out.size))
        go_upto_region 17 with (go_at_call 19; refine Hwr.out.mono ?_; rintro e w8 ⟨rfl, lv8, hh, hf, ho⟩; have HH8 := Lib.hid hh; have HF8 := Lib.hid hf; clear hh hf ho)
        have HG8 := Lib.hid (show Gr w5 w8 from (HG6.out.trans HA7.out (fun _ _ h => h)).trans HF8.out (fun i hi h => by
          rcases h with rfl | h
          · have := HH6.out.bs; omega
          · have := (HH6.out.own.lt i h).1; omega))
        clear Hwr HA7 HF8 HH6 HG6
        have HS8 := Lib.hid (SL.of_own (enc := eb) ((HP5.out.gr' HG8.out).ow) rfl)
        go_upto_region 18 with (at_builtin; refine wpList_append_sl _ eb rfl _ _ TS8 rfl w8.heap.size TU8 i0 (.int .u8 0) 1 1 Try.underlying28 Hi0.out.1 Hi0.out.2.1 Hi0.out.2.2.1 Hi0.out.2.2.2 rfl (by decide) (.slice none 0 0) 0 [] rfl (World.ownsRow_nil _ _ _ _) va3 all3 rfl HS8.out (fun _ => rfl) eb_one (by have := Hlen3.out; unfold maxLen; omega) (by have := Hlen3.out; omega) (Nat.le_refl _) ?_
                                intro v9 w9 ho hf hat
                                rw [Nat.zero_add, List.nil_append] at ho
                                have HO9 := Lib.hid ho
                                have HG9 := Lib.hid (show Gr w8 w9 from hf.mono (fun k _ h => nil_own k h))
                                clear ho hf hat)
        go_upto_region 19 with (at_builtin; refine wpList_append_sl _ eb rfl _ _ TS8 rfl w8.heap.size TU8 i0 (.int .u8 0) 1 1 Try.underlying28 Hi0.out.1 Hi0.out.2.1 Hi0.out.2.2.1 Hi0.out.2.2.2 rfl (by decide) v9 all3.length _ rfl (HO9.out.alloc _) (.slice (some ⟨w9.heap.size, 0, none⟩) 1 1) [1#8] rfl (sl_one w9 (1#8) _ rfl _) (fun _ => rfl) eb_one (by have := Hlen3.out; simp only [List.length_singleton]; unfold maxLen; omega) (by have := Hlen3.out; simp only [List.length_singleton]; omega) (by have := HG9.out.size; simp; omega) ?_
                                intro v10 w10 ho hf hat
                                have HO10 := Lib.hid ho
                                have HF10 := Lib.hid hf
                                clear ho hf hat)
        have HH10 := Lib.hid (show HSt w10 w5.heap.size q lv8 (all3 ++ [1#8]) from ((HH8.out.gr HG9.out).gr ((Fr.refl w9 NoneS).alloc _)).fr HF10.out
          (fun h => by have h1 := (HO9.out.lt _ h).1; have h2 := HH8.out.blk.lt; omega) (fun k hk h => by have h1 := (HO9.out.lt _ h).1; have h2 := (HH8.out.own.lt k hk).2; omega))
        have HG10 := Lib.hid (show Gr w5 w10 from ((HG8.out.trans HG9.out (fun _ _ h => h)).alloc _).trans HF10.out (fun i hi h => by have h1 := (HO9.out.lt _ h).1; have h2 := HG8.out.size; omega))
        have HS10 := Lib.hid (show SL eb w10 v10 (all3 ++ [1#8]) from SL.of_own (enc := eb) (by have h := HO10.out; rw [← List.flatMap_append] at h; exact h) (by rw [List.length_append]))
        have Hl10 := Lib.hid (show (all3 ++ [1#8]).length ≤ 1048577 by rw [List.length_append]; have := Hlen3.out; simp only [List.length_singleton]; omega)
        generalize all3 ++ [1#8] = more at HH10 HS10 Hl10
        clear HO9 HG9 HO10 HF10 HH8 HG8 HS8 HE
        have HE2 := fun w => neq_d (sum more) (sum_len more) w
        go_wp2_with (first
          | (go_at_call 20; refine (hsum_any HH10.out (by have := Hl10.out; omega)).mono ?_; rintro e w11 ⟨rfl, hgr⟩; have HG11 := Lib.hid hgr; clear hgr)
          | (go_at_call 14; refine (rsum_any v10 more w11 (HS10.out.gr HG11.out) (by have := Hl10.out; omega)).mono ?_; rintro e w12 ⟨rfl, hgr⟩; have HG12 := Lib.hid hgr; clear hgr))
        go_roundg (gk - 1)
        case measure => have := HK.out; omega
        case rel => exact ⟨k + 1, va3, _, rfl, by go_num, ⟨hk, by have := HK.out; omega⟩, by rw [Hall3.out]; exact ((HP5.out.gr' HG10.out).gr' HG11.out).gr' HG12.out⟩
      · have hb : ((k : Int) == a) = false := beq_eq_false_iff_ne.2 hka
        clear hka
        go_wp2_with fail
        go_roundg (gk - 1)
        case measure => have := HK.out; omega
        case rel => exact ⟨k + 1, va3, _, rfl, by go_num, ⟨hk, by have := HK.out; omega⟩, by rw [Hall3.out]; exact HP5.out⟩
    · have hki : decide ((k : Int) < (xss.length : Int)) = false := decide_eq_false (by omega)
      have hki2 : decide (k < xss.length) = false := decide_eq_false hk
      have Hlen := Lib.hid (Hal.out k)
      generalize al xss k = all at HP Hlen
      have HE := fun w => eql_d (sum all) (sum_len all) w
      go_wp2_with (first
        | (go_at_call 20; refine (hsum_any HP.out.st (by have := Hlen.out; omega)).mono ?_; rintro e w4 ⟨rfl, hgr⟩; have HG4 := Lib.hid hgr; clear hgr)
        | (go_at_call 14; refine (rsum_any va all w4 (SL.of_own (enc := eb) (HG4.out.owns HP.out.ow (fun _ _ h => h)) rfl) (by have := Hlen.out; omega)).mono ?_; rintro e w5 ⟨rfl, hgr⟩; have HG5 := Lib.hid hgr; clear hgr)
        | (go_at_call 12; refine (works_any w5).mono ?_; rintro e w6 ⟨rfl, hgr⟩; have HG6 := Lib.hid hgr; clear hgr))
      go_ret
      exact ⟨rfl, ((HP.out.gr.trans HG4.out (fun _ _ h => h)).trans HG5.out (fun _ _ h => h)).trans HG6.out (fun _ _ h => h)⟩
end Go.Proofs.Ytfpgfnmidkkgjaa
