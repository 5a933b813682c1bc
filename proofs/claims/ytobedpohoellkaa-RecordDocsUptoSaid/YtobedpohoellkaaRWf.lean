/- record: Doc. -/
import Derived.Test.YtobedpohoellkaaRWe
set_option linter.unusedVariables false
set_option linter.unusedSimpArgs false
namespace Go.Proofs.Ytobedpohoellkaa
open Go.RowKit
open Voc Leb Bpe
namespace Rec
theorem rec_range {w : World} {p : Nat} {r : Rc} {tv : Value} (h : Blk w p TRc (rcA r tv)) : w.rangeAt p 0 (r.d.map (Value.int .u8)) := fun j v hj => by
  have hi := (List.getElem?_eq_some_iff.1 hj).1
  rw [List.length_map] at hi
  rw [Nat.zero_add, h.cell, rcA_d tv hi, ← List.getElem?_map]; exact hj
theorem expB_in {xs : List Pc} (hw : ∀ q ∈ xs, wfP q) : ∀ (f : Nat) (n : Int), Bs (expB xs f n)
  | 0, _ => fun c h => by simp [expB] at h
  | f + 1, n => fun c h => by
    simp only [expB] at h
    split at h
    · simp at h
    · rename_i q hq
      split at h
      · rcases List.mem_append.1 h with h | h
        · exact expB_in hw f _ c h
        · exact expB_in hw f _ c h
      · simp at h
        rw [h]
        exact u8_in (hw q (List.mem_of_getElem? hq)).1
theorem expE_in {xs : List Pc} (hw : ∀ q ∈ xs, wfP q) (n : Int) : Bs (expE xs n) := by
  unfold expE
  split
  · exact expB_in hw _ _
  · intro c h; simp at h
theorem dec_bytes {xs : List Pc} (hw : ∀ q ∈ xs, wfP q) (l : List Int) : Bs (decE xs l).1 := by
  unfold decE
  split
  · intro c h; simp at h
  · split
    · intro c h; simp at h
    · split
      · intro c h; simp at h
      · intro c h
        obtain ⟨x, _, hx⟩ := List.mem_flatMap.1 h
        exact expE_in hw x c hx
set_option maxRecDepth 20000 in
set_option maxHeartbeats 4000000 in
theorem recDoc_any {w : World} {v tv : Value} {xs : List Pc} {r : Rc} (HS : SL encP w v xs) (hw : ∀ q ∈ xs, wfP q) (hl : xs.length ≤ 1048576) (hd : r.d.length = 32) (ht : SL encI w tv r.t) (htl : r.t.length ≤ 1048576) :
    Calls Try.prog 26 #[.agg #[v], .agg (rcA r tv)] w fun e w' => ∃ bv, e = .returned (.tuple #[bv, .int .i64 (docE xs r).2]) ∧ OB w' w.heap.size bv (docE xs r).1 ∧ Gr w w' := by
  obtain ⟨A, cap, rfl⟩ := SL.form HS
  obtain ⟨A2, cap2, rfl⟩ := SL.form ht
  have HB := Lib.hid ((Blk.new w 41 #[.slice A xs.length cap]).alloc (.cells (rcA r (.slice A2 r.t.length cap2)) TRc))
  have HG := Lib.hid (((Fr.refl w NoneS).alloc (.cells #[.slice A xs.length cap] 41)).alloc (.cells (rcA r (.slice A2 r.t.length cap2)) TRc))
  have HR := Lib.hid (Blk.new (w.alloc (.cells #[.slice A xs.length cap] 41)) TRc (rcA r (.slice A2 r.t.length cap2)))
  have hsz : (w.alloc (.cells #[.slice A xs.length cap] 41)).heap.size = w.heap.size + 1 := by simp
  rw [hsz] at HR
  clear hsz
  have HD := Lib.hid (fun wx (hg : Gr w wx) => decode_any (HS.gr hg) (ht.gr hg) hw hl htl)
  have Hbs := Lib.hid (dec_bytes hw r.t)
  have Hln := Lib.hid (dec_len xs r.t)
  have Hd := Lib.hid hd
  obtain ⟨R, hR⟩ : ∃ R, docE xs r = R := ⟨_, rfl⟩
  rw [hR]
  have hRe := hR
  unfold docE at hRe
  obtain ⟨⟨L, E⟩, hE⟩ : ∃ y, decE xs r.t = y := ⟨_, rfl⟩
  rw [hE] at HD Hbs Hln hRe
  simp only at HD Hbs Hln hRe
  have HRe := Lib.hid hRe
  clear HS hw hl hd ht htl hE hR hRe
  obtain ⟨q1, hq1⟩ : ∃ q, w.heap.size = q := ⟨_, rfl⟩
  have Hq1 := Lib.hid hq1
  rw [hq1] at HB HR
  obtain ⟨q, hq⟩ : ∃ q, q1 + 1 = q := ⟨_, rfl⟩
  rw [hq] at HR
  go_enter Try.func26, Try.ntmps26
  go_upto_region 1 with (fail)
  clear hq hq1
  generalize hx : World.alloc (World.alloc w _) _ = wa at HG HB HR ⊢
  clear hx
  have c0 : wa.cell? ⟨q1, 0, none⟩ = some (.slice A xs.length cap) := by rw [HB.out.cell]; rfl
  have f34 : wa.cell? ⟨q, 34, none⟩ = some (.slice A2 r.t.length cap2) := by rw [HR.out.cell]; exact rcA_t _ Hd.out
  go_upto_region 2 with (go_at_call 47; refine (HD.out _ HG.out).mono ?_; rintro e w2 ⟨bv, rfl, ho, hg⟩; obtain ⟨Ab, cb, rfl⟩ := own_formN ho.own; have HO2 := Lib.hid (ho.base HG.out.size); have HG2 := Lib.hid (HG.out.trans hg (fun _ _ h => h)); have HR2 := Lib.hid (HR.out.fr hg (fun h => h)); clear ho hg)
  clear c0 f34
  by_cases hE0 : E = 0
  case neg =>
    have h := HRe.out
    rw [if_pos hE0] at h
    have HRz := Lib.hid h.symm
    have he1 : (E != 0) = true := bne_iff_ne.2 hE0
    clear hE0 h
    go_wp2_with fail
    go_ret2
    rw [HRz.out]
    exact ⟨_, rfl, OB.nil _ _, HG2.out⟩
  subst hE0
  have h := HRe.out
  rw [if_neg (by decide)] at h
  have HRe2 := Lib.hid h
  have Hb2 := Lib.hid (Hbs.out)
  clear h HRe Hbs
  have f33 : w2.cell? ⟨q, 33, none⟩ = some (.int .i64 r.n) := by rw [HR2.out.cell]; exact rcA_n _ Hd.out
  have hLi : (L.length : Int) ≤ 4096 := by have := Hln.out; omega
  by_cases hn : (L.length : Int) = r.n
  case neg =>
    have HRz := Lib.hid (show R = ([], 6) by rw [← HRe2.out, if_pos (Or.inl hn)])
    have hn1 : ((L.length : Int) != r.n) = true := bne_iff_ne.2 hn
    clear hn
    go_upto_region 4 with (fail)
    go_quiet (fail)
    go_wp2_with fail
    go_ret2
    rw [HRz.out]
    exact ⟨_, rfl, OB.nil _ _, HG2.out.drewN _⟩
  have hn1 : ((L.length : Int) != r.n) = false := by rw [bne_eq_false_iff_eq]; exact hn
  have HRd := Lib.hid (show R = if dgB L = r.d then (L, 0) else ([], 6) by
    rw [← HRe2.out]
    by_cases hx : dgB L = r.d
    · rw [if_pos hx, if_neg (by intro h; rcases h with h | h; exact h hn; exact h hx)]
    · rw [if_neg hx, if_pos (Or.inr hx)])
  have hNq := fun wx => neq_dig (dgB L) r.d (dgB_len L) Hd.out wx
  have HSm := Lib.hid (fun wx (hg : Gr w2 wx) => sumI_any _ L wx (HO2.out.sl.gr hg) Hb2.out (by have := Hln.out; omega))
  have r0 := rec_range HR2.out
  have Hr0 := Lib.hid (fun wx (hg : Gr w2 wx) => rec_range (HR2.out.fr hg (fun h => h)))
  have Hll := Lib.hid (show (r.d.map (Value.int .u8)).length = 32 by rw [List.length_map]; exact Hd.out)
  have Hf33 := Lib.hid (fun wx (hg : Gr w2 wx) => show wx.cell? ⟨q, 33, none⟩ = some (.int .i64 r.n) from by rw [(HR2.out.fr hg (fun h => h)).cell]; exact rcA_n _ Hd.out)
  obtain ⟨bd, hbd⟩ : ∃ b, decide (dgB L = r.d) = b := ⟨_, rfl⟩
  rw [hbd] at hNq
  have HRb := Lib.hid (show R = if bd = true then (L, 0) else ([], 6) by
    rw [HRd.out, ← hbd]
    by_cases hx : dgB L = r.d
    · rw [if_pos hx, if_pos (decide_eq_true hx)]
    · rw [if_neg hx, if_neg (by rw [decide_eq_false hx]; decide)])
  generalize ((dgB L).map (Value.int .u8)).toArray = lb at hNq HSm
  generalize r.d.map (Value.int .u8) = la at hNq r0 Hr0 Hll
  have hud : Try.prog.underlying 23 = some (.array 32 5) := Try.underlying23
  have hsd : (Try.prog.info? 23).map (·.size) = some la.length := by rw [Hll.out]; kernel_rfl
  clear hn hbd HRd HRe2
  go_upto_region 4 with (fail)
  go_region_held3 (fun wx => wx.cell? ⟨q, 33, none⟩ = some (.int .i64 r.n) ∧ wx.rangeAt q 0 la)
    (first | with_reducible exact ⟨f33', r0'⟩ | exact ⟨f33, r0⟩)
    (first | (go_at_call 43
              refine (HSm.out _ ((Fr.refl w2 NoneS).drew)).mono ?_
              rintro e w5 ⟨rfl, hg⟩
              have HG5 := Lib.hid (show Gr w2 w5 from ((Fr.refl w2 NoneS).drew).trans hg (fun _ _ h => h))
              have f33' := Hf33.out _ HG5.out
              have r0' := Hr0.out _ HG5.out
              clear hg))
  clear f33 r0 f33' r0' hud hsd
  have hR := HRb.out
  cases bd with
  | true =>
    rw [if_pos rfl] at hR
    have HRz := Lib.hid hR
    clear hR
    go_wp2_with fail
    go_ret2
    rw [HRz.out]
    exact ⟨_, rfl, HO2.out.gr HG5.out, HG2.out.trans HG5.out (fun _ _ h => h)⟩
  | false =>
    rw [if_neg (by decide)] at hR
    have HRz := Lib.hid hR
    clear hR
    go_wp2_with fail
    go_ret2
    rw [HRz.out]
    exact ⟨_, rfl, OB.nil _ _, HG2.out.trans HG5.out (fun _ _ h => h)⟩
end Rec
end Go.Proofs.Ytobedpohoellkaa
