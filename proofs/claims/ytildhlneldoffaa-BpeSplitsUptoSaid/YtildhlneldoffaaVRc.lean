/- the reference's vocab: Sizes and Check. -/
import Derived.Test.YtildhlneldoffaaVRb
set_option linter.unusedVariables false
set_option linter.unusedSimpArgs false
namespace Go.Proofs.Ytildhlneldoffaa
open Go.RowKit
namespace Voc
theorem wpList_build_to {P : Program} {ops : Array Oper} {rest : List Oper} {o : Oper} {a : Act} {w : World} {Q : Exit → Act → World → Prop} (hg : o.guard = none) (t : TypeId) (parts : Array (Nat × Operand)) (ho : o.op = .build t parts)
    (cells : Array Value) (hf : P.built t (parts.map fun (i, x) => (i, a.eval x)).toList = some cells)
    (h : wpList P ops Q rest (a.put o.dst (.agg cells)) w) : wpList P ops Q (o :: rest) a w :=
  wpList_build hg t parts ho (by rw [hf]; rfl) (by rw [hf]; exact h)
def Z82 : Array Value := rcs (.slice none 0 0) (bset []) (be []).length
structure RK (w wr : World) (q1 p : Nat) (v sv : Value) (xs : List Pc) (k : Nat) (sz : List Nat) : Prop where
  gr : Gr w wr
  blk : Blk wr q1 24 #[v]
  sn : RN wr (w.heap.size + 1) p (xs.take k) sz sv
  bad : badF [] [] xs = badF (xs.take k) sz (xs.drop k)
  szs : szF [] xs = szF sz (xs.drop k)
  le : ∀ s ∈ sz, s ≤ 256
theorem RK.next {w wa w3 : World} {q1 p k : Nat} {v sv sv' : Value} {xs : List Pc} {sz : List Nat} {q : Pc} (H : RK w wa q1 p v sv xs k sz) (hq : w.heap.size = q1) (h1 : xs.take (k + 1) = xs.take k ++ [q]) (h2 : xs.drop k = q :: xs.drop (k + 1))
    (h0 : stepE (xs.take k) sz q = 0) (hf : Fr wa w3 (RS p sv)) (hs : RN w3 (w.heap.size + 1) p (xs.take k ++ [q]) (sz ++ [stepS sz q]) sv') : RK w w3 q1 p v sv' xs (k + 1) (sz ++ [stepS sz q]) := by
  have hlo : ∀ i, RS p sv i → w.heap.size + 1 ≤ i := by
    rintro i (rfl | h)
    · exact H.sn.bs
    · exact (H.sn.own.lt i h).1
  refine ⟨H.gr.trans hf (fun i hi h => by have := hlo i h; omega), H.blk.fr hf (fun h => by have := hlo _ h; omega), h1 ▸ hs, ?_, ?_, ?_⟩
  · rw [H.bad, h2, h1]; simp [badF, h0]
  · rw [H.szs, h2]; rfl
  · intro s hs'
    rcases List.mem_append.1 hs' with h | h
    · exact H.le s h
    · simp at h; subst h; exact stepS_le h0
theorem RK.stop {w wa : World} {q1 p k : Nat} {v sv : Value} {xs : List Pc} {sz : List Nat} {q : Pc} (H : RK w wa q1 p v sv xs k sz) (hk : k < xs.length) (h4 : ¬ 4096 < xs.length) (h2 : xs.drop k = q :: xs.drop (k + 1))
    (h0 : stepE (xs.take k) sz q ≠ 0) : checkE xs = (stepE (xs.take k) sz q, k) := by
  have : badF [] [] xs = some (stepE (xs.take k) sz q, k) := by
    rw [H.bad, h2]
    simp only [badF, if_neg h0]
    rw [List.length_take, Nat.min_eq_left (by omega)]
  simp only [checkE, if_neg h4, this]
theorem RK.done {w wa : World} {q1 p : Nat} {v sv : Value} {xs : List Pc} {sz : List Nat} (H : RK w wa q1 p v sv xs xs.length sz) (h4 : ¬ 4096 < xs.length) :
    (checkE xs = if (be xs).length < 256 then (7, xs.length) else (0, 0)) ∧ szF [] xs = sz ∧ RN wa (w.heap.size + 1) p xs sz sv := by
  have h1 := H.bad
  have h2 := H.szs
  have h3 := H.sn
  rw [List.drop_length] at h1 h2
  rw [List.take_length] at h3
  refine ⟨?_, h2, h3⟩
  simp only [checkE, if_neg h4, h1, badF]

set_option maxRecDepth 20000 in
set_option maxHeartbeats 4000000 in
theorem rsizes_any {w : World} {v : Value} {xs : List Pc} (HS : SL encP w v xs) (hw : ∀ q ∈ xs, wfP q) (hl : xs.length ≤ 1048576) (E : Int) (at_ : Nat) (hE : checkE xs = (E, at_)) :
    Calls Try.prog 45 #[.agg #[v]] w fun e w' => Gr w w' ∧ ((E ≠ 0 ∧ e = .returned (.tuple #[.slice none 0 0, .int .i64 E, .int .i64 at_])) ∨
      (E = 0 ∧ at_ = 0 ∧ ∃ sv, e = .returned (.tuple #[sv, .int .i64 0, .int .i64 0]) ∧ w'.ownsRow (w.heap.size + 1) 3 1 sv xs.length ((szF [] xs).flatMap encN))) := by
  obtain ⟨A, cap, rfl⟩ : ∃ A cap, v = .slice A xs.length cap := by obtain ⟨A, cap, h, _⟩ := HS; exact ⟨A, cap, h⟩
  have HS1 := Lib.hid HS
  have HW := Lib.hid hw
  have HL := Lib.hid hl
  have HE := Lib.hid hE
  clear hw hE hl HS
  by_cases h4 : 4096 < xs.length
  case pos =>
    have h4' : (4096 : Int) < (xs.length : Int) := by omega
    have he := HE.out
    simp only [checkE, if_pos h4] at he
    injection he with e1 e2
    have He := Lib.hid (And.intro e1 e2)
    clear e1 e2 h4
    go_enter Try.func45, Try.ntmps45
    go_wp2_with fail
    go_ret3
    exact ⟨(Fr.refl w _).alloc _, .inl ⟨by rw [← He.out.1]; decide, by rw [← He.out.1, ← He.out.2]; rfl⟩⟩
  have h4' : ¬ (4096 : Int) < (xs.length : Int) := by omega
  go_enter Try.func45, Try.ntmps45
  clear h4
  go_upto_region 4 with (refine wpList_build_to rfl TRs _ rfl Z82 (by kernel_rfl) ?_)
  have HP0 := Lib.hid (show RK w ((w.alloc (.cells #[.slice A xs.length cap] 24)).alloc (.cells Z82 TRs)) w.heap.size (w.heap.size + 1) (.slice A xs.length cap) (.slice none 0 0) xs 0 [] from by
    generalize hb1 : World.alloc w (.cells #[.slice A xs.length cap] 24) = w1
    have hB := Blk.new w 24 #[.slice A xs.length cap]
    have hG := (Fr.refl w NoneS).alloc (.cells #[.slice A xs.length cap] 24)
    have hs : w1.heap.size = w.heap.size + 1 := by rw [← hb1]; simp
    rw [hb1] at hB hG
    have bp := Blk.new w1 TRs Z82
    rw [hs] at bp
    exact ⟨hG.alloc _, hB.alloc _, ⟨Nat.le_refl _, bp, by simpa using World.ownsRow_nil _ _ _ _, rfl⟩, rfl, rfl, (fun _ h => by cases h)⟩)
  generalize World.alloc (World.alloc _ _) (.cells Z82 _) = w5 at HP0 ⊢
  obtain ⟨q1, hq1⟩ : ∃ q, w.heap.size = q := ⟨_, rfl⟩
  rw [hq1] at HP0 ⊢
  obtain ⟨p, hp⟩ : ∃ q, q1 + 1 = q := ⟨_, rfl⟩
  rw [hp] at HP0 ⊢
  have Hq1 := Lib.hid hq1
  clear hq1 hp
  go_wp2_with fail
  go_loopg [6] (xs.length + 1) (fun m s6 wr => ∃ (k : Nat) (sz : List Nat) (sv : Value), s6 = .int .i64 k ∧ Hid (k ≤ xs.length ∧ xs.length - k < m) ∧ Hid (RK w wr q1 p (.slice A xs.length cap) sv xs k sz))
  case atStart => exact ⟨0, [], _, rfl, ⟨Nat.zero_le _, by omega⟩, HP0.out⟩
  case round =>
    obtain ⟨k, sz, sv, rfl, HK, HP⟩ := hrel
    clear HP0
    have fq : wr.cell? ⟨q1, 0, none⟩ = some (.slice A xs.length cap) := by rw [HP.out.blk.cell]; rfl
    by_cases hk : k < xs.length
    · have HSLr := Lib.hid (HS1.out.gr HP.out.gr)
      obtain ⟨ba, oa, hA9, hba, hcell⟩ := HSLr.out.at_ (s := 5) (fun _ => rfl) rfl hk
      subst hA9
      have d0 := hcell 0 (by omega)
      have d1 := hcell 1 (by omega)
      have d2 := hcell 2 (by omega)
      have d3 := hcell 3 (by omega)
      have d4 := hcell 4 (by omega)
      clear hcell
      simp [encP] at d0 d1 d2 d3 d4
      rw [← Nat.add_assoc] at d1 d2 d3 d4
      have Hk := Lib.hid hk
      have Hxk := Lib.hid (show xs.take (k + 1) = xs.take k ++ [xs[k]'hk] ∧ xs.drop k = xs[k]'hk :: xs.drop (k + 1) from ⟨by rw [List.take_add_one, List.getElem?_eq_getElem hk]; rfl, List.drop_eq_getElem_cons hk⟩)
      have Hwf := Lib.hid (HW.out _ (List.getElem_mem hk))
      have Hget := Lib.hid (show xs[k]? = some (xs[k]'hk) from List.getElem?_eq_getElem hk)
      generalize xs[k]'hk = q at d0 d1 d2 d3 d4 Hxk Hwf Hget
      obtain ⟨jj, bb, ll, rr, kk⟩ := q
      simp only at d0 d1 d2 d3 d4
      have hki : (k : Int) < xs.length := by omega
      have hlk : (xs.take k).length = k := by rw [List.length_take]; omega
      have hwk : IntKind.i64.wrap ((k : Int) + 1) = (k : Int) + 1 := IntWalk.i64_in _ ⟨by omega, by omega⟩
      obtain ⟨ev, hev⟩ : ∃ e, e = stepE (xs.take k) sz ⟨jj, bb, ll, rr, kk⟩ := ⟨_, rfl⟩
      have Hev := Lib.hid hev
      have hbs : w.heap.size + 1 ≤ wr.heap.size := by have := HP.out.blk.lt; have := Hq1.out; omega
      have HC : Hid (∀ w' : World, ((ev ≠ 0 ∧ Gr wr w') ∨ (ev = 0 ∧ Fr wr w' (RS p sv) ∧ ∃ sv', RN w' (w.heap.size + 1) p (xs.take k ++ [⟨jj, bb, ll, rr, kk⟩]) (sz ++ [stepS sz ⟨jj, bb, ll, rr, kk⟩]) sv')) →
          (ev ≠ 0 ∧ Gr w w' ∧ E ≠ 0 ∧ E = ev ∧ at_ = k) ∨ (ev = 0 ∧ ∃ k' : Nat, Value.int .i64 ((k : Int) + 1) = Value.int .i64 (k' : Int) ∧ ∃ (sz' : List Nat) (sv' : Value), Hid (k' ≤ xs.length ∧ xs.length - k' < gk - 1) ∧ Hid (RK w w' q1 p (.slice (some ⟨ba, oa, none⟩) xs.length cap) sv' xs k' sz'))) := by
        intro w' h
        rcases h with ⟨h0, hg⟩ | ⟨h0, hf, sv', hs⟩
        · have h1 := HP.out.stop Hk.out (by omega) Hxk.out.2 (by rw [← Hev.out]; exact h0)
          rw [HE.out, ← Hev.out] at h1
          injection h1 with h1 h2
          exact .inl ⟨h0, HP.out.gr.trans hg (fun _ _ h => h), by rw [h1]; exact h0, h1, h2⟩
        · refine .inr ⟨h0, k + 1, by simp, _, sv', ⟨by omega, by have := HK.out; omega⟩, HP.out.next Hq1.out Hxk.out.1 Hxk.out.2 (by rw [← Hev.out]; exact h0) hf hs⟩
      cases jj with
      | false =>
        obtain ⟨bi, rfl⟩ : ∃ i : Nat, bb = i := ⟨bb.toNat, by have h := Hwf.out.1; have h0 : IntKind.u8.min = 0 := rfl; have h1 : IntKind.u8.max = 255 := rfl; simp [Lit.wf] at h; omega⟩
        have Ht := rbyte bi ll rr kk HP.out.sn (by have h := Hwf.out.1; have h0 : IntKind.u8.min = 0 := rfl; have h1 : IntKind.u8.max = 255 := rfl; simp [Lit.wf] at h; omega) (by omega) hbs ev hev.symm
        have HT := Lib.hid Ht
        clear Ht hev hlk hbs
        by_cases h0 : ev = 0
        · subst h0
          go_wp2_with (go_at_call 54; refine HT.out.mono ?_; rintro e w3 ⟨rfl, hc⟩; have HD := Lib.hid (HC.out w3 hc); clear hc)
          rcases HD.out with ⟨h, _⟩ | ⟨_, k', he, sz', sv', h1, h2⟩
          · exact absurd rfl h
          · go_roundg (gk - 1)
            case measure => have := HK.out; omega
            case rel => exact ⟨k', sz', sv', he, h1, h2⟩
        · have H0 := Lib.hid h0
          go_wp2_with (go_at_call 54; refine HT.out.mono ?_; rintro e w3 ⟨rfl, hc⟩; have HD := Lib.hid (HC.out w3 hc); clear hc)
          go_ret3
          rcases HD.out with ⟨_, hg, hE0, hE1, hE2⟩ | ⟨h, _⟩
          · exact ⟨hg, .inl ⟨hE0, by rw [hE1, hE2]; rfl⟩⟩
          · exact absurd h H0.out
      | true =>
        have Ht := rjoin k bb ll rr kk HP.out.sn HSLr.out Hget.out HP.out.le (by omega) hbs ev hev.symm
        have HT := Lib.hid Ht
        clear Ht hev hlk hbs
        by_cases h0 : ev = 0
        · subst h0
          go_wp2_with (go_at_call 53; refine HT.out.mono ?_; rintro e w3 ⟨rfl, hc⟩; have HD := Lib.hid (HC.out w3 hc); clear hc)
          rcases HD.out with ⟨h, _⟩ | ⟨_, k', he, sz', sv', h1, h2⟩
          · exact absurd rfl h
          · go_roundg (gk - 1)
            case measure => have := HK.out; omega
            case rel => exact ⟨k', sz', sv', he, h1, h2⟩
        · have H0 := Lib.hid h0
          go_wp2_with (go_at_call 53; refine HT.out.mono ?_; rintro e w3 ⟨rfl, hc⟩; have HD := Lib.hid (HC.out w3 hc); clear hc)
          go_ret3
          rcases HD.out with ⟨_, hg, hE0, hE1, hE2⟩ | ⟨h, _⟩
          · exact ⟨hg, .inl ⟨hE0, by rw [hE1, hE2]; rfl⟩⟩
          · exact absurd h H0.out
    · obtain rfl : k = xs.length := by have := HK.out; omega
      have HD := Lib.hid (HP.out.done (by omega))
      have hck := HD.out.1
      rw [HE.out] at hck
      have f0 := HD.out.2.2.c0
      have f1 := HD.out.2.2.c257
      by_cases hb : (be xs).length < 256
      · have hb' : ((be xs).length : Int) < 256 := by omega
        rw [if_pos hb] at hck
        have Hck := Lib.hid hck
        clear hck hb
        go_wp2_with fail
        go_region
        go_wp2_with fail
        go_ret3
        have he := Hck.out
        injection he with h1 h2
        exact ⟨HP.out.gr.drew, .inl ⟨by rw [h1]; decide, by rw [h1, h2]; rfl⟩⟩
      · have hb' : ¬ ((be xs).length : Int) < 256 := by omega
        rw [if_neg hb] at hck
        have Hck := Lib.hid hck
        clear hck hb
        go_wp2_with fail
        go_ret3
        have he := Hck.out
        injection he with h1 h2
        exact ⟨HP.out.gr, .inr ⟨h1, h2, sv, rfl, by rw [HD.out.2.1]; exact HD.out.2.2.own⟩⟩
end Voc
end Go.Proofs.Ytildhlneldoffaa
