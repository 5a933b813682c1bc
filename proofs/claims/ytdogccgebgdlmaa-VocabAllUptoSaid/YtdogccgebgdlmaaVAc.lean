/- slices.Clone of pieces; vocab.All; the reference's bytes and All. -/
import Derived.Test.YtdogccgebgdlmaaVAb
import Derived.Test.YtdogccgebgdlmaaVRa
import Derived.Test.YtdogccgebgdlmaaFvoc
import Derived.Laws.EntriesVeiled
set_option linter.unusedVariables false
set_option linter.unusedSimpArgs false
namespace Go.Proofs.Ytdogccgebgdlmaa
open Go.RowKit
namespace Voc
set_option maxRecDepth 20000 in
set_option maxHeartbeats 4000000 in
theorem rbytes_any {v : Value} {xs : List Pc} (hb : Back xs) : ∀ (f n : Nat), n < f → n < xs.length → ∀ (w : World), SL encP w v xs → (expB xs f n).length ≤ 1048576 →
    Calls Try.prog 41 #[.agg #[v], .int .i64 (n : Int)] w fun e w' => ∃ tv, e = .returned tv ∧ w'.ownsRow w.heap.size 5 1 tv (expB xs f n).length ((expB xs f n).flatMap encB) ∧ Gr w w' := by
  intro f
  induction f with
  | zero => intro n h; omega
  | succ f ih =>
  intro n hnf hnx w hsl hmax
  obtain ⟨A, cap, rfl⟩ := SL.form hsl
  obtain ⟨ba, oa, rfl, hba, hcell⟩ := hsl.at_ (s := 5) (fun _ => rfl) rfl hnx
  have d0 := hcell 0 (by omega)
  have d1 := hcell 1 (by omega)
  have d2 := hcell 2 (by omega)
  have d3 := hcell 3 (by omega)
  have d4 := hcell 4 (by omega)
  clear hcell
  simp [encP] at d0 d1 d2 d3 d4
  rw [← Nat.add_assoc] at d1 d2 d3 d4
  have Hget := Lib.hid (show xs[n]? = some (xs[n]'hnx) from List.getElem?_eq_getElem hnx)
  generalize xs[n]'hnx = q at d0 d1 d2 d3 d4 Hget
  obtain ⟨jj, bb, l, r, kk⟩ := q
  simp only at d0 d1 d2 d3 d4
  have hki : (n : Int) < xs.length := by omega
  have HSL := Lib.hid hsl
  have HM := Lib.hid hmax
  have Hba := Lib.hid hba
  have Hn := Lib.hid hnf
  clear hsl hmax hba hnf
  go_enter Try.func41, Try.ntmps41
  go_upto_region 1 with (fail)
  have HB3 := Lib.hid (Blk.new w 24 #[.slice (some ⟨ba, oa, none⟩) xs.length cap])
  have HG3 := Lib.hid ((Fr.refl w NoneS).alloc (.cells #[.slice (some ⟨ba, oa, none⟩) xs.length cap] 24))
  obtain ⟨p3, hp3⟩ : ∃ p, w.heap.size = p := ⟨_, rfl⟩
  rw [hp3] at HB3 ⊢
  have Hp3 := Lib.hid hp3
  clear hp3
  generalize World.alloc w _ = w0 at HB3 HG3 ⊢
  replace d0 := (HG3.out.cell (p := ⟨ba, oa + n * 5, none⟩) Hba.out (fun h => h)).trans d0
  replace d1 := (HG3.out.cell (p := ⟨ba, oa + n * 5 + 1, none⟩) Hba.out (fun h => h)).trans d1
  replace d2 := (HG3.out.cell (p := ⟨ba, oa + n * 5 + 2, none⟩) Hba.out (fun h => h)).trans d2
  replace d3 := (HG3.out.cell (p := ⟨ba, oa + n * 5 + 3, none⟩) Hba.out (fun h => h)).trans d3
  replace d4 := (HG3.out.cell (p := ⟨ba, oa + n * 5 + 4, none⟩) Hba.out (fun h => h)).trans d4
  have e0 : w0.cell? ⟨p3, 0, none⟩ = some (.slice (some ⟨ba, oa, none⟩) xs.length cap) := by rw [HB3.out.cell]; rfl
  go_upto_region 2 with (fail)
  clear d0 d1 d2 d3 d4 e0
  have HB7 := Lib.hid (Blk.new w0 TPc #[.bool jj, .int .u8 bb, .int .i64 l, .int .i64 r, .int .u32 kk])
  have HGx := Lib.hid ((Fr.refl w0 NoneS).alloc (.cells #[.bool jj, .int .u8 bb, .int .i64 l, .int .i64 r, .int .u32 kk] TPc))
  have HG := Lib.hid (HG3.out.trans HGx.out (fun _ _ h => h))
  have HB3 := Lib.hid (HB3.out.fr HGx.out (fun h => h))
  obtain ⟨p7, hp7⟩ : ∃ p, w0.heap.size = p := ⟨_, rfl⟩
  rw [hp7] at HB7 ⊢
  clear HGx HG3 hp7
  generalize World.alloc w0 _ = w1 at HB7 HB3 HG ⊢
  have e0 : w1.cell? ⟨p3, 0, none⟩ = some (.slice (some ⟨ba, oa, none⟩) xs.length cap) := by rw [HB3.out.cell]; rfl
  have f0 : w1.cell? ⟨p7, 0, none⟩ = some (.bool jj) := by rw [HB7.out.cell]; rfl
  have f1 : w1.cell? ⟨p7, 1, none⟩ = some (.int .u8 bb) := by rw [HB7.out.cell]; rfl
  have f2 : w1.cell? ⟨p7, 2, none⟩ = some (.int .i64 l) := by rw [HB7.out.cell]; rfl
  have f3 : w1.cell? ⟨p7, 3, none⟩ = some (.int .i64 r) := by rw [HB7.out.cell]; rfl
  cases jj with
  | false =>
    have hex : expB xs (f + 1) (n : Int) = [bb] := by simp only [expB, Int.toNat_natCast, Hget.out]; rfl
    have Hex := Lib.hid hex
    clear hex ih
    go_wp2_with fail
    go_ret
    rw [Hex.out]
    refine ⟨_, rfl, ?_, HG.out.alloc _⟩
    refine ⟨rfl, .inr ⟨w1.heap.size, 1, _, rfl, HG.out.size, heap_alloc_new w1 _, Nat.le_refl _, by unfold maxLen; omega, rfl, rfl⟩⟩
  | true =>
    obtain ⟨⟨hl0, hl1⟩, hr0, hr1⟩ := hb n _ Hget.out rfl
    simp only at hl0 hl1 hr0 hr1
    obtain ⟨i, rfl⟩ : ∃ i : Nat, l = i := ⟨l.toNat, by omega⟩
    obtain ⟨j, rfl⟩ : ∃ j : Nat, r = j := ⟨r.toNat, by omega⟩
    have hi : i < n := by omega
    have hj : j < n := by omega
    have hex : expB xs (f + 1) (n : Int) = expB xs f i ++ expB xs f j := by simp only [expB, Int.toNat_natCast, Hget.out]; rfl
    rw [hex] at HM
    have Hex := Lib.hid hex
    clear hl0 hl1 hr0 hr1 hex
    have hlen := HM.out
    rw [List.length_append] at hlen
    have Hlen := Lib.hid hlen
    have HI := Lib.hid (ih i (by have := Hn.out; omega) (by omega) w1 (HSL.out.gr HG.out) (by omega))
    have HJ := Lib.hid (show ∀ w2, Gr w1 w2 → Calls Try.prog 41 #[.agg #[.slice (some ⟨ba, oa, none⟩) xs.length cap], .int .i64 (j : Int)] w2 fun e w' => ∃ tv, e = .returned tv ∧ w'.ownsRow w2.heap.size 5 1 tv (expB xs f j).length ((expB xs f j).flatMap encB) ∧ Gr w2 w' from fun w2 h =>
      ih j (by have := Hn.out; omega) (by omega) w2 ((HSL.out.gr HG.out).gr h) (by omega))
    clear hlen ih
    generalize expB xs f i = bl at HI HM Hex Hlen
    generalize expB xs f j = br at HJ HM Hex Hlen
    go_upto_region 5 with (
      go_at_call 41
      refine HI.out.mono ?_
      rintro e w2 ⟨t2, rfl, ho, hg⟩
      have HO2 := Lib.hid ho
      have HG2 := Lib.hid hg
      clear ho hg)
    clear e0 f0 f1 f2 f3
    have e0 : w2.cell? ⟨p3, 0, none⟩ = some (.slice (some ⟨ba, oa, none⟩) xs.length cap) := by rw [(HB3.out.fr HG2.out (fun h => h)).cell]; rfl
    have f3 : w2.cell? ⟨p7, 3, none⟩ = some (.int .i64 j) := by rw [(HB7.out.fr HG2.out (fun h => h)).cell]; rfl
    go_upto_region 6 with (
      go_at_call 41
      refine (HJ.out w2 HG2.out).mono ?_
      rintro e w3 ⟨t3, rfl, ho, hg⟩
      have HO3 := Lib.hid ho
      have HG3 := Lib.hid hg
      clear ho hg)
    have HO4 := Lib.hid (HG3.out.owns HO2.out (fun _ _ h => h))
    have HS3 := Lib.hid (SL.of_own (enc := encB) (xs := br) HO3.out rfl)
    obtain ⟨i0, hi0, hz0, hz1, hz2⟩ := info_parts info_u8
    have Hsz := Lib.hid (Nat.le_trans HG2.out.size HG3.out.size)
    go_wp2_with (
      at_builtin
      refine wpList_append_sl _ encB rfl _ _ 37 rfl w1.heap.size 5 i0 (.int .u8 0) 1 1 Try.underlying37 hi0 hz0 hz1 hz2 rfl (by decide) t2 _ _ rfl HO4.out t3 br rfl HS3.out (fun _ => rfl) encB_one (by have := Hlen.out; simp only [maxLen]; omega) (by have := Hlen.out; omega) Hsz.out ?_
      intro v4 w4 ho hf hat
      have HO5 := Lib.hid ho
      have HF5 := Lib.hid hf
      clear ho hf hat)
    go_ret
    rw [Hex.out]
    refine ⟨_, rfl, ?_, ((HG.out.trans HG2.out (fun _ _ h => h)).trans HG3.out (fun _ _ h => h)).trans HF5.out (fun k hk h => by have := (HO2.out.lt k h).1; have := HG.out.size; omega)⟩
    rw [List.length_append, List.flatMap_append]
    exact own_base HO5.out HG.out.size

abbrev TPs : TypeId := 22
theorem equalIn_ps (w : World) (d : Nat) (a : Option Addr) (l c : Nat) : (Op.equalIn (d + 1) TPs (.slice a l c) (.slice none 0 0)).run Try.prog w = .ok a.isNone w := by
  cases a <;> simp [Op.equalIn, run_underlying Try.underlying22]
theorem eql_ps (w : World) (a : Option Addr) (l c : Nat) : (binOp .eql TPs (.slice a l c) (.slice none 0 0)).run Try.prog w = .ok (.bool a.isNone) w := by
  simp only [binOp]
  simp [Op.equal, Op.maxDepth, equalIn_ps w 9999 a l c]
set_option maxRecDepth 20000 in
set_option maxHeartbeats 1600000 in
theorem cloneP_any {w : World} {v : Value} {xs : List Pc} (HS : SL encP w v xs) (hl : xs.length ≤ 1048576) :
    Calls Try.prog 44 #[v] w fun e w' => ∃ sv, e = .returned sv ∧ w'.ownsRow w.heap.size TPc 5 sv xs.length (xs.flatMap encP) ∧ Gr w w' := by
  obtain ⟨i0, hi0, hz0, hz1, hz2⟩ := info_parts info_pc
  have HS1 := Lib.hid HS
  obtain ⟨A, cap, rfl⟩ := SL.form HS
  have Hl := Lib.hid hl
  have hq := eql_ps
  cases A with
  | none =>
    have hx : xs = [] := by
      cases xs with
      | nil => rfl
      | cons x r => obtain ⟨b, o, h, _⟩ := HS.at_ (s := 5) (fun _ => rfl) rfl (k := 0) (by simp); cases h
    subst hx
    clear HS hl
    go_enter Try.func44, Try.ntmps44
    go_wp2_with fail
    go_ret
    exact ⟨_, rfl, World.ownsRow_nil _ _ _ _, Fr.refl _ _⟩
  | some ad =>
    clear HS hl
    go_enter Try.func44, Try.ntmps44
    go_wp2_with (at_builtin; refine wpList_append_sl _ encP rfl _ _ 22 rfl w.heap.size TPc i0 (.agg #[.bool false, .int .u8 0, .int .i64 0, .int .i64 0, .int .u32 0]) 5 32 Try.underlying22 hi0 hz0 hz1 hz2 rfl (by omega) (.slice (some ⟨w.heap.size, 0, none⟩) 0 0) 0 [] rfl ⟨rfl, .inr ⟨w.heap.size, 0, _, rfl, Nat.le_refl _, heap_alloc_new w _, Nat.le_refl _, by unfold maxLen; omega, rfl, rfl⟩⟩ (.slice (some ad) xs.length cap) xs rfl (HS1.out.gr ((Fr.refl w NoneS).alloc _)) (fun _ => rfl) encP_one (by have := Hl.out; unfold maxLen; omega) (by have := Hl.out; omega) (by simp) ?_
                 intro v1 w2 ho hf hat
                 rw [Nat.zero_add, List.nil_append] at ho
                 have HO2 := Lib.hid ho
                 have HG2 := Lib.hid (show Gr w w2 from ((Fr.refl w NoneS).alloc _).trans hf (fun i hi h => by simp [Value.ownBlock] at h; omega))
                 clear ho hf hat)
    go_ret
    exact ⟨v1, rfl, HO2.out, HG2.out⟩

/-- what vocab.All answers -/
def AllV (w w' : World) (f : Value) (xs : List Pc) : Prop :=
  (f = .func (.func 43) #[] #[] ∧ (checkE xs).1 ≠ 0) ∨
  ∃ (BO : Nat) (sv : Value), f = .func (.func 45) #[] #[.pointer (some ⟨BO, 0, none⟩)] ∧ (checkE xs).1 = 0 ∧ w.heap.size ≤ BO ∧ Blk w' BO 24 #[sv] ∧ w'.ownsRow w.heap.size TPc 5 sv xs.length (xs.flatMap encP)
set_option maxRecDepth 20000 in
set_option maxHeartbeats 1600000 in
theorem All_any {w : World} {v : Value} {xs : List Pc} (HS : SL encP w v xs) (hw : ∀ q ∈ xs, wfP q) (hl : xs.length ≤ 1048576) :
    Calls Try.prog 34 #[.agg #[v]] w fun e w' => ∃ f, e = .returned f ∧ AllV w w' f xs ∧ Gr w w' := by
  obtain ⟨A, cap, rfl⟩ := SL.form HS
  have HG := Lib.hid ((Fr.refl w NoneS).alloc (.cells #[.slice A xs.length cap] 24))
  have HB := Lib.hid (Blk.new w 24 #[.slice A xs.length cap])
  have HC := Lib.hid (check_any (HS.gr HG.out) hw hl)
  have HP := Lib.hid (fun w' (h : Gr w w') => cloneP_any (HS.gr h) hl)
  obtain ⟨E, hE⟩ : ∃ E, (checkE xs).1 = E := ⟨_, rfl⟩
  rw [hE] at HC
  have HE := Lib.hid hE
  generalize (checkE xs).2 = at_ at HC
  clear HS hw hl hE
  go_enter Try.func34, Try.ntmps34
  go_upto_region 1 with (fail)
  generalize World.alloc w _ = w1 at HG HB HC ⊢
  obtain ⟨q, hq⟩ : ∃ q, w.heap.size = q := ⟨_, rfl⟩
  have Hq := Lib.hid hq
  rw [hq] at HB ⊢
  clear hq
  have c0 : w1.cell? ⟨q, 0, none⟩ = some (.slice A xs.length cap) := by rw [HB.out.cell]; rfl
  by_cases h0 : E = 0
  case neg =>
    have h1 : (E != 0) = true := bne_iff_ne.2 h0
    have H0 := Lib.hid h0
    clear h0
    go_wp2_with (go_at_call 12; refine HC.out.mono ?_; rintro e w3 ⟨rfl, hg⟩; have HG3 := Lib.hid (HG.out.trans hg (fun _ _ h => h)); clear hg)
    go_ret
    exact ⟨_, rfl, .inl ⟨rfl, by rw [HE.out]; exact H0.out⟩, HG3.out⟩
  subst h0
  go_upto_region 4 with (go_at_call 12; refine HC.out.mono ?_; rintro e w3 ⟨rfl, hg⟩; have HG3 := Lib.hid (HG.out.trans hg (fun _ _ h => h)); have HB3 := Lib.hid (HB.out.fr hg (fun h => h)); clear hg)
  have c3 : w3.cell? ⟨q, 0, none⟩ = some (.slice A xs.length cap) := by rw [HB3.out.cell]; rfl
  clear c0
  go_upto_region 5 with (go_at_call 44; refine (HP.out _ HG3.out).mono ?_; rintro e w4 ⟨sv, rfl, ho, hg⟩; have HO4 := Lib.hid ho; have HG4 := Lib.hid (HG3.out.trans hg (fun _ _ h => h)); obtain ⟨As, cs, rfl⟩ := own_formN ho; clear ho hg)
  go_wp2_with fail
  go_ret
  refine ⟨_, rfl, .inr ⟨w4.heap.size, .slice As xs.length cs, rfl, HE.out, HG4.out.size, Blk.new w4 _ _, own_base (((Fr.refl w4 NoneS).alloc _).owns HO4.out (fun _ _ h => h)) HG3.out.size⟩, HG4.out.alloc _⟩

abbrev TSb : TypeId := 37
abbrev nilV : Value := .slice none 0 0
theorem info_rows : (Try.prog.info? TSb).map (fun i => (i.zero, i.size, i.bytes)) = some (some nilV, 1, 24) := by kernel_rfl
def encS (x : Option Addr × Nat × Nat) : List Value := [.slice x.1 x.2.1 x.2.2]
theorem encS_one : ∀ x, ∀ u ∈ encS x, u.oneCell' = true := by intro x u hu; simp [encS] at hu; subst hu; rfl
theorem flat_encRow (l : List Value) : l.flatMap encRow = l := by
  induction l with
  | nil => rfl
  | cons x r ih => rw [List.flatMap_cons, ih]; rfl
/-- what All has after k pieces -/
def AR (w : World) (xs : List Pc) (k : Nat) (v : Value) (W : World) : Prop :=
  (∃ svs : List Value, W.ownsRow w.heap.size TSb 1 v k svs ∧ ∀ (i : Nat) (s : Value), svs[i]? = some s → W.ownsRow w.heap.size 5 1 s (expE xs (i : Int)).length ((expE xs (i : Int)).flatMap encB)) ∧ Gr w W
theorem AR.step {w : World} {xs : List Pc} {k : Nat} {v v' tv : Value} {W W1 W2 : World} {svs : List Value} (h1 : W.ownsRow w.heap.size TSb 1 v k svs)
    (h2 : ∀ (i : Nat) (s : Value), svs[i]? = some s → W.ownsRow w.heap.size 5 1 s (expE xs (i : Int)).length ((expE xs (i : Int)).flatMap encB)) (h3 : Gr w W) (hg : Gr W W1) (ht : W1.ownsRow w.heap.size 5 1 tv (expE xs (k : Int)).length ((expE xs (k : Int)).flatMap encB))
    (hf : Fr W1 W2 (fun j => v.ownBlock = some j)) (ho : W2.ownsRow w.heap.size TSb 1 v' (k + 1) (svs ++ [tv])) : AR w xs (k + 1) v' W2 := by
  have h4 := hg.owns h1 (fun _ _ h => h)
  have hlen : svs.length = k := by have := h1.1; omega
  refine ⟨⟨svs ++ [tv], ho, fun i s hs => ?_⟩, gr_keep' (h3.trans hg (fun _ _ h => h)) h4 hf⟩
  have ne : ∀ {u : Value} {n : Nat} {l : List Value}, W1.ownsRow w.heap.size 5 1 u n l → ∀ j, u.ownBlock = some j → ¬ v.ownBlock = some j := fun hu j hj hv => own_own_ne hu h4 (by decide) j hj hv
  by_cases hi : i < svs.length
  · rw [List.getElem?_append_left hi] at hs
    have h5 := hg.owns (h2 i s hs) (fun _ _ h => h)
    exact hf.owns h5 (ne h5)
  · rw [List.getElem?_append_right (by omega)] at hs
    have hi0 : i - svs.length = 0 := by
      rcases Nat.eq_zero_or_pos (i - svs.length) with h0 | h0
      · exact h0
      · rw [List.getElem?_eq_none (by simp; omega)] at hs; cases hs
    rw [hi0] at hs
    injection hs with hs
    subst hs
    have : i = k := by omega
    subst this
    exact hf.owns ht (ne ht)
set_option maxRecDepth 20000 in
set_option maxHeartbeats 4000000 in
theorem rAll_any {w : World} {v : Value} {xs : List Pc} (HS : SL encP w v xs) (hc : (checkE xs).1 = 0) :
    Calls Try.prog 33 #[.agg #[v]] w fun e w' => ∃ vw svs, e = .returned vw ∧ RowsB w' vw svs ((List.range xs.length).map fun (i : Nat) => expE xs (i : Int)) ∧ Gr w w' := by
  obtain ⟨A, cap, rfl⟩ := SL.form HS
  have hx4 : xs.length ≤ 4096 := (good_of hc).len
  have Hx4 := Lib.hid hx4
  have HG := Lib.hid ((Fr.refl w NoneS).alloc (.cells #[.slice A xs.length cap] 24))
  have HB := Lib.hid (Blk.new w 24 #[.slice A xs.length cap])
  have HR := Lib.hid (show ∀ (k : Nat) (wr : World), k < xs.length → Gr w wr → Calls Try.prog 41 #[.agg #[.slice A xs.length cap], .int .i64 (k : Int)] wr fun e w' => ∃ tv, e = .returned tv ∧ w'.ownsRow wr.heap.size 5 1 tv (expE xs (k : Int)).length ((expE xs (k : Int)).flatMap encB) ∧ Gr wr w' from fun k wr hk hg => by
    have h256 := expE_le xs (k : Int)
    have h := rbytes_any (good_of hc).ok.back (k + 1) k (by omega) hk wr (HS.gr hg) (by rw [← expE_at hc hk]; omega)
    rw [← expE_at hc hk] at h
    exact h)
  clear HS hx4
  go_enter Try.func33, Try.ntmps33
  go_upto_region 1 with (fail)
  generalize World.alloc w _ = w1 at HG HB ⊢
  obtain ⟨q, hq⟩ : ∃ q, w.heap.size = q := ⟨_, rfl⟩
  have Hq := Lib.hid hq
  rw [hq] at HB ⊢
  clear hq
  have c0 : w1.cell? ⟨q, 0, none⟩ = some (.slice A xs.length cap) := by rw [HB.out.cell]; rfl
  obtain ⟨i0, hi0, hz0, hz1, hz2⟩ := info_parts info_rows
  go_wp2_with fail
  go_loopg [3, 4] (xs.length + 1) (fun m s3 s4 wr => ∃ (k : Nat) (v : Value), v = s3 ∧ s4 = .int .i64 k ∧ Hid (k ≤ xs.length ∧ xs.length - k < m) ∧ Hid (AR w xs k v wr ∧ Blk wr q 24 #[.slice A xs.length cap]))
  case atStart => exact ⟨0, _, rfl, rfl, ⟨Nat.zero_le _, by omega⟩, ⟨⟨[], World.ownsRow_nil _ _ _ _, fun i s h => by cases h⟩, HG.out⟩, HB.out⟩
  case round =>
    obtain ⟨k, v, rfl, rfl, HK, HA⟩ := hrel
    have c1 : wr.cell? ⟨q, 0, none⟩ = some (.slice A xs.length cap) := by rw [HA.out.2.cell]; rfl
    by_cases hk : k < xs.length
    · have hki : (k : Int) < (xs.length : Int) := by omega
      have hk4 : k ≤ 4096 := by have := Hx4.out; omega
      have Hk := Lib.hid (And.intro hk hk4)
      have HRk := Lib.hid (HR.out k wr hk HA.out.1.2)
      have hle := expE_le xs (k : Int)
      have Hle := Lib.hid hle
      clear hk hle hk4 c0
      go_upto_region 6 with (go_at_call 41; refine HRk.out.mono ?_; rintro e w4 ⟨tv, rfl, ho, hg⟩; have HO4 := Lib.hid (own_base ho HA.out.1.2.size); have HG4 := Lib.hid hg; clear ho hg)
      obtain ⟨At, ct, rfl⟩ := own_formN HO4.out
      obtain ⟨svs, hrow, hall⟩ := id HA.out.1.1
      have Hall := Lib.hid hall
      have Hrow0 := Lib.hid hrow
      have Hrow := Lib.hid ((HG4.out.alloc (.cells #[.slice At (expE xs (k : Int)).length ct] TSb)).owns hrow (fun _ _ h => h))
      have hlen : svs.length = k := by have := hrow.1; omega
      obtain ⟨A3, c3, rfl⟩ := own_formN hrow
      clear hrow hall
      have Hsz := Lib.hid (show w.heap.size ≤ (w4.alloc (.cells #[.slice At (expE xs (k : Int)).length ct] TSb)).heap.size from (HA.out.1.2.trans (HG4.out.alloc _) (fun _ _ h => h)).size)
      go_wp2_with (
        at_builtin
        refine wpList_append_sl _ encS rfl _ _ 54 rfl w.heap.size TSb i0 nilV 1 24 Try.underlying54 hi0 hz0 hz1 hz2 rfl (by decide) (.slice A3 k c3) k svs rfl Hrow.out (.slice (some ⟨w4.heap.size, 0, none⟩) 1 1) [(At, (expE xs (k : Int)).length, ct)] rfl (sl_one (enc := encS) w4 (At, (expE xs (k : Int)).length, ct) #[.slice At (expE xs (k : Int)).length ct] rfl TSb) (fun _ => rfl) encS_one (by have := Hk.out.2; simp only [maxLen, List.length_singleton]; omega) (by have := Hk.out.2; simp only [List.length_singleton]; omega) Hsz.out ?_
        intro v5 w5 ho hf hat
        have HO5 := Lib.hid ho
        have HF5 := Lib.hid hf
        clear ho hf hat)
      have hwr : wrap64 ((k : Int) + 1) = (k : Int) + 1 := by have := Hk.out.2; unfold wrap64; omega
      have ha : AR w xs (k + 1) v5 w5 := AR.step Hrow0.out Hall.out HA.out.1.2 (HG4.out.alloc _) (((Fr.refl w4 NoneS).alloc _).owns HO4.out (fun _ _ h => h)) HF5.out (by simpa [encS] using HO5.out)
      go_roundg (gk - 1)
      case measure => have := HK.out; have := Hk.out; omega
      case rel => exact ⟨k + 1, v5, rfl, by rw [hwr]; rfl, ⟨Hk.out.1, by have := HK.out; omega⟩, ha, ((HA.out.2.fr HG4.out (fun h => h)).alloc _).fr HF5.out (fun h => own_blk_ne Hrow.out ((HA.out.2.fr HG4.out (fun h => h)).alloc _) (by decide) h)⟩
    · have hkl : k = xs.length := by have := HK.out; omega
      subst hkl
      go_wp2_with fail
      go_ret
      obtain ⟨⟨svs, h1, h2⟩, h3⟩ := HA.out.1
      have hlen : svs.length = xs.length := by have := h1.1; omega
      refine ⟨_, svs, rfl, ⟨?_, by simp [hlen], fun i s l hs hl => ?_⟩, h3⟩
      · rw [← flat_encRow svs] at h1
        exact SL.of_own h1 hlen.symm
      · have h4 := h2 i s hs
        have hi := (List.getElem?_eq_some_iff.1 hs).1
        simp [show i < xs.length by omega] at hl
        subst hl
        exact SL.of_own h4 rfl
end Voc
end Go.Proofs.Ytdogccgebgdlmaa
