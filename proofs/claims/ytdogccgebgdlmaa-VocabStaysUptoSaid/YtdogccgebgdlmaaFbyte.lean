/- vocab: Byte, and the reference's. -/
import Derived.Test.YtdogccgebgdlmaaVGd
import Derived.Test.YtdogccgebgdlmaaFmay
set_option linter.unusedVariables false
set_option linter.unusedSimpArgs false
namespace Go.Proofs.Ytdogccgebgdlmaa
open Go.RowKit
namespace Voc
/-- the first piece that is this byte -/
def tokF (c : Int) : List Pc → Nat
  | [] => 0
  | q :: r => if q.j = false ∧ q.b = c then 0 else tokF c r + 1
/-- what Byte answers -/
def byteE (xs : List Pc) (c : Int) : Int × Int := if (checkE xs).1 = 0 then ((tokF c xs : Nat), 0) else (0, 11)
theorem tokF_at {c : Int} : ∀ (xs : List Pc) (i : Nat) (q : Pc), xs[i]? = some q → q.j = false → q.b = c → (∀ k, k < i → ∀ p, xs[k]? = some p → ¬ (p.j = false ∧ p.b = c)) → tokF c xs = i
  | [], i, q, h, _, _, _ => by simp at h
  | p :: r, 0, q, h, hj, hb, _ => by simp at h; subst h; simp [tokF, hj, hb]
  | p :: r, i + 1, q, h, hj, hb, hf => by
    have h0 := hf 0 (by omega) p rfl
    simp only [tokF]
    rw [if_neg h0, tokF_at r i q (by simpa using h) hj hb (fun k hk p' hp' => hf (k + 1) (by omega) p' (by simpa using hp'))]
theorem tokF_good {xs : List Pc} (H : Inv xs) {i : Nat} {q : Pc} {c : Int} (h : xs[i]? = some q) (hj : q.j = false) (hb : q.b = c) : tokF c xs = i :=
  tokF_at xs i q h hj hb (fun k hk p hp h' => (H.one k i p q hk hp h (h'.1.trans hj.symm)).1 hj (h'.2.trans hb.symm))
theorem look1_yes {w : World} {b : Nat} {l : List (Value × Value)} {P : Program} {t k e : TypeId} (h : MB w b l) (K : Maps.Keyed P k) (ht : P.underlying t = some (.map k e)) (hks : ∀ x ∈ l, ∃ lx, keyOf P k x.1 = some lx)
    {key v : Value} {kl : Lit} (hkey : keyOf P k key = some kl) (hin : (key, v) ∈ l) : ∃ v', (key, v') ∈ l ∧ (Instr.lookup t (.map (some b)) key false).run P w = .ok v' w := by
  rcases K.find w hkey (ents l).toList (MB.keys hks) with ⟨h1, h2⟩ | ⟨j, e0, h1, h2, h3⟩
  · obtain ⟨e0, he, hk⟩ := ents_has hin
    exact absurd hk (h2 e0 he)
  · refine ⟨e0.val, ?_, ?_⟩
    · rw [← h3]; exact ents_mem (List.mem_of_getElem? h2)
    · simp [Instr.lookup, run_underlying ht, MapKept.run_getObj_map h, K.check w _ hkey, h1, Result.andThen]
set_option maxRecDepth 20000 in
theorem byte_any {w : World} {v : Value} {xs : List Pc} (c : Int) (hc : (Lit.int .u8 c).wf = true) (HS : SL encP w v xs) (hw : ∀ q ∈ xs, wfP q) (hl : xs.length ≤ 1048576) :
    Calls Try.prog 28 #[.agg #[v], .int .u8 c] w fun e w' => e = .returned (.tuple #[.int .i64 (byteE xs c).1, .int .i64 (byteE xs c).2]) ∧ Gr w w' := by
  obtain ⟨⟨E, at_⟩, hE⟩ : ∃ x, checkE xs = x := ⟨_, rfl⟩
  obtain ⟨⟨r1, r2⟩, hr⟩ : ∃ x, byteE xs c = x := ⟨_, rfl⟩
  have Hgood := Lib.hid (fun h : E = 0 => good_of (xs := xs) (by rw [hE]; exact h))
  rw [hr]
  simp only
  unfold byteE at hr
  rw [hE] at hr
  simp only at hr
  obtain ⟨A, cap, rfl⟩ := SL.form HS
  have HG := Lib.hid ((Fr.refl w NoneS).alloc (.cells #[.slice A xs.length cap] 24))
  have HB := Lib.hid (Blk.new w 24 #[.slice A xs.length cap])
  have HL := Lib.hid (look_any (HS.gr HG.out) hw hl E at_ hE)
  have Hr := Lib.hid (show (E = 0 → r1 = (tokF c xs : Nat) ∧ r2 = 0) ∧ (E ≠ 0 → r1 = 0 ∧ r2 = 11) from ⟨fun h => by rw [if_pos h] at hr; injection hr with a b; exact ⟨a.symm, b.symm⟩, fun h => by rw [if_neg h] at hr; injection hr with a b; exact ⟨a.symm, b.symm⟩⟩)
  have Hc := Lib.hid hc
  have HW := Lib.hid hw
  clear HS hw hE hr hl hc
  go_enter Try.func28, Try.ntmps28
  generalize hx : World.alloc w (.cells #[.slice A xs.length cap] 24) = wa at HG HL HB
  have f0 : wa.cell? ⟨w.heap.size, 0, none⟩ = some (.slice A xs.length cap) := by rw [HB.out.cell]; rfl
  have HX := Lib.hid hx
  clear hx
  by_cases h0 : E = 0
  · subst h0
    go_upto_region 4 with (go_at_call 36; rw [HX.out]; refine HL.out.mono ?_; rintro e w3 ⟨hg, ⟨h0, rfl⟩ | ⟨h0, h1, p, rfl, hsn⟩⟩ <;> have HG3 := Lib.hid hg <;> clear hg)
    · exact absurd rfl h0
    clear HL
    obtain ⟨b1, b2, b3, sv, hsn⟩ := hsn
    have HSN := Lib.hid hsn
    obtain ⟨c0, c1, c2, c3⟩ := hsn.cells
    clear hsn
    obtain ⟨rfl, rfl⟩ := Hr.out.1 trivial
    have hgood := Hgood.out trivial
    have kb := Lib.hid (Maps.keyOf_int_mk Try.underlying5 Hc.out)
    have hlk : (Instr.lookup MT1 (.map (some b1)) (.int .u8 c) false).run Try.prog w3 = .ok (.int .i64 (tokF c xs : Nat)) w3 := by
      obtain ⟨i, q, hi, hj, hb⟩ := hgood.byte HW.out c (u8_in Hc.out).1 (u8_in Hc.out).2
      have hin := in_be hi hj
      rw [hb] at hin
      obtain ⟨v', hv', hrun⟩ := look1_yes HSN.out.m1 K1 Try.underlying66 (keys1 HW.out) kb.out hin
      obtain ⟨q', i', hi', hj', he'⟩ := mem_be hv'
      injection he' with h1 h2
      injection h1 with _ h1
      rw [hrun, h2, tokF_good hgood.inv hi' hj' h1.symm]
    clear hgood
    go_wp2_with fail
    go_ret2
    exact ⟨rfl, HG.out.trans HG3.out (fun _ _ h => h)⟩
  · have H0 := Lib.hid h0
    obtain ⟨rfl, rfl⟩ := Hr.out.2 h0
    have HL2 := Lib.hid (HL.out.mono fun e w' h => (show Gr _ w' ∧ e = .returned (.tuple #[.pointer none, .int .i64 E, .int .i64 at_]) from ⟨h.1, (h.2.resolve_right (fun h' => H0.out h'.1)).2⟩))
    have h1 : (E != 0) = true := bne_iff_ne.2 h0
    clear h0
    go_wp2_with (go_at_call 36; rw [HX.out]; refine HL2.out.mono ?_; rintro e w3 ⟨hg, rfl⟩; have HG3 := Lib.hid hg; clear hg)
    go_ret2
    exact ⟨rfl, HG.out.trans HG3.out (fun _ _ h => h)⟩
theorem tokF_lt {c : Int} : ∀ (xs : List Pc) (k : Nat) (q : Pc), k < tokF c xs → xs[k]? = some q → ¬ (q.j = false ∧ q.b = c)
  | [], k, q, h, hq => by simp at hq
  | p :: r, 0, q, h, hq => by
    simp at hq
    subst hq
    intro h'
    simp [tokF, h'.1, h'.2] at h
  | p :: r, k + 1, q, h, hq => by
    simp only [tokF] at h
    split at h
    · omega
    · exact tokF_lt r k q (by omega) (by simpa using hq)
set_option maxRecDepth 20000 in
set_option maxHeartbeats 1600000 in
theorem token_any {w : World} {v : Value} {xs : List Pc} (c : Int) (hc : (Lit.int .u8 c).wf = true) (HS : SL encP w v xs) (hw : ∀ q ∈ xs, wfP q) (hgood : Good xs) :
    Calls Try.prog 42 #[.agg #[v], .int .u8 c] w fun e w' => e = .returned (.int .i64 (tokF c xs : Nat)) ∧ Gr w w' := by
  obtain ⟨A, cap, rfl⟩ := SL.form HS
  have HG := Lib.hid ((Fr.refl w NoneS).alloc (.cells #[.slice A xs.length cap] 24))
  have HB := Lib.hid (Blk.new w 24 #[.slice A xs.length cap])
  have HS1 := Lib.hid HS
  have H4 := Lib.hid hgood.len
  obtain ⟨n, q0, hn, hj0, hb0⟩ := hgood.byte hw c (u8_in hc).1 (u8_in hc).2
  obtain rfl := tokF_good hgood.inv hn hj0 hb0
  have Hn := Lib.hid (And.intro (List.getElem?_eq_some_iff.1 hn).1 (And.intro hn (And.intro hj0 hb0)))
  have Hlt := Lib.hid (tokF_lt (c := c) xs)
  clear HS hw hc hgood hn hj0 hb0
  generalize tokF c xs = n at Hn Hlt ⊢
  go_enter Try.func42, Try.ntmps42
  go_upto_region 1 with (fail)
  generalize World.alloc w _ = w1 at HB HG ⊢
  obtain ⟨q, hq⟩ : ∃ q, w.heap.size = q := ⟨_, rfl⟩
  rw [hq] at HB ⊢
  clear hq
  have c0 : w1.cell? ⟨q, 0, none⟩ = some (.slice A xs.length cap) := by rw [HB.out.cell]; rfl
  have HSL := Lib.hid (HS1.out.gr HG.out)
  go_wp2_with fail
  go_loopg [5] (xs.length + 1) (fun m s5 wr => ∃ k : Nat, s5 = .int .i64 k ∧ wr = w1 ∧ Hid (k ≤ n ∧ xs.length - k < m))
  case atStart => exact ⟨0, rfl, rfl, Nat.zero_le _, by omega⟩
  case round =>
    obtain ⟨k, rfl, rfl, HK⟩ := hrel
    have hk : k < xs.length := by have := HK.out; have := Hn.out; omega
    obtain ⟨b1, o1, rfl, _, hc1⟩ := HSL.out.at_ (s := 5) (fun _ => rfl) rfl hk
    have x0 := hc1 0 (by omega)
    have x1 := hc1 1 (by omega)
    clear hc1
    have G1 := Lib.hid (List.getElem?_eq_getElem hk)
    generalize xs[k] = x at x0 x1 G1
    obtain ⟨j1, p1, l1, r1, k1⟩ := x
    simp [encP] at x0 x1
    rw [← Nat.add_assoc] at x1
    have hki : (k : Int) < xs.length := by omega
    have hk4 : (k : Int) ≤ 4096 := by have := H4.out; omega
    by_cases hkn : k < n
    · have hno := Hlt.out k _ hkn G1.out
      have Hkn := Lib.hid hkn
      clear hkn
      cases j1 with
      | true =>
        clear hno
        go_wp2_with fail
        go_roundg (gk - 1)
        case measure => have := HK.out; omega
        case rel => exact ⟨k + 1, by go_num, rfl, by have := Hkn.out; omega, by have := HK.out; omega⟩
      | false =>
        have hne : (p1 != c) = true := bne_iff_ne.2 (fun e => hno ⟨rfl, e⟩)
        clear hno
        go_wp2_with fail
        go_roundg (gk - 1)
        case measure => have := HK.out; omega
        case rel => exact ⟨k + 1, by go_num, rfl, by have := Hkn.out; omega, by have := HK.out; omega⟩
    · obtain rfl : k = n := by have := HK.out; omega
      have he := G1.out.symm.trans Hn.out.2.1
      injection he with he
      subst he
      obtain ⟨h1, h2⟩ := Hn.out.2.2
      simp only at h1 h2
      subst h1 h2
      have hne : (p1 != p1) = false := by simp
      clear hkn
      go_wp2_with fail
      go_ret
      exact ⟨rfl, HG.out⟩
set_option maxRecDepth 20000 in
theorem rbyte_any {w : World} {v : Value} {xs : List Pc} (c : Int) (hc : (Lit.int .u8 c).wf = true) (HS : SL encP w v xs) (hw : ∀ q ∈ xs, wfP q) (hl : xs.length ≤ 1048576) :
    Calls Try.prog 29 #[.agg #[v], .int .u8 c] w fun e w' => e = .returned (.tuple #[.int .i64 (byteE xs c).1, .int .i64 (byteE xs c).2]) ∧ Gr w w' := by
  obtain ⟨⟨r1, r2⟩, hr⟩ : ∃ x, byteE xs c = x := ⟨_, rfl⟩
  obtain ⟨b, hb⟩ : ∃ b, decide ((checkE xs).1 = 0) = b := ⟨_, rfl⟩
  have Hr := Lib.hid (show (b = true → r1 = (tokF c xs : Nat) ∧ r2 = 0) ∧ (b = false → r1 = 0 ∧ r2 = 11) from ⟨fun h => by rw [h] at hb; unfold byteE at hr; rw [if_pos (of_decide_eq_true hb)] at hr; injection hr with a b; exact ⟨a.symm, b.symm⟩, fun h => by rw [h] at hb; unfold byteE at hr; rw [if_neg (of_decide_eq_false hb)] at hr; injection hr with a b; exact ⟨a.symm, b.symm⟩⟩)
  have Hgood := Lib.hid (fun h : b = true => good_of (xs := xs) (by rw [h] at hb; exact of_decide_eq_true hb))
  rw [hr]
  simp only
  have HS1 := Lib.hid HS
  obtain ⟨A, cap, rfl⟩ := SL.form HS
  have HG := Lib.hid ((Fr.refl w NoneS).alloc (.cells #[.slice A xs.length cap] 24))
  have HB := Lib.hid (Blk.new w 24 #[.slice A xs.length cap])
  have HM := Lib.hid (may_any (HS.gr HG.out) hw hl b hb)
  have Hc := Lib.hid hc
  have HW := Lib.hid hw
  clear HS hw hr hl hc hb
  go_enter Try.func29, Try.ntmps29
  generalize hx : World.alloc w (.cells #[.slice A xs.length cap] 24) = wa at HG HM HB
  have f0 : wa.cell? ⟨w.heap.size, 0, none⟩ = some (.slice A xs.length cap) := by rw [HB.out.cell]; rfl
  have HX := Lib.hid hx
  clear hx
  cases b with
  | true =>
    obtain ⟨rfl, rfl⟩ := Hr.out.1 (by trivial)
    have hgood := Hgood.out (by trivial)
    have HT := Lib.hid (fun w3 (hg : Gr wa w3) => token_any c Hc.out ((HS1.out.gr HG.out).gr hg) HW.out hgood)
    clear hgood
    go_wp2_with (first
      | (go_at_call 32; rw [HX.out]; refine HM.out.mono ?_; rintro e w3 ⟨rfl, hg⟩; have HG3 := Lib.hid hg; have c3 := (HG3.out.cell (p := ⟨w.heap.size, 0, none⟩) HB.out.lt (fun h => h)).trans f0; clear hg)
      | (go_at_call 42; refine (HT.out w3 HG3.out).mono ?_; rintro e w4 ⟨rfl, hg⟩; have HG4 := Lib.hid hg; clear hg))
    go_ret2
    exact ⟨rfl, (HG.out.trans HG3.out (fun _ _ h => h)).trans HG4.out (fun _ _ h => h)⟩
  | false =>
    obtain ⟨rfl, rfl⟩ := Hr.out.2 (by trivial)
    go_wp2_with (go_at_call 32; rw [HX.out]; refine HM.out.mono ?_; rintro e w3 ⟨rfl, hg⟩; have HG3 := Lib.hid hg; clear hg)
    go_ret2
    exact ⟨rfl, HG.out.trans HG3.out (fun _ _ h => h)⟩
end Voc
end Go.Proofs.Ytdogccgebgdlmaa
