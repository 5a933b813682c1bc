/- model: Same, Find. -/
import Derived.Test.YtlodbhlidgepfaaMWd
set_option linter.unusedVariables false
set_option linter.unusedSimpArgs false
namespace Go.Proofs.Ytlodbhlidgepfaa
open Go.RowKit
open Voc Leb Bpe
namespace Mod
def sameE (s t : St) : Bool := decide (s.next = t.next) && (decide (s.voc = t.voc) && decide (s.docs = t.docs))
theorem sameE_self (s : St) : sameE s s = true := by simp [sameE]
theorem sameE_eq {s t : St} (h : sameE s t = true) : s = t := by
  obtain ⟨a, b, c⟩ := s
  obtain ⟨a', b', c'⟩ := t
  simp [sameE] at h
  obtain ⟨h1, h2, h3⟩ := h
  subst h1 h2 h3
  rfl
set_option maxRecDepth 20000 in
set_option maxHeartbeats 4000000 in
theorem sameD_any {w : World} {v1 v2 : Value} {x y : Dc} (ha : SL encB w v1 x.b) (hb : SL encB w v2 y.b) (hx : Leb.Bs x.b) (hy : Leb.Bs y.b) :
    Calls Try.prog 30 #[.agg #[.int .u64 x.id, v1], .agg #[.int .u64 y.id, v2]] w fun e w' => e = .returned (.bool (decide (x = y))) ∧ Gr w w' := by
  obtain ⟨A, ca, rfl⟩ := SL.form ha
  obtain ⟨A2, ca2, rfl⟩ := SL.form hb
  have HG := Lib.hid (((Fr.refl w NoneS).alloc (.cells #[.int .u64 x.id, .slice A x.b.length ca] TDoc)).alloc (.cells #[.int .u64 y.id, .slice A2 y.b.length ca2] TDoc))
  have HB1 := Lib.hid ((Blk.new w TDoc #[.int .u64 x.id, .slice A x.b.length ca]).alloc (.cells #[.int .u64 y.id, .slice A2 y.b.length ca2] TDoc))
  have HB2 := Lib.hid (Blk.new (w.alloc (.cells #[.int .u64 x.id, .slice A x.b.length ca] TDoc)) TDoc #[.int .u64 y.id, .slice A2 y.b.length ca2])
  have hsz : (w.alloc (.cells #[.int .u64 x.id, .slice A x.b.length ca] TDoc)).heap.size = w.heap.size + 1 := by simp
  rw [hsz] at HB2
  clear hsz
  have HE := Lib.hid (fun wx (hg : Gr w wx) => equalB_any (ha.gr hg) (hb.gr hg) hx hy)
  obtain ⟨R, hR⟩ : ∃ R, decide (x = y) = R := ⟨_, rfl⟩
  rw [hR]
  have HR := Lib.hid (show R = (decide (x.id = y.id) && decide (x.b = y.b)) by
    rw [← hR]
    obtain ⟨i, b⟩ := x
    obtain ⟨i', b'⟩ := y
    simp)
  clear ha hb hx hy hR
  obtain ⟨q, hq⟩ : ∃ q, w.heap.size = q := ⟨_, rfl⟩
  rw [hq] at HB1 HB2
  obtain ⟨q1, hq1⟩ : ∃ q', q + 1 = q' := ⟨_, rfl⟩
  rw [hq1] at HB2
  go_enter Try.func30, Try.ntmps30
  go_upto_region 1 with (fail)
  clear hq hq1
  change Code.wp _ _ _ _ ((w.alloc (.cells #[.int .u64 x.id, .slice A x.b.length ca] TDoc)).alloc (.cells #[.int .u64 y.id, .slice A2 y.b.length ca2] TDoc))
  generalize World.alloc (World.alloc w _) _ = w1 at HG HB1 HB2 ⊢
  have c0 : w1.cell? ⟨q, 0, none⟩ = some (.int .u64 x.id) := by rw [HB1.out.cell]; rfl
  have c1 : w1.cell? ⟨q, 1, none⟩ = some (.slice A x.b.length ca) := by rw [HB1.out.cell]; rfl
  have d0 : w1.cell? ⟨q1, 0, none⟩ = some (.int .u64 y.id) := by rw [HB2.out.cell]; rfl
  have d1 : w1.cell? ⟨q1, 1, none⟩ = some (.slice A2 y.b.length ca2) := by rw [HB2.out.cell]; rfl
  by_cases hid : x.id = y.id
  · have h1 : (x.id == y.id) = true := by rw [hid]; exact beq_self_eq_true _
    have Hr := Lib.hid (show decide (x.b = y.b) = R by rw [HR.out, decide_eq_true hid]; rfl)
    rw [Hr.out] at HE
    clear hid
    go_wp2_with (go_at_call 31; refine (HE.out _ HG.out).mono ?_; rintro e w2 ⟨rfl, hg⟩; have HG2 := Lib.hid (HG.out.trans hg (fun _ _ h => h)); clear hg)
    go_ret
    exact ⟨rfl, HG2.out⟩
  · have h1 : (x.id == y.id) = false := beq_eq_false_iff_ne.2 hid
    have Hr := Lib.hid (show R = false by rw [HR.out, decide_eq_false hid]; rfl)
    clear hid
    go_wp2_with fail
    go_ret
    rw [Hr.out]
    exact ⟨rfl, HG.out⟩
set_option maxRecDepth 20000 in
set_option maxHeartbeats 8000000 in
theorem equalD_any {B B2 : Nat → Prop} {w : World} {dv ev : Value} {xs ys : List Dc} (ha : ∃ D, SL encD w dv D ∧ Al (RDR B w) D xs) (hb : ∃ D, SL encD w ev D ∧ Al (RDR B2 w) D ys) (hx : ∀ d ∈ xs, wfD d) (hy : ∀ d ∈ ys, wfD d) (hl : xs.length ≤ 4194304) :
    Calls Try.prog 29 #[dv, ev, .func (.func 30) #[] #[]] w fun e w' => e = .returned (.bool (decide (xs = ys))) ∧ Gr w w' := by
  obtain ⟨D1, hd1, ha1⟩ := ha
  obtain ⟨D2, hd2, ha2⟩ := hb
  have HA := Lib.hid (And.intro hd1 ha1)
  have HB := Lib.hid (And.intro hd2 ha2)
  have HX := Lib.hid (And.intro hx hy)
  obtain ⟨A, ca, rfl⟩ := SL.form hd1
  obtain ⟨A2, ca2, rfl⟩ := SL.form hd2
  have hl1 := ha1.len
  have hl2 := ha2.len
  rw [hl1] at HA ⊢
  rw [hl2] at HB ⊢
  obtain ⟨R, hR⟩ : ∃ R, decide (xs = ys) = R := ⟨_, rfl⟩
  rw [hR]
  have HR := Lib.hid hR
  have hli : (xs.length : Int) ≤ 4194304 := by omega
  clear hd1 ha1 hd2 ha2 hx hy hl1 hl2 hR
  by_cases hlen : xs.length = ys.length
  case neg =>
    have hn1 : ((xs.length : Int) != (ys.length : Int)) = true := by rw [bne_iff_ne]; omega
    have Hf := Lib.hid (show R = false by rw [← HR.out]; exact decide_eq_false (fun h => hlen (by rw [h])))
    clear hlen
    go_enter Try.func29, Try.ntmps29
    go_wp2_with fail
    go_ret
    rw [Hf.out]
    exact ⟨rfl, Fr.refl _ _⟩
  have hn1 : ((xs.length : Int) != (ys.length : Int)) = false := by rw [bne_eq_false_iff_eq]; omega
  have Hlen := Lib.hid hlen
  clear hlen
  go_enter Try.func29, Try.ntmps29
  go_wp2_with fail
  go_loopg [6, 17] (xs.length + 1) (fun m s6 s17 wr => ∃ k : Nat, s6 = .bool false ∧ s17 = .int .i64 k ∧ Hid (k ≤ xs.length ∧ xs.length - k < m ∧ xs.take k = ys.take k) ∧ Hid (Gr w wr))
  case atStart => exact ⟨0, rfl, rfl, ⟨Nat.zero_le _, by omega, rfl⟩, Fr.refl _ _⟩
  case round =>
    obtain ⟨k, rfl, rfl, HK, HD⟩ := hrel
    by_cases hk : k < xs.length
    · have hk2 : k < ys.length := by have := Hlen.out; omega
      have al1 : Al (RDR B wr) D1 xs := HA.out.2.imp fun a c h => ⟨h.1, h.2.1.gr HD.out, h.2.2⟩
      have al2 : Al (RDR B2 wr) D2 ys := HB.out.2.imp fun a c h => ⟨h.1, h.2.1.gr HD.out, h.2.2⟩
      obtain ⟨b1, o1, A3, c3, e, hb1, x0, x1, xs1, _⟩ := doc_at (HA.out.1.gr HD.out) al1 hk
      subst e
      obtain ⟨b2, o2, A4, c4, e, hb2, y0, y1, ys1, _⟩ := doc_at (HB.out.1.gr HD.out) al2 hk2
      subst e
      have hki : (k : Int) < (xs.length : Int) := by omega
      have hki2 : (k : Int) < (ys.length : Int) := by omega
      have Htx := Lib.hid (List.take_succ_eq_append_getElem hk)
      have Hty := Lib.hid (List.take_succ_eq_append_getElem hk2)
      have Hw1 := Lib.hid (HX.out.1 _ (List.getElem_mem hk))
      have Hw2 := Lib.hid (HX.out.2 _ (List.getElem_mem hk2))
      have Hne := Lib.hid (show xs[k]'hk ≠ ys[k]'hk2 → R = false from fun h => by
        rw [← HR.out]
        refine decide_eq_false (fun he => h ?_)
        subst he
        rfl)
      rw [getD_get _ _ _ hk] at x0 x1 xs1
      rw [getD_get _ _ _ hk2] at y0 y1 ys1
      generalize xs[k]'hk = x at x0 x1 xs1 Htx Hne Hw1
      generalize ys[k]'hk2 = y at y0 y1 ys1 Hty Hne Hw2
      have HS := Lib.hid (fun wx (hg : Gr wr wx) => sameD_any (x := x) (y := y) (xs1.gr hg) (ys1.gr hg) Hw1.out.2.1 Hw2.out.2.1)
      have Hk := Lib.hid hk
      have lb2 : b2 < wr.heap.size := hb2
      clear hk hk2 xs1 ys1 al1 al2 hb1
      go_upto_region 7 with (fail)
      have HDa := Lib.hid (((Fr.refl wr NoneS).alloc (.cells #[.int .u64 x.id, .slice A3 x.b.length c3] TDoc)).alloc (.cells #[.int .u64 y.id, .slice A4 y.b.length c4] TDoc))
      have HB1 := Lib.hid ((Blk.new wr TDoc #[.int .u64 x.id, .slice A3 x.b.length c3]).alloc (.cells #[.int .u64 y.id, .slice A4 y.b.length c4] TDoc))
      have HB2 := Lib.hid (Blk.new (wr.alloc (.cells #[.int .u64 x.id, .slice A3 x.b.length c3] TDoc)) TDoc #[.int .u64 y.id, .slice A4 y.b.length c4])
      have hsz : (wr.alloc (.cells #[.int .u64 x.id, .slice A3 x.b.length c3] TDoc)).heap.size = wr.heap.size + 1 := by simp
      rw [hsz] at HB2
      clear hsz x0 x1 y0 y1 lb2 hb2
      change Code.wp _ _ _ _ ((wr.alloc (.cells #[.int .u64 x.id, .slice A3 x.b.length c3] TDoc)).alloc (.cells #[.int .u64 y.id, .slice A4 y.b.length c4] TDoc))
      generalize wr.heap.size + 1 = g2 at HB2 ⊢
      generalize wr.heap.size = g1 at HB1 ⊢
      generalize World.alloc (World.alloc wr _) _ = w5 at HDa HB1 HB2 ⊢
      have f0 : w5.cell? ⟨g1, 0, none⟩ = some (.int .u64 x.id) := by rw [HB1.out.cell]; rfl
      have f1 : w5.cell? ⟨g1, 1, none⟩ = some (.slice A3 x.b.length c3) := by rw [HB1.out.cell]; rfl
      have f2 : w5.cell? ⟨g2, 0, none⟩ = some (.int .u64 y.id) := by rw [HB2.out.cell]; rfl
      have f3 : w5.cell? ⟨g2, 1, none⟩ = some (.slice A4 y.b.length c4) := by rw [HB2.out.cell]; rfl
      by_cases hxy : x = y
      · rw [decide_eq_true hxy] at HS
        have Hxy := Lib.hid hxy
        clear hxy
        go_wp2_with (go_at_call 30; refine (HS.out _ HDa.out).mono ?_; rintro e w6 ⟨rfl, hg⟩; have HD6 := Lib.hid (HD.out.trans (HDa.out.trans hg (fun _ _ h => h)) (fun _ _ h => h)); clear hg)
        go_roundg (gk - 1)
        case measure => have := HK.out; have := Hk.out; omega
        case rel => exact ⟨k + 1, rfl, by go_num, ⟨Hk.out, by have := HK.out; have := Hk.out; omega, by rw [Htx.out, Hty.out, HK.out.2.2, Hxy.out]⟩, HD6.out⟩
      · rw [decide_eq_false hxy] at HS
        have Hf := Lib.hid (Hne.out hxy)
        clear hxy
        go_wp2_with (go_at_call 30; refine (HS.out _ HDa.out).mono ?_; rintro e w6 ⟨rfl, hg⟩; have HD6 := Lib.hid (HD.out.trans (HDa.out.trans hg (fun _ _ h => h)) (fun _ _ h => h)); clear hg)
        go_ret
        rw [Hf.out]
        exact ⟨rfl, HD6.out⟩
    · have Ht := Lib.hid (show R = true by
        rw [← HR.out]
        refine decide_eq_true ?_
        have h1 := HK.out.2.2
        rw [List.take_of_length_le (by omega), List.take_of_length_le (by have := Hlen.out; omega)] at h1
        exact h1)
      go_wp2_with fail
      go_ret
      rw [Ht.out]
      exact ⟨rfl, HD.out⟩
set_option maxRecDepth 20000 in
set_option maxHeartbeats 4000000 in
theorem sameM_any {B B2 : Nat → Prop} {w : World} {dv pv ev qv : Value} {s t : St} (HA : RS B w dv pv s) (HB : RS B2 w ev qv t) (hs : wfS s) (ht : wfS t) :
    Calls Try.prog 9 #[.agg (stA dv pv s.next), .agg (stA ev qv t.next)] w fun e w' => e = .returned (.bool (sameE s t)) ∧ Gr w w' := by
  have HP := Lib.hid (fun wx (hg : Gr w wx) => equalP_any _ _ _ _ wx (HA.voc.gr hg) (HB.voc.gr hg) (by have := hs.nv; omega))
  have HD := Lib.hid (fun wx (hg : Gr w wx) => equalD_any (HA.gr hg).ex (HB.gr hg).ex hs.docs ht.docs (by have := hs.nd; omega))
  obtain ⟨⟨A, ca, rfl⟩, A2, ca2, rfl⟩ := HA.form
  obtain ⟨⟨A3, ca3, rfl⟩, A4, ca4, rfl⟩ := HB.form
  have HG := Lib.hid (((Fr.refl w NoneS).alloc (.cells (stA (.slice A s.docs.length ca) (.slice A2 s.voc.length ca2) s.next) TSt)).alloc (.cells (stA (.slice A3 t.docs.length ca3) (.slice A4 t.voc.length ca4) t.next) TSt))
  have HB1 := Lib.hid ((Blk.new w TSt (stA (.slice A s.docs.length ca) (.slice A2 s.voc.length ca2) s.next)).alloc (.cells (stA (.slice A3 t.docs.length ca3) (.slice A4 t.voc.length ca4) t.next) TSt))
  have HB2 := Lib.hid (Blk.new (w.alloc (.cells (stA (.slice A s.docs.length ca) (.slice A2 s.voc.length ca2) s.next) TSt)) TSt (stA (.slice A3 t.docs.length ca3) (.slice A4 t.voc.length ca4) t.next))
  have hsz : (w.alloc (.cells (stA (.slice A s.docs.length ca) (.slice A2 s.voc.length ca2) s.next) TSt)).heap.size = w.heap.size + 1 := by simp
  rw [hsz] at HB2
  obtain ⟨R, hR⟩ : ∃ R, sameE s t = R := ⟨_, rfl⟩
  rw [hR]
  have HR := Lib.hid (show R = (decide (s.next = t.next) && (decide (s.voc = t.voc) && decide (s.docs = t.docs))) by rw [← hR]; rfl)
  clear HA HB hs ht hsz hR
  obtain ⟨q, hq⟩ : ∃ q, w.heap.size = q := ⟨_, rfl⟩
  rw [hq] at HB1 HB2
  obtain ⟨q1, hq1⟩ : ∃ q', q + 1 = q' := ⟨_, rfl⟩
  rw [hq1] at HB2
  unfold stA
  go_enter Try.func9, Try.ntmps9
  go_upto_region 1 with (fail)
  clear hq hq1
  change Code.wp _ _ _ _ ((w.alloc (.cells (stA (.slice A s.docs.length ca) (.slice A2 s.voc.length ca2) s.next) TSt)).alloc (.cells (stA (.slice A3 t.docs.length ca3) (.slice A4 t.voc.length ca4) t.next) TSt))
  generalize World.alloc (World.alloc w _) _ = w1 at HG HB1 HB2 ⊢
  have c0 : w1.cell? ⟨q, 0, none⟩ = some (.slice A s.docs.length ca) := by rw [HB1.out.cell]; rfl
  have c1 : w1.cell? ⟨q, 1, none⟩ = some (.int .u64 s.next) := by rw [HB1.out.cell]; rfl
  have c2 : w1.cell? ⟨q, 2, none⟩ = some (.slice A2 s.voc.length ca2) := by rw [HB1.out.cell]; rfl
  have d0 : w1.cell? ⟨q1, 0, none⟩ = some (.slice A3 t.docs.length ca3) := by rw [HB2.out.cell]; rfl
  have d1 : w1.cell? ⟨q1, 1, none⟩ = some (.int .u64 t.next) := by rw [HB2.out.cell]; rfl
  have d2 : w1.cell? ⟨q1, 2, none⟩ = some (.slice A4 t.voc.length ca4) := by rw [HB2.out.cell]; rfl
  by_cases hn : s.next = t.next
  case neg =>
    have h1 : (s.next == t.next) = false := beq_eq_false_iff_ne.2 hn
    have Hr := Lib.hid (show R = false by rw [HR.out, decide_eq_false hn]; rfl)
    clear hn
    go_wp2_with fail
    go_ret
    rw [Hr.out]
    exact ⟨rfl, HG.out⟩
  have h1 : (s.next == t.next) = true := by rw [hn]; exact beq_self_eq_true _
  have Hr := Lib.hid (show R = (decide (s.voc = t.voc) && decide (s.docs = t.docs)) by rw [HR.out, decide_eq_true hn]; rfl)
  clear hn HR
  cases hv : decide (s.voc = t.voc) with
  | false =>
    rw [hv] at HP
    have Hr2 := Lib.hid (show R = false by rw [Hr.out, hv]; rfl)
    clear hv
    go_wp2_with (go_at_call 28; refine (HP.out _ HG.out).mono ?_; rintro e w2 ⟨rfl, hg⟩; have HG2 := Lib.hid (HG.out.trans hg (fun _ _ h => h)); clear hg)
    go_ret
    rw [Hr2.out]
    exact ⟨rfl, HG2.out⟩
  | true =>
    rw [hv] at HP
    have Hr2 := Lib.hid (show decide (s.docs = t.docs) = R by rw [Hr.out, hv]; rfl)
    rw [Hr2.out] at HD
    clear hv
    go_wp2_with (first
      | (go_at_call 28; refine (HP.out _ HG.out).mono ?_; rintro e w2 ⟨rfl, hg⟩; have HG2 := Lib.hid (HG.out.trans hg (fun _ _ h => h)); have HC1 := Lib.hid (HB1.out.fr hg (fun h => h)); have HC2 := Lib.hid (HB2.out.fr hg (fun h => h))
         have e0 : w2.cell? ⟨q, 0, none⟩ = some (.slice A s.docs.length ca) := by rw [HC1.out.cell]; rfl
         have e1 : w2.cell? ⟨q1, 0, none⟩ = some (.slice A3 t.docs.length ca3) := by rw [HC2.out.cell]; rfl
         clear hg)
      | (go_at_call 29; refine (HD.out _ HG2.out).mono ?_; rintro e w3 ⟨rfl, hg⟩; have HG3 := Lib.hid (HG2.out.trans hg (fun _ _ h => h)); clear hg))
    go_ret
    exact ⟨rfl, HG3.out⟩
/-- the first document of an Id -/
def fndE (ds : List Dc) (id : Int) : Dc × Bool := match ds.find? (fun d => decide (d.id = id)) with
  | some d => (⟨id, d.b⟩, true)
  | none => (⟨0, []⟩, false)
theorem fndE_at {ds : List Dc} {id : Int} {k : Nat} (hk : k < ds.length) (h : ∀ i, i < k → (ds.getD i ⟨0, []⟩).id ≠ id) (h1 : (ds.getD k ⟨0, []⟩).id = id) : fndE ds id = (⟨id, (ds.getD k ⟨0, []⟩).b⟩, true) := by
  have hf : ds.find? (fun d => decide (d.id = id)) = some (ds[k]) := by
    rw [List.find?_eq_some_iff_getElem]
    rw [getD_get _ _ _ hk] at h1
    refine ⟨decide_eq_true h1, k, hk, rfl, fun j hj => ?_⟩
    have := h j hj
    rw [getD_get _ _ _ (by omega)] at this
    simp [this]
  unfold fndE
  rw [hf, getD_get _ _ _ hk]
theorem fndE_no {ds : List Dc} {id : Int} (h : ∀ i, i < ds.length → (ds.getD i ⟨0, []⟩).id ≠ id) : fndE ds id = (⟨0, []⟩, false) := by
  have hf : ds.find? (fun d => decide (d.id = id)) = none := by
    rw [List.find?_eq_none]
    intro d hd
    obtain ⟨i, hi, rfl⟩ := List.getElem_of_mem hd
    have := h i hi
    rw [getD_get _ _ _ hi] at this
    simp [this]
  unfold fndE
  rw [hf]
def dcA (d : Dc) (bv : Value) : Array Value := #[.int .u64 d.id, bv]
theorem results_ctM {P : Program} {fn : Func} {p q : Tmp} {ty : TypeId} (h : fn.results = #[.cell p ty, .tmp q]) (tmps : Array Value) (w : World) (g : Nat) (t : TypeId) (cs : Array Value) (fr : Nat × Nat) (d : TypeDesc) (u : Value)
    (hp : tmps.getD p undef = .pointer (some ⟨g, 0, none⟩)) (hq : tmps.getD q undef = u) (hg : w.heap[g]? = some (.cells cs t fr))
    (hu : P.underlying ty = some d) (hd : (match d with | .struct _ | .array _ _ => true | _ => false) = true) (hi : (P.info? ty).map (·.size) = some cs.size) :
    (results fn tmps).run P w = .ok (.tuple #[.agg cs, u]) w := by
  have hp' : tmps[p]?.getD undef = .pointer (some ⟨g, 0, none⟩) := by simpa using hp
  have hq' : tmps[q]?.getD undef = u := by simpa using hq
  simp [results, h, hp', hq', asAddr, run_loadVar_row w g t ty cs fr d hg hu hd hi]
set_option maxRecDepth 20000 in
set_option maxHeartbeats 4000000 in
theorem findM_any {B : Nat → Prop} {w : World} {dv pv : Value} {s : St} (HR : RS B w dv pv s) (hw : wfS s) (id : Int) :
    Calls Try.prog 12 #[.agg (stA dv pv s.next), .int .u64 id] w fun e w' => ∃ bv, e = .returned (.tuple #[.agg (dcA (fndE s.docs id).1 bv), .bool (fndE s.docs id).2]) ∧ SL encB w' bv (fndE s.docs id).1.b ∧ Gr w w' := by
  obtain ⟨⟨A, ca, rfl⟩, A2, ca2, rfl⟩ := HR.form
  have HS := Lib.hid HR
  have HW := Lib.hid hw
  have HG := Lib.hid (((Fr.refl w NoneS).alloc (.cells (stA (.slice A s.docs.length ca) (.slice A2 s.voc.length ca2) s.next) TSt)).alloc (.cells (dcA ⟨0, []⟩ nilV) TDoc))
  have HB := Lib.hid ((Blk.new w TSt (stA (.slice A s.docs.length ca) (.slice A2 s.voc.length ca2) s.next)).alloc (.cells (dcA ⟨0, []⟩ nilV) TDoc))
  have HB2 := Lib.hid (Blk.new (w.alloc (.cells (stA (.slice A s.docs.length ca) (.slice A2 s.voc.length ca2) s.next) TSt)) TDoc (dcA ⟨0, []⟩ nilV))
  have hsz : (w.alloc (.cells (stA (.slice A s.docs.length ca) (.slice A2 s.voc.length ca2) s.next) TSt)).heap.size = w.heap.size + 1 := by simp
  rw [hsz] at HB2
  have hnd : (s.docs.length : Int) ≤ 1048000 := by have := hw.nd; omega
  have Hat := Lib.hid (fun k hk h1 h2 => fndE_at (ds := s.docs) (id := id) (k := k) hk h1 h2)
  have Hno := Lib.hid (fun h => fndE_no (ds := s.docs) (id := id) h)
  generalize fndE s.docs id = R at Hat Hno ⊢
  clear HR hw hsz
  obtain ⟨q, hq⟩ : ∃ q, w.heap.size = q := ⟨_, rfl⟩
  rw [hq] at HB HB2
  obtain ⟨q1, hq1⟩ : ∃ q', q + 1 = q' := ⟨_, rfl⟩
  rw [hq1] at HB2
  have Hq := Lib.hid (And.intro hq hq1)
  unfold stA
  go_enter Try.func12, Try.ntmps12
  go_upto_region 1 with (fail)
  clear hq hq1
  change Code.wp _ _ _ _ ((w.alloc (.cells (stA (.slice A s.docs.length ca) (.slice A2 s.voc.length ca2) s.next) TSt)).alloc (.cells (dcA ⟨0, []⟩ nilV) TDoc))
  generalize World.alloc (World.alloc w _) _ = w1 at HG HB HB2 ⊢
  have c0 : w1.cell? ⟨q, 0, none⟩ = some (.slice A s.docs.length ca) := by rw [HB.out.cell]; rfl
  go_wp2_with fail
  go_loopg [5, 11] (s.docs.length + 1) (fun m s5 s11 wr => ∃ k : Nat, s5 = .bool false ∧ s11 = .int .i64 k ∧ Hid (k ≤ s.docs.length ∧ s.docs.length - k < m ∧ ∀ i, i < k → (s.docs.getD i ⟨0, []⟩).id ≠ id) ∧ Hid (Gr w1 wr))
  case atStart => exact ⟨0, rfl, rfl, ⟨Nat.zero_le _, by omega, fun i hi => by omega⟩, Fr.refl _ _⟩
  case round =>
    obtain ⟨k, rfl, rfl, HK, HD⟩ := hrel
    have HRr := Lib.hid (HS.out.gr (HG.out.trans HD.out (fun _ _ h => h)))
    have HBr := Lib.hid (HB2.out.fr HD.out (fun h => h))
    by_cases hk : k < s.docs.length
    · obtain ⟨D, hd, ha⟩ := HRr.out.ex
      obtain ⟨b1, o1, A3, c3, e, hb1, x0, x1, xs1, _⟩ := doc_at hd ha hk
      subst e
      have hki : (k : Int) < (s.docs.length : Int) := by omega
      have Hwd := Lib.hid (show wfD (s.docs.getD k ⟨0, []⟩) by rw [getD_get _ _ _ hk]; exact HW.out.docs _ (List.getElem_mem hk))
      have Hk := Lib.hid hk
      clear hd ha hb1
      by_cases hx : (s.docs.getD k ⟨0, []⟩).id = id
      · have Hr := Lib.hid (Hat.out k Hk.out HK.out.2.2 hx)
        have hx1 : ((s.docs.getD k ⟨0, []⟩).id == id) = true := by rw [hx]; exact beq_self_eq_true _
        clear hx hk
        generalize s.docs.getD k ⟨0, []⟩ = dd at x0 x1 xs1 Hwd Hr hx1
        have HC := Lib.hid (cloneB_any (xs1.gr ((Fr.refl wr NoneS).alloc (.cells #[.int .u64 dd.id, .slice A3 dd.b.length c3] TDoc))) (by have := Hwd.out.2.2; omega))
        have HDa := Lib.hid (HD.out.alloc (.cells #[.int .u64 dd.id, .slice A3 dd.b.length c3] TDoc))
        have HBa := Lib.hid (Blk.new wr TDoc #[.int .u64 dd.id, .slice A3 dd.b.length c3])
        have HBr2 := Lib.hid (HBr.out.alloc (.cells #[.int .u64 dd.id, .slice A3 dd.b.length c3] TDoc))
        clear xs1
        go_upto_region 4 with (fail)
        change Code.wp _ _ _ _ (wr.alloc (.cells #[.int .u64 dd.id, .slice A3 dd.b.length c3] TDoc))
        generalize wr.heap.size = ob at HBa ⊢
        generalize hx : wr.alloc (.cells #[.int .u64 dd.id, .slice A3 dd.b.length c3] TDoc) = wa at HC HDa HBa HBr2 ⊢
        clear hx x0 x1
        have g0 : wa.cell? ⟨ob, 0, none⟩ = some (.int .u64 dd.id) := by rw [HBa.out.cell]; rfl
        have g1 : wa.cell? ⟨ob, 1, none⟩ = some (.slice A3 dd.b.length c3) := by rw [HBa.out.cell]; rfl
        go_wp2_with (first
          | (go_at_call 25; refine HC.out.mono ?_; rintro e w5 ⟨bv, rfl, ho, hg⟩; obtain ⟨Av, cv, rfl⟩ := own_formN ho.own; have HO5 := Lib.hid ho; have HD5 := Lib.hid (HDa.out.trans hg (fun _ _ h => h)); have HB5 := Lib.hid (HBr2.out.fr hg (fun h => h)); clear ho hg)
          | refine wpList_store_row rfl _ _ _ rfl q1 (dcA ⟨id, dd.b⟩ (.slice Av dd.b.length cv)) rfl rfl TDoc _ HB5.out (by kernel_rfl) (by kernel_rfl) (by kernel_rfl) ?_)
        refine bodyPost_ret (results_ctM Try.results12 _ _ q1 _ (dcA ⟨id, dd.b⟩ (.slice Av dd.b.length cv)) (0, 0) _ (.bool true) rfl rfl (Sha.blk_setRow HB5.out _) Try.underlying45 rfl (by kernel_rfl)) rfl ?_
        rw [Hr.out]
        refine ⟨_, rfl, (HO5.out.fr (Sha.fr_setRow (S := fun k => k = q1) (Fr.refl w5 _) (fun _ => rfl) _) (fun k hk e => by have h1 := (HO5.out.own.lt k hk).1; have h2 := HBr2.out.lt; omega)).sl, Sha.fr_setRow (HG.out.trans HD5.out (fun _ _ h => h)) (fun h => by have := Hq.out; omega) _⟩
      · have hx1 : ((s.docs.getD k ⟨0, []⟩).id == id) = false := beq_eq_false_iff_ne.2 hx
        have Hx := Lib.hid hx
        clear hx hk
        obtain ⟨dd, hdd⟩ : ∃ dd, s.docs.getD k ⟨0, []⟩ = dd := ⟨_, rfl⟩
        have Hdd := Lib.hid hdd
        rw [hdd] at x0 x1 hx1
        clear hdd xs1
        go_upto_region 4 with (fail)
        have HDa := Lib.hid (HD.out.alloc (.cells #[.int .u64 dd.id, .slice A3 dd.b.length c3] TDoc))
        have HBa := Lib.hid (Blk.new wr TDoc #[.int .u64 dd.id, .slice A3 dd.b.length c3])
        change Code.wp _ _ _ _ (wr.alloc (.cells #[.int .u64 dd.id, .slice A3 dd.b.length c3] TDoc))
        generalize wr.heap.size = ob at HBa ⊢
        generalize hx : wr.alloc (.cells #[.int .u64 dd.id, .slice A3 dd.b.length c3] TDoc) = wa at HDa HBa ⊢
        clear hx x0 x1
        have g0 : wa.cell? ⟨ob, 0, none⟩ = some (.int .u64 dd.id) := by rw [HBa.out.cell]; rfl
        go_wp2_with fail
        go_roundg (gk - 1)
        case measure => have := HK.out; have := Hk.out; omega
        case rel => exact ⟨k + 1, rfl, by go_num, ⟨Hk.out, by have := HK.out; have := Hk.out; omega, fun i hi => by
          rcases Nat.lt_or_ge i k with h | h
          · exact HK.out.2.2 i h
          · obtain rfl : i = k := by omega
            exact Hx.out⟩, HDa.out⟩
    · have Hr := Lib.hid (Hno.out (fun i hi => HK.out.2.2 i (by omega)))
      go_wp2_with (first
        | refine Sha.wpList_build_to rfl TDoc _ rfl (dcA ⟨0, []⟩ nilV) (by kernel_rfl) ?_
        | refine wpList_store_row rfl _ _ _ rfl q1 (dcA ⟨0, []⟩ nilV) rfl rfl TDoc _ HBr.out (by kernel_rfl) (by kernel_rfl) (by kernel_rfl) ?_)
      refine bodyPost_ret (results_ctM Try.results12 _ _ q1 _ (dcA ⟨0, []⟩ nilV) (0, 0) _ (.bool false) rfl rfl (Sha.blk_setRow HBr.out _) Try.underlying45 rfl (by kernel_rfl)) rfl ?_
      rw [Hr.out]
      exact ⟨_, rfl, SL.nil _, Sha.fr_setRow (HG.out.trans HD.out (fun _ _ h => h)) (fun h => by have := Hq.out; omega) _⟩
end Mod
end Go.Proofs.Ytlodbhlidgepfaa
