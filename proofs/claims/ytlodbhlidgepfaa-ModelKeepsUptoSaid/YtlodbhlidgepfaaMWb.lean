/- model: May. -/
import Derived.Test.YtlodbhlidgepfaaMWa
import Derived.BigQuiet
set_option linter.unusedVariables false
set_option linter.unusedSimpArgs false
namespace Go.Proofs.Ytlodbhlidgepfaa
open Go.RowKit
open Voc Leb Bpe
namespace Mod
theorem okTo_succ {nx : Int} {ds : List Dc} {k : Nat} (h : okTo nx ds k) (h1 : okAt nx ds k = true) : okTo nx ds (k + 1) := fun i hi => by
  rcases Nat.lt_or_ge i k with h2 | h2
  · exact h i h2
  · obtain rfl : i = k := by omega
    exact h1
theorem may_no {s : St} {k : Nat} (hk : k < s.docs.length) (h1 : okAt s.next s.docs k = false) : mayB s = false := by
  cases h : mayB s with
  | false => rfl
  | true => have := (may_parts h).2.1 k hk; rw [h1] at this; cases this
theorem ok_no {nx : Int} {ds : List Dc} {i : Nat} (h : ¬ (1 ≤ (ds.getD i ⟨0, []⟩).id ∧ (ds.getD i ⟨0, []⟩).id < nx ∧ (i = 0 ∨ (ds.getD (i - 1) ⟨0, []⟩).id < (ds.getD i ⟨0, []⟩).id) ∧ (ds.getD i ⟨0, []⟩).b.length ≤ 4096)) : okAt nx ds i = false := by
  cases h1 : okAt nx ds i with
  | false => rfl
  | true => exact absurd (ok_parts h1) h
/-- document k, as it is read -/
theorem doc_at {B : Nat → Prop} {w : World} {A : Option Addr} {n cap : Nat} {D : List (Int × Sv)} {ds : List Dc} (hd : SL encD w (.slice A n cap) D) (ha : Al (RDR B w) D ds) {k : Nat} (hk : k < ds.length) :
    ∃ b off A2 c2, A = some ⟨b, off, none⟩ ∧ b < w.heap.size ∧ w.cell? ⟨b, off + k * 2, none⟩ = some (.int .u64 (ds.getD k ⟨0, []⟩).id) ∧ w.cell? ⟨b, off + k * 2 + 1, none⟩ = some (.slice A2 (ds.getD k ⟨0, []⟩).b.length c2) ∧
      SL encB w (.slice A2 (ds.getD k ⟨0, []⟩).b.length c2) (ds.getD k ⟨0, []⟩).b ∧ SB B (.slice A2 (ds.getD k ⟨0, []⟩).b.length c2) (ds.getD k ⟨0, []⟩).b.length := by
  have hkD : k < D.length := by rw [ha.len]; exact hk
  obtain ⟨b, off, rfl, hb, hc⟩ := hd.at_ (s := 2) (fun _ => rfl) rfl hkD
  obtain ⟨h1, h2, h3⟩ := ha.get k hkD hk
  rw [getD_get ds k _ hk]
  obtain ⟨A2, c2, e⟩ := SL.form h2
  refine ⟨b, off, A2, c2, rfl, hb, ?_, ?_, by rw [← e]; exact h2, by rw [← e]; exact h3⟩
  · have := hc 0 (by omega)
    rw [Nat.add_zero] at this
    rw [this, ← h1]; rfl
  · have := hc 1 (by omega)
    rw [← Nat.add_assoc] at this
    rw [this, ← e]; rfl
set_option maxRecDepth 20000 in
set_option maxHeartbeats 8000000 in
theorem mayM_any {B : Nat → Prop} {w : World} {dv pv : Value} {s : St} (HR : RS B w dv pv s) (hw : wfS s) :
    Calls Try.prog 7 #[.agg (stA dv pv s.next)] w fun e w' => e = .returned (.bool (mayB s)) ∧ Gr w w' := by
  obtain ⟨⟨A, ca, rfl⟩, A2, ca2, rfl⟩ := HR.form
  obtain ⟨R, hR⟩ : ∃ R, mayB s = R := ⟨_, rfl⟩
  rw [hR]
  have HRe := Lib.hid hR
  have HW := Lib.hid hw
  have HS := Lib.hid HR
  have HC := Lib.hid (fun wx (hg : Gr w wx) => check_any (HR.voc.gr hg) hw.voc hw.nv)
  have HG := Lib.hid ((Fr.refl w NoneS).alloc (.cells (stA (.slice A s.docs.length ca) (.slice A2 s.voc.length ca2) s.next) TSt))
  have HB := Lib.hid (Blk.new w TSt (stA (.slice A s.docs.length ca) (.slice A2 s.voc.length ca2) s.next))
  have hn0 := hw.next.1
  have hnd : (s.docs.length : Int) ≤ 1048000 := by have := hw.nd; omega
  clear HR hw hR
  unfold stA
  go_enter Try.func7, Try.ntmps7
  go_upto_region 1 with (fail)
  change Code.wp _ _ _ _ (w.alloc (.cells (stA (.slice A s.docs.length ca) (.slice A2 s.voc.length ca2) s.next) TSt))
  generalize w.heap.size = q at HB ⊢
  generalize hx : World.alloc w _ = w1 at HG HB ⊢
  clear hx
  have c0 : w1.cell? ⟨q, 0, none⟩ = some (.slice A s.docs.length ca) := by rw [HB.out.cell]; rfl
  have c1 : w1.cell? ⟨q, 1, none⟩ = some (.int .u64 s.next) := by rw [HB.out.cell]; rfl
  have c2 : w1.cell? ⟨q, 2, none⟩ = some (.slice A2 s.voc.length ca2) := by rw [HB.out.cell]; rfl
  by_cases hlo : s.next < 1
  · have Hf := Lib.hid (show R = false by
      rw [← HRe.out]
      cases h : mayB s with
      | false => rfl
      | true => have := (may_parts h).1; omega)
    go_wp2_with fail
    go_ret
    rw [Hf.out]
    exact ⟨rfl, HG.out⟩
  by_cases hhi : 4294967296 < s.next
  · have Hf := Lib.hid (show R = false by
      rw [← HRe.out]
      cases h : mayB s with
      | false => rfl
      | true => have := (may_parts h).1; omega)
    go_wp2_with fail
    go_ret
    rw [Hf.out]
    exact ⟨rfl, HG.out⟩
  have Hnx := Lib.hid (show 1 ≤ s.next ∧ s.next ≤ 4294967296 by omega)
  go_upto_region 3 with (fail)
  clear hlo hhi hn0
  go_wp2_with fail
  go_loopg [2, 18] (s.docs.length + 1) (fun m s2 s18 wr => ∃ k : Nat, s2 = .bool false ∧ s18 = .int .i64 k ∧ Hid (k ≤ s.docs.length ∧ s.docs.length - k < m ∧ okTo s.next s.docs k) ∧ Hid (Gr w1 wr))
  case atStart => exact ⟨0, rfl, rfl, ⟨Nat.zero_le _, by omega, fun i hi => by omega⟩, Fr.refl _ _⟩
  case round =>
    obtain ⟨k, rfl, rfl, HK, HD⟩ := hrel
    have HRr := Lib.hid (HS.out.gr (HG.out.trans HD.out (fun _ _ h => h)))
    by_cases hk : k < s.docs.length
    · obtain ⟨ba, oa, A3, c3, rfl, hba, d0, d1, _, _⟩ : ∃ b off A2 c2, A = some ⟨b, off, none⟩ ∧ b < wr.heap.size ∧ wr.cell? ⟨b, off + k * 2, none⟩ = some (.int .u64 (s.docs.getD k ⟨0, []⟩).id) ∧ wr.cell? ⟨b, off + k * 2 + 1, none⟩ = some (.slice A2 (s.docs.getD k ⟨0, []⟩).b.length c2) ∧
          SL encB wr (.slice A2 (s.docs.getD k ⟨0, []⟩).b.length c2) (s.docs.getD k ⟨0, []⟩).b ∧ SB B (.slice A2 (s.docs.getD k ⟨0, []⟩).b.length c2) (s.docs.getD k ⟨0, []⟩).b.length := by
        obtain ⟨D, hd, ha⟩ := HRr.out.ex
        exact doc_at hd ha hk
      have Hok := Lib.hid (show okAt s.next s.docs k = (decide (1 ≤ (s.docs.getD k ⟨0, []⟩).id) && (decide ((s.docs.getD k ⟨0, []⟩).id < s.next) && ((decide (k = 0) || decide ((s.docs.getD (k - 1) ⟨0, []⟩).id < (s.docs.getD k ⟨0, []⟩).id)) && decide ((s.docs.getD k ⟨0, []⟩).b.length ≤ 4096)))) from rfl)
      have Hwd := Lib.hid (show wfD (s.docs.getD k ⟨0, []⟩) by rw [getD_get _ _ _ hk]; exact HW.out.docs _ (List.getElem_mem hk))
      have hki : (k : Int) < (s.docs.length : Int) := by omega
      generalize hdd : s.docs.getD k ⟨0, []⟩ = dd at d0 d1 Hok Hwd
      have Hdd := Lib.hid hdd
      clear hdd
      go_upto_region 6 with (fail)
      have HDa := Lib.hid ((HD.out).alloc (.cells #[.int .u64 dd.id, .slice A3 dd.b.length c3] TDoc))
      have HBa := Lib.hid (Blk.new wr TDoc #[.int .u64 dd.id, .slice A3 dd.b.length c3])
      generalize wr.heap.size = ob at HBa ⊢
      generalize hx : wr.alloc (.cells #[.int .u64 dd.id, .slice A3 dd.b.length c3] TDoc) = wa at HDa HBa ⊢
      have HRa := Lib.hid (HS.out.gr (HG.out.trans HDa.out (fun _ _ h => h)))
      clear hx d0 d1
      have g0 : wa.cell? ⟨ob, 0, none⟩ = some (.int .u64 dd.id) := by rw [HBa.out.cell]; rfl
      have g1 : wa.cell? ⟨ob, 1, none⟩ = some (.slice A3 dd.b.length c3) := by rw [HBa.out.cell]; rfl
      have e0 : wa.cell? ⟨q, 0, none⟩ = some (.slice (some ⟨ba, oa, none⟩) s.docs.length ca) := by rw [(HB.out.fr HDa.out (fun h => h)).cell]; rfl
      have e1 : wa.cell? ⟨q, 1, none⟩ = some (.int .u64 s.next) := by rw [(HB.out.fr HDa.out (fun h => h)).cell]; rfl
      have hbl : (dd.b.length : Int) ≤ 1048576 := by have := Hwd.out.2.2; omega
      have Hk := Lib.hid hk
      have stop : okAt s.next s.docs k = false → R = false := fun h => by rw [← HRe.out]; exact may_no Hk.out h
      have Hstop := Lib.hid stop
      clear stop
      by_cases h1 : dd.id < 1
      · have Hf := Lib.hid (Hstop.out (by rw [Hok.out, decide_eq_false (by omega)]; rfl))
        clear hk
        go_wp2_with fail
        go_quiet (fail)
        go_wp2_with fail
        go_ret
        rw [Hf.out]
        exact ⟨rfl, HG.out.trans (HDa.out.drewN _) (fun _ _ h => h)⟩
      have h1f : decide (dd.id < 1) = false := decide_eq_false h1
      by_cases h2 : s.next ≤ dd.id
      · have Hf := Lib.hid (Hstop.out (by rw [Hok.out, decide_eq_false (show ¬ dd.id < s.next by omega)]; simp))
        clear hk
        go_wp2_with fail
        go_quiet (fail)
        go_wp2_with fail
        go_ret
        rw [Hf.out]
        exact ⟨rfl, HG.out.trans (HDa.out.drewN _) (fun _ _ h => h)⟩
      have h2f : decide (s.next ≤ dd.id) = false := decide_eq_false h2
      have Hid1 := Lib.hid (show 1 ≤ dd.id ∧ dd.id < s.next by omega)
      by_cases hk0 : k = 0
      · subst hk0
        by_cases h4 : 4096 < dd.b.length
        · have h4i : (4096 : Int) < (dd.b.length : Int) := by omega
          have Hf := Lib.hid (Hstop.out (by rw [Hok.out, decide_eq_false (show ¬ dd.b.length ≤ 4096 by omega)]; simp))
          clear hk h4
          go_wp2_with fail
          go_quiet (fail)
          go_wp2_with fail
          go_ret
          rw [Hf.out]
          exact ⟨rfl, HG.out.trans (HDa.out.drewN _) (fun _ _ h => h)⟩
        · have h4i : decide ((4096 : Int) < (dd.b.length : Int)) = false := decide_eq_false (by omega)
          have Ht := Lib.hid (show okAt s.next s.docs 0 = true by
            rw [Hok.out, decide_eq_true Hid1.out.1, decide_eq_true Hid1.out.2, decide_eq_true (show dd.b.length ≤ 4096 by omega)]; rfl)
          clear hk h4
          go_wp2_with fail
          go_quiet (fail)
          go_wp2_with fail
          go_roundg (gk - 1)
          case measure => have := HK.out; have := Hk.out; omega
          case rel => exact ⟨1, rfl, by go_num, ⟨Hk.out, by have := HK.out; have := Hk.out; omega, okTo_succ HK.out.2.2 Ht.out⟩, HDa.out.drewN _⟩
      · obtain ⟨kp, rfl⟩ : ∃ kp, k = kp + 1 := ⟨k - 1, by omega⟩
        obtain ⟨_, _, _, _, e, _, p0, _, _, _⟩ : ∃ b off A2 c2, some (⟨ba, oa, none⟩ : Addr) = some ⟨b, off, none⟩ ∧ b < wa.heap.size ∧ wa.cell? ⟨b, off + kp * 2, none⟩ = some (.int .u64 (s.docs.getD kp ⟨0, []⟩).id) ∧ wa.cell? ⟨b, off + kp * 2 + 1, none⟩ = some (.slice A2 (s.docs.getD kp ⟨0, []⟩).b.length c2) ∧
            SL encB wa (.slice A2 (s.docs.getD kp ⟨0, []⟩).b.length c2) (s.docs.getD kp ⟨0, []⟩).b ∧ SB B (.slice A2 (s.docs.getD kp ⟨0, []⟩).b.length c2) (s.docs.getD kp ⟨0, []⟩).b.length := by
          obtain ⟨D, hd, ha⟩ := HRa.out.ex
          exact doc_at hd ha (by omega)
        injection e with e
        injection e with eb eo
        subst eb eo
        have hpk : kp < s.docs.length := by omega
        have hki1 : (kp : Int) < (s.docs.length : Int) := by omega
        have hok := Hok.out
        rw [Nat.add_sub_cancel] at hok
        have Hok2 := Lib.hid hok
        clear hok Hok
        generalize (s.docs.getD kp ⟨0, []⟩).id = pid at p0 Hok2
        by_cases h3 : dd.id ≤ pid
        · have Hf := Lib.hid (Hstop.out (by rw [Hok2.out, decide_eq_false (show ¬ pid < dd.id by omega)]; simp))
          clear hk
          have hkf : decide ((0 : Int) < (kp : Int) + 1) = true := decide_eq_true (by omega)
          go_wp2_with fail
          go_quiet (fail)
          go_wp2_with fail
          go_ret
          rw [Hf.out]
          exact ⟨rfl, HG.out.trans (HDa.out.drewN _) (fun _ _ h => h)⟩
        · have h3f : decide (dd.id ≤ pid) = false := decide_eq_false h3
          have hkf : decide ((0 : Int) < (kp : Int) + 1) = true := decide_eq_true (by omega)
          by_cases h4 : 4096 < dd.b.length
          · have h4i : (4096 : Int) < (dd.b.length : Int) := by omega
            have Hf := Lib.hid (Hstop.out (by rw [Hok2.out, decide_eq_false (show ¬ dd.b.length ≤ 4096 by omega)]; simp))
            clear hk h4
            go_wp2_with fail
            go_quiet (fail)
            go_wp2_with fail
            go_ret
            rw [Hf.out]
            exact ⟨rfl, HG.out.trans (HDa.out.drewN _) (fun _ _ h => h)⟩
          · have h4i : decide ((4096 : Int) < (dd.b.length : Int)) = false := decide_eq_false (by omega)
            have Ht := Lib.hid (show okAt s.next s.docs (kp + 1) = true by
              rw [Hok2.out, decide_eq_true Hid1.out.1, decide_eq_true Hid1.out.2, decide_eq_true (show dd.b.length ≤ 4096 by omega), decide_eq_true (show pid < dd.id by omega)]; simp)
            clear hk h4
            go_wp2_with fail
            go_quiet (fail)
            go_wp2_with fail
            go_roundg (gk - 1)
            case measure => have := HK.out; have := Hk.out; omega
            case rel => exact ⟨kp + 1 + 1, rfl, by go_num, ⟨Hk.out, by have := HK.out; have := Hk.out; omega, okTo_succ HK.out.2.2 Ht.out⟩, HDa.out.drewN _⟩
    · obtain rfl : k = s.docs.length := by have := HK.out; omega
      have e2 : wr.cell? ⟨q, 2, none⟩ = some (.slice A2 s.voc.length ca2) := by rw [(HB.out.fr HD.out (fun h => h)).cell]; rfl
      have HGr := Lib.hid (HG.out.trans HD.out (fun _ _ h => h))
      have Hb := Lib.hid (show R = decide ((checkE s.voc).1 = 0) by
        rw [← HRe.out]
        unfold mayB
        rw [decide_eq_true Hnx.out, decide_eq_true HK.out.2.2]
        rfl)
      generalize (checkE s.voc).1 = E at HC Hb
      generalize (checkE s.voc).2 = at_ at HC
      by_cases hE : E = 0
      · have hE1 : (E == 0) = true := by rw [hE]; rfl
        have Ht := Lib.hid (show R = true by rw [Hb.out]; exact decide_eq_true hE)
        clear hE
        go_wp2_with (go_at_call 27; refine (HC.out _ HGr.out).mono ?_; rintro e w3 ⟨rfl, hg⟩; have HG3 := Lib.hid (HGr.out.trans hg (fun _ _ h => h)); clear hg)
        go_ret
        rw [Ht.out]
        exact ⟨rfl, HG3.out⟩
      · have hE1 : (E == 0) = false := beq_eq_false_iff_ne.2 hE
        have Ht := Lib.hid (show R = false by rw [Hb.out]; exact decide_eq_false hE)
        clear hE
        go_wp2_with (go_at_call 27; refine (HC.out _ HGr.out).mono ?_; rintro e w3 ⟨rfl, hg⟩; have HG3 := Lib.hid (HGr.out.trans hg (fun _ _ h => h)); clear hg)
        go_ret
        rw [Ht.out]
        exact ⟨rfl, HG3.out⟩
end Mod
end Go.Proofs.Ytlodbhlidgepfaa
