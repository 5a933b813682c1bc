/- model: from, New. -/
import Derived.Test.YtlodbhlidgepfaaMWc
set_option linter.unusedVariables false
set_option linter.unusedSimpArgs false
namespace Go.Proofs.Ytlodbhlidgepfaa
open Go.RowKit
open Voc Leb Bpe
namespace Mod
set_option maxRecDepth 20000 in
set_option maxHeartbeats 8000000 in
theorem from_any {B : Nat → Prop} {w : World} {dv pv : Value} {s : St} (HR : RS B w dv pv s) (hnd : s.docs.length ≤ 1048576) (hs : okTo s.next s.docs s.docs.length) (id : Int) :
    Calls Try.prog 22 #[.agg (stA dv pv s.next), .int .u64 id] w fun e w' => e = .returned (.int .i64 (atE s.docs id : Nat)) ∧ Gr w w' := by
  obtain ⟨⟨A, ca, rfl⟩, A2, ca2, rfl⟩ := HR.form
  have HS := Lib.hid HR
  have Hri := Lib.hid (rising hs)
  have Hat := Lib.hid (fun k => at_of (ds := s.docs) (id := id) (k := k))
  generalize atE s.docs id = K at Hat ⊢
  have HG := Lib.hid ((Fr.refl w NoneS).alloc (.cells (stA (.slice A s.docs.length ca) (.slice A2 s.voc.length ca2) s.next) TSt))
  have HB := Lib.hid (Blk.new w TSt (stA (.slice A s.docs.length ca) (.slice A2 s.voc.length ca2) s.next))
  have hnd' : (s.docs.length : Int) ≤ 1048576 := by omega
  clear HR hs hnd
  unfold stA
  go_enter Try.func22, Try.ntmps22
  go_upto_region 1 with (fail)
  change Code.wp _ _ _ _ (w.alloc (.cells (stA (.slice A s.docs.length ca) (.slice A2 s.voc.length ca2) s.next) TSt))
  generalize w.heap.size = q at HB ⊢
  generalize hx : World.alloc w _ = w1 at HG HB ⊢
  clear hx
  have c0 : w1.cell? ⟨q, 0, none⟩ = some (.slice A s.docs.length ca) := by rw [HB.out.cell]; rfl
  go_quiet (fail)
  go_wp2_with fail
  go_loopg [5, 6] (s.docs.length + 1) (fun m s5 s6 wr => ∃ lo hi : Nat, s5 = .int .i64 lo ∧ s6 = .int .i64 hi ∧ Hid (lo ≤ hi ∧ hi ≤ s.docs.length ∧ hi - lo < m) ∧ Hid ((∀ i, i < lo → (s.docs.getD i ⟨0, []⟩).id < id) ∧ (∀ i, hi ≤ i → i < s.docs.length → id ≤ (s.docs.getD i ⟨0, []⟩).id)) ∧ Hid (Gr w1 wr))
  case atStart => exact ⟨0, s.docs.length, rfl, rfl, ⟨Nat.zero_le _, Nat.le_refl _, by omega⟩, ⟨fun i hi => by omega, fun i h1 h2 => by omega⟩, (Fr.refl _ _).drewN _⟩
  case round =>
    obtain ⟨lo, hi, rfl, rfl, HK, HI, HD⟩ := hrel
    have HRr := Lib.hid (HS.out.gr (HG.out.trans HD.out (fun _ _ h => h)))
    by_cases hk : lo < hi
    · obtain ⟨mid, hmid⟩ : ∃ m, m = (lo + hi) / 2 := ⟨_, rfl⟩
      have hm1 : mid < s.docs.length := by have := HK.out; omega
      have Hm := Lib.hid (show lo ≤ mid ∧ mid < hi by omega)
      have hmi : ((lo : Int) + (hi : Int)) / 2 = (mid : Int) := by omega
      have hmt : Int.tdiv ((lo : Int) + (hi : Int)) 2 = (mid : Int) := by rw [Int.tdiv_eq_ediv_of_nonneg (by omega)]; exact hmi
      have hbb : (hi : Int) ≤ 1048576 := by have := HK.out; omega
      obtain ⟨ba, oa, A3, c3, rfl, _, d0, _, _, _⟩ : ∃ b off A2 c2, A = some ⟨b, off, none⟩ ∧ b < wr.heap.size ∧ wr.cell? ⟨b, off + mid * 2, none⟩ = some (.int .u64 (s.docs.getD mid ⟨0, []⟩).id) ∧ wr.cell? ⟨b, off + mid * 2 + 1, none⟩ = some (.slice A2 (s.docs.getD mid ⟨0, []⟩).b.length c2) ∧
          SL encB wr (.slice A2 (s.docs.getD mid ⟨0, []⟩).b.length c2) (s.docs.getD mid ⟨0, []⟩).b ∧ SB B (.slice A2 (s.docs.getD mid ⟨0, []⟩).b.length c2) (s.docs.getD mid ⟨0, []⟩).b.length := by
        obtain ⟨D, hd, ha⟩ := HRr.out.ex
        exact doc_at hd ha hm1
      have e0 : wr.cell? ⟨q, 0, none⟩ = some (.slice (some ⟨ba, oa, none⟩) s.docs.length ca) := by rw [(HB.out.fr HD.out (fun h => h)).cell]; rfl
      have hmii : (mid : Int) < (s.docs.length : Int) := by omega
      have hki : (lo : Int) < (hi : Int) := by omega
      have Hm1 := Lib.hid hm1
      clear hmid hm1 hk
      obtain ⟨x, hx⟩ : ∃ x, (s.docs.getD mid ⟨0, []⟩).id = x := ⟨_, rfl⟩
      have Hx := Lib.hid hx
      rw [hx] at d0
      clear hx
      by_cases hlt : x < id
      · have Hlt := Lib.hid hlt
        go_wp2_with fail
        go_roundg (gk - 1)
        case measure => have := HK.out; have := Hm.out; omega
        case rel =>
          refine ⟨mid + 1, hi, by go_num, rfl, ⟨by have := Hm.out; omega, HK.out.2.1, by have := HK.out; have := Hm.out; omega⟩, ⟨fun i hi => ?_, HI.out.2⟩, HD.out⟩
          rcases Nat.lt_or_ge i mid with h | h
          · have h1 := Hri.out i mid h Hm1.out; have h2 := Hx.out; have h3 := Hlt.out; omega
          · obtain rfl : i = mid := by omega
            have h2 := Hx.out; have h3 := Hlt.out; omega
      · have hlf : decide (x < id) = false := decide_eq_false hlt
        have Hlt := Lib.hid hlt
        clear hlt
        go_wp2_with fail
        go_roundg (gk - 1)
        case measure => have := HK.out; have := Hm.out; omega
        case rel =>
          refine ⟨lo, mid, rfl, rfl, ⟨by have := Hm.out; omega, by have := Hm1.out; omega, by have := HK.out; have := Hm.out; omega⟩, ⟨HI.out.1, fun i h1 h2 => ?_⟩, HD.out⟩
          rcases Nat.lt_or_ge mid i with h | h
          · have h1 := Hri.out mid i h h2; have h2 := Hx.out; have h3 := Hlt.out; omega
          · obtain rfl : i = mid := by omega
            have h2 := Hx.out; have h3 := Hlt.out; omega
    · obtain rfl : lo = hi := by have := HK.out; omega
      have Hr := Lib.hid (Hat.out lo HK.out.2.1 HI.out.1 (fun h => HI.out.2 lo (Nat.le_refl _) h))
      go_wp2_with fail
      go_ret
      rw [Hr.out]
      exact ⟨rfl, HG.out.trans HD.out (fun _ _ h => h)⟩
abbrev TAn : TypeId := 38
def anA (a : An) (bv iv : Value) : Array Value := #[.int .i64 a.e, .int .u64 a.id, .int .i64 a.n, bv, iv, .bool a.more]
abbrev nilV : Value := .slice none 0 0
theorem pls_own' {w : World} {g base : Nat} (h : Blk w g TPc (pcells 256)) (hb : base ≤ g) : w.ownsRow base TPc 5 (.slice (some ⟨g, 0, none⟩) 256 256) (pls 256).length ((pls 256).flatMap encP) := by
  have hpl : (pls 256).length = 256 := by decide +kernel
  have hl : ((pls 256).flatMap encP).length = 256 * 5 := by rw [len_flatMap encP 5 (fun _ => rfl), hpl]
  rw [hpl]
  refine ⟨hl, .inr ⟨g, 256, pcells 256, rfl, hb, h, Nat.le_refl _, by unfold maxLen; omega, pcells_size 256, ?_⟩⟩
  unfold pcells
  rw [List.toList_toArray, List.take_of_length_le (by rw [hl]; exact Nat.le_refl _)]
theorem results_cc {P : Program} {fn : Func} {p q : Tmp} {ty ty' : TypeId} (h : fn.results = #[.cell p ty, .cell q ty']) (tmps : Array Value) (w : World) (g g' : Nat) (t t' : TypeId) (cs cs' : Array Value) (d d' : TypeDesc)
    (hp : tmps.getD p undef = .pointer (some ⟨g, 0, none⟩)) (hq : tmps.getD q undef = .pointer (some ⟨g', 0, none⟩)) (hg : Blk w g t cs) (hg' : Blk w g' t' cs')
    (hu : P.underlying ty = some d) (hd : (match d with | .struct _ | .array _ _ => true | _ => false) = true) (hi : (P.info? ty).map (·.size) = some cs.size)
    (hu' : P.underlying ty' = some d') (hd' : (match d' with | .struct _ | .array _ _ => true | _ => false) = true) (hi' : (P.info? ty').map (·.size) = some cs'.size) :
    (results fn tmps).run P w = .ok (.tuple #[.agg cs, .agg cs']) w := by
  have hp' : tmps[p]?.getD undef = .pointer (some ⟨g, 0, none⟩) := by simpa using hp
  have hq' : tmps[q]?.getD undef = .pointer (some ⟨g', 0, none⟩) := by simpa using hq
  simp [results, h, hp', hq', asAddr, run_loadVar_row w g t ty cs (0, 0) d hg hu hd hi, run_loadVar_row w g' t' ty' cs' (0, 0) d' hg' hu' hd' hi']
set_option maxRecDepth 20000 in
set_option maxHeartbeats 8000000 in
theorem newM_any (w : World) : Calls Try.prog 5 #[] w fun e w' => ∃ pv, e = .returned (.agg (stA nilV pv 1)) ∧ OS w.heap.size w' nilV pv ⟨[], 1, pls 256⟩ ∧ Gr w w' := by
  have HB := Lib.hid (Blk.new w TSt (stA nilV nilV 0))
  have HG := Lib.hid ((Fr.refl w NoneS).alloc (.cells (stA nilV nilV 0) TSt))
  have HP := Lib.hid (fun wx => plain_any wx)
  obtain ⟨q, hq⟩ : ∃ q, w.heap.size = q := ⟨_, rfl⟩
  rw [hq] at HB
  have Hq := Lib.hid hq
  go_enter Try.func5, Try.ntmps5
  go_upto_region 1 with (fail)
  change Code.wp _ _ _ _ (w.alloc (.cells (stA nilV nilV 0) TSt))
  clear hq
  generalize hx : World.alloc w _ = w1 at HG HB ⊢
  clear hx
  go_wp2_with (first
    | (go_at_call 19; refine (HP.out w1).mono ?_; rintro e w2 ⟨g, rfl, hg0, hb, hg⟩; have HL := Lib.hid hg0; have HB2 := Lib.hid hb; have HG2 := Lib.hid hg; have HB1 := Lib.hid (HB.out.fr hg (fun h => h)); clear hg0 hb hg)
    | refine wpList_store_row rfl _ _ _ rfl q (stA nilV (.slice (some ⟨g, 0, none⟩) 256 256) 1) rfl rfl TSt _ HB1.out (by kernel_rfl) (by kernel_rfl) (by kernel_rfl) ?_)
  refine bodyPost_ret (results_cell_row Try.results5 _ _ q _ (stA nilV (.slice (some ⟨g, 0, none⟩) 256 256) 1) (0, 0) _ rfl (Sha.blk_setRow HB1.out _) Try.underlying29 rfl (by kernel_rfl)) rfl ?_
  have h1 := HG.out.size
  have h2 := HL.out
  have hne : g ≠ q := HB2.out.ne_ HB1.out (by decide)
  exact ⟨_, rfl, ⟨⟨[], World.ownsRow_nil _ _ _ _, trivial⟩, pls_own' (Sha.blk_setRow_ne HB2.out hne _) (by omega)⟩, Sha.fr_setRow (HG.out.trans HG2.out (fun _ _ h => h)) (fun h => by have := Hq.out; omega) _⟩
end Mod
end Go.Proofs.Ytlodbhlidgepfaa
