/- bpe: Step. bpe: Step, walked. bpe: Step, every way. the reference's Step. law 10: the walk of BpeSteps. -/
import Derived.Test.YtildhlneldoffaaPQ
import Derived.Test.YtildhlneldoffaaERb
import Derived.Test.YtildhlneldoffaaVStep
import Derived.Test.YtildhlneldoffaaEWh
import Derived.Test.YtildhlneldoffaaEWc
import Derived.Test.YtildhlneldoffaaERc
import Derived.Test.YtildhlneldoffaaFmay
import Derived.Test.YtildhlneldoffaaEL1
set_option linter.unusedVariables false
set_option linter.unusedSimpArgs false
namespace Go.Proofs.Ytildhlneldoffaa
open Go.RowKit
open Voc
namespace Bpe
theorem flatI (l : List Int) : l.flatMap encI = l.map (Value.int .i64) := by
  induction l with
  | nil => rfl
  | cons x l ih => rw [List.flatMap_cons, ih]; rfl
/-- a number of one's own row is written -/
theorem OI.set {w : World} {B g n c : Nat} {l : List Int} (h : OI w B (.slice (some ⟨g, 0, none⟩) n c) l) {i : Nat} (hi : i < l.length) (x : Int) : OI (w.setCell ⟨g, i, none⟩ (.int .i64 x)) B (.slice (some ⟨g, 0, none⟩) n c) (l.set i x) := by
  rcases h.own.2 with ⟨h1, _⟩ | ⟨g', cap, cur, h1, hb, hg, hnc, hcm, hcs, htake⟩
  · cases h1
  · injection h1 with e1 e2 e3
    injection e1 with e1
    injection e1 with e1
    subst e1 e2 e3
    have hblk : Blk w g TI cur := hg
    have hblk' := hblk.set_ i (.int .i64 x)
    refine ⟨⟨by rw [flatI, List.length_map, Nat.mul_one], Or.inr ⟨g, c, _, by rw [List.length_set], hb, hblk', by rw [List.length_set]; exact hnc, hcm, by rw [Array.size_setIfInBounds]; exact hcs, ?_⟩⟩, fun g2 cs t fr hg2 hc u hu => ?_⟩
    · rw [flatI, Array.toList_setIfInBounds, List.length_set, List.take_set, htake, flatI, List.map_set]
    · have : g2 = g := by simpa [Value.ownBlock] using hg2.symm
      subst this
      have h2 : (w.setCell ⟨g2, i, none⟩ (.int .i64 x)).heap[g2]? = some (.cells (cur.setIfInBounds i (.int .i64 x)) TI (0, 0)) := hblk'
      rw [h2] at hc
      injection hc with hc
      injection hc with hc
      subst hc
      rw [Array.toList_setIfInBounds] at hu
      rcases List.mem_or_eq_of_mem_set hu with h' | h'
      · exact h.spare g2 cur TI (0, 0) rfl hg u h'
      · exact ⟨x, h'⟩
theorem OI.cell {w : World} {B g n c : Nat} {l : List Int} (h : OI w B (.slice (some ⟨g, 0, none⟩) n c) l) {i : Nat} (hi : i < l.length) : w.cell? ⟨g, i, none⟩ = some (.int .i64 (l.getD i 0)) := by
  have hn : n = l.length := by
    rcases h.own.2 with ⟨h1, _⟩ | ⟨g', cap, cur, h1, _⟩
    · cases h1
    · injection h1
  subst hn
  rw [h.own.cellAt (g := g) (cap := c) i (by omega), flatI, List.getElem?_map, List.getD_eq_getElem?_getD, List.getElem?_eq_getElem hi]; rfl
theorem OI.take {w : World} {B g n c : Nat} {l : List Int} (h : OI w B (.slice (some ⟨g, 0, none⟩) n c) l) {k : Nat} (hk : k ≤ l.length) : OI w B (.slice (some ⟨g, 0, none⟩) k c) (l.take k) := by
  have hn : n = l.length := by
    rcases h.own.2 with ⟨h1, _⟩ | ⟨g', cap, cur, h1, _⟩
    · cases h1
    · injection h1
  subst hn
  have h2 := own_take h.own hk
  refine ⟨?_, fun g2 cs t fr hg2 => h.spare g2 cs t fr (by simpa [Value.ownBlock] using hg2)⟩
  have e : (l.take k).length = k := by rw [List.length_take]; omega
  rw [e]
  have e2 : (l.flatMap encI).take (k * 1) = (l.take k).flatMap encI := by rw [Nat.mul_one, flatI, flatI, List.map_take]
  rw [e2] at h2
  exact h2
theorem step_append_st {P : Program} {w : World} {α : Type} (enc : α → List Value) {ops : Array Oper} {o : Oper} {a : Act} {K : Act → World → Prop} {Q : Exit → Act → World → Prop} {E : Prop} (hgd : o.guard = none) (s x : Operand) (t : TypeId)
    (ho : o.op = .call { callee := .builtin .append, args := #[s, x], argTypes := #[t, t] })
    (base : Nat) (e : TypeId) (i : TypeInfo) (z : Value) (size bytes : Nat) (ht : P.underlying t = some (.slice e)) (hi : P.info? e = some i) (hz : i.zero = some z)
    (hsize : i.size = size) (hby : i.bytes = bytes) (hzs : z.cells.size = size) (hsz : 0 < size)
    (v : Value) (n : Nat) (xs : List Value) (hsv : a.eval s = v) (hown : w.ownsRow base e size v n xs)
    (sv : Value) (news : List α) (hxv : a.eval x = sv) (hs : SL enc w sv news) (henc : ∀ x, (enc x).length = size) (h1 : ∀ x, ∀ u ∈ enc x, u.oneCell' = true)
    (h63 : n + news.length ≤ maxLen) (hbytes : (n + news.length) * bytes ≤ 140737488355328) (hbase : base ≤ w.heap.size)
    (h : ∀ v' w', w'.ownsRow base e size v' (n + news.length) (xs ++ news.flatMap enc) → Fr w w' (fun k => v.ownBlock = some k) → (v'.ownBlock = v.ownBlock ∨ v'.ownBlock = some w.heap.size) →
      (∀ T : Value → Prop, (∀ u ∈ z.cells.toList, T u) → (∀ u ∈ news.flatMap enc, T u) → SpareT T w v → SpareT T w' v') → K (a.put o.dst v') w') :
    if Region.wanted o (yielded ops a.tmps) = true then Oper.wp P o a w K Q else E := by
  have hw : Region.wanted o (yielded ops a.tmps) = true := by simp [Region.wanted, hgd]
  rw [if_pos hw]
  exact wp_append_st w enc s x t ho base e i z size bytes ht hi hz hsize hby hzs hsz v n xs hsv hown sv news hxv hs henc h1 h63 hbytes hbase h
end Bpe
end Go.Proofs.Ytildhlneldoffaa

namespace Go.Proofs.Ytildhlneldoffaa
open Go.RowKit
open Voc
namespace Bpe
theorem joined_set {l : List Int} {i : Nat} (t : Nat) (hi : i + 1 < l.length) : (l.set i (t : Int)).take (i + 1) ++ (l.set i (t : Int)).drop (i + 2) = joined l i t := by
  have e : l.set i (t : Int) = l.take i ++ ((t : Int) :: l.drop (i + 1)) := by rw [List.set_eq_take_append_cons_drop, if_pos (by omega)]
  have hl : (l.take i).length = i := by rw [List.length_take]; omega
  rw [e]
  unfold joined
  rw [List.take_append, List.drop_append, hl, show i + 1 - i = 1 by omega, show i + 2 - i = 2 by omega, List.take_of_length_le (show (l.take i).length ≤ i + 1 by omega), List.drop_eq_nil_of_le (show (l.take i).length ≤ i + 2 by omega)]
  simp
theorem OI.blkx {w : World} {B g n c : Nat} {l : List Int} (h : OI w B (.slice (some ⟨g, 0, none⟩) n c) l) : B ≤ g ∧ ∃ cur, Blk w g TI cur := by
  rcases h.own.2 with ⟨h1, _⟩ | ⟨g', cap, cur, h1, hb, hg, _⟩
  · cases h1
  · injection h1 with e1 e2 e3
    injection e1 with e1
    injection e1 with e1
    subst e1
    exact ⟨hb, cur, hg⟩
/-- what Step answers -/
def stepE (xs : List Pc) (l : List Int) : List Int × Bool × Int :=
  if (checkE xs).1 ≠ 0 then ([], false, 11) else if 4096 < l.length then ([], false, 3) else if l.any (badX xs) = true then ([], false, 2) else
    match stepR xs l with
    | none => (l, false, 0)
    | some (i, t) => (joined l i t, true, 0)
def atE (o : Option (Nat × Nat)) : Int := match o with | some (i, _) => (i : Int) | none => -1
theorem in_wf {xs : List Pc} {x : Int} (hx : (xs.length : Int) ≤ 4096) (h : badX xs x = false) : (Lit.int .i64 x).wf = true := by
  unfold badX at h
  simp at h
  have h0 : IntKind.i64.min = -9223372036854775808 := rfl
  have h1 : IntKind.i64.max = 9223372036854775807 := rfl
  simp [Lit.wf]
  omega
set_option maxRecDepth 20000 in
set_option maxHeartbeats 12800000 in
theorem step_yes {w : World} {v vl : Value} {xs : List Pc} {l : List Int} (HS : SL encP w v xs) (HV : SL encI w vl l) (hw : ∀ q ∈ xs, wfP q) (hl : xs.length ≤ 1048576) (hc : (checkE xs).1 = 0) (h4 : l.length ≤ 4096) (hlw : ∀ x ∈ l, (Lit.int .i64 x).wf = true) :
    Calls Try.prog 25 #[.agg #[v], vl] w fun e w' => ∃ r, e = .returned (.tuple #[r, .bool (stepE xs l).2.1, .int .i64 (stepE xs l).2.2]) ∧ OI w' w.heap.size r (stepE xs l).1 ∧ Gr w w' := by
  obtain ⟨A, cap, rfl⟩ := SL.form HS
  obtain ⟨A2, cap2, rfl⟩ := SL.form HV
  have HG := Lib.hid ((Fr.refl w NoneS).alloc (.cells #[.slice A xs.length cap] 24))
  have HB := Lib.hid (Blk.new w 24 #[.slice A xs.length cap])
  have HS0 := Lib.hid HS
  have HV0 := Lib.hid HV
  have HX := Lib.hid (good_of hc)
  have Hw := Lib.hid hw
  have Hlw := Lib.hid hlw
  have Hc := Lib.hid hc
  have H4 := Lib.hid h4
  have HO := Lib.hid (open_yes (HS.gr HG.out) hw hl hc)
  have hxi : (xs.length : Int) ≤ 4096 := by have := HX.out.len; omega
  have hli : (l.length : Int) ≤ 4096 := by omega
  have h4i : ¬ (4096 : Int) < l.length := by omega
  obtain ⟨⟨L, D, E⟩, hE⟩ : ∃ y, stepE xs l = y := ⟨_, rfl⟩
  rw [hE]
  have HE := Lib.hid hE
  simp only
  obtain ⟨q1, hq1⟩ : ∃ q, w.heap.size = q := ⟨_, rfl⟩
  rw [hq1] at HB
  have Hq1 := Lib.hid hq1
  clear HS HV hw hl hc h4 hlw hE
  go_enter Try.func25, Try.ntmps25
  go_upto_region 1 with (fail)
  clear hq1
  generalize World.alloc w _ = wa at HG HB HO ⊢
  have f0 : wa.cell? ⟨q1, 0, none⟩ = some (.slice A xs.length cap) := by rw [HB.out.cell]; rfl
  go_upto_block 0 with (go_at_call 34; refine HO.out.mono ?_; rintro e w3 ⟨p, b, rfl, ht, hg⟩; have HT3 := Lib.hid ht; have HG3 := Lib.hid (HG.out.trans hg (fun _ _ h => h)); have HB3 := Lib.hid (HB.out.fr hg (fun h => h)); clear ht hg)
  clear f0 HO
  go_cut [4] (fun s4 wx => s4 = .slice none 0 0 ∧ Hid (wx = w3 ∧ ∀ x ∈ l, badX xs x = false))
  case first =>
    have f3 : w3.cell? ⟨q1, 0, none⟩ = some (.slice A xs.length cap) := by rw [HB3.out.cell]; rfl
    go_wp2_with fail
    go_loopg [4, 28] (l.length + 1) (fun m s4 s28 wr => ∃ k : Nat, s28 = .int .i64 k ∧ s4 = .slice none 0 0 ∧ w3 = wr ∧ Hid (k ≤ l.length ∧ l.length - k < m ∧ ∀ x ∈ l.take k, badX xs x = false))
    case atStart => exact ⟨0, rfl, rfl, rfl, Nat.zero_le _, by omega, fun x hx => by simp at hx⟩
    case round =>
      obtain ⟨k, rfl, rfl, rfl, HK⟩ := hrel
      by_cases hk : k < l.length
      · obtain ⟨ba, oa, rfl, hba, hcell⟩ := (HV0.out.gr HG3.out).at_ (s := 1) (fun _ => rfl) rfl hk
        have d0 := hcell 0 (by omega)
        simp [encI] at d0
        have hki : (k : Int) < l.length := by omega
        have Hk := Lib.hid hk
        obtain ⟨x, hx⟩ : ∃ x, l[k]'hk = x := ⟨_, rfl⟩
        rw [hx] at d0
        have Hmem := Lib.hid (show x ∈ l by rw [← hx]; exact List.getElem_mem hk)
        have Htk := Lib.hid (show badX xs x = false → ∀ y ∈ l.take (k + 1), badX xs y = false from fun hb y hy => by
          rw [List.take_succ_eq_append_getElem hk] at hy
          rcases List.mem_append.1 hy with h | h
          · exact HK.out.2.2 y h
          · simp at h; rw [h, hx, hb])
        have Hbad := Lib.hid (fun (hb : badX xs x = true) => (show stepE xs l = ([], false, 2) by
          unfold stepE
          rw [if_neg (by rw [Hc.out]; decide), if_neg (by have := H4.out; omega), if_pos (List.any_eq_true.2 ⟨x, Hmem.out, hb⟩)]))
        clear hcell hba hx hk
        by_cases h1 : x < 0
        case pos =>
          have Hb := Lib.hid (Hbad.out (show badX xs x = true by unfold badX; rw [decide_eq_true h1]; rfl))
          go_wp2_with fail
          go_ret3
          have he := HE.out
          rw [Hb.out] at he
          injection he with e1 e2
          injection e2 with e2 e3
          subst e1 e2 e3
          exact ⟨_, rfl, OI.nil _ _, HG3.out⟩
        by_cases h2 : (xs.length : Int) ≤ x
        case pos =>
          have Hb := Lib.hid (Hbad.out (show badX xs x = true by unfold badX; rw [decide_eq_true h2, Bool.or_true]))
          have h1' : decide (x < 0) = false := decide_eq_false h1
          clear h1
          go_wp2_with fail
          go_ret3
          have he := HE.out
          rw [Hb.out] at he
          injection he with e1 e2
          injection e2 with e2 e3
          subst e1 e2 e3
          exact ⟨_, rfl, OI.nil _ _, HG3.out⟩
        have Hb := Lib.hid (show badX xs x = false by unfold badX; rw [decide_eq_false h1, decide_eq_false h2]; rfl)
        have h1' : decide (x < 0) = false := decide_eq_false h1
        have h2' : decide ((xs.length : Int) ≤ x) = false := decide_eq_false h2
        clear h1 h2
        go_wp2_with fail
        go_roundg (gk - 1)
        case measure => have := HK.out; have := Hk.out; omega
        case rel => exact ⟨k + 1, by go_num, rfl, rfl, ⟨Hk.out, by have := HK.out; have := Hk.out; omega, Htk.out Hb.out⟩⟩
      · have Hk := Lib.hid (show k = l.length by have := HK.out; omega)
        go_wp2_with fail
        go_meet
        refine ⟨rfl, Lib.hid ⟨rfl, fun x hx => HK.out.2.2 x (by rw [Hk.out, List.take_of_length_le (Nat.le_refl _)]; exact hx)⟩⟩
  case rest =>
  obtain ⟨rfl, hcut⟩ := hcut
  obtain ⟨rfl, hin⟩ := hcut.out
  have Hin := Lib.hid hin
  clear hin hcut
  have Hst := Lib.hid (show stepE xs l = match stepR xs l with | none => (l, false, 0) | some (i, t) => (joined l i t, true, 0) from by
    unfold stepE
    rw [if_neg (by rw [Hc.out]; decide), if_neg (by have := H4.out; omega), if_neg (by rw [List.any_eq_true]; rintro ⟨y, hy, hy2⟩; rw [Hin.out y hy] at hy2; cases hy2)])
  go_upto_block 2 with (fail)
  go_cut [11, 12] (fun s11 s12 wx => s11 = .int .i64 (atE (stepR xs l)) ∧ s12 = .int .i64 (wi (stepR xs l)) ∧ Hid (Gr wc wx))
  case first =>
    go_wp2_with fail
    go_loopg [11, 12, 13] (l.length + 1) (fun m s11 s12 s13 wr => ∃ (k : Nat) (o : Option (Nat × Nat)), s13 = .int .i64 k ∧ s11 = .int .i64 (atE o) ∧ s12 = .int .i64 (wi o) ∧ Hid (k ≤ l.length - 1 ∧ l.length - k < m ∧ scan xs l k = o) ∧ Hid (Gr wc wr))
    case atStart => exact ⟨0, none, rfl, rfl, rfl, ⟨Nat.zero_le _, by omega, rfl⟩, Fr.refl _ _⟩
    case round =>
      obtain ⟨k, o, rfl, rfl, rfl, HK, HD⟩ := hrel
      have f0 : wr.cell? ⟨q1, 0, none⟩ = some (.slice A xs.length cap) := by rw [(HB3.out.fr HD.out (fun h => h)).cell]; rfl
      have HGr := Lib.hid (HG3.out.trans HD.out (fun _ _ h => h))
      by_cases hk : k + 1 < l.length
      · obtain ⟨ba, oa, rfl, hba, hcell⟩ := (HV0.out.gr HGr.out).at_ (s := 1) (fun _ => rfl) rfl (show k < l.length by omega)
        have d0 := hcell 0 (by omega)
        obtain ⟨ba2, oa2, hA2, hba2, hcell2⟩ := (HV0.out.gr HGr.out).at_ (s := 1) (fun _ => rfl) rfl hk
        injection hA2 with hA2
        injection hA2 with e1 e2
        subst e1 e2
        have d1 := hcell2 0 (by omega)
        simp [encI] at d0 d1
        have ex : l[k]'(by omega) = l.getD k 0 := by rw [List.getD_eq_getElem?_getD, List.getElem?_eq_getElem (show k < l.length by omega)]; rfl
        have ey : l[k + 1]'hk = l.getD (k + 1) 0 := by rw [List.getD_eq_getElem?_getD, List.getElem?_eq_getElem hk]; rfl
        have hwx := in_wf hxi (Hin.out _ (List.getElem_mem (show k < l.length by omega)))
        have hwy := in_wf hxi (Hin.out _ (List.getElem_mem hk))
        rw [ex] at d0 hwx
        rw [ey] at d1 hwy
        obtain ⟨x, hx⟩ : ∃ x, l.getD k 0 = x := ⟨_, rfl⟩
        obtain ⟨y, hy⟩ : ∃ y, l.getD (k + 1) 0 = y := ⟨_, rfl⟩
        rw [hx] at d0 hwx
        rw [hy] at d1 hwy
        have HTr := Lib.hid (HT3.out.gr HD.out)
        have hlk := look2 (xs := xs) (b := b) (w := wr.drew) HTr.out.mp HX.out.inv Hw.out hwx hwy
        have t1 : wr.cell? ⟨p, 256, none⟩ = some (.map (some b)) := by rw [HTr.out.blk.cell, tcs_map _ _ _ HTr.out.len]
        have Hsc := Lib.hid (show scan xs l (k + 1) = match fndF x y xs with | none => o | some t => better xs o k t from by
          simp only [scan]
          rw [HK.out.2.2]
          unfold fndAt
          rw [hx, hy]; rfl)
        have hki : (k : Int) + 1 < (l.length : Int) := by omega
        have hw1 : IntKind.i64.wrap ((k : Int) + 1) = (k : Int) + 1 := IntWalk.i64_in _ ⟨by omega, by omega⟩
        have hk1 : ((k : Int) + 1).toNat = k + 1 := by omega
        have hk2 : (k : Int) < (l.length : Int) := by omega
        have hk0 : (0 : Int) ≤ (k : Int) + 1 := by omega
        have Hk := Lib.hid hk
        clear hcell hcell2 hba hba2 ex ey hx hy hk hwx hwy
        cases hf : fndF x y xs with
        | none =>
          rw [hf] at hlk Hsc
          simp only [fndV, Option.isSome_none] at hlk Hsc
          have Hlk := Lib.hid hlk
          clear hf hlk
          go_upto_region 16 with (fail)
          refine wp_region_held_drew (S := fun wx => wx.cell? ⟨p, 256, none⟩ = some (.map (some b)) ∧ wx.cell? ⟨ba, oa + k, none⟩ = some (.int .i64 x) ∧ wx.cell? ⟨ba, oa + (k + 1), none⟩ = some (.int .i64 y)) (by kernel_rfl) ⟨t1, d0, d1⟩ (fun hHeld => ?_)
          refine wpAnyH_take (i := 0) (v := (.pointer (some ⟨p, 0, none⟩))) rfl (by kernel_rfl) (by kernel_rfl) (by kernel_rfl) (fun _ _ _ h => h) (Or.inl ⟨by kernel_rfl, ?_⟩) (by with_reducible assumption) ?_
          focus (intro w hSw; (try dsimp only at hSw); go_simp)
          try simp only [Act.put, List.getElem_toArray, List.getElem_cons_succ, List.getElem_cons_zero, List.setIfInBounds_toArray, List.set_cons_zero, List.set_cons_succ]
          refine wpAnyH_take (i := 1) (v := (.pointer (some ⟨p, 0, none⟩))) rfl (by kernel_rfl) (by kernel_rfl) (by kernel_rfl) (fun _ _ _ h => h) (Or.inl ⟨by kernel_rfl, ?_⟩) (by with_reducible assumption) ?_
          focus (intro w hSw; (try dsimp only at hSw); go_simp)
          try simp only [Act.put, List.getElem_toArray, List.getElem_cons_succ, List.getElem_cons_zero, List.setIfInBounds_toArray, List.set_cons_zero, List.set_cons_succ]
          refine wpAnyH_take (i := 2) (v := (.pointer (some ⟨p, 256, none⟩))) rfl (by kernel_rfl) (by kernel_rfl) (by kernel_rfl) (fun _ _ _ h => h) (Or.inl ⟨by kernel_rfl, ?_⟩) (by with_reducible assumption) ?_
          focus (intro w hSw; (try dsimp only at hSw); go_simp)
          try simp only [Act.put, List.getElem_toArray, List.getElem_cons_succ, List.getElem_cons_zero, List.setIfInBounds_toArray, List.set_cons_zero, List.set_cons_succ]
          refine wpAnyH_take (i := 3) (v := (.map (some b))) rfl (by kernel_rfl) (by kernel_rfl) (by kernel_rfl) (fun _ _ _ h => h) (Or.inl ⟨by kernel_rfl, ?_⟩) (by with_reducible assumption) ?_
          focus (intro w hSw; (try dsimp only at hSw); go_simp)
          try simp only [Act.put, List.getElem_toArray, List.getElem_cons_succ, List.getElem_cons_zero, List.setIfInBounds_toArray, List.set_cons_zero, List.set_cons_succ]
          refine wpAnyH_take (i := 4) (v := (.slice (some ⟨ba, oa, none⟩) l.length cap2)) rfl (by kernel_rfl) (by kernel_rfl) (by kernel_rfl) (fun _ _ _ h => h) (Or.inl ⟨by kernel_rfl, ?_⟩) (by with_reducible assumption) ?_
          focus (intro w hSw; (try dsimp only at hSw); go_simp)
          try simp only [Act.put, List.getElem_toArray, List.getElem_cons_succ, List.getElem_cons_zero, List.setIfInBounds_toArray, List.set_cons_zero, List.set_cons_succ]
          refine wpAnyH_take (i := 5) (v := (.int .i64 (k : Int))) rfl (by kernel_rfl) (by kernel_rfl) (by kernel_rfl) (fun _ _ _ h => h) (Or.inl ⟨by kernel_rfl, ?_⟩) (by with_reducible assumption) ?_
          focus (intro w hSw; (try dsimp only at hSw); go_simp)
          try simp only [Act.put, List.getElem_toArray, List.getElem_cons_succ, List.getElem_cons_zero, List.setIfInBounds_toArray, List.set_cons_zero, List.set_cons_succ]
          refine wpAnyH_take (i := 6) (v := (.pointer (some ⟨ba, oa + k, none⟩))) rfl (by kernel_rfl) (by kernel_rfl) (by kernel_rfl) (fun _ _ _ h => h) (Or.inl ⟨by kernel_rfl, ?_⟩) (by with_reducible assumption) ?_
          focus (intro w hSw; (try dsimp only at hSw); go_simp)
          try simp only [Act.put, List.getElem_toArray, List.getElem_cons_succ, List.getElem_cons_zero, List.setIfInBounds_toArray, List.set_cons_zero, List.set_cons_succ]
          refine wpAnyH_take (i := 7) (v := (.int .i64 x)) rfl (by kernel_rfl) (by kernel_rfl) (by kernel_rfl) (fun _ _ _ h => h) (Or.inl ⟨by kernel_rfl, ?_⟩) (by with_reducible assumption) ?_
          focus (intro w hSw; (try dsimp only at hSw); go_simp)
          try simp only [Act.put, List.getElem_toArray, List.getElem_cons_succ, List.getElem_cons_zero, List.setIfInBounds_toArray, List.set_cons_zero, List.set_cons_succ]
          refine wpAnyH_take (i := 8) (v := (.slice (some ⟨ba, oa, none⟩) l.length cap2)) rfl (by kernel_rfl) (by kernel_rfl) (by kernel_rfl) (fun _ _ _ h => h) (Or.inl ⟨by kernel_rfl, ?_⟩) (by with_reducible assumption) ?_
          focus (intro w hSw; (try dsimp only at hSw); go_simp)
          try simp only [Act.put, List.getElem_toArray, List.getElem_cons_succ, List.getElem_cons_zero, List.setIfInBounds_toArray, List.set_cons_zero, List.set_cons_succ]
          refine wpAnyH_take (i := 9) (v := (.int .i64 (k : Int))) rfl (by kernel_rfl) (by kernel_rfl) (by kernel_rfl) (fun _ _ _ h => h) (Or.inl ⟨by kernel_rfl, ?_⟩) (by with_reducible assumption) ?_
          focus (intro w hSw; (try dsimp only at hSw); go_simp)
          try simp only [Act.put, List.getElem_toArray, List.getElem_cons_succ, List.getElem_cons_zero, List.setIfInBounds_toArray, List.set_cons_zero, List.set_cons_succ]
          refine wpAnyH_take (i := 10) (v := (.int .i64 ((k : Int) + 1))) rfl (by kernel_rfl) (by kernel_rfl) (by kernel_rfl) (fun _ _ _ h => h) (Or.inl ⟨by kernel_rfl, ?_⟩) (by with_reducible assumption) ?_
          focus (intro w hSw; (try dsimp only at hSw); go_simp)
          try simp only [Act.put, List.getElem_toArray, List.getElem_cons_succ, List.getElem_cons_zero, List.setIfInBounds_toArray, List.set_cons_zero, List.set_cons_succ]
          refine wpAnyH_take (i := 11) (v := (.pointer (some ⟨ba, oa + (k + 1), none⟩))) rfl (by kernel_rfl) (by kernel_rfl) (by kernel_rfl) (fun _ _ _ h => h) (Or.inl ⟨by kernel_rfl, ?_⟩) (by with_reducible assumption) ?_
          focus (intro w hSw; (try dsimp only at hSw); go_simp)
          try simp only [Act.put, List.getElem_toArray, List.getElem_cons_succ, List.getElem_cons_zero, List.setIfInBounds_toArray, List.set_cons_zero, List.set_cons_succ]
          refine wpAnyH_take (i := 12) (v := (.int .i64 y)) rfl (by kernel_rfl) (by kernel_rfl) (by kernel_rfl) (fun _ _ _ h => h) (Or.inl ⟨by kernel_rfl, ?_⟩) (by with_reducible assumption) ?_
          focus (intro w hSw; (try dsimp only at hSw); go_simp)
          try simp only [Act.put, List.getElem_toArray, List.getElem_cons_succ, List.getElem_cons_zero, List.setIfInBounds_toArray, List.set_cons_zero, List.set_cons_succ]
          refine wpAnyH_take (i := 13) (v := (.agg #[.int .i64 x, .int .i64 y])) rfl (by kernel_rfl) (by kernel_rfl) (by kernel_rfl) (fun _ _ _ h => h) (Or.inl ⟨by kernel_rfl, ?_⟩) (by with_reducible assumption) ?_
          focus (intro w hSw; (try dsimp only at hSw); go_simp)
          try simp only [Act.put, List.getElem_toArray, List.getElem_cons_succ, List.getElem_cons_zero, List.setIfInBounds_toArray, List.set_cons_zero, List.set_cons_succ]
          refine wpAnyH_ready (rs := [14]) (by kernel_rfl) (by simp) ?_
          refine AllReadyH.cons rfl ?_ AllReadyH.nil
          intro K hK
          refine step_lookup (by rfl) (.tmp 53) (.tmp 63) MT2 (by rfl) (.map (some b)) (.agg #[.int .i64 x, .int .i64 y]) (by rfl) (by rfl) _ _ Hlk.out ?_
          refine hK.out _ _ hHeld (fun _ => ?_)
          clear hK K
          try simp only [Act.put, List.getElem_toArray, List.getElem_cons_succ, List.getElem_cons_zero, List.setIfInBounds_toArray, List.set_cons_zero, List.set_cons_succ]
          refine wpAnyH_take (i := 15) (v := (.tuple #[.int .i64 0, .bool false])) rfl (by kernel_rfl) (by kernel_rfl) (by kernel_rfl) (fun _ _ _ h => h) (Or.inl ⟨by kernel_rfl, ?_⟩) (by with_reducible assumption) ?_
          focus (intro w hSw; (try dsimp only at hSw); go_simp)
          try simp only [Act.put, List.getElem_toArray, List.getElem_cons_succ, List.getElem_cons_zero, List.setIfInBounds_toArray, List.set_cons_zero, List.set_cons_succ]
          refine wpAnyH_take (i := 16) (v := (.int .i64 0)) rfl (by kernel_rfl) (by kernel_rfl) (by kernel_rfl) (fun _ _ _ h => h) (Or.inl ⟨by kernel_rfl, ?_⟩) (by with_reducible assumption) ?_
          focus (intro w hSw; (try dsimp only at hSw); go_simp)
          try simp only [Act.put, List.getElem_toArray, List.getElem_cons_succ, List.getElem_cons_zero, List.setIfInBounds_toArray, List.set_cons_zero, List.set_cons_succ]
          refine wpAnyH_take (i := 17) (v := (.bool false)) rfl (by kernel_rfl) (by kernel_rfl) (by kernel_rfl) (fun _ _ _ h => h) (Or.inl ⟨by kernel_rfl, ?_⟩) (by with_reducible assumption) ?_
          focus (intro w hSw; (try dsimp only at hSw); go_simp)
          try simp only [Act.put, List.getElem_toArray, List.getElem_cons_succ, List.getElem_cons_zero, List.setIfInBounds_toArray, List.set_cons_zero, List.set_cons_succ]
          refine wpAnyH_take (i := 18) (v := (.int .i64 0)) rfl (by kernel_rfl) (by kernel_rfl) (by kernel_rfl) (fun _ _ _ h => h) (Or.inl ⟨by kernel_rfl, ?_⟩) (by with_reducible assumption) ?_
          focus (intro w hSw; (try dsimp only at hSw); go_simp)
          try simp only [Act.put, List.getElem_toArray, List.getElem_cons_succ, List.getElem_cons_zero, List.setIfInBounds_toArray, List.set_cons_zero, List.set_cons_succ]
          refine wpAnyH_take (i := 19) (v := (.bool false)) rfl (by kernel_rfl) (by kernel_rfl) (by kernel_rfl) (fun _ _ _ h => h) (Or.inl ⟨by kernel_rfl, ?_⟩) (by with_reducible assumption) ?_
          focus (intro w hSw; (try dsimp only at hSw); go_simp)
          try simp only [Act.put, List.getElem_toArray, List.getElem_cons_succ, List.getElem_cons_zero, List.setIfInBounds_toArray, List.set_cons_zero, List.set_cons_succ]
          refine wpAnyH_done (by kernel_rfl) ?_ _
          clear hHeld t1 d0 d1 hw1 hk1 hk0
          go_upto_region 17 with (fail)
          go_quiet (fail)
          go_wp2_with fail
          go_roundg (gk - 1)
          case measure => have := HK.out; have := Hk.out; omega
          case rel => exact ⟨k + 1, o, by go_num, rfl, rfl, ⟨by have := Hk.out; omega, by have := HK.out; have := Hk.out; omega, Hsc.out⟩, HD.out.drewN _⟩
        | some t =>
          rw [hf] at hlk Hsc
          simp only [fndV, Option.isSome_some] at hlk Hsc
          have Hlk := Lib.hid hlk
          have Htl := Lib.hid (show t < xs.length from by
            obtain ⟨q, h1, _⟩ := fndF_some xs t hf
            exact (List.getElem?_eq_some_iff.1 h1).1)
          clear hf hlk
          go_upto_region 16 with (fail)
          refine wp_region_held_drew (S := fun wx => wx.cell? ⟨p, 256, none⟩ = some (.map (some b)) ∧ wx.cell? ⟨ba, oa + k, none⟩ = some (.int .i64 x) ∧ wx.cell? ⟨ba, oa + (k + 1), none⟩ = some (.int .i64 y)) (by kernel_rfl) ⟨t1, d0, d1⟩ (fun hHeld => ?_)
          refine wpAnyH_take (i := 0) (v := (.pointer (some ⟨p, 0, none⟩))) rfl (by kernel_rfl) (by kernel_rfl) (by kernel_rfl) (fun _ _ _ h => h) (Or.inl ⟨by kernel_rfl, ?_⟩) (by with_reducible assumption) ?_
          focus (intro w hSw; (try dsimp only at hSw); go_simp)
          try simp only [Act.put, List.getElem_toArray, List.getElem_cons_succ, List.getElem_cons_zero, List.setIfInBounds_toArray, List.set_cons_zero, List.set_cons_succ]
          refine wpAnyH_take (i := 1) (v := (.pointer (some ⟨p, 0, none⟩))) rfl (by kernel_rfl) (by kernel_rfl) (by kernel_rfl) (fun _ _ _ h => h) (Or.inl ⟨by kernel_rfl, ?_⟩) (by with_reducible assumption) ?_
          focus (intro w hSw; (try dsimp only at hSw); go_simp)
          try simp only [Act.put, List.getElem_toArray, List.getElem_cons_succ, List.getElem_cons_zero, List.setIfInBounds_toArray, List.set_cons_zero, List.set_cons_succ]
          refine wpAnyH_take (i := 2) (v := (.pointer (some ⟨p, 256, none⟩))) rfl (by kernel_rfl) (by kernel_rfl) (by kernel_rfl) (fun _ _ _ h => h) (Or.inl ⟨by kernel_rfl, ?_⟩) (by with_reducible assumption) ?_
          focus (intro w hSw; (try dsimp only at hSw); go_simp)
          try simp only [Act.put, List.getElem_toArray, List.getElem_cons_succ, List.getElem_cons_zero, List.setIfInBounds_toArray, List.set_cons_zero, List.set_cons_succ]
          refine wpAnyH_take (i := 3) (v := (.map (some b))) rfl (by kernel_rfl) (by kernel_rfl) (by kernel_rfl) (fun _ _ _ h => h) (Or.inl ⟨by kernel_rfl, ?_⟩) (by with_reducible assumption) ?_
          focus (intro w hSw; (try dsimp only at hSw); go_simp)
          try simp only [Act.put, List.getElem_toArray, List.getElem_cons_succ, List.getElem_cons_zero, List.setIfInBounds_toArray, List.set_cons_zero, List.set_cons_succ]
          refine wpAnyH_take (i := 4) (v := (.slice (some ⟨ba, oa, none⟩) l.length cap2)) rfl (by kernel_rfl) (by kernel_rfl) (by kernel_rfl) (fun _ _ _ h => h) (Or.inl ⟨by kernel_rfl, ?_⟩) (by with_reducible assumption) ?_
          focus (intro w hSw; (try dsimp only at hSw); go_simp)
          try simp only [Act.put, List.getElem_toArray, List.getElem_cons_succ, List.getElem_cons_zero, List.setIfInBounds_toArray, List.set_cons_zero, List.set_cons_succ]
          refine wpAnyH_take (i := 5) (v := (.int .i64 (k : Int))) rfl (by kernel_rfl) (by kernel_rfl) (by kernel_rfl) (fun _ _ _ h => h) (Or.inl ⟨by kernel_rfl, ?_⟩) (by with_reducible assumption) ?_
          focus (intro w hSw; (try dsimp only at hSw); go_simp)
          try simp only [Act.put, List.getElem_toArray, List.getElem_cons_succ, List.getElem_cons_zero, List.setIfInBounds_toArray, List.set_cons_zero, List.set_cons_succ]
          refine wpAnyH_take (i := 6) (v := (.pointer (some ⟨ba, oa + k, none⟩))) rfl (by kernel_rfl) (by kernel_rfl) (by kernel_rfl) (fun _ _ _ h => h) (Or.inl ⟨by kernel_rfl, ?_⟩) (by with_reducible assumption) ?_
          focus (intro w hSw; (try dsimp only at hSw); go_simp)
          try simp only [Act.put, List.getElem_toArray, List.getElem_cons_succ, List.getElem_cons_zero, List.setIfInBounds_toArray, List.set_cons_zero, List.set_cons_succ]
          refine wpAnyH_take (i := 7) (v := (.int .i64 x)) rfl (by kernel_rfl) (by kernel_rfl) (by kernel_rfl) (fun _ _ _ h => h) (Or.inl ⟨by kernel_rfl, ?_⟩) (by with_reducible assumption) ?_
          focus (intro w hSw; (try dsimp only at hSw); go_simp)
          try simp only [Act.put, List.getElem_toArray, List.getElem_cons_succ, List.getElem_cons_zero, List.setIfInBounds_toArray, List.set_cons_zero, List.set_cons_succ]
          refine wpAnyH_take (i := 8) (v := (.slice (some ⟨ba, oa, none⟩) l.length cap2)) rfl (by kernel_rfl) (by kernel_rfl) (by kernel_rfl) (fun _ _ _ h => h) (Or.inl ⟨by kernel_rfl, ?_⟩) (by with_reducible assumption) ?_
          focus (intro w hSw; (try dsimp only at hSw); go_simp)
          try simp only [Act.put, List.getElem_toArray, List.getElem_cons_succ, List.getElem_cons_zero, List.setIfInBounds_toArray, List.set_cons_zero, List.set_cons_succ]
          refine wpAnyH_take (i := 9) (v := (.int .i64 (k : Int))) rfl (by kernel_rfl) (by kernel_rfl) (by kernel_rfl) (fun _ _ _ h => h) (Or.inl ⟨by kernel_rfl, ?_⟩) (by with_reducible assumption) ?_
          focus (intro w hSw; (try dsimp only at hSw); go_simp)
          try simp only [Act.put, List.getElem_toArray, List.getElem_cons_succ, List.getElem_cons_zero, List.setIfInBounds_toArray, List.set_cons_zero, List.set_cons_succ]
          refine wpAnyH_take (i := 10) (v := (.int .i64 ((k : Int) + 1))) rfl (by kernel_rfl) (by kernel_rfl) (by kernel_rfl) (fun _ _ _ h => h) (Or.inl ⟨by kernel_rfl, ?_⟩) (by with_reducible assumption) ?_
          focus (intro w hSw; (try dsimp only at hSw); go_simp)
          try simp only [Act.put, List.getElem_toArray, List.getElem_cons_succ, List.getElem_cons_zero, List.setIfInBounds_toArray, List.set_cons_zero, List.set_cons_succ]
          refine wpAnyH_take (i := 11) (v := (.pointer (some ⟨ba, oa + (k + 1), none⟩))) rfl (by kernel_rfl) (by kernel_rfl) (by kernel_rfl) (fun _ _ _ h => h) (Or.inl ⟨by kernel_rfl, ?_⟩) (by with_reducible assumption) ?_
          focus (intro w hSw; (try dsimp only at hSw); go_simp)
          try simp only [Act.put, List.getElem_toArray, List.getElem_cons_succ, List.getElem_cons_zero, List.setIfInBounds_toArray, List.set_cons_zero, List.set_cons_succ]
          refine wpAnyH_take (i := 12) (v := (.int .i64 y)) rfl (by kernel_rfl) (by kernel_rfl) (by kernel_rfl) (fun _ _ _ h => h) (Or.inl ⟨by kernel_rfl, ?_⟩) (by with_reducible assumption) ?_
          focus (intro w hSw; (try dsimp only at hSw); go_simp)
          try simp only [Act.put, List.getElem_toArray, List.getElem_cons_succ, List.getElem_cons_zero, List.setIfInBounds_toArray, List.set_cons_zero, List.set_cons_succ]
          refine wpAnyH_take (i := 13) (v := (.agg #[.int .i64 x, .int .i64 y])) rfl (by kernel_rfl) (by kernel_rfl) (by kernel_rfl) (fun _ _ _ h => h) (Or.inl ⟨by kernel_rfl, ?_⟩) (by with_reducible assumption) ?_
          focus (intro w hSw; (try dsimp only at hSw); go_simp)
          try simp only [Act.put, List.getElem_toArray, List.getElem_cons_succ, List.getElem_cons_zero, List.setIfInBounds_toArray, List.set_cons_zero, List.set_cons_succ]
          refine wpAnyH_ready (rs := [14]) (by kernel_rfl) (by simp) ?_
          refine AllReadyH.cons rfl ?_ AllReadyH.nil
          intro K hK
          refine step_lookup (by rfl) (.tmp 53) (.tmp 63) MT2 (by rfl) (.map (some b)) (.agg #[.int .i64 x, .int .i64 y]) (by rfl) (by rfl) _ _ Hlk.out ?_
          refine hK.out _ _ hHeld (fun _ => ?_)
          clear hK K
          try simp only [Act.put, List.getElem_toArray, List.getElem_cons_succ, List.getElem_cons_zero, List.setIfInBounds_toArray, List.set_cons_zero, List.set_cons_succ]
          refine wpAnyH_take (i := 15) (v := (.tuple #[.int .i64 (t : Int), .bool true])) rfl (by kernel_rfl) (by kernel_rfl) (by kernel_rfl) (fun _ _ _ h => h) (Or.inl ⟨by kernel_rfl, ?_⟩) (by with_reducible assumption) ?_
          focus (intro w hSw; (try dsimp only at hSw); go_simp)
          try simp only [Act.put, List.getElem_toArray, List.getElem_cons_succ, List.getElem_cons_zero, List.setIfInBounds_toArray, List.set_cons_zero, List.set_cons_succ]
          refine wpAnyH_take (i := 16) (v := (.int .i64 (t : Int))) rfl (by kernel_rfl) (by kernel_rfl) (by kernel_rfl) (fun _ _ _ h => h) (Or.inl ⟨by kernel_rfl, ?_⟩) (by with_reducible assumption) ?_
          focus (intro w hSw; (try dsimp only at hSw); go_simp)
          try simp only [Act.put, List.getElem_toArray, List.getElem_cons_succ, List.getElem_cons_zero, List.setIfInBounds_toArray, List.set_cons_zero, List.set_cons_succ]
          refine wpAnyH_take (i := 17) (v := (.bool true)) rfl (by kernel_rfl) (by kernel_rfl) (by kernel_rfl) (fun _ _ _ h => h) (Or.inl ⟨by kernel_rfl, ?_⟩) (by with_reducible assumption) ?_
          focus (intro w hSw; (try dsimp only at hSw); go_simp)
          try simp only [Act.put, List.getElem_toArray, List.getElem_cons_succ, List.getElem_cons_zero, List.setIfInBounds_toArray, List.set_cons_zero, List.set_cons_succ]
          refine wpAnyH_take (i := 18) (v := (.int .i64 (t : Int))) rfl (by kernel_rfl) (by kernel_rfl) (by kernel_rfl) (fun _ _ _ h => h) (Or.inl ⟨by kernel_rfl, ?_⟩) (by with_reducible assumption) ?_
          focus (intro w hSw; (try dsimp only at hSw); go_simp)
          try simp only [Act.put, List.getElem_toArray, List.getElem_cons_succ, List.getElem_cons_zero, List.setIfInBounds_toArray, List.set_cons_zero, List.set_cons_succ]
          refine wpAnyH_take (i := 19) (v := (.bool true)) rfl (by kernel_rfl) (by kernel_rfl) (by kernel_rfl) (fun _ _ _ h => h) (Or.inl ⟨by kernel_rfl, ?_⟩) (by with_reducible assumption) ?_
          focus (intro w hSw; (try dsimp only at hSw); go_simp)
          try simp only [Act.put, List.getElem_toArray, List.getElem_cons_succ, List.getElem_cons_zero, List.setIfInBounds_toArray, List.set_cons_zero, List.set_cons_succ]
          refine wpAnyH_done (by kernel_rfl) ?_ _
          clear hHeld t1 d0 d1 hw1 hk1 hk0
          obtain ⟨bv, ov, rfl, hbv, hcv⟩ := (HS0.out.gr HGr.out).at_ (s := 5) (fun _ => rfl) rfl Htl.out
          have r4 := hcv 4 (by omega)
          have hrk : rk xs t = (xs[t]'Htl.out).k := by unfold rk; rw [List.getElem?_eq_getElem Htl.out]
          simp [encP] at r4
          rw [← hrk, ← Nat.add_assoc] at r4
          have hti : (t : Int) < (xs.length : Int) := by have := Htl.out; omega
          clear hrk hcv
          cases ho : o with
          | none =>
            subst ho
            simp only [better] at Hsc
            simp only [atE, wi]
            clear r4
            go_upto_region 17 with (fail)
            go_quiet (fail)
            go_wp2_with fail
            go_roundg (gk - 1)
            case measure => have := HK.out; have := Hk.out; omega
            case rel => exact ⟨k + 1, some (k, t), by go_num, rfl, rfl, ⟨by have := Hk.out; omega, by have := HK.out; have := Hk.out; omega, Hsc.out⟩, HD.out.drewN _⟩
          | some ab =>
            obtain ⟨a, b2⟩ := ab
            subst ho
            simp only [better] at Hsc
            have Hbl := Lib.hid (scan_lt HK.out.2.2)
            obtain ⟨bv2, ov2, hA2, _, hcv⟩ := (HS0.out.gr HGr.out).at_ (s := 5) (fun _ => rfl) rfl Hbl.out
            injection hA2 with hA2
            injection hA2 with e1 e2
            subst e1 e2
            have s4 := hcv 4 (by omega)
            have hrk : rk xs b2 = (xs[b2]'Hbl.out).k := by unfold rk; rw [List.getElem?_eq_getElem Hbl.out]
            simp [encP] at s4
            rw [← hrk, ← Nat.add_assoc] at s4
            have hbi : (b2 : Int) < (xs.length : Int) := by have := Hbl.out; omega
            have ha0 : decide ((a : Int) < 0) = false := decide_eq_false (by omega)
            clear hrk hcv
            simp only [atE, wi]
            generalize rk xs t = r1 at r4 Hsc
            generalize rk xs b2 = r2 at s4 Hsc
            by_cases hr : r1 < r2
            · rw [if_pos hr] at Hsc
              have hr1 : decide (r1 < r2) = true := decide_eq_true hr
              clear hr
              go_upto_region 17 with (fail)
              go_quiet (fail)
              go_wp2_with fail
              go_roundg (gk - 1)
              case measure => have := HK.out; have := Hk.out; omega
              case rel => exact ⟨k + 1, some (k, t), by go_num, rfl, rfl, ⟨by have := Hk.out; omega, by have := HK.out; have := Hk.out; omega, Hsc.out⟩, HD.out.drewN _⟩
            · rw [if_neg hr] at Hsc
              have hr1 : decide (r1 < r2) = false := decide_eq_false hr
              clear hr
              go_upto_region 17 with (fail)
              go_quiet (fail)
              go_wp2_with fail
              go_roundg (gk - 1)
              case measure => have := HK.out; have := Hk.out; omega
              case rel => exact ⟨k + 1, some (a, b2), by go_num, rfl, rfl, ⟨by have := Hk.out; omega, by have := HK.out; have := Hk.out; omega, Hsc.out⟩, HD.out.drewN _⟩
      · have hk1 : decide ((k : Int) + 1 < (l.length : Int)) = false := decide_eq_false (by omega)
        have hk2 : (l.length : Int) ≤ (k : Int) + 1 := by omega
        have hkb : (k : Int) ≤ 1048576 := by have := HK.out; omega
        have Hk := Lib.hid (show o = stepR xs l from by rw [← HK.out.2.2]; unfold stepR; rw [show l.length - 1 = k by have := HK.out; omega])
        go_wp2_with fail
        go_meet
        rw [← Hk.out]
        exact ⟨rfl, rfl, HD⟩
  case rest =>
  obtain ⟨rfl, rfl, HGc⟩ := hcut
  obtain ⟨i1, hi1, hx0, hx1, hx2⟩ := info_parts info_int
  have HGx := Lib.hid (show Gr w wc from HG3.out.trans HGc.out (fun _ _ h => h))
  go_upto_region 20 with (
    at_builtin
    refine wpList_append_st _ encI rfl (.tmp 89) (.tmp 90) 28 rfl w.heap.size TI i1 (.int .i64 0) 1 8 Try.underlying28 hi1 hx0 hx1 hx2 rfl (by decide) (.slice none 0 0) 0 [] rfl (World.ownsRow_nil _ _ _ _) (.slice A2 l.length cap2) l rfl (HV0.out.gr HGx.out) (fun _ => rfl) encI_1 (by have := H4.out; unfold maxLen; omega) (by have := H4.out; omega) HGx.out.size ?_
    intro v3 w4 hown3 hg3 hat3 hsp3
    rw [Nat.zero_add, List.nil_append] at hown3
    have hown3' := hown3
    obtain ⟨A4, cap4, rfl⟩ := own_formN hown3
    have HG4 := Lib.hid (show Gr w w4 from HGx.out.trans hg3 (fun _ _ h => by simp [Value.ownBlock] at h))
    have HO4 := Lib.hid (show OI w4 w.heap.size (.slice A4 l.length cap4) l from by
      have h := (OI.nil wc w.heap.size).app (m := l) (Fr.refl wc NoneS) (by simpa using hown3') hsp3
      simpa using h)
    clear hown3 hown3' hg3 hat3 hsp3)
  cases ho : stepR xs l with
  | none =>
    simp only [atE, wi]
    go_wp2_with fail
    go_ret3
    have he := HE.out
    rw [Hst.out, ho] at he
    injection he with e1 e2
    injection e2 with e2 e3
    subst e1 e2 e3
    exact ⟨_, rfl, HO4.out, HG4.out⟩
  | some it =>
    obtain ⟨i, t⟩ := it
    have Hi := Lib.hid (stepR_lt ho)
    have Hst2 := Lib.hid (show (L, D, E) = (joined l i t, true, 0) from by
      rw [← HE.out, Hst.out, ho])
    clear ho
    simp only [atE, wi]
    have ha0 : decide ((i : Int) < 0) = false := decide_eq_false (by omega)
    go_upto_region 22 with (fail)
    obtain ⟨g, hAg⟩ : ∃ g, A4 = some ⟨g, 0, none⟩ := by
      rcases HO4.out.own.2 with ⟨h1, _⟩ | ⟨g, cap, cur, h1, _⟩
      · injection h1 with _ h1
        have := Hi.out
        omega
      · injection h1 with h1
        exact ⟨g, h1⟩
    subst hAg
    obtain ⟨hgb, cur, hbl⟩ := HO4.out.blkx
    have f4 := HO4.out.cell (i := i) (by have := Hi.out; omega)
    have z4 := hbl.frozen i
    have hii : (i : Int) + 1 < (l.length : Int) := by have := Hi.out; omega
    have HO5 := Lib.hid (HO4.out.set (i := i) (by have := Hi.out; omega) (t : Int))
    have HG5 := Lib.hid (HG4.out.setCell (p := ⟨g, i, none⟩) (fun h => absurd h (Nat.not_lt.2 hgb)) (.int .i64 (t : Int)))
    have Hgb := Lib.hid hgb
    clear hbl hgb
    go_upto_region 23 with (fail)
    generalize World.setCell w4 _ _ = w5 at HO5 HG5 ⊢
    clear f4 z4
    have Hl2 := Lib.hid (show (l.set i (t : Int)).length = l.length from List.length_set)
    have Hjs := Lib.hid (joined_set t Hi.out)
    obtain ⟨l2, hl2⟩ : ∃ l2, l.set i (t : Int) = l2 := ⟨_, rfl⟩
    rw [hl2] at HO5 Hl2 Hjs
    clear hl2
    obtain ⟨j1, hj1⟩ : ∃ j1, i + 1 = j1 := ⟨_, rfl⟩
    obtain ⟨j2, hj2⟩ : ∃ j2, i + 2 = j2 := ⟨_, rfl⟩
    have e1 : (i : Int) + 1 = (j1 : Int) := by omega
    have e2 : (i : Int) + 2 = (j2 : Int) := by omega
    have HJ := Lib.hid (And.intro hj1 hj2)
    rw [hj1, hj2] at Hjs
    have HV5 := HO5.out.sl
    rw [← Hl2.out] at HV5
    have hcap : l2.length ≤ cap4 := by
      obtain ⟨A5, c5, hv5, hcap⟩ := HV5.len
      injection hv5 with _ _ hv5
      subst hv5
      exact hcap
    clear HV5
    have hw1 : IntKind.i64.wrap ((i : Int) + 1) = (i : Int) + 1 := IntWalk.i64_in _ ⟨by omega, by omega⟩
    have hw2 : IntKind.i64.wrap ((i : Int) + 2) = (i : Int) + 2 := IntWalk.i64_in _ ⟨by omega, by omega⟩
    have hs1 : ∀ w, (Instr.slice 28 (.slice (some ⟨g, 0, none⟩) l.length cap4) none (some (.int .i64 ((i : Int) + 1))) none).run Try.prog w = .ok (.slice (some ⟨g, 0, none⟩) j1 cap4) w := fun w => by
      rw [e1]
      exact run_slice_to (P := Try.prog) 28 TI i1 Try.underlying28 hi1 (some ⟨g, 0, none⟩) l.length cap4 j1 (by have := Hl2.out; omega) w
    obtain ⟨vt, hs2, hsl2⟩ : ∃ vt, (∀ w, (Instr.slice 28 (.slice (some ⟨g, 0, none⟩) l.length cap4) (some (.int .i64 ((i : Int) + 2))) none none).run Try.prog w = .ok vt w) ∧ SL encI w5 vt (l2.drop j2) :=
      ⟨_, fun w => by rw [e2]; exact run_slice_from 28 TI i1 1 Try.underlying28 hi1 hx1 (some ⟨g, 0, none⟩) l.length cap4 j2 (by omega) w, HO5.out.sl.from_ (fun _ => rfl) (by omega)⟩
    have HSL2 := Lib.hid hsl2
    have HT5 := Lib.hid (HO5.out.take (k := j1) (by have := Hl2.out; omega))
    have Hlt := Lib.hid (show (l2.take j1).length = j1 by rw [List.length_take]; have := Hl2.out; omega)
    clear hsl2 hcap hj1 hj2 e1 e2
    refine wp_region_held_drew (S := fun wx => Hid True) (by kernel_rfl) (Lib.hid trivial) (fun hHeld => ?_)
    refine wpAnyH_take (i := 0) (v := (.slice (some ⟨g, 0, none⟩) l.length cap4)) rfl (by kernel_rfl) (by kernel_rfl) (by kernel_rfl) (fun _ _ _ h => h) (Or.inl ⟨by kernel_rfl, ?_⟩) (by with_reducible assumption) ?_
    focus (intro w hSw; (try dsimp only at hSw); go_simp)
    try simp only [Act.put, List.getElem_toArray, List.getElem_cons_succ, List.getElem_cons_zero, List.setIfInBounds_toArray, List.set_cons_zero, List.set_cons_succ]
    refine wpAnyH_take (i := 1) (v := (.int .i64 (i : Int))) rfl (by kernel_rfl) (by kernel_rfl) (by kernel_rfl) (fun _ _ _ h => h) (Or.inl ⟨by kernel_rfl, ?_⟩) (by with_reducible assumption) ?_
    focus (intro w hSw; (try dsimp only at hSw); go_simp)
    try simp only [Act.put, List.getElem_toArray, List.getElem_cons_succ, List.getElem_cons_zero, List.setIfInBounds_toArray, List.set_cons_zero, List.set_cons_succ]
    refine wpAnyH_take (i := 2) (v := (.int .i64 ((i : Int) + 1))) rfl (by kernel_rfl) (by kernel_rfl) (by kernel_rfl) (fun _ _ _ h => h) (Or.inl ⟨by kernel_rfl, ?_⟩) (by with_reducible assumption) ?_
    focus (intro w hSw; (try dsimp only at hSw); go_simp)
    try simp only [Act.put, List.getElem_toArray, List.getElem_cons_succ, List.getElem_cons_zero, List.setIfInBounds_toArray, List.set_cons_zero, List.set_cons_succ]
    refine wpAnyH_take (i := 3) (v := (.slice (some ⟨g, 0, none⟩) j1 cap4)) rfl (by kernel_rfl) (by kernel_rfl) (by kernel_rfl) (fun _ _ _ h => h) (Or.inl ⟨by kernel_rfl, ?_⟩) (by with_reducible assumption) ?_
    focus (intro w hSw; (try dsimp only at hSw); go_simp)
    try simp only [Act.put, List.getElem_toArray, List.getElem_cons_succ, List.getElem_cons_zero, List.setIfInBounds_toArray, List.set_cons_zero, List.set_cons_succ]
    refine wpAnyH_take (i := 4) (v := (.slice (some ⟨g, 0, none⟩) l.length cap4)) rfl (by kernel_rfl) (by kernel_rfl) (by kernel_rfl) (fun _ _ _ h => h) (Or.inl ⟨by kernel_rfl, ?_⟩) (by with_reducible assumption) ?_
    focus (intro w hSw; (try dsimp only at hSw); go_simp)
    try simp only [Act.put, List.getElem_toArray, List.getElem_cons_succ, List.getElem_cons_zero, List.setIfInBounds_toArray, List.set_cons_zero, List.set_cons_succ]
    refine wpAnyH_take (i := 5) (v := (.int .i64 (i : Int))) rfl (by kernel_rfl) (by kernel_rfl) (by kernel_rfl) (fun _ _ _ h => h) (Or.inl ⟨by kernel_rfl, ?_⟩) (by with_reducible assumption) ?_
    focus (intro w hSw; (try dsimp only at hSw); go_simp)
    try simp only [Act.put, List.getElem_toArray, List.getElem_cons_succ, List.getElem_cons_zero, List.setIfInBounds_toArray, List.set_cons_zero, List.set_cons_succ]
    refine wpAnyH_take (i := 6) (v := (.int .i64 ((i : Int) + 2))) rfl (by kernel_rfl) (by kernel_rfl) (by kernel_rfl) (fun _ _ _ h => h) (Or.inl ⟨by kernel_rfl, ?_⟩) (by with_reducible assumption) ?_
    focus (intro w hSw; (try dsimp only at hSw); go_simp)
    try simp only [Act.put, List.getElem_toArray, List.getElem_cons_succ, List.getElem_cons_zero, List.setIfInBounds_toArray, List.set_cons_zero, List.set_cons_succ]
    refine wpAnyH_take (i := 7) (v := vt) rfl (by kernel_rfl) (by kernel_rfl) (by kernel_rfl) (fun _ _ _ h => h) (Or.inl ⟨by kernel_rfl, ?_⟩) (by with_reducible assumption) ?_
    focus (intro w hSw; (try dsimp only at hSw); go_simp)
    try simp only [Act.put, List.getElem_toArray, List.getElem_cons_succ, List.getElem_cons_zero, List.setIfInBounds_toArray, List.set_cons_zero, List.set_cons_succ]
    refine wpAnyH_ready (rs := [8]) (by kernel_rfl) (by simp) ?_
    refine AllReadyH.cons rfl ?_ AllReadyH.nil
    intro K hK
    refine step_append_st encI (by rfl) (.tmp 102) (.tmp 106) 28 (by rfl) w.heap.size TI i1 (.int .i64 0) 1 8 Try.underlying28 hi1 hx0 hx1 hx2 rfl (by decide) (.slice (some ⟨g, 0, none⟩) j1 cap4) (l2.take j1).length _ (by rfl) (by exact (HT5.out.gr ((Fr.refl w5 NoneS).drew)).own) vt (l2.drop j2) (by rfl) (by exact HSL2.out.gr ((Fr.refl w5 NoneS).drew)) (fun _ => rfl) encI_1 (by rw [Hlt.out, List.length_drop]; have := H4.out; have := Hl2.out; have := HJ.out; have := Hi.out; unfold maxLen; omega) (by rw [Hlt.out, List.length_drop]; have := H4.out; have := Hl2.out; have := HJ.out; have := Hi.out; omega) (by exact HG5.out.size) ?_
    intro v6 w6 hown6 hg6 hat6 hsp6
    have HG6 := Lib.hid (show Gr w w6 from HG5.out.drew.trans hg6 (fun i hi e => by
      have := (HT5.out.own.lt i e).1
      omega))
    have HO6 := Lib.hid (show OI w6 w.heap.size v6 (l2.take j1 ++ l2.drop j2) from HT5.out.app (m := l2.drop j2) ((Fr.refl w5 NoneS).drew) hown6 hsp6)
    clear hown6 hg6 hat6 hsp6
    refine hK.out _ _ (Lib.hid trivial) (fun hHeld2 => ?_)
    clear hK K hHeld
    try simp only [Act.put, List.getElem_toArray, List.getElem_cons_succ, List.getElem_cons_zero, List.setIfInBounds_toArray, List.set_cons_zero, List.set_cons_succ]
    refine wpAnyH_take (i := 9) (v := v6) rfl (by kernel_rfl) (by kernel_rfl) (by kernel_rfl) (fun _ _ _ h => h) (Or.inl ⟨by kernel_rfl, ?_⟩) (by with_reducible assumption) ?_
    focus (intro w hSw; (try dsimp only at hSw); go_simp)
    try simp only [Act.put, List.getElem_toArray, List.getElem_cons_succ, List.getElem_cons_zero, List.setIfInBounds_toArray, List.set_cons_zero, List.set_cons_succ]
    refine wpAnyH_take (i := 10) (v := (.bool true)) rfl (by kernel_rfl) (by kernel_rfl) (by kernel_rfl) (fun _ _ _ h => h) (Or.inl ⟨by kernel_rfl, ?_⟩) (by with_reducible assumption) ?_
    focus (intro w hSw; (try dsimp only at hSw); go_simp)
    try simp only [Act.put, List.getElem_toArray, List.getElem_cons_succ, List.getElem_cons_zero, List.setIfInBounds_toArray, List.set_cons_zero, List.set_cons_succ]
    refine wpAnyH_take (i := 11) (v := (.int .i64 0)) rfl (by kernel_rfl) (by kernel_rfl) (by kernel_rfl) (fun _ _ _ h => h) (Or.inl ⟨by kernel_rfl, ?_⟩) (by with_reducible assumption) ?_
    focus (intro w hSw; (try dsimp only at hSw); go_simp)
    try simp only [Act.put, List.getElem_toArray, List.getElem_cons_succ, List.getElem_cons_zero, List.setIfInBounds_toArray, List.set_cons_zero, List.set_cons_succ]
    refine wpAnyH_done (by kernel_rfl) ?_ _
    clear hHeld2
    go_wp2_with fail
    go_ret3
    have he := Hst2.out
    injection he with e1 e2
    injection e2 with e2 e3
    subst e1 e2 e3
    have h := HO6.out
    rw [Hjs.out] at h
    exact ⟨_, rfl, h, HG6.out⟩
end Bpe
end Go.Proofs.Ytildhlneldoffaa

namespace Go.Proofs.Ytildhlneldoffaa
open Go.RowKit
open Voc
namespace Bpe
set_option maxRecDepth 100000 in
set_option maxHeartbeats 1600000 in
theorem step_no {w : World} {v vl : Value} {xs : List Pc} {l : List Int} (HS : SL encP w v xs) (HV : SL encI w vl l) (hw : ∀ q ∈ xs, wfP q) (hl : xs.length ≤ 1048576) (hc : (checkE xs).1 ≠ 0) :
    Calls Try.prog 25 #[.agg #[v], vl] w fun e w' => e = .returned (.tuple #[nilS, .bool false, .int .i64 11]) ∧ Gr w w' := by
  obtain ⟨A, cap, rfl⟩ := SL.form HS
  obtain ⟨A2, cap2, rfl⟩ := SL.form HV
  have HG := Lib.hid ((Fr.refl w NoneS).alloc (.cells #[.slice A xs.length cap] 24))
  have HB := Lib.hid (Blk.new w 24 #[.slice A xs.length cap])
  have HO := Lib.hid (open_no (HS.gr HG.out) hw hl hc)
  clear HS HV hw hl hc
  go_enter Try.func25, Try.ntmps25
  go_upto_region 1 with (fail)
  generalize w.heap.size = q1 at HB ⊢
  generalize World.alloc w _ = wa at HG HB HO ⊢
  have f0 : wa.cell? ⟨q1, 0, none⟩ = some (.slice A xs.length cap) := by rw [HB.out.cell]; rfl
  go_wp2_with (go_at_call 34; refine HO.out.mono ?_; rintro e w3 ⟨rfl, hg⟩; have HG3 := Lib.hid hg; clear hg)
  go_ret3
  exact ⟨rfl, HG.out.trans HG3.out (fun _ _ h => h)⟩
set_option maxRecDepth 100000 in
set_option maxHeartbeats 1600000 in
theorem step_long {w : World} {v vl : Value} {xs : List Pc} {l : List Int} (HS : SL encP w v xs) (HV : SL encI w vl l) (hw : ∀ q ∈ xs, wfP q) (hl : xs.length ≤ 1048576) (hc : (checkE xs).1 = 0) (hb : 4096 < l.length) :
    Calls Try.prog 25 #[.agg #[v], vl] w fun e w' => e = .returned (.tuple #[nilS, .bool false, .int .i64 3]) ∧ Gr w w' := by
  obtain ⟨A, cap, rfl⟩ := SL.form HS
  obtain ⟨A2, cap2, rfl⟩ := SL.form HV
  have HG := Lib.hid ((Fr.refl w NoneS).alloc (.cells #[.slice A xs.length cap] 24))
  have HB := Lib.hid (Blk.new w 24 #[.slice A xs.length cap])
  have HO := Lib.hid (open_yes (HS.gr HG.out) hw hl hc)
  have hbi : (4096 : Int) < l.length := by omega
  clear HS HV hw hl hc hb
  go_enter Try.func25, Try.ntmps25
  go_upto_region 1 with (fail)
  generalize w.heap.size = q1 at HB ⊢
  generalize World.alloc w _ = wa at HG HB HO ⊢
  have f0 : wa.cell? ⟨q1, 0, none⟩ = some (.slice A xs.length cap) := by rw [HB.out.cell]; rfl
  go_wp2_with (go_at_call 34; refine HO.out.mono ?_; rintro e w3 ⟨p, b, rfl, _, hg⟩; have HG3 := Lib.hid hg; clear hg)
  go_ret3
  exact ⟨rfl, HG.out.trans HG3.out (fun _ _ h => h)⟩
theorem step_any {w : World} {v vl : Value} {xs : List Pc} {l : List Int} (HS : SL encP w v xs) (HV : SL encI w vl l) (hw : ∀ q ∈ xs, wfP q) (hl : xs.length ≤ 1048576) (hlw : ∀ x ∈ l, (Lit.int .i64 x).wf = true) :
    Calls Try.prog 25 #[.agg #[v], vl] w fun e w' => ∃ r, e = .returned (.tuple #[r, .bool (stepE xs l).2.1, .int .i64 (stepE xs l).2.2]) ∧ OI w' w.heap.size r (stepE xs l).1 ∧ Gr w w' := by
  by_cases hc : (checkE xs).1 = 0
  · by_cases h4 : 4096 < l.length
    · unfold stepE
      rw [if_neg (by rw [hc]; decide), if_pos h4]
      exact (step_long HS HV hw hl hc h4).mono fun e w' ⟨h1, h2⟩ => ⟨_, h1, OI.nil _ _, h2⟩
    · exact step_yes HS HV hw hl hc (by omega) hlw
  · unfold stepE
    rw [if_pos hc]
    exact (step_no HS HV hw hl hc).mono fun e w' ⟨h1, h2⟩ => ⟨_, h1, OI.nil _ _, h2⟩
end Bpe
end Go.Proofs.Ytildhlneldoffaa

namespace Go.Proofs.Ytildhlneldoffaa
open Go.RowKit
open Voc
namespace Bpe
set_option maxRecDepth 20000 in
set_option maxHeartbeats 6400000 in
theorem rStep_any {w : World} {v vl : Value} {xs : List Pc} {l : List Int} (HS : SL encP w v xs) (HV : SL encI w vl l) (hw : ∀ q ∈ xs, wfP q) (hl : xs.length ≤ 1048576) (hll : l.length ≤ 1048576) :
    Calls Try.prog 26 #[.agg #[v], vl] w fun e w' => ∃ r, e = .returned (.tuple #[r, .bool (stepE xs l).2.1, .int .i64 (stepE xs l).2.2]) ∧ OI w' w.heap.size r (stepE xs l).1 ∧ Gr w w' := by
  obtain ⟨A, cap, rfl⟩ := SL.form HS
  obtain ⟨A2, cap2, rfl⟩ := SL.form HV
  have HG := Lib.hid ((Fr.refl w NoneS).alloc (.cells #[.slice A xs.length cap] 24))
  have HB := Lib.hid (Blk.new w 24 #[.slice A xs.length cap])
  have HS0 := Lib.hid HS
  have HV0 := Lib.hid HV
  have Hl := Lib.hid hl
  obtain ⟨b, hb⟩ : ∃ b, decide ((checkE xs).1 = 0) = b := ⟨_, rfl⟩
  have HM := Lib.hid (may_any (HS.gr HG.out) hw hl b hb)
  have hxi : (xs.length : Int) ≤ 1048576 := by omega
  have hli : (l.length : Int) ≤ 1048576 := by omega
  obtain ⟨⟨L, D, E⟩, hE⟩ : ∃ y, stepE xs l = y := ⟨_, rfl⟩
  rw [hE]
  have HE := Lib.hid hE
  simp only
  obtain ⟨q1, hq1⟩ : ∃ q, w.heap.size = q := ⟨_, rfl⟩
  rw [hq1] at HB
  have Hb := Lib.hid hb
  have Hll := Lib.hid hll
  clear HS HV hw hl hE hb hll
  go_enter Try.func26, Try.ntmps26
  go_upto_region 1 with (fail)
  clear hq1
  generalize World.alloc w _ = wa at HG HB HM ⊢
  have f0 : wa.cell? ⟨q1, 0, none⟩ = some (.slice A xs.length cap) := by rw [HB.out.cell]; rfl
  cases b with
  | false =>
    have he := HE.out
    rw [show stepE xs l = ([], false, 11) by unfold stepE; rw [if_pos (of_decide_eq_false Hb.out)]] at he
    injection he with e1 e2
    injection e2 with e2 e3
    subst e1 e2 e3
    go_wp2_with (go_at_call 47; refine HM.out.mono ?_; rintro e w3 ⟨rfl, hg⟩; have HG3 := Lib.hid hg; clear hg)
    go_ret3
    exact ⟨_, rfl, OI.nil _ _, HG.out.trans HG3.out (fun _ _ h => h)⟩
  | true =>
  have Hc := Lib.hid (of_decide_eq_true Hb.out)
  by_cases h4 : (4096 : Int) < l.length
  case pos =>
    have he := HE.out
    rw [show stepE xs l = ([], false, 3) by unfold stepE; rw [if_neg (by rw [Hc.out]; decide), if_pos (by omega)]] at he
    injection he with e1 e2
    injection e2 with e2 e3
    subst e1 e2 e3
    go_wp2_with (go_at_call 47; refine HM.out.mono ?_; rintro e w3 ⟨rfl, hg⟩; have HG3 := Lib.hid hg; clear hg)
    go_ret3
    exact ⟨_, rfl, OI.nil _ _, HG.out.trans HG3.out (fun _ _ h => h)⟩
  have H4 := Lib.hid (show l.length ≤ 4096 by omega)
  have h4i : (l.length : Int) ≤ 4096 := by omega
  clear h4
  go_upto_block 0 with (go_at_call 47; refine HM.out.mono ?_; rintro e w3 ⟨rfl, hg⟩; have HG3 := Lib.hid (HG.out.trans hg (fun _ _ h => h)); have HB3 := Lib.hid (HB.out.fr hg (fun h => h)); clear hg)
  clear f0
  go_cut [] (fun wx => Hid (Gr w3 wx ∧ ∀ x ∈ l, badX xs x = false))
  case first =>
    go_wp2_with fail
    go_loopg [7] (l.length + 1) (fun m s7 wr => ∃ k : Nat, s7 = .int .i64 k ∧ Hid (k ≤ l.length ∧ l.length - k < m ∧ ∀ x ∈ l.take k, badX xs x = false) ∧ Hid (Gr w3 wr))
    case atStart => exact ⟨0, rfl, ⟨Nat.zero_le _, by omega, fun x hx => by simp at hx⟩, Fr.refl _ _⟩
    case round =>
      obtain ⟨k, rfl, HK, HD⟩ := hrel
      have f0 : wr.cell? ⟨q1, 0, none⟩ = some (.slice A xs.length cap) := by rw [(HB3.out.fr HD.out (fun h => h)).cell]; rfl
      by_cases hk : k < l.length
      · obtain ⟨ba, oa, rfl, hba, hcell⟩ := (HV0.out.gr (HG3.out.trans HD.out (fun _ _ h => h))).at_ (s := 1) (fun _ => rfl) rfl hk
        have d0 := hcell 0 (by omega)
        simp [encI] at d0
        have hki : (k : Int) < l.length := by omega
        have Hk := Lib.hid hk
        obtain ⟨x, hx⟩ : ∃ x, l[k]'hk = x := ⟨_, rfl⟩
        rw [hx] at d0
        have Hmem := Lib.hid (show x ∈ l by rw [← hx]; exact List.getElem_mem hk)
        have Htk := Lib.hid (show badX xs x = false → ∀ y ∈ l.take (k + 1), badX xs y = false from fun hb y hy => by
          rw [List.take_succ_eq_append_getElem hk] at hy
          rcases List.mem_append.1 hy with h | h
          · exact HK.out.2.2 y h
          · simp at h; rw [h, hx, hb])
        clear hcell hba hx hk
        have Hbad := Lib.hid (fun (hb : badX xs x = true) => (show stepE xs l = ([], false, 2) by
          unfold stepE
          rw [if_neg (by rw [Hc.out]; decide), if_neg (by have := H4.out; omega), if_pos (List.any_eq_true.2 ⟨x, Hmem.out, hb⟩)]))
        by_cases h1 : x < 0
        case pos =>
          have Hb := Lib.hid (Hbad.out (show badX xs x = true by unfold badX; rw [decide_eq_true h1]; rfl))
          have h1' : decide (x < 0) = true := decide_eq_true h1
          clear h1
          go_upto_region 8 with (fail)
          go_quiet (fail)
          go_wp2_with fail
          go_ret3
          have he := HE.out
          rw [Hb.out] at he
          injection he with e1 e2
          injection e2 with e2 e3
          subst e1 e2 e3
          exact ⟨_, rfl, OI.nil _ _, (HG3.out.trans HD.out (fun _ _ h => h)).drewN _⟩
        by_cases h2 : (xs.length : Int) ≤ x
        case pos =>
          have Hb := Lib.hid (Hbad.out (show badX xs x = true by unfold badX; rw [decide_eq_true h2, Bool.or_true]))
          have h1' : decide (x < 0) = false := decide_eq_false h1
          have h2' : decide ((xs.length : Int) ≤ x) = true := decide_eq_true h2
          clear h1
          go_upto_region 8 with (fail)
          go_quiet (fail)
          go_wp2_with fail
          go_ret3
          have he := HE.out
          rw [Hb.out] at he
          injection he with e1 e2
          injection e2 with e2 e3
          subst e1 e2 e3
          exact ⟨_, rfl, OI.nil _ _, (HG3.out.trans HD.out (fun _ _ h => h)).drewN _⟩
        have Hb := Lib.hid (show badX xs x = false by unfold badX; rw [decide_eq_false h1, decide_eq_false h2]; rfl)
        have h1' : decide (x < 0) = false := decide_eq_false h1
        have h2' : decide ((xs.length : Int) ≤ x) = false := decide_eq_false h2
        clear h1 h2
        go_upto_region 8 with (fail)
        go_quiet (fail)
        go_wp2_with fail
        go_roundg (gk - 1)
        case measure => have := HK.out; have := Hk.out; omega
        case rel => exact ⟨k + 1, by go_num, ⟨Hk.out, by have := HK.out; have := Hk.out; omega, Htk.out Hb.out⟩, HD.out.drewN _⟩
      · have Hk := Lib.hid (show k = l.length by have := HK.out; omega)
        go_wp2_with fail
        go_meet
        refine Lib.hid ⟨HD.out, fun x hx => HK.out.2.2 x (by rw [Hk.out, List.take_of_length_le (Nat.le_refl _)]; exact hx)⟩
  case rest =>
  obtain ⟨hg4, hin⟩ := hcut.out
  have HG4 := Lib.hid hg4
  have Hin := Lib.hid hin
  clear hg4 hin hcut
  have Hany := Lib.hid (show ¬ (l.any (badX xs) = true) by rw [List.any_eq_true]; rintro ⟨y, hy, hy2⟩; rw [Hin.out y hy] at hy2; cases hy2)
  have Hst := Lib.hid (show stepE xs l = match stepR xs l with | none => (l, false, 0) | some (i, t) => (joined l i t, true, 0) from by
    unfold stepE
    rw [if_neg (by rw [Hc.out]; decide), if_neg (by have := H4.out; omega), if_neg Hany.out]
    all_goals (cases stepR xs l <;> rfl))
  have HG5 := Lib.hid (HG3.out.trans HG4.out (fun _ _ h => h))
  have f5 : wc.cell? ⟨q1, 0, none⟩ = some (.slice A xs.length cap) := by rw [(HB3.out.fr HG4.out (fun h => h)).cell]; rfl
  have HR := Lib.hid (rstep_any (HS0.out.gr HG5.out) (HV0.out.gr HG5.out) Hl.out Hll.out)
  cases ho : stepR xs l with
  | none =>
    rw [ho] at HR
    simp only [wh, wi, Option.isSome_none] at HR
    obtain ⟨i1, hi1, hx0, hx1, hx2⟩ := info_parts info_int
    go_upto_region 13 with (go_at_call 41; refine HR.out.mono ?_; rintro e w5 ⟨rfl, hg⟩; have HG6 := Lib.hid (HG5.out.trans hg (fun _ _ h => h)); clear hg)
    go_wp2_with (
      at_builtin
      refine wpList_append_st _ encI rfl (.tmp 48) (.tmp 49) 28 rfl w.heap.size TI i1 (.int .i64 0) 1 8 Try.underlying28 hi1 hx0 hx1 hx2 rfl (by decide) (.slice none 0 0) 0 [] rfl (World.ownsRow_nil _ _ _ _) (.slice A2 l.length cap2) l rfl (HV0.out.gr HG6.out) (fun _ => rfl) encI_1 (by have := H4.out; unfold maxLen; omega) (by have := H4.out; omega) HG6.out.size ?_
      intro v3 w7 hown3 hg3 hat3 hsp3
      rw [Nat.zero_add, List.nil_append] at hown3
      have HG7 := Lib.hid (show Gr w w7 from HG6.out.trans hg3 (fun _ _ h => by simp [Value.ownBlock] at h))
      have HO7 := Lib.hid (show OI w7 w.heap.size v3 l from by
        have h := (OI.nil w5 w.heap.size).app (m := l) (Fr.refl w5 NoneS) (by simpa using hown3) hsp3
        simpa using h)
      clear hown3 hg3 hat3 hsp3)
    go_ret3
    have he := HE.out
    rw [Hst.out, ho] at he
    injection he with e1 e2
    injection e2 with e2 e3
    subst e1 e2 e3
    exact ⟨_, rfl, HO7.out, HG7.out⟩
  | some it =>
    obtain ⟨i, t⟩ := it
    have Hi := Lib.hid (stepR_lt ho)
    rw [ho] at HR
    simp only [wh, wi, Option.isSome_some] at HR
    go_upto_region 14 with (go_at_call 41; refine HR.out.mono ?_; rintro e w5 ⟨rfl, hg⟩; have HG6 := Lib.hid (HG5.out.trans hg (fun _ _ h => h)); clear hg)
    have HJ := Lib.hid (rjoined_any i t (HV0.out.gr HG6.out) Hi.out Hll.out)
    go_wp2_with (go_at_call 42; refine HJ.out.mono ?_; rintro e w7 ⟨r, rfl, ho7, hg⟩; have HO7 := Lib.hid ho7; have HG7 := Lib.hid (HG6.out.trans hg (fun _ _ h => h)); clear ho7 hg)
    go_ret3
    have he := HE.out
    rw [Hst.out, ho] at he
    injection he with e1 e2
    injection e2 with e2 e3
    subst e1 e2 e3
    exact ⟨_, rfl, HO7.out.base HG6.out.size, HG7.out⟩
end Bpe
end Go.Proofs.Ytildhlneldoffaa

namespace Go.Proofs.Ytildhlneldoffaa
open Go.RowKit
open Voc Bpe
theorem stepE_len (xs : List Pc) (l : List Int) : (Bpe.stepE xs l).1.length ≤ l.length := by
  unfold Bpe.stepE
  split
  · exact Nat.zero_le _
  · split
    · exact Nat.zero_le _
    · split
      · exact Nat.zero_le _
      · split
        · exact Nat.le_refl _
        · rename_i i t h
          have := joined_len (t := t) (stepR_lt h)
          simp only
          rw [this]
          omega
set_option maxRecDepth 20000 in
set_option maxHeartbeats 4000000 in
theorem BpeSteps_walk (w : World) (s0 : Value) (x0 : List Pc) (sl0 : SL encP w s0 x0) (wf0 : ∀ q ∈ x0, wfP q) (n0 : x0.length ≤ 1048576) (v1 : Value) (x1 : List Int) (sl1 : SL encI w v1 x1) (wf1 : ∀ x ∈ x1, (Lit.int .i64 x).wf = true) (n1 : x1.length ≤ 1048576) :
    Calls Try.prog 10 #[.agg #[s0], v1] w fun e w' => e = .returned (.bool true) ∧ Gr w w' := by
  obtain ⟨A, cap, rfl⟩ := SL.form sl0
  obtain ⟨A1, cap1, rfl⟩ := SL.form sl1
  have HS0 := Lib.hid sl0
  have HS1 := Lib.hid sl1
  have HG := Lib.hid ((Fr.refl w NoneS).alloc (.cells #[.slice A x0.length cap] 24))
  have HB := Lib.hid (Blk.new w 24 #[.slice A x0.length cap])
  obtain ⟨q, hq⟩ : ∃ q, w.heap.size = q := ⟨_, rfl⟩
  rw [hq] at HB
  have HL := Lib.hid (long_any (sl0.gr HG.out) n0 x1.length n1)
  have HA := Lib.hid (fun wx (hg : Gr w wx) => step_any (sl0.gr hg) (sl1.gr hg) wf0 n0 wf1)
  have HR := Lib.hid (fun wx (hg : Gr w wx) => rStep_any (sl0.gr hg) (sl1.gr hg) wf0 n0 n1)
  obtain ⟨⟨L, D, E⟩, hE⟩ : ∃ y, Bpe.stepE x0 x1 = y := ⟨_, rfl⟩
  have Hlen := Lib.hid (show L.length ≤ 1048576 by have h := Nat.le_trans (stepE_len x0 x1) n1; rw [hE] at h; exact Nat.le_trans h (by omega))
  rw [hE] at HA HR
  simp only at HA HR
  clear sl0 sl1 wf0 wf1 hE
  obtain ⟨b, hb⟩ : ∃ b, decide (500 < x0.length ∨ (300 < x1.length ∧ x1.length ≤ 4096)) = b := ⟨_, rfl⟩
  rw [hb] at HL
  clear hb
  have hx1 : (x1.length : Int) ≤ 1048576 := by omega
  go_enter Try.func10, Try.ntmps10
  go_upto_region 1 with (fail)
  clear hq
  generalize hx : World.alloc w _ = wa at HG HB HL ⊢
  clear hx
  have c0 : wa.cell? ⟨q, 0, none⟩ = some (.slice A x0.length cap) := by rw [HB.out.cell]; rfl
  cases b with
  | true =>
    go_wp2_with (first
      | (go_at_call 13; refine HL.out.mono ?_; rintro e w2 ⟨rfl, hg⟩; have HG2 := Lib.hid (HG.out.trans hg (fun _ _ h => h)); clear hg)
      | (go_at_call 14; refine (works_any _).mono ?_; rintro e wz ⟨rfl, hg⟩; have HGz := Lib.hid hg; clear hg))
    go_ret
    exact ⟨rfl, HG2.out.trans HGz.out (fun _ _ h => h)⟩
  | false =>
    go_upto_region 3 with (go_at_call 13; refine HL.out.mono ?_; rintro e w2 ⟨rfl, hg⟩; have HG2 := Lib.hid (HG.out.trans hg (fun _ _ h => h)); have HB2 := Lib.hid (HB.out.fr hg (fun h => h)); clear hg)
    have c2 : w2.cell? ⟨q, 0, none⟩ = some (.slice A x0.length cap) := by rw [HB2.out.cell]; rfl
    go_upto_region 4 with (go_at_call 25; refine (HA.out _ HG2.out).mono ?_; rintro e w3 ⟨ra, rfl, ho, hg⟩; have HO3 := Lib.hid ho.sl; have HG3 := Lib.hid (HG2.out.trans hg (fun _ _ h => h)); have HB3 := Lib.hid (HB2.out.fr hg (fun h => h)); clear ho hg)
    have c3 : w3.cell? ⟨q, 0, none⟩ = some (.slice A x0.length cap) := by rw [HB3.out.cell]; rfl
    go_upto_region 5 with (go_at_call 26; refine (HR.out _ HG3.out).mono ?_; rintro e w4 ⟨rb, rfl, ho, hg⟩; have HP4 := Lib.hid ho.sl; have HO4 := Lib.hid (HO3.out.gr hg); have HG4 := Lib.hid (HG3.out.trans hg (fun _ _ h => h)); clear ho hg)
    have HI := Lib.hid (Ints_any _ _ L L w4 HO4.out HP4.out (by have := Hlen.out; omega))
    rw [show decide (L = L) = true from decide_eq_true rfl] at HI
    clear c0 c2 c3
    go_wp2_with (first
      | (go_at_call 17; refine HI.out.mono ?_; rintro e w5 ⟨rfl, hd⟩; have HD5 := Lib.hid hd.gr; clear hd)
      | (go_at_call 14; refine (works_any _).mono ?_; rintro e wz ⟨rfl, hg⟩; have HGz := Lib.hid hg; clear hg))
    go_ret
    exact ⟨rfl, (HG4.out.trans HD5.out (fun _ _ h => h)).trans HGz.out (fun _ _ h => h)⟩
end Go.Proofs.Ytildhlneldoffaa
