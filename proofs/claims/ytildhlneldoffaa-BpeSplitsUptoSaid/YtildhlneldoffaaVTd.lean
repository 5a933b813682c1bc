/- vocab: look, and Check. -/
import Derived.Test.YtildhlneldoffaaVTc
import Derived.WideMake
import Derived.OwnWalk
set_option linter.unusedVariables false
set_option linter.unusedSimpArgs false
namespace Go.Proofs.Ytildhlneldoffaa
open Go.RowKit
namespace Voc
/-- what is the first wrong thing; how many bytes the pieces stand for -/
def badF : List Pc → List Nat → List Pc → Option (Int × Nat)
  | _, _, [] => none
  | ps, sz, q :: r => if stepE ps sz q = 0 then badF (ps ++ [q]) (sz ++ [stepS sz q]) r else some (stepE ps sz q, ps.length)
def szF : List Nat → List Pc → List Nat
  | sz, [] => sz
  | sz, q :: r => szF (sz ++ [stepS sz q]) r
def checkE (ps : List Pc) : Int × Nat :=
  if 4096 < ps.length then (3, 0) else match badF [] [] ps with
    | some x => x
    | none => if (be ps).length < 256 then (7, ps.length) else (0, 0)
theorem stepS_le {ps : List Pc} {sz : List Nat} {q : Pc} (h : stepE ps sz q = 0) : stepS sz q ≤ 256 := by
  unfold stepE at h
  unfold stepS
  by_cases hj : q.j = false
  · rw [if_pos hj]; omega
  · rw [if_neg hj] at h ⊢
    by_cases h1 : q.b ≠ 0
    · rw [if_pos h1] at h; omega
    · rw [if_neg h1] at h
      split at h
      · omega
      · split at h
        · omega
        · omega

theorem take_any {w : World} {base p b1 b2 b3 : Nat} {ps : List Pc} {sz : List Nat} {sv : Value} (q : Pc) (H : SN w base p ps sz sv b1 b2 b3) (hps : ∀ q ∈ ps, wfP q) (hq : wfP q) (hs : ∀ s ∈ sz, s ≤ 256) (hn : ps.length < 4096) (hb : base ≤ w.heap.size) :
    Calls Try.prog 57 #[.pointer (some ⟨p, 0, none⟩), .int .i64 (ps.length : Int), .agg (encP q).toArray] w fun e w' => e = .returned (.int .i64 (stepE ps sz q)) ∧
      ((stepE ps sz q ≠ 0 ∧ Gr w w') ∨ (stepE ps sz q = 0 ∧ Fr w w' (SS p b1 b2 b3 sv) ∧ ∃ sv', SN w' base p (ps ++ [q]) (sz ++ [stepS sz q]) sv' b1 b2 b3)) := by
  obtain ⟨j, b, l, r, k⟩ := q
  cases j with
  | false => exact take_byte b l r k H hps hq hn hb _ rfl
  | true => exact take_join b l r k H hps hq hs hn hb _ rfl

theorem wpList_len_at {P : Program} {w : World} {ops : Array Oper} {rest : List Oper} {o : Oper} {a : Act} {Q : Exit → Act → World → Prop} (hgd : o.guard = none) (x : Operand) (t : TypeId)
    (ho : o.op = .call { callee := .builtin .len, args := #[x], argTypes := #[t] }) (M v : Value) (hm : a.eval x = M) (hrun : ∀ ty, (Builtin.len_ #[t] ty #[M]).run P w = .ok v w) (h : wpList P ops Q rest (a.put o.dst v) w) : wpList P ops Q (o :: rest) a w := by
  refine wpList_plain hgd fun _ hK => ?_
  unfold Oper.wp execOp
  simp only [ho, resolve, invoke, builtin, Sem.run_bind, Sem.run_pure, Result.andThen_ok, List.map_toArray, List.map_cons, List.map_nil, hm, hrun]
  exact hK _ _ h

structure LK (w wr : World) (q1 p b1 b2 b3 : Nat) (v sv : Value) (xs : List Pc) (k : Nat) (sz : List Nat) : Prop where
  gr : Gr w wr
  blk : Blk wr q1 24 #[v]
  sn : SN wr (w.heap.size + 1) p (xs.take k) sz sv b1 b2 b3
  bad : badF [] [] xs = badF (xs.take k) sz (xs.drop k)
  szs : szF [] xs = szF sz (xs.drop k)
  le : ∀ s ∈ sz, s ≤ 256

theorem LK.of_gr {w wr wa : World} {q1 p b1 b2 b3 k : Nat} {v sv : Value} {xs : List Pc} {sz : List Nat} (H : LK w wr q1 p b1 b2 b3 v sv xs k sz) (hg : Gr wr wa) : LK w wa q1 p b1 b2 b3 v sv xs k sz :=
  ⟨H.gr.trans hg (fun _ _ h => h), H.blk.fr hg (fun h => h), H.sn.gr hg, H.bad, H.szs, H.le⟩
theorem LK.next {w wa w3 : World} {q1 p b1 b2 b3 k : Nat} {v sv sv' : Value} {xs : List Pc} {sz : List Nat} {q : Pc} (H : LK w wa q1 p b1 b2 b3 v sv xs k sz) (hq : w.heap.size = q1) (h1 : xs.take (k + 1) = xs.take k ++ [q]) (h2 : xs.drop k = q :: xs.drop (k + 1))
    (h0 : stepE (xs.take k) sz q = 0) (hf : Fr wa w3 (SS p b1 b2 b3 sv)) (hs : SN w3 (w.heap.size + 1) p (xs.take k ++ [q]) (sz ++ [stepS sz q]) sv' b1 b2 b3) : LK w w3 q1 p b1 b2 b3 v sv' xs (k + 1) (sz ++ [stepS sz q]) := by
  have hlo : ∀ i, SS p b1 b2 b3 sv i → w.heap.size + 1 ≤ i := by
    rintro i (rfl | rfl | rfl | rfl | h)
    · exact H.sn.bs.1
    · exact H.sn.bs.2.1
    · exact H.sn.bs.2.2.1
    · exact H.sn.bs.2.2.2
    · exact (H.sn.own.lt i h).1
  refine ⟨H.gr.trans hf (fun i hi h => by have := hlo i h; omega), H.blk.fr hf (fun h => by have := hlo _ h; omega), h1 ▸ hs, ?_, ?_, ?_⟩
  · rw [H.bad, h2, h1]; simp [badF, h0]
  · rw [H.szs, h2]; rfl
  · intro s hs'
    rcases List.mem_append.1 hs' with h | h
    · exact H.le s h
    · simp at h; subst h; exact stepS_le h0
theorem LK.stop {w wa : World} {q1 p b1 b2 b3 k : Nat} {v sv : Value} {xs : List Pc} {sz : List Nat} {q : Pc} (H : LK w wa q1 p b1 b2 b3 v sv xs k sz) (hk : k < xs.length) (h4 : ¬ 4096 < xs.length) (h2 : xs.drop k = q :: xs.drop (k + 1))
    (h0 : stepE (xs.take k) sz q ≠ 0) : checkE xs = (stepE (xs.take k) sz q, k) := by
  have : badF [] [] xs = some (stepE (xs.take k) sz q, k) := by
    rw [H.bad, h2]
    simp only [badF, if_neg h0]
    rw [List.length_take, Nat.min_eq_left (by omega)]
  simp only [checkE, if_neg h4, this]
theorem LK.done {w wa : World} {q1 p b1 b2 b3 : Nat} {v sv : Value} {xs : List Pc} {sz : List Nat} (H : LK w wa q1 p b1 b2 b3 v sv xs xs.length sz) (h4 : ¬ 4096 < xs.length) :
    (checkE xs = if (be xs).length < 256 then (7, xs.length) else (0, 0)) ∧ szF [] xs = sz ∧ SN wa (w.heap.size + 1) p xs sz sv b1 b2 b3 := by
  have h1 := H.bad
  have h2 := H.szs
  have h3 := H.sn
  rw [List.drop_length] at h1 h2
  rw [List.take_length] at h3
  refine ⟨?_, h2, h3⟩
  simp only [checkE, if_neg h4, h1, badF]

set_option maxRecDepth 20000 in
set_option maxHeartbeats 4000000 in
theorem look_any {w : World} {v : Value} {xs : List Pc} (HS : SL encP w v xs) (hw : ∀ q ∈ xs, wfP q) (hl : xs.length ≤ 1048576) (E : Int) (at_ : Nat) (hE : checkE xs = (E, at_)) :
    Calls Try.prog 52 #[.agg #[v]] w fun e w' => Gr w w' ∧ ((E ≠ 0 ∧ e = .returned (.tuple #[.pointer none, .int .i64 E, .int .i64 at_])) ∨
      (E = 0 ∧ at_ = 0 ∧ ∃ p, e = .returned (.tuple #[.pointer (some ⟨p, 0, none⟩), .int .i64 0, .int .i64 0]) ∧ ∃ b1 b2 b3 sv, SN w' (w.heap.size + 1) p xs (szF [] xs) sv b1 b2 b3)) := by
  obtain ⟨A, cap, rfl⟩ : ∃ A cap, v = .slice A xs.length cap := by obtain ⟨A, cap, h, _⟩ := HS; exact ⟨A, cap, h⟩
  have HS1 := Lib.hid HS
  clear HS
  have HW := Lib.hid hw
  have HL := Lib.hid hl
  have HE := Lib.hid hE
  clear hw hE hl
  by_cases h4 : 4096 < xs.length
  case pos =>
    have h4' : (4096 : Int) < (xs.length : Int) := by omega
    have he := HE.out
    simp only [checkE, if_pos h4] at he
    injection he with e1 e2
    have He := Lib.hid (And.intro e1 e2)
    clear e1 e2 h4
    go_enter Try.func52, Try.ntmps52
    go_wp2_with fail
    go_ret3
    exact ⟨(Fr.refl w _).alloc _, .inl ⟨by rw [← He.out.1]; decide, by rw [← He.out.1, ← He.out.2]; rfl⟩⟩
  have h4' : ¬ (4096 : Int) < (xs.length : Int) := by omega
  go_enter Try.func52, Try.ntmps52
  clear h4
  have hmk : ∀ (t : TypeId) (w : World), (Instr.makeMap t none).run Try.prog w = .ok (.map (some w.heap.size)) (w.alloc (.map #[] 0)) := fun _ _ => rfl
  go_upto_block 0 with (fail)
  have HP0 := Lib.hid (show LK w (((((w.alloc (.cells #[.slice A xs.length cap] 24)).alloc (.map #[] 0)).alloc (.map #[] 0)).alloc (.map #[] 0)).alloc (.cells #[.slice none 0 0, .map (some (w.heap.size + 1)), .map (some (w.heap.size + 1 + 1)), .map (some (w.heap.size + 1 + 1 + 1))] TSn)) w.heap.size (w.heap.size + 1 + 1 + 1 + 1) (w.heap.size + 1) (w.heap.size + 1 + 1) (w.heap.size + 1 + 1 + 1) (.slice A xs.length cap) (.slice none 0 0) xs 0 [] from by
    generalize hb1 : World.alloc w (.cells #[.slice A xs.length cap] 24) = w1
    have hB := Blk.new w 24 #[.slice A xs.length cap]
    have hG := (Fr.refl w NoneS).alloc (.cells #[.slice A xs.length cap] 24)
    have hs : w1.heap.size = w.heap.size + 1 := by rw [← hb1]; simp
    rw [hb1] at hB hG
    have m1 := MB.new w1
    have m2 := MB.new (w1.alloc (.map #[] 0))
    have m3 := MB.new ((w1.alloc (.map #[] 0)).alloc (.map #[] 0))
    have bp := Blk.new (((w1.alloc (.map #[] 0)).alloc (.map #[] 0)).alloc (.map #[] 0)) TSn #[.slice none 0 0, .map (some (w.heap.size + 1)), .map (some (w.heap.size + 1 + 1)), .map (some (w.heap.size + 1 + 1 + 1))]
    have s2 : (w1.alloc (.map #[] 0)).heap.size = w.heap.size + 1 + 1 := by simp [hs]
    have s3 : ((w1.alloc (.map #[] 0)).alloc (.map #[] 0)).heap.size = w.heap.size + 1 + 1 + 1 := by simp [hs]
    have s4 : (((w1.alloc (.map #[] 0)).alloc (.map #[] 0)).alloc (.map #[] 0)).heap.size = w.heap.size + 1 + 1 + 1 + 1 := by simp [hs]
    rw [hs] at m1
    rw [s2] at m2
    rw [s3] at m3
    rw [s4] at bp
    refine ⟨(((hG.alloc _).alloc _).alloc _).alloc _, ((((hB.alloc _).alloc _).alloc _).alloc _), ⟨⟨by omega, by omega, by omega, by omega⟩, bp, by simpa using World.ownsRow_nil _ _ _ _, ?_, ?_, ?_, ⟨by omega, by omega, by omega⟩, rfl⟩, rfl, rfl, (fun _ h => by cases h)⟩
    · exact m1.fr ((((Fr.refl _ NoneS).alloc _).alloc _).alloc _) (fun h => h)
    · exact m2.fr (((Fr.refl _ NoneS).alloc _).alloc _) (fun h => h)
    · exact m3.fr ((Fr.refl _ NoneS).alloc _) (fun h => h))
  clear hmk
  generalize World.alloc (World.alloc _ _) (.cells #[.slice none 0 0, _, _, _] _) = w5 at HP0 ⊢
  obtain ⟨q1, hq1⟩ : ∃ q, w.heap.size = q := ⟨_, rfl⟩
  rw [hq1] at HP0 ⊢
  obtain ⟨b1, hb1⟩ : ∃ q, q1 + 1 = q := ⟨_, rfl⟩
  rw [hb1] at HP0 ⊢
  obtain ⟨b2, hb2⟩ : ∃ q, b1 + 1 = q := ⟨_, rfl⟩
  rw [hb2] at HP0 ⊢
  obtain ⟨b3, hb3⟩ : ∃ q, b2 + 1 = q := ⟨_, rfl⟩
  rw [hb3] at HP0 ⊢
  obtain ⟨p, hp⟩ : ∃ q, b3 + 1 = q := ⟨_, rfl⟩
  rw [hp] at HP0 ⊢
  have Hq1 := Lib.hid hq1
  clear hq1 hb1 hb2 hb3 hp
  go_wp2_with fail
  go_loopg [21] (xs.length + 1) (fun m s21 wr => ∃ (k : Nat) (sz : List Nat) (sv : Value), s21 = .int .i64 k ∧ Hid (k ≤ xs.length ∧ xs.length - k < m) ∧ Hid (LK w wr q1 p b1 b2 b3 (.slice A xs.length cap) sv xs k sz))
  case atStart => exact ⟨0, [], _, rfl, ⟨Nat.zero_le _, by omega⟩, HP0.out⟩
  case round =>
    obtain ⟨k, sz, sv, rfl, HK, HP⟩ := hrel
    clear HP0
    by_cases hk : k < xs.length
    · obtain ⟨ba, oa, rfl, hba, hcell⟩ := (HS1.out.gr HP.out.gr).at_ (s := 5) (fun _ => rfl) rfl hk
      have d0 := hcell 0 (by omega)
      have d1 := hcell 1 (by omega)
      have d2 := hcell 2 (by omega)
      have d3 := hcell 3 (by omega)
      have d4 := hcell 4 (by omega)
      clear hcell
      simp [encP] at d0 d1 d2 d3 d4
      rw [← Nat.add_assoc] at d1 d2 d3 d4
      have Hk := Lib.hid hk
      have Hb := Lib.hid hba
      have Hxk := Lib.hid (show xs.take (k + 1) = xs.take k ++ [xs[k]'hk] ∧ xs.drop k = xs[k]'hk :: xs.drop (k + 1) from ⟨by rw [List.take_add_one, List.getElem?_eq_getElem hk]; rfl, List.drop_eq_getElem_cons hk⟩)
      have Hwf := Lib.hid (HW.out _ (List.getElem_mem hk))
      clear hba
      generalize xs[k]'hk = q at d0 d1 d2 d3 d4 Hxk Hwf
      obtain ⟨jj, bb, ll, rr, kk⟩ := q
      simp only at d0 d1 d2 d3 d4
      have hki : (k : Int) < xs.length := by omega
      go_upto_region 7 with (fail)
      have HA := Lib.hid (HP.out.of_gr ((Fr.refl wr NoneS).alloc (.cells #[.bool jj, .int .u8 bb, .int .i64 ll, .int .i64 rr, .int .u32 kk] TPc)))
      have HBa := Lib.hid (Blk.new wr TPc #[.bool jj, .int .u8 bb, .int .i64 ll, .int .i64 rr, .int .u32 kk])
      generalize wr.alloc (.cells #[.bool jj, .int .u8 bb, .int .i64 ll, .int .i64 rr, .int .u32 kk] TPc) = wa at HA HBa ⊢
      generalize wr.heap.size = ob at HBa ⊢
      clear d0 d1 d2 d3 d4
      have g0 : wa.cell? ⟨ob, 0, none⟩ = some (.bool jj) := by rw [HBa.out.cell]; rfl
      have g1 : wa.cell? ⟨ob, 1, none⟩ = some (.int .u8 bb) := by rw [HBa.out.cell]; rfl
      have g2 : wa.cell? ⟨ob, 2, none⟩ = some (.int .i64 ll) := by rw [HBa.out.cell]; rfl
      have g3 : wa.cell? ⟨ob, 3, none⟩ = some (.int .i64 rr) := by rw [HBa.out.cell]; rfl
      have g4 : wa.cell? ⟨ob, 4, none⟩ = some (.int .u32 kk) := by rw [HBa.out.cell]; rfl
      have hlk : (xs.take k).length = k := by rw [List.length_take]; omega
      have Ht := take_any ⟨jj, bb, ll, rr, kk⟩ HA.out.sn (fun q hq => HW.out q (List.mem_of_mem_take hq)) Hwf.out HA.out.le (by omega) (by
        have := HA.out.blk.lt; have := Hq1.out; omega)
      rw [hlk] at Ht
      obtain ⟨ev, hev⟩ : ∃ e, e = stepE (xs.take k) sz ⟨jj, bb, ll, rr, kk⟩ := ⟨_, rfl⟩
      rw [← hev] at Ht
      have HT := Lib.hid Ht
      have Hev := Lib.hid hev
      clear Ht hev hlk
      by_cases h0 : ev = 0
      · subst h0
        go_wp2_with (go_at_call 57; refine HT.out.mono ?_; rintro e w3 ⟨rfl, hc⟩; have HC := Lib.hid hc; clear hc)
        have hc := HC.out
        rcases hc with ⟨h, _⟩ | ⟨_, hf, sv', hs⟩
        · exact absurd rfl h
        have HN := Lib.hid (HA.out.next Hq1.out Hxk.out.1 Hxk.out.2 Hev.out.symm hf hs)
        clear hf hs
        go_roundg (gk - 1)
        case measure => have := HK.out; omega
        case rel => exact ⟨k + 1, _, sv', by simp, ⟨by omega, by have := HK.out; omega⟩, HN.out⟩
      · have H0 := Lib.hid h0
        go_wp2_with (go_at_call 57; refine HT.out.mono ?_; rintro e w3 ⟨rfl, hc⟩; have HC := Lib.hid hc; clear hc)
        go_ret3
        have hc := HC.out
        rcases hc with ⟨_, hg⟩ | ⟨h, _⟩
        · have h1 := HA.out.stop Hk.out (by omega) Hxk.out.2 (by rw [← Hev.out]; exact H0.out)
          rw [HE.out, ← Hev.out] at h1
          injection h1 with h1 h2
          exact ⟨HA.out.gr.trans hg (fun _ _ h => h), .inl ⟨by rw [h1]; exact H0.out, by rw [h1, h2]; rfl⟩⟩
        · exact absurd h H0.out
    · obtain rfl : k = xs.length := by have := HK.out; omega
      have HD := Lib.hid (HP.out.done (by omega))
      have hck := HD.out.1
      rw [HE.out] at hck
      have f1 := HP.out.sn.cells.2.1
      have hlen : ∀ ty, (Builtin.len_ #[105] ty #[.map (some b1)]).run Try.prog wr = .ok (.int .i64 ((be xs).length : Int)) wr := fun ty => HD.out.2.2.m1.len Try.underlying105 ty
      have fq : wr.cell? ⟨q1, 0, none⟩ = some (.slice A xs.length cap) := by rw [HP.out.blk.cell]; rfl
      by_cases hb : (be xs).length < 256
      · have hb' : ((be xs).length : Int) < 256 := by omega
        rw [if_pos hb] at hck
        have Hck := Lib.hid hck
        clear hck hb
        go_wp2_with fail
        go_region
        go_wp2_with fail
        go_ret3
        have he := Hck.out
        injection he with h1 h2
        exact ⟨HP.out.gr.drew, .inl ⟨by rw [h1]; decide, by rw [h1, h2]; rfl⟩⟩
      · have hb' : ¬ ((be xs).length : Int) < 256 := by omega
        rw [if_neg hb] at hck
        have Hck := Lib.hid hck
        clear hck hb
        go_wp2_with fail
        go_ret3
        have he := Hck.out
        injection he with h1 h2
        exact ⟨HP.out.gr, .inr ⟨h1, h2, p, rfl, b1, b2, b3, sv, by rw [HD.out.2.1]; exact HD.out.2.2⟩⟩
end Voc
end Go.Proofs.Ytildhlneldoffaa
