/- bpe: the table of a vocabulary. -/
import Derived.Test.YtlodbhlidgepfaaVTa
import Derived.StillTailTactics
set_option linter.unusedVariables false
set_option linter.unusedSimpArgs false
namespace Go.Proofs.Ytlodbhlidgepfaa
open Go.RowKit
open Voc
namespace Bpe
abbrev TTb : TypeId := 119
/-- which token each byte has -/
def bytF : List Int → Nat → List Pc → List Int
  | bs, _, [] => bs
  | bs, k, q :: r => bytF (if q.j then bs else bs.set q.b.toNat (k : Int)) (k + 1) r
def bytes0 : List Int := List.replicate 256 0
theorem bytes0_len : bytes0.length = 256 := by unfold bytes0; rw [List.length_replicate]
def tabs (xs : List Pc) : List Int := bytF bytes0 0 xs
theorem bytF_len : ∀ (r : List Pc) (bs : List Int) (k : Nat), (bytF bs k r).length = bs.length
  | [], bs, k => rfl
  | q :: r, bs, k => by simp only [bytF]; rw [bytF_len]; split <;> simp
theorem bytF_no (c : Nat) : ∀ (r : List Pc) (bs : List Int) (k : Nat), (∀ q ∈ r, q.j = false → q.b.toNat ≠ c) → (bytF bs k r)[c]? = bs[c]?
  | [], bs, k, _ => rfl
  | q :: r, bs, k, h => by
    simp only [bytF]
    rw [bytF_no c r _ _ (fun p hp => h p (List.mem_cons_of_mem _ hp))]
    have := h q (by simp)
    cases hj : q.j with
    | true => rfl
    | false => simp only [Bool.false_eq_true, if_false]; rw [List.getElem?_set_ne (this hj)]
theorem bytF_at (c : Nat) : ∀ (r : List Pc) (bs : List Int) (k i : Nat) (q : Pc), c < bs.length → r[i]? = some q → q.j = false → q.b.toNat = c → (∀ (i' : Nat) (p : Pc), i < i' → r[i']? = some p → p.j = false → p.b.toNat ≠ c) →
    (bytF bs k r)[c]? = some ((k + i : Nat) : Int)
  | [], bs, k, i, q, _, h, _, _, _ => by simp at h
  | p :: r, bs, k, 0, q, hc, h, hj, hb, hn => by
    simp at h
    subst h
    simp only [bytF, hj, Bool.false_eq_true, if_false]
    rw [bytF_no c r _ _ (fun x hx => by
      obtain ⟨i', hi'⟩ := List.getElem?_of_mem hx
      exact hn (i' + 1) x (by omega) (by simpa using hi'))]
    rw [hb, List.getElem?_set_self hc]; rfl
  | p :: r, bs, k, i + 1, q, hc, h, hj, hb, hn => by
    simp only [bytF]
    rw [bytF_at c r _ (k + 1) i q (by split <;> simp [hc]) (by simpa using h) hj hb (fun i' x hi' hx => hn (i' + 1) x (by omega) (by simpa using hx))]
    congr 2; omega
theorem tabs_good {xs : List Pc} (H : Voc.Good xs) (hw : ∀ q ∈ xs, wfP q) (c : Int) (h0 : 0 ≤ c) (h1 : c < 256) : (tabs xs).getD c.toNat 0 = (tokF c xs : Nat) ∧ tokF c xs < xs.length := by
  obtain ⟨i, q, hi, hj, hb⟩ := H.byte hw c h0 h1
  have ht := tokF_good H.inv hi hj hb
  have := bytF_at c.toNat xs bytes0 0 i q (by rw [bytes0_len]; omega) hi hj (by rw [hb]) (fun i' p hlt hp hpj he => by
    have h1 := (H.inv.one i i' q p hlt hi hp (hj.trans hpj.symm)).1 hpj
    have h2 := u8_in (hw p (List.mem_of_getElem? hp)).1
    omega)
  unfold tabs
  rw [List.getD_eq_getElem?_getD, this, ht, Nat.zero_add]
  exact ⟨rfl, (List.getElem?_eq_some_iff.1 hi).1⟩
theorem tabs_len (xs : List Pc) : (tabs xs).length = 256 := by unfold tabs; rw [bytF_len, bytes0_len]
/-- a table's cells -/
def tcs (bs : List Int) (b : Nat) (sv : Value) : Array Value := (bs.map (Value.int .i64) ++ [.map (some b), sv]).toArray
theorem tcs_size (bs : List Int) (b : Nat) (sv : Value) (h : bs.length = 256) : (tcs bs b sv).size = 258 := by unfold tcs; rw [List.size_toArray, List.length_append, List.length_map, h]; rfl
theorem tcs_at (bs : List Int) (b : Nat) (sv : Value) {i : Nat} (hi : i < bs.length) : (tcs bs b sv)[i]? = some (.int .i64 (bs.getD i 0)) := by
  unfold tcs
  rw [List.getElem?_toArray, List.getElem?_append_left (by simpa using hi), List.getElem?_map, List.getD_eq_getElem?_getD, List.getElem?_eq_getElem hi]; rfl
theorem tcs_map (bs : List Int) (b : Nat) (sv : Value) (h : bs.length = 256) : (tcs bs b sv)[256]? = some (.map (some b)) := by
  unfold tcs
  rw [List.getElem?_toArray, List.getElem?_append_right (by rw [List.length_map]; omega), List.length_map, h]; rfl
theorem tcs_voc (bs : List Int) (b : Nat) (sv : Value) (h : bs.length = 256) : (tcs bs b sv)[257]? = some sv := by
  unfold tcs
  rw [List.getElem?_toArray, List.getElem?_append_right (by rw [List.length_map]; omega), List.length_map, h]; rfl
theorem tcs_set (bs : List Int) (b : Nat) (sv : Value) (h : bs.length = 256) {i : Nat} (hi : i < 256) (x : Int) : (tcs bs b sv).setIfInBounds i (.int .i64 x) = tcs (bs.set i x) b sv := by
  unfold tcs
  rw [List.setIfInBounds_toArray, List.set_append_left _ _ (by simp; omega), List.map_set]
theorem wpList_build_to {P : Program} {ops : Array Oper} {rest : List Oper} {o : Oper} {a : Act} {w : World} {Q : Exit → Act → World → Prop} (hg : o.guard = none) (t : TypeId) (parts : Array (Nat × Operand)) (ho : o.op = .build t parts)
    (cells : Array Value) (hf : P.built t (parts.map fun (i, x) => (i, a.eval x)).toList = some cells)
    (h : wpList P ops Q rest (a.put o.dst (.agg cells)) w) : wpList P ops Q (o :: rest) a w :=
  wpList_build hg t parts ho (by rw [hf]; rfl) (by rw [hf]; exact h)
theorem wpList_mapUpdate {P : Program} {ops : Array Oper} {rest : List Oper} {o : Oper} {a : Act} {w : World} {Q : Exit → Act → World → Prop} (hg : o.guard = none) (m x y : Operand) (t : TypeId) (hop : o.op = .mapUpdate t m x y) (M X Y : Value) (hm : a.eval m = M) (hx : a.eval x = X) (hy : a.eval y = Y) (w' : World)
    (hrun : (Instr.mapUpdate t M X Y).run P w = .ok () w') (h : wpList P ops Q rest (a.put o.dst undef) w') : wpList P ops Q (o :: rest) a w := by
  refine wpList_plain hg fun _ hK => ?_
  unfold Oper.wp
  simp [execOp, hop, hm, hx, hy, hrun, Result.andThen]
  exact hK _ _ h
theorem wpList_lookup {P : Program} {ops : Array Oper} {rest : List Oper} {o : Oper} {a : Act} {w : World} {Q : Exit → Act → World → Prop} (hg : o.guard = none) (m x : Operand) (t : TypeId) (ok : Bool) (hop : o.op = .lookup t m x ok) (M X : Value) (hm : a.eval m = M) (hx : a.eval x = X) (v : Value)
    (hrun : (Instr.lookup t M X ok).run P w = .ok v w) (h : wpList P ops Q rest (a.put o.dst v) w) : wpList P ops Q (o :: rest) a w := by
  refine wpList_plain hg fun _ hK => ?_
  unfold Oper.wp
  simp [execOp, hop, hm, hx, hrun, Result.andThen]
  exact hK _ _ h
theorem built_tab (b : Nat) (A : Option Addr) (n c : Nat) : Try.prog.built TTb [(1, .map (some b)), (2, .slice A n c)] = some (tcs bytes0 b (.slice A n c)) := by kernel_rfl
/-- a table in memory -/
structure TB (w : World) (base p b : Nat) (bs : List Int) (l : List (Value × Value)) (sv : Value) : Prop where
  bs_ : base ≤ p ∧ base ≤ b
  blk : Blk w p TTb (tcs bs b sv)
  mp : MB w b l
  len : bs.length = 256
theorem TB.gr {w w' : World} {base p b : Nat} {bs : List Int} {l : List (Value × Value)} {sv : Value} (H : TB w base p b bs l sv) (hg : Gr w w') : TB w' base p b bs l sv :=
  ⟨H.bs_, H.blk.fr hg (fun h => h), H.mp.fr hg (fun h => h), H.len⟩
theorem TB.fr {w w' : World} {base p b : Nat} {bs : List Int} {l : List (Value × Value)} {sv : Value} {S : Nat → Prop} (H : TB w base p b bs l sv) (hg : Fr w w' S) (h1 : ¬ S p) (h2 : ¬ S b) : TB w' base p b bs l sv :=
  ⟨H.bs_, H.blk.fr hg h1, H.mp.fr hg h2, H.len⟩
/-- the table is filled so far -/
structure TK (w wr : World) (q1 p b : Nat) (sv : Value) (bs : List Int) (xs : List Pc) (k : Nat) : Prop where
  gr : Gr w wr
  blk : Blk wr q1 27 #[sv]
  tb : TB wr w.heap.size p b bs (pe (xs.take k)) sv
  tab : tabs xs = bytF bs k (xs.drop k)
theorem TK.of_gr {w wr wa : World} {q1 p b k : Nat} {sv : Value} {bs : List Int} {xs : List Pc} (H : TK w wr q1 p b sv bs xs k) (hg : Gr wr wa) : TK w wa q1 p b sv bs xs k :=
  ⟨H.gr.trans hg (fun _ _ h => h), H.blk.fr hg (fun h => h), H.tb.gr hg, H.tab⟩
set_option maxRecDepth 100000 in
set_option maxHeartbeats 4000000 in
theorem open_yes {w : World} {v : Value} {xs : List Pc} (HS : SL encP w v xs) (hw : ∀ q ∈ xs, wfP q) (hl : xs.length ≤ 1048576) (hc : (checkE xs).1 = 0) :
    Calls Try.prog 42 #[.agg #[v]] w fun e w' => ∃ p b, e = .returned (.tuple #[.pointer (some ⟨p, 0, none⟩), .bool true]) ∧ TB w' w.heap.size p b (tabs xs) (pe xs) v ∧ Gr w w' := by
  obtain ⟨A, cap, rfl⟩ := SL.form HS
  have HS1 := Lib.hid HS
  have HG := Lib.hid ((Fr.refl w NoneS).alloc (.cells #[.slice A xs.length cap] 27))
  have HB := Lib.hid (Blk.new w 27 #[.slice A xs.length cap])
  have hck := check_any (HS.gr HG.out) hw hl
  rw [hc] at hck
  have HC := Lib.hid hck
  have HX := Lib.hid (good_of hc)
  have HW := Lib.hid hw
  have HL := Lib.hid hl
  clear HS hck hw hl hc
  go_enter Try.func42, Try.ntmps42
  go_upto_region 1 with (fail)
  obtain ⟨q1, hq1⟩ : ∃ q, w.heap.size = q := ⟨_, rfl⟩
  rw [hq1] at HB ⊢
  have Hq1 := Lib.hid hq1
  clear hq1
  generalize World.alloc w _ = wa at HG HB HC ⊢
  have f0 : wa.cell? ⟨q1, 0, none⟩ = some (.slice A xs.length cap) := by rw [HB.out.cell]; rfl
  go_upto_region 2 with (go_at_call 27; refine HC.out.mono ?_; rintro e w3 ⟨rfl, hg⟩; have HG3 := Lib.hid hg; have f3 := (hg.cell (p := ⟨q1, 0, none⟩) HB.out.lt (fun h => h)).trans f0; clear hg)
  clear f0
  have hmk : ∀ (t : TypeId) (w : World), (Instr.makeMap t none).run Try.prog w = .ok (.map (some w.heap.size)) (w.alloc (.map #[] 0)) := fun _ _ => rfl
  have f4 : (w3.alloc (.map #[] 0)).cell? ⟨q1, 0, none⟩ = some (.slice A xs.length cap) := (((Fr.refl w3 NoneS).alloc (.map #[] 0)).cell (p := ⟨q1, 0, none⟩) (Nat.lt_of_lt_of_le HB.out.lt HG3.out.size) (fun h => h)).trans f3
  clear f3
  go_upto_region 5 with (refine wpList_build_to rfl TTb _ rfl (tcs bytes0 w3.heap.size (.slice A xs.length cap)) (by kernel_rfl) ?_)
  have HG5 := Lib.hid (((HG.out.trans HG3.out (fun _ _ h => h)).alloc (.map #[] 0)).alloc (.cells (tcs bytes0 w3.heap.size (.slice A xs.length cap)) TTb))
  have HB5 := Lib.hid (((HB.out.fr HG3.out (fun h => h)).alloc (.map #[] 0)).alloc (.cells (tcs bytes0 w3.heap.size (.slice A xs.length cap)) TTb))
  have HT5 := Lib.hid (show TB ((w3.alloc (.map #[] 0)).alloc (.cells (tcs bytes0 w3.heap.size (.slice A xs.length cap)) TTb)) w.heap.size (w3.heap.size + 1) w3.heap.size bytes0 [] (.slice A xs.length cap) from by
    have hs : (w3.alloc (.map #[] 0)).heap.size = w3.heap.size + 1 := by simp
    have hm := MB.new w3
    have hb := Blk.new (w3.alloc (.map #[] 0)) TTb (tcs bytes0 w3.heap.size (.slice A xs.length cap))
    rw [hs] at hb
    have hle := (HG.out.trans HG3.out (fun _ _ h => h)).size
    exact ⟨⟨by omega, hle⟩, hb, hm.fr ((Fr.refl _ NoneS).alloc _) (fun h => h), bytes0_len⟩)
  obtain ⟨b, hb⟩ : ∃ b, w3.heap.size = b := ⟨_, rfl⟩
  rw [hb] at HT5 HG5 HB5 ⊢
  obtain ⟨p, hp⟩ : ∃ p, b + 1 = p := ⟨_, rfl⟩
  rw [hp] at HT5 ⊢
  clear hp hb hmk f4
  generalize World.alloc (World.alloc w3 _) _ = w5 at HT5 HG5 HB5 ⊢
  have HP5 := Lib.hid (show TK w w5 q1 p b (.slice A xs.length cap) bytes0 xs 0 from ⟨HG5.out, HB5.out, HT5.out, rfl⟩)
  have f5 : w5.cell? ⟨q1, 0, none⟩ = some (.slice A xs.length cap) := by rw [HB5.out.cell]; rfl
  clear HT5 HG5
  go_wp2_with fail
  go_loopg [23] (xs.length + 1) (fun m s23 wr => ∃ (k : Nat) (bs : List Int), s23 = .int .i64 k ∧ Hid (k ≤ xs.length ∧ xs.length - k < m) ∧ Hid (TK w wr q1 p b (.slice A xs.length cap) bs xs k))
  case atStart => exact ⟨0, bytes0, rfl, ⟨Nat.zero_le _, by omega⟩, HP5.out⟩
  case round =>
    obtain ⟨k, bs, rfl, HK, HP⟩ := hrel
    clear HP5 f5 HB5
    by_cases hk : k < xs.length
    · obtain ⟨ba, oa, rfl, hba, hcell⟩ := (HS1.out.gr HP.out.gr).at_ (s := 5) (fun _ => rfl) rfl hk
      have d0 := hcell 0 (by omega)
      have d1 := hcell 1 (by omega)
      have d2 := hcell 2 (by omega)
      have d3 := hcell 3 (by omega)
      have d4 := hcell 4 (by omega)
      clear hcell
      simp [encP] at d0 d1 d2 d3 d4
      rw [← Nat.add_assoc] at d1 d2 d3 d4
      have Hk := Lib.hid hk
      have Hba := Lib.hid hba
      have Hxk := Lib.hid (show xs.take (k + 1) = xs.take k ++ [xs[k]'hk] ∧ xs.drop k = xs[k]'hk :: xs.drop (k + 1) from ⟨by rw [List.take_add_one, List.getElem?_eq_getElem hk]; rfl, List.drop_eq_getElem_cons hk⟩)
      have Hwf := Lib.hid (HW.out _ (List.getElem_mem hk))
      have Hget := Lib.hid (show xs[k]? = some (xs[k]'hk) from List.getElem?_eq_getElem hk)
      clear hba
      generalize xs[k]'hk = q at d0 d1 d2 d3 d4 Hxk Hwf Hget
      obtain ⟨jj, bb, ll, rr, kk⟩ := q
      simp only at d0 d1 d2 d3 d4
      have hki : (k : Int) < xs.length := by omega
      have hkb : (k : Int) < 1048576 := by have := HL.out; omega
      go_upto_region 8 with (fail)
      have HA := Lib.hid (HP.out.of_gr ((Fr.refl wr NoneS).alloc (.cells #[.bool jj, .int .u8 bb, .int .i64 ll, .int .i64 rr, .int .u32 kk] TPc)))
      have HBa := Lib.hid (Blk.new wr TPc #[.bool jj, .int .u8 bb, .int .i64 ll, .int .i64 rr, .int .u32 kk])
      generalize wr.alloc (.cells #[.bool jj, .int .u8 bb, .int .i64 ll, .int .i64 rr, .int .u32 kk] TPc) = wa1 at HA HBa ⊢
      generalize wr.heap.size = ob at HBa ⊢
      clear d0 d1 d2 d3 d4
      have g0 : wa1.cell? ⟨ob, 0, none⟩ = some (.bool jj) := by rw [HBa.out.cell]; rfl
      have g1 : wa1.cell? ⟨ob, 1, none⟩ = some (.int .u8 bb) := by rw [HBa.out.cell]; rfl
      have g2 : wa1.cell? ⟨ob, 2, none⟩ = some (.int .i64 ll) := by rw [HBa.out.cell]; rfl
      have g3 : wa1.cell? ⟨ob, 3, none⟩ = some (.int .i64 rr) := by rw [HBa.out.cell]; rfl
      have t1 : wa1.cell? ⟨p, 256, none⟩ = some (.map (some b)) := by rw [HA.out.tb.blk.cell, tcs_map _ _ _ HA.out.tb.len]
      cases jj with
      | true =>
        have HU : ∃ w2, (Instr.mapUpdate MT2 (.map (some b)) (.agg #[.int .i64 ll, .int .i64 rr]) (.int .i64 (k : Int))).run Try.prog wa1.drew = .ok () w2 ∧ MB w2 b (pe (xs.take (k + 1))) ∧ Fr wa1 w2 (fun k => k = b) := by
          have hm : MB wa1.drew b (pe (xs.take k)) := HA.out.tb.mp
          have hno : (xs.take k).any (sameP ⟨true, bb, ll, rr, kk⟩) = false := by
            rw [List.any_eq_false]
            intro x hx
            obtain ⟨i, hi⟩ := List.getElem?_of_mem hx
            have hil : i < k := by have := (List.getElem?_eq_some_iff.1 hi).1; rw [List.length_take] at this; omega
            rw [List.getElem?_take, if_pos hil] at hi
            cases hj : x.j with
            | false => simp [sameP, hj]
            | true =>
              have := ((HX.out.inv.one i k x _ hil hi Hget.out hj).2 rfl).1
              simp [sameP, hj]
              exact fun h1 h2 => this ⟨h1, h2⟩
          refine ⟨_, hm.update K2 Try.underlying116 (keys2 (fun q hq => HW.out q (List.mem_of_mem_take hq))) (WideMaps.keyOf_pair A2 Try.underlying3 tsz Hwf.out.2.1 Hwf.out.2.2.1) (pe_no (p := ⟨true, bb, ll, rr, kk⟩) hno), ?_, (hm.frame _).drew0⟩
          rw [Hxk.out.1, pe_snoc, if_pos rfl, List.length_take, Nat.min_eq_left (by omega)]
          exact hm.turn _
        obtain ⟨w2, hu, hm2, hf2⟩ := HU
        have Hu := Lib.hid hu
        have HN := Lib.hid (show TK w w2 q1 p b (.slice (some ⟨ba, oa, none⟩) xs.length cap) bs xs (k + 1) from by
          have hbw := HA.out.tb.bs_.2
          have hne := HA.out.tb.mp.ne HA.out.tb.blk
          have hne1 := HA.out.tb.mp.ne HA.out.blk
          refine ⟨HA.out.gr.trans hf2 (fun i hi e => by subst e; omega), HA.out.blk.fr hf2 (fun e => hne1 e.symm), ⟨HA.out.tb.bs_, HA.out.tb.blk.fr hf2 (fun e => hne e.symm), hm2, HA.out.tb.len⟩, ?_⟩
          rw [HA.out.tab, Hxk.out.2]
          simp only [bytF, if_true])
        clear hu hm2 hf2
        go_upto_region 9 with (fail)
        go_still_tail 10, (by kernel_rfl)
        refine wpList_mapUpdate rfl (.tmp 33) (.tmp 38) (.tmp 39) MT2 rfl (.map (some b)) (.agg #[.int .i64 ll, .int .i64 rr]) (.int .i64 (k : Int)) rfl rfl rfl w2 Hu.out ?_
        clear t1 g0 g1 g2 g3
        go_wp2_with fail
        go_roundg (gk - 1)
        case measure => have := HK.out; omega
        case rel => exact ⟨k + 1, bs, by go_num, ⟨by have := Hk.out; omega, by have := HK.out; have := Hk.out; omega⟩, HN.out⟩
      | false =>
        obtain ⟨ub, rfl⟩ : ∃ n : Nat, bb = n := ⟨bb.toNat, by have := u8_in Hwf.out.1; simp only at this; omega⟩
        have hub : (ub : Int) < 256 := by have := u8_in Hwf.out.1; simp only at this; omega
        have t2 : wa1.cell? ⟨p, ub, none⟩ = some (.int .i64 (bs.getD ub 0)) := by rw [HA.out.tb.blk.cell, tcs_at _ _ _ (by rw [HA.out.tb.len]; omega)]
        have t3 := HA.out.tb.blk.frozen ub
        have HN := Lib.hid (show TK w (wa1.setCell ⟨p, ub, none⟩ (.int .i64 (k : Int))) q1 p b (.slice (some ⟨ba, oa, none⟩) xs.length cap) (bs.set ub (k : Int)) xs (k + 1) from by
          have hne := HA.out.tb.mp.ne HA.out.tb.blk
          have hf2 : Fr wa1 (wa1.setCell ⟨p, ub, none⟩ (.int .i64 (k : Int))) (fun k => k = p) := (Fr.refl _ (fun k => k = p)).setCell (p := ⟨p, ub, none⟩) (fun _ => rfl) _
          have hpb := HA.out.tb.blk.ne_ HA.out.blk (by decide)
          refine ⟨HA.out.gr.trans hf2 (fun i hi e => by subst e; have := HA.out.tb.bs_.1; omega), HA.out.blk.fr hf2 (fun e => hpb e.symm), ⟨HA.out.tb.bs_, ?_, ?_, by rw [List.length_set]; exact HA.out.tb.len⟩, ?_⟩
          · rw [← tcs_set _ _ _ HA.out.tb.len (by omega)]
            exact HA.out.tb.blk.set_ ub _
          · rw [Hxk.out.1, pe_snoc, if_neg (by simp), List.append_nil]
            exact HA.out.tb.mp.fr hf2 hne
          · rw [HA.out.tab, Hxk.out.2]
            simp only [bytF, Bool.false_eq_true, if_false, Int.toNat_natCast])
        go_upto_region 10 with (fail)
        go_still_tail 7, (by kernel_rfl)
        go_wp2_with fail
        go_roundg (gk - 1)
        case measure => have := HK.out; omega
        case rel => exact ⟨k + 1, _, by go_num, ⟨by have := Hk.out; omega, by have := HK.out; have := Hk.out; omega⟩, HN.out.of_gr ((Fr.refl _ NoneS).drew)⟩
    · obtain rfl : k = xs.length := by have := HK.out; omega
      have HD := Lib.hid (show bs = tabs xs ∧ TB wr w.heap.size p b bs (pe xs) (.slice A xs.length cap) from by
        have h1 := HP.out.tab
        have h2 := HP.out.tb
        rw [List.drop_length] at h1
        rw [List.take_length] at h2
        exact ⟨h1.symm, h2⟩)
      go_wp2_with fail
      go_ret2
      exact ⟨p, b, rfl, by rw [← HD.out.1]; exact HD.out.2, HP.out.gr⟩
end Bpe
end Go.Proofs.Ytlodbhlidgepfaa
