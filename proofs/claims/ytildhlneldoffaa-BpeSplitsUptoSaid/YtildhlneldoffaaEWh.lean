/- bpe: Decode. -/
import Derived.Test.YtildhlneldoffaaEWg
import Derived.Laws.EntriesVeiled
set_option linter.unusedVariables false
set_option linter.unusedSimpArgs false
namespace Go.Proofs.Ytildhlneldoffaa
open Go.RowKit
open Voc
namespace Bpe
/-- is a token no piece? -/
def badX (xs : List Pc) (x : Int) : Bool := decide (x < 0) || decide ((xs.length : Int) ≤ x)
def flatE (xs : List Pc) (l : List Int) : List Int := l.flatMap (expE xs)
def decE (xs : List Pc) (l : List Int) : List Int × Int := if (checkE xs).1 ≠ 0 then ([], 11) else if l.any (badX xs) = true then ([], 2) else if 4096 < (flatE xs l).length then ([], 3) else (flatE xs l, 0)
theorem flatE_take (xs : List Pc) (l : List Int) {k : Nat} (hk : k < l.length) : flatE xs (l.take (k + 1)) = flatE xs (l.take k) ++ expE xs (l[k]) := by
  unfold flatE
  rw [List.take_succ_eq_append_getElem hk, List.flatMap_append]
  simp
theorem flatE_le (xs : List Pc) (l : List Int) (k : Nat) : (flatE xs (l.take k)).length ≤ (flatE xs l).length := by
  have h : flatE xs l = flatE xs (l.take k) ++ flatE xs (l.drop k) := by
    unfold flatE
    rw [← List.flatMap_append, List.take_append_drop]
  rw [h, List.length_append]; omega
theorem info_sb : (Try.prog.info? TSB).map (fun i => (i.zero, i.size, i.bytes)) = some (some nilS, 1, 24) := by kernel_rfl
theorem made_s (i0 : TypeInfo) (hz1 : i0.size = 1) (s : Nat) : madeCells nilS.cells (((s : Nat) : Int).toNat * i0.size) = (List.replicate s nilS).toArray := by
  rw [hz1]
  simp [madeCells, Value.cells]
  apply Array.ext_getElem?
  intro j
  simp only [Array.getElem?_map, Array.getElem?_range, Array.getElem?_replicate]
  split
  · simp [Nat.mod_one]
  · rfl
/-- the rows that are kept lie apart from the one that grows -/
def Dj (vals : List Value) (v : Value) : Prop := ∀ (i : Nat) (u : Value) (g : Nat), vals[i]? = some u → u.ownBlock = some g → v.ownBlock ≠ some g
theorem DA.apart {W0 w w' : World} {ga b10 b2 b11 : Nat} {sv : Value} {xs : List Pc} {vals : List Value} {v : Value} {n : Nat} {ys : List Value} (H : DA W0 w ga b10 b2 b11 sv xs vals) (hv : w.ownsRow W0.heap.size TU8 1 v n ys) (hd : Dj vals v) (hf : Fr w w' (fun k => v.ownBlock = some k)) : DA W0 w' ga b10 b2 b11 sv xs vals := by
  refine ⟨H.gr.trans hf (fun i hi e => by have := (hv.lt i e).1; omega), H.voc, H.lo, H.ba.fr hf (own_blk_ne hv H.ba (by decide)), H.c10.fr hf (own_blk_ne hv H.c10 (by decide)), H.c2.fr hf (own_blk_ne hv H.c2 (by decide)), H.c11.fr hf (own_blk_ne hv H.c11 (by decide)), H.len, fun i u hu => ?_⟩
  rcases H.ok i u hu with h | h
  · exact Or.inl h
  · exact Or.inr (hf.owns h (fun k hk e => hd i u k hu hk e))
set_option maxRecDepth 20000 in
set_option maxHeartbeats 6400000 in
theorem decode_yes {w : World} {v vl : Value} {xs : List Pc} {l : List Int} (HS : SL encP w v xs) (HV : SL encI w vl l) (hw : ∀ q ∈ xs, wfP q) (hl : xs.length ≤ 1048576) (hll : l.length ≤ 1048576) (hc : (checkE xs).1 = 0) :
    Calls Try.prog 18 #[.agg #[v], vl] w fun e w' => ∃ r, e = .returned (.tuple #[r, .int .i64 (decE xs l).2]) ∧ OB w' w.heap.size r (decE xs l).1 ∧ Gr w w' := by
  obtain ⟨A, cap, rfl⟩ := SL.form HS
  obtain ⟨A2, cap2, rfl⟩ := SL.form HV
  have HG := Lib.hid ((Fr.refl w NoneS).alloc (.cells #[.slice A xs.length cap] 24))
  have HB := Lib.hid (Blk.new w 24 #[.slice A xs.length cap])
  have HS0 := Lib.hid HS
  have HV0 := Lib.hid HV
  have HX := Lib.hid (good_of hc)
  have Hc := Lib.hid hc
  have Hll := Lib.hid hll
  have hck := check_any (HS.gr HG.out) hw hl
  rw [hc] at hck
  have HC := Lib.hid hck
  have hxi : (xs.length : Int) ≤ 4096 := by have := HX.out.len; omega
  have hli : (l.length : Int) ≤ 1048576 := by omega
  obtain ⟨⟨L, E⟩, hE⟩ : ∃ y, decE xs l = y := ⟨_, rfl⟩
  rw [hE]
  have HE := Lib.hid hE
  simp only
  obtain ⟨q1, hq1⟩ : ∃ q, w.heap.size = q := ⟨_, rfl⟩
  rw [hq1] at HB
  have Hq1 := Lib.hid hq1
  clear HS HV hw hl hll hc hck hE
  go_enter Try.func18, Try.ntmps18
  go_upto_region 1 with (fail)
  clear hq1
  generalize World.alloc w _ = wa at HG HB HC ⊢
  have f0 : wa.cell? ⟨q1, 0, none⟩ = some (.slice A xs.length cap) := by rw [HB.out.cell]; rfl
  go_upto_block 0 with (go_at_call 43; refine HC.out.mono ?_; rintro e w3 ⟨rfl, hg⟩; have HG3 := Lib.hid (HG.out.trans hg (fun _ _ h => h)); have HB3 := Lib.hid (HB.out.fr hg (fun h => h)); clear hg)
  clear f0
  go_cut [] (fun wx => Hid (wx = w3 ∧ ∀ x ∈ l, badX xs x = false))
  case first =>
    have f3 : w3.cell? ⟨q1, 0, none⟩ = some (.slice A xs.length cap) := by rw [HB3.out.cell]; rfl
    go_wp2_with fail
    go_loopg [25] (l.length + 1) (fun m s25 wr => ∃ k : Nat, s25 = .int .i64 k ∧ w3 = wr ∧ Hid (k ≤ l.length ∧ l.length - k < m ∧ ∀ x ∈ l.take k, badX xs x = false))
    case atStart => exact ⟨0, rfl, rfl, Nat.zero_le _, by omega, fun x hx => by simp at hx⟩
    case round =>
      obtain ⟨k, rfl, rfl, HK⟩ := hrel
      by_cases hk : k < l.length
      · obtain ⟨ba, oa, rfl, hba, hcell⟩ := (HV0.out.gr HG3.out).at_ (s := 1) (fun _ => rfl) rfl hk
        have d0 := hcell 0 (by omega)
        simp [encI] at d0
        have hki : (k : Int) < l.length := by omega
        have Hk := Lib.hid hk
        obtain ⟨x, hx⟩ : ∃ x, l[k]'hk = x := ⟨_, rfl⟩
        rw [hx] at d0
        have Hmem := Lib.hid (show x ∈ l by rw [← hx]; exact List.getElem_mem hk)
        have Htk := Lib.hid (show badX xs x = false → ∀ y ∈ l.take (k + 1), badX xs y = false from fun hb y hy => by
          rw [List.take_succ_eq_append_getElem hk] at hy
          rcases List.mem_append.1 hy with h | h
          · exact HK.out.2.2 y h
          · simp at h; rw [h, hx, hb])
        clear hcell hba hx hk
        by_cases h1 : x < 0
        case pos =>
          have Hb := Lib.hid (show badX xs x = true by unfold badX; rw [decide_eq_true h1]; rfl)
          go_wp2_with fail
          go_ret2
          have he := HE.out
          unfold decE at he
          rw [if_neg (by rw [Hc.out]; decide), if_pos (List.any_eq_true.2 ⟨x, Hmem.out, Hb.out⟩)] at he
          injection he with e1 e2
          subst e1 e2
          exact ⟨_, rfl, OB.nil _ _, HG3.out⟩
        by_cases h2 : (xs.length : Int) ≤ x
        case pos =>
          have Hb := Lib.hid (show badX xs x = true by unfold badX; rw [decide_eq_true h2, Bool.or_true])
          have h1' : decide (x < 0) = false := decide_eq_false h1
          clear h1
          go_wp2_with fail
          go_ret2
          have he := HE.out
          unfold decE at he
          rw [if_neg (by rw [Hc.out]; decide), if_pos (List.any_eq_true.2 ⟨x, Hmem.out, Hb.out⟩)] at he
          injection he with e1 e2
          subst e1 e2
          exact ⟨_, rfl, OB.nil _ _, HG3.out⟩
        have Hb := Lib.hid (show badX xs x = false by unfold badX; rw [decide_eq_false h1, decide_eq_false h2]; rfl)
        have h1' : decide (x < 0) = false := decide_eq_false h1
        have h2' : decide ((xs.length : Int) ≤ x) = false := decide_eq_false h2
        clear h1 h2
        go_wp2_with fail
        go_roundg (gk - 1)
        case measure => have := HK.out; have := Hk.out; omega
        case rel => exact ⟨k + 1, by go_num, rfl, ⟨Hk.out, by have := HK.out; have := Hk.out; omega, Htk.out Hb.out⟩⟩
      · have Hk := Lib.hid (show k = l.length by have := HK.out; omega)
        go_wp2_with fail
        go_meet
        refine Lib.hid ⟨rfl, fun x hx => HK.out.2.2 x (by rw [Hk.out, List.take_of_length_le (Nat.le_refl _)]; exact hx)⟩
  case rest =>
  obtain ⟨rfl, hin⟩ := hcut.out
  have Hin := Lib.hid hin
  clear hin hcut
  obtain ⟨i0, hi0, hz0, hz1, hz2⟩ := info_parts info_sb
  have f3 : wc.cell? ⟨q1, 0, none⟩ = some (.slice A xs.length cap) := by rw [HB3.out.cell]; rfl
  have hmk := fun w => run_make (P := Try.prog) w TSS TSB i0 nilS Try.underlying76 hi0 hz0 .i64 .i64 (xs.length : Nat) (xs.length : Nat) (by omega) (by omega) (by rw [hz2]; omega) (by omega)
  rw [made_s i0 hz1] at hmk
  simp only [Int.toNat_natCast] at hmk
  clear hi0 hz0 hz1 hz2
  go_upto_region 13 with (fail)
  have HD := Lib.hid (show DA w (((wc.alloc (.cells (Array.replicate xs.length nilS) TSB)).alloc (.cells #[.slice (some ⟨wc.heap.size, 0, none⟩) xs.length xs.length] TSS)).alloc (.cells #[decF (wc.heap.size + 1) q1 (wc.heap.size + 1 + 1)] TFn)) wc.heap.size (wc.heap.size + 1) q1 (wc.heap.size + 1 + 1) (.slice A xs.length cap) xs (List.replicate xs.length nilS) from by
    have b1 := Blk.new wc TSB (Array.replicate xs.length nilS)
    have b2 := Blk.new (wc.alloc (.cells (Array.replicate xs.length nilS) TSB)) TSS #[.slice (some ⟨wc.heap.size, 0, none⟩) xs.length xs.length]
    have b3 := Blk.new ((wc.alloc (.cells (Array.replicate xs.length nilS) TSB)).alloc (.cells #[.slice (some ⟨wc.heap.size, 0, none⟩) xs.length xs.length] TSS)) TFn #[decF (wc.heap.size + 1) q1 (wc.heap.size + 1 + 1)]
    have s1 : (wc.alloc (.cells (Array.replicate xs.length nilS) TSB)).heap.size = wc.heap.size + 1 := by simp
    have s2 : ((wc.alloc (.cells (Array.replicate xs.length nilS) TSB)).alloc (.cells #[.slice (some ⟨wc.heap.size, 0, none⟩) xs.length xs.length] TSS)).heap.size = wc.heap.size + 1 + 1 := by simp
    rw [s1] at b2
    rw [s2] at b3
    refine ⟨((HG3.out.alloc _).alloc _).alloc _, HS0.out, HG3.out.size, ?_, b2.alloc _, ((HB3.out.alloc _).alloc _).alloc _, b3, by simp, fun i v hv => Or.inl ?_⟩
    · rw [show (List.replicate xs.length nilS).toArray = Array.replicate xs.length nilS by simp]
      exact (b1.alloc _).alloc _
    · rw [List.getElem?_replicate] at hv
      split at hv
      · injection hv with hv; exact hv.symm
      · cases hv)
  obtain ⟨b10, hb10⟩ : ∃ b, wc.heap.size + 1 = b := ⟨_, rfl⟩
  rw [hb10] at HD ⊢
  obtain ⟨b11, hb11⟩ : ∃ b, b10 + 1 = b := ⟨_, rfl⟩
  rw [hb11] at HD ⊢
  clear hb10 hb11 hmk f3
  generalize wc.heap.size = ga at HD ⊢
  generalize World.alloc (World.alloc (World.alloc wc _) _) _ = w4 at HD ⊢
  go_wp2_with fail
  go_loopg [12, 46] (l.length + 1) (fun m s12 s46 wr => ∃ (k : Nat) (v : Value) (vals : List Value), v = s12 ∧ s46 = .int .i64 k ∧ Hid (k ≤ l.length ∧ l.length - k < m) ∧ Hid (DA w wr ga b10 q1 b11 (.slice A xs.length cap) xs vals ∧ OB wr w.heap.size v (flatE xs (l.take k)) ∧ Dj vals v ∧ (flatE xs (l.take k)).length ≤ 4096))
  case atStart => exact ⟨0, nilS, _, rfl, rfl, ⟨Nat.zero_le _, by omega⟩, HD.out, OB.nil _ _, fun i u g _ _ => by simp [Value.ownBlock], Nat.zero_le _⟩
  case round =>
    obtain ⟨k, v, vals, rfl, rfl, HK, HP⟩ := hrel
    clear HD
    by_cases hk : k < l.length
    · obtain ⟨ba, oa, rfl, hba, hcell⟩ := (HV0.out.gr HP.out.1.gr).at_ (s := 1) (fun _ => rfl) rfl hk
      have d0 := hcell 0 (by omega)
      simp [encI] at d0
      have hki : (k : Int) < l.length := by omega
      have Hk := Lib.hid hk
      obtain ⟨xn, hx⟩ : ∃ x : Nat, l[k]'hk = x := by
        have h := Hin.out _ (List.getElem_mem hk)
        unfold badX at h
        simp at h
        exact ⟨(l[k]'hk).toNat, by omega⟩
      have Hxn := Lib.hid (show xn < xs.length from by
        have h := Hin.out _ (List.getElem_mem hk)
        unfold badX at h
        simp at h
        omega)
      rw [hx] at d0
      have Hft := Lib.hid (show flatE xs (l.take (k + 1)) = flatE xs (l.take k) ++ expE xs xn by rw [flatE_take xs l hk, hx])
      have Hcl := Lib.hid (dec_any Hc.out (xn + 1) xn vals wr (by omega) Hxn.out HP.out.1)
      have c11 := HP.out.1.cells.2.2
      clear hcell hba hx hk
      obtain ⟨Av, cv, rfl⟩ := own_formN HP.out.2.1.own
      have Hel := Lib.hid (expE_le xs xn)
      go_upto_region 18 with (go_at_call 44; refine Hcl.out.mono ?_; rintro e w5 ⟨u, vals1, rfl, h1, h2, h3, h4, h5, h6⟩; have HL := Lib.hid (And.intro h1 (And.intro h2 (And.intro h3 (And.intro h5 h6)))); clear h1 h2 h3 h4 h5 h6)
      have hou := (HL.out.1.ok xn u HL.out.2.1).resolve_left HL.out.2.2.1
      obtain ⟨Au, cu, rfl⟩ := own_formN hou
      have Hou := Lib.hid hou
      have Hlt := Lib.hid (fun kk hk => (HP.out.2.1.own.lt kk hk).2)
      have HOv := Lib.hid (HP.out.2.1.fr HL.out.2.2.2.1 (fun kk hk e => own_blk_ne HP.out.2.1.own HP.out.1.ba (by decide) (e ▸ hk)))
      have HDj := Lib.hid (show Dj vals1 (.slice Av (flatE xs (l.take k)).length cv) from fun i u2 g hu hg e => by
        rcases HL.out.2.2.2.2 i u2 hu with h | h
        · exact HP.out.2.2.1 i u2 g h hg e
        · have := h g hg
          have := Hlt.out g e
          omega)
      clear hou Hcl c11 d0
      have hml : ((flatE xs (l.take k)).length : Int) ≤ 4096 := by have := HP.out.2.2.2; omega
      have hel : ((expE xs xn).length : Int) ≤ 256 := by have := Hel.out; omega
      by_cases hbig : 4096 < (flatE xs (l.take k)).length + (expE xs xn).length
      · have hb1 : (4096 : Int) < ((flatE xs (l.take k)).length : Int) + ((expE xs xn).length : Int) := by omega
        have Hbig := Lib.hid hbig
        clear hbig
        go_wp2_with fail
        go_ret2
        have he := HE.out
        unfold decE at he
        have hf := flatE_le xs l (k + 1)
        rw [Hft.out, List.length_append] at hf
        rw [if_neg (by rw [Hc.out]; decide), if_neg (by rw [List.any_eq_true]; rintro ⟨y, hy, hy2⟩; rw [Hin.out y hy] at hy2; cases hy2), if_pos (by have := Hbig.out; omega)] at he
        injection he with e1 e2
        subst e1 e2
        exact ⟨_, rfl, OB.nil _ _, HL.out.1.gr⟩
      · have hb1 : ¬ (4096 : Int) < ((flatE xs (l.take k)).length : Int) + ((expE xs xn).length : Int) := by omega
        have Hbig := Lib.hid hbig
        obtain ⟨i1, hi1, hx0, hx1, hx2⟩ := info_parts info_u8
        clear hbig
        go_wp2_with (
          at_builtin
          refine wpList_append_st _ encB rfl (.tmp 59) (.tmp 60) TSB rfl w.heap.size TU8 i1 (.int .u8 0) 1 1 Try.underlying25 hi1 hx0 hx1 hx2 rfl (by decide) (.slice Av (flatE xs (l.take k)).length cv) _ _ rfl HOv.out.own (.slice Au (expE xs xn).length cu) (expE xs xn) rfl (SL.of_own (enc := encB) Hou.out rfl) (fun _ => rfl) encB_one (by have := Hbig.out; unfold maxLen; omega) (by have := Hbig.out; omega) HL.out.1.gr.size ?_
          intro v3 w6 hown3 hg3 hat3 hsp3
          rw [← List.flatMap_append] at hown3
          obtain ⟨A3, cap3, rfl⟩ := own_formN hown3
          have HO3 := Lib.hid (show OB w6 w.heap.size (.slice A3 ((flatE xs (l.take k)).length + (expE xs xn).length) cap3) (flatE xs (l.take (k + 1))) from ⟨by rw [Hft.out, List.length_append]; exact hown3, hsp3 IsB (fun u hu => by simp [Value.cells] at hu; subst hu; exact ⟨0, rfl⟩) (fun u hu => encB_isB _ u hu) HOv.out.spare⟩)
          have HD3 := Lib.hid (HL.out.1.apart HOv.out.own HDj.out hg3)
          have HJ3 := Lib.hid (show Dj vals1 (.slice A3 ((flatE xs (l.take k)).length + (expE xs xn).length) cap3) from fun i u2 g hu hg e => by
            rcases hat3 with h | h
            · exact HDj.out i u2 g hu hg (h ▸ e)
            · rw [h] at e
              injection e with e
              rcases HL.out.1.ok i u2 hu with h2 | h2
              · subst h2; simp [Value.ownBlock] at hg
              · have := (h2.lt g hg).2
                omega)
          clear hown3 hg3 hat3 hsp3)
        go_roundg (gk - 1)
        case measure => have := HK.out; have := Hk.out; omega
        case rel => exact ⟨k + 1, _, vals1, rfl, by go_num, ⟨Hk.out, by have := HK.out; have := Hk.out; omega⟩, HD3.out, HO3.out, HJ3.out, by rw [Hft.out, List.length_append]; have := Hbig.out; omega⟩
    · have Hk := Lib.hid (show k = l.length by have := HK.out; omega)
      go_wp2_with fail
      go_ret2
      have he := HE.out
      have hfull : flatE xs (l.take k) = flatE xs l := by rw [Hk.out, List.take_of_length_le (Nat.le_refl _)]
      have hm := HP.out.2.2.2
      rw [hfull] at hm
      unfold decE at he
      rw [if_neg (by rw [Hc.out]; decide), if_neg (by rw [List.any_eq_true]; rintro ⟨y, hy, hy2⟩; rw [Hin.out y hy] at hy2; cases hy2), if_neg (by omega)] at he
      injection he with e1 e2
      subst e1 e2
      exact ⟨v, rfl, by rw [← hfull]; exact HP.out.2.1, HP.out.1.gr⟩
end Bpe
end Go.Proofs.Ytildhlneldoffaa
