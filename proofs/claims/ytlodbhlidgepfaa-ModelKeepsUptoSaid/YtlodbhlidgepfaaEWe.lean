/- bpe: Encode. -/
import Derived.Test.YtlodbhlidgepfaaEWd
import Derived.Test.YtlodbhlidgepfaaPQ
import Derived.Test.YtlodbhlidgepfaaEPd
import Derived.Deep.RegionWith
import Derived.WalkMore
set_option linter.unusedVariables false
set_option linter.unusedSimpArgs false
namespace Go.Proofs.Ytlodbhlidgepfaa
open Go.RowKit
open Voc
namespace Bpe
theorem encI_1 : ∀ x : Int, ∀ u ∈ encI x, u.oneCell' = true := by intro x u hu; simp [encI] at hu; subst hu; rfl
def encE (xs : List Pc) (bs : List Int) : List Int × Int := if (checkE xs).1 ≠ 0 then ([], 11) else if 4096 < bs.length then ([], 3) else (encL xs (row0 xs bs), 0)
/-- a row at its beginning -/
structure R0 (W0 w : World) (rb p b gt ga gf n : Nat) (tok : List Int) (sv : Value) (xs : List Pc) : Prop where
  gr : Gr W0 w
  lo : W0.heap.size ≤ rb ∧ W0.heap.size ≤ gt ∧ W0.heap.size ≤ ga ∧ W0.heap.size ≤ gf
  row : Blk w rb TRow #[.pointer (some ⟨p, 0, none⟩), .slice (some ⟨gt, 0, none⟩) n n, .slice (some ⟨ga, 0, none⟩) n n, .slice (some ⟨gf, 0, none⟩) n n, .pointer none]
  bt : Blk w gt TI (ic tok)
  ba : Blk w ga TI (ic (List.replicate n 0))
  bf : Blk w gf TI (ic (List.replicate n 0))
  tb : TB w W0.heap.size p b (tabs xs) (pe xs) sv
  ne : gt ≠ ga ∧ gt ≠ gf ∧ ga ≠ gf
theorem R0.of {W0 w3 w6 : World} {rb p b gt ga gf n : Nat} {tok : List Int} {sv : Value} {xs : List Pc} (hg : Gr W0 w3) (ht : TB w3 W0.heap.size p b (tabs xs) (pe xs) sv) (h6 : Gr w3 w6) (bt : Blk w6 gt TI (ic tok)) (ba : Blk w6 ga TI (ic (List.replicate n 0))) (bf : Blk w6 gf TI (ic (List.replicate n 0)))
    (hrb : w6.heap.size = rb) (hlo : w3.heap.size ≤ gt ∧ w3.heap.size ≤ ga ∧ w3.heap.size ≤ gf) (ne : gt ≠ ga ∧ gt ≠ gf ∧ ga ≠ gf) :
    R0 W0 (w6.alloc (.cells #[.pointer (some ⟨p, 0, none⟩), .slice (some ⟨gt, 0, none⟩) n n, .slice (some ⟨ga, 0, none⟩) n n, .slice (some ⟨gf, 0, none⟩) n n, .pointer none] TRow)) rb p b gt ga gf n tok sv xs := by
  subst hrb
  have h1 := hg.size
  have h2 := h6.size
  exact ⟨(hg.trans h6 (fun _ _ h => h)).alloc _, ⟨by omega, by omega, by omega, by omega⟩, Blk.new _ _ _, bt.alloc _, ba.alloc _, bf.alloc _, (ht.gr h6).gr ((Fr.refl _ NoneS).alloc _), ne⟩
abbrev TQp : TypeId := 123
theorem R0.start {W0 w : World} {rb p b gt ga gf n : Nat} {tok : List Int} {sv : Value} {xs : List Pc} (H : R0 W0 w rb p b gt ga gf n tok sv xs) (hv : SL encP W0 sv xs) (hn : tok.length = n) :
    RW W0 ((w.setCell ⟨rb, 4, none⟩ (.pointer (some ⟨w.heap.size, 0, none⟩))).alloc (.cells #[FV, .slice none 0 0, .int .i64 0] TQp)) rb p b w.heap.size gt ga gf n tok (List.replicate n 0) (List.replicate n 0) sv (.slice none 0 0) xs [] 0 := by
  have hf : Fr w (w.setCell ⟨rb, 4, none⟩ (.pointer (some ⟨w.heap.size, 0, none⟩))) (fun k => k = rb) := (Fr.refl _ (fun k => k = rb)).setCell (p := ⟨rb, 4, none⟩) (fun _ => rfl) _
  have hq := Blk.new (w.setCell ⟨rb, 4, none⟩ (.pointer (some ⟨w.heap.size, 0, none⟩))) TQp #[FV, .slice none 0 0, .int .i64 0]
  have hs : (w.setCell ⟨rb, 4, none⟩ (.pointer (some ⟨w.heap.size, 0, none⟩))).heap.size = w.heap.size := by simp [World.setCell]
  have hrow := H.row.set_ 4 (.pointer (some ⟨w.heap.size, 0, none⟩))
  rw [hs] at hq
  generalize w.setCell ⟨rb, 4, none⟩ (.pointer (some ⟨w.heap.size, 0, none⟩)) = w2 at hf hq hrow hs ⊢
  have hg : Gr w2 (w2.alloc (.cells #[FV, .slice none 0 0, .int .i64 0] TQp)) := (Fr.refl w2 NoneS).alloc _
  refine ⟨(H.gr.trans hf (fun i hi e => by subst e; have := H.lo.1; omega)).trans hg (fun _ _ h => h.elim), hv, H.lo, hrow.alloc _, (H.bt.fr hf (H.bt.ne_ H.row (by decide))).alloc _, (H.ba.fr hf (H.ba.ne_ H.row (by decide))).alloc _, (H.bf.fr hf (H.bf.ne_ H.row (by decide))).alloc _,
    (H.tb.fr hf (H.tb.blk.ne_ H.row (by decide)) (H.tb.mp.ne H.row)).gr hg, ⟨H.gr.size, hq, World.ownsRow_nil _ _ _ _, by simp [Value.ownBlock]⟩, H.ne, hn, by simp, by simp⟩
theorem ah0_at {n k : Nat} (h : k < (ah0 n).length) : (ah0 n)[k] = (k : Int) - 1 := by simp [ah0]
theorem fr0_at {n k : Nat} (h : k < (fr0 n).length) : (fr0 n)[k] = (k : Int) + 1 := by simp [fr0]
set_option maxRecDepth 100000 in
set_option maxHeartbeats 12800000 in
theorem encode_yes {w : World} {v vb : Value} {xs : List Pc} {bs : List Int} (HS : SL encP w v xs) (HV : SL encB w vb bs) (hw : ∀ q ∈ xs, wfP q) (hb : ∀ c ∈ bs, 0 ≤ c ∧ c < 256) (hl : xs.length ≤ 1048576) (hc : (checkE xs).1 = 0) (hbl : bs.length ≤ 4096) :
    Calls Try.prog 26 #[.agg #[v], vb] w fun e w' => ∃ r, e = .returned (.tuple #[r, .int .i64 0]) ∧ OI w' w.heap.size r (encL xs (row0 xs bs)) ∧ Gr w w' := by
  obtain ⟨i0, hi0, hz0, hz1, hz2⟩ := info_parts info_int
  obtain ⟨A, cap, rfl⟩ := SL.form HS
  obtain ⟨A2, cap2, rfl⟩ := SL.form HV
  have HG := Lib.hid ((Fr.refl w NoneS).alloc (.cells #[.slice A xs.length cap] 27))
  have HB := Lib.hid (Blk.new w 27 #[.slice A xs.length cap])
  have HS0 := Lib.hid HS
  have HS1 := Lib.hid (HS.gr HG.out)
  have HV1 := Lib.hid (HV.gr HG.out)
  have Hw := Lib.hid hw
  have Hb := Lib.hid hb
  have HX := Lib.hid (good_of hc)
  have Hbl := Lib.hid hbl
  have h4i : ¬ (4096 : Int) < bs.length := by omega
  have hlb : (bs.length : Int) ≤ 4096 := by omega
  have HO := Lib.hid (open_yes HS1.out hw hl hc)
  clear HS HV hw hb hl hbl hc
  obtain ⟨q1, hq1⟩ : ∃ q, w.heap.size = q := ⟨_, rfl⟩
  rw [hq1] at HB
  have Hq1 := Lib.hid hq1
  go_enter Try.func26, Try.ntmps26
  go_upto_region 1 with (fail)
  go_step3
  go_upto_region 1 with (fail)
  clear hq1
  generalize World.alloc w _ = wa at HG HB HS1 HV1 HO ⊢
  have f0 : wa.cell? ⟨q1, 0, none⟩ = some (.slice A xs.length cap) := by rw [HB.out.cell]; rfl
  go_upto_region 6 with (go_at_call 42; refine HO.out.mono ?_; rintro e w3 ⟨p, b, rfl, ht, hg⟩; have HT3 := Lib.hid (TB.mk ⟨Nat.le_trans HG.out.size ht.bs_.1, Nat.le_trans HG.out.size ht.bs_.2⟩ ht.blk ht.mp ht.len); have HG3 := Lib.hid (HG.out.trans hg (fun _ _ h => h)); have HV3 := Lib.hid (HV1.out.gr hg); clear ht hg)
  clear f0 HO
  have hmk := fun w => run_make (P := Try.prog) w 60 TI i0 (.int .i64 0) Try.underlying60 hi0 hz0 .i64 .i64 (bs.length : Nat) (bs.length : Nat) (by omega) (by omega) (by rw [hz2]; omega) (by omega)
  rw [made_i i0 hz1] at hmk
  simp only [Int.toNat_natCast] at hmk
  clear hi0 hz0 hz1 hz2
  have HBg := Lib.hid (fun wx (hg : Gr w3 wx) => begin_any (HT3.out.gr hg) (HV3.out.gr hg) HX.out Hw.out Hb.out (by have := Hbl.out; omega))
  go_cut [8] (fun s8 wx => ∃ rb gt ga gf : Nat, s8 = .pointer (some ⟨rb, 0, none⟩) ∧ Hid (R0 w wx rb p b gt ga gf bs.length (row0 xs bs) (.slice A xs.length cap) xs))
  case first =>
    go_region_with (go_at_call 43; refine (HBg.out _ (by first | exact (Fr.refl _ NoneS).drew | exact (Fr.refl _ NoneS).drew.alloc _ | exact ((Fr.refl _ NoneS).drew.alloc _).alloc _)).mono ?_; rintro e w4 ⟨g, rfl, hge, hbk, hg⟩; have HK4 := Lib.hid (And.intro hge hbk); have HG4 := Lib.hid hg; clear hge hbk hg)
    all_goals (try go_wp2_with fail)
    all_goals go_meet
    all_goals (have hk1 := HK4.out.1; have hk2 := HK4.out.2.lt; have hk3 := HG4.out.size; simp at hk1 hk3)
    all_goals (refine ⟨_, _, _, _, rfl, Lib.hid (R0.of HG3.out HT3.out ?_ ?_ ?_ ?_ ?_ ?_ ?_)⟩)
    all_goals first
      | exact HK4.out.2
      | exact HK4.out.2.alloc _
      | exact (HK4.out.2.alloc _).alloc _
      | exact Blk.new w4 _ _
      | exact (Blk.new w4 _ _).alloc _
      | (have h := Blk.new (w4.alloc (.cells (ic (List.replicate bs.length 0)) TI)) TI (ic (List.replicate bs.length 0)); rw [show (w4.alloc (.cells (ic (List.replicate bs.length 0)) TI)).heap.size = w4.heap.size + 1 by simp] at h; exact h)
      | exact (Blk.new w3.drew TI _).fr HG4.out (fun h => h)
      | exact ((Blk.new w3.drew TI _).fr HG4.out (fun h => h)).alloc _
      | exact ((Blk.new w3.drew TI _).alloc _).fr HG4.out (fun h => h)
      | (have h := Blk.new (w3.drew.alloc (.cells (ic (List.replicate bs.length 0)) TI)) TI (ic (List.replicate bs.length 0)); rw [show (w3.drew.alloc (.cells (ic (List.replicate bs.length 0)) TI)).heap.size = w3.heap.size + 1 by simp] at h; exact h.fr HG4.out (fun h => h))
      | exact ((((Fr.refl w3 NoneS).drew).trans HG4.out (fun _ _ h => h)).alloc _).alloc _
      | exact (((Fr.refl w3 NoneS).drew.alloc _).trans HG4.out (fun _ _ h => h)).alloc _
      | exact (((Fr.refl w3 NoneS).drew.alloc _).alloc _).trans HG4.out (fun _ _ h => h)
      | omega
      | (simp <;> omega)
  case rest =>
    obtain ⟨rb, gt, ga, gf, rfl, HR0⟩ := hcut
    clear hmk HBg HG3 HV3 HV1 HS1 HB HG
    have HNew := Lib.hid (fun wx => Qp.new_any (.func 45) #[] #[] wx)
    have Hrl := Lib.hid (row0_len xs bs)
    have hc4 : wc.cell? ⟨rb, 4, none⟩ = some (.pointer none) := by rw [HR0.out.row.cell]; rfl
    have hrb := HR0.out.row.lt
    have hf4 := HR0.out.row.frozen 4
    have HW1 := Lib.hid (HR0.out.start HS0.out Hrl.out)
    obtain ⟨L0, hL0⟩ : ∃ L, row0 xs bs = L := ⟨_, rfl⟩
    have HL0 := Lib.hid hL0
    rw [hL0] at HW1 Hrl
    have Hgoal := Lib.hid (show encL xs (row0 xs bs) = encL xs L0 by rw [hL0])
    clear hL0
    go_upto_region 8 with (go_at_call 44; refine (HNew.out _).mono ?_; rintro e w5 ⟨rfl, rfl⟩)
    generalize hq : wc.heap.size = qb at HW1 ⊢
    clear hq hc4 hrb hf4 HR0
    generalize World.alloc (World.setCell wc _ _) _ = w6 at HW1 ⊢
    obtain ⟨n, hn⟩ : ∃ n, bs.length = n := ⟨_, rfl⟩
    rw [hn] at HW1 Hrl hlb
    have Hn := Lib.hid hn
    have hnl : (n : Int) ≤ 4096 := by omega
    rw [hn]
    clear hn
    -- the neighbours
    go_upto_block 0 with (fail)
    go_cut [] (fun wx => Hid (RW w wx rb p b qb gt ga gf n L0 (ah0 n) (fr0 n) (.slice A xs.length cap) (.slice none 0 0) xs [] 0))
    case first =>
      go_wp2_with fail
      go_loopg [44] (n + 1) (fun m s44 wr => ∃ k : Nat, s44 = .int .i64 k ∧ Hid (k ≤ n ∧ n - k < m) ∧ Hid (RW w wr rb p b qb gt ga gf n L0 (part (ah0 n) k) (part (fr0 n) k) (.slice A xs.length cap) (.slice none 0 0) xs [] 0))
      case atStart => exact ⟨0, rfl, ⟨Nat.zero_le _, by omega⟩, by rw [part_none, part_none, show (ah0 n).length = n by simp [ah0], show (fr0 n).length = n by simp [fr0]]; exact HW1.out⟩
      case round =>
        obtain ⟨k, rfl, HK, HP⟩ := hrel
        by_cases hk : k < n
        · have hki : (k : Int) < (n : Int) := by omega
          obtain ⟨c0, c1, c2, c3, c4⟩ := HP.out.cells
          have ca := HP.out.ca hk
          have cf := HP.out.cf hk
          generalize (part (ah0 n) k).getD k 0 = y1 at ca
          generalize (part (fr0 n) k).getD k 0 = y2 at cf
          have f1 := HP.out.ba.frozen k
          have f2 := HP.out.bf.frozen k
          have hne := HP.out.ne.2.2
          have Hk := Lib.hid hk
          clear hk
          go_upto_region 11 with (fail)
          go_region
          have HN := Lib.hid (show RW w _ rb p b qb gt ga gf n L0 (part (ah0 n) (k + 1)) (part (fr0 n) (k + 1)) (.slice A xs.length cap) (.slice none 0 0) xs [] 0 from by
            have hA : k < (ah0 n).length := by simp [ah0]; exact Hk.out
            have hF : k < (fr0 n).length := by simp [fr0]; exact Hk.out
            rw [← part_set _ hA, ← part_set _ hF, ah0_at, fr0_at]
            exact ((HP.out.set_a k ((k : Int) - 1)).set_f k ((k : Int) + 1)).any ((Fr.refl _ NoneS).drew))
          clear c0 c1 c2 c3 c4 ca cf f1 f2
          go_wp2_with fail
          go_roundg (gk - 1)
          case measure => have := HK.out; have := Hk.out; omega
          case rel => exact ⟨k + 1, by go_num, ⟨Hk.out, by have := HK.out; have := Hk.out; omega⟩, HN.out⟩
        · have hk1 : decide ((k : Int) < (n : Int)) = false := decide_eq_false (by omega)
          have Hk := Lib.hid (show k = n by have := HK.out; omega)
          go_wp2_with fail
          go_meet
          have h := HP.out
          rw [Hk.out] at h
          have hA : (ah0 n).length = n := by simp [ah0]
          have hF : (fr0 n).length = n := by simp [fr0]
          have e1 := part_all (ah0 n)
          have e2 := part_all (fr0 n)
          rw [hA] at e1
          rw [hF] at e2
          rw [e1, e2] at h
          exact Lib.hid h
    case rest =>
    have HW2 := hcut
    clear HW1 HNew
    have HLk := Lib.hid (show Lk n L0 (ah0 n) (fr0 n) (List.range n) from by
      have h := Lk.start L0 (fun x hx => by rw [← HL0.out] at hx; unfold row0 at hx; obtain ⟨c, _, rfl⟩ := List.mem_map.1 hx; omega)
      rw [Hrl.out] at h
      exact h)
    have Htk := Lib.hid (show ∀ x ∈ L0, -1 ≤ x ∧ x < 4097 from by
      intro x hx
      rw [← HL0.out] at hx
      unfold row0 at hx
      obtain ⟨c, hcm, rfl⟩ := List.mem_map.1 hx
      have := (tabs_good HX.out Hw.out c (Hb.out c hcm).1 (Hb.out c hcm).2).2
      have := HX.out.len
      omega)
    have Hwf := Lib.hid (show ∀ (tok : List Int), (∀ x ∈ tok, -1 ≤ x ∧ x < 4097) → ∀ x ∈ tok, (Lit.int .i64 x).wf = true from by
      intro tok h x hx
      have := h x hx
      have h0 : IntKind.i64.min = -9223372036854775808 := rfl
      have h1 : IntKind.i64.max = 9223372036854775807 := rfl
      simp [Lit.wf]
      omega)
    -- each pair waits
    go_upto_block 2 with (fail)
    go_cut [] (fun wx => ∃ (hv : Value) (hp : List (Pr × Nat)) (nx : Nat), Hid (RW w wx rb p b qb gt ga gf n L0 (ah0 n) (fr0 n) (.slice A xs.length cap) hv xs hp nx ∧ Wt xs n L0 (List.range n) (fun _ => False) hp nx ∧ nx ≤ n ∧ hp.length ≤ nx))
    case first =>
      go_wp2_with fail
      go_loopg [66] (n + 1) (fun m s66 wr => ∃ (k : Nat) (hv : Value) (hp : List (Pr × Nat)) (nx : Nat), s66 = .int .i64 k ∧ Hid (k ≤ n ∧ n - k < m) ∧ Hid (RW w wr rb p b qb gt ga gf n L0 (ah0 n) (fr0 n) (.slice A xs.length cap) hv xs hp nx ∧ Wt xs n L0 (List.range n) (fun q => k ≤ q) hp nx ∧ nx ≤ k ∧ hp.length ≤ nx))
      case atStart => exact ⟨0, _, [], 0, rfl, ⟨Nat.zero_le _, by omega⟩, HW2.out, (Wt.nil _ _ _ _).mono (fun _ _ _ _ => Nat.zero_le _), Nat.le_refl _, Nat.le_refl _⟩
      case round =>
        obtain ⟨k, hv, hp, nx, rfl, HK, HP⟩ := hrel
        by_cases hk : k < n
        · have hki : (k : Int) < (n : Int) := by omega
          have Hk := Lib.hid hk
          have hn4 : n ≤ 4096 := by omega
          have HA := Lib.hid (wait_any HP.out.1 HLk.out (j := k) (i := k) (List.getElem?_range hk) HX.out Hw.out (Hwf.out _ Htk.out) (by omega) (by have := HP.out.2.2; omega) (by have := HP.out.2.2; omega))
          have HWt := Lib.hid (HP.out.2.1.wait HLk.out (j := k) (p := k) (List.getElem?_range hk))
          clear hk hn4
          go_upto_region 17 with (go_at_call 46; refine HA.out.mono ?_; rintro e w7 ⟨rfl, hv', hr⟩; have HR7 := Lib.hid hr; clear hr)
          go_wp2_with fail
          go_roundg (gk - 1)
          case measure => have := HK.out; have := Hk.out; omega
          case rel =>
            refine ⟨k + 1, hv', _, _, by go_num, ⟨Hk.out, by have := HK.out; have := Hk.out; omega⟩, HR7.out, HWt.out.mono (fun _ q _ hq => by have := hq.1; have := hq.2; omega), ?_, ?_⟩
            · have := HP.out.2.2.1
              unfold waitX
              split <;> omega
            · have := HP.out.2.2
              unfold waitX waitQ
              split
              · omega
              · rw [QP.length_push]; omega
        · have hk1 : decide ((k : Int) < (n : Int)) = false := decide_eq_false (by omega)
          have Hk := Lib.hid (show k = n by have := HK.out; omega)
          go_wp2_with fail
          go_meet
          refine ⟨hv, hp, nx, Lib.hid ⟨HP.out.1, HP.out.2.1.mono (fun j q hq h => ?_), by have := HP.out.2.2.1; have := Hk.out; omega, HP.out.2.2.2⟩⟩
          have := (List.getElem?_eq_some_iff.1 hq).1
          have h2 := List.mem_range.1 (List.mem_of_getElem? hq)
          have := Hk.out
          omega
    case rest =>
    obtain ⟨hv, hp, nx, HS3⟩ := hcut
    clear HW2
    have HL3 := Lib.hid (LP.start Hrl.out (fun x hx => by rw [← HL0.out] at hx; unfold row0 at hx; obtain ⟨c, _, rfl⟩ := List.mem_map.1 hx; omega) Htk.out HS3.out.2.1 HS3.out.2.2.1 HS3.out.2.2.2)
    have HR3 := Lib.hid HS3.out.1
    clear HS3
    -- pair by pair
    go_upto_block 4 with (fail)
    go_step3
    go_upto_block 4 with (fail)
    go_cut [] (fun wx => ∃ (tok ah fr : List Int) (P : List Nat) (hv : Value) (nx : Nat), Hid (RW w wx rb p b qb gt ga gf n tok ah fr (.slice A xs.length cap) hv xs [] nx ∧ LP xs n L0 tok ah fr P [] nx))
    case first =>
      go_wp2_with fail
      go_loopg [] (hp.length + 3 * n + 1) (fun m wr => ∃ (tok ah fr : List Int) (P : List Nat) (hv : Value) (hp : List (Pr × Nat)) (nx : Nat), Hid (hp.length + 3 * P.length < m) ∧ Hid (RW w wr rb p b qb gt ga gf n tok ah fr (.slice A xs.length cap) hv xs hp nx ∧ LP xs n L0 tok ah fr P hp nx))
      case atStart => exact ⟨_, _, _, _, hv, hp, nx, Lib.hid (by rw [List.length_range]; omega), HR3.out, HL3.out⟩
      case round =>
        obtain ⟨tok, ah, fr, P, hv, hp, nx, HK, HP⟩ := hrel
        clear HR3 HL3
        obtain ⟨c0, c1, c2, c3, c4⟩ := HP.out.1.cells
        cases hp with
        | nil =>
          have HPn := Lib.hid (Qp.pop_none FV hv w.heap.size qb wr nx HP.out.1.q (.func 45) #[] #[] rfl)
          go_wp2_with (first
            | (go_at_call 47; refine HPn.out.mono ?_; rintro e w8 ⟨rfl, hg⟩; have HG8 := Lib.hid hg; clear hg)
            | refine Qp.wpList_store_new' (w0 := w8) rfl _ _ _ rfl #[.int .u32 0, .int .i64 0, .int .i64 0, .int .i64 0, .int .i64 0] _ _ rfl rfl rfl (by kernel_rfl) (by kernel_rfl) (by kernel_rfl) ?_)
          go_meet
          exact ⟨tok, ah, fr, P, hv, nx, Lib.hid ⟨(HP.out.1.any HG8.out).any ((Fr.refl _ NoneS).alloc _), HP.out.2⟩⟩
        | cons e r =>
          obtain ⟨⟨za, zb, zc, zd, ze⟩, tz⟩ := e
          have Hlen := Lib.hid (show r.length + 1 ≤ 4194304 from by have h1 := HP.out.2.hl; have h2 := HP.out.2.nx_; rw [List.length_cons] at h1; omega)
          have HPs := Lib.hid (Qp.pop_some ltP FV hv w.heap.size qb w.heap.size w wr (((za, zb, zc, zd, ze), tz) :: r) nx HP.out.1.q (less_gr _ _) (Gr.below HP.out.1.gr) (Nat.le_refl _) r.length rfl (by rw [List.length_cons]; exact Hlen.out) za zb zc zd ze tz rfl)
          obtain ⟨a, t0, han, hfnd, hrk, ha, ht0⟩ := HP.out.2.wt.snd (((za, zb, zc, zd, ze), tz)) (by simp)
          simp only at hfnd hrk ha ht0
          subst ha ht0
          clear hfnd hrk
          have Han := Lib.hid han
          have hai : (a : Int) < (n : Int) := by omega
          go_upto_region 20 with (first
            | (go_at_call 47; refine HPs.out.mono ?_; rintro e w8 ⟨rfl, hv8, hq8, hf8, _⟩; have HR8 := Lib.hid (HP.out.1.queue hf8 hq8); clear hq8 hf8)
            | refine Qp.wpList_store_new' (w0 := w8) rfl _ _ _ rfl #[.int .u32 za, .int .i64 (a : Nat), .int .i64 zc, .int .i64 zd, .int .i64 (t0 : Nat)] _ _ rfl rfl rfl (by kernel_rfl) (by kernel_rfl) (by kernel_rfl) ?_)
          have HPb := Lib.hid (Blk.new w8 TPr #[.int .u32 za, .int .i64 (a : Nat), .int .i64 zc, .int .i64 zd, .int .i64 (t0 : Nat)])
          have HR9 := Lib.hid (HR8.out.any ((Fr.refl w8 NoneS).alloc (.cells #[.int .u32 za, .int .i64 (a : Nat), .int .i64 zc, .int .i64 zd, .int .i64 (t0 : Nat)] TPr)))
          generalize w8.heap.size = pb at HPb ⊢
          generalize World.alloc w8 _ = w9 at HPb HR9 ⊢
          clear c0 c1 c2 c3 c4 HR8 HPs
          obtain ⟨c0, c1, c2, c3, c4⟩ := HR9.out.cells
          have p1 : w9.cell? ⟨pb, 1, none⟩ = some (.int .i64 (a : Nat)) := by rw [HPb.out.cell]; rfl
          have p2 : w9.cell? ⟨pb, 2, none⟩ = some (.int .i64 zc) := by rw [HPb.out.cell]; rfl
          have p3 : w9.cell? ⟨pb, 3, none⟩ = some (.int .i64 zd) := by rw [HPb.out.cell]; rfl
          have p4 : w9.cell? ⟨pb, 4, none⟩ = some (.int .i64 (t0 : Nat)) := by rw [HPb.out.cell]; rfl
          have ct := HR9.out.ct han
          have cf := HR9.out.cf han
          have Hst := Lib.hid (fun hs => HP.out.2.stale (e := ((za, (a : Int), zc, zd, (t0 : Int)), tz)) (r := r) hs)
          clear han
          by_cases h1 : tok.getD a 0 = zc
          case neg =>
            have Hno := Lib.hid (Hst.out (fun hs => h1 (by have := hs.1; rw [Int.toNat_natCast] at this; exact this)))
            generalize tok.getD a 0 = x1 at h1 ct
            have b1 : (x1 != zc) = true := bne_iff_ne.2 h1
            clear h1 cf Hst
            go_quiet (fail)
            go_wp2_with fail
            go_roundg (gk - 1)
            case measure => have := HK.out; rw [List.length_cons] at this; omega
            case rel => exact ⟨tok, ah, fr, P, hv8, _, nx, Lib.hid (by have h1 := HK.out; have h2 := Hno.out.2; rw [List.length_cons] at h1; omega), HR9.out.any ((Fr.refl _ NoneS).drewN _), Hno.out.1⟩
          obtain ⟨g, hg⟩ := HP.out.2.nat HX.out.ok.back (a := a) rfl h1
          have H1 := Lib.hid h1
          have Hg := Lib.hid hg
          rw [h1] at ct
          rw [hg] at cf
          have b1 : (zc != zc) = false := by simp
          clear h1 hg
          by_cases h2 : n ≤ g
          case pos =>
            have Hno := Lib.hid (Hst.out (fun hs => by have := hs.2.1; simp only at this; rw [Int.toNat_natCast, Hg.out] at this; omega))
            have b2 : decide ((n : Int) ≤ (g : Int)) = true := decide_eq_true (by omega)
            have b3 : (n : Int) ≤ (g : Int) := by omega
            clear h2 Hst
            go_quiet (fail)
            go_wp2_with fail
            go_roundg (gk - 1)
            case measure => have := HK.out; rw [List.length_cons] at this; omega
            case rel => exact ⟨tok, ah, fr, P, hv8, _, nx, Lib.hid (by have h1 := HK.out; have h2 := Hno.out.2; rw [List.length_cons] at h1; omega), HR9.out.any ((Fr.refl _ NoneS).drewN _), Hno.out.1⟩
          have b2 : decide (n ≤ g) = false := decide_eq_false h2
          have hgi : (g : Int) < (n : Int) := by omega
          have cg := HR9.out.ct (show g < n by omega)
          have Hgn := Lib.hid h2
          clear h2
          by_cases h3 : tok.getD g 0 = zd
          case neg =>
            have Hno := Lib.hid (Hst.out (fun hs => h3 (by have := hs.2.2; simp only at this; rw [Int.toNat_natCast, Hg.out, Int.toNat_natCast] at this; exact this)))
            generalize tok.getD g 0 = x3 at h3 cg
            have b4 : (x3 != zd) = true := bne_iff_ne.2 h3
            clear h3 Hst
            go_quiet (fail)
            go_wp2_with fail
            go_roundg (gk - 1)
            case measure => have := HK.out; rw [List.length_cons] at this; omega
            case rel => exact ⟨tok, ah, fr, P, hv8, _, nx, Lib.hid (by have h1 := HK.out; have h2 := Hno.out.2; rw [List.length_cons] at h1; omega), HR9.out.any ((Fr.refl _ NoneS).drewN _), Hno.out.1⟩
          have HF := Lib.hid (HP.out.2.fit HX.out.ok.back HX.out.len (e := ((za, (a : Int), zc, zd, (t0 : Int)), tz)) (r := r) ⟨by rw [Int.toNat_natCast]; exact H1.out, by simp only; rw [Int.toNat_natCast, Hg.out]; omega, by simp only; rw [Int.toNat_natCast, Hg.out, Int.toNat_natCast]; exact h3⟩)
          rw [h3] at cg
          have b4 : (zd != zd) = false := by simp
          clear h3 Hst
          obtain ⟨j, i1, g1, t1, hj, hg1, hin, he, ht, hnx⟩ := HF.out
          have hJ := join_any HR9.out HP.out.2.lk hj hg1 HX.out Hw.out (Hwf.out _ HP.out.2.tk) ht (by omega) (by rw [QP.length_pop, List.length_cons]; have := Hlen.out; omega) (by have := HP.out.2.nx_; omega)
          have hai1 : i1 = a := by unfold entE at he; injection he with _ he; injection he with he _; omega
          have hti1 : t1 = t0 := by unfold entE at he; injection he with _ he; injection he with _ he; injection he with _ he; injection he with _ he; omega
          subst hai1 hti1
          have HJ := Lib.hid (fun wx (hg : Gr w9 wx) => join_any (HR9.out.any hg) HP.out.2.lk hj hg1 HX.out Hw.out (Hwf.out _ HP.out.2.tk) ht (by omega) (by rw [QP.length_pop, List.length_cons]; have := Hlen.out; omega) (by have := HP.out.2.nx_; omega))
          have Hnx := Lib.hid hnx
          clear hJ hj hg1 hin he ht hnx HF
          go_quiet (fail)
          go_upto_region 21 with (fail)
          go_wp2_with (go_at_call 48; refine (HJ.out _ ((Fr.refl _ NoneS).drewN _)).mono ?_; rintro e wj ⟨rfl, hjp⟩; have HJP := Lib.hid hjp; clear hjp)
          obtain ⟨o, hvj, ho, hrj⟩ := HJP.out
          obtain ⟨hlp, hms⟩ := Hnx.out o ho
          have HLP := Lib.hid hlp
          have HMS := Lib.hid hms
          have HRJ := Lib.hid hrj
          clear ho hrj hlp hms
          go_roundg (gk - 1)
          case measure => have := HK.out; rw [List.length_cons] at this; omega
          case rel => exact ⟨_, _, _, _, hvj, _, _, Lib.hid (by have h1 := HK.out; have h2 := HMS.out; omega), HRJ.out, HLP.out⟩
    case rest =>
    obtain ⟨tok, ah, fr, P, hv9, nx9, HF⟩ := hcut
    clear HR3 HL3
    have HE := Lib.hid HF.out.2.done
    have Hlt := Lib.hid HF.out.2.lk.lt
    obtain ⟨i1, hi1, hx0, hx1, hx2⟩ := info_parts info_int
    obtain ⟨c0, c1, c2, c3, c4⟩ := HF.out.1.cells
    have HB := Lib.hid HF.out.1.bt
    have HGF := Lib.hid HF.out.1.gr
    have Hgt := Lib.hid HF.out.1.bt.lt
    have hfl : ∀ k, (hk : k < tok.length) → (tok.take (k + 1)).filter (fun x => decide (0 ≤ x)) = (tok.take k).filter (fun x => decide (0 ≤ x)) ++ if 0 ≤ tok[k] then [tok[k]] else [] := fun k hk => by
      rw [List.take_succ_eq_append_getElem hk, List.filter_append]
      congr 1
      by_cases h : 0 ≤ tok[k] <;> simp [h]
    have Hfl := Lib.hid hfl
    clear hfl
    go_upto_block 7 with (fail)
    go_wp2_with fail
    go_loopg [13, 139] (n + 1) (fun m s13 s139 wr => ∃ (k : Nat) (v : Value), v = s13 ∧ s139 = .int .i64 k ∧ Hid (k ≤ n ∧ n - k < m) ∧ Hid (Gr wc wr ∧ OI wr wc.heap.size v ((tok.take k).filter (fun x => decide (0 ≤ x)))))
    case atStart => exact ⟨0, .slice none 0 0, rfl, rfl, ⟨Nat.zero_le _, by omega⟩, Fr.refl _ _, OI.nil _ _⟩
    case round =>
      obtain ⟨k, v, rfl, rfl, HK, HP⟩ := hrel
      by_cases hk : k < n
      · have hkt : k < tok.length := by rw [Hlt.out]; exact hk
        have hki : (k : Int) < (n : Int) := by omega
        have ct : wr.cell? ⟨gt, k, none⟩ = some (.int .i64 (tok[k]'hkt)) := by
          rw [(HB.out.fr HP.out.1 (fun h => h)).cell, ic_at _ hkt, List.getD_eq_getElem?_getD, List.getElem?_eq_getElem hkt]; rfl
        have HN := Lib.hid (Hfl.out k hkt)
        have Hml := Lib.hid (show ((tok.take k).filter (fun x => decide (0 ≤ x))).length ≤ 4096 from by
          have h1 := List.length_filter_le (fun x : Int => decide (0 ≤ x)) (tok.take k)
          rw [List.length_take] at h1
          omega)
        have Hk := Lib.hid hk
        generalize tok[k]'hkt = x at ct HN
        clear c0 c1 c2 c3 c4 hkt hk
        by_cases h0 : 0 ≤ x
        · have HN1 := Lib.hid (show (tok.take (k + 1)).filter (fun x => decide (0 ≤ x)) = (tok.take k).filter (fun x => decide (0 ≤ x)) ++ [x] by rw [HN.out, if_pos h0])
          clear HN
          generalize (tok.take k).filter (fun x => decide (0 ≤ x)) = l at HP HN1 Hml
          go_wp2_with (
            at_builtin
            refine wpList_append_st _ encI rfl (.tmp 145) (.tmp 147) 60 rfl wc.heap.size TI i1 (.int .i64 0) 1 8 Try.underlying60 hi1 hx0 hx1 hx2 rfl (by decide) v l.length _ rfl (HP.out.2.own.alloc _) (.slice (some ⟨wr.heap.size, 0, none⟩) 1 1) [x] rfl (sl_one (enc := encI) wr x #[.int .i64 x] rfl TI) (fun _ => rfl) encI_1 (by have := Hml.out; simp only [maxLen, List.length_singleton]; omega) (by have := Hml.out; simp only [List.length_singleton]; omega) (Nat.le_trans HP.out.1.size (by simp)) ?_
            intro v3 w3 hown3 hg3 hat3 hsp3
            rw [← List.flatMap_append] at hown3
            obtain ⟨A3, cap3, rfl⟩ := own_formN hown3
            have HO3 := Lib.hid (show OI w3 wc.heap.size (.slice A3 (l.length + 1) cap3) (l ++ [x]) from ⟨by rw [List.length_append, List.length_singleton]; exact hown3, hsp3 IsI (fun u hu => by simp [Value.cells] at hu; subst hu; exact ⟨0, rfl⟩) (fun u hu => by simp [encI] at hu; subst hu; exact ⟨x, rfl⟩) (HP.out.2.spare.own HP.out.2.own ((Fr.refl wr NoneS).alloc _) (fun _ _ h => h))⟩)
            have HG3 := Lib.hid (show Gr wc w3 from (HP.out.1.alloc (.cells #[.int .i64 x] TI)).trans hg3 (fun i hi e => by have := (HP.out.2.own.lt i e).1; omega))
            clear hown3 hg3 hat3 hsp3)
          go_roundg (gk - 1)
          case measure => have := HK.out; have := Hk.out; omega
          case rel => exact ⟨k + 1, _, rfl, by go_num, ⟨Hk.out, by have := HK.out; have := Hk.out; omega⟩, HG3.out, by rw [HN1.out]; exact HO3.out⟩
        · have HN1 := Lib.hid (show (tok.take (k + 1)).filter (fun x => decide (0 ≤ x)) = (tok.take k).filter (fun x => decide (0 ≤ x)) by rw [HN.out, if_neg h0, List.append_nil])
          clear HN
          have h00 : decide (0 ≤ x) = false := decide_eq_false h0
          clear h0
          go_wp2_with fail
          go_roundg (gk - 1)
          case measure => have := HK.out; have := Hk.out; omega
          case rel => exact ⟨k + 1, _, rfl, by go_num, ⟨Hk.out, by have := HK.out; have := Hk.out; omega⟩, HP.out.1, by rw [HN1.out]; exact HP.out.2⟩
      · have hk1 : decide ((k : Int) < (n : Int)) = false := decide_eq_false (by omega)
        have Hk := Lib.hid (show k = n by have := HK.out; omega)
        go_wp2_with fail
        rw [Exit.noGoto_ret]
        go_ret2
        refine ⟨v, rfl, ?_, HGF.out.trans HP.out.1 (fun _ _ h => h)⟩
        have h := HP.out.2
        rw [Hk.out, List.take_of_length_le (by rw [Hlt.out]; exact Nat.le_refl _), HE.out, ← Hgoal.out] at h
        exact h.base HGF.out.size
end Bpe
end Go.Proofs.Ytlodbhlidgepfaa
