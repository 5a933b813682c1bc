/- vocab: Joins. -/
import Derived.Test.YtdogccgebgdlmaaVJs
import Derived.Test.YtdogccgebgdlmaaVRg
import Derived.Test.YtdogccgebgdlmaaVEy
import Derived.Test.YtdogccgebgdlmaaShL
import Derived.Test.YtdogccgebgdlmaaFspoili
set_option linter.unusedVariables false
set_option linter.unusedSimpArgs false
namespace Go.Proofs.Ytdogccgebgdlmaa
open Go.RowKit Go.Shelf Go.Lib Go.Sort
namespace Voc
/-- which piece the i-th rank is of -/
def vi (xs : List Pc) (i : Nat) : Nat := (jl xs xs.length).getD i 0
def encV (xs : List Pc) (i : Nat) : List Value := [.int .i64 (vi xs i : Nat)]

theorem encV_one (xs : List Pc) : ∀ x : Nat, ∀ u ∈ encV xs x, u.oneCell' = true := by intro x u hu; simp [encV] at hu; subst hu; rfl
theorem encV_isI (xs : List Pc) (l : List Nat) : ∀ u ∈ l.flatMap (encV xs), IsI u := by
  intro u hu
  obtain ⟨x, _, hx⟩ := List.mem_flatMap.1 hu
  simp [encV] at hx
  exact ⟨_, hx⟩
theorem vi_of {xs : List Pc} {i : Nat} {k v : Value} (h : (re xs)[i]? = some (k, v)) : v = .int .i64 (vi xs i : Nat) := by
  rw [re_eq, List.getElem?_map] at h
  cases hx : (jl xs xs.length)[i]? with
  | none => rw [hx] at h; cases h
  | some n =>
    rw [hx] at h
    injection h with h
    injection h with h1 h2
    rw [← h2]
    unfold vi
    rw [List.getD_eq_getElem?_getD, hx]
    rfl
theorem re_len (xs : List Pc) : (re xs).length = (jl xs xs.length).length := by rw [re_eq, List.length_map]
theorem jl_le (xs : List Pc) (n : Nat) : (jl xs n).length ≤ n := by
  have := List.length_filter_le (isJ xs) (List.range n)
  rw [List.length_range] at this
  exact this
theorem enc_olist (xs : List Pc) (seen : List Nat) : seen.flatMap (encV xs) = (olist xs seen).map fun i : Nat => Value.int .i64 (i : Int) := by
  unfold olist
  rw [List.map_map]
  induction seen with
  | nil => rfl
  | cons a l ih => rw [List.flatMap_cons, ih]; rfl

def jI (xs : List Pc) : List Int := (joinsF xs).map fun i : Nat => (i : Int)
theorem jI_enc (xs : List Pc) : (jI xs).flatMap encI = (joinsF xs).map fun i : Nat => Value.int .i64 (i : Int) := by
  unfold jI
  generalize joinsF xs = l
  induction l with
  | nil => rfl
  | cons a l ih => rw [List.map_cons, List.flatMap_cons, ih]; rfl
theorem jI_len (xs : List Pc) : (jI xs).length = (jl xs xs.length).length := by
  unfold jI joinsF
  rw [List.length_map]
  exact (joinsN_perm xs _).length_eq
theorem sort_any {w : World} {base p : Nat} {v sv : Value} {xs : List Pc} {seen : List Nat} (H : Inv xs) (hx4 : xs.length ≤ 4096) (h1 : ∀ i, i < (re xs).length → i ∈ seen) (h2 : seen.Nodup) (h3 : ∀ i ∈ seen, i < (re xs).length)
    (ho : w.ownsRow base 3 1 sv seen.length (seen.flatMap (encV xs))) (hsp : SpareT IsI w sv) (HS : SL encP w v xs) (hv : w.cell? ⟨p, 0, none⟩ = some v) (hvb : ∀ k, v.ownBlock = some k → sv.ownBlock ≠ some k) (hp : sv.ownBlock ≠ some p) :
    Calls Try.prog 39 #[sv, .func (.func 40) #[] #[.pointer (some ⟨p, 0, none⟩)]] w fun e w' => e = .returned (.tuple #[]) ∧
      w'.ownsRow base 3 1 sv (jI xs).length ((jI xs).flatMap encI) ∧ SpareT IsI w' sv ∧ Fr w w' (fun k => sv.ownBlock = some k) := by
  rw [re_len] at h1 h3
  have hperm := olist_perm h1 h2 h3
  have hlen : seen.length = (jI xs).length := by rw [jI_len, ← hperm.length_eq]; simp [olist]
  rw [enc_olist] at ho
  rw [jI_enc, ← hlen]
  rcases Nat.eq_zero_or_pos seen.length with h0 | h0
  · obtain ⟨q, c, rfl⟩ : ∃ q c, sv = .slice q 0 c := by
      rcases ho.2 with ⟨h, _⟩ | ⟨g, c, _, h, _⟩
      · exact ⟨none, 0, h⟩
      · exact ⟨_, c, by rw [h0] at h; exact h⟩
    have hS := AnyF.slices_SortFunc_none (P := Try.prog) (ρ := Try.sortL_ren) { Try.sortL with } q c (.func (.func 40) #[] #[.pointer (some ⟨p, 0, none⟩)]) w
    refine Calls.mono hS ?_
    rintro e w' ⟨rfl, rfl⟩
    have e0 : olist xs seen = [] := List.eq_nil_of_length_eq_zero (by simp [olist, h0])
    have e1 : joinsF xs = [] := List.eq_nil_of_length_eq_zero (by have := hlen; unfold jI at this; rw [List.length_map] at this; omega)
    rw [e0] at ho
    rw [e1]
    exact ⟨rfl, ho, hsp, Fr.refl _ _⟩
  · obtain ⟨g, c, rfl⟩ : ∃ g c, sv = .slice (some ⟨g, 0, none⟩) seen.length c := by
      rcases ho.2 with ⟨_, h⟩ | ⟨g, c, _, h, _⟩
      · omega
      · exact ⟨g, c, h⟩
    have hmem : ∀ i ∈ olist xs seen, isJ xs i = true := fun i hi => (mem_jl.1 (hperm.mem_iff.1 hi)).2
    obtain ⟨d, hd⟩ : ∃ d : Array (Jn xs), d = ((olist xs seen).pmap Subtype.mk hmem).toArray := ⟨_, rfl⟩
    have hdm : d.toList.map (fun x : Jn xs => x.1) = olist xs seen := by
      rw [hd]
      simp only [List.map_pmap]
      rw [List.pmap_eq_map]
      simp
    have hds : d.size = seen.length := by rw [hd]; simp [olist]
    haveI : Inhabited (Jn xs) := ⟨d[0]'(by omega)⟩
    obtain ⟨enc, henc⟩ : ∃ enc : Jn xs → Value, enc = fun x => .int .i64 (x.1 : Int) := ⟨_, rfl⟩
    have hcells : d.toList.map enc = (olist xs seen).map fun i : Nat => Value.int .i64 (i : Int) := by rw [← hdm, List.map_map, henc]; rfl
    rw [← hcells, ← hds] at ho
    have hsp' := hsp
    rw [← hds] at hsp'
    have hblk : g < w.heap.size := by obtain ⟨_, h, _⟩ := own_block ho; exact (Array.getElem?_eq_some_iff.1 h).1
    have hpg : p ≠ g := fun e => hp (by rw [e]; rfl)
    have hplt : p < w.heap.size := World.block_lt_of_cell? _ _ hv
    have eg : ∀ args w, (callFunc 40 args).run Try.prog w = .ok (.enter 40 args) w := enters_of Try.func40 (by kernel_rfl) rfl
    have hcmp : CmpReads Try.prog 40 #[.pointer (some ⟨p, 0, none⟩)] enc (cfJ xs) g 0 d.size w := by
      intro m os dk hdk x y
      obtain ⟨_, hf, _⟩ := sort_world ho hdk m os
      have := less_any (HS.fr hf (fun k hk e => hvb k hk (by rw [e]; rfl))) ((hf.cell (p := ⟨p, 0, none⟩) hplt hpg).trans hv) x.1 y.1 (isJ_lt x.2) (isJ_lt y.2)
      subst henc
      exact this
    have hS := Any.slices_SortFunc_total Try.sortL enc (fun x => by rw [henc]; rfl) (cfJ xs) (swoJ xs) 40 #[.pointer (some ⟨p, 0, none⟩)] g 0 c d w eg hcmp.lays (own_holds ho) hblk (by
      rw [hds]
      have := nodup_len _ _ h2 h3
      have := jl_le xs xs.length
      omega) (totJ H)
    rw [← hds]
    refine Calls.mono hS ?_
    rintro e w' ⟨rfl, m, os, rfl⟩
    obtain ⟨hr, hf, hs⟩ := sort_world ho (d' := (d.toList.mergeSort fun x y => !(ltOf (cfJ xs)) y x).toArray) (by simp) m os
    refine ⟨rfl, ?_, hs _ (fun x => ⟨_, by rw [henc]⟩) hsp', hf.mono (fun k _ e => by rw [e]; rfl)⟩
    have := sort_joins H d.toList (by rw [hdm]; exact hperm)
    rw [← this, List.map_map]
    rw [henc] at hr ⊢
    exact hr
set_option maxRecDepth 20000 in
set_option maxHeartbeats 4000000 in
theorem joins_any {w : World} {v : Value} {xs : List Pc} (HS : SL encP w v xs) (hw : ∀ q ∈ xs, wfP q) (hl : xs.length ≤ 1048576) (at_ : Nat) (hE : checkE xs = (0, at_)) :
    Calls Try.prog 21 #[.agg #[v]] w fun e w' => ∃ sv, e = .returned sv ∧ w'.ownsRow w.heap.size 3 1 sv (jI xs).length ((jI xs).flatMap encI) ∧ SpareT IsI w' sv ∧ Gr w w' := by
  obtain ⟨A, cap, rfl⟩ := SL.form HS
  have HG := Lib.hid ((Fr.refl w NoneS).alloc (.cells #[.slice A xs.length cap] 24))
  have HB := Lib.hid (Blk.new w 24 #[.slice A xs.length cap])
  have HL := Lib.hid (look_any (HS.gr HG.out) hw hl 0 at_ hE)
  have HS1 := Lib.hid HS
  have hgood := Lib.hid (good_of (xs := xs) (by rw [hE]))
  have Hlo := Lib.hid (show ∀ k, (Value.slice A xs.length cap).ownBlock = some k → k < w.heap.size from fun k hk => by
    have h256 : 0 < xs.length := by have h1 := hgood.out.many; rw [bl_len] at h1; unfold bl at h1; rw [List.length_map] at h1; have := List.length_filter_le (fun q : Pc => !q.j) xs; omega
    obtain ⟨ba, oa, hA, hb, _⟩ := HS.at_ (s := 5) (fun _ => rfl) rfl h256
    subst hA
    simp [Value.ownBlock] at hk
    omega)
  have H4 := Lib.hid (Nat.le_trans (Nat.le_trans (Nat.le_of_eq (re_len xs)) (jl_le xs _)) (ok_of_check hE).1)
  clear HS hw hE hl
  go_enter Try.func21, Try.ntmps21
  generalize hx : World.alloc w (.cells #[.slice A xs.length cap] 24) = wa at HG HL HB
  have f0 : wa.cell? ⟨w.heap.size, 0, none⟩ = some (.slice A xs.length cap) := by rw [HB.out.cell]; rfl
  have HX := Lib.hid hx
  clear hx
  go_upto_region 5 with (go_at_call 36; rw [HX.out]; refine HL.out.mono ?_; rintro e w3 ⟨hg, ⟨h0, rfl⟩ | ⟨h0, h1, p, rfl, hsn⟩⟩ <;> have HG3 := Lib.hid hg <;> clear hg)
  · exact absurd rfl h0
  clear HL
  obtain ⟨b1, b2, b3, sv, hsn⟩ := hsn
  have HSN := Lib.hid hsn
  obtain ⟨c0, c1, c2, c3⟩ := hsn.cells
  clear hsn
  have hrg := run_range_map (P := Try.prog) w3 68 _ _ b3 _ _ Try.underlying68 HSN.out.m3
  go_upto_block 0 with (fail)
  clear hrg
  have HI0 := Lib.hid (show IT (w3.alloc (.mapIter (some b3) (re xs).length #[] (re xs).length)) w3.heap.size b3 (re xs).length [] from ⟨_, Nat.le_refl _, heap_alloc_new _ _⟩)
  have HF0 := Lib.hid (show Gr w3 (w3.alloc (.mapIter (some b3) (re xs).length #[] (re xs).length)) from (Fr.refl w3 NoneS).alloc _)
  have Hne := Lib.hid (show w3.heap.size ≠ b3 from fun e => by have := HSN.out.m3.lt; omega)
  obtain ⟨r, hr⟩ : ∃ r, w3.heap.size = r := ⟨_, rfl⟩
  rw [hr] at HI0 Hne ⊢
  have Hr := Lib.hid hr
  clear hr
  generalize World.alloc w3 _ = w4 at HI0 HF0 ⊢
  obtain ⟨i0, hi0, hz0, hz1, hz2⟩ := info_parts info_int
  go_cut [6] (fun s6 wx => ∃ (seen : List Nat), Hid ((∀ i, i < (re xs).length → i ∈ seen) ∧ seen.Nodup ∧ (∀ i ∈ seen, i < (re xs).length) ∧ wx.ownsRow w3.heap.size 3 1 s6 seen.length (seen.flatMap (encV xs)) ∧ SpareT IsI wx s6 ∧ Gr w3 wx))
  case first =>
    go_wp2_with fail
    go_loopg [6] ((re xs).length + 1) (fun m s6 wr => ∃ (seen : List Nat) (va : Value), va = s6 ∧ Hid (seen.Nodup ∧ (∀ i ∈ seen, i < (re xs).length) ∧ (re xs).length < m + seen.length) ∧ Hid (IT wr r b3 (re xs).length seen ∧ wr.ownsRow (w3.heap.size + 1) 3 1 va seen.length (seen.flatMap (encV xs)) ∧ Gr w3 wr) ∧ Hid (SpareT IsI wr va))
    case atStart => exact ⟨[], _, rfl, ⟨List.nodup_nil, by simp, by simp⟩, ⟨HI0.out, World.ownsRow_nil _ _ _ _, HF0.out⟩, SpareT.nil _ _⟩
    case round =>
      obtain ⟨seen, va, rfl, HK, HP, HSp⟩ := hrel
      have hm3 : MB wr b3 (re xs) := HSN.out.m3.fr HP.out.2.2 (fun h => h)
      rcases HP.out.1.next (P := Try.prog) hm3 0 Hne.out with ⟨hall, hnx⟩ | ⟨i, kk, vv, w5, hni, hget, hnx, hit, hfr, hen⟩
      · have Hall := Lib.hid hall
        clear hall
        go_wp2_with fail
        go_meet
        exact ⟨seen, Hall.out, HK.out.1, HK.out.2.1, own_base HP.out.2.1 (by omega), HSp.out, HP.out.2.2⟩
      · obtain rfl := vi_of hget
        have Hit := Lib.hid hit
        have hf5 := (Fr.mono (T := fun k => k = r) hfr (fun _ _ h => h))
        have HG5 := Lib.hid (show Gr w3 w5 from HP.out.2.2.trans hfr (fun k hk h => by have := Hr.out; omega))
        have HO5 := Lib.hid (hfr.owns HP.out.2.1 (fun k hk e => by have := (HP.out.2.1.lt k hk).1; have := Hr.out; omega))
        have HSp5 := Lib.hid (HSp.out.own HP.out.2.1 hfr (fun k hk e => by have := (HP.out.2.1.lt k hk).1; have := Hr.out; omega))
        have Hni := Lib.hid (And.intro hni (List.getElem?_eq_some_iff.1 hget).1)
        clear hit hf5 hfr hni hget hm3
        have Hlt5 := Lib.hid (show w3.heap.size < w5.heap.size from by
          obtain ⟨c9, _, h9⟩ := Hit.out
          have := (Array.getElem?_eq_some_iff.1 h9).1
          have := Hr.out
          omega)
        have Hsl := Lib.hid (show seen.length < 4097 from by
          have h1 := nodup_len _ _ HK.out.1 HK.out.2.1
          have := H4.out
          omega)
        go_wp2_with (
          at_builtin
          go_loud (refine wpList_append_st _ (encV xs) rfl _ _ 41 rfl (w3.heap.size + 1) 3 i0 (.int .i64 0) 1 8 Try.underlying41 hi0 hz0 hz1 hz2 rfl (by decide) va seen.length _ rfl (HO5.out.alloc _) (.slice (some ⟨w5.heap.size, 0, none⟩) 1 1) [i] rfl (sl_one (enc := encV xs) w5 i #[.int .i64 (vi xs i : Nat)] rfl 3) (fun _ => rfl) (encV_one xs) (by have := Hsl.out; simp only [maxLen, List.length_singleton]; omega) (by have := Hsl.out; simp only [List.length_singleton]; omega) (by have := HG5.out.size; have := Hr.out; have := Hlt5.out; simp; omega) ?_)
          intro v7 w7 hown7 hg7 hat7 hsp7
          rw [← List.flatMap_append] at hown7
          have HO7 := Lib.hid hown7
          have HF7 := Lib.hid (((Fr.refl w5 _).alloc _).trans hg7 (fun _ _ h => h))
          have HSp7 := Lib.hid (hsp7 IsI (by intro u hu; simp [Value.cells] at hu; exact ⟨0, hu⟩) (encV_isI xs _) (HSp5.out.own HO5.out ((Fr.refl w5 NoneS).alloc _) (fun _ _ h => h)))
          clear hown7 hg7 hat7 hsp7)
        go_roundg (gk - 1)
        case measure => have := nodup_len _ _ HK.out.1 HK.out.2.1; have := HK.out.2.2; have := H4.out; omega
        case rel =>
          have hnd : (seen ++ [i]).Nodup := List.nodup_append.2 ⟨HK.out.1, by simp, fun a ha b hb => by simp at hb; subst hb; intro e; subst e; exact Hni.out.1 ha⟩
          have hlt : ∀ x ∈ seen ++ [i], x < (re xs).length := by
            intro x hx
            rcases List.mem_append.1 hx with h | h
            · exact HK.out.2.1 x h
            · simp at h; subst h; exact Hni.out.2
          have hown : ∀ k, va.ownBlock = some k → k < w5.heap.size ∧ k ≠ r ∧ w3.heap.size + 1 ≤ k := fun k hk => ⟨(HO5.out.lt k hk).2, by have := (HO5.out.lt k hk).1; have := Hr.out; omega, (HO5.out.lt k hk).1⟩
          have hitr : IT w7 r b3 (re xs).length (seen ++ [i]) := by
            obtain ⟨c9, h8, h9⟩ := Hit.out
            exact ⟨c9, h8, (HF7.out.block r (Array.getElem?_eq_some_iff.1 h9).1 (fun h => (hown r h).2.1 rfl)).trans h9⟩
          refine ⟨seen ++ [i], _, rfl, ⟨hnd, hlt, by have := nodup_len _ _ hnd hlt; have := HK.out.2.2; simp; omega⟩, ⟨hitr, by rw [List.length_append]; exact HO7.out, HG5.out.trans HF7.out (fun k hk h => by have := (hown k h).2.2; omega)⟩, HSp7.out⟩
  case rest =>
  obtain ⟨seen, HC⟩ := hcut
  have HG3' := Lib.hid (HG.out.trans HG3.out (fun _ _ h => h))
  have HG9 := Lib.hid (HG3'.out.trans HC.out.2.2.2.2.2 (fun _ _ h => h))
  have c9 := (HC.out.2.2.2.2.2.cell (p := ⟨w.heap.size, 0, none⟩) (Nat.lt_of_lt_of_le HB.out.lt HG3.out.size) (fun h => h)).trans ((HG3.out.cell (p := ⟨w.heap.size, 0, none⟩) HB.out.lt (fun h => h)).trans f0)
  have Hgn := Lib.hid (show ∀ k, u6.ownBlock = some k → w3.heap.size ≤ k from fun k hk => (HC.out.2.2.2.1.lt k hk).1)
  have H33 := Lib.hid (Nat.lt_of_lt_of_le HB.out.lt HG3.out.size)
  have HSo := Lib.hid (sort_any (p := w.heap.size) hgood.out.inv hgood.out.len HC.out.1 HC.out.2.1 HC.out.2.2.1 HC.out.2.2.2.1 HC.out.2.2.2.2.1 (HS1.out.gr HG9.out) c9 (fun k hk e => by have := Hlo.out k hk; have := Hgn.out k e; have := H33.out; omega) (fun e => by have := Hgn.out _ e; have := H33.out; omega))
  clear c9
  go_wp2_with (go_at_call 39; refine HSo.out.mono ?_; rintro e w9 ⟨rfl, hx9⟩; have HX9 := Lib.hid hx9; clear hx9)
  go_ret
  exact ⟨_, rfl, own_base HX9.out.1 (by have := HG3'.out.size; omega), HX9.out.2.1, HG9.out.trans HX9.out.2.2 (fun k hk h => by have := Hgn.out _ h; have := HG3'.out.size; omega)⟩
end Voc
end Go.Proofs.Ytdogccgebgdlmaa
