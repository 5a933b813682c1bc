/- bpe: no table; each byte's token; Begin. -/
import Derived.Test.YtlodbhlidgepfaaEWa
import Derived.Test.YtlodbhlidgepfaaFspoili
import Derived.Laws.MakeOwn
set_option linter.unusedVariables false
set_option linter.unusedSimpArgs false
namespace Go.Proofs.Ytlodbhlidgepfaa
open Go.RowKit
open Voc
namespace Bpe
abbrev TI : TypeId := 3
set_option maxRecDepth 100000 in
set_option maxHeartbeats 4000000 in
theorem open_no {w : World} {v : Value} {xs : List Pc} (HS : SL encP w v xs) (hw : ∀ q ∈ xs, wfP q) (hl : xs.length ≤ 1048576) (hc : (checkE xs).1 ≠ 0) :
    Calls Try.prog 42 #[.agg #[v]] w fun e w' => e = .returned (.tuple #[.pointer none, .bool false]) ∧ Gr w w' := by
  obtain ⟨A, cap, rfl⟩ := SL.form HS
  have HG := Lib.hid ((Fr.refl w NoneS).alloc (.cells #[.slice A xs.length cap] 27))
  have HB := Lib.hid (Blk.new w 27 #[.slice A xs.length cap])
  have HC := Lib.hid (check_any (HS.gr HG.out) hw hl)
  obtain ⟨E, hE⟩ : ∃ E, (checkE xs).1 = E := ⟨_, rfl⟩
  rw [hE] at HC hc
  have hne : (E != 0) = true := bne_iff_ne.2 hc
  clear HS hw hl hc hE
  go_enter Try.func42, Try.ntmps42
  go_upto_region 1 with (fail)
  generalize w.heap.size = q1 at HB ⊢
  generalize World.alloc w _ = wa at HG HB HC ⊢
  have f0 : wa.cell? ⟨q1, 0, none⟩ = some (.slice A xs.length cap) := by rw [HB.out.cell]; rfl
  go_wp2_with (go_at_call 27; refine HC.out.mono ?_; rintro e w3 ⟨rfl, hg⟩; have HG3 := Lib.hid hg; clear hg)
  go_ret2
  exact ⟨rfl, HG.out.trans HG3.out (fun _ _ h => h)⟩
/-- the cells of numbers -/
def ic (l : List Int) : Array Value := (l.map (Value.int .i64)).toArray
theorem ic_size (l : List Int) : (ic l).size = l.length := by simp [ic]
theorem ic_at (l : List Int) {i : Nat} (h : i < l.length) : (ic l)[i]? = some (.int .i64 (l.getD i 0)) := by
  unfold ic
  rw [List.getElem?_toArray, List.getElem?_map, List.getD_eq_getElem?_getD, List.getElem?_eq_getElem h]; rfl
theorem ic_set (l : List Int) (i : Nat) (x : Int) : (ic l).setIfInBounds i (.int .i64 x) = ic (l.set i x) := by
  unfold ic; rw [List.setIfInBounds_toArray, List.map_set]
/-- the row that one begins with -/
def row0 (xs : List Pc) (bs : List Int) : List Int := bs.map fun c => (tokF c xs : Int)
theorem row0_len (xs : List Pc) (bs : List Int) : (row0 xs bs).length = bs.length := by simp [row0]
def part (L : List Int) (k : Nat) : List Int := L.take k ++ List.replicate (L.length - k) 0
theorem part_len (L : List Int) {k : Nat} (h : k ≤ L.length) : (part L k).length = L.length := by simp [part]; omega
theorem part_set (L : List Int) {k : Nat} (h : k < L.length) : (part L k).set k (L[k]) = part L (k + 1) := by
  unfold part
  rw [List.set_append_right _ _ (by simp; omega), List.take_succ_eq_append_getElem h, List.append_assoc]
  congr 1
  rw [List.length_take, Nat.min_eq_left (by omega), Nat.sub_self]
  obtain ⟨m, hm⟩ : ∃ m, L.length - k = m + 1 := ⟨L.length - k - 1, by omega⟩
  rw [hm, show L.length - (k + 1) = m by omega]
  rfl
theorem part_all (L : List Int) : part L L.length = L := by simp [part]
theorem part_none (L : List Int) : part L 0 = List.replicate L.length 0 := by simp [part]
theorem made_i (i0 : TypeInfo) (hz1 : i0.size = 1) (s : Nat) : madeCells (Value.int .i64 0).cells (((s : Nat) : Int).toNat * i0.size) = ic (List.replicate s 0) := by
  rw [hz1]
  unfold ic
  simp [madeCells, Value.cells]
  apply Array.ext_getElem?
  intro j
  simp only [Array.getElem?_map, Array.getElem?_range, Array.getElem?_replicate]
  split
  · simp [Nat.mod_one]
  · rfl
set_option maxHeartbeats 1600000 in
theorem begin_any {w : World} {base p b : Nat} {l : List (Value × Value)} {sv v : Value} {xs : List Pc} {bs : List Int} (HT : TB w base p b (tabs xs) l sv) (HS : SL encB w v bs) (hX : Voc.Good xs) (hw : ∀ q ∈ xs, wfP q) (hb : ∀ c ∈ bs, 0 ≤ c ∧ c < 256) (hl : bs.length ≤ 1048576) :
    Calls Try.prog 43 #[.pointer (some ⟨p, 0, none⟩), v] w fun e w' => ∃ g, e = .returned (.slice (some ⟨g, 0, none⟩) bs.length bs.length) ∧ w.heap.size ≤ g ∧ Blk w' g TI (ic (row0 xs bs)) ∧ Gr w w' := by
  obtain ⟨i0, hi0, hz0, hz1, hz2⟩ := info_parts info_int
  obtain ⟨A, cap, rfl⟩ := SL.form HS
  have HT1 := Lib.hid HT
  have HS1 := Lib.hid HS
  have HX := Lib.hid (fun c (h0 : 0 ≤ c) (h1 : c < 256) => (tabs_good hX hw c h0 h1).1)
  have Hb := Lib.hid hb
  have hmk := fun w => run_make (P := Try.prog) w 60 TI i0 (.int .i64 0) Try.underlying60 hi0 hz0 .i64 .i64 (bs.length : Nat) (bs.length : Nat) (by omega) (by omega) (by rw [hz2]; omega) (by omega)
  rw [made_i i0 hz1] at hmk
  simp only [Int.toNat_natCast] at hmk
  have hlb : (bs.length : Int) ≤ 1048576 := by omega
  clear HT HS hX hw hb hi0 hz0 hz1 hz2 hl
  go_enter Try.func43, Try.ntmps43
  go_upto_region 2 with (fail)
  have HB1 := Lib.hid (Blk.new w TI (ic (List.replicate bs.length 0)))
  have HG1 := Lib.hid ((Fr.refl w NoneS).alloc (.cells (ic (List.replicate bs.length 0)) TI))
  clear hmk
  have Hge0 := Lib.hid (Nat.le_refl w.heap.size)
  generalize hg : w.heap.size = g at HB1 ⊢
  have Hge := Lib.hid (show w.heap.size ≤ g by omega)
  clear hg
  generalize World.alloc w _ = w1 at HB1 HG1 ⊢
  go_wp2_with fail
  go_loopg [13] (bs.length + 1) (fun m s13 wr => ∃ k : Nat, s13 = .int .i64 k ∧ Hid (k ≤ bs.length ∧ bs.length - k < m) ∧ Hid (Blk wr g TI (ic (part (row0 xs bs) k)) ∧ Gr w wr))
  case atStart => exact ⟨0, rfl, ⟨Nat.zero_le _, by omega⟩, by rw [part_none, row0_len]; exact HB1.out, HG1.out⟩
  case round =>
    obtain ⟨k, rfl, HK, HP⟩ := hrel
    by_cases hk : k < bs.length
    · obtain ⟨ba, oa, rfl, hba, hcell⟩ := (HS1.out.gr HP.out.2).at_ (s := 1) (fun _ => rfl) rfl hk
      have d0 := hcell 0 (by omega)
      simp [encB] at d0
      obtain ⟨u, hu⟩ : ∃ n : Nat, bs[k]'hk = n := ⟨(bs[k]'hk).toNat, by have := (Hb.out _ (List.getElem_mem hk)).1; omega⟩
      have hub : (u : Int) < 256 := by rw [← hu]; exact (Hb.out _ (List.getElem_mem hk)).2
      rw [hu] at d0
      have HTr := Lib.hid (HT1.out.gr HP.out.2)
      have t0 : wr.cell? ⟨p, u, none⟩ = some (.int .i64 (tokF (u : Int) xs : Nat)) := by
        rw [HTr.out.blk.cell, tcs_at _ _ _ (by rw [tabs_len]; omega)]
        have := HX.out (u : Int) (by omega) hub
        rw [Int.toNat_natCast] at this
        rw [this]
      have hlt : k < (row0 xs bs).length := by rw [row0_len]; exact hk
      have t1 : ∃ x, wr.cell? ⟨g, k, none⟩ = some x := ⟨_, by rw [HP.out.1.cell, ic_at _ (by rw [part_len _ (by omega)]; exact hlt)]⟩
      obtain ⟨x1, t1⟩ := t1
      have t2 := HP.out.1.frozen k
      have HN := Lib.hid (show Blk (wr.setCell ⟨g, k, none⟩ (.int .i64 (tokF (u : Int) xs : Nat))) g TI (ic (part (row0 xs bs) (k + 1))) from by
        have h := HP.out.1.set_ k (.int .i64 (tokF (u : Int) xs : Nat))
        rw [ic_set] at h
        rw [← part_set _ hlt]
        have : (row0 xs bs)[k]'hlt = ((tokF (u : Int) xs : Nat) : Int) := by simp [row0, hu]
        rw [this]
        exact h)
      have hki : (k : Int) < bs.length := by omega
      clear hcell hba hlt hu
      go_wp2_with fail
      go_roundg (gk - 1)
      case measure => have := HK.out; omega
      case rel => exact ⟨k + 1, by go_num, ⟨by omega, by have := HK.out; omega⟩, HN.out, HP.out.2.setCell (p := ⟨g, k, none⟩) (fun h => by have := Hge.out; simp only at h; omega) _⟩
    · obtain rfl : k = bs.length := by have := HK.out; omega
      go_wp2_with fail
      go_ret
      exact ⟨g, rfl, Hge.out, by have h := HP.out.1; rw [← row0_len xs bs, part_all] at h; exact h, HP.out.2⟩
/-- a row of numbers of one's own -/
structure OI (w : World) (B : Nat) (v : Value) (l : List Int) : Prop where
  own : w.ownsRow B TI 1 v l.length (l.flatMap encI)
  spare : SpareT IsI w v
theorem ic_list (l : List Int) : (ic l).toList = l.flatMap encI := by
  unfold ic
  induction l with
  | nil => rfl
  | cons x l ih => rw [List.flatMap_cons, ← ih]; rfl
theorem OI.blk {w : World} {B g : Nat} {l : List Int} (h : Blk w g TI (ic l)) (hg : B ≤ g) (hl : l.length ≤ maxLen) : OI w B (.slice (some ⟨g, 0, none⟩) l.length l.length) l := by
  refine ⟨⟨by rw [len_flatMap encI 1 (fun _ => rfl)], Or.inr ⟨g, l.length, ic l, rfl, hg, h, Nat.le_refl _, hl, by rw [ic_size, Nat.mul_one], ?_⟩⟩, fun g' cs t fr hg' hc u hu => ?_⟩
  · rw [ic_list, List.take_of_length_le (by rw [len_flatMap encI 1 (fun _ => rfl)]; exact Nat.le_refl _)]
  · have : g' = g := by simpa [Value.ownBlock] using hg'.symm
    subst this
    have h' : w.heap[g']? = some (.cells (ic l) TI (0, 0)) := h
    rw [h'] at hc
    injection hc with hc
    injection hc with hc
    subst hc
    rw [ic_list] at hu
    obtain ⟨x, _, hx⟩ := List.mem_flatMap.1 hu
    simp [encI] at hx
    exact ⟨x, hx⟩
theorem OI.nil (w : World) (B : Nat) : OI w B (.slice none 0 0) [] := ⟨World.ownsRow_nil _ _ _ _, SpareT.nil _ _⟩
theorem OI.sl {w : World} {B : Nat} {v : Value} {l : List Int} (h : OI w B v l) : SL encI w v l := SL.of_own (enc := encI) h.own rfl
theorem OI.fr {w w' : World} {B : Nat} {v : Value} {l : List Int} {S : Nat → Prop} (h : OI w B v l) (hf : Fr w w' S) (hn : ∀ k, v.ownBlock = some k → ¬ S k) : OI w' B v l := ⟨hf.owns h.own hn, h.spare.own h.own hf hn⟩
theorem OI.gr {w w' : World} {B : Nat} {v : Value} {l : List Int} (h : OI w B v l) (hf : Gr w w') : OI w' B v l := h.fr hf (fun _ _ h => h)
theorem OI.base {w : World} {B B' : Nat} {v : Value} {l : List Int} (h : OI w B v l) (hb : B' ≤ B) : OI w B' v l := ⟨own_base h.own hb, h.spare⟩
/-- what Begin answers -/
def beginE (xs : List Pc) (bs : List Int) : List Int × Int := if (checkE xs).1 ≠ 0 then ([], 11) else if 4096 < bs.length then ([], 3) else (row0 xs bs, 0)
end Bpe
end Go.Proofs.Ytlodbhlidgepfaa
