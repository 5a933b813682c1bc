/- QueueBoth: the walk. -/
import Derived.Test.YtngmlelocgnbiaaQSorts
import Derived.Test.YtngmlelocgnbiaaQLaw2
set_option linter.unusedVariables false
set_option linter.unusedSimpArgs false
namespace Go.Proofs.Ytngmlelocgnbiaa
open Go.RowKit

theorem encI_one : ∀ x : Int, ∀ u ∈ encI x, u.oneCell' = true := by intro x u hu; simp [encI] at hu; subst hu; rfl
theorem gr_own {w0 w w' : World} {s n b : Nat} {e : TypeId} {v : Value} {xs : List Value} (hg : Gr w0 w) (ho : w.ownsRow b e s v n xs) (hb : w0.heap.size ≤ b) (hf : Fr w w' (fun k => v.ownBlock = some k)) : Gr w0 w' :=
  hg.trans hf (fun i hi hv => by have := (ho.lt i hv).1; omega)

set_option maxHeartbeats 6400000 in
set_option maxRecDepth 100000 in
theorem QueueBoth_walk (w : World) (b : Int) (wb : (Lit.int .i64 b).wf = true) (v : Value) (xs : List Int) (hs : SL encI w v xs) (hwf : ∀ x ∈ xs, (Lit.int .i64 x).wf = true) (hl : xs.length ≤ 1048576)
    (u : Value) (ys : List Int) (ht : SL encI w u ys) (hwf2 : ∀ x ∈ ys, (Lit.int .i64 x).wf = true) (hl2 : ys.length ≤ 1048576) :
    Calls Try.prog 6 #[.int .i64 b, v, u] w fun e w' => e = .returned (.bool true) ∧ Gr w w' := by
  obtain ⟨i0, hi0, hz0, hz1, hz2⟩ := info_parts info_int
  have HS := Lib.hid hs
  have HT := Lib.hid ht
  clear hs wb hwf ht hwf2
  have Hl := Lib.hid hl
  have Hl2 := Lib.hid hl2
  clear hl hl2
  have hmf := @makeFunc_run Try.prog
  have HG1 := Lib.hid ((Fr.refl w NoneS).alloc (.cells #[.int .i64 b] 3))
  have HC1 := Lib.hid (show (w.alloc (.cells #[.int .i64 b] 3)).cell? ⟨w.heap.size, 0, none⟩ = some (.int .i64 b) by simp)
  have Hlt := Lib.hid (show w.heap.size < (w.alloc (.cells #[.int .i64 b] 3)).heap.size by simp)
  have hqsz : w.heap.size + 1 = (w.alloc (.cells #[.int .i64 b] 3)).heap.size := by simp
  go_enter Try.func6, Try.ntmps6
  go_upto_region 3 with (fail)
  generalize w.alloc (.cells #[.int .i64 b] 3) = w1 at HG1 HC1 Hlt hqsz ⊢
  have Hq := Lib.hid hqsz
  clear hqsz
  -- the order, in every world that grew out of w1
  have Hless := Lib.hid (fun (wx : World) (hx : Gr w1 wx) => less_QueueBoth b w.heap.size wx.heap.size wx (Nat.lt_of_lt_of_le Hlt.out hx.size) ((hx.cell (p := ⟨w.heap.size, 0, none⟩) Hlt.out (fun h => h)).trans HC1.out))
  go_wp2_with (first
    | (at_builtin; refine wpList_append_sl _ encI rfl (.tmp 13) (.tmp 14) 22 rfl w1.heap.size 3 i0 (.int .i64 0) 1 8 Try.underlying22 hi0 hz0 hz1 hz2 rfl (by omega) (.slice none 0 0) 0 [] rfl (World.ownsRow_nil _ _ _ _) v xs rfl (by exact HS.out.gr HG1.out) (fun _ => rfl) encI_one (by have := Hl.out; unfold maxLen; omega) (by have := Hl.out; omega) (Nat.le_refl _) ?_
       intro v1 w2 ho hf hat
       have HO2 := Lib.hid ho
       have HG2 := Lib.hid (show Gr w1 w2 from hf.mono (fun i hi h => by simp [Value.ownBlock] at h))
       clear ho hf hat)
    | (at_builtin; refine wpList_append_sl _ encI rfl (.tmp 16) (.tmp 17) 22 rfl w1.heap.size 3 i0 (.int .i64 0) 1 8 Try.underlying22 hi0 hz0 hz1 hz2 rfl (by omega) v1 _ _ rfl HO2.out u ys rfl (by exact (HT.out.gr HG1.out).gr HG2.out) (fun _ => rfl) encI_one (by have := Hl.out; have := Hl2.out; unfold maxLen; omega) (by have := Hl.out; have := Hl2.out; omega) HG2.out.size ?_
       intro v2 w3 ho hf hat
       have HO3 := Lib.hid ho
       have HG3 := Lib.hid (show Gr w1 w3 from gr_own HG2.out HO2.out (Nat.le_refl _) hf)
       clear ho hf hat))
  have Hall := Lib.hid (show w3.ownsRow w1.heap.size 3 1 v2 (xs ++ ys).length ((xs ++ ys).flatMap encI) by
    have h := HO3.out
    rw [List.nil_append, ← List.flatMap_append, Nat.zero_add, ← List.length_append] at h
    exact h)
  clear HO2 HO3
  refine (Qi.sorted_any (ltR b) _ v xs w3 ((HS.out.gr HG1.out).gr HG3.out) (Hless.out w3 HG3.out) (by have := Hl.out; omega)).mono ?_
  rintro e w4 ⟨r1, rfl, ho, hg⟩
  have HR1 := Lib.hid ho
  have HG4 := Lib.hid hg
  clear ho hg
  go_wp2_with fail
  have HG14 := Lib.hid (HG3.out.trans HG4.out (fun _ _ h => h))
  refine (Qi.sorted_any (ltR b) _ u ys w4 ((HT.out.gr HG1.out).gr HG14.out) (Hless.out w4 HG14.out) (by have := Hl2.out; omega)).mono ?_
  rintro e w5 ⟨r2, rfl, ho, hg⟩
  have HR2 := Lib.hid ho
  have HG5 := Lib.hid hg
  clear ho hg
  have HG15 := Lib.hid (HG14.out.trans HG5.out (fun _ _ h => h))
  have HS1 := Lib.hid (SL.gr (SL.of_own (enc := encI) (by exact HR1.out) (QP.length_sorted _ _).symm) HG5.out)
  have HS2 := Lib.hid (SL.of_own (enc := encI) (w := w5) (v := r2) (xs := QP.sorted (ltR b) ys) (by exact HR2.out) (QP.length_sorted _ _).symm)
  go_wp2_with (first
    | (at_builtin; refine wpList_append_sl _ encI rfl (.tmp 25) (.tmp 26) 22 rfl w5.heap.size 3 i0 (.int .i64 0) 1 8 Try.underlying22 hi0 hz0 hz1 hz2 rfl (by omega) (.slice none 0 0) 0 [] rfl (World.ownsRow_nil _ _ _ _) r1 _ rfl (by exact HS1.out) (fun _ => rfl) encI_one (by rw [QP.length_sorted]; have := Hl.out; unfold maxLen; omega) (by rw [QP.length_sorted]; have := Hl.out; omega) (Nat.le_refl _) ?_
       intro v6 w6 ho hf hat
       have HO6 := Lib.hid ho
       have HG6 := Lib.hid (show Gr w5 w6 from hf.mono (fun i hi h => by simp [Value.ownBlock] at h))
       clear ho hf hat)
    | (at_builtin; refine wpList_append_sl _ encI rfl (.tmp 28) (.tmp 29) 22 rfl w5.heap.size 3 i0 (.int .i64 0) 1 8 Try.underlying22 hi0 hz0 hz1 hz2 rfl (by omega) v6 _ _ rfl HO6.out r2 _ rfl (by exact HS2.out.gr HG6.out) (fun _ => rfl) encI_one (by rw [QP.length_sorted, QP.length_sorted]; have := Hl.out; have := Hl2.out; unfold maxLen; omega) (by rw [QP.length_sorted, QP.length_sorted]; have := Hl.out; have := Hl2.out; omega) HG6.out.size ?_
       intro v7 w7 ho hf hat
       have HO7 := Lib.hid ho
       have HG7 := Lib.hid (show Gr w5 w7 from gr_own HG6.out HO6.out (Nat.le_refl _) hf)
       clear ho hf hat))
  have HG17 := Lib.hid (HG15.out.trans HG7.out (fun _ _ h => h))
  have Hparts := Lib.hid (show w7.ownsRow w5.heap.size 3 1 v7 (QP.sorted (ltR b) xs ++ QP.sorted (ltR b) ys).length ((QP.sorted (ltR b) xs ++ QP.sorted (ltR b) ys).flatMap encI) by
    have h := HO7.out
    rw [List.nil_append, ← List.flatMap_append, Nat.zero_add, ← List.length_append] at h
    exact h)
  have Hln := Lib.hid (show (QP.sorted (ltR b) xs ++ QP.sorted (ltR b) ys).length = xs.length + ys.length by rw [List.length_append, QP.length_sorted, QP.length_sorted])
  refine (Qi.sorted_any (ltR b) _ v7 _ w7 (SL.of_own Hparts.out rfl) (Hless.out w7 HG17.out) (by rw [Hln.out]; have := Hl.out; have := Hl2.out; omega)).mono ?_
  rintro e w8 ⟨r8, rfl, ho, hg⟩
  have HR8 := Lib.hid ho
  have HG8 := Lib.hid hg
  clear ho hg
  go_wp2_with fail
  have HG18 := Lib.hid (HG17.out.trans HG8.out (fun _ _ h => h))
  have HG38 := Lib.hid (show Gr w3 w8 from (((HG4.out.trans HG5.out (fun _ _ h => h)).trans HG7.out (fun _ _ h => h)).trans HG8.out (fun _ _ h => h)))
  refine (Qi.sorted_any (ltR b) _ v2 (xs ++ ys) w8 (SL.gr (SL.of_own Hall.out rfl) HG38.out) (Hless.out w8 HG18.out) (by rw [List.length_append]; have := Hl.out; have := Hl2.out; omega)).mono ?_
  rintro e w9 ⟨r9, rfl, ho, hg⟩
  have HR9 := Lib.hid ho
  have HG9 := Lib.hid hg
  clear ho hg
  go_wp2_with fail
  have Heq := Lib.hid (show decide (QP.sorted (ltR b) (QP.sorted (ltR b) xs ++ QP.sorted (ltR b) ys) = QP.sorted (ltR b) (xs ++ ys)) = true from decide_eq_true (by
    have hsw := swo_ltR b
    rw [QP.sorted_isort hsw, QP.sorted_isort hsw, QP.sorted_isort hsw, QP.sorted_isort hsw, QP.isort_both hsw]))
  refine (Ints_any r8 r9 _ _ w9 (SL.gr (SL.of_own (enc := encI) (by exact HR8.out) (QP.length_sorted _ _).symm) HG9.out) (SL.of_own (enc := encI) (by exact HR9.out) (QP.length_sorted _ _).symm) (by rw [QP.length_sorted, Hln.out]; have := Hl.out; have := Hl2.out; omega)).mono ?_
  rw [Heq.out]
  rintro e w10 ⟨rfl, hd⟩
  have HD := Lib.hid hd
  clear hd
  go_wp2_with fail
  refine (works_any w10).mono ?_
  rintro e w11 ⟨rfl, hg⟩
  have HG11 := Lib.hid hg
  clear hg
  go_wp2_with fail
  go_ret
  exact ⟨rfl, (((HG1.out.trans HG18.out (fun _ _ h => h)).trans HG9.out (fun _ _ h => h)).trans HD.out.gr (fun _ _ h => h)).trans HG11.out (fun _ _ h => h)⟩
end Go.Proofs.Ytngmlelocgnbiaa
