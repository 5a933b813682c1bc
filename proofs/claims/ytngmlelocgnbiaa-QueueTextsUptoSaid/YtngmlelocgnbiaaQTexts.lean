/- QueueTexts: the walk. -/
import Derived.Test.YtngmlelocgnbiaaSWe
import Derived.Test.YtngmlelocgnbiaaQSorts
import Derived.Test.YtngmlelocgnbiaaQLaw2
import Derived.Test.YtngmlelocgnbiaaFrame
import Derived.WalkLawsBesides
set_option linter.unusedVariables false
set_option linter.unusedSimpArgs false
namespace Go.Proofs.Ytngmlelocgnbiaa
open Go.ChangeShapes Go.WideShapes Go.ChangeAt Go.RowKit

theorem less_asymm : ∀ a b : List UInt8, Op.bytesLess a b = true → Op.bytesLess b a = false
  | _, [], h => by simp [Op.bytesLess] at h
  | [], _ :: _, _ => rfl
  | a :: x, b :: y, h => by
    have ih := less_asymm x y
    simp only [Op.bytesLess, Bool.or_eq_true, decide_eq_true_eq, Bool.and_eq_true, beq_iff_eq] at h
    simp only [Op.bytesLess, Bool.or_eq_false_iff, decide_eq_false_iff_not, Bool.and_eq_false_imp, beq_iff_eq]
    rcases h with h | ⟨rfl, h⟩
    · refine ⟨fun h' => ?_, fun e => ?_⟩
      · rw [UInt8.lt_iff_toNat_lt] at h h'; omega
      · subst e; rw [UInt8.lt_iff_toNat_lt] at h; omega
    · exact ⟨fun h' => by rw [UInt8.lt_iff_toNat_lt] at h'; omega, fun _ => ih h⟩
theorem less_cotrans : ∀ a b c : List UInt8, Op.bytesLess a c = true → Op.bytesLess a b = true ∨ Op.bytesLess b c = true
  | _, _, [], h => by simp [Op.bytesLess] at h
  | _, [], _ :: _, _ => .inr rfl
  | [], _ :: _, _ :: _, _ => .inl rfl
  | a :: x, b :: y, c :: z, h => by
    simp only [Op.bytesLess, Bool.or_eq_true, decide_eq_true_eq, Bool.and_eq_true, beq_iff_eq] at h ⊢
    rcases h with h | ⟨rfl, h⟩
    · by_cases h1 : a < b
      · exact .inl (.inl h1)
      · by_cases h2 : b < c
        · exact .inr (.inl h2)
        · rw [UInt8.lt_iff_toNat_lt] at h h1 h2; omega
    · by_cases h1 : a < b
      · exact .inl (.inl h1)
      · by_cases h2 : b < a
        · exact .inr (.inl h2)
        · have e : a = b := UInt8.toNat_inj.1 (by rw [UInt8.lt_iff_toNat_lt] at h1 h2; omega)
          subst e
          rcases less_cotrans x y z h with h3 | h3
          · exact .inl (.inr ⟨rfl, h3⟩)
          · exact .inr (.inr ⟨rfl, h3⟩)
theorem less_total : ∀ a b : List UInt8, Op.bytesLess b a = false → (Op.bytesLess a b || a == b) = true
  | [], [], _ => rfl
  | [], _ :: _, _ => rfl
  | _ :: _, [], h => by simp [Op.bytesLess] at h
  | a :: x, b :: y, h => by
    simp only [Op.bytesLess, Bool.or_eq_false_iff, decide_eq_false_iff_not, Bool.and_eq_false_imp, beq_iff_eq] at h
    have ih := less_total x y
    by_cases h1 : a < b
    · simp [Op.bytesLess, h1]
    · have e : a = b := UInt8.toNat_inj.1 (by have h2 := h.1; rw [UInt8.lt_iff_toNat_lt] at h1 h2; omega)
      subst e
      have := ih (h.2 rfl)
      simp [Op.bytesLess, h1] at this ⊢
      exact this

/-- the order of texts -/
def ltS (a b : ByteArray) : Bool := Op.bytesLess a.toList b.toList
theorem swo_ltS : QP.SWO ltS := ⟨fun a b => less_asymm _ _, fun a b c => less_cotrans _ _ _⟩
theorem ltS_total (a b : ByteArray) (h : ltS b a = false) : (!(Op.bytesLess a.toList b.toList || a.toList == b.toList)) = false := by
  rw [less_total _ _ h]; rfl

def encS (s : ByteArray) : List Value := [.string s]

set_option maxHeartbeats 1600000 in
theorem less_Texts (Bl : Nat) (W0 : World) : LessOK Try.prog Qs.enc (.func (.func 17) #[] #[]) ltS Bl W0 := by
  refine ⟨17, #[], rfl, callFunc_enters Try.func17 (by kernel_rfl) (by kernel_rfl), ?_⟩
  intro x y w hw
  show Calls Try.prog 17 #[.string x, .string y] w _
  clear hw
  go_enter Try.func17, Try.ntmps17
  go_wp2
  go_ret
  exact ⟨rfl, 0, rfl⟩

theorem open_strs {H : Type} {enc : TypeId × Value → H} {W : World} {v : Value} {d : DataW H} {p : List MemPlace} (h : DataW.Trod enc Try.prog W 0 (fun _ => true) true 30 v d p) (hv : ∃ A len cap, v = .slice A len cap) :
    ∃ xs : List ByteArray, SL encS W v xs ∧ xs.length ≤ Rows.uptoBulk d := by
  obtain ⟨xs, a, _, c⟩ := open_sl (s := 1) encS (fun _ => True) Try.underlying30 (by kernel_rfl) (by omega) (fun _ => rfl) (fun n cs y hy _ => by
    obtain ⟨s, h1, _⟩ := DataW.trod_string Try.underlying9 hy
    exact ⟨s, h1, trivial⟩) h hv
  exact ⟨xs, a, c⟩

set_option maxHeartbeats 3200000 in
set_option maxRecDepth 100000 in
theorem QueueTexts_walk (w : World) (v : Value) (xs : List ByteArray) (hs : SL encS w v xs) (hl : xs.length ≤ 1048576) :
    Calls Try.prog 4 #[v] w fun e w' => e = .returned (.bool true) ∧ Gr w w' := by
  have HS := Lib.hid hs
  obtain ⟨A, cap, rfl, hcap⟩ := hs.len
  clear hs
  have Hl := Lib.hid hl
  have hli : (xs.length : Int) ≤ 1048576 := by omega
  clear hl
  go_enter Try.func4, Try.ntmps4
  go_wp2_with fail
  refine (Qs.sorted_any ltS _ _ xs w HS.out (less_Texts _ _) (by have := Hl.out; omega)).mono ?_
  rintro e w2 ⟨r, rfl, ho, hg⟩
  have HR := Lib.hid (SL.of_own (enc := encS) (w := w2) (v := r) (xs := QP.sorted ltS xs) (by exact ho) (QP.length_sorted _ _).symm)
  have HG := Lib.hid hg
  clear ho hg
  have Hn := Lib.hid (QP.length_sorted ltS xs)
  have Hsort := Lib.hid (show (QP.sorted ltS xs).Pairwise (fun a b => ltS b a = false) by rw [QP.sorted_isort swo_ltS]; exact QP.isort_sorted swo_ltS xs)
  generalize QP.sorted ltS xs = ys at HR Hn Hsort
  obtain ⟨B, rc, hr, hrc⟩ := HR.out.len
  subst hr
  have hlen : ((ys.length : Int) != (xs.length : Int)) = false := by rw [bne_eq_false_iff_eq, Hn.out]
  have hyl : (ys.length : Int) ≤ 1048576 := by have := Hn.out; omega
  go_wp2_with fail
  go_loopg [4] (ys.length + 1) (fun m s4 wr => ∃ j : Nat, s4 = .int .i64 ((j : Int) + 1) ∧ Hid (j ≤ ys.length ∧ ys.length - j < m) ∧ Hid (Dr w2 wr))
  case atStart => exact ⟨0, rfl, ⟨Nat.zero_le _, by omega⟩, Dr.refl _⟩
  case round =>
    obtain ⟨j, rfl, HJ, HD⟩ := hrel
    have hjl : (j : Int) ≤ 1048576 := by have := HJ.out; omega
    by_cases hj : j + 1 < ys.length
    · obtain ⟨b1, o1, rfl, _, hc1⟩ := (HR.out.gr HD.out.gr).at_ (s := 1) (fun _ => rfl) rfl (show j < ys.length by omega)
      obtain ⟨b2, o2, hB, _, hc2⟩ := (HR.out.gr HD.out.gr).at_ (s := 1) (fun _ => rfl) rfl hj
      obtain ⟨rfl, rfl⟩ : b1 = b2 ∧ o1 = o2 := by simpa using hB
      have c1 := hc1 0 (by omega)
      have c2 := hc2 0 (by omega)
      clear hc1 hc2 hB
      simp [encS] at c1 c2
      have hcmp := ltS_total ys[j] ys[j + 1] (List.pairwise_iff_getElem.1 Hsort.out j (j + 1) (by omega) hj (by omega))
      generalize ys[j] = s at c1 hcmp
      generalize ys[j + 1] = t at c2 hcmp
      have hji : (j : Int) + 1 < ys.length := by omega
      have e1 : ((j : Int) + 1).toNat = j + 1 := by omega
      have e2 : (0 : Int) ≤ (j : Int) + 1 := by omega
      have e3 : (j : Int) < ys.length := by omega
      go_wp2_with fail
      go_quiet (fail)
      go_wp2_with fail
      go_roundg (gk - 1)
      case measure => have := HJ.out; omega
      case rel => exact ⟨j + 1, by go_num, ⟨by omega, by have := HJ.out; omega⟩, HD.out.drewN _⟩
    · have hji : decide ((j : Int) + 1 < ys.length) = false := decide_eq_false (by omega)
      go_wp2_with fail
      refine (works_any wr).mono ?_
      rintro e w9 ⟨rfl, hg⟩
      have HG9 := Lib.hid hg
      clear hg
      go_wp2_with fail
      go_ret
      exact ⟨rfl, (HG.out.trans HD.out.gr (fun _ _ h => h)).trans HG9.out (fun _ _ h => h)⟩
end Go.Proofs.Ytngmlelocgnbiaa
