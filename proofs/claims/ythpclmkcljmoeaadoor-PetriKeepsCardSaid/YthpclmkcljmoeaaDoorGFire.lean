/- petri's firing, weights, and what a right small net is, as plain lists. -/
import Derived.Test.YthpclmkcljmoeaaDoorGSiphons
import Derived.Test.YthpclmkcljmoeaaDoorGRight
import Derived.Test.YthpclmkcljmoeaaDoorPx4
import Derived.Test.YthpclmkcljmoeaaDoorPx7
import Derived.Test.YthpclmkcljmoeaaDoorPx6
namespace Go.Proofs.YthpclmkcljmoeaaDoor.P
open Go.RowKit Go.Proofs.YthpclmkcljmoeaaDoorW.PrintWords Go.Proofs.YthpclmkcljmoeaaDoorW.PrintLast Go.Proofs.YthpclmkcljmoeaaDoorW.PrintMore
set_option linter.unusedVariables false
set_option linter.unusedSimpArgs false
abbrev TransT := S29
abbrev zT : TransT := z29
/-! ### The right small net -/
theorem few_l0 (P : Int) (l : List TransT) (a : Int) (b : Int) (hl : l.length ≤ 9223372036854775807) (d : Nat) : ∀ i : Nat, l.length - i = d → i ≤ l.length → (∀ j, j < i → (l.getD j zT).f0.length ≤ 20 ∧ (l.getD j zT).f1.length ≤ 20) →
    ∃ r, Ev (fun k => taquinref18_Few.l0 k a b (i : Int) P l) r ∧ (r = true → P ≤ a ∧ (l.length : Int) ≤ b ∧ ∀ j, j < l.length → (l.getD j zT).f0.length ≤ 20 ∧ (l.getD j zT).f1.length ≤ 20) := by
  have hend : ∀ i : Nat, (i = l.length ∨ b < (i : Int)) → i ≤ l.length → (∀ j, j < i → (l.getD j zT).f0.length ≤ 20 ∧ (l.getD j zT).f1.length ≤ 20) → ∃ r, Ev (fun k => taquinref18_Few.j1 k a b (i : Int) false P l) r ∧ (r = true → P ≤ a ∧ (l.length : Int) ≤ b ∧ ∀ j, j < l.length → (l.getD j zT).f0.length ≤ 20 ∧ (l.getD j zT).f1.length ≤ 20) := by
    intro i hi hil hall
    by_cases hP : P ≤ a
    · refine ⟨decide ((l.length : Int) ≤ b), .s ?_, fun h => ?_⟩
      · simp only [taquinref18_Few.j1]
        exact .n (by simp) (.p hP (.r _))
      · have h : (l.length : Int) ≤ b := of_decide_eq_true h
        exact ⟨hP, h, fun j hj => hall j (by omega)⟩
    · refine ⟨false, .s ?_, fun h => by cases h⟩
      simp only [taquinref18_Few.j1]
      exact .n (by simp) (.n hP (.r _))
  induction d with
  | zero =>
    intro i hd hi hall
    obtain ⟨r, hr, hh⟩ := hend i (.inl (by omega)) hi hall
    refine ⟨r, .s ?_, hh⟩
    simp only [taquinref18_Few.l0]
    exact .n (by omega) hr
  | succ d ih =>
    intro i hd hi hall
    have hil : i < l.length := by omega
    by_cases hb : (i : Int) ≤ b
    · have hrd : rd_T29 l (i : Int) = l.getD i zT := by simp [rd_T29]
      by_cases h0 : (l.getD i zT).f0.length ≤ 20
      · by_cases h1 : (l.getD i zT).f1.length ≤ 20
        · obtain ⟨r, hr, hh⟩ := ih (i + 1) (by omega) (by omega) (fun j hj => by
            by_cases e : j = i
            · rw [e]; exact ⟨h0, h1⟩
            · exact hall j (by omega))
          refine ⟨r, .s ?_, hh⟩
          simp only [taquinref18_Few.l0]
          refine .p (by omega) (.s ?_)
          simp only [taquinref18_Few.j1, hrd]
          refine .p (by simpa using hb) (.p (by omega) (.p (by omega) (.n (by omega) (.n (by omega) ?_))))
          rw [w64 (by omega) (by omega)]
          exact hr
        · refine ⟨false, .s ?_, fun h => by cases h⟩
          simp only [taquinref18_Few.l0]
          refine .p (by omega) (.s ?_)
          simp only [taquinref18_Few.j1, hrd]
          exact .p (by simpa using hb) (.p (by omega) (.p (by omega) (.n (by omega) (.p (by omega) (.r _)))))
      · refine ⟨false, .s ?_, fun h => by cases h⟩
        simp only [taquinref18_Few.l0]
        refine .p (by omega) (.s ?_)
        simp only [taquinref18_Few.j1, hrd]
        exact .p (by simpa using hb) (.p (by omega) (.p (by omega) (.p (by omega) (.r _))))
    · obtain ⟨r, hr, hh⟩ := hend i (.inr (by omega)) hi hall
      refine ⟨r, .s ?_, hh⟩
      simp only [taquinref18_Few.l0]
      refine .p (by omega) ?_
      rw [show decide ((i : Int) ≤ b) = false by simpa using hb]
      exact hr
/-- A net that is right and small. -/
structure Fits (P : Nat) (l : List TransT) (m : List Int) (a b : Int) : Prop where
  places : (P : Int) ≤ a
  trans : (l.length : Int) ≤ b
  p64 : P ≤ 64
  len : m.length = P
  mark : ∀ x ∈ m, 0 ≤ x ∧ x ≤ 1099511627776
  set0 : ∀ t ∈ l, isSetB P t.f0 = true ∧ t.f0.length ≤ 20
  set1 : ∀ t ∈ l, isSetB P t.f1 = true ∧ t.f1.length ≤ 20
theorem any_bad {m : List Int} : m.any badMark = false ↔ ∀ x ∈ m, 0 ≤ x ∧ x ≤ 1099511627776 := by
  rw [List.any_eq_false]
  constructor
  · intro h x hx
    have := h x hx
    simp only [badMark, Bool.or_eq_true, decide_eq_true_eq, not_or] at this
    omega
  · intro h x hx
    have := h x hx
    simp only [badMark, Bool.or_eq_true, decide_eq_true_eq, not_or]
    omega
theorem right_eq (P : Int) (l : List TransT) (h : ∀ t ∈ l, t.f0.length ≤ 20 ∧ t.f1.length ≤ 20) : ∃ r, petri_Right.f P l = some r ∧ (r = true → 0 ≤ P ∧ P ≤ 64 ∧ ∀ t ∈ l, isSetB P t.f0 = true ∧ isSetB P t.f1 = true) := by
  unfold petri_Right.f
  by_cases h1 : P < 0 ∨ P > 64 ∨ l.length > 5000
  · exact ⟨false, by rw [if_pos h1], fun h => by cases h⟩
  · rw [if_neg h1]
    have h2 : l.all (fun t => decide (t.f0.length ≤ 1000000) && decide (t.f1.length ≤ 1000000)) = true := List.all_eq_true.2 (fun t ht => by
      have := h t ht
      simp only [Bool.and_eq_true, decide_eq_true_eq]; omega)
    rw [if_pos h2]
    refine ⟨_, rfl, fun h3 => ⟨by omega, by omega, fun t ht => ?_⟩⟩
    rw [Bool.not_eq_true', List.any_eq_false] at h3
    have := h3 t ht
    simp only [badT, Bool.or_eq_true, Bool.not_eq_true', not_or, Bool.not_eq_false] at this
    exact this
theorem marking_eq (P : Int) (l : List TransT) (m : List Int) (h : m.length ≤ 1000000) : petri_RightMarking.f P l m = some (decide ((m.length : Int) = P) && !m.any badMark) := by
  unfold petri_RightMarking.f slices_ContainsFunc_int_int.f
  by_cases h1 : (m.length : Int) = P
  · rw [if_pos h1, if_pos h]; simp [h1]
  · rw [if_neg h1]; simp [h1]
theorem fits_ev (P : Int) (l : List TransT) (m : List Int) (a b : Int) (hl : l.length ≤ 9223372036854775807) : ∃ r, Ev (fun k => taquinlaw18_fits.f k P l m a b) r ∧ (r = true → ∃ n : Nat, P = (n : Int) ∧ Fits n l m a b) := by
  obtain ⟨r, hr, hh⟩ := few_l0 P l a b hl l.length 0 (by omega) (by omega) (fun j hj => by omega)
  have hfew : Ev (fun k => taquinref18_Few.f k P l a b) r := hr
  cases r with
  | false =>
    refine ⟨false, ?_, fun h => by cases h⟩
    simp only [taquinlaw18_fits.f]
    exact .b hfew (.n (by simp) (.r _))
  | true =>
    obtain ⟨f1, f2, f3⟩ := hh rfl
    have f4 : ∀ t ∈ l, t.f0.length ≤ 20 ∧ t.f1.length ≤ 20 := fun t ht => by
      obtain ⟨j, hj, rfl⟩ := List.mem_iff_getElem.1 ht
      have := f3 j hj
      simpa [List.getD_eq_getElem?_getD, hj] using this
    obtain ⟨r2, hr2, hh2⟩ := right_eq P l f4
    cases r2 with
    | false =>
      refine ⟨false, ?_, fun h => by cases h⟩
      simp only [taquinlaw18_fits.f]
      exact .b hfew (.p (by trivial) (.b (.c hr2) (.n (by simp) (.r _))))
    | true =>
      obtain ⟨g1, g2, g3⟩ := hh2 rfl
      by_cases hm : (m.length : Int) ≤ 64
      · refine ⟨decide ((m.length : Int) = P) && !m.any badMark, ?_, fun h => ?_⟩
        · simp only [taquinlaw18_fits.f]
          exact .b hfew (.p (by trivial) (.b (.c hr2) (.p (by trivial) (.p hm (.b (.c (marking_eq P l m (by omega))) (.r _))))))
        · rw [Bool.and_eq_true, decide_eq_true_eq, Bool.not_eq_true'] at h
          have hz : ((P.toNat : Nat) : Int) = P := Int.toNat_of_nonneg g1
          exact ⟨P.toNat, by omega, ⟨by omega, f2, by omega, by omega, any_bad.1 h.2, fun t ht => ⟨by rw [hz]; exact (g3 t ht).1, (f4 t ht).1⟩, fun t ht => ⟨by rw [hz]; exact (g3 t ht).2, (f4 t ht).2⟩⟩⟩
      · refine ⟨false, ?_, fun h => by cases h⟩
        simp only [taquinlaw18_fits.f]
        exact .b hfew (.p (by trivial) (.b (.c hr2) (.p (by trivial) (.n hm (.r _)))))
end Go.Proofs.YthpclmkcljmoeaaDoor.P
