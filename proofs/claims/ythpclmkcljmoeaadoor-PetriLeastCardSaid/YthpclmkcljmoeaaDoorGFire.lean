/- petri's firing, weights, and what a right small net is, as plain lists. -/
import Derived.Test.YthpclmkcljmoeaaDoorGSiphons
import Derived.Test.YthpclmkcljmoeaaDoorGRight
import Derived.Test.YthpclmkcljmoeaaDoorPx4
import Derived.Test.YthpclmkcljmoeaaDoorPx7
import Derived.Test.YthpclmkcljmoeaaDoorPx6
namespace Go.Proofs.YthpclmkcljmoeaaDoor.P
open Go.RowKit Go.Proofs.YthpclmkcljmoeaaDoorW.PrintWords Go.Proofs.YthpclmkcljmoeaaDoorW.PrintLast Go.Proofs.YthpclmkcljmoeaaDoorW.PrintMore
set_option linter.unusedVariables false
set_option linter.unusedSimpArgs false
abbrev TransT := S29
abbrev zT : TransT := z29
/-! ### The right small net -/
theorem few_l0 (P : Int) (l : List TransT) (a : Int) (b : Int) (hl : l.length ≤ 9223372036854775807) (d : Nat) : ∀ i : Nat, l.length - i = d → i ≤ l.length → (∀ j, j < i → (l.getD j zT).f0.length ≤ 20 ∧ (l.getD j zT).f1.length ≤ 20) →
    ∃ r, Ev (fun k => taquinref18_Few.l0 k a b (i : Int) P l) r ∧ (r = true → P ≤ a ∧ (l.length : Int) ≤ b ∧ ∀ j, j < l.length → (l.getD j zT).f0.length ≤ 20 ∧ (l.getD j zT).f1.length ≤ 20) := by
  have hend : ∀ i : Nat, (i = l.length ∨ b < (i : Int)) → i ≤ l.length → (∀ j, j < i → (l.getD j zT).f0.length ≤ 20 ∧ (l.getD j zT).f1.length ≤ 20) → ∃ r, Ev (fun k => taquinref18_Few.j1 k a b (i : Int) false P l) r ∧ (r = true → P ≤ a ∧ (l.length : Int) ≤ b ∧ ∀ j, j < l.length → (l.getD j zT).f0.length ≤ 20 ∧ (l.getD j zT).f1.length ≤ 20) := by
    intro i hi hil hall
    by_cases hP : P ≤ a
    · refine ⟨decide ((l.length : Int) ≤ b), .s ?_, fun h => ?_⟩
      · simp only [taquinref18_Few.j1]
        exact .n (by simp) (.p hP (.r _))
      · have h : (l.length : Int) ≤ b := of_decide_eq_true h
        exact ⟨hP, h, fun j hj => hall j (by omega)⟩
    · refine ⟨false, .s ?_, fun h => by cases h⟩
      simp only [taquinref18_Few.j1]
      exact .n (by simp) (.n hP (.r _))
  induction d with
  | zero =>
    intro i hd hi hall
    obtain ⟨r, hr, hh⟩ := hend i (.inl (by omega)) hi hall
    refine ⟨r, .s ?_, hh⟩
    simp only [taquinref18_Few.l0]
    exact .n (by omega) hr
  | succ d ih =>
    intro i hd hi hall
    have hil : i < l.length := by omega
    by_cases hb : (i : Int) ≤ b
    · have hrd : rd_T29 l (i : Int) = l.getD i zT := by simp [rd_T29]
      by_cases h0 : (l.getD i zT).f0.length ≤ 20
      · by_cases h1 : (l.getD i zT).f1.length ≤ 20
        · obtain ⟨r, hr, hh⟩ := ih (i + 1) (by omega) (by omega) (fun j hj => by
            by_cases e : j = i
            · rw [e]; exact ⟨h0, h1⟩
            · exact hall j (by omega))
          refine ⟨r, .s ?_, hh⟩
          simp only [taquinref18_Few.l0]
          refine .p (by omega) (.s ?_)
          simp only [taquinref18_Few.j1, hrd]
          refine .p (by simpa using hb) (.p (by omega) (.p (by omega) (.n (by omega) (.n (by omega) ?_))))
          rw [w64 (by omega) (by omega)]
          exact hr
        · refine ⟨false, .s ?_, fun h => by cases h⟩
          simp only [taquinref18_Few.l0]
          refine .p (by omega) (.s ?_)
          simp only [taquinref18_Few.j1, hrd]
          exact .p (by simpa using hb) (.p (by omega) (.p (by omega) (.n (by omega) (.p (by omega) (.r _)))))
      · refine ⟨false, .s ?_, fun h => by cases h⟩
        simp only [taquinref18_Few.l0]
        refine .p (by omega) (.s ?_)
        simp only [taquinref18_Few.j1, hrd]
        exact .p (by simpa using hb) (.p (by omega) (.p (by omega) (.p (by omega) (.r _))))
    · obtain ⟨r, hr, hh⟩ := hend i (.inr (by omega)) hi hall
      refine ⟨r, .s ?_, hh⟩
      simp only [taquinref18_Few.l0]
      refine .p (by omega) ?_
      rw [show decide ((i : Int) ≤ b) = false by simpa using hb]
      exact hr
/-- A net that is right and small. -/
structure Fits (P : Nat) (l : List TransT) (m : List Int) (a b : Int) : Prop where
  places : (P : Int) ≤ a
  trans : (l.length : Int) ≤ b
  p64 : P ≤ 64
  len : m.length = P
  mark : ∀ x ∈ m, 0 ≤ x ∧ x ≤ 1099511627776
  set0 : ∀ t ∈ l, isSetB P t.f0 = true ∧ t.f0.length ≤ 20
  set1 : ∀ t ∈ l, isSetB P t.f1 = true ∧ t.f1.length ≤ 20
theorem any_bad {m : List Int} : m.any badMark = false ↔ ∀ x ∈ m, 0 ≤ x ∧ x ≤ 1099511627776 := by
  rw [List.any_eq_false]
  constructor
  · intro h x hx
    have := h x hx
    simp only [badMark, Bool.or_eq_true, decide_eq_true_eq, not_or] at this
    omega
  · intro h x hx
    have := h x hx
    simp only [badMark, Bool.or_eq_true, decide_eq_true_eq, not_or]
    omega
theorem right_eq (P : Int) (l : List TransT) (h : ∀ t ∈ l, t.f0.length ≤ 20 ∧ t.f1.length ≤ 20) : ∃ r, petri_Right.f P l = some r ∧ (r = true → 0 ≤ P ∧ P ≤ 64 ∧ ∀ t ∈ l, isSetB P t.f0 = true ∧ isSetB P t.f1 = true) := by
  unfold petri_Right.f
  by_cases h1 : P < 0 ∨ P > 64 ∨ l.length > 5000
  · exact ⟨false, by rw [if_pos h1], fun h => by cases h⟩
  · rw [if_neg h1]
    have h2 : l.all (fun t => decide (t.f0.length ≤ 1000000) && decide (t.f1.length ≤ 1000000)) = true := List.all_eq_true.2 (fun t ht => by
      have := h t ht
      simp only [Bool.and_eq_true, decide_eq_true_eq]; omega)
    rw [if_pos h2]
    refine ⟨_, rfl, fun h3 => ⟨by omega, by omega, fun t ht => ?_⟩⟩
    rw [Bool.not_eq_true', List.any_eq_false] at h3
    have := h3 t ht
    simp only [badT, Bool.or_eq_true, Bool.not_eq_true', not_or, Bool.not_eq_false] at this
    exact this
theorem marking_eq (P : Int) (l : List TransT) (m : List Int) (h : m.length ≤ 1000000) : petri_RightMarking.f P l m = some (decide ((m.length : Int) = P) && !m.any badMark) := by
  unfold petri_RightMarking.f slices_ContainsFunc_int_int.f
  by_cases h1 : (m.length : Int) = P
  · rw [if_pos h1, if_pos h]; simp [h1]
  · rw [if_neg h1]; simp [h1]
theorem fits_ev (P : Int) (l : List TransT) (m : List Int) (a b : Int) (hl : l.length ≤ 9223372036854775807) : ∃ r, Ev (fun k => taquinlaw18_fits.f k P l m a b) r ∧ (r = true → ∃ n : Nat, P = (n : Int) ∧ Fits n l m a b) := by
  obtain ⟨r, hr, hh⟩ := few_l0 P l a b hl l.length 0 (by omega) (by omega) (fun j hj => by omega)
  have hfew : Ev (fun k => taquinref18_Few.f k P l a b) r := hr
  cases r with
  | false =>
    refine ⟨false, ?_, fun h => by cases h⟩
    simp only [taquinlaw18_fits.f]
    exact .b hfew (.n (by simp) (.r _))
  | true =>
    obtain ⟨f1, f2, f3⟩ := hh rfl
    have f4 : ∀ t ∈ l, t.f0.length ≤ 20 ∧ t.f1.length ≤ 20 := fun t ht => by
      obtain ⟨j, hj, rfl⟩ := List.mem_iff_getElem.1 ht
      have := f3 j hj
      simpa [List.getD_eq_getElem?_getD, hj] using this
    obtain ⟨r2, hr2, hh2⟩ := right_eq P l f4
    cases r2 with
    | false =>
      refine ⟨false, ?_, fun h => by cases h⟩
      simp only [taquinlaw18_fits.f]
      exact .b hfew (.p (by trivial) (.b (.c hr2) (.n (by simp) (.r _))))
    | true =>
      obtain ⟨g1, g2, g3⟩ := hh2 rfl
      by_cases hm : (m.length : Int) ≤ 64
      · refine ⟨decide ((m.length : Int) = P) && !m.any badMark, ?_, fun h => ?_⟩
        · simp only [taquinlaw18_fits.f]
          exact .b hfew (.p (by trivial) (.b (.c hr2) (.p (by trivial) (.p hm (.b (.c (marking_eq P l m (by omega))) (.r _))))))
        · rw [Bool.and_eq_true, decide_eq_true_eq, Bool.not_eq_true'] at h
          have hz : ((P.toNat : Nat) : Int) = P := Int.toNat_of_nonneg g1
          exact ⟨P.toNat, by omega, ⟨by omega, f2, by omega, by omega, any_bad.1 h.2, fun t ht => ⟨by rw [hz]; exact (g3 t ht).1, (f4 t ht).1⟩, fun t ht => ⟨by rw [hz]; exact (g3 t ht).2, (f4 t ht).2⟩⟩⟩
      · refine ⟨false, ?_, fun h => by cases h⟩
        simp only [taquinlaw18_fits.f]
        exact .b hfew (.p (by trivial) (.b (.c hr2) (.p (by trivial) (.n hm (.r _)))))
/-! ### Firing -/
def upd (d : Int) (m s : List Int) : List Int := s.foldl (fun m p => m.set p.toNat (m.getD p.toNat 0 + d)) m
theorem upd_len (d : Int) : ∀ (s m : List Int), (upd d m s).length = m.length
  | [], m => rfl
  | p :: s, m => by
    show (upd d (m.set p.toNat (m.getD p.toNat 0 + d)) s).length = _
    rw [upd_len d s, List.length_set]
def fireM (l : List TransT) (m : List Int) (t : Int) : List Int × Int :=
  if t < 0 ∨ (l.length : Int) ≤ t then ([], 4)
  else if dead m (l.getD t.toNat zT).f0 = true then ([], 7)
  else if (upd 1 (upd (-1) m (l.getD t.toNat zT).f0) (l.getD t.toNat zT).f1).any badMark = true then ([], 6)
  else (upd 1 (upd (-1) m (l.getD t.toNat zT).f0) (l.getD t.toNat zT).f1, 0)
theorem set_bnd {m : List Int} {lo hi v : Int} {p : Nat} (h : ∀ x ∈ m, lo ≤ x ∧ x ≤ hi) (h0 : lo ≤ v) (h1 : v ≤ hi) : ∀ x ∈ m.set p v, lo ≤ x ∧ x ≤ hi := fun x hx => by
  rcases List.mem_or_eq_of_mem_set hx with hx | rfl
  · exact h x hx
  · exact ⟨h0, h1⟩
theorem fire_l1 (n : Nat) (hn : n ≤ 64) (l : List TransT) (s : List Int) (hs : ∀ p ∈ s, 0 ≤ p ∧ p < (n : Int)) (hsl : s.length ≤ 20) (d : Nat) : ∀ (i : Nat) (m : List Int), s.length - i = d → i ≤ s.length → m.length = n → (∀ x ∈ m, -20 ≤ x ∧ x ≤ 1099511627776 + (i : Int)) →
    Ev (fun k => petri_Fire.l1 k m s (s.length : Int) (i : Int) (n : Int) l) (if (upd 1 m (s.drop i)).any badMark = true then ([], 6) else (upd 1 m (s.drop i), 0)) := by
  induction d with
  | zero =>
    intro i m hd hi hm hb
    rw [List.drop_eq_nil_of_le (by omega)]
    refine .s ?_
    simp only [petri_Fire.l1]
    refine .n (by omega) (.b (.c (marking_eq n l m (by omega))) ?_)
    show Ev _ (if m.any badMark = true then ([], 6) else (m, 0))
    rw [show decide ((m.length : Int) = n) = true by simp [hm], Bool.true_and]
    cases h : m.any badMark with
    | true => exact .n (by simp) ((Ev.r _).congr (by simp))
    | false => exact .p (by simp) ((Ev.r _).congr (by simp))
  | succ d ih =>
    intro i m hd hi hm hb
    have hil : i < s.length := by omega
    have hp := hs _ (getD_mem s i 0 hil)
    rw [drop_at s i 0 hil]
    have hv := hb _ (getD_mem m (s.getD i 0).toNat 0 (by omega))
    refine .s ?_
    simp only [petri_Fire.l1, rdI]
    refine .p (by omega) (.p (by omega) (.p (by omega) (.p (by omega) (.p (by omega) ?_))))
    rw [w64 (show -9223372036854775808 ≤ (i : Int) + 1 by omega) (by omega)]
    have e : wrap64 (rd m (s.getD i 0) + 1) = m.getD (s.getD i 0).toNat 0 + 1 := by
      unfold rd
      exact w64 (by omega) (by omega)
    rw [e]
    exact ih (i + 1) _ (by omega) (by omega) (by rw [List.length_set]; exact hm) (set_bnd (fun x hx => by have := hb x hx; omega) (by omega) (by omega))
theorem fire_l0 (n : Nat) (hn : n ≤ 64) (l : List TransT) (t : Nat) (ht : t < l.length) (s : List Int) (hs : ∀ p ∈ s, 0 ≤ p ∧ p < (n : Int)) (hsl : s.length ≤ 20) (hs2 : ∀ p ∈ (l.getD t zT).f1, 0 ≤ p ∧ p < (n : Int)) (hsl2 : (l.getD t zT).f1.length ≤ 20) (d : Nat) : ∀ (i : Nat) (m : List Int), s.length - i = d → i ≤ s.length → m.length = n → (∀ x ∈ m, -(i : Int) ≤ x ∧ x ≤ 1099511627776) →
    Ev (fun k => petri_Fire.l0 k (t : Int) m s (s.length : Int) (i : Int) (n : Int) l) (if (upd 1 (upd (-1) m (s.drop i)) (l.getD t zT).f1).any badMark = true then ([], 6) else (upd 1 (upd (-1) m (s.drop i)) (l.getD t zT).f1, 0)) := by
  have hrd : rd_T29 l (t : Int) = l.getD t zT := by simp [rd_T29]
  induction d with
  | zero =>
    intro i m hd hi hm hb
    rw [List.drop_eq_nil_of_le (by omega)]
    refine .s ?_
    simp only [petri_Fire.l0, hrd]
    refine .n (by omega) (.p (by omega) (.p (by omega) ?_))
    exact fire_l1 n hn l _ hs2 hsl2 (l.getD t zT).f1.length 0 m (by omega) (by omega) hm (fun x hx => by have := hb x hx; omega)
  | succ d ih =>
    intro i m hd hi hm hb
    have hil : i < s.length := by omega
    have hp := hs _ (getD_mem s i 0 hil)
    rw [drop_at s i 0 hil]
    have hv := hb _ (getD_mem m (s.getD i 0).toNat 0 (by omega))
    refine .s ?_
    simp only [petri_Fire.l0, rdI]
    refine .p (by omega) (.p (by omega) (.p (by omega) (.p (by omega) (.p (by omega) ?_))))
    rw [w64 (show -9223372036854775808 ≤ (i : Int) + 1 by omega) (by omega)]
    have e : wrap64 (rd m (s.getD i 0) - 1) = m.getD (s.getD i 0).toNat 0 + -1 := by
      unfold rd
      exact w64 (by omega) (by omega)
    rw [e]
    exact ih (i + 1) _ (by omega) (by omega) (by rw [List.length_set]; exact hm) (set_bnd (fun x hx => by have := hb x hx; omega) (by omega) (by omega))
theorem Fits.at0 {n : Nat} {l : List TransT} {m : List Int} {a b : Int} (h : Fits n l m a b) {t : Nat} (ht : t < l.length) : (∀ p ∈ (l.getD t zT).f0, 0 ≤ p ∧ p < (n : Int)) ∧ (l.getD t zT).f0.length ≤ 20 ∧ (∀ p ∈ (l.getD t zT).f1, 0 ≤ p ∧ p < (n : Int)) ∧ (l.getD t zT).f1.length ≤ 20 := by
  have hm := getD_mem l t zT ht
  exact ⟨fun p hp => isSet_mem (h.set0 _ hm).1 hp, (h.set0 _ hm).2, fun p hp => isSet_mem (h.set1 _ hm).1 hp, (h.set1 _ hm).2⟩
theorem Fits.with {n : Nat} {l : List TransT} {m m' : List Int} {a b : Int} (h : Fits n l m a b) (hl : m'.length = n) (hm : ∀ x ∈ m', 0 ≤ x ∧ x ≤ 1099511627776) : Fits n l m' a b :=
  ⟨h.places, h.trans, h.p64, hl, hm, h.set0, h.set1⟩
theorem enabled_eq {n : Nat} {l : List TransT} {m : List Int} {a b : Int} (h : Fits n l m a b) {t : Nat} (ht : t < l.length) : petri_Enabled.f (n : Int) l m (t : Int) = some (!dead m (l.getD t zT).f0) := by
  have hrd : rd_T29 l (t : Int) = l.getD t zT := by simp [rd_T29]
  unfold petri_Enabled.f
  rw [hrd, if_pos ⟨by omega, by omega⟩, if_pos ⟨by have := (h.at0 ht).2.1; omega, List.all_eq_true.2 (fun p hp => by have := (h.at0 ht).1 p hp; have := h.len; simp; omega)⟩]
theorem fire_ev {n : Nat} {l : List TransT} {m : List Int} {a b : Int} (h : Fits n l m a b) (t : Int) : Ev (fun k => petri_Fire.f k (n : Int) l m t) (fireM l m t) := by
  unfold fireM
  simp only [petri_Fire.f]
  by_cases h0 : t < 0
  · rw [if_pos (.inl h0)]
    refine .p h0 (.s ?_)
    simp only [petri_Fire.j0]
    exact .p (by trivial) (.r _)
  · refine .n h0 ?_
    by_cases h1 : (l.length : Int) ≤ t
    · rw [if_pos (.inr h1), show decide (t ≥ (l.length : Int)) = true by simpa using h1]
      refine .s ?_
      simp only [petri_Fire.j0]
      exact .p (by trivial) (.r _)
    · rw [if_neg (by omega), show decide (t ≥ (l.length : Int)) = false by simp; omega]
      obtain ⟨q, rfl⟩ : ∃ q : Nat, t = (q : Int) := ⟨t.toNat, by omega⟩
      have hq : q < l.length := by omega
      obtain ⟨a0, a1, a2, a3⟩ := h.at0 hq
      refine .s ?_
      simp only [petri_Fire.j0, Int.toNat_natCast]
      refine .n (by simp) (.b (.c (enabled_eq h hq)) ?_)
      cases hd : dead m (l.getD q zT).f0 with
      | true =>
        rw [if_pos rfl]
        exact .n (by simp) (.r _)
      | false =>
        rw [if_neg (by simp)]
        have hrd : rd_T29 l (q : Int) = l.getD q zT := by simp [rd_T29]
        have hcl : slices_Clone_int_int.f m = some m := by unfold slices_Clone_int_int.f; rw [if_pos (by have := h.len; have := h.p64; omega)]
        refine .p (by simp) (.b (.c hcl) (.p (by omega) (.p (by omega) ?_)))
        rw [hrd]
        exact fire_l0 n h.p64 l q hq (l.getD q zT).f0 a0 a1 a2 a3 (l.getD q zT).f0.length 0 m (by omega) (by omega) h.len (fun x hx => by have := h.mark x hx; omega)
/-- A transition that is fired leaves a right marking. -/
theorem fire_ok {n : Nat} {l : List TransT} {m : List Int} {a b : Int} (h : Fits n l m a b) (t : Int) (ht : (fireM l m t).2 = 0) : Fits n l (fireM l m t).1 a b ∧ ∃ q : Nat, t = (q : Int) ∧ q < l.length ∧ dead m (l.getD q zT).f0 = false ∧ (fireM l m t).1 = upd 1 (upd (-1) m (l.getD q zT).f0) (l.getD q zT).f1 := by
  unfold fireM at ht ⊢
  by_cases h0 : t < 0 ∨ (l.length : Int) ≤ t
  · rw [if_pos h0] at ht; cases ht
  · rw [if_neg h0] at ht ⊢
    obtain ⟨q, rfl⟩ : ∃ q : Nat, t = (q : Int) := ⟨t.toNat, by omega⟩
    simp only [Int.toNat_natCast] at ht ⊢
    cases hd : dead m (l.getD q zT).f0 with
    | true => rw [hd, if_pos rfl] at ht; cases ht
    | false =>
      rw [hd, if_neg (by simp)] at ht
      rw [if_neg (by simp)]
      cases hb : (upd 1 (upd (-1) m (l.getD q zT).f0) (l.getD q zT).f1).any badMark with
      | true => rw [hb, if_pos rfl] at ht; cases ht
      | false =>
        rw [if_neg (by simp)]
        exact ⟨h.with (by simp only [upd_len]; exact h.len) (any_bad.1 hb), q, rfl, by omega, hd, rfl⟩
theorem upd_get (d : Int) (p : Nat) : ∀ (s m : List Int), p < m.length → (∀ q ∈ s, 0 ≤ q) → (upd d m s).getD p 0 = m.getD p 0 + d * ((s.count (p : Int) : Nat) : Int)
  | [], m, _, _ => by simp [upd]
  | q :: s, m, hp, h => by
    show (upd d (m.set q.toNat (m.getD q.toNat 0 + d)) s).getD p 0 = _
    rw [upd_get d p s _ (by rw [List.length_set]; exact hp) (fun x hx => h x (by simp [hx]))]
    have hq := h q (by simp)
    by_cases e : q = (p : Int)
    · subst e
      rw [List.count_cons_self]
      have : (m.set (p : Int).toNat (m.getD (p : Int).toNat 0 + d)).getD p 0 = m.getD p 0 + d := by
        simp [List.getD_eq_getElem?_getD, hp]
      rw [this, Int.natCast_add, Int.mul_add]
      omega
    · rw [List.count_cons_of_ne e]
      have : (m.set q.toNat (m.getD q.toNat 0 + d)).getD p 0 = m.getD p 0 := by
        rw [List.getD_eq_getElem?_getD, List.getElem?_set_ne (by omega), ← List.getD_eq_getElem?_getD]
      rw [this]
theorem isSet_lt {P : Int} {s : List Int} (h : isSetB P s = true) (d : Nat) : ∀ i, i + d + 1 < s.length → s.getD i 0 < s.getD (i + d + 1) 0 := by
  induction d with
  | zero =>
    intro i hi
    have := List.all_eq_true.1 h (i + 1) (List.mem_range.2 (by omega))
    simp only [setAt, Bool.and_eq_true, Bool.or_eq_true, decide_eq_true_eq, beq_iff_eq] at this
    have h2 := this.2
    rw [show i + 1 - 1 = i by omega] at h2
    simp only [Nat.add_zero]
    omega
  | succ d ih =>
    intro i hi
    have h1 := ih i (by omega)
    have := List.all_eq_true.1 h (i + d + 1 + 1) (List.mem_range.2 (by omega))
    simp only [setAt, Bool.and_eq_true, Bool.or_eq_true, decide_eq_true_eq, beq_iff_eq] at this
    have h2 := this.2
    rw [show i + d + 1 + 1 - 1 = i + d + 1 by omega] at h2
    show _ < s.getD (i + d + 1 + 1) 0
    omega
theorem isSet_sorted {P : Int} {s : List Int} (h : isSetB P s = true) : s.Pairwise (· < ·) := by
  rw [List.pairwise_iff_getElem]
  intro i j hi hj hij
  have := isSet_lt h (j - i - 1) i (by omega)
  rw [show i + (j - i - 1) + 1 = j by omega] at this
  simpa [List.getD_eq_getElem?_getD, hi, hj] using this
theorem isSet_count {P : Int} {s : List Int} (h : isSetB P s = true) (x : Int) : s.count x ≤ 1 := by
  have hn : s.Nodup := (isSet_sorted h).imp (fun {a b} hab => by omega)
  exact List.nodup_iff_count.1 hn x
/-- What is at a place behind the firing. -/
theorem fire_at {n : Nat} {l : List TransT} {m : List Int} {a b : Int} (h : Fits n l m a b) {q : Nat} (hq : q < l.length) {p : Nat} (hp : p < n) : (upd 1 (upd (-1) m (l.getD q zT).f0) (l.getD q zT).f1).getD p 0 = m.getD p 0 - (((l.getD q zT).f0.count (p : Int) : Nat) : Int) + (((l.getD q zT).f1.count (p : Int) : Nat) : Int) := by
  obtain ⟨a0, a1, a2, a3⟩ := h.at0 hq
  have hm := h.len
  rw [upd_get 1 p _ _ (by rw [upd_len]; omega) (fun q hq => (a2 q hq).1), upd_get (-1) p _ _ (by omega) (fun q hq => (a0 q hq).1)]
  omega
/-! ### Weights -/
def dot : List Int → List Int → Int
  | x :: xs, y :: ys => x * y + dot xs ys
  | _, _ => 0
theorem dot_set (d : Int) : ∀ (m w : List Int) (p : Nat), p < m.length → p < w.length → dot (m.set p (m.getD p 0 + d)) w = dot m w + d * w.getD p 0
  | x :: m, y :: w, 0, _, _ => by simp [dot, Int.add_mul]; omega
  | x :: m, y :: w, p + 1, h1, h2 => by
    have := dot_set d m w p (by simpa using h1) (by simpa using h2)
    simp only [List.set_cons_succ, List.getD_cons_succ, dot]
    rw [this]; omega
def sumO (w s : List Int) : Int := s.foldl (fun k p => k + rd w p) 0
theorem sumO_from (w : List Int) : ∀ (s : List Int) (k : Int), s.foldl (fun k p => k + rd w p) k = k + sumO w s
  | [], k => by simp [sumO]
  | p :: s, k => by
    unfold sumO
    rw [List.foldl_cons, List.foldl_cons, sumO_from w s, sumO_from w s]
    omega
theorem dot_upd (d : Int) (w : List Int) : ∀ (s m : List Int), (∀ p ∈ s, 0 ≤ p ∧ p < (m.length : Int)) → m.length = w.length → dot (upd d m s) w = dot m w + d * sumO w s
  | [], m, _, _ => by simp [upd, sumO]
  | p :: s, m, h, hl => by
    have hp := h p (by simp)
    show dot (upd d (m.set p.toNat (m.getD p.toNat 0 + d)) s) w = _
    rw [dot_upd d w s _ (fun q hq => by rw [List.length_set]; exact h q (by simp [hq])) (by rw [List.length_set]; exact hl), dot_set d m w p.toNat (by omega) (by omega)]
    have : sumO w (p :: s) = rd w p + sumO w s := by
      show List.foldl _ (0 + rd w p) s = _
      rw [sumO_from]; omega
    rw [this, Int.mul_add]
    unfold rd
    omega
theorem sumW_eq (w s : List Int) (hw : ∀ x ∈ w, -100000 ≤ x ∧ x ≤ 100000) (hs : s.length ≤ 1000) : sumW w s = sumO w s := by
  have hr : ∀ p, -100000 ≤ rd w p ∧ rd w p ≤ 100000 := fun p => by
    unfold rd
    by_cases h : p.toNat < w.length
    · exact hw _ (getD_mem w p.toNat 0 h)
    · rw [List.getD_eq_getElem?_getD, List.getElem?_eq_none (by omega)]; simp
  have key : ∀ (s : List Int) (k : Int), -(100000 * (1000 - (s.length : Int))) ≤ k ∧ k ≤ 100000 * (1000 - (s.length : Int)) → s.length ≤ 1000 → s.foldl (fun k p => wrap64 (k + rd w p)) k = s.foldl (fun k p => k + rd w p) k := by
    intro s
    induction s with
    | nil => intro k _ _; rfl
    | cons p s ih =>
      intro k hk hl
      simp only [List.length_cons, List.foldl_cons] at *
      have := hr p
      rw [w64 (by omega) (by omega)]
      exact ih _ (by omega) (by omega)
  exact key s 0 (by omega) hs
theorem mul_bnd {x y : Int} (hx : 0 ≤ x ∧ x ≤ 1099511627776) (hy : -100000 ≤ y ∧ y ≤ 100000) : -109951162777600000 ≤ x * y ∧ x * y ≤ 109951162777600000 := by
  have h1 := Int.mul_le_mul_of_nonneg_left hy.2 hx.1
  have h2 := Int.mul_le_mul_of_nonneg_left hy.1 hx.1
  omega
theorem weight_l0 (m w : List Int) (hm : ∀ x ∈ m, 0 ≤ x ∧ x ≤ 1099511627776) (hw : ∀ x ∈ w, -100000 ≤ x ∧ x ≤ 100000) (hl : m.length = w.length) (h64 : m.length ≤ 64) (d : Nat) : ∀ (i : Nat) (k : Int), m.length - i = d → i ≤ m.length → -(109951162777600000 * (i : Int)) ≤ k → k ≤ 109951162777600000 * (i : Int) →
    Ev (fun f => petri_Weight.l0 f w k m (m.length : Int) (i : Int)) (k + dot (m.drop i) (w.drop i)) := by
  induction d with
  | zero =>
    intro i k hd hi h1 h2
    rw [List.drop_eq_nil_of_le (by omega)]
    refine .s ?_
    simp only [petri_Weight.l0]
    exact .n (by omega) ((Ev.r _).congr (by simp [dot]))
  | succ d ih =>
    intro i k hd hi h1 h2
    have hil : i < m.length := by omega
    have hb := mul_bnd (hm _ (getD_mem m i 0 hil)) (hw _ (getD_mem w i 0 (by omega)))
    rw [drop_at m i 0 hil, drop_at w i 0 (by omega)]
    simp only [dot]
    refine .s ?_
    simp only [petri_Weight.l0, rdI]
    refine .p (by omega) (.p (by omega) (.p (by omega) (.p (by omega) ?_)))
    rw [w64 (show -9223372036854775808 ≤ (i : Int) + 1 by omega) (by omega), w64 (show -9223372036854775808 ≤ m.getD i 0 * w.getD i 0 by omega) (by omega), w64 (by omega) (by omega)]
    exact (ih (i + 1) _ (by omega) (by omega) (by omega) (by omega)).congr (by omega)
theorem weight_ev (m w : List Int) (hm : ∀ x ∈ m, 0 ≤ x ∧ x ≤ 1099511627776) (hw : ∀ x ∈ w, -100000 ≤ x ∧ x ≤ 100000) (hl : m.length = w.length) (h64 : m.length ≤ 64) : Ev (fun f => petri_Weight.f f m w) (dot m w) := by
  have := weight_l0 m w hm hw hl h64 m.length 0 0 (by omega) (by omega) (by omega) (by omega)
  simpa [petri_Weight.f] using this
theorem weights_l0 (P : Int) (l : List TransT) (w : List Int) (hl : w.length ≤ 9223372036854775807) (d : Nat) : ∀ i : Nat, w.length - i = d → i ≤ w.length → (∀ j, j < i → -100000 ≤ w.getD j 0 ∧ w.getD j 0 ≤ 100000) →
    ∃ r, Ev (fun k => taquinlaw18_weights.l0 k w (i : Int) P l) r ∧ (r = true → (w.length : Int) = P ∧ ∀ j, j < w.length → -100000 ≤ w.getD j 0 ∧ w.getD j 0 ≤ 100000) := by
  induction d with
  | zero =>
    intro i hd hi hall
    refine ⟨((w.length : Int) == P), .s ?_, fun h => ⟨by simpa using h, fun j hj => hall j (by omega)⟩⟩
    simp only [taquinlaw18_weights.l0]
    exact .n (by omega) (.r _)
  | succ d ih =>
    intro i hd hi hall
    have hil : i < w.length := by omega
    by_cases h1 : w.getD i 0 > 100000
    · refine ⟨false, .s ?_, fun h => by cases h⟩
      simp only [taquinlaw18_weights.l0, rdI]
      exact .p (by omega) (.p (by omega) (.p h1 (.r _)))
    · by_cases h2 : w.getD i 0 < -100000
      · refine ⟨false, .s ?_, fun h => by cases h⟩
        simp only [taquinlaw18_weights.l0, rdI]
        exact .p (by omega) (.p (by omega) (.n h1 (.p h2 (.r _))))
      · obtain ⟨r, hr, hh⟩ := ih (i + 1) (by omega) (by omega) (fun j hj => by
          by_cases e : j = i
          · rw [e]; omega
          · exact hall j (by omega))
        refine ⟨r, .s ?_, hh⟩
        simp only [taquinlaw18_weights.l0, rdI]
        refine .p (by omega) (.p (by omega) (.n h1 (.n h2 ?_)))
        rw [w64 (by omega) (by omega)]
        exact hr
theorem weights_ev (P : Int) (l : List TransT) (w : List Int) (hl : w.length ≤ 9223372036854775807) : ∃ r, Ev (fun k => taquinlaw18_weights.f k P l w) r ∧ (r = true → (w.length : Int) = P ∧ ∀ x ∈ w, -100000 ≤ x ∧ x ≤ 100000) := by
  obtain ⟨r, hr, hh⟩ := weights_l0 P l w hl w.length 0 (by omega) (by omega) (fun j hj => by omega)
  refine ⟨r, hr, fun h => ⟨(hh h).1, fun x hx => ?_⟩⟩
  obtain ⟨j, hj, rfl⟩ := List.mem_iff_getElem.1 hx
  have := (hh h).2 j hj
  simpa [List.getD_eq_getElem?_getD, hj] using this
theorem invariant_eq {n : Nat} {l : List TransT} {m w : List Int} {a b : Int} (h : Fits n l m a b) (hb : b ≤ 1000) (hw : ∀ x ∈ w, -100000 ≤ x ∧ x ≤ 100000) (hl : w.length = n) : petri_Invariant.f (n : Int) l w = some (!l.any (fun t => decide (sumO w t.f0 ≠ sumO w t.f1))) := by
  unfold petri_Invariant.f
  have h1 : l.all (fun t => inM w.length t.f0 && inM w.length t.f1 && decide (t.f0.length ≤ 1000000) && decide (t.f1.length ≤ 1000000)) = true := List.all_eq_true.2 (fun t ht => by
    have a0 := h.set0 t ht
    have a1 := h.set1 t ht
    have b0 : inM w.length t.f0 = true := List.all_eq_true.2 (fun p hp => by have := isSet_mem a0.1 hp; simp; omega)
    have b1 : inM w.length t.f1 = true := List.all_eq_true.2 (fun p hp => by have := isSet_mem a1.1 hp; simp; omega)
    simp only [Bool.and_eq_true, decide_eq_true_eq]
    exact ⟨⟨⟨b0, b1⟩, by omega⟩, by omega⟩)
  rw [if_pos ⟨by have := h.trans; omega, h1⟩]
  congr 2
  apply Bool.eq_iff_iff.2
  simp only [List.any_eq_true, decide_eq_true_eq]
  constructor
  · rintro ⟨t, ht, hne⟩
    exact ⟨t, ht, by rwa [sumW_eq w _ hw (by have := (h.set0 t ht).2; omega), sumW_eq w _ hw (by have := (h.set1 t ht).2; omega)] at hne⟩
  · rintro ⟨t, ht, hne⟩
    exact ⟨t, ht, by rwa [sumW_eq w _ hw (by have := (h.set0 t ht).2; omega), sumW_eq w _ hw (by have := (h.set1 t ht).2; omega)]⟩
/-- What firing does to the weight. -/
theorem fire_dot {n : Nat} {l : List TransT} {m w : List Int} {a b : Int} (h : Fits n l m a b) (hl : w.length = n) {q : Nat} (hq : q < l.length) : dot (upd 1 (upd (-1) m (l.getD q zT).f0) (l.getD q zT).f1) w = dot m w - sumO w (l.getD q zT).f0 + sumO w (l.getD q zT).f1 := by
  obtain ⟨a0, a1, a2, a3⟩ := h.at0 hq
  have hm := h.len
  rw [dot_upd 1 w _ _ (fun p hp => by rw [upd_len]; have := a2 p hp; omega) (by rw [upd_len]; omega), dot_upd (-1) w _ _ (fun p hp => by have := a0 p hp; omega) (by omega)]
  omega
end Go.Proofs.YthpclmkcljmoeaaDoor.P
