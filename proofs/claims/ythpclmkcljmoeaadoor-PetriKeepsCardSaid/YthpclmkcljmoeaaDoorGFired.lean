/- petri's firing. -/
import Derived.Test.YthpclmkcljmoeaaDoorGFire
namespace Go.Proofs.YthpclmkcljmoeaaDoor.P
open Go.RowKit Go.Proofs.YthpclmkcljmoeaaDoorW.PrintWords Go.Proofs.YthpclmkcljmoeaaDoorW.PrintLast Go.Proofs.YthpclmkcljmoeaaDoorW.PrintMore
set_option linter.unusedVariables false
set_option linter.unusedSimpArgs false
/-! ### Firing -/
def upd (d : Int) (m s : List Int) : List Int := s.foldl (fun m p => m.set p.toNat (m.getD p.toNat 0 + d)) m
theorem upd_len (d : Int) : ∀ (s m : List Int), (upd d m s).length = m.length
  | [], m => rfl
  | p :: s, m => by
    show (upd d (m.set p.toNat (m.getD p.toNat 0 + d)) s).length = _
    rw [upd_len d s, List.length_set]
def fireM (l : List TransT) (m : List Int) (t : Int) : List Int × Int :=
  if t < 0 ∨ (l.length : Int) ≤ t then ([], 4)
  else if dead m (l.getD t.toNat zT).f0 = true then ([], 7)
  else if (upd 1 (upd (-1) m (l.getD t.toNat zT).f0) (l.getD t.toNat zT).f1).any badMark = true then ([], 6)
  else (upd 1 (upd (-1) m (l.getD t.toNat zT).f0) (l.getD t.toNat zT).f1, 0)
theorem set_bnd {m : List Int} {lo hi v : Int} {p : Nat} (h : ∀ x ∈ m, lo ≤ x ∧ x ≤ hi) (h0 : lo ≤ v) (h1 : v ≤ hi) : ∀ x ∈ m.set p v, lo ≤ x ∧ x ≤ hi := fun x hx => by
  rcases List.mem_or_eq_of_mem_set hx with hx | rfl
  · exact h x hx
  · exact ⟨h0, h1⟩
theorem fire_l1 (n : Nat) (hn : n ≤ 64) (l : List TransT) (s : List Int) (hs : ∀ p ∈ s, 0 ≤ p ∧ p < (n : Int)) (hsl : s.length ≤ 20) (d : Nat) : ∀ (i : Nat) (m : List Int), s.length - i = d → i ≤ s.length → m.length = n → (∀ x ∈ m, -20 ≤ x ∧ x ≤ 1099511627776 + (i : Int)) →
    Ev (fun k => petri_Fire.l1 k m s (s.length : Int) (i : Int) (n : Int) l) (if (upd 1 m (s.drop i)).any badMark = true then ([], 6) else (upd 1 m (s.drop i), 0)) := by
  induction d with
  | zero =>
    intro i m hd hi hm hb
    rw [List.drop_eq_nil_of_le (by omega)]
    refine .s ?_
    simp only [petri_Fire.l1]
    refine .n (by omega) (.b (.c (marking_eq n l m (by omega))) ?_)
    show Ev _ (if m.any badMark = true then ([], 6) else (m, 0))
    rw [show decide ((m.length : Int) = n) = true by simp [hm], Bool.true_and]
    cases h : m.any badMark with
    | true => exact .n (by simp) ((Ev.r _).congr (by simp))
    | false => exact .p (by simp) ((Ev.r _).congr (by simp))
  | succ d ih =>
    intro i m hd hi hm hb
    have hil : i < s.length := by omega
    have hp := hs _ (getD_mem s i 0 hil)
    rw [drop_at s i 0 hil]
    have hv := hb _ (getD_mem m (s.getD i 0).toNat 0 (by omega))
    refine .s ?_
    simp only [petri_Fire.l1, rdI]
    refine .p (by omega) (.p (by omega) (.p (by omega) (.p (by omega) (.p (by omega) ?_))))
    rw [w64 (show -9223372036854775808 ≤ (i : Int) + 1 by omega) (by omega)]
    have e : wrap64 (rd m (s.getD i 0) + 1) = m.getD (s.getD i 0).toNat 0 + 1 := by
      unfold rd
      exact w64 (by omega) (by omega)
    rw [e]
    exact ih (i + 1) _ (by omega) (by omega) (by rw [List.length_set]; exact hm) (set_bnd (fun x hx => by have := hb x hx; omega) (by omega) (by omega))
theorem fire_l0 (n : Nat) (hn : n ≤ 64) (l : List TransT) (t : Nat) (ht : t < l.length) (s : List Int) (hs : ∀ p ∈ s, 0 ≤ p ∧ p < (n : Int)) (hsl : s.length ≤ 20) (hs2 : ∀ p ∈ (l.getD t zT).f1, 0 ≤ p ∧ p < (n : Int)) (hsl2 : (l.getD t zT).f1.length ≤ 20) (d : Nat) : ∀ (i : Nat) (m : List Int), s.length - i = d → i ≤ s.length → m.length = n → (∀ x ∈ m, -(i : Int) ≤ x ∧ x ≤ 1099511627776) →
    Ev (fun k => petri_Fire.l0 k (t : Int) m s (s.length : Int) (i : Int) (n : Int) l) (if (upd 1 (upd (-1) m (s.drop i)) (l.getD t zT).f1).any badMark = true then ([], 6) else (upd 1 (upd (-1) m (s.drop i)) (l.getD t zT).f1, 0)) := by
  have hrd : rd_T29 l (t : Int) = l.getD t zT := by simp [rd_T29]
  induction d with
  | zero =>
    intro i m hd hi hm hb
    rw [List.drop_eq_nil_of_le (by omega)]
    refine .s ?_
    simp only [petri_Fire.l0, hrd]
    refine .n (by omega) (.p (by omega) (.p (by omega) ?_))
    exact fire_l1 n hn l _ hs2 hsl2 (l.getD t zT).f1.length 0 m (by omega) (by omega) hm (fun x hx => by have := hb x hx; omega)
  | succ d ih =>
    intro i m hd hi hm hb
    have hil : i < s.length := by omega
    have hp := hs _ (getD_mem s i 0 hil)
    rw [drop_at s i 0 hil]
    have hv := hb _ (getD_mem m (s.getD i 0).toNat 0 (by omega))
    refine .s ?_
    simp only [petri_Fire.l0, rdI]
    refine .p (by omega) (.p (by omega) (.p (by omega) (.p (by omega) (.p (by omega) ?_))))
    rw [w64 (show -9223372036854775808 ≤ (i : Int) + 1 by omega) (by omega)]
    have e : wrap64 (rd m (s.getD i 0) - 1) = m.getD (s.getD i 0).toNat 0 + -1 := by
      unfold rd
      exact w64 (by omega) (by omega)
    rw [e]
    exact ih (i + 1) _ (by omega) (by omega) (by rw [List.length_set]; exact hm) (set_bnd (fun x hx => by have := hb x hx; omega) (by omega) (by omega))
theorem Fits.at0 {n : Nat} {l : List TransT} {m : List Int} {a b : Int} (h : Fits n l m a b) {t : Nat} (ht : t < l.length) : (∀ p ∈ (l.getD t zT).f0, 0 ≤ p ∧ p < (n : Int)) ∧ (l.getD t zT).f0.length ≤ 20 ∧ (∀ p ∈ (l.getD t zT).f1, 0 ≤ p ∧ p < (n : Int)) ∧ (l.getD t zT).f1.length ≤ 20 := by
  have hm := getD_mem l t zT ht
  exact ⟨fun p hp => isSet_mem (h.set0 _ hm).1 hp, (h.set0 _ hm).2, fun p hp => isSet_mem (h.set1 _ hm).1 hp, (h.set1 _ hm).2⟩
theorem Fits.with {n : Nat} {l : List TransT} {m m' : List Int} {a b : Int} (h : Fits n l m a b) (hl : m'.length = n) (hm : ∀ x ∈ m', 0 ≤ x ∧ x ≤ 1099511627776) : Fits n l m' a b :=
  ⟨h.places, h.trans, h.p64, hl, hm, h.set0, h.set1⟩
theorem enabled_eq {n : Nat} {l : List TransT} {m : List Int} {a b : Int} (h : Fits n l m a b) {t : Nat} (ht : t < l.length) : petri_Enabled.f (n : Int) l m (t : Int) = some (!dead m (l.getD t zT).f0) := by
  have hrd : rd_T29 l (t : Int) = l.getD t zT := by simp [rd_T29]
  unfold petri_Enabled.f
  rw [hrd, if_pos ⟨by omega, by omega⟩, if_pos ⟨by have := (h.at0 ht).2.1; omega, List.all_eq_true.2 (fun p hp => by have := (h.at0 ht).1 p hp; have := h.len; simp; omega)⟩]
theorem fire_ev {n : Nat} {l : List TransT} {m : List Int} {a b : Int} (h : Fits n l m a b) (t : Int) : Ev (fun k => petri_Fire.f k (n : Int) l m t) (fireM l m t) := by
  unfold fireM
  simp only [petri_Fire.f]
  by_cases h0 : t < 0
  · rw [if_pos (.inl h0)]
    refine .p h0 (.s ?_)
    simp only [petri_Fire.j0]
    exact .p (by trivial) (.r _)
  · refine .n h0 ?_
    by_cases h1 : (l.length : Int) ≤ t
    · rw [if_pos (.inr h1), show decide (t ≥ (l.length : Int)) = true by simpa using h1]
      refine .s ?_
      simp only [petri_Fire.j0]
      exact .p (by trivial) (.r _)
    · rw [if_neg (by omega), show decide (t ≥ (l.length : Int)) = false by simp; omega]
      obtain ⟨q, rfl⟩ : ∃ q : Nat, t = (q : Int) := ⟨t.toNat, by omega⟩
      have hq : q < l.length := by omega
      obtain ⟨a0, a1, a2, a3⟩ := h.at0 hq
      refine .s ?_
      simp only [petri_Fire.j0, Int.toNat_natCast]
      refine .n (by simp) (.b (.c (enabled_eq h hq)) ?_)
      cases hd : dead m (l.getD q zT).f0 with
      | true =>
        rw [if_pos rfl]
        exact .n (by simp) (.r _)
      | false =>
        rw [if_neg (by simp)]
        have hrd : rd_T29 l (q : Int) = l.getD q zT := by simp [rd_T29]
        have hcl : slices_Clone_int_int.f m = some m := by unfold slices_Clone_int_int.f; rw [if_pos (by have := h.len; have := h.p64; omega)]
        refine .p (by simp) (.b (.c hcl) (.p (by omega) (.p (by omega) ?_)))
        rw [hrd]
        exact fire_l0 n h.p64 l q hq (l.getD q zT).f0 a0 a1 a2 a3 (l.getD q zT).f0.length 0 m (by omega) (by omega) h.len (fun x hx => by have := h.mark x hx; omega)
/-- A transition that is fired leaves a right marking. -/
theorem fire_ok {n : Nat} {l : List TransT} {m : List Int} {a b : Int} (h : Fits n l m a b) (t : Int) (ht : (fireM l m t).2 = 0) : Fits n l (fireM l m t).1 a b ∧ ∃ q : Nat, t = (q : Int) ∧ q < l.length ∧ dead m (l.getD q zT).f0 = false ∧ (fireM l m t).1 = upd 1 (upd (-1) m (l.getD q zT).f0) (l.getD q zT).f1 := by
  unfold fireM at ht ⊢
  by_cases h0 : t < 0 ∨ (l.length : Int) ≤ t
  · rw [if_pos h0] at ht; cases ht
  · rw [if_neg h0] at ht ⊢
    obtain ⟨q, rfl⟩ : ∃ q : Nat, t = (q : Int) := ⟨t.toNat, by omega⟩
    simp only [Int.toNat_natCast] at ht ⊢
    cases hd : dead m (l.getD q zT).f0 with
    | true => rw [hd, if_pos rfl] at ht; cases ht
    | false =>
      rw [hd, if_neg (by simp)] at ht
      rw [if_neg (by simp)]
      cases hb : (upd 1 (upd (-1) m (l.getD q zT).f0) (l.getD q zT).f1).any badMark with
      | true => rw [hb, if_pos rfl] at ht; cases ht
      | false =>
        rw [if_neg (by simp)]
        exact ⟨h.with (by simp only [upd_len]; exact h.len) (any_bad.1 hb), q, rfl, by omega, hd, rfl⟩
theorem upd_get (d : Int) (p : Nat) : ∀ (s m : List Int), p < m.length → (∀ q ∈ s, 0 ≤ q) → (upd d m s).getD p 0 = m.getD p 0 + d * ((s.count (p : Int) : Nat) : Int)
  | [], m, _, _ => by simp [upd]
  | q :: s, m, hp, h => by
    show (upd d (m.set q.toNat (m.getD q.toNat 0 + d)) s).getD p 0 = _
    rw [upd_get d p s _ (by rw [List.length_set]; exact hp) (fun x hx => h x (by simp [hx]))]
    have hq := h q (by simp)
    by_cases e : q = (p : Int)
    · subst e
      rw [List.count_cons_self]
      have : (m.set (p : Int).toNat (m.getD (p : Int).toNat 0 + d)).getD p 0 = m.getD p 0 + d := by
        simp [List.getD_eq_getElem?_getD, hp]
      rw [this, Int.natCast_add, Int.mul_add]
      omega
    · rw [List.count_cons_of_ne e]
      have : (m.set q.toNat (m.getD q.toNat 0 + d)).getD p 0 = m.getD p 0 := by
        rw [List.getD_eq_getElem?_getD, List.getElem?_set_ne (by omega), ← List.getD_eq_getElem?_getD]
      rw [this]
theorem isSet_lt {P : Int} {s : List Int} (h : isSetB P s = true) (d : Nat) : ∀ i, i + d + 1 < s.length → s.getD i 0 < s.getD (i + d + 1) 0 := by
  induction d with
  | zero =>
    intro i hi
    have := List.all_eq_true.1 h (i + 1) (List.mem_range.2 (by omega))
    simp only [setAt, Bool.and_eq_true, Bool.or_eq_true, decide_eq_true_eq, beq_iff_eq] at this
    have h2 := this.2
    rw [show i + 1 - 1 = i by omega] at h2
    simp only [Nat.add_zero]
    omega
  | succ d ih =>
    intro i hi
    have h1 := ih i (by omega)
    have := List.all_eq_true.1 h (i + d + 1 + 1) (List.mem_range.2 (by omega))
    simp only [setAt, Bool.and_eq_true, Bool.or_eq_true, decide_eq_true_eq, beq_iff_eq] at this
    have h2 := this.2
    rw [show i + d + 1 + 1 - 1 = i + d + 1 by omega] at h2
    show _ < s.getD (i + d + 1 + 1) 0
    omega
theorem isSet_sorted {P : Int} {s : List Int} (h : isSetB P s = true) : s.Pairwise (· < ·) := by
  rw [List.pairwise_iff_getElem]
  intro i j hi hj hij
  have := isSet_lt h (j - i - 1) i (by omega)
  rw [show i + (j - i - 1) + 1 = j by omega] at this
  simpa [List.getD_eq_getElem?_getD, hi, hj] using this
theorem isSet_count {P : Int} {s : List Int} (h : isSetB P s = true) (x : Int) : s.count x ≤ 1 := by
  have hn : s.Nodup := (isSet_sorted h).imp (fun {a b} hab => by omega)
  exact List.nodup_iff_count.1 hn x
/-- What is at a place behind the firing. -/
theorem fire_at {n : Nat} {l : List TransT} {m : List Int} {a b : Int} (h : Fits n l m a b) {q : Nat} (hq : q < l.length) {p : Nat} (hp : p < n) : (upd 1 (upd (-1) m (l.getD q zT).f0) (l.getD q zT).f1).getD p 0 = m.getD p 0 - (((l.getD q zT).f0.count (p : Int) : Nat) : Int) + (((l.getD q zT).f1.count (p : Int) : Nat) : Int) := by
  obtain ⟨a0, a1, a2, a3⟩ := h.at0 hq
  have hm := h.len
  rw [upd_get 1 p _ _ (by rw [upd_len]; omega) (fun q hq => (a2 q hq).1), upd_get (-1) p _ _ (by omega) (fun q hq => (a0 q hq).1)]
  omega
end Go.Proofs.YthpclmkcljmoeaaDoor.P
