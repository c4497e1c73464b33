/- The ranks number the layouts, in their order; Unrank inverts Rank. -/
import Derived.Test.YtipjlhhgccfmcaaGRank
import Derived.Test.YtipjlhhgccfmcaaGUnrank
namespace Go.Proofs.Ytipjlhhgccfmcaa.P
open Go.RowKit Go.Proofs.YtipjlhhgccfmcaaW.PrintWords Go.Proofs.YtipjlhhgccfmcaaW.PrintLast

/-- Is the target's cell among the m cells from i on? -/
def tgt (t i m : Nat) : Nat := if i ≤ t ∧ t < i + m then 1 else 0
theorem tgt_step {t i m : Nat} (e : i ≠ t) : tgt t i (m + 1) = tgt t (i + 1) m := by
  unfold tgt
  by_cases c : i ≤ t ∧ t < i + (m + 1)
  · rw [if_pos c, if_pos (by omega)]
  · rw [if_neg c, if_neg (by omega)]
theorem tgt_here (t m : Nat) : tgt t t (m + 1) = 1 := if_pos (by omega)
theorem tgt_past (t m : Nat) : tgt t (t + 1) m = 0 := if_neg (by omega)
theorem tgt_le (t i m : Nat) : tgt t i m ≤ 1 := by unfold tgt; split <;> omega
theorem tgt_le' (t i m : Nat) : tgt t i m ≤ m := by unfold tgt; split <;> omega

/-- l are the cells from i on; left of them are not the target's, need of these have shelves. -/
structure Ok (t i left need : Nat) (l : List Bool) : Prop where
  left_ : left + tgt t i l.length = l.length
  need_ : need + tgt t i l.length = l.count true
  at_ : i ≤ t → t < i + l.length → l.getD (t - i) false = true

section
variable {t i left need : Nat} {b : Bool} {bs : List Bool}
theorem Ok.here (h : Ok t i left need (b :: bs)) (e : i = t) : b = true ∧ Ok t (i + 1) left need bs := by
  subst e
  have hb : b = true := by have := h.at_ (Nat.le_refl _) (by simp); simpa using this
  subst hb
  refine ⟨rfl, ?_, ?_, fun h1 => by omega⟩
  · have := h.left_; rw [List.length_cons, tgt_here] at this; rw [tgt_past]; omega
  · have := h.need_; rw [List.length_cons, tgt_here, List.count_cons_self] at this; rw [tgt_past]; omega
theorem getD_step (e : i ≠ t) (h1 : i ≤ t) : (b :: bs).getD (t - i) false = bs.getD (t - (i + 1)) false := by
  rw [show t - i = t - (i + 1) + 1 from by omega]; simp
theorem Ok.tgt_count (h : Ok t i left need (b :: bs)) (e : i ≠ t) : tgt t (i + 1) bs.length ≤ bs.count true := by
  unfold tgt
  split
  · rename_i c
    have h1 := h.at_ (by omega) (by simp; omega)
    rw [getD_step e (by omega)] at h1
    have : true ∈ bs := by
      rw [List.mem_iff_getElem]
      refine ⟨t - (i + 1), by omega, ?_⟩
      rw [List.getD_eq_getElem?_getD, List.getElem?_eq_getElem (by omega)] at h1
      exact h1
    have := List.count_pos_iff.2 this
    omega
  · omega
theorem Ok.step_true (h : Ok t i left need (true :: bs)) (e : i ≠ t) : 1 ≤ left ∧ 1 ≤ need ∧ Ok t (i + 1) (left - 1) (need - 1) bs := by
  have h1 := h.left_
  have h2 := h.need_
  have h3 := h.tgt_count e
  have h4 := tgt_le' t (i + 1) bs.length
  rw [List.length_cons, tgt_step e] at h1 h2
  rw [List.count_cons_self] at h2
  exact ⟨by omega, by omega, by omega, by omega, fun c1 c2 => by rw [← getD_step (b := true) e (by omega)]; exact h.at_ (by omega) (by simp; omega)⟩
theorem Ok.step_false (h : Ok t i left need (false :: bs)) (e : i ≠ t) : 1 ≤ left ∧ Ok t (i + 1) (left - 1) need bs := by
  have h1 := h.left_
  have h2 := h.need_
  have h4 := tgt_le' t (i + 1) bs.length
  rw [List.length_cons, tgt_step e] at h1 h2
  rw [List.count_cons_of_ne (by decide)] at h2
  exact ⟨by omega, by omega, by omega, fun c1 c2 => by rw [← getD_step (b := false) e (by omega)]; exact h.at_ (by omega) (by simp; omega)⟩
end
theorem chs_nn (n k : Nat) : 0 ≤ chs n k := (chs_le n k).1
theorem chs_step {left need : Nat} (h : 1 ≤ left) (h2 : 1 ≤ need) : chs left need = chs (left - 1) (need - 1) + chs (left - 1) need := by
  obtain ⟨a, rfl⟩ : ∃ a, left = a + 1 := ⟨left - 1, by omega⟩
  obtain ⟨b, rfl⟩ : ∃ b, need = b + 1 := ⟨need - 1, by omega⟩
  rfl
theorem chs_zero' (n : Nat) : chs n 0 = 1 := by cases n <;> rfl
theorem rank_bounds (t : Nat) (l : List Bool) : ∀ i left need, Ok t i left need l → 0 ≤ rankL t i left need l ∧ rankL t i left need l < chs left need := by
  induction l with
  | nil =>
    intro i left need h
    have h1 := h.left_
    have h2 := h.need_
    have h3 := tgt_le' t i 0
    simp at h1 h2 h3
    obtain rfl : need = 0 := by omega
    rw [chs_zero']
    simp [rankL]
  | cons b bs ih =>
    intro i left need h
    rw [rankL]
    by_cases e : i = t
    · rw [if_pos e]
      exact ih _ _ _ (h.here e).2
    · rw [if_neg e]
      cases b with
      | true =>
        obtain ⟨h1, h2, h3⟩ := h.step_true e
        have h4 := ih _ _ _ h3
        rw [if_pos rfl]
        have h5 := chs_nn (left - 1) need
        rw [chs_step h1 h2]
        omega
      | false =>
        obtain ⟨h1, h3⟩ := h.step_false e
        have h4 := ih _ _ _ h3
        rw [if_neg (by decide)]
        by_cases hn : 0 < need
        · rw [if_pos hn, chs_step h1 hn]
          have h5 := chs_nn (left - 1) (need - 1)
          omega
        · obtain rfl : need = 0 := by omega
          rw [if_neg hn]
          rw [chs_zero'] at h4 ⊢
          omega
theorem unrank_rank (t : Nat) (l : List Bool) : ∀ i left need, Ok t i left need l → unrankL t l.length i left need (rankL t i left need l) = l := by
  induction l with
  | nil => intro i left need _; rfl
  | cons b bs ih =>
    intro i left need h
    rw [rankL, List.length_cons, unrankL]
    by_cases e : i = t
    · rw [if_pos e, if_pos e, (h.here e).1, ih _ _ _ (h.here e).2]
    · rw [if_neg e, if_neg e]
      cases b with
      | true =>
        obtain ⟨h1, h2, h3⟩ := h.step_true e
        have h4 := rank_bounds t bs _ _ _ h3
        rw [if_neg (by omega), if_pos rfl, if_pos h4.2, ih _ _ _ h3]
      | false =>
        obtain ⟨h1, h3⟩ := h.step_false e
        have h4 := rank_bounds t bs _ _ _ h3
        rw [if_neg (show ¬ (false = true) by decide)]
        by_cases hn : 0 < need
        · rw [if_neg (by omega), if_pos hn, if_neg (by omega), Int.add_comm, Int.add_sub_cancel, ih _ _ _ h3]
        · obtain rfl : need = 0 := by omega
          rw [if_pos rfl, if_neg hn, Int.zero_add, ih _ _ _ h3]
theorem rank_unrank (t : Nat) (m : Nat) : ∀ (i left need : Nat) (r : Int), left + tgt t i m = m → 0 ≤ r → r < chs left need →
    (unrankL t m i left need r).length = m ∧ Ok t i left need (unrankL t m i left need r) ∧ rankL t i left need (unrankL t m i left need r) = r := by
  induction m with
  | zero =>
    intro i left need r hl h0 h1
    obtain rfl : left = 0 := by omega
    cases need with
    | succ n => simp only [chs] at h1; omega
    | zero =>
      simp only [chs] at h1
      refine ⟨rfl, ⟨?_, ?_, fun a b => ?_⟩, ?_⟩
      · simpa [unrankL] using hl
      · have := tgt_le' t i 0
        simp [unrankL]; omega
      · simp [unrankL] at b; omega
      · simp [unrankL, rankL]; omega
  | succ m ih =>
    intro i left need r hl h0 h1
    rw [unrankL]
    by_cases e : i = t
    · subst e
      rw [if_pos rfl]
      rw [tgt_here] at hl
      obtain ⟨a, b, c⟩ := ih (i + 1) left need r (by rw [tgt_past]; omega) h0 h1
      refine ⟨by rw [List.length_cons, a], ⟨?_, ?_, fun _ _ => by simp⟩, by rw [rankL, if_pos rfl, c]⟩
      · rw [List.length_cons, tgt_here, a]; omega
      · have := b.need_; rw [tgt_past] at this; rw [List.length_cons, tgt_here, List.count_cons_self]; omega
    · rw [if_neg e]
      rw [tgt_step e] at hl
      have hl1 : 1 ≤ left := by have := tgt_le' t (i + 1) m; omega
      have okc : ∀ (b : Bool) (need' : Nat) (l : List Bool), l.length = m → need = need' + (if b = true then 1 else 0) → Ok t (i + 1) (left - 1) need' l → Ok t i left need (b :: l) := by
        intro b need' l hlen hn h
        refine ⟨?_, ?_, fun c1 c2 => ?_⟩
        · rw [List.length_cons, tgt_step e, hlen]; omega
        · have := h.need_
          rw [List.length_cons, tgt_step e, List.count_cons]
          cases b <;> simp at hn ⊢ <;> omega
        · rw [getD_step e (by omega)]
          exact h.at_ (by omega) (by rw [List.length_cons] at c2; omega)
      by_cases hn : need = 0
      · subst hn
        rw [if_pos rfl]
        obtain ⟨a, b, c⟩ := ih (i + 1) (left - 1) 0 r (by omega) h0 (by rw [chs_zero'] at h1 ⊢; exact h1)
        exact ⟨by rw [List.length_cons, a], okc false 0 _ a rfl b, by rw [rankL, if_neg e, if_neg (by decide), if_neg (by omega), c]; omega⟩
      · rw [if_neg hn]
        rw [chs_step hl1 (by omega)] at h1
        by_cases hc : r < chs (left - 1) (need - 1)
        · rw [if_pos hc]
          obtain ⟨a, b, c⟩ := ih (i + 1) (left - 1) (need - 1) r (by omega) h0 hc
          exact ⟨by rw [List.length_cons, a], okc true (need - 1) _ a (by simp; omega) b, by rw [rankL, if_neg e, if_pos rfl, c]⟩
        · rw [if_neg hc]
          obtain ⟨a, b, c⟩ := ih (i + 1) (left - 1) need (r - chs (left - 1) (need - 1)) (by omega) (by omega) (by omega)
          exact ⟨by rw [List.length_cons, a], okc false need _ a (by simp) b, by rw [rankL, if_neg e, if_neg (by decide), if_pos (by omega), c]; omega⟩
/-- Which comes first: the one that has a shelf at the first index at which they differ. -/
def lexB : List Bool → List Bool → Bool
  | a :: r, b :: q => if a = b then lexB r q else a
  | _, _ => false
theorem rank_lex (t : Nat) (l1 : List Bool) : ∀ (l2 : List Bool) (i left need : Nat), l1.length = l2.length → Ok t i left need l1 → Ok t i left need l2 →
    decide (rankL t i left need l1 < rankL t i left need l2) = lexB l1 l2 := by
  induction l1 with
  | nil =>
    intro l2 i left need hl _ _
    cases l2 with
    | nil => simp [rankL, lexB]
    | cons b bs => simp at hl
  | cons a r ih =>
    intro l2 i left need hl h1 h2
    cases l2 with
    | nil => simp at hl
    | cons b bs =>
      have hl' : r.length = bs.length := by simpa using hl
      rw [rankL, rankL, lexB]
      by_cases e : i = t
      · rw [if_pos e, if_pos e]
        obtain ⟨ha, ho⟩ := h1.here e
        obtain ⟨hb, ho2⟩ := h2.here e
        rw [ha, hb, if_pos rfl]
        exact ih bs _ _ _ hl' ho ho2
      · rw [if_neg e, if_neg e]
        cases a with
        | true =>
          cases b with
          | true =>
            rw [if_pos rfl, if_pos rfl, if_pos rfl]
            exact ih bs _ _ _ hl' (h1.step_true e).2.2 (h2.step_true e).2.2
          | false =>
            rw [if_pos rfl, if_neg (show ¬ (false = true) by decide), if_neg (show ¬ (true = false) by decide)]
            obtain ⟨p1, p2, p3⟩ := h1.step_true e
            have q := rank_bounds t r _ _ _ p3
            have q2 := rank_bounds t bs _ _ _ (h2.step_false e).2
            rw [if_pos (by omega)]
            simp; omega
        | false =>
          cases b with
          | true =>
            rw [if_pos rfl, if_neg (show ¬ (false = true) by decide), if_neg (show ¬ (false = true) by decide)]
            obtain ⟨p1, p2, p3⟩ := h2.step_true e
            have q := rank_bounds t bs _ _ _ p3
            have q2 := rank_bounds t r _ _ _ (h1.step_false e).2
            rw [if_pos (by omega)]
            simp; omega
          | false =>
            rw [if_neg (show ¬ (false = true) by decide), if_pos rfl, if_neg (show ¬ (false = true) by decide)]
            have := ih bs _ _ _ hl' (h1.step_false e).2 (h2.step_false e).2
            rw [← this]
            congr 1
            simp
/-! ### whole layouts -/
theorem right_ok {l : List Bool} {t : Nat} (h : rightL l t) : Ok t 0 (l.length - 1) (l.count true - 1) l := by
  obtain ⟨h1, h2, h3, h4, h5⟩ := h
  have ht : t < l.length := by omega
  have h5' : l.getD t false = true := by simpa using h5
  have hc := count_at l t ht h5' 0 (Nat.zero_le _)
  rw [List.drop_zero] at hc
  have e : tgt t 0 l.length = 1 := if_pos (by omega)
  exact ⟨by omega, by omega, fun _ _ => by simpa using h5'⟩
theorem rank_in {l : List Bool} {t : Nat} (h : rightL l t) : 0 ≤ rankOf l t ∧ rankOf l t < cnt l.length (l.count true : Nat) := by
  have hb := rank_bounds t l _ _ _ (right_ok h)
  obtain ⟨h1, h2, h3, h4, h5⟩ := h
  have ht : t < l.length := by omega
  have hc := count_at l t ht (by simpa using h5) 0 (Nat.zero_le _)
  rw [List.drop_zero] at hc
  have hc2 : l.count true ≤ l.length := List.count_le_length
  unfold rankOf
  rw [show (l.length : Int) = ((l.length - 1 : Nat) : Int) + 1 from by omega, show ((l.count true : Nat) : Int) = ((l.count true - 1 : Nat) : Int) + 1 from by omega, cnt_some _ _ (by omega) (by omega)]
  have hn := chs_nn (l.length - 1) (l.count true - 1)
  have hm : ((t : Int)) * chs (l.length - 1) (l.count true - 1) ≤ ((l.length - 1 : Nat) : Int) * chs (l.length - 1) (l.count true - 1) := Int.mul_le_mul_of_nonneg_right (by omega) hn
  have hz : 0 ≤ (t : Int) * chs (l.length - 1) (l.count true - 1) := Int.mul_nonneg (by omega) hn
  rw [Int.add_mul, Int.one_mul]
  simp only [Int.toNat_natCast] at hb ⊢
  omega
theorem unrank_of {n k : Nat} {r : Int} (hr : 0 ≤ r) (h : r < cnt n k) : ∃ (m : List Bool) (t : Nat), layout_Unrank.f n k r = some (m, (t : Int), true) ∧ rightL m t ∧ m.length = n ∧ m.count true = k ∧ rankOf m t = r := by
  obtain ⟨a, b, ha, hb, h1, h2, h3, h4⟩ := cnt_pos hr h
  obtain rfl : n = a + 1 := by omega
  obtain rfl : k = b + 1 := by omega
  have e1 := Int.ediv_nonneg (a := r) (b := chs a b) (by omega) (by omega)
  have e2 : r / chs a b < (a : Int) + 1 := Int.ediv_lt_of_lt_mul (by omega) h4
  have e3 := Int.emod_nonneg r (b := chs a b) (by omega)
  have e4 := Int.emod_lt_of_pos r (b := chs a b) (by omega)
  obtain ⟨t, ht⟩ : ∃ t : Nat, r / chs a b = t := ⟨(r / chs a b).toNat, by omega⟩
  have htl : t < a + 1 := by omega
  obtain ⟨c1, c2, c3⟩ := rank_unrank t (a + 1) 0 a b (r % chs a b) (by rw [show tgt t 0 (a + 1) = 1 from if_pos (by omega)]) e3 e4
  have hcnt : (unrankL t (a + 1) 0 a b (r % chs a b)).count true = b + 1 := by
    have := c2.need_
    rw [c1, show tgt t 0 (a + 1) = 1 from if_pos (by omega)] at this
    omega
  refine ⟨unrankL t (a + 1) 0 a b (r % chs a b), t, ?_, ⟨by omega, by omega, by omega, by omega, ?_⟩, c1, hcnt, ?_⟩
  · unfold layout_Unrank.f
    rw [if_neg (by omega)]
    simp only [show (((a + 1 : Nat) : Int) - 1).toNat = a from by omega, show (((b + 1 : Nat) : Int) - 1).toNat = b from by omega, show ((a + 1 : Nat) : Int).toNat = a + 1 from by omega, ht, Int.toNat_natCast]
  · have := c2.at_ (Nat.zero_le _) (by omega)
    simpa using this
  · unfold rankOf
    rw [c1, hcnt]
    simp only [Nat.add_sub_cancel, Int.toNat_natCast]
    rw [c3, ← ht, Int.mul_comm]
    exact Int.mul_ediv_add_emod r _
theorem unrank_rankOf {l : List Bool} {t : Nat} (h : rightL l t) : layout_Unrank.f l.length (l.count true : Nat) (rankOf l t) = some (l, (t : Int), true) := by
  have hin := rank_in h
  have hok := right_ok h
  have hb := rank_bounds t l _ _ _ hok
  have hu := unrank_rank t l _ _ _ hok
  obtain ⟨h1, h2, h3, h4, h5⟩ := h
  unfold layout_Unrank.f
  rw [if_neg (by omega)]
  have hc := count_at l t (by omega) (by simpa using h5) 0 (Nat.zero_le _)
  rw [List.drop_zero] at hc
  simp only [show ((l.length : Int) - 1).toNat = l.length - 1 from by omega, show (((l.count true : Nat) : Int) - 1).toNat = l.count true - 1 from by omega, Int.toNat_natCast]
  have hd : rankOf l t / chs (l.length - 1) (l.count true - 1) = t := by
    unfold rankOf
    simp only [Int.toNat_natCast]
    rw [Int.add_comm, Int.add_mul_ediv_right _ _ (by omega), Int.ediv_eq_zero_of_lt hb.1 hb.2]; omega
  have hm : rankOf l t % chs (l.length - 1) (l.count true - 1) = rankL t 0 (l.length - 1) (l.count true - 1) l := by
    unfold rankOf
    simp only [Int.toNat_natCast]
    rw [Int.add_comm, Int.add_mul_emod_self_right, Int.emod_eq_of_lt hb.1 hb.2]
  rw [hd, hm]
  simp only [Int.toNat_natCast, hu]
def beforeB (a : List Bool) (s : Nat) (b : List Bool) (t : Nat) : Bool := if s = t then lexB a b else decide (s < t)
theorem rank_far {s t : Nat} {c x y : Int} (e : s ≠ t) (h1 : 0 ≤ x ∧ x < c) (h2 : 0 ≤ y ∧ y < c) : decide ((s : Int) * c + x < (t : Int) * c + y) = decide (s < t) := by
  congr 1
  rw [eq_iff_iff]
  constructor
  · intro h
    rcases Nat.lt_or_gt_of_ne e with h3 | h3
    · exact h3
    · exfalso
      have : ((t : Int) + 1) * c ≤ (s : Int) * c := Int.mul_le_mul_of_nonneg_right (by omega) (by omega)
      rw [Int.add_mul] at this
      omega
  · intro h
    have : ((s : Int) + 1) * c ≤ (t : Int) * c := Int.mul_le_mul_of_nonneg_right (by omega) (by omega)
    rw [Int.add_mul] at this
    omega
theorem rank_before {a b : List Bool} {s t : Nat} (ha : rightL a s) (hb : rightL b t) (hl : a.length = b.length) (hc : a.count true = b.count true) :
    decide (rankOf a s < rankOf b t) = beforeB a s b t := by
  have h1 := rank_bounds s a _ _ _ (right_ok ha)
  have h2 := rank_bounds t b _ _ _ (right_ok hb)
  unfold beforeB
  by_cases e : s = t
  · subst e
    have := rank_lex s a b _ _ _ hl (right_ok ha) (by rw [hl, hc]; exact right_ok hb)
    rw [if_pos rfl, ← this]
    unfold rankOf
    rw [hl, hc]
    simp only [Int.toNat_natCast]
    congr 1
    simp
  · rw [if_neg e]
    unfold rankOf
    rw [hl, hc] at h1 ⊢
    simp only [Int.toNat_natCast]
    exact rank_far e h1 h2
theorem rank_inj {a b : List Bool} {s t : Nat} (ha : rightL a s) (hb : rightL b t) (hl : a.length = b.length) (hc : a.count true = b.count true) (h : rankOf a s = rankOf b t) : a = b ∧ s = t := by
  have h1 := unrank_rankOf ha
  have h2 := unrank_rankOf hb
  rw [h, hl, hc, h2] at h1
  simp only [Option.some.injEq, Prod.mk.injEq] at h1
  exact ⟨h1.1.symm, by omega⟩
end Go.Proofs.Ytipjlhhgccfmcaa.P
