/- LayoutRanks holds: the pure statement behind the printed walk; no condition. -/
import Derived.Test.YtipjlhhgccfmcaaGMath
import Derived.Test.YtipjlhhgccfmcaaPx4
import Derived.Test.YtipjlhhgccfmcaaPx5
import Derived.Test.YtipjlhhgccfmcaaGTypes
import Derived.Test.YtipjlhhgccfmcaaGCount
import Derived.Test.YtipjlhhgccfmcaaGRank
import Derived.Test.YtipjlhhgccfmcaaGUnrank
namespace Go.Proofs.Ytipjlhhgccfmcaa.P
open Go.RowKit Go.Proofs.YtipjlhhgccfmcaaW.PrintWords Go.Proofs.YtipjlhhgccfmcaaW.PrintLast

theorem right_tells (l : List Bool) (t : Int) : layout_Right.f l t = some (decide (rightL l t)) := by
  unfold layout_Right.f
  by_cases h1 : (l.length : Int) ≥ 1
  · rw [if_pos h1]
    by_cases h2 : (l.length : Int) ≤ 24
    · rw [if_pos h2]
      by_cases h3 : t ≥ 0
      · rw [if_pos h3]
        by_cases h4 : t < (l.length : Int)
        · rw [if_pos h4, if_pos (by omega)]
          unfold rdOf
          cases h5 : l.getD t.toNat false
          · congr 1; symm; apply decide_eq_false; intro h; rw [h.2.2.2.2] at h5; cases h5
          · congr 1; symm; apply decide_eq_true; exact ⟨by omega, by omega, by omega, h4, h5⟩
        · rw [if_neg h4]; congr 1; symm; apply decide_eq_false; intro h; exact h4 h.2.2.2.1
      · rw [if_neg h3]; congr 1; symm; apply decide_eq_false; intro h; exact h3 h.2.2.1
    · rw [if_neg h2]; congr 1; symm; apply decide_eq_false; intro h; have := h.2.1; omega
  · rw [if_neg h1]; congr 1; symm; apply decide_eq_false; intro h; have := h.1; omega
theorem shelves_ge (l : List Bool) (t : Int) (hl : l.length ≤ 24) (k : Nat) (hk : 25 ≤ k) : layout_Shelves.f k l t = some ((l.count true : Nat) : Int) := by
  have h := shelves_l0 l (by omega) l.length k 0 0 (by omega) (by omega) (by omega) (by omega)
  simp only [List.drop_zero, Nat.zero_add] at h
  exact h
theorem same_l0 (l1 l2 : List Bool) (a1 a2 : Int) (hl : l1.length = l2.length) (h24 : l1.length ≤ 24) (d : Nat) : ∀ (k i : Nat), l1.length - i = d → d < k → i ≤ l1.length →
    taquinref25_Same.l0 k i l1 a1 l2 a2 = some (decide (l1.drop i = l2.drop i)) := by
  induction d with
  | zero =>
    intro k i hd hk hi
    obtain ⟨k, rfl⟩ : ∃ m, k = m + 1 := ⟨k - 1, by omega⟩
    simp only [taquinref25_Same.l0]
    rw [if_neg (by omega), List.drop_eq_nil_of_le (by omega), List.drop_eq_nil_of_le (by omega)]; rfl
  | succ d ih =>
    intro k i hd hk hi
    obtain ⟨k, rfl⟩ : ∃ m, k = m + 1 := ⟨k - 1, by omega⟩
    simp only [taquinref25_Same.l0]
    rw [if_pos (by omega), if_pos (by omega), if_pos (by omega), rdOf_get, rdOf_get, wrap_in ((i : Int) + 1) (by omega) (by omega), drop_get l1 i (by omega), drop_get l2 i (by omega)]
    have h1 := ih k (i + 1) (by omega) (by omega) (by omega)
    simp only [Int.natCast_add, Int.natCast_one] at h1
    rw [h1]
    cases l1.getD i false <;> cases l2.getD i false <;> simp
theorem same_ge (l1 l2 : List Bool) (a1 a2 : Int) (h24 : l1.length ≤ 24) (k : Nat) (hk : 40 ≤ k) : taquinref25_Same.f k l1 a1 l2 a2 = some (decide (l1 = l2 ∧ a1 = a2)) := by
  obtain ⟨k, rfl⟩ : ∃ m, k = m + 1 := ⟨k - 1, by omega⟩
  unfold taquinref25_Same.f
  by_cases h : a1 = a2
  · rw [if_pos h]
    simp only [taquinref25_Same.j0]
    by_cases hl : l1.length = l2.length
    · rw [if_neg (by simp [hl])]
      have := same_l0 l1 l2 a1 a2 hl h24 l1.length k 0 (by omega) (by omega) (by omega)
      simp only [List.drop_zero] at this
      rw [show ((0 : Nat) : Int) = 0 from rfl] at this
      rw [this]; congr 1; simp [h]
    · rw [if_pos (by simp; omega)]; congr 1; symm; apply decide_eq_false; rintro ⟨rfl, _⟩; exact hl rfl
  · rw [if_neg h]
    simp only [taquinref25_Same.j0, if_true]
    congr 1; symm; apply decide_eq_false; rintro ⟨_, h2⟩; exact h h2
theorem before_l0 (l1 l2 : List Bool) (a1 a2 : Int) (hl : l1.length = l2.length) (h24 : l1.length ≤ 24) (d : Nat) : ∀ (k i : Nat), l1.length - i = d → 2 * d + 1 < k → i ≤ l1.length →
    taquinlaw25_before.l0 k i l1 a1 l2 a2 = some (lexB (l1.drop i) (l2.drop i)) := by
  induction d with
  | zero =>
    intro k i hd hk hi
    obtain ⟨k, rfl⟩ : ∃ m, k = m + 2 := ⟨k - 2, by omega⟩
    simp only [taquinlaw25_before.l0, taquinlaw25_before.j1]
    rw [if_neg (by omega), List.drop_eq_nil_of_le (by omega), List.drop_eq_nil_of_le (by omega)]; rfl
  | succ d ih =>
    intro k i hd hk hi
    obtain ⟨k, rfl⟩ : ∃ m, k = m + 2 := ⟨k - 2, by omega⟩
    simp only [taquinlaw25_before.l0, taquinlaw25_before.j1]
    rw [if_pos (by omega), if_pos (by simp; omega), if_pos (by omega), if_pos (by omega), if_pos (by omega), rdOf_get, rdOf_get, wrap_in ((i : Int) + 1) (by omega) (by omega), drop_get l1 i (by omega), drop_get l2 i (by omega)]
    have h1 := ih k (i + 1) (by omega) (by omega) (by omega)
    simp only [Int.natCast_add, Int.natCast_one] at h1
    rw [h1]
    cases l1.getD i false <;> cases l2.getD i false <;> simp [lexB]
theorem before_ge (l1 l2 : List Bool) (s t : Nat) (hl : l1.length = l2.length) (h24 : l1.length ≤ 24) (k : Nat) (hk : 60 ≤ k) : taquinlaw25_before.f k l1 s l2 t = some (beforeB l1 s l2 t) := by
  unfold taquinlaw25_before.f beforeB
  by_cases h : s = t
  · rw [if_pos (by omega), if_pos h]
    have := before_l0 l1 l2 s t hl h24 l1.length k 0 (by omega) (by omega) (by omega)
    simpa using this
  · rw [if_neg (by omega), if_neg h]
    congr 1
    simp
theorem small_ge (k : Nat) (hk : 10 ≤ k) : taquinlaw25_small.f k = some true := at_rounds (taquinlaw25_small.mono) hk (by decide +kernel)

theorem ranks_pure (l0 : List Bool) (a0 : Int) (l1 : List Bool) (a1 : Int) (a2 : Int) : ∃ k, taquinlaw25_LayoutRanks.f k l0 a0 l1 a1 a2 = some true := by
  refine ⟨100 + 1 + 1 + 1 + 1 + 1 + 1, ?_⟩
  unfold taquinlaw25_LayoutRanks.f
  rw [small_ge _ (by omega)]
  simp only [Option.bind_some, right_tells]
  have hend : ∀ (k : Nat) (x : Int) (l0 : List Bool) (a0 : Int) (l1 : List Bool) (a1 : Int), taquinlaw25_LayoutRanks.j0 (k + 1) x true true l0 a0 l1 a1 = some true := by
    intro k x l0 a0 l1 a1
    simp only [taquinlaw25_LayoutRanks.j0]; rfl
  by_cases h0 : (l0.length : Int) > 24
  · rw [if_pos h0]; exact hend _ _ _ _ _ _
  rw [if_neg h0]
  by_cases h1 : (l1.length : Int) > 24
  · rw [if_pos h1]; exact hend _ _ _ _ _ _
  rw [if_neg h1]
  by_cases ha : rightL l0 a0
  · rw [decide_eq_true ha, if_pos rfl]
    by_cases hb : rightL l1 a1
    · rw [decide_eq_true hb]
      obtain ⟨s, rfl⟩ : ∃ s : Nat, a0 = s := ⟨a0.toNat, by have := ha.2.2.1; omega⟩
      obtain ⟨t, rfl⟩ : ∃ t : Nat, a1 = t := ⟨a1.toNat, by have := hb.2.2.1; omega⟩
      have hr := rank_in ha
      simp only [taquinlaw25_LayoutRanks.j0, Bool.not_true, Bool.false_eq_true, if_false]
      rw [shelves_ge l0 s (by omega) _ (by omega)]
      simp only [Option.bind_some, layout_Count.f, show layout_Rank.f l0 s = some (rankOf l0 s) from if_pos ha, unrank_rankOf ha]
      rw [if_neg (by omega), if_neg (by omega)]
      simp only [if_true]
      rw [same_ge l0 l0 s s (by omega) _ (by omega)]
      simp only [Option.bind_some, and_self, decide_true, Bool.not_true]
      -- the second half: b against a
      have hsecond : ∀ k, 80 ≤ k → taquinlaw25_LayoutRanks.j4 (k + 1 + 1) true (l0.length : Int) ((l0.count true : Nat) : Int) (rankOf l0 s) l0 s l1 t = some true := by
        intro k hk
        simp only [taquinlaw25_LayoutRanks.j4]
        rw [shelves_ge l1 t (by omega) _ (by omega)]
        simp only [Option.bind_some, taquinlaw25_LayoutRanks.j5, show layout_Rank.f l1 t = some (rankOf l1 t) from if_pos hb]
        by_cases hl : l1.length = l0.length
        · rw [if_pos (by omega)]
          by_cases hc : l1.count true = l0.count true
          · rw [if_neg (by simp [hc])]
            simp only [if_true]
            rw [before_ge l0 l1 s t hl.symm (by omega) _ (by omega), ← rank_before ha hb hl.symm hc.symm]
            simp only [Option.bind_some, beq_self_eq_true, if_true]
            rw [same_ge l0 l1 s t (by omega) _ (by omega)]
            simp only [Option.bind_some]
            congr 1
            rw [beq_iff_eq]
            by_cases he : rankOf l0 s = rankOf l1 t
            · have := rank_inj ha hb hl.symm hc.symm he
              rw [decide_eq_true ⟨this.1, by rw [this.2]⟩, he, beq_self_eq_true]
            · rw [beq_eq_false_iff_ne.2 he]; symm; apply decide_eq_false; rintro ⟨rfl, h5⟩; apply he; rw [h5]
          · rw [if_pos (by simp; omega)]
        · rw [if_neg (by omega)]; simp only [if_true]
      simp only [taquinlaw25_LayoutRanks.j1, Bool.false_eq_true, if_false]
      by_cases hx : 0 ≤ a2 ∧ a2 < cnt l0.length (l0.count true : Nat)
      · obtain ⟨m, u, hu, hru, hul, huc, hur⟩ := unrank_of hx.1 hx.2
        rw [hu]
        simp only [Option.bind_some]
        rw [if_pos (by omega), decide_eq_true hx.2]
        simp only [taquinlaw25_LayoutRanks.j2, bne_self_eq_false, Bool.false_eq_true, if_false, if_true, right_tells, Option.bind_some]
        rw [decide_eq_true hru, if_pos rfl, if_pos (by omega), shelves_ge m u (by omega) _ (by omega)]
        simp only [Option.bind_some, huc, bne_self_eq_false, taquinlaw25_LayoutRanks.j3, Bool.false_eq_true, if_false, show layout_Rank.f m u = some (rankOf m u) from if_pos hru, hur, if_true]
        exact hsecond _ (by omega)
      · have hu : layout_Unrank.f (l0.length : Int) ((l0.count true : Nat) : Int) a2 = some ([], 0, false) := by
          unfold layout_Unrank.f; rw [if_pos (by omega)]
        rw [hu]
        simp only [Option.bind_some]
        by_cases hz : a2 ≥ 0
        · rw [if_pos hz, decide_eq_false (by omega)]
          simp only [taquinlaw25_LayoutRanks.j2, bne_self_eq_false, Bool.false_eq_true, if_false]
          exact hsecond _ (by omega)
        · rw [if_neg hz]
          simp only [taquinlaw25_LayoutRanks.j2, bne_self_eq_false, Bool.false_eq_true, if_false]
          exact hsecond _ (by omega)
    · rw [decide_eq_false hb]; exact hend _ _ _ _ _ _
  · rw [decide_eq_false ha, if_neg (by decide)]; exact hend _ _ _ _ _ _
theorem LayoutRanks (x0 x1 : S24) (a2 : Int) (_ : wf24 x0) (_ : wf24 x1) (_ : wfI .i64 a2) : ∃ k, taquinlaw25_LayoutRanks.f k x0.f0 x0.f1 x1.f0 x1.f1 a2 = some true := ranks_pure _ _ _ _ _
end Go.Proofs.Ytipjlhhgccfmcaa.P
