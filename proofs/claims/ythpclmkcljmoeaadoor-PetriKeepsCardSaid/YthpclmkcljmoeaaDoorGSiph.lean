/- The minimal closed sets: all words, sorted by their number of places and then by these; taken if closed and no taken one lies within. Plain arithmetic, no program. -/
import Derived.Test.YthpclmkcljmoeaaDoorGBits
namespace Go.Proofs.YthpclmkcljmoeaaDoor.P
set_option linter.unusedVariables false
set_option linter.unusedSimpArgs false
/-! ### Two lists of numbers compared -/
def lexC : List Int → List Int → Int
  | [], [] => 0
  | [], _ :: _ => -1
  | _ :: _, [] => 1
  | x :: xs, y :: ys => if x < y then -1 else if x > y then 1 else lexC xs ys
theorem lexC_self : ∀ x, lexC x x = 0
  | [] => rfl
  | x :: xs => by simp [lexC, lexC_self xs]
theorem lexC_swap : ∀ x y, lexC y x = - lexC x y
  | [], [] => rfl
  | [], _ :: _ => rfl
  | _ :: _, [] => rfl
  | x :: xs, y :: ys => by
    by_cases h1 : x < y
    · have h3 : ¬ y < x := by omega
      simp [lexC, h1, h3]
    · by_cases h2 : y < x
      · simp [lexC, h1, h2]
      · simp [lexC, h1, h2, lexC_swap xs ys]
theorem lexC_eq : ∀ x y, lexC x y = 0 → x = y
  | [], [], _ => rfl
  | [], _ :: _, h => by simp [lexC] at h
  | _ :: _, [], h => by simp [lexC] at h
  | x :: xs, y :: ys, h => by
    unfold lexC at h
    by_cases h1 : x < y
    · rw [if_pos h1] at h; simp at h
    · by_cases h2 : x > y
      · rw [if_neg h1, if_pos h2] at h; simp at h
      · rw [if_neg h1, if_neg h2] at h
        rw [lexC_eq xs ys h, show x = y by omega]
theorem lexC_le : ∀ x y z, lexC x y ≤ 0 → lexC y z ≤ 0 → lexC x z ≤ 0
  | [], y, [], _, _ => by simp [lexC]
  | [], y, _ :: _, _, _ => by simp [lexC]
  | _ :: _, [], z, h, _ => by simp [lexC] at h
  | _ :: _, _ :: _, [], _, h => by simp [lexC] at h
  | x :: xs, y :: ys, z :: zs, h1, h2 => by
    unfold lexC at h1 h2 ⊢
    by_cases a : x < z
    · rw [if_pos a]; omega
    · by_cases b : x > z
      · exfalso
        by_cases c : x < y
        · rw [if_neg (show ¬ y < z by omega), if_pos (show y > z by omega)] at h2; omega
        · by_cases d : x > y
          · rw [if_neg c, if_pos d] at h1; omega
          · rw [if_neg (show ¬ y < z by omega), if_pos (show y > z by omega)] at h2; omega
      · rw [if_neg a, if_neg b]
        by_cases c : x < y
        · rw [if_neg (show ¬ y < z by omega), if_pos (show y > z by omega)] at h2; omega
        · by_cases d : x > y
          · rw [if_neg c, if_pos d] at h1; omega
          · rw [if_neg c, if_neg d] at h1
            rw [if_neg (by omega), if_neg (by omega)] at h2
            exact lexC_le xs ys zs h1 h2
theorem lexC_lt (x y z : List Int) (h1 : lexC x y < 0) (h2 : lexC y z < 0) : lexC x z < 0 := by
  have h3 := lexC_le x y z (by omega) (by omega)
  by_cases h4 : lexC x z = 0
  · have e := lexC_eq x z h4
    subst e
    have := lexC_swap x y
    omega
  · omega
/-! ### The order of words -/
/-- How the words are compared: by their numbers of places, then by the places. -/
def keyW (w : Nat) : List Int := ((listL w).length : Int) :: listL w
def cmpW (a b : Nat) : Int := lexC (keyW a) (keyW b)
theorem cmpW_eq {a b : Nat} (ha : a < 2 ^ 64) (hb : b < 2 ^ 64) (h : cmpW a b = 0) : a = b := by
  have := lexC_eq _ _ h
  simp only [keyW, List.cons.injEq] at this
  rw [← wordL_listL a ha, ← wordL_listL b hb, this.2]
/-- Sorting by insertion. -/
def insW (x : Nat) : List Nat → List Nat
  | [] => [x]
  | y :: r => if cmpW x y < 0 then x :: y :: r else y :: insW x r
def sortW : List Nat → List Nat
  | [] => []
  | x :: r => insW x (sortW r)
theorem insW_perm (x : Nat) : ∀ l, (insW x l).Perm (x :: l)
  | [] => List.Perm.refl _
  | y :: r => by
    unfold insW
    split
    · exact List.Perm.refl _
    · exact ((insW_perm x r).cons y).trans (List.Perm.swap x y r)
theorem sortW_perm : ∀ l, (sortW l).Perm l
  | [] => List.Perm.refl _
  | x :: r => (insW_perm x _).trans ((sortW_perm r).cons x)
theorem insW_sorted (x : Nat) : ∀ l, l.Pairwise (fun a b => cmpW a b ≤ 0) → (insW x l).Pairwise (fun a b => cmpW a b ≤ 0)
  | [], _ => by simp [insW]
  | y :: r, h => by
    have h' := List.pairwise_cons.1 h
    unfold insW
    split
    · rename_i hxy
      refine List.pairwise_cons.2 ⟨fun z hz => ?_, h⟩
      rcases List.mem_cons.1 hz with rfl | hz
      · omega
      · exact lexC_le _ _ _ (by unfold cmpW at hxy; omega) (h'.1 z hz)
    · rename_i hxy
      refine List.pairwise_cons.2 ⟨fun z hz => ?_, insW_sorted x r h'.2⟩
      rcases List.mem_cons.1 ((insW_perm x r).mem_iff.1 hz) with rfl | hz
      · have := lexC_swap (keyW z) (keyW y)
        unfold cmpW at hxy ⊢
        omega
      · exact h'.1 z hz
theorem sortW_sorted : ∀ l, (sortW l).Pairwise (fun a b => cmpW a b ≤ 0)
  | [] => List.Pairwise.nil
  | x :: r => insW_sorted x _ (sortW_sorted r)
/-- Two sorted lists of the same words are one. -/
theorem sorted_one : ∀ (l m : List Nat), (∀ x ∈ l, x < 2 ^ 64) → l.Perm m → l.Pairwise (fun a b => cmpW a b ≤ 0) → m.Pairwise (fun a b => cmpW a b ≤ 0) → l = m
  | [], m, _, hp, _, _ => by rw [List.nil_perm.1 hp]
  | x :: l, [], _, hp, _, _ => by simp at hp
  | x :: l, y :: m, hb, hp, h1, h2 => by
    have h1' := List.pairwise_cons.1 h1
    have h2' := List.pairwise_cons.1 h2
    have hx : x ∈ y :: m := hp.mem_iff.1 (by simp)
    have hy : y ∈ x :: l := hp.mem_iff.2 (by simp)
    have e : x = y := by
      rcases List.mem_cons.1 hx with e | hx
      · exact e
      · rcases List.mem_cons.1 hy with e | hy
        · exact e.symm
        · have a := h1'.1 y hy
          have b := h2'.1 x hx
          have c := lexC_swap (keyW x) (keyW y)
          exact cmpW_eq (hb x (by simp)) (hb y (by simp [hy])) (by unfold cmpW at *; omega)
    subst e
    rw [sorted_one l m (fun z hz => hb z (by simp [hz])) hp.cons_inv h1'.2 h2'.2]
/-- All words of n places, sorted. -/
def allW (n : Nat) : List Nat := sortW (List.range' 1 (2 ^ n - 1))
theorem allW_mem (n w : Nat) : w ∈ allW n ↔ 1 ≤ w ∧ w < 2 ^ n := by
  unfold allW
  rw [(sortW_perm _).mem_iff, List.mem_range'_1]
  have := Nat.two_pow_pos n
  omega
theorem allW_len (n : Nat) : (allW n).length = 2 ^ n - 1 := by
  unfold allW
  rw [(sortW_perm _).length_eq, List.length_range']
/-! ### The minimal closed words -/
def sipF (l : List (Nat × Nat)) : List Nat → List Nat → List Nat
  | found, [] => found
  | found, w :: r => if found.any (fun f => decide (without f w = 0)) || !closedB l w then sipF l found r else sipF l (found ++ [w]) r
def sipW (l : List (Nat × Nat)) (n : Nat) : List Nat := sipF l [] (allW n)
theorem without_zero (f w : Nat) : without f w = 0 ↔ Sub f w := by
  constructor
  · intro h i hi
    have := congrArg (fun x => x.testBit i) h
    simp only [without_bit, Nat.zero_testBit, hi, Bool.true_and, Bool.not_eq_false'] at this
    exact this
  · intro h
    apply Nat.eq_of_testBit_eq
    intro i
    rw [without_bit, Nat.zero_testBit]
    have := h i
    cases h1 : f.testBit i <;> simp_all
theorem sipF_len (l : List (Nat × Nat)) : ∀ (ws found : List Nat), (sipF l found ws).length ≤ found.length + ws.length
  | [], found => by simp [sipF]
  | w :: r, found => by
    unfold sipF
    split
    · have := sipF_len l r found; simp only [List.length_cons]; omega
    · have := sipF_len l r (found ++ [w]); simp only [List.length_cons, List.length_append, List.length_nil] at *; omega
theorem sipF_from (l : List (Nat × Nat)) : ∀ (ws found : List Nat), ∃ t, sipF l found ws = found ++ t ∧ t.Sublist ws ∧ ∀ f ∈ t, closedB l f = true
  | [], found => ⟨[], by simp [sipF], List.Sublist.refl _, by simp⟩
  | w :: r, found => by
    unfold sipF
    split
    · obtain ⟨t, h1, h2, h3⟩ := sipF_from l r found
      exact ⟨t, h1, h2.cons _, h3⟩
    · rename_i hc
      obtain ⟨t, h1, h2, h3⟩ := sipF_from l r (found ++ [w])
      refine ⟨w :: t, by rw [h1]; simp, h2.cons_cons _, fun f hf => ?_⟩
      rcases List.mem_cons.1 hf with rfl | hf
      · simp only [Bool.or_eq_true, Bool.not_eq_true', not_or, Bool.not_eq_false] at hc
        exact hc.2
      · exact h3 f hf
theorem sipF_keeps (l : List (Nat × Nat)) (ws found : List Nat) (f : Nat) (h : f ∈ found) : f ∈ sipF l found ws := by
  obtain ⟨t, h1, _⟩ := sipF_from l ws found
  rw [h1]; simp [h]
theorem sipF_all (l : List (Nat × Nat)) : ∀ (ws found : List Nat) (w : Nat), w ∈ ws → closedB l w = true → ∃ f ∈ sipF l found ws, Sub f w
  | [], found, w, h, _ => by cases h
  | x :: r, found, w, h, hc => by
    unfold sipF
    rcases List.mem_cons.1 h with rfl | h
    · rw [hc]
      cases hf : found.any (fun f => decide (without f w = 0)) with
      | true =>
        obtain ⟨f, hm, hz⟩ := List.any_eq_true.1 hf
        simp only [decide_eq_true_eq] at hz
        exact ⟨f, sipF_keeps l r found f hm, (without_zero f w).1 hz⟩
      | false => exact ⟨w, sipF_keeps l r _ w (by simp), Sub.refl w⟩
    · split
      · exact sipF_all l r found w h hc
      · exact sipF_all l r _ w h hc
theorem sipF_free (l : List (Nat × Nat)) : ∀ (ws found : List Nat), found.Pairwise (fun a b => ¬ Sub a b) → (sipF l found ws).Pairwise (fun a b => ¬ Sub a b)
  | [], found, h => h
  | w :: r, found, h => by
    unfold sipF
    split
    · exact sipF_free l r found h
    · rename_i hc
      simp only [Bool.or_eq_true, Bool.not_eq_true', not_or, Bool.not_eq_false] at hc
      have hn := hc.1
      rw [Bool.not_eq_true, List.any_eq_false] at hn
      refine sipF_free l r _ (List.pairwise_append.2 ⟨h, by simp, fun a ha b hb => ?_⟩)
      simp only [List.mem_singleton] at hb
      subst hb
      have := hn a ha
      simp only [decide_eq_true_eq] at this
      exact fun hs => this ((without_zero a b).2 hs)
theorem sipW_mem (l : List (Nat × Nat)) (n f : Nat) (h : f ∈ sipW l n) : f < 2 ^ n ∧ closedB l f = true := by
  obtain ⟨t, h1, h2, h3⟩ := sipF_from l (allW n) []
  unfold sipW at h
  rw [h1, List.nil_append] at h
  exact ⟨((allW_mem n f).1 (h2.subset h)).2, h3 f h⟩
theorem sipW_all (l : List (Nat × Nat)) (n w : Nat) (hw : w < 2 ^ n) (hc : closedB l w = true) : ∃ f ∈ sipW l n, Sub f w := by
  have h0 : w ≠ 0 := ((closedB_iff l w).1 hc).1
  exact sipF_all l _ [] w ((allW_mem n w).2 ⟨by omega, hw⟩) hc
/-- The sizes ascend, and none lies in a later one. -/
theorem sipW_pair (l : List (Nat × Nat)) (n : Nat) : (sipW l n).Pairwise (fun a b => (listL a).length ≤ (listL b).length ∧ ¬ Sub a b) := by
  obtain ⟨t, h1, h2, h3⟩ := sipF_from l (allW n) []
  have hs : (sipW l n).Pairwise (fun a b => cmpW a b ≤ 0) := by
    unfold sipW
    rw [h1, List.nil_append]
    exact List.Pairwise.sublist h2 (sortW_sorted _)
  have hf := sipF_free l (allW n) [] List.Pairwise.nil
  refine (hs.and hf).imp (fun {a b} h => ⟨?_, h.2⟩)
  have := h.1
  unfold cmpW keyW lexC at this
  by_cases h4 : ((listL a).length : Int) < ((listL b).length : Int)
  · omega
  · by_cases h5 : ((listL a).length : Int) > ((listL b).length : Int)
    · rw [if_neg h4, if_pos h5] at this; omega
    · omega
end Go.Proofs.YthpclmkcljmoeaaDoor.P
