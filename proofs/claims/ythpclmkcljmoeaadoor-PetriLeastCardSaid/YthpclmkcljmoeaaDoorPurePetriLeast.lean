/- PetriLeast: the minimal siphons are siphons, ascend by their sizes, none lies in another; a set has one within it exactly if its Largest is not empty. -/
import Derived.Test.YthpclmkcljmoeaaDoorGTypes
import Derived.Test.YthpclmkcljmoeaaDoorGLarge
import Derived.Test.YthpclmkcljmoeaaDoorGSmall
import Derived.Test.YthpclmkcljmoeaaDoorPx13
namespace Go.Proofs.YthpclmkcljmoeaaDoor.P
open Go.RowKit Go.Proofs.YthpclmkcljmoeaaDoorW.PrintWords Go.Proofs.YthpclmkcljmoeaaDoorW.PrintLast Go.Proofs.YthpclmkcljmoeaaDoorW.PrintMore
set_option linter.unusedVariables false
set_option linter.unusedSimpArgs false
theorem filter_sub {α : Type} (p q : α → Bool) (h : ∀ x, p x = true → q x = true) : ∀ l : List α, (l.filter p).Sublist (l.filter q)
  | [] => List.Sublist.refl _
  | x :: r => by
    have ih := filter_sub p q h r
    rw [List.filter_cons, List.filter_cons]
    cases hp : p x with
    | true =>
      rw [if_pos rfl, if_pos (h x hp)]
      exact ih.cons_cons _
    | false =>
      rw [if_neg (by simp)]
      split
      · exact ih.cons _
      · exact ih
theorem sub_card {a b : Nat} (h : Sub a b) (hb : b < 2 ^ 64) (hl : (listL b).length ≤ (listL a).length) : a = b := by
  have hs : (listL a).Sublist (listL b) := (filter_sub (fun i => a.testBit i) (fun i => b.testBit i) (fun i hi => h i hi) (List.range 64)).map _
  have e := hs.eq_of_length_le hl
  have ha : a < 2 ^ 64 := Nat.lt_of_le_of_lt h.le hb
  rw [← wordL_listL a ha, ← wordL_listL b hb, e]
theorem map_at (fs : List Nat) (i : Nat) : (fs.map listL).getD i [] = listL (fs.getD i 0) := by
  by_cases h : i < fs.length
  · simp [List.getD_eq_getElem?_getD, h]
  · rw [List.getD_eq_getElem?_getD, List.getD_eq_getElem?_getD, List.getElem?_eq_none (by simp; omega), List.getElem?_eq_none (by omega)]
    exact listL_zero.symm
section
variable {n : Nat} {l : List TransT} {m : List Int}
/-- What is known of the words. -/
structure Least (E : List (Nat × Nat)) (n : Nat) (fs : List Nat) : Prop where
  n8 : n ≤ 8
  lt : ∀ f ∈ fs, f < 2 ^ n
  closed : ∀ f ∈ fs, closedB E f = true
  up : ∀ i j, i < j → j < fs.length → (listL (fs.getD i 0)).length ≤ (listL (fs.getD j 0)).length
  free : ∀ i j, i ≠ j → i < fs.length → j < fs.length → ¬ Sub (fs.getD i 0) (fs.getD j 0)
  len : fs.length ≤ 255
theorem least_of (E : List (Nat × Nat)) (n : Nat) (h8 : n ≤ 8) : Least E n (sipW E n) := by
  have hp := pow_le_256 h8
  have hpair := List.pairwise_iff_getElem.1 (sipW_pair E n)
  have hlt : ∀ f ∈ sipW E n, f < 2 ^ n := fun f hf => (sipW_mem E n f hf).1
  have g : ∀ i, i < (sipW E n).length → ∃ h : i < (sipW E n).length, (sipW E n).getD i 0 = (sipW E n)[i] := fun i hi => ⟨hi, by simp [List.getD_eq_getElem?_getD, hi]⟩
  refine ⟨h8, hlt, fun f hf => (sipW_mem E n f hf).2, fun i j hij hj => ?_, fun i j hij hi hj hs => ?_, ?_⟩
  · obtain ⟨_, e1⟩ := g i (by omega)
    obtain ⟨_, e2⟩ := g j hj
    rw [e1, e2]
    exact (hpair i j (by omega) hj hij).1
  · obtain ⟨_, e1⟩ := g i hi
    obtain ⟨_, e2⟩ := g j hj
    rw [e1, e2] at hs
    rcases Nat.lt_or_ge i j with h | h
    · exact (hpair i j hi hj h).2 hs
    · have hq := hpair j i hj hi (by omega)
      have hb := hlt _ (List.getElem_mem hj)
      have he := sub_card hs (by omega) hq.1
      rw [he] at hq
      exact hq.2 (Sub.refl _)
  · have h1 := sipF_len E (allW n) []
    rw [allW_len] at h1
    simp only [List.length_nil] at h1
    unfold sipW
    omega
theorem least_l1 (h : Fits n l m 8 12) (fs : List Nat) (L : Least (edgesN l false) n fs) (s : List Int) (hs : isSetB n s = true) (hsl : s.length ≤ 64) (i : Nat) (hi : i < fs.length) (b v : Bool)
    (hnext : Ev (fun k => taquinlaw18_PetriLeast.l0 k true (fs.map listL) s (b || (listL (fs.getD i 0)).all (fun p => decide (p ∈ s))) ((i + 1 : Nat) : Int) (n : Int) l) v) (d : Nat) : ∀ j : Nat, fs.length - j = d → j ≤ fs.length →
    Ev (fun k => taquinlaw18_PetriLeast.l1 k true (fs.map listL) s b (i : Int) (j : Int) (n : Int) l) v := by
  have hl := L.len
  have hlen : (fs.map listL).length = fs.length := by simp
  have hrd : ∀ x : Nat, rd_L1 (fs.map listL) (x : Int) = listL (fs.getD x 0) := fun x => by rw [← map_at]; simp [rd_L1]
  have hw : wrap64 ((i : Int) + 1) = ((i + 1 : Nat) : Int) := by rw [w64 (by omega) (by omega)]; omega
  have h64 : ∀ f ∈ fs, f < 2 ^ 64 := fun f hf => by have := L.lt f hf; have := pow_le_256 L.n8; omega
  induction d with
  | zero =>
    intro j hd hj
    refine .s ?_
    simp only [taquinlaw18_PetriLeast.l1, hrd, hw]
    refine .n (by omega) ?_
    cases b with
    | true => exact .p (by trivial) (by simpa using hnext)
    | false =>
      refine .n (by simp) (.p (by omega) (.p (by omega) (.b (within_ev _ s (by have := listL_len (fs.getD i 0); omega) (by omega)) ?_)))
      simpa using hnext
  | succ d ih =>
    intro j hd hj
    have hjl : j < fs.length := by omega
    have hn := ih (j + 1) (by omega) (by omega)
    have hw2 : wrap64 ((j : Int) + 1) = ((j + 1 : Nat) : Int) := by rw [w64 (by omega) (by omega)]; omega
    refine .s ?_
    simp only [taquinlaw18_PetriLeast.l1, hrd, hw2]
    refine .p (by omega) ?_
    by_cases e : (j : Int) = (i : Int)
    · exact .p e hn
    · refine .n e (.p (by omega) (.p (by omega) (.p (by omega) (.b (within_ev _ _ (by have := listL_len (fs.getD j 0); omega) (by have := listL_len (fs.getD i 0); omega)) ?_))))
      have hf : (listL (fs.getD j 0)).all (fun p => decide (p ∈ listL (fs.getD i 0))) = false := by
        rw [Bool.eq_false_iff]
        intro ht
        have := (all_word _ _ (h64 _ (getD_mem fs j 0 hjl)) (listL_pos _)).1 ht
        rw [wordL_listL _ (h64 _ (getD_mem fs i 0 hi))] at this
        exact L.free j i (by omega) hjl hi this
      rw [hf]
      exact .n (by simp) hn
theorem least_l0 (h : Fits n l m 8 12) (fs : List Nat) (L : Least (edgesN l false) n fs) (hall : ∀ w, w < 2 ^ n → closedB (edgesN l false) w = true → ∃ f ∈ fs, Sub f w) (s : List Int) (hs : isSetB n s = true) (hsl : s.length ≤ 64) (d : Nat) : ∀ (i : Nat) (b : Bool), fs.length - i = d → i ≤ fs.length → (b = true ↔ ∃ j, j < i ∧ Sub (fs.getD j 0) (wordL s)) →
    Ev (fun k => taquinlaw18_PetriLeast.l0 k true (fs.map listL) s b (i : Int) (n : Int) l) true := by
  have hl := L.len
  have hlen : (fs.map listL).length = fs.length := by simp
  have hrd : ∀ x : Nat, rd_L1 (fs.map listL) (x : Int) = listL (fs.getD x 0) := fun x => by rw [← map_at]; simp [rd_L1]
  have h64 : ∀ f ∈ fs, f < 2 ^ 64 := fun f hf => by have := L.lt f hf; have := pow_le_256 L.n8; omega
  have hsm : ∀ p ∈ s, 0 ≤ p ∧ p < (n : Int) := fun p hp => isSet_mem hs hp
  have hws : wordL s < 2 ^ n := word_lt hsm
  induction d with
  | zero =>
    intro i b hd hi hb
    obtain rfl : i = fs.length := by omega
    refine .s ?_
    simp only [taquinlaw18_PetriLeast.l0]
    refine .n (by omega) (.p (by trivial) (.b (largest_ev h (by omega) false s hs (by omega)) ((Ev.r _).congr ?_)))
    have hends := lgW_ends (edgesN l false) (wordL s) (wordL s) (Nat.le_refl _)
    have hsub := lgW_sub (edgesN l false) (wordL s) (wordL s)
    change lg _ _ = 0 ∨ _ at hends
    change Sub (lg _ _) _ at hsub
    have hlt : lg (edgesN l false) (wordL s) < 2 ^ n := Nat.lt_of_le_of_lt hsub.le hws
    have hp := pow_le_256 L.n8
    have key : b = true ↔ lg (edgesN l false) (wordL s) ≠ 0 := by
      rw [hb]
      constructor
      · rintro ⟨j, hj, hsj⟩ h0
        have hc := (closedB_iff _ _).1 (L.closed _ (getD_mem fs j 0 hj))
        have := lgW_keeps (edgesN l false) _ hc.2 (wordL s) (wordL s) hsj
        change Sub _ (lg _ _) at this
        rw [h0] at this
        have := this.le
        exact hc.1 (by omega)
      · intro h0
        have hc : closedB (edgesN l false) (lg (edgesN l false) (wordL s)) = true := by
          rcases hends with h1 | h1
          · exact absurd h1 h0
          · exact h1
        obtain ⟨f, hf, hfs⟩ := hall _ hlt hc
        obtain ⟨j, hj, rfl⟩ := List.mem_iff_getElem.1 hf
        exact ⟨j, hj, by
          have e : fs.getD j 0 = fs[j] := by simp [List.getD_eq_getElem?_getD, hj]
          rw [e]; exact hfs.trans hsub⟩
    have hnil := listL_nil (lg (edgesN l false) (wordL s)) (by omega)
    by_cases h0 : lg (edgesN l false) (wordL s) = 0
    · have hbf : b = false := by
        rw [Bool.eq_false_iff]; exact fun hb2 => key.1 hb2 h0
      rw [hbf, h0, listL_zero]
      rfl
    · rw [key.2 h0]
      have : listL (lg (edgesN l false) (wordL s)) ≠ [] := fun he => h0 (hnil.1 he)
      have hpos := List.length_pos_iff.2 this
      rw [decide_eq_true (show ((listL (lg (edgesN l false) (wordL s))).length : Int) > 0 by omega)]
      rfl
  | succ d ih =>
    intro i b hd hi hb
    have hil : i < fs.length := by omega
    have hmem := getD_mem fs i 0 hil
    have hlti := L.lt _ hmem
    have e1 : fs.length - (i + 1) = d := by clear hb; omega
    have e2 : i + 1 ≤ fs.length := by clear hb; omega
    have hnext : Ev (fun k => taquinlaw18_PetriLeast.l0 k true (fs.map listL) s (b || (listL (fs.getD i 0)).all (fun p => decide (p ∈ s))) ((i + 1 : Nat) : Int) (n : Int) l) true := by
      refine ih (i + 1) (b || (listL (fs.getD i 0)).all (fun p => decide (p ∈ s))) e1 e2 ?_
      rw [Bool.or_eq_true, hb, all_word _ s (h64 _ hmem) (fun p hp => (hsm p hp).1)]
      constructor
      · rintro (⟨j, hj, h2⟩ | h2)
        · exact ⟨j, by omega, h2⟩
        · exact ⟨i, by omega, h2⟩
      · rintro ⟨j, hj, h2⟩
        by_cases e : j = i
        · subst e; exact .inr h2
        · exact .inl ⟨j, by omega, h2⟩
    have hl1 := least_l1 h fs L s hs hsl i hil b true hnext fs.length 0 (by omega) (by omega)
    have hj1 : Ev (fun k => taquinlaw18_PetriLeast.j1 k true (fs.map listL) s b (i : Int) false (n : Int) l) true := by
      refine .s ?_
      simp only [taquinlaw18_PetriLeast.j1]
      exact .n (by simp) hl1
    have hsip := isSiphon_ev h (by omega) (listL (fs.getD i 0)) (set_word h.p64 hlti) (by have := listL_len (fs.getD i 0); omega)
    rw [wordL_listL _ (h64 _ hmem), L.closed _ hmem] at hsip
    refine .s ?_
    simp only [taquinlaw18_PetriLeast.l0, hrd]
    refine .p (by omega) (.p (by omega) (.b hsip (.p (by trivial) ?_)))
    by_cases h0 : (i : Int) > 0
    · have e : mx (wrap64 ((i : Int) - 1)) 0 = ((i - 1 : Nat) : Int) := by
        rw [w64 (by omega) (by omega)]
        unfold mx
        split <;> omega
      rw [e, hrd]
      refine .p h0 (.p (by omega) (.p (by omega) ?_))
      have hup := L.up (i - 1) i (by omega) hil
      rw [decide_eq_false (show ¬ ((listL (fs.getD (i - 1) 0)).length : Int) > ((listL (fs.getD i 0)).length : Int) by omega)]
      exact hj1
    · exact .n h0 hj1
end
theorem PetriLeast (x0 : S24) (a1 : Int) (wf0 : wf24 x0) (w1 : wfI .i64 a1) : ∃ k, taquinlaw18_PetriLeast.f k x0.f0 x0.f1 a1 = some true := by
  obtain ⟨P, l⟩ := x0
  simp only
  have hl : l.length ≤ 9223372036854775807 := wf0.2.2
  refine Ev.ex (f := fun k => taquinlaw18_PetriLeast.f k P l a1) ?_
  simp only [taquinlaw18_PetriLeast.f]
  have hmx : 0 ≤ mx 0 (mn P 64) ∧ mx 0 (mn P 64) ≤ 64 := by
    unfold mx mn
    split <;> split <;> omega
  obtain ⟨r, hr, hh⟩ := fits_ev P l (List.replicate (mx 0 (mn P 64)).toNat 0) 8 12 hl
  refine .b small_ev (.p hmx.1 (.p (by omega) (.b hr ?_)))
  cases r with
  | false => exact .n (by simp) (.r _)
  | true =>
    obtain ⟨n, rfl, hF⟩ := hh rfl
    have hn8 : n ≤ 8 := by have := hF.places; omega
    refine .p (by trivial) (.b (.c (siphons_eq hF hn8 (by omega))) (.p rfl ?_))
    obtain ⟨s, hs, hset, hsl⟩ := pick_ev a1 n hF.p64
    refine .b hs ?_
    exact least_l0 hF _ (least_of _ n hn8) (fun w hw hc => sipW_all _ n w hw hc) s hset hsl _ 0 false rfl (by omega) ⟨fun h => (by cases h), fun ⟨j, hj, _⟩ => by omega⟩
end Go.Proofs.YthpclmkcljmoeaaDoor.P
