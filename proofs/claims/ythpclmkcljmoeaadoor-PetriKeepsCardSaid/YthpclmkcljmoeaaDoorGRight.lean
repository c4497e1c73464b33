/- petri.Right: what a right net is. -/
import Derived.Test.YthpclmkcljmoeaaDoorGGiv
import Derived.Test.YthpclmkcljmoeaaDoorGEv
import Derived.Test.YthpclmkcljmoeaaDoorPx4
namespace Go.Proofs.YthpclmkcljmoeaaDoor.P
open Go.RowKit Go.Proofs.YthpclmkcljmoeaaDoorW.PrintWords Go.Proofs.YthpclmkcljmoeaaDoorW.PrintLast Go.Proofs.YthpclmkcljmoeaaDoorW.PrintMore
set_option linter.unusedVariables false
set_option linter.unusedSimpArgs false
theorem rdI (l : List Int) (j : Nat) : rd l (j : Int) = l.getD j 0 := by simp [rd]
/-- Is a list a set of places. -/
def setAt (P : Int) (s : List Int) (i : Nat) : Bool := decide (0 ≤ s.getD i 0) && decide (s.getD i 0 < P) && (i == 0 || decide (s.getD (i - 1) 0 < s.getD i 0))
def isSetB (P : Int) (s : List Int) : Bool := (List.range s.length).all (setAt P s)
theorem isSet_l0 (P : Int) (s : List Int) (hl : s.length ≤ 1000000) (d : Nat) : ∀ i : Nat, s.length - i = d → i ≤ s.length → (∀ j, j < i → setAt P s j = true) →
    Ev (fun k => petri_isSet.l0 k P s s (s.length : Int) (i : Int)) (isSetB P s) := by
  induction d with
  | zero =>
    intro i hd hi ha
    have : isSetB P s = true := List.all_eq_true.2 (fun j hj => ha j (by have := List.mem_range.1 hj; omega))
    rw [this]
    refine .s ?_
    simp only [petri_isSet.l0]
    exact .n (by omega) (.r _)
  | succ d ih =>
    intro i hd hi ha
    have hil : i < s.length := by omega
    cases hq : setAt P s i with
    | true =>
      have hnext := ih (i + 1) (by omega) (by omega) (fun j hj => by
        by_cases e : j = i
        · rw [e]; exact hq
        · exact ha j (by omega))
      have hq' := hq
      simp only [setAt, Bool.and_eq_true, Bool.or_eq_true, decide_eq_true_eq, beq_iff_eq] at hq'
      have hj1 : Ev (fun k => petri_isSet.j1 k P s s (s.length : Int) (i : Int) false) (isSetB P s) := by
        refine .s ?_
        simp only [petri_isSet.j1]
        refine .n (by simp) ?_
        rw [w64 (by omega) (by omega)]
        exact hnext
      refine .s ?_
      simp only [petri_isSet.l0, rdI]
      refine .p (by omega) (.p (by omega) (.p (by omega) (.n (by omega) (.n (by omega) ?_))))
      by_cases h0 : (i : Int) > 0
      · have e : ((i : Int) - 1) = ((i - 1 : Nat) : Int) := by omega
        refine .p h0 ?_
        rw [w64 (by omega) (by omega), e]
        refine .p (by omega) (.p (by omega) ?_)
        rw [rdI, show decide (s.getD (i - 1) 0 ≥ s.getD i 0) = false by simp only [decide_eq_false_iff_not]; omega]
        exact hj1
      · exact .n h0 hj1
    | false =>
      have hf : isSetB P s = false := by
        rw [Bool.eq_false_iff]
        intro h
        have := List.all_eq_true.1 h i (List.mem_range.2 hil)
        rw [hq] at this; cases this
      rw [hf]
      have hj1 : Ev (fun k => petri_isSet.j1 k P s s (s.length : Int) (i : Int) true) false := by
        refine .s ?_
        simp only [petri_isSet.j1]
        exact .p (by trivial) (.r _)
      refine .s ?_
      simp only [petri_isSet.l0, rdI]
      refine .p (by omega) (.p (by omega) (.p (by omega) ?_))
      by_cases h0 : s.getD i 0 < 0
      · exact .p h0 hj1
      · refine .n h0 ?_
        by_cases h1 : s.getD i 0 ≥ P
        · exact .p h1 hj1
        · refine .n h1 ?_
          have h2 : ¬ i = 0 ∧ ¬ s.getD (i - 1) 0 < s.getD i 0 := by
            simp only [setAt, Bool.and_eq_false_iff, Bool.or_eq_false_iff, decide_eq_false_iff_not, beq_eq_false_iff_ne, ne_eq] at hq
            rcases hq with (hq | hq) | hq
            · omega
            · omega
            · exact hq
          have e : ((i : Int) - 1) = ((i - 1 : Nat) : Int) := by omega
          refine .p (by omega) ?_
          rw [w64 (by omega) (by omega), e]
          refine .p (by omega) (.p (by omega) ?_)
          rw [rdI, show decide (s.getD (i - 1) 0 ≥ s.getD i 0) = true by simp only [decide_eq_true_eq]; omega]
          exact hj1
theorem isSet_ev (P : Int) (s : List Int) (hl : s.length ≤ 1000000) : Ev (fun k => petri_isSet.f k P s) (isSetB P s) := by
  have := isSet_l0 P s hl s.length 0 (by omega) (by omega) (fun j hj => by omega)
  simpa [petri_isSet.f] using this
theorem isSet_mem {P : Int} {s : List Int} (h : isSetB P s = true) {p : Int} (hp : p ∈ s) : 0 ≤ p ∧ p < P := by
  obtain ⟨i, hi, rfl⟩ := List.mem_iff_getElem.1 hp
  have := List.all_eq_true.1 h i (List.mem_range.2 hi)
  simp only [setAt, Bool.and_eq_true, decide_eq_true_eq] at this
  simpa [List.getD_eq_getElem?_getD, hi] using this.1
def badT (P : Int) (t : S29) : Bool := !isSetB P t.f0 || !isSetB P t.f1
set_option maxHeartbeats 1000000 in
theorem rightTest (q : Nat) (P : Int) (v : Value) (W : World) (x : S29) (B0 : Option Addr) (d0 : Nat) (B1 : Option Addr) (d1 : Nat) (hq : W.cell? ⟨q, 0, none⟩ = some (.int .i64 P)) (hl0 : x.f0.length ≤ 1000000) (hl1 : x.f1.length ≤ 1000000)
    (m0 : x.f0.length ≤ d0) (g0 : Kd.C (Kd.int .i64) W B0 x.f0.length x.f0) (m1 : x.f1.length ≤ d1) (g1 : Kd.C (Kd.int .i64) W B1 x.f1.length x.f1) :
    Calls Tryd.prog 44 #[.agg #[.slice B0 x.f0.length d0, .slice B1 x.f1.length d1], .pointer (some ⟨q, 0, none⟩)] W fun e w' => e = .returned (.bool (badT P x)) ∧ Below W.heap.size W w' := by
  have hql := cell_ltG hq
  simp only at hql
  have hne : ¬ q = W.heap.size := by omega
  obtain ⟨K0, h0⟩ := isSet_ev P x.f0 hl0
  obtain ⟨K1, h1⟩ := isSet_ev P x.f1 hl1
  have S0 : ∀ W1, Below W.heap.size W W1 → Calls Tryd.prog 38 #[.int .i64 P, .slice B0 x.f0.length d0] W1 fun e w' => e = .returned (.bool (isSetB P x.f0)) ∧ Drawn0 W1 w' := fun W1 hb => petri_isSet.calls K0 P B0 d0 x.f0 _ W1 (Kd.C_below g0 hb) m0 (h0 K0 (Nat.le_refl _))
  have S1 : ∀ W1, Below W.heap.size W W1 → Calls Tryd.prog 38 #[.int .i64 P, .slice B1 x.f1.length d1] W1 fun e w' => e = .returned (.bool (isSetB P x.f1)) ∧ Drawn0 W1 w' := fun W1 hb => petri_isSet.calls K1 P B1 d1 x.f1 _ W1 (Kd.C_below g1 hb) m1 (h1 K1 (Nat.le_refl _))
  have hqa := (World.cell?_alloc_old W (.cells #[.slice B0 x.f0.length d0, .slice B1 x.f1.length d1] 29) ⟨q, 0, none⟩ hne).trans hq
  have HS0 := Lib.hid (S0 _ (below_alloc (Below.refl _ _) (.cells #[.slice B0 x.f0.length d0, .slice B1 x.f1.length d1] 29)))
  have HS1 := Lib.hid (fun n => S1 _ (pw_below_drewN (below_alloc (Below.refl _ _) (.cells #[.slice B0 x.f0.length d0, .slice B1 x.f1.length d1] 29)) n))
  unfold badT
  clear S0 S1 h0 h1 g0 g1 m0 m1 hq hql hl0 hl1
  cases hb0 : isSetB P x.f0 with
  | true =>
    rw [hb0] at HS0
    clear hb0
    generalize isSetB P x.f1 = b at *
    go_enter Tryd.func44, Tryd.ntmps44
    go_wp2_with (first | (go_at_call 38; with_reducible refine HS0.out.mono ?_; rintro e w1 ⟨rfl, ⟨n1, rfl⟩⟩) | (go_at_call 38; with_reducible refine (HS1.out _).mono ?_; rintro e w1 ⟨rfl, ⟨n2, rfl⟩⟩))
    go_ret
    exact ⟨by simp, by first | exact pw_below_drewN (pw_below_drewN (below_alloc (Below.refl _ _) _) _) _ | exact pw_below_drewN (below_alloc (Below.refl _ _) _) _⟩
  | false =>
    rw [hb0] at HS0
    clear hb0 HS1
    go_enter Tryd.func44, Tryd.ntmps44
    go_wp2_with (go_at_call 38; with_reducible refine HS0.out.mono ?_; rintro e w1 ⟨rfl, ⟨n1, rfl⟩⟩)
    go_ret
    exact ⟨by simp, pw_below_drewN (below_alloc (Below.refl _ _) _) _⟩
def petri_Right.f (a0_0 : Int) (l0_1 : List S29) : Option (Bool) :=
  if a0_0 < 0 ∨ a0_0 > 64 ∨ l0_1.length > 5000 then some false
  else if l0_1.all (fun t => decide (t.f0.length ≤ 1000000) && decide (t.f1.length ≤ 1000000)) = true then some (!l0_1.any (badT a0_0)) else none
set_option maxHeartbeats 2000000 in
theorem petri_Right.calls (a0_0 : Int) (A0_1 : Option Addr) (c0_1 : Nat) (l0_1 : List S29) (r : Bool) (w : World) (hr0_1 : Kd.C k29 w A0_1 l0_1.length l0_1) (hc0_1 : l0_1.length ≤ c0_1) (h : petri_Right.f a0_0 l0_1 = some r) :
    Calls Tryd.prog 24 #[.agg #[.int .i64 a0_0, .slice A0_1 l0_1.length c0_1]] w fun e w' => e = .returned (.bool r) ∧ Below w.heap.size w w' := by
  unfold petri_Right.f at h
  by_cases h0 : a0_0 < 0
  · rw [if_pos (.inl h0)] at h
    obtain rfl := Option.some.inj h
    clear h hr0_1 hc0_1
    go_enter Tryd.func24, Tryd.ntmps24
    go_wp2
    go_ret
    exact ⟨rfl, below_alloc (Below.refl _ _) _⟩
  · by_cases h1 : a0_0 > 64
    · rw [if_pos (.inr (.inl h1))] at h
      obtain rfl := Option.some.inj h
      clear h hr0_1 hc0_1
      go_enter Tryd.func24, Tryd.ntmps24
      go_wp2
      go_ret
      exact ⟨rfl, below_alloc (Below.refl _ _) _⟩
    · by_cases h2 : l0_1.length > 5000
      · rw [if_pos (.inr (.inr h2))] at h
        obtain rfl := Option.some.inj h
        have h2z : (l0_1.length : Int) > 5000 := by omega
        clear h hr0_1 hc0_1
        go_enter Tryd.func24, Tryd.ntmps24
        go_wp2
        go_ret
        exact ⟨rfl, below_alloc (Below.refl _ _) _⟩
      · rw [if_neg (by omega)] at h
        have h2z : ¬ (l0_1.length : Int) > 5000 := by omega
        by_cases hall : l0_1.all (fun t => decide (t.f0.length ≤ 1000000) && decide (t.f1.length ≤ 1000000)) = true
        · rw [if_pos hall] at h
          obtain rfl := Option.some.inj h
          clear h
          obtain ⟨w2, hw2⟩ : ∃ w2, w2 = w.alloc (.cells #[.int .i64 a0_0, .slice A0_1 l0_1.length c0_1] 24) := ⟨_, rfl⟩
          have hb2 : Below w.heap.size w w2 := hw2 ▸ below_alloc (Below.refl _ _) _
          have hs2 : w2.heap.size = w.heap.size + 1 := by rw [hw2]; simp
          have hx2 : w2.heap[w.heap.size]? = some (.cells #[.int .i64 a0_0, .slice A0_1 l0_1.length c0_1] 24 (0, 0)) := hw2 ▸ heap_alloc_new w _
          have hcon := transContains 44 #[.pointer (some ⟨w.heap.size, 0, none⟩)] (badT a0_0) (fun args w => Go.Proofs.enters_of Tryd.func44 (by kernel_rfl) rfl args w) A0_1 c0_1 l0_1 w2 (fun W x B0 d0 B1 d1 hx hb m0 g0 m1 g1 => by
            have hx' := List.all_eq_true.1 hall x hx
            simp only [Bool.and_eq_true, decide_eq_true_eq] at hx'
            exact (rightTest w.heap.size a0_0 (.slice A0_1 l0_1.length c0_1) W x B0 d0 B1 d1 (blk_cell ((hb.block _ (by omega)).trans hx2) 0) hx'.1 hx'.2 m0 g0 m1 g1).mono fun e w' ⟨he, hb'⟩ => ⟨he, below_then hb hb.size hb'⟩) (Kd.C_below hr0_1 hb2) (by omega)
          rw [hw2] at hcon
          generalize l0_1.any (badT a0_0) = b at hcon ⊢
          have HC := Lib.hid hcon
          clear hcon hx2 hs2 hb2 hw2 hr0_1 hc0_1 hall
          have hmf : ∀ (fn : Fn) (first cap : Array Value) (w : World), (Instr.makeFunc fn first cap).run Tryd.prog w = .ok (.func fn first cap) w := fun _ _ _ _ => rfl
          go_enter Tryd.func24, Tryd.ntmps24
          go_wp2_with (go_at_call 42; refine HC.out.mono ?_; rintro e w1 ⟨rfl, hb⟩; have HB1 := Lib.hid hb; clear hb)
          go_ret
          exact ⟨by simp, below_then (below_alloc (Below.refl _ _) _) (by simp) HB1.out⟩
        · rw [if_neg hall] at h; cases h
end Go.Proofs.YthpclmkcljmoeaaDoor.P
