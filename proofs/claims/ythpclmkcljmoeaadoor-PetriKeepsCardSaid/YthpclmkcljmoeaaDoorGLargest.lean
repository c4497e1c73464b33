/- petri.Largest, and the laws' pick: on right small nets. -/
import Derived.Test.YthpclmkcljmoeaaDoorGSipUse
import Derived.Test.YthpclmkcljmoeaaDoorPx7
import Derived.Test.YthpclmkcljmoeaaDoorPx7
namespace Go.Proofs.YthpclmkcljmoeaaDoor.P
open Go.RowKit Go.Proofs.YthpclmkcljmoeaaDoorW.PrintWords Go.Proofs.YthpclmkcljmoeaaDoorW.PrintLast Go.Proofs.YthpclmkcljmoeaaDoorW.PrintMore
set_option linter.unusedVariables false
set_option linter.unusedSimpArgs false
/-! ### pick: some set of places -/
theorem pick_l0 (b : Int) (n : Nat) (hn : n ≤ 64) (d : Nat) : ∀ (i : Nat) (out : List Int), n - i = d → i ≤ n → out.length ≤ i → out.Pairwise (· < ·) → (∀ p ∈ out, 0 ≤ p ∧ p < (i : Int)) →
    ∃ r, Ev (fun k => taquinlaw18_pick.l0 k b (n : Int) out (i : Int)) r ∧ r.Pairwise (· < ·) ∧ (∀ p ∈ r, 0 ≤ p ∧ p < (n : Int)) ∧ r.length ≤ n := by
  induction d with
  | zero =>
    intro i out hd hi ho h1 h2
    refine ⟨out, .s ?_, h1, fun p hp => by have := h2 p hp; omega, by omega⟩
    simp only [taquinlaw18_pick.l0]
    exact .n (by omega) (.r _)
  | succ d ih =>
    intro i out hd hi ho h1 h2
    by_cases hb : Go.bits .and .i64 (shr .i64 b (i : Int)) 1 = 1
    · obtain ⟨r, hr, g1, g2, g3⟩ := ih (i + 1) (out ++ [(i : Int)]) (by omega) (by omega) (by simp; omega) (List.pairwise_append.2 ⟨h1, by simp, fun x hx y hy => by rw [List.mem_singleton.1 hy]; have := h2 x hx; omega⟩) (fun p hp => by
        rcases List.mem_append.1 hp with hp | hp
        · have := h2 p hp; omega
        · rw [List.mem_singleton.1 hp]; omega)
      refine ⟨r, .s ?_, g1, g2, g3⟩
      simp only [taquinlaw18_pick.l0]
      refine .p (by omega) (.p (by omega) (.p hb (.p (by omega) ?_)))
      rw [w64 (by omega) (by omega)]
      exact hr
    · obtain ⟨r, hr, g⟩ := ih (i + 1) out (by omega) (by omega) (by omega) h1 (fun p hp => by have := h2 p hp; omega)
      refine ⟨r, .s ?_, g⟩
      simp only [taquinlaw18_pick.l0]
      refine .p (by omega) (.p (by omega) (.n hb ?_))
      rw [w64 (by omega) (by omega)]
      exact hr
theorem pick_ev (b : Int) (n : Nat) (hn : n ≤ 64) : ∃ r, Ev (fun k => taquinlaw18_pick.f k b (n : Int)) r ∧ isSetB n r = true ∧ r.length ≤ 64 := by
  obtain ⟨r, hr, h1, h2, h3⟩ := pick_l0 b n hn n 0 [] (by omega) (by omega) (by simp) List.Pairwise.nil (fun p hp => by cases hp)
  exact ⟨r, hr, isSet_of h1 h2, by omega⟩
/-! ### Largest -/
theorem largest_l1 (L : List (Nat × Nat)) (hL : okE L) (hlen : L.length ≤ 1000) (v : List Int) (d : Nat) : ∀ (i w : Nat), L.length - i = d → i ≤ L.length → w < 18446744073709551616 →
    Ev (fun k => petri_Largest.l0 k (edgesI L) ((stepW (L.drop i) w : Nat) : Int)) v → Ev (fun k => petri_Largest.l1 k (edgesI L) (w : Int) (edgesI L) ((edgesI L).length : Int) (i : Int)) v := by
  have hl : (edgesI L).length = L.length := by simp [edgesI]
  induction d with
  | zero =>
    intro i w hd hi hw h
    rw [List.drop_eq_nil_of_le (by omega)] at h
    refine .s ?_
    simp only [petri_Largest.l1]
    exact .n (by omega) h
  | succ d ih =>
    intro i w hd hi hw h
    have hil : i < L.length := by omega
    have hm := getD_mem L i (0, 0) hil
    have he := hL _ hm
    have hrd : rd_T65 (edgesI L) (i : Int) = edgeI (L.getD i (0, 0)) := by
      simp [rd_T65, edgesI, List.getD_eq_getElem?_getD, hil]
    rw [drop_at L i (0, 0) hil] at h
    refine .s ?_
    simp only [petri_Largest.l1, hrd]
    refine .p (by omega) (.p (by omega) (.p (by omega) ?_))
    rw [w64 (by omega) (by omega)]
    generalize L.getD i (0, 0) = e at *
    have ha : Go.bits .and .u64 (edgeI e).f1 (w : Int) = ((e.2 &&& w : Nat) : Int) := bits_and_u64_nat e.2 w he.2 hw
    have hb : Go.bits .andNot .u64 (w : Int) (edgeI e).f0 = ((without w e.1 : Nat) : Int) := andNot_nat w e.1 hw he.1
    have hst : stepW (e :: L.drop (i + 1)) w = stepW (L.drop (i + 1)) (if e.2 &&& w = 0 then without w e.1 else w) := rfl
    rw [hst] at h
    by_cases hz : e.2 &&& w = 0
    · rw [if_pos hz] at h
      refine .p (by rw [ha, hz]; rfl) ?_
      rw [hb]
      exact ih (i + 1) _ (by omega) (by omega) (Nat.lt_of_le_of_lt (without_sub w e.1).le hw) h
    · rw [if_neg hz] at h
      exact .n (by rw [ha]; omega) (ih (i + 1) w (by omega) (by omega) hw h)
theorem largest_l0 (L : List (Nat × Nat)) (hL : okE L) (hlen : L.length ≤ 1000) (f : Nat) : ∀ w : Nat, w ≤ f → w < 18446744073709551616 → Ev (fun k => petri_Largest.l0 k (edgesI L) (w : Int)) (listL (lgW L f w)) := by
  induction f with
  | zero =>
    intro w hw h64
    obtain rfl : w = 0 := by omega
    refine .s ?_
    simp only [petri_Largest.l0]
    refine .p rfl (.s ?_)
    simp only [petri_Largest.j1]
    exact .n (by simp) (.b (list_ev 0 (by omega)) (.r _))
  | succ f ih =>
    intro w hw h64
    unfold lgW
    by_cases h0 : w = 0
    · rw [if_pos (.inl h0)]
      subst h0
      refine .s ?_
      simp only [petri_Largest.l0]
      refine .p rfl (.s ?_)
      simp only [petri_Largest.j1]
      exact .n (by simp) (.b (list_ev 0 (by omega)) (.r _))
    · refine .s ?_
      simp only [petri_Largest.l0]
      refine .n (by omega) (.b (.c (closed_eq hL (by omega) h64)) ?_)
      cases hc : closedB L w with
      | true =>
        rw [if_pos (.inr rfl)]
        refine .s ?_
        simp only [petri_Largest.j1]
        exact .n (by simp) (.b (list_ev w h64) (.r _))
      | false =>
        rw [if_neg (by simp [h0])]
        have hlt := stepW_lt L w h0 (by rw [hc]; simp)
        refine .s ?_
        simp only [petri_Largest.j1]
        exact .p (by simp) (largest_l1 L hL hlen _ L.length 0 w (by omega) (by omega) h64 (by rw [List.drop_zero]; exact ih _ (by omega) (by omega)))
/-- The largest closed word within w. -/
def lg (L : List (Nat × Nat)) (w : Nat) : Nat := lgW L w w
theorem largest_ev {n : Nat} {l : List TransT} {m : List Int} {a b : Int} (h : Fits n l m a b) (hb : b ≤ 1000) (trap : Bool) (s : List Int) (hs : isSetB n s = true) (hl : s.length ≤ 1000) : Ev (fun k => petri_Largest.f k (n : Int) l s trap) (listL (lg (edgesN l trap) (wordL s))) := by
  have hm := fun p hp => isSet_mem hs (p := p) hp
  have hw : wordL s < 18446744073709551616 := wordL_64 (fun p hp => by have := hm p hp; have := h.p64; omega)
  simp only [petri_Largest.f]
  exact .b ((isSet_ev n s (by omega)).congr hs) (.p (by trivial) (.b (edges_ev n l trap h.okT (by have := h.trans; omega)) (.b (word_ev s (fun p hp => by have := hm p hp; have := h.p64; omega) (by omega)) (largest_l0 _ (edgesN_ok trap h.okT) (by have := h.trans; simp [edgesN]; omega) _ _ (Nat.le_refl _) hw))))
theorem listL_pos (f : Nat) : ∀ p ∈ listL f, 0 ≤ p := fun p hp => ((listL_mem f p).1 hp).1
end Go.Proofs.YthpclmkcljmoeaaDoor.P
