/- stock.Plan tells the greedy plan, for right stocks and at most 12 right wants; with a want that is not right it tells ErrArg. -/
import Derived.Test.YtemcplbldfldlaaGPlanM
namespace Go.Proofs.Ytemcplbldfldlaa.P
open Go.RowKit Go.Proofs.YtemcplbldfldlaaW.PrintWords Go.Proofs.YtemcplbldfldlaaW.PrintLast Go.Proofs.YtemcplbldfldlaaW.PrintMore
set_option linter.unusedVariables false
set_option linter.unusedSimpArgs false
theorem rdBoxI (l : List BoxT) (i : Int) : rd_T38 l i = l.getD i.toNat zB := rfl
theorem rdInt (l : List Int) (j : Nat) : rd l (j : Int) = l.getD j 0 := by simp [rd]
/-- What Plan's loop over the wants tells. -/
def planR (lots : List LotT) (out : List (List TakeT)) (ws : List WantT) (left : List BoxT) : List (List TakeT) × Int :=
  match planL lots ws left with
  | none => ([], 22)
  | some p => (out ++ p.1, 0)
theorem plan_l1 (lots : List LotT) (boxes : List BoxT) (hb : boxes.length ≤ 20) (hB : ∀ i, cnt boxes i ≤ 20000) (wants : List WantT) (wi : Int) (out : List (List TakeT)) (order : List Int) (ho : ∀ i ∈ order, 0 ≤ i ∧ i < (boxes.length : Int)) (hol : order.length ≤ 20)
    (v : List (List TakeT) × Int) (d : Nat) : ∀ (j : Nat) (left : List BoxT) (need : Int) (takes : List TakeT), order.length - j = d → j ≤ order.length → Left lots boxes left → 0 ≤ need → need ≤ 20000 → takes.length ≤ j →
    Ev (fun k => stock_Plan.j2 k lots (giveL (order.drop j) left need).2.1 out (takes ++ (giveL (order.drop j) left need).1) (giveL (order.drop j) left need).2.2 wants (wants.length : Int) wi) v →
    Ev (fun k => stock_Plan.l1 k lots left out takes need wants (wants.length : Int) wi order (order.length : Int) (j : Int)) v := by
  induction d with
  | zero =>
    intro j left need takes hd hj hL h0 h1 ht he
    rw [List.drop_eq_nil_of_le (by omega)] at he
    refine .s ?_
    simp only [stock_Plan.l1]
    refine .n (by omega) ?_
    simpa [giveL] using he
  | succ d ih =>
    intro j left need takes hd hj hL h0 h1 ht he
    have hjl : j < order.length := by omega
    rw [drop_at order j 0 hjl] at he
    have hi := ho _ (getD_mem order j 0 hjl)
    generalize hq : order.getD j 0 = i at he hi
    have hil : i.toNat < left.length := by rw [hL.len]; omega
    have hc0 := hL.lo i.toNat
    have hc1 := hL.hi i.toNat
    have hc2 := hB i.toNat
    have hm := mn_le need (cnt left i.toNat)
    refine .s ?_
    simp only [stock_Plan.l1, rdInt, hq, rdBoxI]
    have hlen := hL.len
    refine .p (by omega) (.p (by omega) (.p (by omega) (.p (by omega) (.p (by omega) ?_))))
    unfold giveL at he
    by_cases hz : mn need (cnt left i.toNat) = 0
    · rw [if_pos hz] at he
      exact .p hz (by simpa using he)
    · rw [if_neg hz] at he
      simp only at he
      refine .n hz (.p (by omega) ?_)
      have e1 : wrap64 ((left.getD i.toNat zB).f1 - mn need (left.getD i.toNat zB).f1) = (left.getD i.toNat zB).f1 - mn need (left.getD i.toNat zB).f1 := w64 (by unfold cnt at hm hc0 hc1; omega) (by unfold cnt at hm hc0 hc1 hc2; omega)
      rw [e1, w64 (show -9223372036854775808 ≤ need - mn need (left.getD i.toNat zB).f1 by unfold cnt at hm hc0; omega) (by unfold cnt at hm hc0 hz; unfold mn; split <;> omega), w64 (show -9223372036854775808 ≤ (j : Int) + 1 by omega) (by omega)]
      have hL2 := give_left [i] left need hL h0 (by intro k hk; simp only [List.mem_singleton] at hk; rw [hk]; exact hi)
      unfold giveL at hL2
      rw [if_neg hz] at hL2
      simp only [giveL] at hL2
      refine ih (j + 1) (less left i.toNat (mn need (cnt left i.toNat))) (need - mn need (cnt left i.toNat)) (takes ++ [⟨i, mn need (cnt left i.toNat)⟩]) (by omega) (by omega) hL2.1 hL2.2.1 (by omega) (by simp; omega) ?_
      simpa using he
theorem plan_l0 (lots : List LotT) (boxes : List BoxT) (hb : boxes.length ≤ 20) (hB : ∀ i, cnt boxes i ≤ 20000) (hin : ∀ i, i < boxes.length → (boxes.getD i zB).f0 < (lots.length : Int)) (wants : List WantT) (hw : wants.length ≤ 12) (hr : ∀ w ∈ wants, 0 ≤ w.f1 ∧ w.f1 ≤ 20000)
    (d : Nat) : ∀ (wi : Nat) (left : List BoxT) (out : List (List TakeT)), wants.length - wi = d → wi ≤ wants.length → Left lots boxes left → out.length ≤ wi →
    Ev (fun k => stock_Plan.l0 k lots left out wants (wants.length : Int) (wi : Int)) (planR lots out (wants.drop wi) left) := by
  induction d with
  | zero =>
    intro wi left out hd hj hL ho
    rw [List.drop_eq_nil_of_le (by omega)]
    refine .s ?_
    simp only [stock_Plan.l0]
    exact .n (by omega) ((Ev.r _).congr (by simp [planR, planL]))
  | succ d ih =>
    intro wi left out hd hj hL ho
    have hwl : wi < wants.length := by omega
    rw [drop_at wants wi z43 hwl]
    have hr' := hr _ (getD_mem wants wi z43 hwl)
    generalize hq : wants.getD wi z43 = w at hr'
    have hli : lotsIn lots left := by
      intro b hb'
      obtain ⟨i, hi, e⟩ := List.mem_iff_getElem.1 hb'
      have e2 : b = left.getD i zB := by rw [← e]; simp [List.getD_eq_getElem?_getD, hi]
      rw [e2, (hL.lot i).1]
      exact hin i (by rw [← hL.len]; exact hi)
    have hlen := hL.len
    have hord : stock_Order.f lots left w.f0 w.f1 w.f2 = some (orderM lots left w) := by
      unfold stock_Order.f orderM
      rw [if_pos ⟨by omega, hli⟩]
    refine .s ?_
    simp only [stock_Plan.l0, rdWant, hq]
    refine .p (by omega) (.p (by omega) (.p (by omega) (.b (.c hord) ?_)))
    have hO := orderM_ok lots left w
    have hol : (orderM lots left w).length ≤ 20 := by
      unfold orderM; rw [isort_len]; have := fitUpto_len lots left w left.length; omega
    refine plan_l1 lots boxes hb hB wants (wi : Int) out (orderM lots left w) (fun i hi => by have := hO.mem i hi; omega) hol _ (orderM lots left w).length 0 left w.f1 [] (by omega) (by omega) hL hr'.1 hr'.2 (by simp) ?_
    simp only [List.drop_zero, List.nil_append]
    have hG := give_left (orderM lots left w) left w.f1 hL hr'.1 (fun i hi => by have := hO.mem i hi; omega)
    refine .s ?_
    simp only [stock_Plan.j2]
    by_cases hz : (giveL (orderM lots left w) left w.f1).2.2 > 0
    · refine .p hz ((Ev.r _).congr ?_)
      simp only [planR, planL]
      rw [if_pos hz]
    · refine .n hz (.p (by omega) ?_)
      rw [w64 (show -9223372036854775808 ≤ (wi : Int) + 1 by omega) (by omega)]
      refine (ih (wi + 1) _ (out ++ [(giveL (orderM lots left w) left w.f1).1]) (by omega) (by omega) hG.1 (by simp; omega)).congr ?_
      simp only [planR, planL]
      rw [if_neg hz]
      cases planL lots (wants.drop (wi + 1)) (giveL (orderM lots left w) left w.f1).2.1 <;> simp
theorem left_self {lots : List LotT} {boxes : List BoxT} (h : ∀ b ∈ boxes, okBox lots.length b) : Left lots boxes boxes where
  len := rfl
  lot := fun _ => ⟨rfl, rfl⟩
  lo := fun i => by
    unfold cnt
    by_cases hi : i < boxes.length
    · have := h _ (getD_mem boxes i zB hi); unfold okBox at this; omega
    · rw [List.getD_eq_getElem?_getD, List.getElem?_eq_none (by omega)]; decide
  hi := fun _ => Int.le_refl _
theorem cnt_le {lots : List LotT} {boxes : List BoxT} (h : ∀ b ∈ boxes, okBox lots.length b) (i : Nat) : cnt boxes i ≤ 20000 := by
  unfold cnt
  by_cases hi : i < boxes.length
  · have := h _ (getD_mem boxes i zB hi); unfold okBox at this; omega
  · rw [List.getD_eq_getElem?_getD, List.getElem?_eq_none (by omega)]; decide
theorem plan_ev (kinds : List KindT) (lots : List LotT) (boxes : List BoxT) (hS : RightS kinds lots boxes) (hb : boxes.length ≤ 20) (wants : List WantT) (hw : wants.length ≤ 12) :
    Ev (fun k => stock_Plan.f k lots boxes wants) (if wants.any wantBad = true then ([], 1) else planR lots [] wants boxes) := by
  simp only [stock_Plan.f]
  have h1 : api_Want.f wants = some (wants.any wantBad) := by unfold api_Want.f; rw [if_pos (by omega)]
  refine .b (.c h1) ?_
  by_cases h : wants.any wantBad = true
  · rw [if_pos h]; exact .p h (.r _)
  · rw [if_neg h]
    refine .n h (.b (.c (show api_Box.f boxes = some boxes by unfold api_Box.f; rw [if_pos (by omega)])) ?_)
    have hr : ∀ w ∈ wants, 0 ≤ w.f1 ∧ w.f1 ≤ 20000 := by
      intro w hw'
      have h2 : wantBad w = false := by
        have h3 := h
        rw [Bool.not_eq_true, List.any_eq_false] at h3
        simpa using h3 w hw'
      simp only [wantBad, Bool.not_eq_false', decide_eq_true_eq] at h2
      omega
    have := plan_l0 lots boxes hb (cnt_le hS.boxes_) (fun i hi => by have := hS.boxes_ _ (getD_mem boxes i zB hi); unfold okBox at this; omega) wants hw hr wants.length 0 boxes [] (by omega) (by omega) (left_self hS.boxes_) (by simp)
    simpa using this
end Go.Proofs.Ytemcplbldfldlaa.P
