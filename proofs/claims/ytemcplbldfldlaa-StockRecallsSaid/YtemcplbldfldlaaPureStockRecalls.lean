/- StockRecalls holds: the pure statement behind the printed walk; no condition. -/
import Derived.Test.YtemcplbldfldlaaGPossible
import Derived.Test.YtemcplbldfldlaaGTypes
import Derived.Test.YtemcplbldfldlaaPx18
namespace Go.Proofs.Ytemcplbldfldlaa.P
open Go.RowKit Go.Proofs.YtemcplbldfldlaaW.PrintWords Go.Proofs.YtemcplbldfldlaaW.PrintLast Go.Proofs.YtemcplbldfldlaaW.PrintMore
set_option linter.unusedVariables false
set_option linter.unusedSimpArgs false
theorem has_eqR (lots : List LotT) (x : WantT) (b : BoxT) (h : b.f0 < (lots.length : Int)) : taquinref35_Has.f lots b.f0 b.f1 b.f2 x.f0 x.f1 x.f2 = some (fitB lots x b) := by
  unfold taquinref35_Has.f fitB fitL taquinref35_Fits.f
  by_cases h0 : b.f0 < 0
  · rw [if_pos h0]
    simp [show ¬ (0 : Int) ≤ b.f0 by omega]
  · rw [if_neg h0, if_neg (by omega), if_pos (by omega), if_pos h]
    by_cases h2 : (rd_T40 lots b.f0).f0 = x.f0
    · rw [if_pos h2]
      cases h3 : (rd_T40 lots b.f0).f2 <;> simp [h2, show (0 : Int) ≤ b.f0 by omega]
    · rw [if_neg h2]; simp [h2]
theorem fitsE (l : LotT) (w : WantT) : stock_Fits.f l.f0 l.f1 l.f2 w.f0 w.f1 w.f2 = some (fitL l w) := by
  unfold stock_Fits.f fitL
  by_cases h : l.f0 = w.f0
  · rw [if_pos h]
    cases h3 : l.f2 <;> simp [h]
  · rw [if_neg h]; simp [h]
/-- Lot m frozen. -/
def frz (lots : List LotT) (m : Nat) : List LotT := lots.set m ⟨(lots.getD m z40).f0, (lots.getD m z40).f1, true⟩
theorem frz_len (lots : List LotT) (m : Nat) : (frz lots m).length = lots.length := by simp [frz]
theorem frz_get (lots : List LotT) (m j : Nat) (hm : m < lots.length) : (frz lots m).getD j z40 = if m = j then ⟨(lots.getD m z40).f0, (lots.getD m z40).f1, true⟩ else lots.getD j z40 := by
  unfold frz
  simp only [List.getD_eq_getElem?_getD, List.getElem?_set]
  by_cases h : m = j
  · subst h; simp [hm]
  · simp [h]
theorem frz_frz (lots : List LotT) (m : Nat) (hm : m < lots.length) : frz (frz lots m) m = frz lots m := by
  have e := frz_get lots m m hm
  rw [if_pos rfl] at e
  show (frz lots m).set m ⟨((frz lots m).getD m z40).f0, ((frz lots m).getD m z40).f1, true⟩ = frz lots m
  rw [e]
  unfold frz
  simp
theorem recall_in (lots : List LotT) (hl : lots.length ≤ 20) (m : Nat) (hm : m < lots.length) : stock_Recall.f lots (m : Int) = some (frz lots m, 0) := by
  unfold stock_Recall.f
  rw [between_eq, w64 (by omega) (by omega)]
  simp only [Option.bind_some]
  rw [if_pos (by simp; omega)]
  unfold api_Lot.f
  rw [if_pos (by omega)]
  simp only [Option.bind_some]
  rw [if_pos (by omega), if_pos (by omega)]
  rfl
theorem recall_out (lots : List LotT) (hl : lots.length ≤ 20) (m : Int) (hm : m < 0 ∨ (lots.length : Int) ≤ m) : stock_Recall.f lots m = some ([], 4) := by
  unfold stock_Recall.f
  rw [between_eq, w64 (by omega) (by omega)]
  simp only [Option.bind_some]
  rw [if_neg (by simp; omega)]
/-- The box's lot is lot m, and fits. -/
def inLot (lots : List LotT) (w : WantT) (m : Nat) (b : BoxT) : Bool := decide (b.f0 = (m : Int)) && fitB lots w b
theorem fit_frz (lots : List LotT) (w : WantT) (m : Nat) (hm : m < lots.length) (b : BoxT) : fitB (frz lots m) w b = (fitB lots w b && !decide (b.f0 = (m : Int))) := by
  unfold fitB fitL
  by_cases h0 : 0 ≤ b.f0
  · have e : rd_T40 (frz lots m) b.f0 = if m = b.f0.toNat then ⟨(lots.getD m z40).f0, (lots.getD m z40).f1, true⟩ else rd_T40 lots b.f0 := frz_get lots m b.f0.toNat hm
    rw [e]
    by_cases h1 : b.f0 = (m : Int)
    · rw [if_pos (by omega)]; simp [h1]
    · rw [if_neg (by omega)]; simp [h1]
  · simp [h0]
theorem sumF_split (lots : List LotT) (w : WantT) (m : Nat) (hm : m < lots.length) : ∀ l : List BoxT, sumF (fitB (frz lots m) w) l + sumF (inLot lots w m) l = sumF (fitB lots w) l
  | [] => rfl
  | b :: r => by
    have ih := sumF_split lots w m hm r
    simp only [sumF, fit_frz lots w m hm, inLot]
    by_cases h2 : fitB lots w b = true <;> by_cases h1 : b.f0 = (m : Int) <;> simp [h1, h2] <;> omega
theorem sumF_bound (p : BoxT → Bool) : ∀ l : List BoxT, (∀ b ∈ l, 0 ≤ b.f1 ∧ b.f1 ≤ 20000) → 0 ≤ sumF p l ∧ sumF p l ≤ 20000 * l.length
  | [], _ => by simp [sumF]
  | b :: r, h => by
    have h1 := sumF_bound p r (fun x hx => h x (by simp [hx]))
    have h2 := h b (by simp)
    simp only [sumF, List.length_cons]
    cases p b <;> simp <;> omega
theorem sameLots_l0 (l : List LotT) (hl : l.length ≤ 1000) (d : Nat) : ∀ i : Nat, l.length - i = d → i ≤ l.length → Ev (fun k => taquinref35_SameLots.l0 k l l (i : Int)) true := by
  induction d with
  | zero =>
    intro i hd hi
    refine .s ?_
    simp only [taquinref35_SameLots.l0]
    exact .n (by omega) (.r _)
  | succ d ih =>
    intro i hd hi
    refine .s ?_
    simp only [taquinref35_SameLots.l0]
    refine .p (by omega) (.p (by omega) (.p (by omega) (.n (by simp) ?_)))
    rw [w64 (by omega) (by omega)]
    exact ih (i + 1) (by omega) (by omega)
theorem expired_l0 (lots : List LotT) (hl : lots.length ≤ 1000) (t : Int) (d : Nat) : ∀ (i : Nat) (out : List Int), lots.length - i = d → i ≤ lots.length → out.length ≤ i → (∀ x ∈ out, 0 ≤ x ∧ x < (lots.length : Int) ∧ (rd_T40 lots x).f1 < t) →
    ∃ r, Ev (fun k => stock_Expired.l0 k t out lots (lots.length : Int) (i : Int)) r ∧ r.length ≤ lots.length ∧ ∀ x ∈ r, 0 ≤ x ∧ x < (lots.length : Int) ∧ (rd_T40 lots x).f1 < t := by
  induction d with
  | zero =>
    intro i out hd hi ho hx
    refine ⟨out, ?_, by omega, hx⟩
    refine .s ?_
    simp only [stock_Expired.l0]
    exact .n (by omega) (.r _)
  | succ d ih =>
    intro i out hd hi ho hx
    by_cases h : (rd_T40 lots (i : Int)).f1 < t
    · obtain ⟨r, hr, hr2⟩ := ih (i + 1) (out ++ [(i : Int)]) (by omega) (by omega) (by simp; omega) (fun x hx' => by
        rcases List.mem_append.1 hx' with hx' | hx'
        · exact hx x hx'
        · simp only [List.mem_singleton] at hx'; subst hx'; exact ⟨by omega, by omega, h⟩)
      refine ⟨r, ?_, hr2⟩
      refine .s ?_
      simp only [stock_Expired.l0]
      refine .p (by omega) (.p (by omega) (.p (by omega) (.p h (.p (by omega) ?_))))
      rw [w64 (by omega) (by omega)]
      exact hr
    · obtain ⟨r, hr, hr2⟩ := ih (i + 1) out (by omega) (by omega) (by omega) hx
      refine ⟨r, ?_, hr2⟩
      refine .s ?_
      simp only [stock_Expired.l0]
      refine .p (by omega) (.p (by omega) (.p (by omega) (.n h ?_)))
      rw [w64 (by omega) (by omega)]
      exact hr
theorem rdIntR (l : List Int) (j : Nat) : rd l (j : Int) = l.getD j 0 := by simp [rd]
section
variable (kinds : List KindT) (lots : List LotT) (boxes : List BoxT) (w : WantT)
theorem recalls_l1 (m : Nat) (hS : RightS kinds (frz lots m) boxes) (h0 : kinds.length ≤ 20) (h1 : lots.length ≤ 20) (h2 : boxes.length ≤ 20) (t : Int) (ex : List Int) (hex : ex.length ≤ lots.length) (hx : ∀ x ∈ ex, 0 ≤ x ∧ x < (lots.length : Int) ∧ (rd_T40 lots x).f1 < t) (d : Nat) : ∀ i : Nat, ex.length - i = d → i ≤ ex.length →
    Ev (fun k => taquinlaw35_StockRecalls.l1 k t true (frz lots m) ex (i : Int) kinds lots boxes w.f0 w.f1 w.f2) true := by
  induction d with
  | zero =>
    intro i hd hi
    obtain ⟨r, hr, hr2⟩ := right_ev kinds (frz lots m) boxes h0 (by rw [frz_len]; exact h1) h2
    have : r = true := hr2.2 hS
    subst this
    refine .s ?_
    simp only [taquinlaw35_StockRecalls.l1]
    exact .n (by omega) (.p (by trivial) (.b hr (.r _)))
  | succ d ih =>
    intro i hd hi
    have hil : i < ex.length := by omega
    have hy := hx _ (getD_mem ex i 0 hil)
    generalize hq : ex.getD i 0 = y at hy
    refine .s ?_
    simp only [taquinlaw35_StockRecalls.l1, rdIntR, hq]
    refine .p (by omega) (.p (by omega) (.n (by omega) ?_))
    rw [show decide (y ≥ (lots.length : Int)) = false by simp; omega]
    refine .s ?_
    simp only [taquinlaw35_StockRecalls.j5, rdIntR, hq]
    have e := fitsE (rd_T40 lots y) ⟨w.f0, w.f1, mx w.f2 t⟩
    have ef : fitL (rd_T40 lots y) ⟨w.f0, w.f1, mx w.f2 t⟩ = false := by
      unfold fitL
      simp only [Bool.and_eq_false_iff, decide_eq_false_iff_not]
      right
      unfold mx
      split <;> omega
    rw [ef] at e
    refine .n (by simp) (.p (by omega) (.p (by omega) (.p (by omega) (.p (by omega) (.b (.c e) (.n (by simp) ?_))))))
    rw [w64 (by omega) (by omega)]
    exact ih (i + 1) (by omega) (by omega)
theorem recalls_l0 (hS : RightS kinds lots boxes) (h0 : kinds.length ≤ 20) (h1 : lots.length ≤ 20) (h2 : boxes.length ≤ 20) (m : Nat) (hm : m < lots.length) (t : Int) (d : Nat) : ∀ (i : Nat) (g : Int), boxes.length - i = d → i ≤ boxes.length → 0 ≤ g → g ≤ 20000 * i → g + sumF (inLot lots w m) (boxes.drop i) = sumF (inLot lots w m) boxes →
    Ev (fun k => taquinlaw35_StockRecalls.l0 k (m : Int) t true (frz lots m) g (i : Int) kinds lots boxes w.f0 w.f1 w.f2) true := by
  have hlot : ∀ b ∈ boxes, b.f0 < (lots.length : Int) := fun b hb => by have := hS.boxes_ b hb; unfold okBox at this; omega
  have hcnt : ∀ b ∈ boxes, 0 ≤ b.f1 ∧ b.f1 ≤ 20000 := fun b hb => by have := hS.boxes_ b hb; unfold okBox at this; omega
  have hB : ∀ i, 0 ≤ cnt boxes i ∧ cnt boxes i ≤ 20000 := fun i => ⟨(left_self hS.boxes_).lo i, cnt_le hS.boxes_ i⟩
  induction d with
  | zero =>
    intro i g hd hi hg0 hg1 hs
    rw [List.drop_eq_nil_of_le (by omega)] at hs
    simp only [sumF, Int.add_zero] at hs
    have hsp := sumF_split lots w m hm boxes
    have hb1 := sumF_bound (fitB lots w) boxes hcnt
    have hb2 := sumF_bound (inLot lots w m) boxes hcnt
    have s1 := supply_ev (frz lots m) boxes h2 (fun b hb => by rw [frz_len]; exact hlot b hb) hB w
    have s2 := supply_ev lots boxes h2 hlot hB w
    have hrec := recall_in (frz lots m) (by rw [frz_len]; exact h1) m (by rw [frz_len]; exact hm)
    rw [frz_frz lots m hm] at hrec
    have hfr : RightS kinds (frz lots m) boxes := ⟨hS.kinds_, fun l hl => by
      obtain ⟨j, hj, e⟩ := List.mem_iff_getElem.1 hl
      have e2 : l = (frz lots m).getD j z40 := by rw [← e]; simp [List.getD_eq_getElem?_getD, hj]
      rw [frz_get lots m j hm] at e2
      rw [frz_len] at hj
      by_cases hmj : m = j
      · rw [if_pos hmj] at e2
        have := hS.lots_ _ (getD_mem lots m z40 hm)
        unfold okLot at this ⊢
        rw [e2]; exact this
      · rw [if_neg hmj] at e2
        rw [e2]; exact hS.lots_ _ (getD_mem lots j z40 hj), fun b hb => by rw [frz_len]; exact hS.boxes_ b hb, hS.sum_⟩
    have hfl : fitL (rd_T40 (frz lots m) (m : Int)) w = false := by
      rw [rdLot, frz_get lots m m hm, if_pos rfl]
      simp [fitL]
    have hfe := fitsE (rd_T40 (frz lots m) (m : Int)) w
    rw [hfl] at hfe
    have hsame : Ev (fun k => taquinref35_SameLots.f k (frz lots m) (frz lots m)) true := by
      have := sameLots_l0 (frz lots m) (by rw [frz_len]; omega) (frz lots m).length 0 (by omega) (by omega)
      simpa [taquinref35_SameLots.f] using this
    obtain ⟨ex, he1, he2, he3⟩ := expired_l0 lots (by omega) t lots.length 0 [] (by omega) (by omega) (by simp) (by simp)
    have hend := recalls_l1 kinds lots boxes w m hfr h0 h1 h2 t ex he2 he3 ex.length 0 (by omega) (by omega)
    refine .s ?_
    simp only [taquinlaw35_StockRecalls.l0]
    refine .n (by omega) (.b (.c hrec) (.b s1 (.b s2 ?_)))
    rw [w64 (by omega) (by omega)]
    refine .p (by omega) (.p (by omega) (.p (by rw [frz_len]; omega) (.b (.c hfe) (.n (by simp) (.p (by trivial) (.b hsame ?_))))))
    refine .s ?_
    simp only [taquinlaw35_StockRecalls.j3]
    refine .n (by simp) (.b (x := ex) ?_ hend)
    simpa [stock_Expired.f] using he1
  | succ d ih =>
    intro i g hd hi hg0 hg1 hs
    have hil : i < boxes.length := by omega
    have hy := hlot _ (getD_mem boxes i zB hil)
    have hc := hcnt _ (getD_mem boxes i zB hil)
    rw [sumF_drop _ _ _ hil] at hs
    unfold cnt inLot at hs
    have hn : ∀ g' : Int, 0 ≤ g' → g' ≤ 20000 * (i + 1 : Nat) → g' + sumF (inLot lots w m) (boxes.drop (i + 1)) = sumF (inLot lots w m) boxes → Ev (fun k => taquinlaw35_StockRecalls.l0 k (m : Int) t true (frz lots m) g' (wrap64 ((i : Int) + 1)) kinds lots boxes w.f0 w.f1 w.f2) true := by
      intro g' a b c
      rw [w64 (by omega) (by omega)]
      exact ih (i + 1) g' (by omega) (by omega) a b c
    change g + ((if (decide ((boxes.getD i zB).f0 = (m : Int)) && fitB lots w (boxes.getD i zB)) = true then (boxes.getD i zB).f1 else 0) + sumF (inLot lots w m) (boxes.drop (i + 1))) = sumF (inLot lots w m) boxes at hs
    refine .s ?_
    simp only [taquinlaw35_StockRecalls.l0, rdBox]
    refine .p (by omega) (.p (by omega) ?_)
    by_cases h3 : (boxes.getD i zB).f0 = (m : Int)
    · refine .p h3 (.b (.c (has_eqR lots w _ hy)) ?_)
      by_cases h4 : fitB lots w (boxes.getD i zB) = true
      · rw [if_pos (by rw [decide_eq_true h3, h4]; rfl)] at hs
        refine .p h4 ?_
        have e : wrap64 (g + (boxes.getD i zB).f1) = g + (boxes.getD i zB).f1 := w64 (by omega) (by omega)
        have e2 : wrap64 (g + (boxes.getD i z38).f1) = g + (boxes.getD i zB).f1 := e
        rw [e2]
        exact hn _ (by omega) (by omega) (by omega)
      · rw [if_neg (by rw [Bool.eq_false_iff.2 h4, Bool.and_false]; simp)] at hs
        exact .n h4 (hn _ (by omega) (by omega) (by omega))
    · rw [if_neg (by rw [decide_eq_false h3, Bool.false_and]; simp)] at hs
      exact .n h3 (hn _ (by omega) (by omega) (by omega))
end
theorem StockRecalls (x0 : S26) (x1 : WantT) (a2 a3 : Int) (wf0 : wf26 x0) (wf1 : wf43 x1) (w2 : wfI .i64 a2) (w3 : wfI .i64 a3) : ∃ k, taquinlaw35_StockRecalls.f k x0.f0 x0.f1 x0.f2 x1.f0 x1.f1 x1.f2 a2 a3 = some true := by
  obtain ⟨kinds, lots, boxes⟩ := x0
  simp only
  refine Ev.ex (f := fun k => taquinlaw35_StockRecalls.f k kinds lots boxes x1.f0 x1.f1 x1.f2 a2 a3) ?_
  obtain ⟨r, hr, hg⟩ := given_ev kinds lots boxes
  simp only [taquinlaw35_StockRecalls.f]
  refine .b small_ev (.b hr ?_)
  cases r with
  | false => exact .n (by simp) (.r _)
  | true =>
    obtain ⟨h0, h1, h2, hS⟩ := hg rfl
    refine .p (by trivial) ?_
    by_cases hin : a2 < 0 ∨ (lots.length : Int) ≤ a2
    · refine .b (.c (recall_out lots h1 a2 hin)) ?_
      have hout : Ev (fun k => taquinlaw35_StockRecalls.j0 k a2 a3 true ([] : List LotT) 4 true kinds lots boxes x1.f0 x1.f1 x1.f2) true := by
        refine .s ?_
        simp only [taquinlaw35_StockRecalls.j0]
        exact .p (by trivial) (.p (by trivial) (.p (by trivial) ((Ev.r _).congr (by simp))))
      by_cases hn : a2 < 0
      · exact .p hn hout
      · refine .n hn ?_
        rw [show decide (a2 ≥ (lots.length : Int)) = true by simp; omega]
        exact hout
    · obtain ⟨m, rfl⟩ : ∃ m : Nat, a2 = (m : Int) := ⟨a2.toNat, by omega⟩
      have hm : m < lots.length := by omega
      refine .b (.c (recall_in lots h1 m hm)) (.n (by omega) ?_)
      rw [show decide ((m : Int) ≥ (lots.length : Int)) = false by simp; omega]
      refine .s ?_
      simp only [taquinlaw35_StockRecalls.j0]
      refine .n (by simp) (.p (by trivial) ?_)
      rw [show (((frz lots m).length : Int) != (lots.length : Int)) = false by rw [frz_len]; simp]
      refine .s ?_
      simp only [taquinlaw35_StockRecalls.j1]
      exact .n (by simp) (recalls_l0 kinds lots boxes x1 hS h0 h1 h2 m hm a3 boxes.length 0 0 (by omega) (by omega) (by omega) (by omega) (by simp))
end Go.Proofs.Ytemcplbldfldlaa.P
