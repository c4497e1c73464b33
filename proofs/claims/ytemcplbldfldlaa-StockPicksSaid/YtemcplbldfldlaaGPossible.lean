/- taquinlaw35.possible tells whether each kind's demand is met at each tick. -/
import Derived.Test.YtemcplbldfldlaaGHall
import Derived.Test.YtemcplbldfldlaaPx12
import Derived.Test.YtemcplbldfldlaaPx12
namespace Go.Proofs.Ytemcplbldfldlaa.P
open Go.RowKit Go.Proofs.YtemcplbldfldlaaW.PrintWords Go.Proofs.YtemcplbldfldlaaW.PrintLast Go.Proofs.YtemcplbldfldlaaW.PrintMore
set_option linter.unusedVariables false
set_option linter.unusedSimpArgs false
theorem sumF_drop (p : BoxT → Bool) (l : List BoxT) (i : Nat) (h : i < l.length) : sumF p (l.drop i) = (if p (l.getD i zB) = true then cnt l i else 0) + sumF p (l.drop (i + 1)) := by
  rw [drop_at l i zB h, sumF]; rfl
theorem supply_l0 (lots : List LotT) (boxes : List BoxT) (hb : boxes.length ≤ 20) (hlot : ∀ b ∈ boxes, b.f0 < (lots.length : Int)) (hB : ∀ i, 0 ≤ cnt boxes i ∧ cnt boxes i ≤ 20000) (x : WantT) (d : Nat) : ∀ (i : Nat) (s : Int), boxes.length - i = d → i ≤ boxes.length → 0 ≤ s → s ≤ 20000 * i →
    Ev (fun k => stock_Supply.l0 k lots s boxes (boxes.length : Int) (i : Int) x.f0 x.f1 x.f2) (s + sumF (fitB lots x) (boxes.drop i)) := by
  induction d with
  | zero =>
    intro i s hd hi h0 h1
    refine .s ?_
    simp only [stock_Supply.l0]
    rw [List.drop_eq_nil_of_le (by omega)]
    exact .n (by omega) ((Ev.r _).congr (by simp [sumF]))
  | succ d ih =>
    intro i s hd hi h0 h1
    have hil : i < boxes.length := by omega
    have hc := hB i
    rw [sumF_drop _ _ _ hil]
    refine .s ?_
    simp only [stock_Supply.l0, rdBox]
    refine .p (by omega) (.p (by omega) (.p (by omega) (.b (.c (fits_eq lots x _ (hlot _ (getD_mem boxes i _ hil)))) ?_)))
    by_cases hf : fitB lots x (boxes.getD i zB) = true
    · rw [if_pos hf]
      refine .p hf ?_
      have e : (boxes.getD i z38).f1 = cnt boxes i := rfl
      rw [e, w64 (by omega) (by omega), w64 (by omega) (by omega)]
      exact (ih (i + 1) (s + cnt boxes i) (by omega) (by omega) (by omega) (by omega)).congr (by omega)
    · rw [if_neg hf]
      refine .n hf ?_
      rw [w64 (by omega) (by omega)]
      exact (ih (i + 1) s (by omega) (by omega) (by omega) (by omega)).congr (by omega)
theorem supply_ev (lots : List LotT) (boxes : List BoxT) (hb : boxes.length ≤ 20) (hlot : ∀ b ∈ boxes, b.f0 < (lots.length : Int)) (hB : ∀ i, 0 ≤ cnt boxes i ∧ cnt boxes i ≤ 20000) (x : WantT) : Ev (fun k => stock_Supply.f k lots boxes x.f0 x.f1 x.f2) (sumF (fitB lots x) boxes) := by
  have := supply_l0 lots boxes hb hlot hB x boxes.length 0 0 (by omega) (by omega) (by omega) (by omega)
  simpa [stock_Supply.f] using this
theorem dem_next (c t : Int) : ∀ (ws : List WantT), (∀ w ∈ ws, ¬ (w.f0 = c ∧ w.f2 = t)) → dem c t ws = dem c (t + 1) ws
  | [], _ => rfl
  | w :: r, h => by
    have h0 := h w (by simp)
    rw [dem, dem, dem_next c t r (fun x hx => h x (by simp [hx]))]
    by_cases hu : w.f0 = c ∧ t ≤ w.f2
    · rw [if_pos hu, if_pos ⟨hu.1, by have : ¬ w.f2 = t := fun e => h0 ⟨hu.1, e⟩; omega⟩]
    · rw [if_neg hu, if_neg (fun h => hu ⟨h.1, by omega⟩)]
theorem dem_zero (c t : Int) : ∀ (ws : List WantT), (∀ w ∈ ws, w.f2 < t) → dem c t ws = 0
  | [], _ => rfl
  | w :: r, h => by
    have h0 := h w (by simp)
    rw [dem, dem_zero c t r (fun x hx => h x (by simp [hx])), if_neg (by omega)]; rfl
theorem dem_all {lots : List LotT} {boxes : List BoxT} (hB : ∀ i, 0 ≤ cnt boxes i) (ws : List WantT) (hw : ∀ w ∈ ws, 0 ≤ w.f1 ∧ w.f2 ≤ 20000) (h : ∀ w ∈ ws, dem w.f0 w.f2 ws ≤ sumF (fitB lots w) boxes) (c : Int) (d : Nat) : ∀ t : Int, (20001 - t).toNat = d → dem c t ws ≤ sumF (fitCT lots c t) boxes := by
  induction d with
  | zero =>
    intro t ht
    rw [dem_zero c t ws (fun w hw' => by have := hw w hw'; omega)]
    exact sumF_nonneg _ _ hB
  | succ d ih =>
    intro t ht
    by_cases hex : ∃ w ∈ ws, w.f0 = c ∧ w.f2 = t
    · obtain ⟨w, hw', rfl, rfl⟩ := hex
      exact h w hw'
    · rw [dem_next c t ws (fun w hw' e => hex ⟨w, hw', e⟩)]
      have h1 := ih (t + 1) (by omega)
      have h2 := sumF_le (fitCT lots c (t + 1)) (fitCT lots c t) boxes hB (fun i _ hf => by
        rw [fitCT_iff] at hf ⊢
        exact ⟨hf.1, hf.2.1, hf.2.2.1, by omega⟩)
      omega
theorem dem_drop (c t : Int) (ws : List WantT) (i : Nat) (h : i < ws.length) : dem c t (ws.drop i) = (if (ws.getD i z43).f0 = c ∧ t ≤ (ws.getD i z43).f2 then (ws.getD i z43).f1 else 0) + dem c t (ws.drop (i + 1)) := by
  rw [drop_at ws i z43 h, dem]
section
variable (kinds : List KindT) (lots : List LotT) (boxes : List BoxT) (wants : List WantT)
theorem possible_l1 (hb : boxes.length ≤ 20) (hlot : ∀ b ∈ boxes, b.f0 < (lots.length : Int)) (hB : ∀ i, 0 ≤ cnt boxes i ∧ cnt boxes i ≤ 20000) (hw : wants.length ≤ 12) (hr : ∀ w ∈ wants, 0 ≤ w.f1 ∧ w.f1 ≤ 20000) (i : Nat) (hi : i < wants.length) (w : WantT) (hwi : wants.getD i z43 = w) (v : Bool)
    (he : if dem w.f0 w.f2 wants > sumF (fitB lots w) boxes then v = false else Ev (fun k => taquinlaw35_possible.l0 k wants ((i + 1 : Nat) : Int) kinds lots boxes) v) (d : Nat) : ∀ (j : Nat) (s : Int), wants.length - j = d → j ≤ wants.length → 0 ≤ s → s ≤ 20000 * j → s + dem w.f0 w.f2 (wants.drop j) = dem w.f0 w.f2 wants →
    Ev (fun k => taquinlaw35_possible.l1 k wants (i : Int) s (j : Int) kinds lots boxes) v := by
  induction d with
  | zero =>
    intro j s hd hj h0 h1 hs
    rw [List.drop_eq_nil_of_le (by omega)] at hs
    simp only [dem, Int.add_zero] at hs
    refine .s ?_
    simp only [taquinlaw35_possible.l1, rdWant, hwi]
    refine .n (by omega) (.p (by omega) (.p (by omega) (.b (supply_ev lots boxes hb hlot hB w) ?_)))
    by_cases hc : dem w.f0 w.f2 wants > sumF (fitB lots w) boxes
    · rw [if_pos hc] at he
      subst he
      exact .p (by omega) (.r _)
    · rw [if_neg hc] at he
      refine .n (by omega) ?_
      rw [w64 (by omega) (by omega)]
      exact he
  | succ d ih =>
    intro j s hd hj h0 h1 hs
    have hjl : j < wants.length := by omega
    have hrj := hr _ (getD_mem wants j z43 hjl)
    rw [dem_drop _ _ _ _ hjl] at hs
    refine .s ?_
    simp only [taquinlaw35_possible.l1, rdWant, hwi]
    generalize wants.getD j z43 = y at hs hrj
    refine .p (by omega) (.p (by omega) (.p (by omega) (.p (by omega) ?_)))
    by_cases hk : y.f0 = w.f0
    · refine .p hk ?_
      by_cases hu : y.f2 ≥ w.f2
      · rw [if_pos ⟨hk, hu⟩] at hs
        refine .p hu ?_
        rw [w64 (by omega) (by omega), w64 (by omega) (by omega)]
        exact ih (j + 1) (s + y.f1) (by omega) (by omega) (by omega) (by omega) (by omega)
      · rw [if_neg (fun h => hu h.2)] at hs
        refine .n hu ?_
        rw [w64 (by omega) (by omega)]
        exact ih (j + 1) s (by omega) (by omega) (by omega) (by omega) (by omega)
    · rw [if_neg (fun h => hk h.1)] at hs
      refine .n hk ?_
      rw [w64 (by omega) (by omega)]
      exact ih (j + 1) s (by omega) (by omega) (by omega) (by omega) (by omega)
theorem possible_l0 (hb : boxes.length ≤ 20) (hlot : ∀ b ∈ boxes, b.f0 < (lots.length : Int)) (hB : ∀ i, 0 ≤ cnt boxes i ∧ cnt boxes i ≤ 20000) (hw : wants.length ≤ 12) (hr : ∀ w ∈ wants, 0 ≤ w.f1 ∧ w.f1 ≤ 20000) (d : Nat) : ∀ i : Nat, wants.length - i = d → i ≤ wants.length →
    ∃ r, Ev (fun k => taquinlaw35_possible.l0 k wants (i : Int) kinds lots boxes) r ∧ (r = true ↔ ∀ w ∈ wants.drop i, dem w.f0 w.f2 wants ≤ sumF (fitB lots w) boxes) := by
  induction d with
  | zero =>
    intro i hd hi
    refine ⟨true, ?_, by rw [List.drop_eq_nil_of_le (by omega)]; simp⟩
    refine .s ?_
    simp only [taquinlaw35_possible.l0]
    exact .n (by omega) (.r _)
  | succ d ih =>
    intro i hd hi
    have hil : i < wants.length := by omega
    obtain ⟨r, hr1, hr2⟩ := ih (i + 1) (by omega) (by omega)
    rw [drop_at wants i z43 hil]
    generalize hq : wants.getD i z43 = w
    by_cases hc : dem w.f0 w.f2 wants > sumF (fitB lots w) boxes
    · refine ⟨false, ?_, by simp only [Bool.false_eq_true, false_iff]; intro h; have := h w (by simp); omega⟩
      refine .s ?_
      simp only [taquinlaw35_possible.l0]
      exact .p (by omega) (possible_l1 kinds lots boxes wants hb hlot hB hw hr i hil w hq false (by rw [if_pos hc]) wants.length 0 0 (by omega) (by omega) (by omega) (by omega) (by simp))
    · refine ⟨r, ?_, by rw [hr2]; simp only [List.mem_cons, forall_eq_or_imp]; exact ⟨fun h => ⟨by omega, h⟩, fun h => h.2⟩⟩
      refine .s ?_
      simp only [taquinlaw35_possible.l0]
      exact .p (by omega) (possible_l1 kinds lots boxes wants hb hlot hB hw hr i hil w hq r (by rw [if_neg hc]; exact hr1) wants.length 0 0 (by omega) (by omega) (by omega) (by omega) (by simp))
end
theorem possible_ev (kinds : List KindT) (lots : List LotT) (boxes : List BoxT) (wants : List WantT) (hS : RightS kinds lots boxes) (hb : boxes.length ≤ 20) (hw : wants.length ≤ 12) (hr : ∀ w ∈ wants, 0 ≤ w.f1 ∧ w.f1 ≤ 20000 ∧ w.f2 ≤ 20000) :
    ∃ r, Ev (fun k => taquinlaw35_possible.f k kinds lots boxes wants) r ∧ (r = true ↔ ∃ p, planL lots wants boxes = some p) := by
  have hB := cnt_le hS.boxes_
  have hL := left_self hS.boxes_
  obtain ⟨r, h1, h2⟩ := possible_l0 kinds lots boxes wants hb (fun b hb' => by have := hS.boxes_ b hb'; unfold okBox at this; omega) (fun i => ⟨hL.lo i, hB i⟩) hw (fun w hw' => ⟨(hr w hw').1, (hr w hw').2.1⟩) wants.length 0 (by omega) (by omega)
  refine ⟨r, by simpa [taquinlaw35_possible.f] using h1, ?_⟩
  rw [h2, List.drop_zero]
  constructor
  · intro h
    exact hall_some hB wants boxes hL (fun w hw' => (hr w hw').1) (fun c t => dem_all hL.lo wants (fun w hw' => ⟨(hr w hw').1, (hr w hw').2.2⟩) h c _ t rfl)
  · rintro ⟨p, hp⟩ w hw'
    have := hall_none hB wants boxes p hL (fun w hw' => (hr w hw').1) hp w.f0 w.f2
    rwa [← fitCT_w] at this
end Go.Proofs.Ytemcplbldfldlaa.P
