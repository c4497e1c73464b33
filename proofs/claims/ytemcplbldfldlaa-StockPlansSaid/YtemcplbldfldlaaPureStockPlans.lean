/- StockPlans holds: the pure statement behind the printed walk; no condition. -/
import Derived.Test.YtemcplbldfldlaaGPossible
import Derived.Test.YtemcplbldfldlaaGPick
import Derived.Test.YtemcplbldfldlaaGTypes
import Derived.Test.YtemcplbldfldlaaPx14
namespace Go.Proofs.Ytemcplbldfldlaa.P
open Go.RowKit Go.Proofs.YtemcplbldfldlaaW.PrintWords Go.Proofs.YtemcplbldfldlaaW.PrintLast Go.Proofs.YtemcplbldfldlaaW.PrintMore
set_option linter.unusedVariables false
set_option linter.unusedSimpArgs false
theorem has_eqP (lots : List LotT) (x : WantT) (b : BoxT) (h : b.f0 < (lots.length : Int)) : taquinref35_Has.f lots b.f0 b.f1 b.f2 x.f0 x.f1 x.f2 = some (fitB lots x b) := by
  unfold taquinref35_Has.f fitB fitL taquinref35_Fits.f
  by_cases h0 : b.f0 < 0
  · rw [if_pos h0]
    simp [show ¬ (0 : Int) ≤ b.f0 by omega]
  · rw [if_neg h0, if_neg (by omega), if_pos (by omega), if_pos h]
    by_cases h2 : (rd_T40 lots b.f0).f0 = x.f0
    · rw [if_pos h2]
      cases h3 : (rd_T40 lots b.f0).f2 <;> simp [h2, show (0 : Int) ≤ b.f0 by omega]
    · rw [if_neg h2]; simp [h2]
/-- The takes of one want, as the law looks at them: in range, fitting, each box once, so many units. -/
structure TakesW (lots : List LotT) (boxes : List BoxT) (w : WantT) (l : List TakeT) : Prop where
  len : l.length ≤ 20
  ok : ∀ t ∈ l, 0 ≤ t.f0 ∧ t.f0 < (boxes.length : Int) ∧ 1 ≤ t.f1 ∧ t.f1 ≤ 20000 ∧ fitB lots w (boxes.getD t.f0.toNat zB) = true
  once : (l.map (fun t => t.f0)).Nodup
  sum : (l.map (fun t => t.f1)).sum = w.f1
theorem give_mem_ord : ∀ (ord : List Int) (left : List BoxT) (need : Int), ∀ t ∈ (giveL ord left need).1, t.f0 ∈ ord
  | [], left, need, t, ht => by simp [giveL] at ht
  | i :: r, left, need, t, ht => by
    unfold giveL at ht
    by_cases h0 : mn need (cnt left i.toNat) = 0
    · rw [if_pos h0] at ht; simp at ht
    · rw [if_neg h0] at ht
      simp only [List.mem_cons] at ht
      rcases ht with rfl | ht
      · simp
      · exact List.mem_cons_of_mem _ (give_mem_ord r _ _ t ht)
theorem give_once : ∀ (ord : List Int) (left : List BoxT) (need : Int), ord.Nodup → ((giveL ord left need).1.map (fun t => t.f0)).Nodup
  | [], left, need, _ => by simp [giveL]
  | i :: r, left, need, h => by
    have h' := List.nodup_cons.1 h
    unfold giveL
    by_cases h0 : mn need (cnt left i.toNat) = 0
    · rw [if_pos h0]; simp
    · rw [if_neg h0]
      simp only [List.map_cons]
      refine List.nodup_cons.2 ⟨fun hm => ?_, give_once r _ _ h'.2⟩
      obtain ⟨t, ht, e⟩ := List.mem_map.1 hm
      exact h'.1 (e ▸ give_mem_ord r _ _ t ht)
theorem give_pick : ∀ (ord : List Int) (left : List BoxT) (need : Int) (rest : List TakeT), (∀ i, 0 ≤ cnt left i ∧ cnt left i ≤ 20000) → 0 ≤ need → (∀ i ∈ ord, 0 ≤ i ∧ i.toNat < left.length) → pickL left ((giveL ord left need).1 ++ rest) = pickL (giveL ord left need).2.1 rest
  | [], left, need, rest, _, _, _ => rfl
  | i :: r, left, need, rest, hc, hn, hr => by
    have hi := hr i (by simp)
    have hci := hc i.toNat
    have hm := mn_le need (cnt left i.toNat)
    unfold giveL
    by_cases h0 : mn need (cnt left i.toNat) = 0
    · rw [if_pos h0]; rfl
    · rw [if_neg h0]
      simp only [List.cons_append, pickL]
      have e : (left.getD i.toNat z38).f1 = cnt left i.toNat := rfl
      rw [e, if_neg (by omega), w64 (by omega) (by omega)]
      exact give_pick r (less left i.toNat (mn need (cnt left i.toNat))) (need - mn need (cnt left i.toNat)) rest (fun j => by
        rw [less_cnt left i.toNat j _ hi.2]
        have := hc j
        split
        · omega
        · exact this) (by omega) (fun k hk => by rw [less_len]; exact hr k (by simp [hk]))
theorem sum_append1 (a b : List Int) : (a ++ b).sum = a.sum + b.sum := by
  induction a with
  | nil => simp
  | cons x r ih => simp [ih]; omega
theorem sum_le (l : List TakeT) (h : ∀ t ∈ l, 0 ≤ t.f1 ∧ t.f1 ≤ 20000) : 0 ≤ (l.map (fun t => t.f1)).sum ∧ (l.map (fun t => t.f1)).sum ≤ 20000 * l.length := by
  induction l with
  | nil => simp
  | cons x r ih =>
    have h1 := ih (fun t ht => h t (by simp [ht]))
    have h2 := h x (by simp)
    simp only [List.map_cons, List.sum_cons, List.length_cons]
    omega
section
variable (kinds : List KindT) (lots : List LotT) (boxes : List BoxT) (wants : List WantT) (plan : List (List TakeT))
theorem plans_l3 (i : Nat) (hi : i < plan.length) (l : List TakeT) (hl : plan.getD i [] = l) (h20 : l.length ≤ 20) (all : List TakeT) (u n : Int) (y : TakeT) (j : Nat) (hj : j < l.length) (hn : 0 ≤ n ∧ n ≤ 400000) (hy : 0 ≤ y.f1 ∧ y.f1 ≤ 20000) (hne : ∀ q : Nat, q < j → (l.getD q z36).f0 ≠ y.f0) (v : Bool)
    (he : Ev (fun k => taquinlaw35_StockPlans.l2 k wants true plan all u (i : Int) (n + y.f1) ((j + 1 : Nat) : Int) kinds lots boxes) v) (d : Nat) : ∀ q : Nat, j - q = d → q ≤ j →
    Ev (fun k => taquinlaw35_StockPlans.l3 k wants true plan all u (i : Int) n (j : Int) (q : Int) kinds lots boxes y.f0 y.f1) v := by
  have hrd : rd_L10 plan (i : Int) = l := by rw [← hl]; simp [rd_L10]
  induction d with
  | zero =>
    intro q hd hq
    refine .s ?_
    simp only [taquinlaw35_StockPlans.l3]
    refine .n (by omega) ?_
    rw [w64 (by omega) (by omega), w64 (by omega) (by omega)]
    exact he
  | succ d ih =>
    intro q hd hq
    have := hne q (by omega)
    refine .s ?_
    simp only [taquinlaw35_StockPlans.l3, hrd, rdTake]
    refine .p (by omega) (.p (by omega) (.p (by omega) (.p (by omega) (.p (by omega) (.n this ?_)))))
    rw [w64 (by omega) (by omega)]
    exact ih (q + 1) (by omega) (by omega)
theorem plans_l2 (hS : RightS kinds lots boxes) (hpl : plan.length = wants.length) (hp : plan.length ≤ 12) (i : Nat) (hi : i < plan.length) (w : WantT) (hw : wants.getD i z43 = w) (hw1 : 0 ≤ w.f1 ∧ w.f1 ≤ 20000) (l : List TakeT) (hl : plan.getD i [] = l) (hT : TakesW lots boxes w l) (all : List TakeT) (hal : all.length ≤ 240) (u : Int) (hu : 0 ≤ u ∧ u ≤ 20000 * i) (v : Bool)
    (he : Ev (fun k => taquinlaw35_StockPlans.l1 k wants true plan (all ++ l) (u + w.f1) ((i + 1 : Nat) : Int) kinds lots boxes) v) (d : Nat) : ∀ (j : Nat) (n : Int), l.length - j = d → j ≤ l.length → 0 ≤ n → n ≤ 20000 * j → n + ((l.drop j).map (fun t => t.f1)).sum = w.f1 →
    Ev (fun k => taquinlaw35_StockPlans.l2 k wants true plan all u (i : Int) n (j : Int) kinds lots boxes) v := by
  have hrd : rd_L10 plan (i : Int) = l := by rw [← hl]; simp [rd_L10]
  have h20 := hT.len
  induction d with
  | zero =>
    intro j n hd hj h0 h1 hs
    rw [List.drop_eq_nil_of_le (by omega)] at hs
    simp only [List.map_nil, List.sum_nil, Int.add_zero] at hs
    refine .s ?_
    simp only [taquinlaw35_StockPlans.l2, hrd, rdWant, hw]
    refine .p (by omega) (.p (by omega) (.n (by omega) (.p (by omega) (.p hs (.p (by omega) ?_)))))
    rw [hs, w64 (by omega) (by omega), w64 (by omega) (by omega)]
    exact he
  | succ d ih =>
    intro j n hd hj h0 h1 hs
    have hjl : j < l.length := by omega
    have hok := hT.ok _ (getD_mem l j z36 hjl)
    rw [drop_at l j z36 hjl, List.map_cons, List.sum_cons] at hs
    have hne : ∀ q : Nat, q < j → (l.getD q z36).f0 ≠ (l.getD j z36).f0 := fun q hq e => by
      have h2 := List.pairwise_iff_getElem.1 hT.once q j (by simp; omega) (by simp; omega) hq
      simp only [List.getElem_map] at h2
      have hql : q < l.length := by omega
      simp only [List.getD_eq_getElem?_getD, List.getElem?_eq_getElem hql, List.getElem?_eq_getElem hjl, Option.getD_some] at e
      exact h2 e
    generalize hq : l.getD j z36 = y at hok hs hne
    have hbx := hS.boxes_ _ (getD_mem boxes y.f0.toNat zB (by omega))
    unfold okBox at hbx
    refine .s ?_
    simp only [taquinlaw35_StockPlans.l2, hrd, rdTake, hq]
    refine .p (by omega) (.p (by omega) (.p (by omega) (.p (by omega) (.n (by omega) (.n (by omega) ?_)))))
    rw [show decide (y.f1 < 1) = false by simp; omega]
    refine .s ?_
    simp only [taquinlaw35_StockPlans.j5, rdWant, hw, rdBoxI]
    refine .n (by simp) (.p (by omega) (.p (by omega) (.p (by omega) (.p (by omega) (.b (.c (has_eqP lots w _ (by omega))) (.p hok.2.2.2.2 ?_))))))
    exact plans_l3 kinds lots boxes wants plan i hi l hl h20 all u n y j hjl ⟨h0, by omega⟩ ⟨by omega, by omega⟩ hne v (ih (j + 1) (n + y.f1) (by omega) (by omega) (by omega) (by omega) (by omega)) j 0 (by omega) (by omega)
end
theorem planL_lenP (lots : List LotT) : ∀ (ws : List WantT) (left : List BoxT) (p : List (List TakeT) × List BoxT), planL lots ws left = some p → p.1.length = ws.length
  | [], left, p, h => by simp only [planL, Option.some.injEq] at h; subst h; rfl
  | w :: r, left, p, h => by
    unfold planL at h
    by_cases hz : (giveL (orderM lots left w) left w.f1).2.2 > 0
    · rw [if_pos hz] at h; cases h
    · rw [if_neg hz] at h
      obtain ⟨q, hq, rfl⟩ := Option.map_eq_some_iff.1 h
      simp [planL_lenP lots r _ q hq]
def askL (ws : List WantT) : Int := (ws.map (fun w => w.f1)).sum
theorem give_takesW {lots : List LotT} {boxes left : List BoxT} (w : WantT) (hb : boxes.length ≤ 20) (hB : ∀ i, cnt boxes i ≤ 20000) (hL : Left lots boxes left) (hw : 0 ≤ w.f1) (hz : (giveL (orderM lots left w) left w.f1).2.2 = 0) : TakesW lots boxes w (giveL (orderM lots left w) left w.f1).1 := by
  have hO := orderM_ok lots left w
  have hS := stepS w hB hL hw
  have hlen := hL.len
  have hol : (orderM lots left w).length ≤ 20 := by unfold orderM; rw [isort_len]; have := fitUpto_len lots left w left.length; omega
  have hpos : ∀ (ord : List Int) (left : List BoxT) (need : Int), (∀ i, 0 ≤ cnt left i ∧ cnt left i ≤ 20000) → 0 ≤ need → (∀ i ∈ ord, i.toNat < left.length) → (giveL ord left need).1.length ≤ ord.length ∧ ∀ t ∈ (giveL ord left need).1, 1 ≤ t.f1 ∧ t.f1 ≤ 20000 := by
    intro ord
    induction ord with
    | nil => intro left need _ _ _; exact ⟨by simp [giveL], fun t ht => by simp [giveL] at ht⟩
    | cons i r ih =>
      intro left need hc hn hr
      have hci := hc i.toNat
      have hm := mn_le need (cnt left i.toNat)
      unfold giveL
      by_cases h0 : mn need (cnt left i.toNat) = 0
      · rw [if_pos h0]; exact ⟨by simp, fun t ht => by simp at ht⟩
      · rw [if_neg h0]
        obtain ⟨a1, a2⟩ := ih (less left i.toNat (mn need (cnt left i.toNat))) (need - mn need (cnt left i.toNat)) (fun j => by
          rw [less_cnt left i.toNat j _ (hr i (by simp))]
          have := hc j
          split
          · omega
          · exact this) (by omega) (fun k hk => by rw [less_len]; exact hr k (by simp [hk]))
        refine ⟨by simp only [List.length_cons]; omega, fun t ht => ?_⟩
        simp only [List.mem_cons] at ht
        rcases ht with rfl | ht
        · simp only; omega
        · exact a2 t ht
  have hp := hpos (orderM lots left w) left w.f1 (fun i => ⟨hL.lo i, by have := hL.hi i; have := hB i; omega⟩) hw (fun i hi => by have := hO.mem i hi; omega)
  have htot := hS.tot
  have hsum : ∀ l : List TakeT, takenF (fun _ => true) boxes l = (l.map (fun t => t.f1)).sum := by
    intro l
    induction l with
    | nil => rfl
    | cons x r ih => simp [takenF, ih]
  exact {
    len := by omega
    ok := fun t ht => by
      have h1 := give_mem_ord _ _ _ t ht
      have h2 := hO.mem _ h1
      have h3 := hp.2 t ht
      exact ⟨h2.1, by omega, h3.1, h3.2, hS.fits t ht⟩
    once := give_once _ _ _ hO.nodup
    sum := by rw [← hsum, ← htot]; omega }
theorem planW {lots : List LotT} {boxes : List BoxT} (hb : boxes.length ≤ 20) (hB : ∀ i, cnt boxes i ≤ 20000) : ∀ (ws : List WantT) (left : List BoxT) (p : List (List TakeT) × List BoxT), planL lots ws left = some p → Left lots boxes left → (∀ w ∈ ws, 0 ≤ w.f1) →
    (∀ rest, pickL left (p.1.flatten ++ rest) = pickL p.2 rest) ∧ Left lots boxes p.2 ∧ sumF (fun _ => true) p.2 = sumF (fun _ => true) left - askL ws ∧ (∀ i, i < ws.length → TakesW lots boxes (ws.getD i z43) (p.1.getD i []))
  | [], left, p, h, hL, _ => by
    simp only [planL, Option.some.injEq] at h; subst h
    exact ⟨fun _ => rfl, hL, by simp [askL], fun i hi => by simp at hi⟩
  | w :: r, left, p, h, hL, hw => by
    have hS := stepS w hB hL (hw w (by simp))
    unfold planL at h
    by_cases hz : (giveL (orderM lots left w) left w.f1).2.2 > 0
    · rw [if_pos hz] at h; cases h
    · rw [if_neg hz] at h
      obtain ⟨q, hq, rfl⟩ := Option.map_eq_some_iff.1 h
      have hO := orderM_ok lots left w
      have hlen := hL.len
      have h0 := hS.lack0
      obtain ⟨a1, a2, a3, a4⟩ := planW hb hB r _ q hq hS.left_ (fun x hx => hw x (by simp [hx]))
      refine ⟨fun rest => ?_, a2, ?_, fun i hi => ?_⟩
      · simp only [List.flatten_cons, List.append_assoc]
        rw [give_pick (orderM lots left w) left w.f1 _ (fun i => ⟨hL.lo i, by have := hL.hi i; have := hB i; omega⟩) (hw w (by simp)) (fun i hi => by have := hO.mem i hi; omega)]
        exact a1 rest
      · have h1 := (hS.sum (fun _ => true) (fun _ _ _ => rfl)).1
        have h2 := hS.tot
        simp only [a3, h1, askL, List.map_cons, List.sum_cons]
        omega
      · cases i with
        | zero => exact give_takesW w hb hB hL (hw w (by simp)) (by omega)
        | succ i => exact a4 i (by simpa using hi)
theorem sumF_all : ∀ l : List BoxT, sumF (fun _ => true) l = sumB l
  | [] => rfl
  | b :: r => by have := sumF_all r; simp only [sumB] at this; simp [sumF, sumB, this]
theorem right_left {kinds : List KindT} {lots : List LotT} {boxes left : List BoxT} (hS : RightS kinds lots boxes) (hL : Left lots boxes left) (hs : sumB left ≤ 20000) : RightS kinds lots left where
  kinds_ := hS.kinds_
  lots_ := hS.lots_
  sum_ := hs
  boxes_ := fun b hb => by
    obtain ⟨i, hi, e⟩ := List.mem_iff_getElem.1 hb
    have e2 : b = left.getD i zB := by rw [← e]; simp [List.getD_eq_getElem?_getD, hi]
    have hib : i < boxes.length := by rw [← hL.len]; exact hi
    have h := hS.boxes_ _ (getD_mem boxes i zB hib)
    have h1 := hL.lot i
    have h2 := hL.lo i
    have h3 := hL.hi i
    unfold okBox at h ⊢
    unfold cnt at h2 h3
    rw [e2, h1.1, h1.2]
    omega
section
variable (kinds : List KindT) (lots : List LotT) (boxes : List BoxT) (wants : List WantT) (plan : List (List TakeT)) (fin : List BoxT)
theorem plans_l1 (hS : RightS kinds lots boxes) (h0 : kinds.length ≤ 20) (h1 : lots.length ≤ 20) (h2 : boxes.length ≤ 20) (hpl : plan.length = wants.length) (hp : wants.length ≤ 12) (hr : ∀ w ∈ wants, 0 ≤ w.f1 ∧ w.f1 ≤ 20000)
    (hT : ∀ i, i < wants.length → TakesW lots boxes (wants.getD i z43) (plan.getD i [])) (hL : Left lots boxes fin) (hpick : stock_Pick.f boxes plan.flatten = some (fin, 0)) (hsum : sumB fin = sumB boxes - askL wants) (hask : 0 ≤ askL wants ∧ askL wants ≤ 240000) (d : Nat) :
    ∀ (i : Nat) (all : List TakeT) (u : Int), wants.length - i = d → i ≤ wants.length → all.length ≤ 20 * i → 0 ≤ u → u ≤ 20000 * i → all ++ (plan.drop i).flatten = plan.flatten → u + askL (wants.drop i) = askL wants →
    Ev (fun k => taquinlaw35_StockPlans.l1 k wants true plan all u (i : Int) kinds lots boxes) true := by
  have hB := cnt_le hS.boxes_
  have hB0 := (left_self hS.boxes_).lo
  induction d with
  | zero =>
    intro i all u hd hi ha hu0 hu1 hall hu
    rw [List.drop_eq_nil_of_le (by omega)] at hall
    rw [List.drop_eq_nil_of_le (by omega)] at hu
    simp only [List.flatten_nil, List.append_nil] at hall
    simp only [askL, List.map_nil, List.sum_nil, Int.add_zero] at hu
    subst hall
    have hub : ∀ (l : List BoxT), Left lots boxes l → ∀ b ∈ l, 0 ≤ b.f1 ∧ b.f1 ≤ 20000 := fun l hl b hb => by
      obtain ⟨i, hi, e⟩ := List.mem_iff_getElem.1 hb
      have e2 : b = l.getD i zB := by rw [← e]; simp [List.getD_eq_getElem?_getD, hi]
      have h2 := hl.lo i
      have h3 := hl.hi i
      have h4 := hB i
      unfold cnt at h2 h3 h4
      rw [e2]; omega
    have hsb := sumB_bounds boxes (hub boxes (left_self hS.boxes_))
    have hs20 := hS.sum_
    obtain ⟨r, hr1, hr2⟩ := right_ev kinds lots fin h0 h1 (by rw [hL.len]; exact h2)
    have hrt : r = true := hr2.2 (right_left hS hL (by omega))
    subst hrt
    refine .s ?_
    simp only [taquinlaw35_StockPlans.l1]
    refine .n (by omega) (.b (.c hpick) (.p (by trivial) (.p (by trivial) (.b (units_ev fin (by rw [hL.len]; exact h2) (hub fin hL)) (.b (units_ev boxes h2 (hub boxes (left_self hS.boxes_))) (.p ?_ (.b hr1 (.r _))))))))
    have : u = askL wants := hu
    rw [w64 (by omega) (by omega)]
    omega
  | succ d ih =>
    intro i all u hd hi ha hu0 hu1 hall hu
    have hil : i < wants.length := by omega
    have hwr := hr _ (getD_mem wants i z43 hil)
    have hTi := hT i hil
    rw [drop_at plan i [] (by omega), List.flatten_cons] at hall
    rw [drop_at wants i z43 hil] at hu
    simp only [askL, List.map_cons, List.sum_cons] at hu
    have hlt := hTi.len
    refine .s ?_
    simp only [taquinlaw35_StockPlans.l1]
    refine .p (by omega) ?_
    refine plans_l2 kinds lots boxes wants plan hS hpl (by omega) i (by omega) _ rfl hwr _ rfl hTi all (by omega) u ⟨hu0, hu1⟩ true ?_ (plan.getD i []).length 0 0 (by omega) (by omega) (by omega) (by omega) (by simpa using hTi.sum)
    exact ih (i + 1) _ _ (by omega) (by omega) (by rw [List.length_append]; omega) (by omega) (by omega) (by rw [List.append_assoc]; exact hall) (by simp only [askL] at hu ⊢; omega)
end
theorem want_eq (w : WantT) : taquinref35_RightWant.f w.f0 w.f1 w.f2 = some (!wantBad w) := by
  unfold taquinref35_RightWant.f wantBad
  simp only [Bool.not_not, ge_iff_le]
  by_cases h1 : 0 ≤ w.f0 <;> by_cases h2 : 1 ≤ w.f1 <;> by_cases h3 : w.f1 ≤ 20000 <;> by_cases h4 : 0 ≤ w.f2 <;> by_cases h5 : w.f2 ≤ 20000 <;> simp [h1, h2, h3, h4, h5]
theorem flat_len (n : Nat) : ∀ (l : List (List TakeT)), (∀ x ∈ l, x.length ≤ n) → l.flatten.length ≤ n * l.length
  | [], _ => by simp
  | x :: r, h => by
    have h1 := flat_len n r (fun y hy => h y (by simp [hy]))
    have h2 := h x (by simp)
    simp only [List.flatten_cons, List.length_append, List.length_cons, Nat.mul_add, Nat.mul_one]
    omega
theorem ask_le : ∀ (ws : List WantT), (∀ w ∈ ws, 0 ≤ w.f1 ∧ w.f1 ≤ 20000) → 0 ≤ askL ws ∧ askL ws ≤ 20000 * ws.length
  | [], _ => by simp [askL]
  | w :: r, h => by
    have h1 := ask_le r (fun x hx => h x (by simp [hx]))
    have h2 := h w (by simp)
    simp only [askL, List.map_cons, List.sum_cons, List.length_cons] at h1 ⊢
    omega
theorem StockPlans (x0 : S26) (x1 : List WantT) (wf0 : wf26 x0) (wf1 : wfL wf43 x1) : ∃ k, taquinlaw35_StockPlans.f k x0.f0 x0.f1 x0.f2 x1 = some true := by
  obtain ⟨kinds, lots, boxes⟩ := x0
  simp only
  refine Ev.ex (f := fun k => taquinlaw35_StockPlans.f k kinds lots boxes x1) ?_
  obtain ⟨r, hr, hg⟩ := given_ev kinds lots boxes
  simp only [taquinlaw35_StockPlans.f]
  refine .b small_ev (.b hr ?_)
  have hout : Ev (fun k => taquinlaw35_StockPlans.j0 k x1 true true kinds lots boxes) true := by
    refine .s ?_
    simp only [taquinlaw35_StockPlans.j0]
    exact .p (by simp) (.r _)
  cases r with
  | false => exact .n (by simp) hout
  | true =>
    obtain ⟨h0, h1, h2, hS⟩ := hg rfl
    refine .p (by trivial) ?_
    by_cases hlen : (x1.length : Int) > 12
    · rw [show decide ((x1.length : Int) > 12) = true by simpa using hlen]; exact hout
    · rw [show decide ((x1.length : Int) > 12) = false by simpa using hlen]
      refine .s ?_
      simp only [taquinlaw35_StockPlans.j0]
      refine .n (by simp) ?_
      have hl12 : x1.length ≤ 12 := by omega
      have main : (∀ w ∈ x1, wantBad w = false) → Ev (fun k => taquinlaw35_StockPlans.l0 k x1 true ((x1.length : Nat) : Int) kinds lots boxes) true := fun hgood => by
        have hw : ∀ w ∈ x1, 0 ≤ w.f1 ∧ w.f1 ≤ 20000 ∧ w.f2 ≤ 20000 := fun w hw => by
          have h3 := hgood w hw
          simp only [wantBad, Bool.not_eq_false', decide_eq_true_eq] at h3
          omega
        have hP := plan_ev kinds lots boxes hS h2 x1 hl12
        rw [if_neg (by rw [Bool.not_eq_true, List.any_eq_false]; exact fun w hw => by simp [hgood w hw])] at hP
        obtain ⟨q, hq1, hq2⟩ := possible_ev kinds lots boxes x1 hS h2 hl12 hw
        refine .s ?_
        simp only [taquinlaw35_StockPlans.l0]
        refine .n (by omega) (.b hP (.b hq1 ?_))
        unfold planR
        cases hpl : planL lots x1 boxes with
        | none =>
          have hqf : q = false := by
            cases q with
            | false => rfl
            | true => obtain ⟨p, hp⟩ := hq2.1 rfl; rw [hpl] at hp; cases hp
          subst hqf
          refine .n (by simp) (.n (by simp) (.p (by simp) ?_))
          refine .s ?_
          simp only [taquinlaw35_StockPlans.j2]
          exact .n (by simp) (.n (by simp) (.r _))
        | some p =>
          have hqt : q = true := hq2.2 ⟨p, hpl⟩
          subst hqt
          obtain ⟨a1, a2, a3, a4⟩ := planW h2 (cnt_le hS.boxes_) x1 boxes p hpl (left_self hS.boxes_) (fun w hw' => (hw w hw').1)
          have hlen2 : p.1.length = x1.length := planL_lenP lots x1 boxes p hpl
          simp only [List.nil_append]
          refine .n (by simp) (.p (by trivial) ?_)
          refine .s ?_
          simp only [taquinlaw35_StockPlans.j2]
          refine .n (by simp) (.p (by trivial) (.p (by omega) ?_))
          have hask := ask_le x1 (fun w hw' => ⟨(hw w hw').1, (hw w hw').2.1⟩)
          have hmem : ∀ l ∈ p.1, ∃ i, i < x1.length ∧ p.1.getD i [] = l := fun l hl => by
            obtain ⟨i, hi, e⟩ := List.mem_iff_getElem.1 hl
            exact ⟨i, by omega, by rw [← e]; simp [List.getD_eq_getElem?_getD, hi]⟩
          have hfl := flat_len 20 p.1 (fun l hl => by obtain ⟨i, hi, e⟩ := hmem l hl; rw [← e]; exact (a4 i hi).len)
          have hall : ∀ t ∈ p.1.flatten, 0 ≤ t.f0 ∧ t.f0 < (boxes.length : Int) ∧ 1 ≤ t.f1 := fun t ht => by
            obtain ⟨l, hl, htl⟩ := List.mem_flatten.1 ht
            obtain ⟨i, hi, e⟩ := hmem l hl
            have := (a4 i hi).ok t (by rw [e]; exact htl)
            exact ⟨this.1, this.2.1, this.2.2.1⟩
          have hpick : stock_Pick.f boxes p.1.flatten = some (p.2, 0) := by
            have e := a1 []
            rw [List.append_nil] at e
            unfold stock_Pick.f
            rw [if_pos ⟨by omega, by omega⟩, if_neg, if_neg, e]
            · rfl
            · rw [Bool.not_eq_true, List.any_eq_false]
              intro t ht
              have := hall t ht
              simp [badN]; omega
            · rw [Bool.not_eq_true, List.any_eq_false]
              intro t ht
              have := hall t ht
              intro hbad
              unfold badBox at hbad
              rw [w64 (by omega) (by omega)] at hbad
              simp at hbad
              omega
          exact plans_l1 kinds lots boxes x1 p.1 p.2 hS h0 h1 h2 hlen2 hl12 (fun w hw' => ⟨(hw w hw').1, (hw w hw').2.1⟩) a4 a2 hpick (by rw [← sumF_all, ← sumF_all]; exact a3) ⟨hask.1, by omega⟩ x1.length 0 [] 0 (by omega) (by omega) (by simp) (by omega) (by omega) (by simp) (by simp)
      have hloop : ∀ d i : Nat, x1.length - i = d → i ≤ x1.length → (∀ w ∈ x1.take i, wantBad w = false) → Ev (fun k => taquinlaw35_StockPlans.l0 k x1 true (i : Int) kinds lots boxes) true := by
        intro d
        induction d with
        | zero =>
          intro i hd hi hgood
          obtain rfl : i = x1.length := by omega
          rw [List.take_of_length_le (Nat.le_refl _)] at hgood
          exact main hgood
        | succ d ih =>
          intro i hd hi hgood
          have hil : i < x1.length := by omega
          refine .s ?_
          simp only [taquinlaw35_StockPlans.l0, rdWant]
          refine .p (by omega) (.p (by omega) (.b (.c (want_eq _)) ?_))
          cases hbw : wantBad (x1.getD i z43) with
          | true => exact .n (by simp) (.r _)
          | false =>
            refine .p (by simp) ?_
            rw [w64 (by omega) (by omega)]
            refine ih (i + 1) (by omega) (by omega) (fun w hw => ?_)
            rw [List.take_succ_eq_append_getElem hil] at hw
            rcases List.mem_append.1 hw with hw | hw
            · exact hgood w hw
            · have e : w = x1.getD i z43 := by simp only [List.mem_singleton] at hw; rw [hw]; simp [List.getD_eq_getElem?_getD, hil]
              rw [e]; exact hbw
      exact hloop x1.length 0 (by omega) (by omega) (by simp)
end Go.Proofs.Ytemcplbldfldlaa.P
