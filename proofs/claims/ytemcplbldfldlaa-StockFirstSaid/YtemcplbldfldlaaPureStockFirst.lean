/- StockFirst holds: the pure statement behind the printed walk; no condition. -/
import Derived.Test.YtemcplbldfldlaaGPlanEv
import Derived.Test.YtemcplbldfldlaaGTypes
import Derived.Test.YtemcplbldfldlaaPx10
namespace Go.Proofs.Ytemcplbldfldlaa.P
open Go.RowKit Go.Proofs.YtemcplbldfldlaaW.PrintWords Go.Proofs.YtemcplbldfldlaaW.PrintLast Go.Proofs.YtemcplbldfldlaaW.PrintMore
set_option linter.unusedVariables false
set_option linter.unusedSimpArgs false
theorem rdBoxN (l : List BoxT) (i : Nat) : rd_T38 l (i : Int) = l.getD i zB := rdBox l i
theorem has_eq (lots : List LotT) (x : WantT) (b : BoxT) (h : b.f0 < (lots.length : Int)) : taquinref35_Has.f lots b.f0 b.f1 b.f2 x.f0 x.f1 x.f2 = some (fitB lots x b) := by
  unfold taquinref35_Has.f fitB fitL taquinref35_Fits.f
  by_cases h0 : b.f0 < 0
  · rw [if_pos h0]
    simp [show ¬ (0 : Int) ≤ b.f0 by omega]
  · rw [if_neg h0, if_neg (by omega), if_pos (by omega), if_pos h]
    by_cases h2 : (rd_T40 lots b.f0).f0 = x.f0
    · rw [if_pos h2]
      cases h3 : (rd_T40 lots b.f0).f2 <;> simp [h2, show (0 : Int) ≤ b.f0 by omega]
    · rw [if_neg h2]; simp [h2]
/-- The takes, one after the other. -/
def applyT (l : List BoxT) : List TakeT → List BoxT
  | [] => l
  | t :: r => applyT (less l t.f0.toNat t.f1) r
def lastT (key : Int → Int) (a : Int) : List TakeT → Int
  | [] => a
  | t :: r => lastT key (mx a (key t.f0)) r
theorem lastT_le (key : Int → Int) (b : Int) : ∀ (r : List TakeT) (a : Int), a ≤ b → (∀ t ∈ r, key t.f0 ≤ b) → lastT key a r ≤ b
  | [], a, h, _ => h
  | t :: r, a, h, hr => lastT_le key b r _ (by have := hr t (by simp); unfold mx; split <;> omega) (fun x hx => hr x (by simp [hx]))
structure TakesOk (lots : List LotT) (boxes : List BoxT) (w : WantT) (r : List TakeT) : Prop where
  len : r.length ≤ 20
  ok : ∀ t ∈ r, 0 ≤ t.f0 ∧ t.f0 < (boxes.length : Int) ∧ 0 < t.f1 ∧ t.f1 ≤ 20000 ∧ fitB lots w (boxes.getD t.f0.toNat zB) = true
theorem give_takes {lots : List LotT} {boxes : List BoxT} (hB : ∀ i, cnt boxes i ≤ 20000) (w : WantT) : ∀ (ord : List Int) (left : List BoxT) (need : Int), Left lots boxes left → 0 ≤ need → (∀ i ∈ ord, 0 ≤ i ∧ i < (boxes.length : Int) ∧ fitB lots w (boxes.getD i.toNat zB) = true) →
    applyT left (giveL ord left need).1 = (giveL ord left need).2.1 ∧ (giveL ord left need).1.length ≤ ord.length ∧ ∀ t ∈ (giveL ord left need).1, 0 ≤ t.f0 ∧ t.f0 < (boxes.length : Int) ∧ 0 < t.f1 ∧ t.f1 ≤ 20000 ∧ fitB lots w (boxes.getD t.f0.toNat zB) = true
  | [], left, need, h, hn, _ => ⟨rfl, Nat.le_refl _, fun t ht => by simp [giveL] at ht⟩
  | i :: r, left, need, h, hn, hr => by
    have hi := hr i (by simp)
    have hc := h.lo i.toNat
    have hc1 := h.hi i.toNat
    have hc2 := hB i.toNat
    have hm := mn_le need (cnt left i.toNat)
    have hL2 := give_left [i] left need h hn (by intro k hk; simp only [List.mem_singleton] at hk; rw [hk]; exact ⟨hi.1, hi.2.1⟩)
    unfold giveL at hL2 ⊢
    by_cases h0 : mn need (cnt left i.toNat) = 0
    · rw [if_pos h0]; exact ⟨rfl, by simp, fun t ht => by simp at ht⟩
    · rw [if_neg h0] at hL2 ⊢
      simp only [giveL] at hL2
      obtain ⟨a1, a2, a3⟩ := give_takes hB w r _ (need - mn need (cnt left i.toNat)) hL2.1 hL2.2.1 (fun j hj => hr j (by simp [hj]))
      refine ⟨?_, by simp only [List.length_cons]; omega, fun t ht => ?_⟩
      · simp only [applyT]; exact a1
      · simp only [List.mem_cons] at ht
        rcases ht with rfl | ht
        · exact ⟨hi.1, hi.2.1, by simp only; omega, by simp only; omega, hi.2.2⟩
        · exact a3 t ht
theorem fitB_lot (lots : List LotT) (w : WantT) (a b : BoxT) (h : a.f0 = b.f0) : fitB lots w a = fitB lots w b := by unfold fitB; rw [h]
theorem keyB_left {lots : List LotT} {boxes left : List BoxT} (h : Left lots boxes left) (i : Int) : keyB lots left i = keyB lots boxes i := by
  unfold keyB; rw [rdBoxI, rdBoxI, (h.lot i.toNat).1]
theorem planL_len (lots : List LotT) : ∀ (ws : List WantT) (left : List BoxT) (p : List (List TakeT) × List BoxT), planL lots ws left = some p → p.1.length = ws.length
  | [], left, p, h => by simp only [planL, Option.some.injEq] at h; subst h; rfl
  | w :: r, left, p, h => by
    unfold planL at h
    by_cases hz : (giveL (orderM lots left w) left w.f1).2.2 > 0
    · rw [if_pos hz] at h; cases h
    · rw [if_neg hz] at h
      obtain ⟨q, hq, rfl⟩ := Option.map_eq_some_iff.1 h
      simp [planL_len lots r _ q hq]
section
variable (kinds : List KindT) (lots : List LotT) (boxes : List BoxT) (wants : List WantT) (plan : List (List TakeT))
theorem first_l2 (hS : RightS kinds lots boxes) (hb : boxes.length ≤ 20) (hw : wants.length ≤ 12) (i : Nat) (hi : i < wants.length) (left : List BoxT) (hL : Left lots boxes left) (last : Int)
    (hl : ∀ b : Nat, b < left.length → fitB lots (wants.getD i z43) (left.getD b zB) = true → 0 < cnt left b → last ≤ keyB lots boxes b) (v : Bool)
    (he : Ev (fun k => taquinlaw35_StockFirst.l0 k wants true plan left ((i + 1 : Nat) : Int) kinds lots boxes) v) (d : Nat) : ∀ (b : Nat), left.length - b = d → b ≤ left.length →
    Ev (fun k => taquinlaw35_StockFirst.l2 k wants true plan left (i : Int) last (b : Int) kinds lots boxes) v := by
  have hlen := hL.len
  induction d with
  | zero =>
    intro b hd hb'
    refine .s ?_
    simp only [taquinlaw35_StockFirst.l2]
    refine .n (by omega) ?_
    rw [w64 (by omega) (by omega)]
    exact he
  | succ d ih =>
    intro b hd hb'
    have hbl : b < boxes.length := by omega
    have hok := hS.boxes_ _ (getD_mem boxes b zB hbl)
    unfold okBox at hok
    rw [← (hL.lot b).1] at hok
    refine .s ?_
    simp only [taquinlaw35_StockFirst.l2, rdBoxN, rdWant]
    refine .p (by omega) (.p (by omega) (.p (by omega) (.p (by omega) (.b (.c (has_eq lots _ _ (by omega))) ?_))))
    have hnext := ih (b + 1) (by omega) (by omega)
    by_cases hf : fitB lots (wants.getD i z43) (left.getD b zB) = true
    · refine .p hf ?_
      refine .s ?_
      simp only [taquinlaw35_StockFirst.j6, rdBoxN]
      have hf0 : 0 ≤ (left.getD b zB).f0 := by unfold fitB at hf; simp only [Bool.and_eq_true, decide_eq_true_eq] at hf; exact hf.1
      by_cases hp : (left.getD b zB).f1 > 0
      · refine .p (by simpa using hp) (.p (by omega) (.p (by omega) (.p (by omega) (.p (by omega) (.n ?_ ?_)))))
        · have := hl b (by omega) hf hp
          rw [← keyB_left hL] at this
          unfold keyB at this
          rw [rdBoxN] at this
          omega
        · rw [w64 (by omega) (by omega)]; exact hnext
      · refine .n (by simpa using hp) ?_
        rw [w64 (by omega) (by omega)]; exact hnext
    · refine .n hf ?_
      refine .s ?_
      simp only [taquinlaw35_StockFirst.j6]
      refine .n (by simp) ?_
      rw [w64 (by omega) (by omega)]; exact hnext
theorem first_l1 (hS : RightS kinds lots boxes) (hb : boxes.length ≤ 20) (i : Nat) (hi : i < plan.length) (hp : plan.length ≤ 12) (w : WantT) (t : List TakeT) (ht : plan.getD i [] = t) (hT : TakesOk lots boxes w t) (v : Bool) (d : Nat) :
    ∀ (j : Nat) (left : List BoxT) (last : Int), t.length - j = d → j ≤ t.length → left.length = boxes.length → (∀ i, (left.getD i zB).f0 = (boxes.getD i zB).f0) → (∀ i, -20000 * (j : Int) ≤ cnt left i ∧ cnt left i ≤ 20000) →
    Ev (fun k => taquinlaw35_StockFirst.l2 k wants true plan (applyT left (t.drop j)) (i : Int) (lastT (keyB lots boxes) last (t.drop j)) 0 kinds lots boxes) v →
    Ev (fun k => taquinlaw35_StockFirst.l1 k wants true plan left (i : Int) last (j : Int) kinds lots boxes) v := by
  have hrd : rd_L10 plan (i : Int) = t := by rw [← ht]; simp [rd_L10]
  have hT20 := hT.len
  induction d with
  | zero =>
    intro j left last hd hj hl hlot hc he
    rw [List.drop_eq_nil_of_le (by omega)] at he
    refine .s ?_
    simp only [taquinlaw35_StockFirst.l1, hrd]
    exact .p (by omega) (.p (by omega) (.n (by omega) he))
  | succ d ih =>
    intro j left last hd hj hl hlot hc he
    have hjl : j < t.length := by omega
    rw [drop_at t j z36 hjl] at he
    have hok := hT.ok _ (getD_mem t j z36 hjl)
    generalize hq : t.getD j z36 = y at he hok
    have hbx := hS.boxes_ _ (getD_mem boxes y.f0.toNat zB (by omega))
    unfold okBox at hbx
    rw [← hlot] at hbx
    have hf0 : 0 ≤ (left.getD y.f0.toNat zB).f0 := by
      have hf := hok.2.2.2.2
      rw [← fitB_lot lots w _ _ (hlot y.f0.toNat)] at hf
      unfold fitB at hf; simp only [Bool.and_eq_true, decide_eq_true_eq] at hf; exact hf.1
    have hcy := hc y.f0.toNat
    have hyl : y.f0.toNat < left.length := by omega
    have hset : left.set y.f0.toNat ⟨(left.getD y.f0.toNat zB).f0, wrap64 ((left.getD y.f0.toNat zB).f1 - y.f1), (left.getD y.f0.toNat zB).f2⟩ = less left y.f0.toNat y.f1 := by
      unfold cnt at hcy
      rw [w64 (by omega) (by omega)]; rfl
    have hlo := fun k => (less_lot left y.f0.toNat k y.f1 hyl).1
    refine .s ?_
    simp only [taquinlaw35_StockFirst.l1, hrd, rdTake, hq]
    refine .p (by omega) (.p (by omega) (.p (by omega) (.p (by omega) (.n (by omega) ?_))))
    refine .s ?_
    simp only [taquinlaw35_StockFirst.j4, hrd, rdTake, hq, Option.bind_some, rdBoxI, hset, hlo]
    refine .n (by simp; omega) (.p (by omega) (.p (by omega) (.p (by omega) (.p (by omega) (.p (by omega) (.p (by omega) (.n (by omega) (.n (by omega) (.p (by omega) (.p (by omega) ?_))))))))))
    rw [w64 (show -9223372036854775808 ≤ (j : Int) + 1 by omega) (by omega)]
    have hkey : (rd_T40 lots (left.getD y.f0.toNat zB).f0).f1 = keyB lots boxes y.f0 := by
      unfold keyB; rw [rdBoxI, hlot]
    rw [hkey]
    refine ih (j + 1) (less left y.f0.toNat y.f1) _ (by omega) (by omega) (by rw [less_len]; exact hl) (fun k => by rw [hlo, hlot]) (fun k => ?_) (by simpa [applyT, lastT] using he)
    have hck := hc k
    rw [less_cnt left y.f0.toNat k y.f1 hyl]
    split
    · omega
    · omega
theorem first_l0 (hS : RightS kinds lots boxes) (hb : boxes.length ≤ 20) (hw : wants.length ≤ 12) (hr : ∀ w ∈ wants, 0 ≤ w.f1 ∧ w.f1 ≤ 20000) (hpl : plan.length = wants.length) (d : Nat) : ∀ (i : Nat) (left : List BoxT) (p : List (List TakeT) × List BoxT), wants.length - i = d → i ≤ wants.length → Left lots boxes left →
    planL lots (wants.drop i) left = some p → plan.drop i = p.1 → Ev (fun k => taquinlaw35_StockFirst.l0 k wants true plan left (i : Int) kinds lots boxes) true := by
  induction d with
  | zero =>
    intro i left p hd hi hL h1 h2
    refine .s ?_
    simp only [taquinlaw35_StockFirst.l0]
    exact .n (by omega) (.r _)
  | succ d ih =>
    intro i left p hd hi hL h1 h2
    have hil : i < wants.length := by omega
    rw [drop_at wants i z43 hil] at h1
    rw [drop_at plan i [] (by omega)] at h2
    have hwr := hr _ (getD_mem wants i z43 hil)
    unfold planL at h1
    generalize hq : wants.getD i z43 = w at h1 hwr
    by_cases hz : (giveL (orderM lots left w) left w.f1).2.2 > 0
    · rw [if_pos hz] at h1; cases h1
    · rw [if_neg hz] at h1
      obtain ⟨q, hq2, rfl⟩ := Option.map_eq_some_iff.1 h1
      simp only [List.cons.injEq] at h2
      have hO := orderM_ok lots left w
      have hlen := hL.len
      have hol : (orderM lots left w).length ≤ 20 := by unfold orderM; rw [isort_len]; have := fitUpto_len lots left w left.length; omega
      have hfb : ∀ j ∈ orderM lots left w, 0 ≤ j ∧ j < (boxes.length : Int) ∧ fitB lots w (boxes.getD j.toNat zB) = true := fun j hj => by
        obtain ⟨g1, g2, g3, g4⟩ := hO.mem j hj
        exact ⟨g1, by omega, by rw [← fitB_lot lots w _ _ (hL.lot j.toNat).1]; exact g4⟩
      obtain ⟨t1, t2, t3⟩ := give_takes (cnt_le hS.boxes_) w (orderM lots left w) left w.f1 hL hwr.1 hfb
      have hG := give_left (orderM lots left w) left w.f1 hL hwr.1 (fun j hj => ⟨(hfb j hj).1, (hfb j hj).2.1⟩)
      refine .s ?_
      simp only [taquinlaw35_StockFirst.l0]
      refine .p (by omega) ?_
      refine first_l1 kinds lots boxes wants plan hS hb i (by omega) (by omega) w _ h2.1 ⟨by omega, t3⟩ true (giveL (orderM lots left w) left w.f1).1.length 0 left (-1) (by omega) (by omega) hlen (fun k => (hL.lot k).1) (fun k => ⟨by have := hL.lo k; omega, by have := hL.hi k; have := cnt_le hS.boxes_ k; omega⟩) ?_
      simp only [List.drop_zero, t1]
      refine first_l2 kinds lots boxes wants plan hS hb hw i hil _ hG.1 _ ?_ true (ih (i + 1) _ q (by omega) (by omega) hG.1 hq2 h2.2) (giveL (orderM lots left w) left w.f1).2.1.length 0 (by omega) (by omega)
      intro b hb1 hb2 hb3
      rw [hq] at hb2
      have hc := hG.2.2.2 b
      have hbl : b < left.length := by rw [hG.1.len] at hb1; omega
      have hmem : (b : Int) ∈ orderM lots left w := hO.all b hbl (by omega) (by rw [fitB_lot lots w _ _ ((hL.lot b).1.trans (hG.1.lot b).1.symm)]; exact hb2)
      have hnd : ((orderM lots left w).map Int.toNat).Nodup := by
        refine List.Pairwise.map _ (fun a b (hab : a ≠ b ∧ 0 ≤ a ∧ 0 ≤ b) => ?_) (List.Pairwise.imp_of_mem (fun {a b} ha hb hab => ⟨hab, (hfb a ha).1, (hfb b hb).1⟩) hO.nodup)
        omega
      have hgf := give_first (keyB lots left) (orderM lots left w) left w.f1 hL.lo hwr.1 hO.asc hnd (fun j hj => ⟨(hfb j hj).1, by have := (hfb j hj).2.1; omega⟩) (b : Int) hmem (by simpa using hb3)
      have hbx := hS.boxes_ _ (getD_mem boxes b zB (by omega))
      unfold okBox at hbx
      have hk0 : 0 ≤ keyB lots boxes b := by
        unfold keyB
        rw [rdBoxN]
        have h0 : 0 ≤ (boxes.getD b zB).f0 := by
          rw [fitB_lot lots w _ _ (hG.1.lot b).1] at hb2
          unfold fitB at hb2; simp only [Bool.and_eq_true, decide_eq_true_eq] at hb2; exact hb2.1
        have := hS.lots_ _ (getD_mem lots (boxes.getD b zB).f0.toNat z40 (by omega))
        unfold okLot at this
        unfold rd_T40
        omega
      refine lastT_le _ _ _ _ (by omega) (fun t ht => ?_)
      have := hgf t ht
      rwa [keyB_left hL, keyB_left hL] at this
end
theorem StockFirst (x0 : S26) (x1 : List WantT) (wf0 : wf26 x0) (wf1 : wfL wf43 x1) : ∃ k, taquinlaw35_StockFirst.f k x0.f0 x0.f1 x0.f2 x1 = some true := by
  obtain ⟨kinds, lots, boxes⟩ := x0
  simp only
  refine Ev.ex (f := fun k => taquinlaw35_StockFirst.f k kinds lots boxes x1) ?_
  obtain ⟨r, hr, hg⟩ := given_ev kinds lots boxes
  simp only [taquinlaw35_StockFirst.f]
  refine .b small_ev (.b hr ?_)
  have hout : Ev (fun k => taquinlaw35_StockFirst.j0 k x1 true true kinds lots boxes) true := by
    refine .s ?_
    simp only [taquinlaw35_StockFirst.j0]
    exact .p (by simp) (.r _)
  cases r with
  | false => exact .n (by simp) hout
  | true =>
    obtain ⟨h0, h1, h2, hS⟩ := hg rfl
    refine .p (by trivial) ?_
    by_cases hlen : (x1.length : Int) > 12
    · rw [show decide ((x1.length : Int) > 12) = true by simpa using hlen]; exact hout
    · rw [show decide ((x1.length : Int) > 12) = false by simpa using hlen]
      have hP := plan_ev kinds lots boxes hS h2 x1 (by omega)
      have herr : ∀ e : Int, e ≠ 0 → Ev (fun k => taquinlaw35_StockFirst.j1 k x1 true ([] : List (List TakeT)) e true kinds lots boxes) true := fun e he => by
        refine .s ?_
        simp only [taquinlaw35_StockFirst.j1]
        exact .p (by simp) (.p (by simp) ((Ev.r _).congr (by simp [he])))
      refine .s ?_
      simp only [taquinlaw35_StockFirst.j0]
      refine .n (by simp) (.b hP ?_)
      by_cases hbad : x1.any wantBad = true
      · rw [if_pos hbad]
        exact .n (by simp) (herr 1 (by omega))
      · rw [if_neg hbad]
        unfold planR
        cases hpl : planL lots x1 boxes with
        | none => exact .n (by simp) (herr 22 (by omega))
        | some p =>
          have hl := planL_len lots x1 boxes p hpl
          simp only [List.nil_append]
          refine .p (by trivial) ?_
          rw [show ((p.1.length : Int) != (x1.length : Int)) = false by simp [hl]]
          refine .s ?_
          simp only [taquinlaw35_StockFirst.j1, Option.bind_some, List.nil_append, List.length_nil]
          refine .n (by simp) (.p (by omega) ?_)
          have hr' : ∀ w ∈ x1, 0 ≤ w.f1 ∧ w.f1 ≤ 20000 := by
            intro w hw'
            have h2 : wantBad w = false := by
              have h3 := hbad
              rw [Bool.not_eq_true, List.any_eq_false] at h3
              simpa using h3 w hw'
            simp only [wantBad, Bool.not_eq_false', decide_eq_true_eq] at h2
            omega
          exact first_l0 kinds lots boxes x1 p.1 hS h2 (by omega) hr' hl x1.length 0 boxes p (by omega) (by omega) (left_self hS.boxes_) (by simpa using hpl) (by simp)
end Go.Proofs.Ytemcplbldfldlaa.P
