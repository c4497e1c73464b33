/- StockPicks holds: the pure statement behind the printed walk; no condition. -/
import Derived.Test.YtemcplbldfldlaaGPossible
import Derived.Test.YtemcplbldfldlaaGPick
import Derived.Test.YtemcplbldfldlaaGTypes
import Derived.Test.YtemcplbldfldlaaPx16
namespace Go.Proofs.Ytemcplbldfldlaa.P
open Go.RowKit Go.Proofs.YtemcplbldfldlaaW.PrintWords Go.Proofs.YtemcplbldfldlaaW.PrintLast Go.Proofs.YtemcplbldfldlaaW.PrintMore
set_option linter.unusedVariables false
set_option linter.unusedSimpArgs false
theorem has_eqK (lots : List LotT) (x : WantT) (b : BoxT) (h : b.f0 < (lots.length : Int)) : taquinref35_Has.f lots b.f0 b.f1 b.f2 x.f0 x.f1 x.f2 = some (fitB lots x b) := by
  unfold taquinref35_Has.f fitB fitL taquinref35_Fits.f
  by_cases h0 : b.f0 < 0
  · rw [if_pos h0]
    simp [show ¬ (0 : Int) ≤ b.f0 by omega]
  · rw [if_neg h0, if_neg (by omega), if_pos (by omega), if_pos h]
    by_cases h2 : (rd_T40 lots b.f0).f0 = x.f0
    · rw [if_pos h2]
      cases h3 : (rd_T40 lots b.f0).f2 <;> simp [h2, show (0 : Int) ≤ b.f0 by omega]
    · rw [if_neg h2]; simp [h2]
theorem kinds_weight : ∀ (l : List KindT) (seen : List (List UInt8)), kindsOk l seen = true → ∀ k ∈ l, 1 ≤ k.f1 ∧ k.f1 ≤ 10000
  | [], _, _, k, hk => by simp at hk
  | x :: r, seen, h, k, hk => by
    simp only [kindsOk, Bool.and_eq_true] at h
    rcases List.mem_cons.1 hk with rfl | hk
    · have := h.1.1
      simp only [kindOk, Bool.and_eq_true, decide_eq_true_eq] at this
      omega
    · exact kinds_weight r _ h.2 k hk
theorem rdBoxK (l : List BoxT) (i : Nat) : rd_T38 l (i : Int) = l.getD i zB := rdBox l i
theorem pickL_cons (b : List BoxT) (t : TakeT) (r : List TakeT) : pickL b (t :: r) = if t.f1 > (b.getD t.f0.toNat zB).f1 then none else pickL (b.set t.f0.toNat ⟨(b.getD t.f0.toNat zB).f0, wrap64 ((b.getD t.f0.toNat zB).f1 - t.f1), (b.getD t.f0.toNat zB).f2⟩) r := rfl
/-- What the takes ask of box i. -/
def sumT (i : Nat) : List TakeT → Int
  | [] => 0
  | t :: r => (if t.f0 = (i : Int) then t.f1 else 0) + sumT i r
theorem sumT_nonneg (i : Nat) : ∀ l : List TakeT, (∀ t ∈ l, 1 ≤ t.f1) → 0 ≤ sumT i l
  | [], _ => by simp [sumT]
  | t :: r, h => by
    have h1 := sumT_nonneg i r (fun x hx => h x (by simp [hx]))
    have h2 := h t (by simp)
    simp only [sumT]
    split <;> omega
theorem sumT_drop (l : List TakeT) (i j : Nat) (h : j < l.length) : sumT i (l.drop j) = (if (l.getD j z36).f0 = (i : Int) then (l.getD j z36).f1 else 0) + sumT i (l.drop (j + 1)) := by
  rw [drop_at l j z36 h, sumT]
theorem pickL_app : ∀ (a r : List TakeT) (b : List BoxT), pickL b (a ++ r) = (pickL b a).bind (fun c => pickL c r)
  | [], r, b => rfl
  | t :: a, r, b => by
    simp only [List.cons_append, pickL]
    split
    · rfl
    · exact pickL_app a r _
structure Picked (boxes c : List BoxT) (a : List TakeT) : Prop where
  len : c.length = boxes.length
  lot : ∀ i, (c.getD i zB).f0 = (boxes.getD i zB).f0 ∧ (c.getD i zB).f2 = (boxes.getD i zB).f2
  cnt_ : ∀ i, cnt c i = cnt boxes i - sumT i a
  lo : ∀ i, 0 ≤ cnt c i
theorem pick_get : ∀ (a : List TakeT) (b c : List BoxT), (∀ i, 0 ≤ cnt b i ∧ cnt b i ≤ 20000) → (∀ t ∈ a, 0 ≤ t.f0 ∧ t.f0 < (b.length : Int) ∧ 1 ≤ t.f1) → pickL b a = some c → Picked b c a
  | [], b, c, hB, _, h => by
    obtain rfl : b = c := by simpa [pickL] using h
    exact ⟨rfl, fun _ => ⟨rfl, rfl⟩, fun i => by simp [sumT], fun i => (hB i).1⟩
  | t :: r, b, c, hB, ha, h => by
    have ht := ha t (by simp)
    have hil : t.f0.toNat < b.length := by omega
    have hb0 := hB t.f0.toNat
    unfold cnt at hb0
    rw [pickL_cons] at h
    by_cases hc : t.f1 > (b.getD t.f0.toNat zB).f1
    · rw [if_pos hc] at h; cases h
    · rw [if_neg hc] at h
      rw [w64 (by omega) (by omega)] at h
      change pickL (less b t.f0.toNat t.f1) r = some c at h
      have hl := less_len b t.f0.toNat t.f1
      have hcn := fun i => less_cnt b t.f0.toNat i t.f1 hil
      have hP := pick_get r (less b t.f0.toNat t.f1) c (fun i => by
        rw [hcn i]
        have := hB i
        have h4 := hB t.f0.toNat
        unfold cnt at h4 ⊢
        unfold cnt at this
        split <;> omega) (fun x hx => by rw [hl]; exact ha x (by simp [hx])) h
      refine ⟨by rw [hP.len, hl], fun i => ⟨(hP.lot i).1.trans (less_lot b _ i _ hil).1, (hP.lot i).2.trans (less_lot b _ i _ hil).2⟩, fun i => ?_, hP.lo⟩
      rw [hP.cnt_ i, hcn i]
      simp only [sumT]
      by_cases hi : t.f0.toNat = i
      · rw [if_pos hi, if_pos (by omega), hi]; omega
      · rw [if_neg hi, if_neg (by omega)]; omega
theorem mulB {a b : Int} (ha : 0 ≤ a ∧ a ≤ 20000) (hb : 0 ≤ b ∧ b ≤ 10000) : 0 ≤ a * b ∧ a * b ≤ 200000000 := by
  refine ⟨Int.mul_nonneg ha.1 hb.1, ?_⟩
  have h1 := Int.mul_le_mul_of_nonneg_right ha.2 hb.1
  have h2 : 20000 * b ≤ 200000000 := by omega
  omega
theorem sameBoxes_l0 (l : List BoxT) (hl : l.length ≤ 1000) (d : Nat) : ∀ i : Nat, l.length - i = d → i ≤ l.length → Ev (fun k => taquinref35_SameBoxes.l0 k l l (i : Int)) true := by
  induction d with
  | zero =>
    intro i hd hi
    refine .s ?_
    simp only [taquinref35_SameBoxes.l0]
    exact .n (by omega) (.r _)
  | succ d ih =>
    intro i hd hi
    refine .s ?_
    simp only [taquinref35_SameBoxes.l0]
    refine .p (by omega) (.p (by omega) (.p (by omega) (.n (by simp) ?_)))
    rw [w64 (by omega) (by omega)]
    exact ih (i + 1) (by omega) (by omega)
theorem sameBoxes_ev (l : List BoxT) (hl : l.length ≤ 1000) : Ev (fun k => taquinref35_SameBoxes.f k l l) true := by
  have := sameBoxes_l0 l hl l.length 0 (by omega) (by omega)
  simpa [taquinref35_SameBoxes.f] using this
theorem weight_no (kinds : List KindT) (lots : List LotT) (b : BoxT) (h : b.f0 < 0) : stock_Weight.f kinds lots b.f0 b.f1 b.f2 = some b.f2 := by
  unfold stock_Weight.f; rw [if_pos h]
/-- The weight of a unit of a box. -/
def unitW (kinds : List KindT) (lots : List LotT) (b : BoxT) : Int := (rd_T53 kinds (rd_T40 lots b.f0).f0).f1
theorem weight_yes (kinds : List KindT) (lots : List LotT) (b : BoxT) (h : 0 ≤ b.f0) (h1 : b.f0 < (lots.length : Int)) (h2 : 0 ≤ (rd_T40 lots b.f0).f0) (h3 : (rd_T40 lots b.f0).f0 < (kinds.length : Int))
    (hW : 0 ≤ unitW kinds lots b ∧ unitW kinds lots b ≤ 10000) (hc : 0 ≤ b.f1 ∧ b.f1 ≤ 20000) (ht : 0 ≤ b.f2 ∧ b.f2 ≤ 1000000) : stock_Weight.f kinds lots b.f0 b.f1 b.f2 = some (b.f2 + b.f1 * unitW kinds lots b) := by
  have hm := mulB hc hW
  unfold stock_Weight.f
  rw [if_neg (by omega), if_pos h, if_pos h1, if_pos h2, if_pos h3]
  change some (wrap64 (b.f2 + wrap64 (b.f1 * unitW kinds lots b))) = _
  rw [w64 (show -9223372036854775808 ≤ b.f1 * unitW kinds lots b by omega) (by omega), w64 (by omega) (by omega)]
section
variable (kinds : List KindT) (lots : List LotT) (boxes : List BoxT) (w : WantT) (a : List TakeT) (c : List BoxT)
theorem picks_l1 (hS : RightS kinds lots boxes) (h1 : lots.length ≤ 20) (h2 : boxes.length ≤ 20) (ha : a.length ≤ 10) (hat : ∀ t ∈ a, 1 ≤ t.f1) (hP : Picked boxes c a) (i : Nat) (hi : i < boxes.length) (g : Int) (hg : 0 ≤ g ∧ g ≤ 20000 * i)
    (he : Ev (fun k => taquinlaw35_StockPicks.l0 k a true c (g + (if fitB lots w (boxes.getD i zB) = true then sumT i a else 0)) ((i + 1 : Nat) : Int) kinds lots boxes w.f0 w.f1 w.f2) true) (d : Nat) :
    ∀ (j : Nat) (n : Int), a.length - j = d → j ≤ a.length → 0 ≤ n → n + sumT i (a.drop j) = sumT i a →
    Ev (fun k => taquinlaw35_StockPicks.l1 k a true c g (i : Int) n (j : Int) kinds lots boxes w.f0 w.f1 w.f2) true := by
  have hok := hS.boxes_ _ (getD_mem boxes i zB hi)
  unfold okBox at hok
  have hcn := hP.cnt_ i
  have hlo := hP.lo i
  have hlt := hP.lot i
  have hlen := hP.len
  have hnn := sumT_nonneg i a hat
  unfold cnt at hcn hlo
  induction d with
  | zero =>
    intro j n hd hj hn hs
    rw [List.drop_eq_nil_of_le (by omega)] at hs
    simp only [sumT, Int.add_zero] at hs
    subst hs
    have hfin : ∀ x21 : Int, (sumT i a * x21 = sumT i a * x21) → True := fun _ _ => trivial
    have hj5 : Ev (fun k => taquinlaw35_StockPicks.j5 k a true c g (i : Int) (sumT i a) (((rd_T38 c (i : Int)).f2) != ((rd_T38 boxes (i : Int)).f2)) kinds lots boxes w.f0 w.f1 w.f2) true := by
      rw [rdBoxK, rdBoxK]
      rw [show (((c.getD i zB).f2) != ((boxes.getD i zB).f2)) = false by simp only [bne_eq_false_iff_eq]; exact hlt.2]
      refine .s ?_
      simp only [taquinlaw35_StockPicks.j5, rdBoxK]
      refine .n (by simp) (.p (by omega) (.p (by omega) (.b (.c (has_eqK lots w _ hok.2.2.2.1)) ?_)))
      rw [w64 (show -9223372036854775808 ≤ (i : Int) + 1 by omega) (by omega), w64 (show -9223372036854775808 ≤ g + sumT i a by omega) (by omega)]
      by_cases hf : fitB lots w (boxes.getD i zB) = true
      · rw [if_pos hf] at he; exact .p hf he
      · rw [if_neg hf, Int.add_zero] at he; exact .n hf he
    have hj4 : ∀ (x20 x21 : Int), x20 = wrap64 (sumT i a * x21) → Ev (fun k => taquinlaw35_StockPicks.j4 k a true c g (i : Int) (sumT i a) x20 x21 kinds lots boxes w.f0 w.f1 w.f2) true := by
      intro x20 x21 hx
      refine .s ?_
      simp only [taquinlaw35_StockPicks.j4]
      refine .p (by omega) (.p (by omega) (.p (by omega) (.p ?_ (.p hx (.p ?_ hj5)))))
      · rw [rdBoxK, rdBoxK, w64 (by change _ ≤ (boxes.getD i zB).f1 - sumT i a; omega) (by change (boxes.getD i zB).f1 - sumT i a ≤ _; omega)]; exact hcn
      · rw [rdBoxK, rdBoxK]; exact hlt.1
    refine .s ?_
    simp only [taquinlaw35_StockPicks.l1]
    refine .n (by omega) (.p (by omega) (.p (by omega) ?_))
    rw [rdBoxK, rdBoxK]
    by_cases hneg : (boxes.getD i zB).f0 < 0
    · have hz : sumT i a = 0 := by omega
      refine .b (.c (weight_no kinds lots (boxes.getD i zB) hneg)) (.p (by omega) (.b (.c (weight_no kinds lots (c.getD i zB) (by rw [hlt.1]; exact hneg))) (.n (by omega) ?_)))
      refine hj4 _ _ ?_
      rw [hlt.2, hz]
      simp
    · have hol := hS.lots_ _ (getD_mem lots (boxes.getD i zB).f0.toNat z40 (by omega))
      unfold okLot at hol
      have hW : 0 ≤ unitW kinds lots (boxes.getD i zB) ∧ unitW kinds lots (boxes.getD i zB) ≤ 10000 := by
        have := kinds_weight kinds [] hS.kinds_ _ (getD_mem kinds (lots.getD (boxes.getD i zB).f0.toNat z40).f0.toNat z53 (by omega))
        unfold unitW
        change 0 ≤ (kinds.getD (lots.getD (boxes.getD i zB).f0.toNat z40).f0.toNat z53).f1 ∧ (kinds.getD (lots.getD (boxes.getD i zB).f0.toNat z40).f0.toNat z53).f1 ≤ 10000
        omega
      have eW : unitW kinds lots (c.getD i zB) = unitW kinds lots (boxes.getD i zB) := by unfold unitW; rw [hlt.1]
      have hl0 : 0 ≤ (rd_T40 lots (boxes.getD i zB).f0).f0 := hol.1
      have hl1 : (rd_T40 lots (boxes.getD i zB).f0).f0 < (kinds.length : Int) := hol.2.1
      have w1 := weight_yes kinds lots (boxes.getD i zB) (by omega) (by omega) hl0 hl1 hW (by omega) (by omega)
      have w2 := weight_yes kinds lots (c.getD i zB) (by omega) (by omega) (by rw [hlt.1]; exact hl0) (by rw [hlt.1]; exact hl1) (by rw [eW]; exact hW) (by omega) (by omega)
      rw [eW] at w2
      have hm1 := mulB (show 0 ≤ (boxes.getD i zB).f1 ∧ (boxes.getD i zB).f1 ≤ 20000 by omega) hW
      have hm2 := mulB (show 0 ≤ (c.getD i zB).f1 ∧ (c.getD i zB).f1 ≤ 20000 by omega) hW
      have hm3 := mulB (show 0 ≤ sumT i a ∧ sumT i a ≤ 20000 by omega) hW
      have hdist : (c.getD i zB).f1 * unitW kinds lots (boxes.getD i zB) = (boxes.getD i zB).f1 * unitW kinds lots (boxes.getD i zB) - sumT i a * unitW kinds lots (boxes.getD i zB) := by rw [hcn, Int.sub_mul]
      refine .b (.c w1) (.p (by omega) (.b (.c w2) ?_))
      have hlight : wrap64 ((boxes.getD i zB).f2 + (boxes.getD i zB).f1 * unitW kinds lots (boxes.getD i zB) - ((c.getD i zB).f2 + (c.getD i zB).f1 * unitW kinds lots (boxes.getD i zB))) = sumT i a * unitW kinds lots (boxes.getD i zB) := by
        have := hlt.2
        rw [w64 (by omega) (by omega)]
        omega
      rw [hlight]
      by_cases hn0 : sumT i a > 0
      · refine .p hn0 (.n (by omega) (.p (by omega) (.p (by omega) (.p hl0 (.p hl1 ?_)))))
        refine hj4 _ _ ?_
        rw [w64]
        · rfl
        · change _ ≤ sumT i a * unitW kinds lots (boxes.getD i zB); omega
        · change sumT i a * unitW kinds lots (boxes.getD i zB) ≤ _; omega
      · refine .n hn0 (hj4 _ _ ?_)
        have hz : sumT i a = 0 := by omega
        rw [hz, Int.zero_mul]
        exact (w64 (n := 0) (by omega) (by omega)).symm
  | succ d ih =>
    intro j n hd hj hn hs
    have hjl : j < a.length := by omega
    have hat1 := hat _ (getD_mem a j z36 hjl)
    have hrest := sumT_nonneg i (a.drop (j + 1)) (fun t ht => hat t (List.mem_of_mem_drop ht))
    rw [sumT_drop a i j hjl] at hs
    refine .s ?_
    simp only [taquinlaw35_StockPicks.l1, rdTake]
    refine .p (by omega) (.p (by omega) ?_)
    rw [w64 (show -9223372036854775808 ≤ (j : Int) + 1 by omega) (by omega)]
    by_cases h3 : (a.getD j z36).f0 = (i : Int)
    · rw [if_pos h3] at hs
      refine .p h3 ?_
      rw [w64 (by omega) (by omega)]
      exact ih (j + 1) _ (by omega) (by omega) (by omega) (by omega)
    · rw [if_neg h3] at hs
      exact .n h3 (ih (j + 1) n (by omega) (by omega) (by omega) (by omega))
theorem picks_l0 (hS : RightS kinds lots boxes) (h1 : lots.length ≤ 20) (h2 : boxes.length ≤ 20) (ha : a.length ≤ 10) (hat : ∀ t ∈ a, 1 ≤ t.f1) (hP : Picked boxes c a) (d : Nat) :
    ∀ (i : Nat) (g : Int), boxes.length - i = d → i ≤ boxes.length → 0 ≤ g → g ≤ 20000 * i → g + (sumF (fitB lots w) (boxes.drop i) - sumF (fitB lots w) (c.drop i)) = sumF (fitB lots w) boxes - sumF (fitB lots w) c →
    Ev (fun k => taquinlaw35_StockPicks.l0 k a true c g (i : Int) kinds lots boxes w.f0 w.f1 w.f2) true := by
  have hlen := hP.len
  have hlot : ∀ b ∈ boxes, b.f0 < (lots.length : Int) := fun b hb => by have := hS.boxes_ b hb; unfold okBox at this; omega
  have hB : ∀ i, 0 ≤ cnt boxes i ∧ cnt boxes i ≤ 20000 := fun i => ⟨(left_self hS.boxes_).lo i, cnt_le hS.boxes_ i⟩
  have hBc : ∀ i, 0 ≤ cnt c i ∧ cnt c i ≤ 20000 := fun i => ⟨hP.lo i, by have := hP.cnt_ i; have h5 := hB i; have h6 := sumT_nonneg i a hat; omega⟩
  have hlotc : ∀ b ∈ c, b.f0 < (lots.length : Int) := fun b hb => by
    obtain ⟨j, hj, e⟩ := List.mem_iff_getElem.1 hb
    have e2 : b = c.getD j zB := by rw [← e]; simp [List.getD_eq_getElem?_getD, hj]
    rw [e2, (hP.lot j).1]
    exact hlot _ (getD_mem boxes j zB (by omega))
  induction d with
  | zero =>
    intro i g hd hi hg0 hg1 hs
    rw [List.drop_eq_nil_of_le (by omega), List.drop_eq_nil_of_le (by omega)] at hs
    simp only [sumF, Int.sub_zero, Int.add_zero] at hs
    have s1 := supply_ev lots c (by omega) hlotc hBc w
    have s2 := supply_ev lots boxes h2 hlot hB w
    have hn1 := sumF_nonneg (fitB lots w) c (fun i => (hBc i).1)
    have hn2 := sumF_nonneg (fitB lots w) boxes (fun i => (hB i).1)
    refine .s ?_
    simp only [taquinlaw35_StockPicks.l0]
    refine .n (by omega) (.p (by trivial) (.b s1 (.b s2 ((Ev.r _).congr ?_))))
    have hup : sumF (fitB lots w) boxes ≤ 20000 * 20 := by
      have : ∀ l : List BoxT, (∀ i, 0 ≤ cnt l i ∧ cnt l i ≤ 20000) → sumF (fitB lots w) l ≤ 20000 * l.length := by
        intro l
        induction l with
        | nil => intro _; simp [sumF]
        | cons b r ihl =>
          intro h
          have q1 := ihl (fun i => by have := h (i + 1); simpa [cnt] using this)
          have q2 := h 0
          simp only [cnt, List.getD_cons_zero] at q2
          simp only [sumF, List.length_cons]
          split <;> omega
      have := this boxes hB
      omega
    rw [w64 (by omega) (by omega)]
    simp only [beq_iff_eq]
    omega
  | succ d ih =>
    intro i g hd hi hg0 hg1 hs
    have hil : i < boxes.length := by omega
    rw [sumF_drop _ _ _ hil, sumF_drop _ c _ (by omega)] at hs
    have hfe : fitB lots w (c.getD i zB) = fitB lots w (boxes.getD i zB) := by unfold fitB; rw [(hP.lot i).1]
    rw [hfe] at hs
    have hcn := hP.cnt_ i
    have hnn := sumT_nonneg i a hat
    have hlo := hP.lo i
    have hb := hB i
    refine .s ?_
    simp only [taquinlaw35_StockPicks.l0]
    refine .p (by omega) ?_
    refine picks_l1 kinds lots boxes w a c hS h1 h2 ha hat hP i hil g ⟨hg0, hg1⟩ ?_ a.length 0 0 (by omega) (by omega) (by omega) (by simp)
    by_cases hf : fitB lots w (boxes.getD i zB) = true
    · rw [if_pos hf, if_pos hf] at hs
      rw [if_pos hf]
      exact ih (i + 1) _ (by omega) (by omega) (by omega) (by omega) (by omega)
    · rw [if_neg hf, if_neg hf] at hs
      rw [if_neg hf]
      exact ih (i + 1) _ (by omega) (by omega) (by omega) (by omega) (by omega)
end
theorem pick_ok {boxes c : List BoxT} {a : List TakeT} (hb : boxes.length ≤ 20) (ha : a.length ≤ 20) (h : stock_Pick.f boxes a = some (c, 0)) : pickL boxes a = some c ∧ a.any (badBox boxes.length) = false ∧ a.any badN = false ∧ ∀ t ∈ a, 0 ≤ t.f0 ∧ t.f0 < (boxes.length : Int) ∧ 1 ≤ t.f1 := by
  unfold stock_Pick.f at h
  rw [if_pos ⟨by omega, by omega⟩] at h
  cases e1 : a.any (badBox boxes.length) with
  | true => rw [e1] at h; simp at h
  | false =>
    cases e2 : a.any badN with
    | true => rw [e1, e2] at h; simp at h
    | false =>
      rw [e1, e2] at h
      refine ⟨?_, rfl, rfl, fun t ht => ?_⟩
      · cases e3 : pickL boxes a with
        | none => rw [e3] at h; simp at h
        | some b => rw [e3] at h; simp at h; rw [h]
      · have q1 := List.any_eq_false.1 e1 t ht
        have q2 := List.any_eq_false.1 e2 t ht
        unfold badBox at q1
        rw [w64 (by omega) (by omega)] at q1
        simp [badN] at q1 q2
        omega
/-- What Pick tells, with no limit asked. -/
def pickR (b : List BoxT) (a : List TakeT) : List BoxT × Int :=
  if a.any (badBox b.length) = true then ([], 4) else if a.any badN = true then ([], 1) else match pickL b a with
      | none => ([], 22)
      | some c => (c, 0)
theorem pick_R (b : List BoxT) (a : List TakeT) (h1 : b.length ≤ 20) (h2 : a.length ≤ 20) : stock_Pick.f b a = some (pickR b a) := by
  unfold stock_Pick.f pickR
  rw [if_pos ⟨by omega, by omega⟩]
  split
  · rfl
  · split
    · rfl
    · cases pickL b a <;> rfl
theorem pickR_app {boxes c : List BoxT} {a b : List TakeT} (hl : c.length = boxes.length) (h1 : pickL boxes a = some c) (h2 : a.any (badBox boxes.length) = false) (h3 : a.any badN = false) : pickR boxes (a ++ b) = pickR c b := by
  unfold pickR
  rw [List.any_append, List.any_append, h2, h3, hl, pickL_app, h1]
  simp
theorem pickL_len : ∀ (a : List TakeT) (b c : List BoxT), pickL b a = some c → c.length = b.length
  | [], b, c, h => by obtain rfl : b = c := by simpa [pickL] using h
                      rfl
  | t :: r, b, c, h => by
    rw [pickL] at h
    split at h
    · cases h
    · have := pickL_len r _ c h
      simpa using this
theorem pickR_len (b : List BoxT) (a : List TakeT) : (pickR b a).1.length ≤ b.length := by
  unfold pickR
  split
  · simp
  · split
    · simp
    · cases e : pickL b a with
      | none => simp
      | some c => simp [pickL_len a b c e]
theorem StockPicks (x0 : S26) (x1 x2 : List TakeT) (x3 : WantT) (wf0 : wf26 x0) (wf1 : wfL wf36 x1) (wf2 : wfL wf36 x2) (wf3 : wf43 x3) : ∃ k, taquinlaw35_StockPicks.f k x0.f0 x0.f1 x0.f2 x1 x2 x3.f0 x3.f1 x3.f2 = some true := by
  obtain ⟨kinds, lots, boxes⟩ := x0
  simp only
  refine Ev.ex (f := fun k => taquinlaw35_StockPicks.f k kinds lots boxes x1 x2 x3.f0 x3.f1 x3.f2) ?_
  obtain ⟨r, hr, hg⟩ := given_ev kinds lots boxes
  simp only [taquinlaw35_StockPicks.f]
  refine .b small_ev (.b hr ?_)
  have hout : Ev (fun k => taquinlaw35_StockPicks.j0 k x1 x2 true true kinds lots boxes x3.f0 x3.f1 x3.f2) true := by
    refine .s ?_
    simp only [taquinlaw35_StockPicks.j0]
    exact .p (by simp) (.r _)
  cases r with
  | false => exact .n (by simp) hout
  | true =>
    obtain ⟨h0, h1, h2, hS⟩ := hg rfl
    refine .p (by trivial) ?_
    by_cases ha : (x1.length : Int) > 10
    · exact .p ha hout
    · refine .n ha ?_
      by_cases hb : (x2.length : Int) > 10
      · rw [show decide ((x2.length : Int) > 10) = true by simpa using hb]; exact hout
      · rw [show decide ((x2.length : Int) > 10) = false by simpa using hb]
        have hB : ∀ i, 0 ≤ cnt boxes i ∧ cnt boxes i ≤ 20000 := fun i => ⟨(left_self hS.boxes_).lo i, cnt_le hS.boxes_ i⟩
        refine .s ?_
        simp only [taquinlaw35_StockPicks.j0]
        refine .n (by simp) (.b (.c (pick_R boxes x1 h2 (by omega))) ?_)
        by_cases he : (pickR boxes x1).2 = 0
        · have hp : stock_Pick.f boxes x1 = some ((pickR boxes x1).1, 0) := by rw [pick_R boxes x1 h2 (by omega)]; congr 1; rw [← he]
          obtain ⟨p1, p2, p3, p4⟩ := pick_ok h2 (by omega) hp
          generalize hc : (pickR boxes x1).1 = c at p1 hp
          have hP := pick_get x1 boxes c hB p4 p1
          have happ := pickR_app (b := x2) hP.len p1 p2 p3
          have hll := pickR_len c x2
          have hpl := hP.len
          refine .p he (.b (.c (pick_R c x2 (by omega) (by omega))) ?_)
          simp only [Option.bind_some, List.nil_append]
          refine .p (by first | omega | (simp; omega)) (.p (by first | omega | (simp; omega)) (.b (.c (pick_R boxes (x1 ++ x2) h2 (by simp; omega))) ?_))
          rw [happ]
          refine .p rfl (.b (sameBoxes_ev _ (by omega)) (.p (by trivial) ?_))
          rw [show ((c.length : Int) != (boxes.length : Int)) = false by rw [hP.len]; simp]
          refine .s ?_
          simp only [taquinlaw35_StockPicks.j1]
          refine .n (by simp) (picks_l0 kinds lots boxes x3 x1 c hS h1 h2 (by omega) (fun t ht => (p4 t ht).2.2) hP boxes.length 0 0 (by omega) (by omega) (by omega) (by omega) (by simp))
        · refine .n he (.p (by trivial) ((Ev.r _).congr ?_))
          unfold pickR at he ⊢
          split
          · rfl
          · rename_i q1
            rw [if_neg q1] at he
            split
            · rfl
            · rename_i q2
              rw [if_neg q2] at he
              cases e : pickL boxes x1 with
              | none => rfl
              | some c => rw [e] at he; simp at he
end Go.Proofs.Ytemcplbldfldlaa.P
