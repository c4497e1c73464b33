/- What a right stock is, of up to 450 kinds, lots and boxes; taquinlaw35.given and stock.Right tell it. -/
import Derived.Test.YtemcplbldfldlaaDoorGShort
import Derived.Test.YtemcplbldfldlaaDoorPx16
import Derived.Test.YtemcplbldfldlaaDoorPx10
namespace Go.Proofs.YtemcplbldfldlaaDoor.P
open Go.RowKit Go.Proofs.YtemcplbldfldlaaDoorW.PrintWords Go.Proofs.YtemcplbldfldlaaDoorW.PrintLast Go.Proofs.YtemcplbldfldlaaDoorW.PrintMore
set_option linter.unusedVariables false
set_option linter.unusedSimpArgs false
abbrev KindT := S36
abbrev LotT := S38
abbrev BoxT := S40
abbrev WantT := S48
abbrev TakeT := S52
theorem rdLot (l : List LotT) (i : Nat) : rd_T38 l (i : Int) = l.getD i z38 := by simp [rd_T38]
theorem rdBox (l : List BoxT) (i : Nat) : rd_T40 l (i : Int) = l.getD i z40 := by simp [rd_T40]
theorem rdWant (l : List WantT) (i : Nat) : rd_T48 l (i : Int) = l.getD i z48 := by simp [rd_T48]
theorem rdTake (l : List TakeT) (i : Nat) : rd_T52 l (i : Int) = l.getD i z52 := by simp [rd_T52]
def okLot (n : Nat) (l : LotT) : Prop := 0 ≤ l.f0 ∧ l.f0 < (n : Int) ∧ 0 ≤ l.f1 ∧ l.f1 ≤ 20000
def okBox (n : Nat) (b : BoxT) : Prop := 0 ≤ b.f2 ∧ b.f2 ≤ 1000000 ∧ -1 ≤ b.f0 ∧ b.f0 < (n : Int) ∧ 0 ≤ b.f1 ∧ b.f1 ≤ 20000 ∧ (0 ≤ b.f0 ∨ b.f1 = 0)
def sumB (l : List BoxT) : Int := (l.map (fun b => b.f1)).sum
structure RightS (kinds : List KindT) (lots : List LotT) (boxes : List BoxT) : Prop where
  kinds_ : kindsOk kinds [] = true
  lots_ : ∀ l ∈ lots, okLot kinds.length l
  boxes_ : ∀ b ∈ boxes, okBox lots.length b
  sum_ : sumB boxes ≤ 20000
theorem sumB_bounds : ∀ (l : List BoxT), (∀ b ∈ l, 0 ≤ b.f1 ∧ b.f1 ≤ 20000) → 0 ≤ sumB l ∧ sumB l ≤ 20000 * l.length
  | [], _ => by simp [sumB]
  | b :: r, h => by
    have h1 := sumB_bounds r (fun x hx => h x (by simp [hx]))
    have h2 := h b (by simp)
    simp only [sumB, List.map_cons, List.sum_cons, List.length_cons] at h1 ⊢
    omega
theorem units_l0 (l : List BoxT) (hl : l.length ≤ 450) (h : ∀ b ∈ l, 0 ≤ b.f1 ∧ b.f1 ≤ 20000) (d : Nat) : ∀ (i : Nat) (s : Int), l.length - i = d → i ≤ l.length → 0 ≤ s → s ≤ 20000 * i →
    Ev (fun k => stock_Units.l0 k s l (l.length : Int) (i : Int)) (s + sumB (l.drop i)) := by
  induction d with
  | zero =>
    intro i s hd hi h0 h1
    refine .s ?_
    simp only [stock_Units.l0]
    refine .n (by omega) ?_
    rw [List.drop_eq_nil_of_le (by omega)]
    exact (Ev.r _).congr (by simp [sumB])
  | succ d ih =>
    intro i s hd hi h0 h1
    refine .s ?_
    simp only [stock_Units.l0, rdBox]
    refine .p (by omega) (.p (by omega) (.p (by omega) ?_))
    have hb := h _ (getD_mem l i z40 (by omega))
    rw [w64 (by omega) (by omega), w64 (by omega) (by omega)]
    refine (ih (i + 1) (s + (l.getD i z40).f1) (by omega) (by omega) (by omega) (by omega)).congr ?_
    rw [drop_at l i z40 (by omega)]
    simp only [sumB, List.map_cons, List.sum_cons]
    omega
theorem units_ev (l : List BoxT) (hl : l.length ≤ 450) (h : ∀ b ∈ l, 0 ≤ b.f1 ∧ b.f1 ≤ 20000) : Ev (fun k => stock_Units.f k l) (sumB l) := by
  have := units_l0 l hl h l.length 0 0 (by omega) (by omega) (by omega) (by omega)
  simpa [stock_Units.f] using this
theorem few_l0 (l0 : List KindT) (l1 : List LotT) (l2 : List BoxT) (d : Nat) : ∀ (i : Nat), 21 - i = d → i ≤ 21 →
    ∃ b, Ev (fun k => taquinref35_Few.l0 k l0 l1 l2 20 (i : Int)) b ∧ (b = true → l0.length ≤ 20 ∧ l1.length ≤ 20 ∧ l2.length ≤ 20) := by
  have last : ∀ (i : Int), ∃ b, Ev (fun k => taquinref35_Few.j1 k l0 l1 l2 20 i false) b ∧ (b = true → l0.length ≤ 20 ∧ l1.length ≤ 20 ∧ l2.length ≤ 20) := by
    intro i
    by_cases h0 : (l0.length : Int) ≤ 20
    · by_cases h1 : (l1.length : Int) ≤ 20
      · refine ⟨decide ((l2.length : Int) ≤ 20), ?_, fun h => by simp at h; omega⟩
        refine .s ?_
        simp only [taquinref35_Few.j1]
        exact .n (by simp) (.p h0 (.p h1 (.r _)))
      · refine ⟨false, ?_, fun h => by simp at h⟩
        refine .s ?_
        simp only [taquinref35_Few.j1]
        exact .n (by simp) (.p h0 (.n h1 (.r _)))
    · refine ⟨false, ?_, fun h => by simp at h⟩
      refine .s ?_
      simp only [taquinref35_Few.j1]
      exact .n (by simp) (.n h0 (.r _))
  induction d with
  | zero =>
    intro i hd hi
    obtain ⟨b, hb, hh⟩ := last i
    refine ⟨b, ?_, hh⟩
    refine .s ?_
    simp only [taquinref35_Few.l0]
    by_cases h : (i : Int) < (l0.length : Int)
    · refine .p h ?_
      rw [show decide ((i : Int) ≤ 20) = false by simp; omega]
      exact hb
    · exact .n h hb
  | succ d ih =>
    intro i hd hi
    by_cases h : (i : Int) < (l0.length : Int)
    · by_cases hs : (((rd_T36 l0 (i : Int)).f0).size : Int) > 30
      · refine ⟨false, ?_, fun h => by simp at h⟩
        refine .s ?_
        simp only [taquinref35_Few.l0]
        refine .p h ?_
        rw [show decide ((i : Int) ≤ 20) = true by simp; omega]
        refine .s ?_
        simp only [taquinref35_Few.j1]
        exact .p (by trivial) (.p (by omega) (.p h (.p hs (.r _))))
      · obtain ⟨b, hb, hh⟩ := ih (i + 1) (by omega) (by omega)
        refine ⟨b, ?_, hh⟩
        refine .s ?_
        simp only [taquinref35_Few.l0]
        refine .p h ?_
        rw [show decide ((i : Int) ≤ 20) = true by simp; omega]
        refine .s ?_
        simp only [taquinref35_Few.j1]
        refine .p (by trivial) (.p (by omega) (.p h (.n hs ?_)))
        rw [w64 (by omega) (by omega)]
        exact hb
    · obtain ⟨b, hb, hh⟩ := last i
      refine ⟨b, ?_, hh⟩
      refine .s ?_
      simp only [taquinref35_Few.l0]
      exact .n h hb
theorem few_ev (l0 : List KindT) (l1 : List LotT) (l2 : List BoxT) : ∃ b, Ev (fun k => taquinref35_Few.f k l0 l1 l2 20) b ∧ (b = true → l0.length ≤ 20 ∧ l1.length ≤ 20 ∧ l2.length ≤ 20) := by
  have := few_l0 l0 l1 l2 21 0 (by omega) (by omega)
  simpa [taquinref35_Few.f] using this
theorem between_ev (a b c : Int) : stock_between.f a b c = some (decide (b ≤ a ∧ a ≤ c)) := between_eq a b c
theorem rightBox_eq (b : BoxT) (n : Nat) (hn : n ≤ 450) : ∃ r, stock_rightBox.f b.f0 b.f1 b.f2 (n : Int) = some r ∧ (r = true ↔ okBox n b) := by
  unfold stock_rightBox.f okBox
  simp only [between_ev, Option.bind_some, w64 (show -9223372036854775808 ≤ (n : Int) - 1 by omega) (by omega), decide_eq_true_eq]
  by_cases h1 : 0 ≤ b.f2 ∧ b.f2 ≤ 1000000
  · rw [if_pos h1]
    by_cases h2 : -1 ≤ b.f0 ∧ b.f0 ≤ (n : Int) - 1
    · rw [if_pos h2]
      by_cases h3 : 0 ≤ b.f1 ∧ b.f1 ≤ 20000
      · rw [if_pos h3]
        by_cases h4 : b.f0 ≥ 0
        · rw [if_pos h4]; exact ⟨true, rfl, by simp; omega⟩
        · rw [if_neg h4]; exact ⟨_, rfl, by simp; omega⟩
      · rw [if_neg h3]; exact ⟨false, rfl, by simp; omega⟩
    · rw [if_neg h2]; exact ⟨false, rfl, by simp; omega⟩
  · rw [if_neg h1]; exact ⟨false, rfl, by simp; omega⟩
theorem right_l1 (lots : List LotT) (boxes : List BoxT) (h1 : lots.length ≤ 450) (h2 : boxes.length ≤ 450) (d : Nat) : ∀ (i : Nat), boxes.length - i = d → i ≤ boxes.length → (∀ b ∈ boxes.take i, okBox lots.length b) →
    ∃ r, Ev (fun k => stock_Right.l1 k lots boxes boxes (boxes.length : Int) (i : Int)) r ∧ (r = true ↔ (∀ b ∈ boxes, okBox lots.length b) ∧ sumB boxes ≤ 20000) := by
  induction d with
  | zero =>
    intro i hd hi ht
    rw [List.take_of_length_le (by omega)] at ht
    refine ⟨decide (sumB boxes ≤ 20000), ?_, by simp; exact fun _ => ht⟩
    refine .s ?_
    simp only [stock_Right.l1]
    exact .n (by omega) (.b (units_ev boxes h2 (fun b hb => by have := ht b hb; unfold okBox at this; omega)) (.r _))
  | succ d ih =>
    intro i hd hi ht
    obtain ⟨r, hr, hok⟩ := rightBox_eq (boxes.getD i z40) lots.length h1
    cases r with
    | true =>
      obtain ⟨r, hr2, hok2⟩ := ih (i + 1) (by omega) (by omega) (by
        intro b hb
        rw [List.take_succ_eq_append_getElem (by omega)] at hb
        rcases List.mem_append.1 hb with hb | hb
        · exact ht b hb
        · have hi' : i < boxes.length := by omega
          have : b = boxes.getD i z40 := by simp only [List.mem_singleton] at hb; rw [hb]; simp [List.getD_eq_getElem?_getD, hi']
          rw [this]; exact hok.1 rfl)
      refine ⟨r, ?_, hok2⟩
      refine .s ?_
      simp only [stock_Right.l1, rdBox]
      refine .p (by omega) (.p (by omega) (.p (by omega) (.b (.c hr) (.p rfl ?_))))
      rw [w64 (by omega) (by omega)]
      exact hr2
    | false =>
      refine ⟨false, ?_, ?_⟩
      · refine .s ?_
        simp only [stock_Right.l1, rdBox]
        exact .p (by omega) (.p (by omega) (.p (by omega) (.b (.c hr) (.n (by simp) (.r _)))))
      · simp only [Bool.false_eq_true, false_iff]
        intro hh
        have := hok.2 (hh.1 _ (getD_mem boxes i _ (by omega)))
        simp at this
theorem right_l0 (kinds : List KindT) (lots : List LotT) (boxes : List BoxT) (h0 : kinds.length ≤ 450) (h1 : lots.length ≤ 450) (h2 : boxes.length ≤ 450) (d : Nat) : ∀ (i : Nat), lots.length - i = d → i ≤ lots.length → (∀ b ∈ lots.take i, okLot kinds.length b) →
    ∃ r, Ev (fun k => stock_Right.l0 k kinds lots boxes lots (lots.length : Int) (i : Int)) r ∧ (r = true ↔ (∀ l ∈ lots, okLot kinds.length l) ∧ (∀ b ∈ boxes, okBox lots.length b) ∧ sumB boxes ≤ 20000) := by
  induction d with
  | zero =>
    intro i hd hi ht
    rw [List.take_of_length_le (by omega)] at ht
    obtain ⟨r, hr, hok⟩ := right_l1 lots boxes h1 h2 boxes.length 0 (by omega) (by omega) (by simp)
    refine ⟨r, ?_, by rw [hok]; exact ⟨fun h => ⟨ht, h⟩, fun h => h.2⟩⟩
    refine .s ?_
    simp only [stock_Right.l0]
    exact .n (by omega) hr
  | succ d ih =>
    intro i hd hi ht
    have hi' : i < lots.length := by omega
    obtain ⟨y, hy⟩ : ∃ y, lots.getD i z38 = y := ⟨_, rfl⟩
    have hmem : y ∈ lots := hy ▸ getD_mem lots i _ hi'
    by_cases hk : okLot kinds.length y
    · obtain ⟨r, hr2, hok2⟩ := ih (i + 1) (by omega) (by omega) (by
        intro b hb
        rw [List.take_succ_eq_append_getElem hi'] at hb
        rcases List.mem_append.1 hb with hb | hb
        · exact ht b hb
        · have : b = lots.getD i z38 := by simp only [List.mem_singleton] at hb; rw [hb]; simp [List.getD_eq_getElem?_getD, hi']
          rw [this, hy]; exact hk)
      refine ⟨r, ?_, hok2⟩
      refine .s ?_
      simp only [stock_Right.l0, rdLot, hy, between_ev, w64 (show -9223372036854775808 ≤ (kinds.length : Int) - 1 by omega) (by omega), Option.bind_some]
      unfold okLot at hk
      refine .p (by omega) (.p (by omega) (.p (by omega) (.p (by simp; omega) (.p (by simp; omega) ?_))))
      rw [w64 (by omega) (by omega)]
      exact hr2
    · refine ⟨false, ?_, ?_⟩
      · refine .s ?_
        simp only [stock_Right.l0, rdLot, hy, between_ev, w64 (show -9223372036854775808 ≤ (kinds.length : Int) - 1 by omega) (by omega), Option.bind_some]
        refine .p (by omega) (.p (by omega) (.p (by omega) ?_))
        unfold okLot at hk
        by_cases q : 0 ≤ y.f0 ∧ y.f0 ≤ (kinds.length : Int) - 1
        · exact .p (by simpa using q) (.n (by simp; omega) (.r _))
        · exact .n (by simpa using q) (.r _)
      · simp only [Bool.false_eq_true, false_iff]
        exact fun hh => hk (hh.1 y hmem)
theorem right_ev (kinds : List KindT) (lots : List LotT) (boxes : List BoxT) (h0 : kinds.length ≤ 450) (h1 : lots.length ≤ 450) (h2 : boxes.length ≤ 450) :
    ∃ r, Ev (fun k => stock_Right.f k kinds lots boxes) r ∧ (r = true ↔ RightS kinds lots boxes) := by
  have hk : stock_rightKinds.f kinds = some (kindsOk kinds []) := by
    unfold stock_rightKinds.f
    rw [if_pos (by omega), show decide (kinds.length ≤ 500) = true by simp; omega, Bool.and_true]
  cases hq : kindsOk kinds [] with
  | true =>
    obtain ⟨r, hr, hok⟩ := right_l0 kinds lots boxes h0 h1 h2 lots.length 0 (by omega) (by omega) (by simp)
    refine ⟨r, ?_, by rw [hok]; exact ⟨fun h => ⟨hq, h.1, h.2.1, h.2.2⟩, fun h => ⟨h.2, h.3, h.4⟩⟩⟩
    simp only [stock_Right.f]
    refine .n (by omega) (.n (by omega) (.b (.c (hk.trans (by rw [hq]))) ?_))
    refine .s ?_
    simp only [stock_Right.j0]
    exact .n (by simp) hr
  | false =>
    refine ⟨false, ?_, by simp only [Bool.false_eq_true, false_iff]; intro h; have := h.1; rw [hq] at this; simp at this⟩
    simp only [stock_Right.f]
    refine .n (by omega) (.n (by omega) (.b (.c (hk.trans (by rw [hq]))) ?_))
    refine .s ?_
    simp only [stock_Right.j0]
    exact .p (by simp) (.r _)
theorem given_ev (kinds : List KindT) (lots : List LotT) (boxes : List BoxT) :
    ∃ r, Ev (fun k => taquinlaw35_given.f k kinds lots boxes) r ∧ (r = true → kinds.length ≤ 20 ∧ lots.length ≤ 20 ∧ boxes.length ≤ 20 ∧ RightS kinds lots boxes) := by
  obtain ⟨b, hb, hl⟩ := few_ev kinds lots boxes
  cases b with
  | true =>
    obtain ⟨h0, h1, h2⟩ := hl rfl
    obtain ⟨r, hr, hok⟩ := right_ev kinds lots boxes (by omega) (by omega) (by omega)
    refine ⟨r, ?_, fun h => ⟨h0, h1, h2, hok.1 h⟩⟩
    simp only [taquinlaw35_given.f]
    exact .b hb (.p rfl (.b hr (.r _)))
  | false =>
    refine ⟨false, ?_, fun h => by simp at h⟩
    simp only [taquinlaw35_given.f]
    exact .b hb (.n (by simp) (.r _))
theorem small_ev : Ev (fun k => taquinlaw35_small.f k) true := Ev.of_mono (fun k => taquinlaw35_small.mono k) (k := 60) (by decide +kernel)
end Go.Proofs.YtemcplbldfldlaaDoor.P
