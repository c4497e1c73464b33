/- stock.Plan, as a greedy plan: what the printed model tells of a right stock and right wants. -/
import Derived.Test.YtemcplbldfldlaaGStock
import Derived.Test.YtemcplbldfldlaaPx6
namespace Go.Proofs.Ytemcplbldfldlaa.P
open Go.RowKit Go.Proofs.YtemcplbldfldlaaW.PrintWords Go.Proofs.YtemcplbldfldlaaW.PrintLast Go.Proofs.YtemcplbldfldlaaW.PrintMore
set_option linter.unusedVariables false
set_option linter.unusedSimpArgs false
abbrev zB : BoxT := z38
/-- The units of box i. -/
def cnt (l : List BoxT) (i : Nat) : Int := (l.getD i zB).f1
/-- n units less in box i. -/
def less (l : List BoxT) (i : Nat) (n : Int) : List BoxT := l.set i ⟨(l.getD i zB).f0, (l.getD i zB).f1 - n, (l.getD i zB).f2⟩
theorem less_len (l : List BoxT) (i : Nat) (n : Int) : (less l i n).length = l.length := by simp [less]
theorem less_get (l : List BoxT) (i j : Nat) (n : Int) (hi : i < l.length) : (less l i n).getD j zB = if i = j then ⟨(l.getD i zB).f0, (l.getD i zB).f1 - n, (l.getD i zB).f2⟩ else l.getD j zB := by
  unfold less
  simp only [List.getD_eq_getElem?_getD, List.getElem?_set]
  by_cases h : i = j
  · subst h; simp [hi]
  · simp [h]
theorem less_lot (l : List BoxT) (i j : Nat) (n : Int) (hi : i < l.length) : ((less l i n).getD j zB).f0 = (l.getD j zB).f0 ∧ ((less l i n).getD j zB).f2 = (l.getD j zB).f2 := by
  rw [less_get l i j n hi]
  by_cases h : i = j
  · subst h; simp
  · simp [h]
theorem less_cnt (l : List BoxT) (i j : Nat) (n : Int) (hi : i < l.length) : cnt (less l i n) j = if i = j then cnt l i - n else cnt l j := by
  unfold cnt
  rw [less_get l i j n hi]
  by_cases h : i = j
  · simp [h]
  · simp [h]
/-- What one want is given, what is left, and what lacks. -/
def giveL : List Int → List BoxT → Int → List TakeT × List BoxT × Int
  | [], left, need => ([], left, need)
  | i :: r, left, need =>
    if mn need (cnt left i.toNat) = 0 then ([], left, need)
    else
      (⟨i, mn need (cnt left i.toNat)⟩ :: (giveL r (less left i.toNat (mn need (cnt left i.toNat))) (need - mn need (cnt left i.toNat))).1,
        (giveL r (less left i.toNat (mn need (cnt left i.toNat))) (need - mn need (cnt left i.toNat))).2.1,
        (giveL r (less left i.toNat (mn need (cnt left i.toNat))) (need - mn need (cnt left i.toNat))).2.2)
def orderM (lots : List LotT) (left : List BoxT) (w : WantT) : List Int := isort (keyB lots left) (fitUpto lots left w left.length)
def planL (lots : List LotT) : List WantT → List BoxT → Option (List (List TakeT) × List BoxT)
  | [], left => some ([], left)
  | w :: r, left =>
    if (giveL (orderM lots left w) left w.f1).2.2 > 0 then none
    else (planL lots r (giveL (orderM lots left w) left w.f1).2.1).map fun p => ((giveL (orderM lots left w) left w.f1).1 :: p.1, p.2)
/-- Boxes that may stand while a plan is made of others: the same lots, no more units. -/
structure Left (lots : List LotT) (boxes left : List BoxT) : Prop where
  len : left.length = boxes.length
  lot : ∀ i, (left.getD i zB).f0 = (boxes.getD i zB).f0 ∧ (left.getD i zB).f2 = (boxes.getD i zB).f2
  lo : ∀ i, 0 ≤ cnt left i
  hi : ∀ i, cnt left i ≤ cnt boxes i
theorem mn_le (a b : Int) : mn a b ≤ a ∧ mn a b ≤ b ∧ (mn a b = a ∨ mn a b = b) := by unfold mn; split <;> omega
theorem give_left {lots : List LotT} {boxes : List BoxT} : ∀ (ord : List Int) (left : List BoxT) (need : Int), Left lots boxes left → 0 ≤ need → (∀ i ∈ ord, 0 ≤ i ∧ i < (boxes.length : Int)) →
    Left lots boxes (giveL ord left need).2.1 ∧ 0 ≤ (giveL ord left need).2.2 ∧ (giveL ord left need).2.2 ≤ need ∧ (∀ i, cnt (giveL ord left need).2.1 i ≤ cnt left i)
  | [], left, need, h, hn, _ => ⟨h, hn, Int.le_refl _, fun _ => Int.le_refl _⟩
  | i :: r, left, need, h, hn, hr => by
    unfold giveL
    have hi := hr i (by simp)
    have hil : i.toNat < left.length := by rw [h.len]; omega
    have hc := h.lo i.toNat
    have hm := mn_le need (cnt left i.toNat)
    by_cases h0 : mn need (cnt left i.toNat) = 0
    · rw [if_pos h0]; exact ⟨h, hn, Int.le_refl _, fun _ => Int.le_refl _⟩
    · rw [if_neg h0]
      have hl : Left lots boxes (less left i.toNat (mn need (cnt left i.toNat))) :=
        { len := by rw [less_len]; exact h.len
          lot := fun j => by rw [(less_lot left i.toNat j _ hil).1, (less_lot left i.toNat j _ hil).2]; exact h.lot j
          lo := fun j => by rw [less_cnt left i.toNat j _ hil]; have := h.lo j; split <;> omega
          hi := fun j => by
            rw [less_cnt left i.toNat j _ hil]
            have := h.hi j
            split
            · rename_i e; subst e; omega
            · exact this }
      obtain ⟨a1, a2, a3, a4⟩ := give_left r _ (need - mn need (cnt left i.toNat)) hl (by omega) (fun j hj => hr j (by simp [hj]))
      refine ⟨a1, a2, by simp only; omega, fun j => ?_⟩
      simp only
      have := a4 j
      rw [less_cnt left i.toNat j _ hil] at this
      by_cases e : i.toNat = j
      · rw [if_pos e] at this; rw [← e] at this ⊢; omega
      · rw [if_neg e] at this; exact this

/-! ### The order: by expiry -/
theorem insR_desc (key : Int → Int) (x : Int) : ∀ p : List Int, p.Pairwise (fun a b => key b ≤ key a) → (insR key x p).Pairwise (fun a b => key b ≤ key a)
  | [], _ => by simp [insR]
  | y :: r, h => by
    unfold insR
    have h' := List.pairwise_cons.1 h
    by_cases c : key x < key y
    · rw [if_pos c]
      refine List.pairwise_cons.2 ⟨fun z hz => ?_, insR_desc key x r h'.2⟩
      rcases (insR_mem key x z r).1 hz with e | e
      · rw [e]; omega
      · exact h'.1 z e
    · rw [if_neg c]
      refine List.pairwise_cons.2 ⟨fun z hz => ?_, h⟩
      rcases List.mem_cons.1 hz with e | e
      · rw [e]; omega
      · have := h'.1 z e; omega
theorem insR_nodup (key : Int → Int) (x : Int) : ∀ p : List Int, p.Nodup → x ∉ p → (insR key x p).Nodup
  | [], _, _ => by simp [insR]
  | y :: r, h, hx => by
    unfold insR
    have h' := List.nodup_cons.1 h
    have hx' : x ≠ y ∧ x ∉ r := by simpa using hx
    by_cases c : key x < key y
    · rw [if_pos c]
      refine List.nodup_cons.2 ⟨fun hz => ?_, insR_nodup key x r h'.2 hx'.2⟩
      rcases (insR_mem key x y r).1 hz with e | e
      · exact hx'.1 e.symm
      · exact h'.1 e
    · rw [if_neg c]; exact List.nodup_cons.2 ⟨hx, h⟩
theorem fold_desc (key : Int → Int) : ∀ (l p : List Int), p.Pairwise (fun a b => key b ≤ key a) → (l.foldl (fun p x => insR key x p) p).Pairwise (fun a b => key b ≤ key a)
  | [], p, h => h
  | x :: l, p, h => fold_desc key l _ (insR_desc key x p h)
theorem fold_nodup (key : Int → Int) : ∀ (l p : List Int), p.Nodup → l.Nodup → (∀ x ∈ l, x ∉ p) → (l.foldl (fun p x => insR key x p) p).Nodup
  | [], p, h, _, _ => h
  | x :: l, p, h, hl, hd => by
    have hl' := List.nodup_cons.1 hl
    refine fold_nodup key l _ (insR_nodup key x p h (hd x (by simp))) hl'.2 (fun z hz hc => ?_)
    rcases (insR_mem key x z p).1 hc with e | e
    · exact hl'.1 (e ▸ hz)
    · exact hd z (by simp [hz]) e
theorem isort_asc (key : Int → Int) (xs : List Int) : (isort key xs).Pairwise (fun a b => key a ≤ key b) := by
  unfold isort
  rw [List.pairwise_reverse]
  exact fold_desc key xs [] List.Pairwise.nil
theorem isort_nodup (key : Int → Int) (xs : List Int) (h : xs.Nodup) : (isort key xs).Nodup := by
  unfold isort
  show List.Pairwise _ _
  rw [List.pairwise_reverse]
  exact List.Pairwise.imp (fun h => Ne.symm h) (fold_nodup key xs [] List.nodup_nil h (by simp))
theorem fitUpto_nodup (lots : List LotT) (boxes : List BoxT) (x : WantT) (m : Nat) : (fitUpto lots boxes x m).Nodup := by
  unfold fitUpto
  have h := (List.nodup_range (n := m)).filter (fun i => decide ((boxes.getD i zB).f1 > 0) && fitB lots x (boxes.getD i zB))
  exact List.Pairwise.map _ (fun a b (hab : a ≠ b) e => hab (by omega)) h
theorem mem_fitUpto (lots : List LotT) (boxes : List BoxT) (x : WantT) (m i : Nat) (hi : i < m) (hc : 0 < cnt boxes i) (hf : fitB lots x (boxes.getD i zB) = true) : (i : Int) ∈ fitUpto lots boxes x m := by
  unfold fitUpto
  refine List.mem_map.2 ⟨i, List.mem_filter.2 ⟨List.mem_range.2 hi, ?_⟩, rfl⟩
  simp only [Bool.and_eq_true, decide_eq_true_eq]
  exact ⟨hc, hf⟩
structure OrderOk (lots : List LotT) (left : List BoxT) (w : WantT) (o : List Int) : Prop where
  asc : o.Pairwise (fun a b => keyB lots left a ≤ keyB lots left b)
  nodup : o.Nodup
  mem : ∀ i ∈ o, 0 ≤ i ∧ i < (left.length : Int) ∧ 0 < cnt left i.toNat ∧ fitB lots w (left.getD i.toNat zB) = true
  all : ∀ i : Nat, i < left.length → 0 < cnt left i → fitB lots w (left.getD i zB) = true → (i : Int) ∈ o
theorem orderM_ok (lots : List LotT) (left : List BoxT) (w : WantT) : OrderOk lots left w (orderM lots left w) where
  asc := isort_asc _ _
  nodup := isort_nodup _ _ (fitUpto_nodup _ _ _ _)
  mem := fun i hi => by
    obtain ⟨h1, h2, h3, h4⟩ := fitUpto_mem ((isort_mem _ _ _).1 hi)
    exact ⟨h1, h2, h3, h4⟩
  all := fun i hi hc hf => (isort_mem _ _ _).2 (mem_fitUpto lots left w left.length i hi hc hf)
/-! ### What is given comes from the boxes that expire first -/
theorem give_other : ∀ (ord : List Int) (left : List BoxT) (need : Int) (j : Nat), (∀ i ∈ ord, i.toNat < left.length) → (∀ i ∈ ord, i.toNat ≠ j) → (giveL ord left need).2.1.getD j zB = left.getD j zB
  | [], left, need, j, _, _ => rfl
  | i :: r, left, need, j, hl, h => by
    unfold giveL
    by_cases h0 : mn need (cnt left i.toNat) = 0
    · rw [if_pos h0]
    · rw [if_neg h0]
      simp only
      rw [give_other r _ _ j (fun k hk => by rw [less_len]; exact hl k (by simp [hk])) (fun k hk => h k (by simp [hk])), less_get left i.toNat j _ (hl i (by simp)), if_neg (h i (by simp))]
theorem give_none : ∀ (ord : List Int) (left : List BoxT), (∀ i, 0 ≤ cnt left i) → (giveL ord left 0).1 = []
  | [], left, _ => rfl
  | i :: r, left, h => by
    unfold giveL
    have := h i.toNat
    rw [if_pos (by unfold mn; split <;> omega)]
theorem give_first (key : Int → Int) : ∀ (ord : List Int) (left : List BoxT) (need : Int), (∀ i, 0 ≤ cnt left i) → 0 ≤ need → ord.Pairwise (fun a b => key a ≤ key b) → (ord.map Int.toNat).Nodup → (∀ i ∈ ord, 0 ≤ i ∧ i.toNat < left.length) →
    ∀ b ∈ ord, 0 < cnt (giveL ord left need).2.1 b.toNat → ∀ t ∈ (giveL ord left need).1, key t.f0 ≤ key b
  | [], left, need, _, _, _, _, _, b, hb, _, t, ht => by simp at hb
  | i :: r, left, need, hc, hn, hs, hd, hl, b, hb, hpos, t, ht => by
    have hs' := List.pairwise_cons.1 hs
    rw [List.map_cons] at hd
    have hd' := List.nodup_cons.1 hd
    have hi := hl i (by simp)
    have hci := hc i.toNat
    have hm := mn_le need (cnt left i.toNat)
    unfold giveL at hpos ht
    by_cases h0 : mn need (cnt left i.toNat) = 0
    · rw [if_pos h0] at ht; simp at ht
    · rw [if_neg h0] at ht hpos
      simp only [List.mem_cons] at ht hpos hb
      have hc' : ∀ j, 0 ≤ cnt (less left i.toNat (mn need (cnt left i.toNat))) j := fun j => by
        rw [less_cnt left i.toNat j _ hi.2]; have := hc j; split <;> omega
      rcases hb with rfl | hb
      · have hoth := give_other r (less left b.toNat (mn need (cnt left b.toNat))) (need - mn need (cnt left b.toNat)) b.toNat (fun k hk => by rw [less_len]; exact (hl k (by simp [hk])).2) (fun k hk e => hd'.1 (List.mem_map.2 ⟨k, hk, e⟩))
        have h5 : cnt (giveL r (less left b.toNat (mn need (cnt left b.toNat))) (need - mn need (cnt left b.toNat))).2.1 b.toNat = cnt (less left b.toNat (mn need (cnt left b.toNat))) b.toNat := congrArg (fun x => x.f1) hoth
        have hlc := less_cnt left b.toNat b.toNat (mn need (cnt left b.toNat)) hi.2
        rw [if_pos rfl] at hlc
        rw [h5, hlc] at hpos
        have hz : need - mn need (cnt left b.toNat) = 0 := by omega
        rcases ht with rfl | ht
        · exact Int.le_refl _
        · rw [hz, give_none r _ hc'] at ht; simp at ht
      · rcases ht with rfl | ht
        · exact hs'.1 b hb
        · exact give_first key r _ _ hc' (by omega) hs'.2 hd'.2 (fun k hk => by rw [less_len]; exact hl k (by simp [hk])) b hb hpos t ht
end Go.Proofs.Ytemcplbldfldlaa.P
