/- There is a greedy plan exactly if, for each kind and tick, the wants that need at least this tick ask for at most what there is. -/
import Derived.Test.YtemcplbldfldlaaGPlanEv
namespace Go.Proofs.Ytemcplbldfldlaa.P
open Go.RowKit Go.Proofs.YtemcplbldfldlaaW.PrintWords Go.Proofs.YtemcplbldfldlaaW.PrintLast Go.Proofs.YtemcplbldfldlaaW.PrintMore
set_option linter.unusedVariables false
set_option linter.unusedSimpArgs false
/-- The units in boxes that meet p. -/
def sumF (p : BoxT → Bool) : List BoxT → Int
  | [] => 0
  | b :: r => (if p b = true then b.f1 else 0) + sumF p r
def ByLot (p : BoxT → Bool) : Prop := ∀ a b : BoxT, a.f0 = b.f0 → p a = p b
theorem sumF_less (p : BoxT → Bool) (hp : ByLot p) : ∀ (l : List BoxT) (i : Nat) (n : Int), i < l.length → sumF p (less l i n) = sumF p l - (if p (l.getD i zB) = true then n else 0)
  | [], i, n, h => by simp at h
  | b :: r, 0, n, _ => by
    have h1 : p ⟨b.f0, b.f1 - n, b.f2⟩ = p b := hp _ _ rfl
    simp only [less, List.getD_cons_zero, List.set_cons_zero, sumF, h1]
    by_cases h : p b = true
    · rw [if_pos h, if_pos h, if_pos h]; omega
    · rw [if_neg h, if_neg h, if_neg h]; omega
  | b :: r, i + 1, n, h => by
    have ih := sumF_less p hp r i n (by simpa using h)
    simp only [less, List.getD_cons_succ, List.set_cons_succ, sumF] at ih ⊢
    rw [ih]; omega
theorem sumF_nonneg (p : BoxT → Bool) : ∀ (l : List BoxT), (∀ i, 0 ≤ cnt l i) → 0 ≤ sumF p l
  | [], _ => by simp [sumF]
  | b :: r, h => by
    have h0 := h 0
    have ih := sumF_nonneg p r (fun i => by have := h (i + 1); simpa [cnt] using this)
    simp only [cnt, List.getD_cons_zero] at h0
    unfold sumF
    split <;> omega
theorem sumF_le (p q : BoxT → Bool) : ∀ (l : List BoxT), (∀ i, 0 ≤ cnt l i) → (∀ i, 0 < cnt l i → p (l.getD i zB) = true → q (l.getD i zB) = true) → sumF p l ≤ sumF q l
  | [], _, _ => by simp [sumF]
  | b :: r, h, hpq => by
    have h0 := h 0
    have hq0 := hpq 0
    have ih := sumF_le p q r (fun i => by have := h (i + 1); simpa [cnt] using this) (fun i => by have := hpq (i + 1); simpa [cnt] using this)
    simp only [cnt, List.getD_cons_zero] at h0 hq0
    unfold sumF
    by_cases hp : p b = true
    · rw [if_pos hp]
      by_cases hb : 0 < b.f1
      · rw [if_pos (hq0 hb hp)]; omega
      · split <;> omega
    · rw [if_neg hp]; split <;> omega
/-- Of what is given, what comes from boxes that meet p. -/
def takenF (p : BoxT → Bool) (boxes : List BoxT) : List TakeT → Int
  | [] => 0
  | t :: r => (if p (boxes.getD t.f0.toNat zB) = true then t.f1 else 0) + takenF p boxes r
theorem give_sum {lots : List LotT} {boxes : List BoxT} (p : BoxT → Bool) (hp : ByLot p) : ∀ (ord : List Int) (left : List BoxT) (need : Int), Left lots boxes left → 0 ≤ need → (∀ i ∈ ord, 0 ≤ i ∧ i < (boxes.length : Int)) →
    sumF p (giveL ord left need).2.1 = sumF p left - takenF p boxes (giveL ord left need).1 ∧
    need - (giveL ord left need).2.2 = takenF (fun _ => true) boxes (giveL ord left need).1 ∧ 0 ≤ takenF p boxes (giveL ord left need).1 ∧ takenF p boxes (giveL ord left need).1 ≤ need - (giveL ord left need).2.2
  | [], left, need, _, _, _ => by simp [giveL, takenF]
  | i :: r, left, need, h, hn, hr => by
    have hi := hr i (by simp)
    have hil : i.toNat < left.length := by rw [h.len]; omega
    have hL2 := give_left [i] left need h hn (by intro k hk; simp only [List.mem_singleton] at hk; rw [hk]; exact hi)
    have hm := mn_le need (cnt left i.toNat)
    have hc := h.lo i.toNat
    unfold giveL at hL2 ⊢
    by_cases h0 : mn need (cnt left i.toNat) = 0
    · rw [if_pos h0]; simp [takenF]
    · rw [if_neg h0] at hL2 ⊢
      simp only [giveL] at hL2
      obtain ⟨a1, a2, a3, a4⟩ := give_sum p hp r _ (need - mn need (cnt left i.toNat)) hL2.1 hL2.2.1 (fun j hj => hr j (by simp [hj]))
      have hs := sumF_less p hp left i.toNat (mn need (cnt left i.toNat)) hil
      have hb : p (left.getD i.toNat zB) = p (boxes.getD i.toNat zB) := hp _ _ (h.lot i.toNat).1
      rw [hb] at hs
      simp only [takenF]
      refine ⟨by rw [a1, hs]; omega, by simp only [if_true]; omega, ?_, ?_⟩
      · split <;> omega
      · split <;> omega
theorem taken_all (p : BoxT → Bool) (boxes : List BoxT) : ∀ (l : List TakeT), (∀ t ∈ l, p (boxes.getD t.f0.toNat zB) = true) → takenF p boxes l = takenF (fun _ => true) boxes l
  | [], _ => rfl
  | t :: r, h => by
    simp only [takenF]
    rw [taken_all p boxes r (fun x hx => h x (by simp [hx])), if_pos (h t (by simp))]
    simp
theorem taken_none (p : BoxT → Bool) (boxes : List BoxT) : ∀ (l : List TakeT), (∀ t ∈ l, ¬ p (boxes.getD t.f0.toNat zB) = true) → takenF p boxes l = 0
  | [], _ => rfl
  | t :: r, h => by
    simp only [takenF]
    rw [taken_none p boxes r (fun x hx => h x (by simp [hx])), if_neg (h t (by simp))]
    omega
theorem give_fits {lots : List LotT} {boxes : List BoxT} {w : WantT} : ∀ (ord : List Int) (left : List BoxT) (need : Int), (∀ i ∈ ord, fitB lots w (boxes.getD i.toNat zB) = true) → ∀ t ∈ (giveL ord left need).1, fitB lots w (boxes.getD t.f0.toNat zB) = true
  | [], left, need, _, t, ht => by simp [giveL] at ht
  | i :: r, left, need, h, t, ht => by
    unfold giveL at ht
    by_cases h0 : mn need (cnt left i.toNat) = 0
    · rw [if_pos h0] at ht; simp at ht
    · rw [if_neg h0] at ht
      simp only [List.mem_cons] at ht
      rcases ht with rfl | ht
      · exact h i (by simp)
      · exact give_fits r _ _ (fun k hk => h k (by simp [hk])) t ht
/-- Where something lacks, what fits is used up. -/
theorem give_out {lots : List LotT} {boxes : List BoxT} : ∀ (ord : List Int) (left : List BoxT) (need : Int), Left lots boxes left → 0 ≤ need → (∀ i ∈ ord, 0 ≤ i ∧ i < (boxes.length : Int)) → (∀ i ∈ ord, 0 < cnt left i.toNat) → (ord.map Int.toNat).Nodup →
    0 < (giveL ord left need).2.2 → ∀ i ∈ ord, cnt (giveL ord left need).2.1 i.toNat = 0
  | [], left, need, _, _, _, _, _, _, i, hi => by simp at hi
  | i :: r, left, need, h, hn, hr, hpos, hd, hlack, j, hj => by
    have hi := hr i (by simp)
    have hil : i.toNat < left.length := by rw [h.len]; omega
    have hL2 := give_left [i] left need h hn (by intro k hk; simp only [List.mem_singleton] at hk; rw [hk]; exact hi)
    have hm := mn_le need (cnt left i.toNat)
    have hci := hpos i (by simp)
    rw [List.map_cons] at hd
    have hd' := List.nodup_cons.1 hd
    unfold giveL at hL2 hlack ⊢
    by_cases h0 : mn need (cnt left i.toNat) = 0
    · rw [if_pos h0] at hlack; simp only at hlack; omega
    · rw [if_neg h0] at hL2 hlack ⊢
      simp only [giveL] at hL2
      simp only at hlack ⊢
      have hG := give_left r _ (need - mn need (cnt left i.toNat)) hL2.1 hL2.2.1 (fun k hk => hr k (by simp [hk]))
      have hlc := less_cnt left i.toNat i.toNat (mn need (cnt left i.toNat)) hil
      rw [if_pos rfl] at hlc
      rcases List.mem_cons.1 hj with rfl | hj
      · have := hG.2.2.2 j.toNat
        have h1 := hG.1.lo j.toNat
        omega
      · exact give_out r _ _ hL2.1 hL2.2.1 (fun k hk => hr k (by simp [hk])) (fun k hk => by
          have hne : ¬ i.toNat = k.toNat := fun e => hd'.1 (List.mem_map.2 ⟨k, hk, e.symm⟩)
          rw [less_cnt left i.toNat k.toNat _ hil, if_neg hne]
          exact hpos k (by simp [hk])) hd'.2 hlack j hj
/-! ### Supply and demand of a kind at a tick -/
def fitCT (lots : List LotT) (c t : Int) : BoxT → Bool := fitB lots ⟨c, 0, t⟩
theorem fitCT_w (lots : List LotT) (w : WantT) : fitB lots w = fitCT lots w.f0 w.f2 := rfl
theorem byLot_fit (lots : List LotT) (x : WantT) : ByLot (fitB lots x) := fun a b h => by unfold fitB; rw [h]
theorem fitCT_iff (lots : List LotT) (c t : Int) (b : BoxT) : fitCT lots c t b = true ↔ 0 ≤ b.f0 ∧ (rd_T40 lots b.f0).f0 = c ∧ (rd_T40 lots b.f0).f2 = false ∧ t ≤ (rd_T40 lots b.f0).f1 := by
  unfold fitCT fitB fitL
  simp only [Bool.and_eq_true, decide_eq_true_eq, Bool.not_eq_true']
  constructor
  · rintro ⟨h1, ⟨h2, h3⟩, h4⟩; exact ⟨h1, h2, h3, h4⟩
  · rintro ⟨h1, h2, h3, h4⟩; exact ⟨h1, ⟨h2, h3⟩, h4⟩
def dem (c t : Int) : List WantT → Int
  | [] => 0
  | w :: r => (if w.f0 = c ∧ t ≤ w.f2 then w.f1 else 0) + dem c t r
theorem dem_nonneg (c t : Int) : ∀ (ws : List WantT), (∀ w ∈ ws, 0 ≤ w.f1) → 0 ≤ dem c t ws
  | [], _ => by simp [dem]
  | w :: r, h => by
    have := dem_nonneg c t r (fun x hx => h x (by simp [hx]))
    have := h w (by simp)
    unfold dem; split <;> omega
theorem dem_mono (c t u : Int) (htu : t ≤ u) : ∀ (ws : List WantT), (∀ w ∈ ws, 0 ≤ w.f1) → dem c u ws ≤ dem c t ws
  | [], _ => by simp [dem]
  | w :: r, h => by
    have ih := dem_mono c t u htu r (fun x hx => h x (by simp [hx]))
    have h0 := h w (by simp)
    unfold dem
    by_cases hu : w.f0 = c ∧ u ≤ w.f2
    · rw [if_pos hu, if_pos ⟨hu.1, by omega⟩]; omega
    · rw [if_neg hu]; split <;> omega
theorem sumF_false : ∀ l : List BoxT, sumF (fun _ => false) l = 0
  | [] => rfl
  | b :: r => by simp [sumF, sumF_false r]
/-- What one step of the plan does, all at once. -/
structure StepS (lots : List LotT) (boxes left : List BoxT) (w : WantT) : Prop where
  left_ : Left lots boxes (giveL (orderM lots left w) left w.f1).2.1
  lack0 : 0 ≤ (giveL (orderM lots left w) left w.f1).2.2
  sum : ∀ p, ByLot p → sumF p (giveL (orderM lots left w) left w.f1).2.1 = sumF p left - takenF p boxes (giveL (orderM lots left w) left w.f1).1 ∧ 0 ≤ takenF p boxes (giveL (orderM lots left w) left w.f1).1 ∧ takenF p boxes (giveL (orderM lots left w) left w.f1).1 ≤ w.f1 - (giveL (orderM lots left w) left w.f1).2.2
  tot : w.f1 - (giveL (orderM lots left w) left w.f1).2.2 = takenF (fun _ => true) boxes (giveL (orderM lots left w) left w.f1).1
  fits : ∀ t ∈ (giveL (orderM lots left w) left w.f1).1, fitB lots w (boxes.getD t.f0.toNat zB) = true
  first : ∀ b : Nat, 0 < cnt (giveL (orderM lots left w) left w.f1).2.1 b → fitB lots w (boxes.getD b zB) = true → b < boxes.length → ∀ t ∈ (giveL (orderM lots left w) left w.f1).1, keyB lots boxes t.f0 ≤ keyB lots boxes b
  out : 0 < (giveL (orderM lots left w) left w.f1).2.2 → sumF (fitB lots w) (giveL (orderM lots left w) left w.f1).2.1 = 0
theorem cnt_out (l : List BoxT) (i : Nat) (h : l.length ≤ i) : cnt l i = 0 := by
  unfold cnt; rw [List.getD_eq_getElem?_getD, List.getElem?_eq_none h]; decide
theorem stepS {lots : List LotT} {boxes left : List BoxT} (w : WantT) (hB : ∀ i, cnt boxes i ≤ 20000) (hL : Left lots boxes left) (hw : 0 ≤ w.f1) : StepS lots boxes left w := by
  have hO := orderM_ok lots left w
  have hlen := hL.len
  have hfb : ∀ j ∈ orderM lots left w, 0 ≤ j ∧ j < (boxes.length : Int) ∧ fitB lots w (boxes.getD j.toNat zB) = true := fun j hj => by
    obtain ⟨g1, g2, g3, g4⟩ := hO.mem j hj
    exact ⟨g1, by omega, by rw [← byLot_fit lots w _ _ (hL.lot j.toNat).1]; exact g4⟩
  have hG := give_left (orderM lots left w) left w.f1 hL hw (fun j hj => ⟨(hfb j hj).1, (hfb j hj).2.1⟩)
  have hnd : ((orderM lots left w).map Int.toNat).Nodup := by
    refine List.Pairwise.map _ (fun a b (hab : a ≠ b ∧ 0 ≤ a ∧ 0 ≤ b) => ?_) (List.Pairwise.imp_of_mem (fun {a b} ha hb hab => ⟨hab, (hfb a ha).1, (hfb b hb).1⟩) hO.nodup)
    omega
  have hin : ∀ b : Nat, 0 < cnt (giveL (orderM lots left w) left w.f1).2.1 b → fitB lots w (boxes.getD b zB) = true → (b : Int) ∈ orderM lots left w := fun b hb hf => by
    have hc := hG.2.2.2 b
    have hbl : b < left.length := by
      rcases Nat.lt_or_ge b left.length with h | h
      · exact h
      · have := cnt_out left b h; omega
    exact hO.all b hbl (by omega) (by rw [byLot_fit lots w _ _ (hL.lot b).1]; exact hf)
  have hkey : ∀ i, keyB lots left i = keyB lots boxes i := fun i => by unfold keyB; rw [rdBoxI, rdBoxI, (hL.lot i.toNat).1]
  refine { left_ := hG.1, lack0 := hG.2.1, sum := fun p hp => ?_, tot := ?_, fits := ?_, first := fun b hb hf hbl t ht => ?_, out := fun hpos => ?_ }
  · have := give_sum p hp (orderM lots left w) left w.f1 hL hw (fun j hj => ⟨(hfb j hj).1, (hfb j hj).2.1⟩)
    exact ⟨this.1, this.2.2.1, this.2.2.2⟩
  · exact (give_sum (fun _ => true) (fun _ _ _ => rfl) (orderM lots left w) left w.f1 hL hw (fun j hj => ⟨(hfb j hj).1, (hfb j hj).2.1⟩)).2.1
  · exact fun t ht => give_fits (orderM lots left w) left w.f1 (fun j hj => (hfb j hj).2.2) t ht
  · have := give_first (keyB lots left) (orderM lots left w) left w.f1 hL.lo hw hO.asc hnd (fun j hj => ⟨(hfb j hj).1, by have := (hfb j hj).2.1; omega⟩) (b : Int) (hin b hb hf) (by simpa using hb) t ht
    rwa [hkey, hkey] at this
  · have ho := give_out (orderM lots left w) left w.f1 hL hw (fun j hj => ⟨(hfb j hj).1, (hfb j hj).2.1⟩) (fun j hj => (hO.mem j hj).2.2.1) hnd hpos
    have h1 := sumF_le (fitB lots w) (fun _ => false) (giveL (orderM lots left w) left w.f1).2.1 hG.1.lo (fun i hi hf => by
      exfalso
      have hm := hin i hi (by rw [← byLot_fit lots w _ _ (hG.1.lot i).1]; exact hf)
      have := ho _ hm
      simp only [Int.toNat_natCast] at this
      omega)
    rw [sumF_false] at h1
    have h2 := sumF_nonneg (fitB lots w) (giveL (orderM lots left w) left w.f1).2.1 hG.1.lo
    omega
theorem hall_some {lots : List LotT} {boxes : List BoxT} (hB : ∀ i, cnt boxes i ≤ 20000) : ∀ (ws : List WantT) (left : List BoxT), Left lots boxes left → (∀ w ∈ ws, 0 ≤ w.f1) → (∀ c t, dem c t ws ≤ sumF (fitCT lots c t) left) → ∃ p, planL lots ws left = some p
  | [], left, _, _, _ => ⟨_, rfl⟩
  | w :: r, left, hL, hw, hd => by
    have hS := stepS w hB hL (hw w (by simp))
    have hwr : ∀ x ∈ r, 0 ≤ x.f1 := fun x hx => hw x (by simp [hx])
    have hz : (giveL (orderM lots left w) left w.f1).2.2 = 0 := by
      rcases Int.lt_or_le 0 (giveL (orderM lots left w) left w.f1).2.2 with h | h
      · have h1 := hS.out h
        have h2 := (hS.sum (fitB lots w) (byLot_fit lots w))
        have h3 := hd w.f0 w.f2
        rw [dem, if_pos ⟨rfl, Int.le_refl _⟩, ← fitCT_w] at h3
        have h4 := dem_nonneg w.f0 w.f2 r hwr
        omega
      · have := hS.lack0; omega
    have hnext : ∀ c t, dem c t r ≤ sumF (fitCT lots c t) (giveL (orderM lots left w) left w.f1).2.1 := fun c t => by
      have hs := hS.sum (fitCT lots c t) (byLot_fit lots _)
      have h3 := hd c t
      rw [dem] at h3
      by_cases hc : w.f0 = c
      · by_cases ht : t ≤ w.f2
        · rw [if_pos ⟨hc, ht⟩] at h3; omega
        · rw [if_neg (fun h => ht h.2)] at h3
          by_cases hex : ∃ y ∈ (giveL (orderM lots left w) left w.f1).1, fitCT lots c t (boxes.getD y.f0.toNat zB) = true
          · obtain ⟨y, hy, hyf⟩ := hex
            have h5 := sumF_le (fitB lots w) (fitCT lots c t) (giveL (orderM lots left w) left w.f1).2.1 hS.left_.lo (fun i hi hf => by
              have hil : i < boxes.length := by
                rw [← hS.left_.len]
                rcases Nat.lt_or_ge i (giveL (orderM lots left w) left w.f1).2.1.length with h | h
                · exact h
                · have := cnt_out _ i h; omega
              have hf' : fitB lots w (boxes.getD i zB) = true := by rw [← byLot_fit lots w _ _ (hS.left_.lot i).1]; exact hf
              have h6 := hS.first i hi hf' hil y hy
              rw [fitCT, byLot_fit lots _ _ _ (hS.left_.lot i).1]
              rw [fitCT_w, fitCT_iff] at hf'
              refine (fitCT_iff lots c t _).2 ⟨hf'.1, by rw [hf'.2.1, hc], hf'.2.2.1, ?_⟩
              rw [fitCT_iff] at hyf
              unfold keyB at h6
              rw [rdBoxI, rdBoxI, Int.toNat_natCast] at h6
              omega)
            have h7 := hS.sum (fitB lots w) (byLot_fit lots w)
            have h8 := hd w.f0 w.f2
            rw [dem, if_pos ⟨rfl, Int.le_refl _⟩, ← fitCT_w] at h8
            have h9 := dem_mono c w.f2 t (by omega) r hwr
            rw [hc] at h8
            omega
          · have h0 := taken_none (fitCT lots c t) boxes (giveL (orderM lots left w) left w.f1).1 (fun y hy hyf => hex ⟨y, hy, hyf⟩)
            omega
      · rw [if_neg (fun h => hc h.1)] at h3
        have h0 := taken_none (fitCT lots c t) boxes (giveL (orderM lots left w) left w.f1).1 (fun y hy hyf => by
          have h1 := hS.fits y hy
          rw [fitCT_w, fitCT_iff] at h1
          rw [fitCT_iff] at hyf
          exact hc (h1.2.1.symm.trans hyf.2.1))
        omega
    obtain ⟨p, hp⟩ := hall_some hB r _ hS.left_ hwr hnext
    refine ⟨((giveL (orderM lots left w) left w.f1).1 :: p.1, p.2), ?_⟩
    unfold planL
    rw [if_neg (by omega), hp]
    rfl
theorem hall_none {lots : List LotT} {boxes : List BoxT} (hB : ∀ i, cnt boxes i ≤ 20000) : ∀ (ws : List WantT) (left : List BoxT) (p : List (List TakeT) × List BoxT), Left lots boxes left → (∀ w ∈ ws, 0 ≤ w.f1) → planL lots ws left = some p → ∀ c t, dem c t ws ≤ sumF (fitCT lots c t) left
  | [], left, p, hL, _, _, c, t => by rw [dem]; exact sumF_nonneg _ _ hL.lo
  | w :: r, left, p, hL, hw, h, c, t => by
    have hS := stepS w hB hL (hw w (by simp))
    unfold planL at h
    by_cases hz : (giveL (orderM lots left w) left w.f1).2.2 > 0
    · rw [if_pos hz] at h; cases h
    · rw [if_neg hz] at h
      obtain ⟨q, hq, _⟩ := Option.map_eq_some_iff.1 h
      have ih := hall_none hB r _ q hS.left_ (fun x hx => hw x (by simp [hx])) hq c t
      have hs := hS.sum (fitCT lots c t) (byLot_fit lots _)
      have hl := hS.lack0
      rw [dem]
      by_cases hc : w.f0 = c ∧ t ≤ w.f2
      · rw [if_pos hc]
        have h0 := taken_all (fitCT lots c t) boxes (giveL (orderM lots left w) left w.f1).1 (fun y hy => by
          have h1 := hS.fits y hy
          rw [fitCT_w, fitCT_iff] at h1
          exact (fitCT_iff lots c t _).2 ⟨h1.1, h1.2.1.trans hc.1, h1.2.2.1, by omega⟩)
        have := hS.tot
        omega
      · rw [if_neg hc]; omega
end Go.Proofs.Ytemcplbldfldlaa.P
