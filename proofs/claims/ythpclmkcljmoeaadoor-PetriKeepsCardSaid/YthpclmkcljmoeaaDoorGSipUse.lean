/- What the laws use of petri.Siphons, IsSiphon, IsTrap on right small nets. -/
import Derived.Test.YthpclmkcljmoeaaDoorGFire
import Derived.Test.YthpclmkcljmoeaaDoorPx7
namespace Go.Proofs.YthpclmkcljmoeaaDoor.P
open Go.RowKit Go.Proofs.YthpclmkcljmoeaaDoorW.PrintWords Go.Proofs.YthpclmkcljmoeaaDoorW.PrintLast Go.Proofs.YthpclmkcljmoeaaDoorW.PrintMore
set_option linter.unusedVariables false
set_option linter.unusedSimpArgs false
theorem Fits.okT {n : Nat} {l : List TransT} {m : List Int} {a b : Int} (h : Fits n l m a b) : ∀ t ∈ l, okT t := fun t ht => by
  have h0 := h.set0 t ht
  have h1 := h.set1 t ht
  have hp := h.p64
  exact ⟨fun p hp => by have := isSet_mem h0.1 hp; omega, fun p hp => by have := isSet_mem h1.1 hp; omega, by omega, by omega⟩
theorem siphons_eq {n : Nat} {l : List TransT} {m : List Int} {a b : Int} (h : Fits n l m a b) (hn : n ≤ 8) (hb : b ≤ 1000) : petri_Siphons.f (n : Int) l = some ((sipW (edgesN l false) n).map listL, 0) := by
  unfold petri_Siphons.f
  have hok : sipOk (n : Int) l = true := by
    unfold sipOk
    simp only [Bool.and_eq_true, decide_eq_true_eq, List.all_eq_true]
    refine ⟨⟨⟨by omega, by omega⟩, by have := h.trans; omega⟩, fun t ht => ?_⟩
    have := h.okT t ht
    exact ⟨⟨⟨this.1, this.2.1⟩, this.2.2.1⟩, this.2.2.2⟩
  rw [if_neg (by omega), if_pos hok]
  simp
theorem word_lt {n : Nat} {s : List Int} (hs : ∀ p ∈ s, 0 ≤ p ∧ p < (n : Int)) : wordL s < 2 ^ n := wordL_lt n s (fun p hp => by have := hs p hp; omega)
theorem closedE {l : List TransT} {n : Nat} {m : List Int} {a b : Int} (h : Fits n l m a b) (hb : b ≤ 1000) (trap : Bool) {w : Nat} (hw : w < 18446744073709551616) : petri_closed.f (edgesI (edgesN l trap)) (w : Int) = some (closedB (edgesN l trap) w) :=
  closed_eq (edgesN_ok trap h.okT) (by have := h.trans; simp [edgesN]; omega) hw
theorem isSiphon_ev {n : Nat} {l : List TransT} {m : List Int} {a b : Int} (h : Fits n l m a b) (hb : b ≤ 1000) (s : List Int) (hs : isSetB n s = true) (hl : s.length ≤ 1000) : Ev (fun k => petri_IsSiphon.f k (n : Int) l s) (closedB (edgesN l false) (wordL s)) := by
  have hm := fun p hp => isSet_mem hs (p := p) hp
  have hw : wordL s < 18446744073709551616 := wordL_64 (fun p hp => by have := hm p hp; have := h.p64; omega)
  simp only [petri_IsSiphon.f]
  refine .b ((isSet_ev n s (by omega)).congr hs) (.p (by trivial) (.b (edges_ev n l false h.okT (by have := h.trans; omega)) (.b (word_ev s (fun p hp => by have := hm p hp; have := h.p64; omega) (by omega)) (.b (.c (closedE h hb false hw)) (.r _)))))
theorem isTrap_ev {n : Nat} {l : List TransT} {m : List Int} {a b : Int} (h : Fits n l m a b) (hb : b ≤ 1000) (s : List Int) (hs : isSetB n s = true) (hl : s.length ≤ 1000) : Ev (fun k => petri_IsTrap.f k (n : Int) l s) (closedB (edgesN l true) (wordL s)) := by
  have hm := fun p hp => isSet_mem hs (p := p) hp
  have hw : wordL s < 18446744073709551616 := wordL_64 (fun p hp => by have := hm p hp; have := h.p64; omega)
  simp only [petri_IsTrap.f]
  refine .b ((isSet_ev n s (by omega)).congr hs) (.p (by trivial) (.b (edges_ev n l true h.okT (by have := h.trans; omega)) (.b (word_ev s (fun p hp => by have := hm p hp; have := h.p64; omega) (by omega)) (.b (.c (closedE h hb true hw)) (.r _)))))
/-- An ascending list of places is a set. -/
theorem isSet_of {P : Int} {s : List Int} (h1 : s.Pairwise (· < ·)) (h2 : ∀ p ∈ s, 0 ≤ p ∧ p < P) : isSetB P s = true := by
  unfold isSetB
  rw [List.all_eq_true]
  intro i hi
  have hil := List.mem_range.1 hi
  have hp := h2 _ (getD_mem s i 0 hil)
  simp only [setAt, Bool.and_eq_true, Bool.or_eq_true, decide_eq_true_eq, beq_iff_eq]
  refine ⟨⟨hp.1, hp.2⟩, ?_⟩
  by_cases h0 : i = 0
  · exact .inl h0
  · right
    have := List.pairwise_iff_getElem.1 h1 (i - 1) i (by omega) hil (by omega)
    simpa [List.getD_eq_getElem?_getD, hil, show i - 1 < s.length by omega] using this
theorem set_word {n : Nat} (hn : n ≤ 64) {w : Nat} (hw : w < 2 ^ n) : isSetB n (listL w) = true := by
  refine isSet_of (listL_sorted w) (fun p hp => ?_)
  have := (listL_mem w p).1 hp
  refine ⟨this.1, ?_⟩
  have hb : p.toNat < n := by
    rcases Nat.lt_or_ge p.toNat n with h | h
    · exact h
    · have := Nat.testBit_lt_two_pow (Nat.lt_of_lt_of_le hw (Nat.pow_le_pow_right (by omega) h))
      simp_all
  omega
theorem word_mem {s : List Int} (hs : ∀ p ∈ s, 0 ≤ p) (i : Nat) : (wordL s).testBit i = true ↔ (i : Int) ∈ s := by
  rw [wordL_bit, List.any_eq_true]
  constructor
  · rintro ⟨p, hp, h⟩
    have h0 := hs p hp
    have : p = (i : Int) := by have := beq_iff_eq.1 h; omega
    rwa [this] at hp
  · intro h
    exact ⟨_, h, by simp⟩
theorem and_ne_zero {a b : Nat} : a &&& b ≠ 0 ↔ ∃ i, a.testBit i = true ∧ b.testBit i = true := by
  constructor
  · intro h
    rcases Classical.em (∃ i, a.testBit i = true ∧ b.testBit i = true) with h1 | h1
    · exact h1
    · exact absurd ((and_zero a b).2 (fun i hi => h1 ⟨i, hi⟩)) h
  · rintro ⟨i, hi⟩ h
    exact (and_zero a b).1 h i hi
end Go.Proofs.YthpclmkcljmoeaaDoor.P
