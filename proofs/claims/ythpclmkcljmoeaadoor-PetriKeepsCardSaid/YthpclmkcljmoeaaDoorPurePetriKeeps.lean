/- PetriKeeps: a siphon without marks stays so, a trap that has a mark keeps one, whatever fires. -/
import Derived.Test.YthpclmkcljmoeaaDoorGTypes
import Derived.Test.YthpclmkcljmoeaaDoorGLargest
import Derived.Test.YthpclmkcljmoeaaDoorGFired
import Derived.Test.YthpclmkcljmoeaaDoorGSmall
import Derived.Test.YthpclmkcljmoeaaDoorPx8
namespace Go.Proofs.YthpclmkcljmoeaaDoor.P
open Go.RowKit Go.Proofs.YthpclmkcljmoeaaDoorW.PrintWords Go.Proofs.YthpclmkcljmoeaaDoorW.PrintLast Go.Proofs.YthpclmkcljmoeaaDoorW.PrintMore
set_option linter.unusedVariables false
set_option linter.unusedSimpArgs false
theorem bit_lt {w n i : Nat} (hw : w < 2 ^ n) (h : w.testBit i = true) : i < n := by
  rcases Nat.lt_or_ge i n with h1 | h1
  · exact h1
  · have := Nat.testBit_lt_two_pow (Nat.lt_of_lt_of_le hw (Nat.pow_le_pow_right (n := 2) (by omega) h1))
    simp_all
/-! ### A siphon without marks stays so, a trap keeps its mark -/
theorem edge_of {l : List TransT} (trap : Bool) {q : Nat} (hq : q < l.length) : (if trap = true then (wordL (l.getD q zT).f0, wordL (l.getD q zT).f1) else (wordL (l.getD q zT).f1, wordL (l.getD q zT).f0)) ∈ edgesN l trap :=
  List.mem_map.2 ⟨l.getD q zT, getD_mem l q zT hq, rfl⟩
theorem dead_none {m s : List Int} (h : dead m s = false) (hs : ∀ p ∈ s, 0 ≤ p) (p : Nat) (hp : (p : Int) ∈ s) : 1 ≤ m.getD p 0 := by
  unfold dead at h
  rw [List.any_eq_false] at h
  have := h _ hp
  simp only [decide_eq_true_eq, Int.not_lt] at this
  simpa [rd] using this
theorem count_pos {s : List Int} {x : Int} (h : x ∈ s) : 1 ≤ s.count x := List.count_pos_iff.2 h
theorem count_none {s : List Int} {x : Int} (h : ¬ x ∈ s) : s.count x = 0 := List.count_eq_zero.2 h
theorem keep_siphon {n : Nat} {l : List TransT} {m : List Int} {a b : Int} (h : Fits n l m a b) {A : Nat} (hA : A < 2 ^ n) (hE : Edged (edgesN l false) A) (t : Int) (ht : (fireM l m t).2 = 0)
    (h0 : ∀ p ∈ listL A, m.getD p.toNat 0 = 0) : ∀ p ∈ listL A, (fireM l m t).1.getD p.toNat 0 = 0 := by
  intro p hp
  obtain ⟨h', q, rfl, hq, hd, he⟩ := fire_ok h t ht
  obtain ⟨g0, g1, g2, g3⟩ := h.at0 hq
  obtain ⟨p0, p1, p2⟩ := (listL_mem A p).1 hp
  have hpn : p.toNat < n := bit_lt hA p2
  have hf := fire_at h hq hpn
  have hm0 := h0 p hp
  have hge : 0 ≤ (fireM l m (q : Int)).1.getD p.toNat 0 := (h'.mark _ (getD_mem _ _ 0 (by rw [h'.len]; exact hpn))).1
  rw [he] at hge ⊢
  have hno : ¬ ((p.toNat : Nat) : Int) ∈ (l.getD q zT).f1 := by
    intro hin
    have e := hE _ (edge_of false hq) (by
      refine and_ne_zero.2 ⟨p.toNat, ?_, p2⟩
      rw [if_neg (by simp)]
      exact (word_mem (fun p hp => (g2 p hp).1) _).2 hin)
    rw [if_neg (by simp)] at e
    obtain ⟨j, e1, e2⟩ := and_ne_zero.1 e
    have hjn : j < n := bit_lt hA e2
    have h1 := dead_none hd (fun p hp => (g0 p hp).1) j ((word_mem (fun p hp => (g0 p hp).1) j).1 e1)
    have := h0 (j : Int) ((listL_mem A _).2 ⟨by omega, by have := h.p64; omega, by simpa using e2⟩)
    simp only [Int.toNat_natCast] at this
    omega
  rw [count_none hno] at hf
  omega
theorem keep_trap {n : Nat} {l : List TransT} {m : List Int} {a b : Int} (h : Fits n l m a b) {A : Nat} (hA : A < 2 ^ n) (hE : Edged (edgesN l true) A) (t : Int) (ht : (fireM l m t).2 = 0)
    (h0 : ∃ p ∈ listL A, 0 < m.getD p.toNat 0) : ∃ p ∈ listL A, 0 < (fireM l m t).1.getD p.toNat 0 := by
  obtain ⟨p, hp, hm⟩ := h0
  obtain ⟨h', q, rfl, hq, hd, he⟩ := fire_ok h t ht
  obtain ⟨g0, g1, g2, g3⟩ := h.at0 hq
  obtain ⟨p0, p1, p2⟩ := (listL_mem A p).1 hp
  have hpn : p.toNat < n := bit_lt hA p2
  rw [he]
  by_cases hin : ((p.toNat : Nat) : Int) ∈ (l.getD q zT).f0
  · have e := hE _ (edge_of true hq) (by
      refine and_ne_zero.2 ⟨p.toNat, ?_, p2⟩
      rw [if_pos rfl]
      exact (word_mem (fun p hp => (g0 p hp).1) _).2 hin)
    rw [if_pos rfl] at e
    obtain ⟨j, e1, e2⟩ := and_ne_zero.1 e
    have hjn : j < n := bit_lt hA e2
    have h1 := (word_mem (fun p hp => (g2 p hp).1) j).1 e1
    refine ⟨(j : Int), (listL_mem A _).2 ⟨by omega, by have := h.p64; omega, by simpa using e2⟩, ?_⟩
    simp only [Int.toNat_natCast]
    rw [fire_at h hq hjn]
    have c1 := count_pos h1
    have hmem := getD_mem l q zT hq
    have c0 := isSet_count (h.set0 _ hmem).1 (j : Int)
    have hge := (h.mark (m.getD j 0) (getD_mem _ _ 0 (by rw [h.len]; exact hjn))).1
    by_cases hj : (j : Int) ∈ (l.getD q zT).f0
    · have := dead_none hd (fun p hp => (g0 p hp).1) j hj
      omega
    · rw [count_none hj]
      omega
  · refine ⟨p, hp, ?_⟩
    rw [fire_at h hq hpn, count_none hin]
    omega
def zeroB (m s : List Int) : Bool := s.all (fun p => rd m p == 0)
def markB (m s : List Int) : Bool := s.any (fun p => decide (rd m p > 0))
section
variable {n : Nat} {l : List TransT}
theorem in_rng {m s : List Int} (hm : m.length = n) (hs : ∀ p ∈ s, 0 ≤ p ∧ p < (n : Int)) {j : Nat} (hj : j < s.length) : 0 ≤ s.getD j 0 ∧ s.getD j 0 < (m.length : Int) := by
  have := hs _ (getD_mem s j 0 hj)
  omega
theorem keeps_l1 {m s : List Int} (hm : m.length = n) (hs : ∀ p ∈ s, 0 ≤ p ∧ p < (n : Int)) (hl : s.length ≤ 64) (x3 t : List Int) (x9 : Bool) (i : Int) (v : Bool) (d : Nat) : ∀ (j : Nat) (b : Bool), s.length - j = d → j ≤ s.length →
    Ev (fun k => taquinlaw18_PetriKeeps.l2 k m x3 x9 s t i (b && zeroB m (s.drop j)) false 0 (n : Int) l) v → Ev (fun k => taquinlaw18_PetriKeeps.l1 k m x3 x9 s t i b (j : Int) (n : Int) l) v := by
  induction d with
  | zero =>
    intro j b hd hj h
    obtain rfl : j = s.length := by omega
    rw [List.drop_length] at h
    refine .s ?_
    simp only [taquinlaw18_PetriKeeps.l1]
    refine .n (by omega) ?_
    simpa [zeroB] using h
  | succ d ih =>
    intro j b hd hj h
    have hlt : j < s.length := by omega
    have hr := in_rng hm hs hlt
    have e0 : rd s (j : Int) = s.getD j 0 := by simp [rd]
    rw [drop_at s j 0 hlt] at h
    refine .s ?_
    simp only [taquinlaw18_PetriKeeps.l1]
    refine .p (by omega) ?_
    cases b with
    | true =>
      refine .p rfl (.p (by omega) ?_)
      rw [e0]
      refine .p hr.1 (.p hr.2 ?_)
      rw [w64 (by omega) (by omega)]
      refine ih (j + 1) _ (by omega) (by omega) ?_
      simpa [zeroB] using h
    | false =>
      refine .n (by simp) ?_
      rw [w64 (by omega) (by omega)]
      exact ih (j + 1) false (by omega) (by omega) (by simpa using h)
theorem keeps_l2 {m s : List Int} (hm : m.length = n) (hs : ∀ p ∈ s, 0 ≤ p ∧ p < (n : Int)) (hl : s.length ≤ 64) (x3 t : List Int) (x9 x13 : Bool) (i : Int) (v : Bool) (d : Nat) : ∀ (j : Nat) (b : Bool), s.length - j = d → j ≤ s.length →
    Ev (fun k => taquinlaw18_PetriKeeps.l2 k m x3 x9 t s i x13 (b || markB m (s.drop j)) (s.length : Int) (n : Int) l) v → Ev (fun k => taquinlaw18_PetriKeeps.l2 k m x3 x9 t s i x13 b (j : Int) (n : Int) l) v := by
  induction d with
  | zero =>
    intro j b hd hj h
    obtain rfl : j = s.length := by omega
    rw [List.drop_length] at h
    simpa [markB] using h
  | succ d ih =>
    intro j b hd hj h
    have hlt : j < s.length := by omega
    have hr := in_rng hm hs hlt
    have e0 : rd s (j : Int) = s.getD j 0 := by simp [rd]
    rw [drop_at s j 0 hlt] at h
    refine .s ?_
    simp only [taquinlaw18_PetriKeeps.l2]
    refine .p (by omega) ?_
    cases b with
    | false =>
      refine .n (by simp) (.p (by omega) ?_)
      rw [e0]
      refine .p hr.1 (.p hr.2 ?_)
      rw [w64 (by omega) (by omega)]
      refine ih (j + 1) _ (by omega) (by omega) ?_
      simpa [markB] using h
    | true =>
      refine .p rfl ?_
      rw [w64 (by omega) (by omega)]
      exact ih (j + 1) true (by omega) (by omega) (by simpa using h)
theorem keeps_l3 {m s : List Int} (hm : m.length = n) (hs : ∀ p ∈ s, 0 ≤ p ∧ p < (n : Int)) (hl : s.length ≤ 64) (x3 t : List Int) (x9 x13 x15 : Bool) (i : Int) (v : Bool) (d : Nat) : ∀ (j : Nat) (b : Bool), s.length - j = d → j ≤ s.length →
    Ev (fun k => taquinlaw18_PetriKeeps.l4 k x3 x9 s t i x13 x15 m (b && zeroB m (s.drop j)) false 0 (n : Int) l) v → Ev (fun k => taquinlaw18_PetriKeeps.l3 k x3 x9 s t i x13 x15 m b (j : Int) (n : Int) l) v := by
  induction d with
  | zero =>
    intro j b hd hj h
    obtain rfl : j = s.length := by omega
    rw [List.drop_length] at h
    refine .s ?_
    simp only [taquinlaw18_PetriKeeps.l3]
    refine .n (by omega) ?_
    simpa [zeroB] using h
  | succ d ih =>
    intro j b hd hj h
    have hlt : j < s.length := by omega
    have hr := in_rng hm hs hlt
    have e0 : rd s (j : Int) = s.getD j 0 := by simp [rd]
    rw [drop_at s j 0 hlt] at h
    refine .s ?_
    simp only [taquinlaw18_PetriKeeps.l3]
    refine .p (by omega) ?_
    cases b with
    | true =>
      refine .p rfl (.p (by omega) ?_)
      rw [e0]
      refine .p hr.1 (.p hr.2 ?_)
      rw [w64 (by omega) (by omega)]
      refine ih (j + 1) _ (by omega) (by omega) ?_
      simpa [zeroB] using h
    | false =>
      refine .n (by simp) ?_
      rw [w64 (by omega) (by omega)]
      exact ih (j + 1) false (by omega) (by omega) (by simpa using h)
theorem keeps_l4 {m s : List Int} (hm : m.length = n) (hs : ∀ p ∈ s, 0 ≤ p ∧ p < (n : Int)) (hl : s.length ≤ 64) (x3 t : List Int) (x9 x13 x15 x19 : Bool) (i : Int) (v : Bool) (d : Nat) : ∀ (j : Nat) (b : Bool), s.length - j = d → j ≤ s.length →
    Ev (fun k => taquinlaw18_PetriKeeps.l4 k x3 x9 t s i x13 x15 m x19 (b || markB m (s.drop j)) (s.length : Int) (n : Int) l) v → Ev (fun k => taquinlaw18_PetriKeeps.l4 k x3 x9 t s i x13 x15 m x19 b (j : Int) (n : Int) l) v := by
  induction d with
  | zero =>
    intro j b hd hj h
    obtain rfl : j = s.length := by omega
    rw [List.drop_length] at h
    simpa [markB] using h
  | succ d ih =>
    intro j b hd hj h
    have hlt : j < s.length := by omega
    have hr := in_rng hm hs hlt
    have e0 : rd s (j : Int) = s.getD j 0 := by simp [rd]
    rw [drop_at s j 0 hlt] at h
    refine .s ?_
    simp only [taquinlaw18_PetriKeeps.l4]
    refine .p (by omega) ?_
    cases b with
    | false =>
      refine .n (by simp) (.p (by omega) ?_)
      rw [e0]
      refine .p hr.1 (.p hr.2 ?_)
      rw [w64 (by omega) (by omega)]
      refine ih (j + 1) _ (by omega) (by omega) ?_
      simpa [markB] using h
    | true =>
      refine .p rfl ?_
      rw [w64 (by omega) (by omega)]
      exact ih (j + 1) true (by omega) (by omega) (by simpa using h)
theorem list_in {A : Nat} (hA : A < 2 ^ n) : ∀ p ∈ listL A, 0 ≤ p ∧ p < (n : Int) := by
  intro p hp
  obtain ⟨h0, h1, h2⟩ := (listL_mem A p).1 hp
  have := bit_lt hA h2
  omega
theorem keeps_j7 {m : List Int} (h : Fits n l m 10 20) {A B : Nat} (hA : A < 2 ^ n) (hB : B < 2 ^ n) (cA : A = 0 ∨ closedB (edgesN l false) A = true) (cB : B = 0 ∨ closedB (edgesN l true) B = true) :
    Ev (fun k => taquinlaw18_PetriKeeps.j7 k true (listL A) (listL B) (n : Int) l) true := by
  have hp := h.p64
  have h64 : (2 : Nat) ^ n ≤ 2 ^ 64 := Nat.pow_le_pow_right (by omega) hp
  have ha := listL_len A
  have hb := listL_len B
  have hs := isSiphon_ev h (by omega) (listL A) (set_word hp hA) (by omega)
  have ht := isTrap_ev h (by omega) (listL B) (set_word hp hB) (by omega)
  rw [wordL_listL A (by omega)] at hs
  rw [wordL_listL B (by omega)] at ht
  have nz : ∀ C : Nat, C < 2 ^ 64 → ¬ ((listL C).length : Int) = 0 → C ≠ 0 := fun C hC hn e => hn (by rw [(listL_nil C hC).2 e]; rfl)
  have htrap : Ev (fun k => if ((listL B).length : Int) = 0 then (some true) else ((petri_IsTrap.f k (n : Int) l (listL B)).bind fun t279 => (some t279))) true := by
    by_cases h1 : ((listL B).length : Int) = 0
    · exact .p h1 (.r _)
    · refine .n h1 (.b ht ?_)
      rw [cB.resolve_left (nz B (by omega) h1)]
      exact .r _
  refine .s ?_
  simp only [taquinlaw18_PetriKeeps.j7]
  refine .p (by trivial) ?_
  by_cases h1 : ((listL A).length : Int) = 0
  · exact .p h1 htrap
  · refine .n h1 (.b hs ?_)
    rw [cA.resolve_left (nz A (by omega) h1)]
    exact .p rfl htrap
theorem edged_of {E : List (Nat × Nat)} {A : Nat} (h : A = 0 ∨ closedB E A = true) : Edged E A := by
  rcases h with rfl | h
  · intro e _ he; simp at he
  · exact ((closedB_iff _ _).1 h).2
theorem zeroB_iff {m s : List Int} : zeroB m s = true ↔ ∀ p ∈ s, m.getD p.toNat 0 = 0 := by
  unfold zeroB
  rw [List.all_eq_true]
  simp [rd]
theorem markB_iff {m s : List Int} : markB m s = true ↔ ∃ p ∈ s, 0 < m.getD p.toNat 0 := by
  unfold markB
  rw [List.any_eq_true]
  simp [rd]
theorem keeps_l0 (x3 : List Int) (h60 : x3.length ≤ 60) {A B : Nat} (hA : A < 2 ^ n) (hB : B < 2 ^ n) (cA : A = 0 ∨ closedB (edgesN l false) A = true) (cB : B = 0 ∨ closedB (edgesN l true) B = true) (d : Nat) :
    ∀ (i : Nat) (m : List Int), x3.length - i = d → i ≤ x3.length → Fits n l m 10 20 → Ev (fun k => taquinlaw18_PetriKeeps.l0 k m x3 true (listL A) (listL B) (i : Int) (n : Int) l) true := by
  have ha := listL_len A
  have hb := listL_len B
  have hiA := list_in hA
  have hiB := list_in hB
  have head : ∀ (i : Nat) (m : List Int), i ≤ x3.length → Fits n l m 10 20 → Ev (fun k => taquinlaw18_PetriKeeps.l2 k m x3 true (listL A) (listL B) (i : Int) (zeroB m (listL A)) (markB m (listL B)) ((listL B).length : Int) (n : Int) l) true →
      Ev (fun k => taquinlaw18_PetriKeeps.l0 k m x3 true (listL A) (listL B) (i : Int) (n : Int) l) true := by
    intro i m hi h hh
    refine .s ?_
    simp only [taquinlaw18_PetriKeeps.l0]
    refine .p (by omega) ?_
    refine keeps_l1 h.len hiA (by omega) x3 (listL B) true (i : Int) true (listL A).length 0 true (by omega) (by omega) ?_
    refine keeps_l2 h.len hiB (by omega) x3 (listL A) true _ (i : Int) true (listL B).length 0 false (by omega) (by omega) ?_
    simpa using hh
  induction d with
  | zero =>
    intro i m hd hi h
    refine head i m hi h (.s ?_)
    simp only [taquinlaw18_PetriKeeps.l2]
    exact .n (by omega) (.p (by omega) (keeps_j7 h hA hB cA cB))
  | succ d ih =>
    intro i m hd hi h
    have hil : i < x3.length := by omega
    refine head i m hi h (.s ?_)
    simp only [taquinlaw18_PetriKeeps.l2, rdI]
    refine .n (by omega) (.n (by omega) (.p (by omega) (.p (by omega) (.b (fire_ev h _) ?_))))
    by_cases h0 : (fireM l m (x3.getD i 0)).2 = 0
    · obtain ⟨h', _⟩ := fire_ok h _ h0
      have hz := keep_siphon h hA (edged_of cA) _ h0
      have hm := keep_trap h hB (edged_of cB) _ h0
      generalize (fireM l m (x3.getD i 0)).1 = m' at h' hz hm
      refine .p h0 (.p (by have := h'.len; omega) ?_)
      refine keeps_l3 h'.len hiA (by omega) x3 (listL B) true _ _ (i : Int) true (listL A).length 0 true (by omega) (by omega) ?_
      refine keeps_l4 h'.len hiB (by omega) x3 (listL A) true _ _ _ (i : Int) true (listL B).length 0 false (by omega) (by omega) ?_
      have hz' : zeroB m (listL A) = true → zeroB m' (listL A) = true := fun e => zeroB_iff.2 (hz (zeroB_iff.1 e))
      have hm' : markB m (listL B) = true → markB m' (listL B) = true := fun e => markB_iff.2 (hm (markB_iff.1 e))
      have hj : Ev (fun k => taquinlaw18_PetriKeeps.j6 k x3 true (listL A) (listL B) (i : Int) m' false (n : Int) l) true := by
        refine .s ?_
        simp only [taquinlaw18_PetriKeeps.j6]
        refine .n (by simp) ?_
        rw [w64 (by omega) (by omega)]
        exact ih (i + 1) m' (by omega) (by omega) h'
      refine .s ?_
      simp only [taquinlaw18_PetriKeeps.l4]
      refine .n (by omega) ?_
      simp only [List.drop_zero, Bool.true_and, Bool.false_or]
      have hmark : Ev (fun k => if markB m (listL B) = true then (taquinlaw18_PetriKeeps.j6 k x3 true (listL A) (listL B) (i : Int) m' (!markB m' (listL B)) (n : Int) l) else (taquinlaw18_PetriKeeps.j6 k x3 true (listL A) (listL B) (i : Int) m' false (n : Int) l)) true := by
        by_cases e : markB m (listL B) = true
        · refine .p e ?_
          rw [hm' e]
          exact hj
        · exact .n e hj
      by_cases e : zeroB m (listL A) = true
      · exact .p e (.p (hz' e) hmark)
      · exact .n e hmark
    · refine .n h0 ?_
      rw [w64 (by omega) (by omega)]
      exact ih (i + 1) m (by omega) (by omega) h
end
theorem PetriKeeps (x0 : S24) (x1 : List Int) (a2 : Int) (x3 : List Int) (wf0 : wf24 x0) (wf1 : wfL (wfI .i64) x1) (w2 : wfI .i64 a2) (wf3 : wfL (wfI .i64) x3) : ∃ k, taquinlaw18_PetriKeeps.f k x0.f0 x0.f1 x1 a2 x3 = some true := by
  obtain ⟨P, l⟩ := x0
  simp only
  have hl : l.length ≤ 9223372036854775807 := wf0.2.2
  refine Ev.ex (f := fun k => taquinlaw18_PetriKeeps.f k P l x1 a2 x3) ?_
  have hout : Ev (fun k => taquinlaw18_PetriKeeps.j0 k x1 a2 x3 true true P l) true := by
    refine .s ?_
    simp only [taquinlaw18_PetriKeeps.j0]
    exact .p (by trivial) (.r _)
  simp only [taquinlaw18_PetriKeeps.f]
  refine .b small_ev ?_
  obtain ⟨r, hr, hh⟩ := fits_ev P l x1 10 20 hl
  refine .b hr ?_
  cases r with
  | false => exact .n (by simp) hout
  | true =>
    obtain ⟨n, rfl, hF⟩ := hh rfl
    refine .p (by trivial) ?_
    by_cases h60 : (x3.length : Int) > 60
    · rw [show decide ((x3.length : Int) > 60) = true by simpa using h60]
      exact hout
    · rw [show decide ((x3.length : Int) > 60) = false by simpa using h60]
      obtain ⟨s, hs, hset, hsl⟩ := pick_ev a2 n hF.p64
      have hsin : ∀ p ∈ s, 0 ≤ p ∧ p < (n : Int) := fun p hp => isSet_mem hset hp
      have hword := word_lt hsin
      have lt : ∀ E, lg E (wordL s) < 2 ^ n := fun E => Nat.lt_of_le_of_lt (lgW_sub E _ _).le hword
      refine .s ?_
      simp only [taquinlaw18_PetriKeeps.j0]
      refine .n (by simp) (.b hs (.b (largest_ev hF (by omega) false s hset (by omega)) (.b hs (.b (largest_ev hF (by omega) true s hset (by omega)) ?_))))
      exact keeps_l0 x3 (by omega) (lt _) (lt _) (lgW_ends _ _ _ (Nat.le_refl _)) (lgW_ends _ _ _ (Nat.le_refl _)) x3.length 0 x1 (by omega) (by omega) hF
end Go.Proofs.YthpclmkcljmoeaaDoor.P
