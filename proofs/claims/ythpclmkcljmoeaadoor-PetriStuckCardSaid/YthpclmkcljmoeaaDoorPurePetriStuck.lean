/- PetriStuck: where nothing is enabled, the places without marks are a siphon, and a minimal one lies within. -/
import Derived.Test.YthpclmkcljmoeaaDoorGTypes
import Derived.Test.YthpclmkcljmoeaaDoorGSipUse
import Derived.Test.YthpclmkcljmoeaaDoorGSmall
import Derived.Test.YthpclmkcljmoeaaDoorPx14
import Derived.Test.YthpclmkcljmoeaaDoorPx15
namespace Go.Proofs.YthpclmkcljmoeaaDoor.P
open Go.RowKit Go.Proofs.YthpclmkcljmoeaaDoorW.PrintWords Go.Proofs.YthpclmkcljmoeaaDoorW.PrintLast Go.Proofs.YthpclmkcljmoeaaDoorW.PrintMore
set_option linter.unusedVariables false
set_option linter.unusedSimpArgs false
section
variable {n : Nat} {l : List TransT} {m : List Int}
theorem live_l0 (h : Fits n l m 8 12) (d : Nat) : ∀ (i : Nat) (out : List Int), l.length - i = d → i ≤ l.length → out.length ≤ i →
    ∃ r, Ev (fun k => petri_Live.l0 k m out (l.length : Int) (i : Int) (n : Int) l) r ∧ out.length ≤ r.length ∧ (r = [] → ∀ j, i ≤ j → j < l.length → dead m (l.getD j zT).f0 = true) := by
  induction d with
  | zero =>
    intro i out hd hi ho
    refine ⟨out, .s ?_, Nat.le_refl _, fun _ j h1 h2 => by omega⟩
    simp only [petri_Live.l0]
    exact .n (by omega) (.r _)
  | succ d ih =>
    intro i out hd hi ho
    have hil : i < l.length := by omega
    have hl := h.trans
    cases hq : dead m (l.getD i zT).f0 with
    | true =>
      obtain ⟨r, hr, hlen, hh⟩ := ih (i + 1) out (by omega) (by omega) (by omega)
      refine ⟨r, .s ?_, hlen, fun he j h1 h2 => ?_⟩
      · simp only [petri_Live.l0]
        refine .p (by omega) (.b (.c (enabled_eq h hil)) ?_)
        rw [hq]
        refine .n (by simp) ?_
        rw [w64 (by omega) (by omega)]
        exact hr
      · by_cases e : j = i
        · rw [e]; exact hq
        · exact hh he j (by omega) h2
    | false =>
      obtain ⟨r, hr, hlen, hh⟩ := ih (i + 1) (out ++ [(i : Int)]) (by omega) (by omega) (by simp; omega)
      simp only [List.length_append, List.length_cons, List.length_nil] at hlen
      refine ⟨r, .s ?_, by omega, fun he => by rw [he] at hlen; simp at hlen⟩
      simp only [petri_Live.l0]
      refine .p (by omega) (.b (.c (enabled_eq h hil)) ?_)
      rw [hq]
      refine .p (by simp) (.p (by omega) ?_)
      rw [w64 (by omega) (by omega)]
      exact hr
/-- The places without marks, below i. -/
def zeroM (m : List Int) (i : Nat) : List Int := ((List.range i).filter (fun p => decide (m.getD p 0 = 0))).map (fun (p : Nat) => (p : Int))
theorem zeroM_succ (m : List Int) (i : Nat) : zeroM m (i + 1) = zeroM m i ++ (if m.getD i 0 = 0 then [(i : Int)] else []) := by
  unfold zeroM
  rw [List.range_succ, List.filter_append, List.map_append]
  congr 1
  rw [List.filter_cons]
  by_cases h : m.getD i 0 = 0
  · rw [if_pos h, if_pos (decide_eq_true h)]
    rfl
  · rw [if_neg h, if_neg (by rw [decide_eq_false h]; simp)]
    rfl
theorem zeroM_mem {m : List Int} {i : Nat} {p : Int} : p ∈ zeroM m i ↔ 0 ≤ p ∧ p < (i : Int) ∧ m.getD p.toNat 0 = 0 := by
  unfold zeroM
  simp only [List.mem_map, List.mem_filter, List.mem_range, decide_eq_true_eq]
  constructor
  · rintro ⟨q, ⟨h1, h2⟩, rfl⟩
    exact ⟨by omega, by omega, by simpa using h2⟩
  · rintro ⟨h1, h2, h3⟩
    exact ⟨p.toNat, ⟨by omega, h3⟩, by omega⟩
theorem zeroM_sorted (m : List Int) (i : Nat) : (zeroM m i).Pairwise (· < ·) := by
  unfold zeroM
  rw [List.pairwise_map]
  refine List.Pairwise.imp (R := fun a b : Nat => a < b) (fun h => by omega) ?_
  exact List.Pairwise.sublist List.filter_sublist List.pairwise_lt_range
theorem zeroM_len (m : List Int) (i : Nat) : (zeroM m i).length ≤ i := by
  unfold zeroM
  rw [List.length_map]
  exact Nat.le_trans (List.length_filter_le _ _) (by simp)
/-- The places without marks are a siphon. -/
theorem stuck_closed (h : Fits n l m 8 12) (h0 : 0 < l.length) (hdead : ∀ j, j < l.length → dead m (l.getD j zT).f0 = true) : closedB (edgesN l false) (wordL (zeroM m n)) = true := by
  have hz : ∀ p ∈ zeroM m n, (0 : Int) ≤ p := fun p hp => (zeroM_mem.1 hp).1
  have key : ∀ j, j < l.length → ∃ i, (wordL (l.getD j zT).f0).testBit i = true ∧ (wordL (zeroM m n)).testBit i = true := fun j hj => by
    have hd := hdead j hj
    unfold dead at hd
    obtain ⟨p, hp, hlt⟩ := List.any_eq_true.1 hd
    have hr := (h.at0 hj).1 p hp
    have hlen := h.len
    have hmk := h.mark _ (getD_mem m p.toNat 0 (by omega))
    have hlt' : rd m p < 1 := of_decide_eq_true hlt
    unfold rd at hlt'
    refine ⟨p.toNat, (word_mem (fun q hq => ((h.at0 hj).1 q hq).1) _).2 (by rw [Int.toNat_of_nonneg hr.1]; exact hp), (word_mem hz _).2 ?_⟩
    rw [Int.toNat_of_nonneg hr.1]
    exact zeroM_mem.2 ⟨hr.1, hr.2, by omega⟩
  rw [closedB_iff]
  constructor
  · obtain ⟨i, _, hi⟩ := key 0 h0
    intro hw
    rw [hw] at hi
    simp at hi
  · intro e he _
    obtain ⟨t, ht, rfl⟩ := List.mem_map.1 he
    obtain ⟨j, hj, rfl⟩ := List.mem_iff_getElem.1 ht
    obtain ⟨i, h1, h2⟩ := key j hj
    have e2 : l.getD j zT = l[j] := by simp [List.getD_eq_getElem?_getD, hj]
    rw [e2] at h1
    exact and_ne_zero.2 ⟨i, h1, h2⟩
/-- Is a list within the places without marks. -/
def inZ (m : List Int) (s : List Int) : Bool := s.all (fun p => decide (0 ≤ p) && decide (p < (m.length : Int)) && (rd m p == 0))
theorem stuck_l3 (h : Fits n l m 8 12) (L : List (List Int)) (x : Nat) (hx : x < L.length) (hxl : (L.getD x []).length ≤ 64) (hL : L.length ≤ 1000) (v : Bool) (hnext : inZ m (L.getD x []) = false → Ev (fun k => taquinlaw18_PetriStuck.l2 k m true L ((x + 1 : Nat) : Int)) v) (hin : inZ m (L.getD x []) = true → v = true) (d : Nat) : ∀ (i : Nat) (b : Bool), (L.getD x []).length - i = d → i ≤ (L.getD x []).length → b = inZ m ((L.getD x []).take i) →
    Ev (fun k => taquinlaw18_PetriStuck.l3 k m true L (x : Int) b (i : Int)) v := by
  have hrd : rd_L1 L (x : Int) = L.getD x [] := by simp [rd_L1]
  have hm := h.len
  have hp := h.p64
  generalize L.getD x [] = s at *
  induction d with
  | zero =>
    intro i b hd hi hb
    refine .s ?_
    simp only [taquinlaw18_PetriStuck.l3, hrd]
    refine .p (by omega) (.p (by omega) (.n (by omega) ?_))
    rw [List.take_of_length_le (by omega)] at hb
    cases b with
    | true => exact .p (by trivial) ((Ev.r _).congr (hin hb.symm).symm)
    | false =>
      refine .n (by simp) ?_
      rw [w64 (by omega) (by omega)]
      exact hnext hb.symm
  | succ d ih =>
    intro i b hd hi hb
    have hil : i < s.length := by omega
    have htake : inZ m (s.take (i + 1)) = (inZ m (s.take i) && (decide (0 ≤ s.getD i 0) && decide (s.getD i 0 < (m.length : Int)) && (rd m (s.getD i 0) == 0))) := by
      unfold inZ
      rw [List.take_succ_eq_append_getElem hil, List.all_append]
      simp [List.getD_eq_getElem?_getD, hil]
    have hn : ∀ b', b' = inZ m (s.take (i + 1)) → Ev (fun k => taquinlaw18_PetriStuck.l3 k m true L (x : Int) b' (wrap64 ((i : Int) + 1))) v := fun b' hb' => by
      rw [w64 (by omega) (by omega)]
      exact ih (i + 1) b' (by omega) (by omega) hb'
    refine .s ?_
    simp only [taquinlaw18_PetriStuck.l3, hrd, rdI]
    refine .p (by omega) (.p (by omega) (.p (by omega) ?_))
    cases b with
    | false =>
      refine .n (by simp) (hn _ ?_)
      rw [htake, ← hb, Bool.false_and]
    | true =>
      rw [← hb, Bool.true_and] at htake
      refine .p (by trivial) (.p (by omega) ?_)
      by_cases h1 : s.getD i 0 ≥ 0
      · refine .p h1 ?_
        by_cases h2 : s.getD i 0 < (m.length : Int)
        · have e : mx 0 (mn (s.getD i 0) (wrap64 ((m.length : Int) - 1))) = s.getD i 0 := by
            rw [w64 (by omega) (by omega)]
            unfold mx mn
            split <;> split <;> omega
          simp only [e]
          refine .p h2 (.p h1 (.p h2 (hn _ ?_)))
          rw [htake, decide_eq_true (show 0 ≤ s.getD i 0 from h1), decide_eq_true h2]
          rfl
        · refine .n h2 (hn _ ?_)
          rw [htake, decide_eq_false h2]
          simp only [Bool.and_false, Bool.false_and]
      · refine .n h1 (hn _ ?_)
        rw [htake, decide_eq_false (show ¬ 0 ≤ s.getD i 0 from h1)]
        simp only [Bool.false_and]
theorem stuck_l2 (h : Fits n l m 8 12) (L : List (List Int)) (hlen : ∀ s ∈ L, s.length ≤ 64) (hL : L.length ≤ 1000) (d : Nat) : ∀ i : Nat, L.length - i = d → i ≤ L.length → (∃ j, i ≤ j ∧ j < L.length ∧ inZ m (L.getD j []) = true) →
    Ev (fun k => taquinlaw18_PetriStuck.l2 k m true L (i : Int)) true := by
  induction d with
  | zero =>
    intro i hd hi hex
    obtain ⟨j, h1, h2, _⟩ := hex
    omega
  | succ d ih =>
    intro i hd hi hex
    have hil : i < L.length := by omega
    refine .s ?_
    simp only [taquinlaw18_PetriStuck.l2]
    refine .p (by omega) ?_
    refine stuck_l3 h L i hil (hlen _ (getD_mem L i [] hil)) hL true (fun hf => ?_) (fun _ => rfl) (L.getD i []).length 0 true (by omega) (by omega) rfl
    obtain ⟨j, h1, h2, h3⟩ := hex
    exact ih (i + 1) (by omega) (by omega) ⟨j, by
      by_cases e : i = j
      · subst e; rw [h3] at hf; cases hf
      · omega, h2, h3⟩
theorem stuck_l1 (h : Fits n l m 8 12) (h0 : 0 < l.length) (hdead : ∀ j, j < l.length → dead m (l.getD j zT).f0 = true) (d : Nat) : ∀ i : Nat, m.length - i = d → i ≤ m.length →
    Ev (fun k => taquinlaw18_PetriStuck.l1 k m true (zeroM m i) (i : Int) (n : Int) l) true := by
  have hm := h.len
  have hp := h.p64
  have h8 := h.places
  induction d with
  | zero =>
    intro i hd hi
    obtain rfl : i = n := by omega
    have hc := stuck_closed h h0 hdead
    have hw : wordL (zeroM m i) < 2 ^ i := word_lt (fun p hp => by have := zeroM_mem.1 hp; omega)
    have hz : ∀ p ∈ zeroM m i, (0 : Int) ≤ p := fun p hp => (zeroM_mem.1 hp).1
    refine .s ?_
    simp only [taquinlaw18_PetriStuck.l1]
    refine .n (by omega) (.b (.c (siphons_eq h (by omega) (by omega))) (.p rfl (.b (isSiphon_ev h (by omega) (zeroM m i) (isSet_of (zeroM_sorted m i) (fun p hp => by have := zeroM_mem.1 hp; omega)) (by have := zeroM_len m i; omega)) ?_)))
    rw [hc]
    refine .s ?_
    simp only [taquinlaw18_PetriStuck.j3]
    refine .n (by simp) ?_
    have hlen : ((sipW (edgesN l false) i).map listL).length ≤ 1000 := by
      rw [List.length_map]
      have h1 := sipF_len (edgesN l false) (allW i) []
      rw [allW_len] at h1
      have := pow_le_256 (n := i) (by omega)
      unfold sipW
      simp only [List.length_nil] at h1
      omega
    refine stuck_l2 h _ (fun s hs => ?_) hlen _ 0 rfl (by omega) ?_
    · obtain ⟨f, _, rfl⟩ := List.mem_map.1 hs
      exact listL_len f
    · obtain ⟨f, hf, hsub⟩ := sipW_all (edgesN l false) i _ hw hc
      obtain ⟨j, hj, hje⟩ := List.mem_iff_getElem.1 hf
      refine ⟨j, by omega, by simpa using hj, ?_⟩
      have e : ((sipW (edgesN l false) i).map listL).getD j [] = listL f := by
        simp [List.getD_eq_getElem?_getD, hj, hje]
      rw [e]
      refine List.all_eq_true.2 (fun p hp => ?_)
      have hpm := (listL_mem f p).1 hp
      have hz2 := (word_mem hz _).1 (hsub _ hpm.2.2)
      rw [Int.toNat_of_nonneg hpm.1] at hz2
      have hz3 := zeroM_mem.1 hz2
      have hr : rd m p = 0 := hz3.2.2
      simp [hr, hpm.1]
      omega
  | succ d ih =>
    intro i hd hi
    have hil : i < m.length := by omega
    have hs := zeroM_succ m i
    refine .s ?_
    simp only [taquinlaw18_PetriStuck.l1, rdI]
    refine .p (by omega) (.p (by omega) ?_)
    by_cases hq : m.getD i 0 = 0
    · rw [if_pos hq] at hs
      refine .p hq (.p (by have := zeroM_len m i; omega) ?_)
      rw [w64 (by omega) (by omega), ← hs]
      exact ih (i + 1) (by omega) (by omega)
    · rw [if_neg hq, List.append_nil] at hs
      refine .n hq ?_
      rw [w64 (by omega) (by omega), ← hs]
      exact ih (i + 1) (by omega) (by omega)
theorem stuck_l0 (h : Fits n l m 8 12) (h0 : 0 < l.length) (d : Nat) : ∀ i : Nat, l.length - i = d → i ≤ l.length →
    Ev (fun k => taquinlaw18_PetriStuck.l0 k m true (i : Int) (n : Int) l) true := by
  have hl := h.trans
  induction d with
  | zero =>
    intro i hd hi
    obtain ⟨r, hr, _, hh⟩ := live_l0 h l.length 0 [] (by omega) (by omega) (by simp)
    have hlive : Ev (fun k => petri_Live.f k (n : Int) l m) r := hr
    refine .s ?_
    simp only [taquinlaw18_PetriStuck.l0]
    refine .n (by omega) (.b hlive ?_)
    by_cases hp : (r.length : Int) > 0
    · exact .p hp (.r _)
    · refine .n hp ?_
      have hr0 : r = [] := List.eq_nil_of_length_eq_zero (by omega)
      exact stuck_l1 h h0 (fun j hj => hh hr0 j (by omega) hj) m.length 0 (by omega) (by omega)
  | succ d ih =>
    intro i hd hi
    have hil : i < l.length := by omega
    have hrd : rd_T29 l (i : Int) = l.getD i zT := by simp [rd_T29]
    refine .s ?_
    simp only [taquinlaw18_PetriStuck.l0, hrd]
    refine .p (by omega) (.p (by omega) ?_)
    by_cases he : ((l.getD i zT).f0.length : Int) = 0
    · exact .p he (.r _)
    · refine .n he ?_
      rw [w64 (by omega) (by omega)]
      exact ih (i + 1) (by omega) (by omega)
end
theorem PetriStuck (x0 : S24) (x1 : List Int) (wf0 : wf24 x0) (wf1 : wfL (wfI .i64) x1) : ∃ k, taquinlaw18_PetriStuck.f k x0.f0 x0.f1 x1 = some true := by
  obtain ⟨P, l⟩ := x0
  simp only
  have hl : l.length ≤ 9223372036854775807 := wf0.2.2
  refine Ev.ex (f := fun k => taquinlaw18_PetriStuck.f k P l x1) ?_
  have hout : Ev (fun k => taquinlaw18_PetriStuck.j0 k x1 true true P l) true := by
    refine .s ?_
    simp only [taquinlaw18_PetriStuck.j0]
    exact .p (by trivial) (.r _)
  simp only [taquinlaw18_PetriStuck.f]
  obtain ⟨r, hr, hh⟩ := fits_ev P l x1 8 12 hl
  refine .b small_ev (.b hr ?_)
  cases r with
  | false => exact .n (by simp) hout
  | true =>
    obtain ⟨n, rfl, hF⟩ := hh rfl
    refine .p (by trivial) ?_
    by_cases h0 : l.length = 0
    · rw [show ((l.length : Int) == 0) = true by simp [h0]]
      exact hout
    · rw [show ((l.length : Int) == 0) = false from beq_eq_false_iff_ne.2 (by omega)]
      refine .s ?_
      simp only [taquinlaw18_PetriStuck.j0]
      exact .n (by simp) (stuck_l0 hF (by omega) l.length 0 (by omega) (by omega))
end Go.Proofs.YthpclmkcljmoeaaDoor.P
