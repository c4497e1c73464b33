/- PetriWeights: an invariant weighting keeps its weight; what is no invariant is changed by firing from the marking of ones. -/
import Derived.Test.YthpclmkcljmoeaaDoorGTypes
import Derived.Test.YthpclmkcljmoeaaDoorGFire
import Derived.Test.YthpclmkcljmoeaaDoorGSmall
import Derived.Test.YthpclmkcljmoeaaDoorPx8
namespace Go.Proofs.YthpclmkcljmoeaaDoor.P
open Go.RowKit Go.Proofs.YthpclmkcljmoeaaDoorW.PrintWords Go.Proofs.YthpclmkcljmoeaaDoorW.PrintLast Go.Proofs.YthpclmkcljmoeaaDoorW.PrintMore
set_option linter.unusedVariables false
set_option linter.unusedSimpArgs false
theorem pw_l2 (n : Nat) (l : List TransT) (w ps : List Int) (hps : ps.length ≤ 60) (hw : ∀ x ∈ w, -100000 ≤ x ∧ x ≤ 100000) (hwl : w.length = n) (hinv : ∀ t ∈ l, sumO w t.f0 = sumO w t.f1) (d : Nat) : ∀ (i : Nat) (m : List Int), ps.length - i = d → i ≤ ps.length → Fits n l m 12 20 →
    Ev (fun k => taquinlaw18_PetriWeights.l2 k m w ps true (dot m w) (i : Int) (n : Int) l) true := by
  induction d with
  | zero =>
    intro i m hd hi h
    refine .s ?_
    simp only [taquinlaw18_PetriWeights.l2]
    exact .n (by omega) (.r _)
  | succ d ih =>
    intro i m hd hi h
    have hil : i < ps.length := by omega
    have hj : ∀ m', Fits n l m' 12 20 → dot m' w = dot m w → Ev (fun k => taquinlaw18_PetriWeights.j4 k m' w ps true (dot m w) (i : Int) (n : Int) l) true := by
      intro m' h' he
      refine .s ?_
      simp only [taquinlaw18_PetriWeights.j4]
      refine .b (weight_ev m' w h'.mark hw (by rw [h'.len, hwl]) (by have := h'.len; have := h'.p64; omega)) (.p he ?_)
      rw [w64 (by omega) (by omega), ← he]
      exact ih (i + 1) m' (by omega) (by omega) h'
    refine .s ?_
    simp only [taquinlaw18_PetriWeights.l2, rdI]
    refine .p (by omega) (.p (by omega) (.b (fire_ev h _) ?_))
    by_cases h0 : (fireM l m (ps.getD i 0)).2 = 0
    · obtain ⟨h', q, hq, hql, hdd, he⟩ := fire_ok h _ h0
      refine .p h0 (hj _ h' ?_)
      rw [he, fire_dot h hwl hql, hinv _ (getD_mem l q zT hql)]
      omega
    · exact .n h0 (hj m h rfl)
theorem pw_l0 (n : Nat) (hn : n ≤ 12) (l : List TransT) (w : List Int) (v : Bool) (hnext : Ev (fun k => taquinlaw18_PetriWeights.l1 k w true (List.replicate n 1) 0 (n : Int) l) v) (d : Nat) : ∀ i : Nat, n - i = d → i ≤ n →
    Ev (fun k => taquinlaw18_PetriWeights.l0 k w true (List.replicate i 1 ++ List.replicate (n - i) 0) (i : Int) (n : Int) l) v := by
  induction d with
  | zero =>
    intro i hd hi
    obtain rfl : i = n := by omega
    refine .s ?_
    simp only [taquinlaw18_PetriWeights.l0]
    refine .n (by omega) ?_
    simpa using hnext
  | succ d ih =>
    intro i hd hi
    refine .s ?_
    simp only [taquinlaw18_PetriWeights.l0]
    refine .p (by omega) (.p (by omega) (.p (by simp; omega) ?_))
    rw [w64 (by omega) (by omega)]
    have e : (List.replicate i 1 ++ List.replicate (n - i) (0 : Int)).set (i : Int).toNat 1 = List.replicate (i + 1) 1 ++ List.replicate (n - (i + 1)) 0 := by
      obtain ⟨q, hq⟩ : ∃ q, n - i = q + 1 := ⟨n - i - 1, by omega⟩
      rw [Int.toNat_natCast, List.set_append_right _ _ (by simp), hq, show n - (i + 1) = q by omega]
      rw [show List.replicate (q + 1) (0 : Int) = 0 :: List.replicate q 0 from rfl, List.replicate_succ']
      simp
    rw [e]
    exact ih (i + 1) (by omega) (by omega)
theorem ones_mem (n : Nat) : ∀ x ∈ List.replicate n (1 : Int), x = 1 := fun x hx => (List.mem_replicate.1 hx).2
theorem ones_fire {n : Nat} {l : List TransT} {m : List Int} (h : Fits n l m 12 20) {q : Nat} (hq : q < l.length) : Fits n l (List.replicate n 1) 12 20 ∧ fireM l (List.replicate n 1) (q : Int) = (upd 1 (upd (-1) (List.replicate n 1) (l.getD q zT).f0) (l.getD q zT).f1, 0) ∧ Fits n l (upd 1 (upd (-1) (List.replicate n 1) (l.getD q zT).f0) (l.getD q zT).f1) 12 20 := by
  have h1 : Fits n l (List.replicate n 1) 12 20 := h.with (by simp) (fun x hx => by rw [ones_mem n x hx]; omega)
  obtain ⟨a0, a1, a2, a3⟩ := h.at0 hq
  have hmem := getD_mem l q zT hq
  have hout : ∀ x ∈ upd 1 (upd (-1) (List.replicate n 1) (l.getD q zT).f0) (l.getD q zT).f1, 0 ≤ x ∧ x ≤ 1099511627776 := fun x hx => by
    obtain ⟨p, hp, rfl⟩ := List.mem_iff_getElem.1 hx
    have hpn : p < n := by simpa [upd_len] using hp
    have hf := fire_at h1 hq hpn
    have c0 := isSet_count (h.set0 _ hmem).1 (p : Int)
    have c1 := isSet_count (h.set1 _ hmem).1 (p : Int)
    have e1 : (List.replicate n (1 : Int)).getD p 0 = 1 := by simp [List.getD_eq_getElem?_getD, hpn]
    rw [e1] at hf
    rw [List.getD_eq_getElem?_getD, List.getElem?_eq_getElem hp] at hf
    simp only [Option.getD_some] at hf
    omega
  refine ⟨h1, ?_, h1.with (by simp only [upd_len]; simp) hout⟩
  unfold fireM
  have hd : dead (List.replicate n 1) (l.getD q zT).f0 = false := by
    unfold dead
    rw [List.any_eq_false]
    intro p hp
    have := a0 p hp
    have e1 : rd (List.replicate n 1) p = 1 := by simp [rd, List.getD_eq_getElem?_getD, show p.toNat < n by omega]
    simp [e1]
  rw [if_neg (by omega)]
  simp only [Int.toNat_natCast]
  rw [hd, if_neg (by simp), any_bad.2 hout, if_neg (by simp)]
theorem pw_l1 (n : Nat) (l : List TransT) (w : List Int) (m : List Int) (h : Fits n l m 12 20) (hw : ∀ x ∈ w, -100000 ≤ x ∧ x ≤ 100000) (hwl : w.length = n) (d : Nat) : ∀ i : Nat, l.length - i = d → i ≤ l.length → (∃ j, i ≤ j ∧ j < l.length ∧ sumO w (l.getD j zT).f0 ≠ sumO w (l.getD j zT).f1) →
    Ev (fun k => taquinlaw18_PetriWeights.l1 k w true (List.replicate n 1) (i : Int) (n : Int) l) true := by
  induction d with
  | zero =>
    intro i hd hi hex
    obtain ⟨j, h1, h2, _⟩ := hex
    omega
  | succ d ih =>
    intro i hd hi hex
    have hil : i < l.length := by omega
    have hl20 := h.trans
    obtain ⟨h1, hf, h2⟩ := ones_fire h hil
    have hw1 := weight_ev _ w h1.mark hw (by rw [h1.len, hwl]) (by have := h1.len; have := h1.p64; omega)
    have hw2 := weight_ev _ w h2.mark hw (by rw [h2.len, hwl]) (by have := h2.len; have := h2.p64; omega)
    refine .s ?_
    simp only [taquinlaw18_PetriWeights.l1]
    refine .p (by omega) (.b (fire_ev h1 _) ?_)
    rw [hf]
    refine .p rfl (.b hw2 (.b hw1 ?_))
    rw [fire_dot h1 hwl hil]
    by_cases he : sumO w (l.getD i zT).f0 = sumO w (l.getD i zT).f1
    · refine .p (by omega) ?_
      rw [w64 (by omega) (by omega)]
      obtain ⟨j, g1, g2, g3⟩ := hex
      exact ih (i + 1) (by omega) (by omega) ⟨j, by
        by_cases e : i = j
        · subst e; exact absurd he g3
        · omega, g2, g3⟩
    · exact .n (by omega) (.r _)
theorem PetriWeights (x0 : S24) (x1 x2 x3 : List Int) (wf0 : wf24 x0) (wf1 : wfL (wfI .i64) x1) (wf2 : wfL (wfI .i64) x2) (wf3 : wfL (wfI .i64) x3) : ∃ k, taquinlaw18_PetriWeights.f k x0.f0 x0.f1 x1 x2 x3 = some true := by
  obtain ⟨P, l⟩ := x0
  simp only
  have hl : l.length ≤ 9223372036854775807 := wf0.2.2
  refine Ev.ex (f := fun k => taquinlaw18_PetriWeights.f k P l x1 x2 x3) ?_
  have hout : Ev (fun k => taquinlaw18_PetriWeights.j0 k x1 x2 x3 true true P l) true := by
    refine .s ?_
    simp only [taquinlaw18_PetriWeights.j0]
    exact .p (by trivial) (.r _)
  simp only [taquinlaw18_PetriWeights.f]
  refine .b small_ev ?_
  by_cases h0 : P < 0
  · exact .p h0 hout
  refine .n h0 ?_
  by_cases h12 : P > 12
  · exact .p h12 hout
  refine .n h12 ?_
  obtain ⟨r, hr, hh⟩ := fits_ev P l x1 12 20 hl
  refine .b hr ?_
  cases r with
  | false => exact .n (by simp) hout
  | true =>
    obtain ⟨n, rfl, hF⟩ := hh rfl
    refine .p (by trivial) ?_
    obtain ⟨r2, hr2, hh2⟩ := weights_ev (n : Int) l x2 wf2.2
    refine .b hr2 ?_
    cases r2 with
    | false => exact .n (by simp) hout
    | true =>
      obtain ⟨hwl, hw⟩ := hh2 rfl
      refine .p (by trivial) ?_
      by_cases h60 : (x3.length : Int) > 60
      · rw [show decide ((x3.length : Int) > 60) = true by simpa using h60]
        exact hout
      · rw [show decide ((x3.length : Int) > 60) = false by simpa using h60]
        refine .s ?_
        simp only [taquinlaw18_PetriWeights.j0]
        refine .n (by simp) (.b (.c (invariant_eq hF (by omega) hw (by omega))) ?_)
        cases hi : l.any (fun t => decide (sumO x2 t.f0 ≠ sumO x2 t.f1)) with
        | false =>
          have hinv : ∀ t ∈ l, sumO x2 t.f0 = sumO x2 t.f1 := fun t ht => by
            have := List.any_eq_false.1 hi t ht
            simpa using this
          refine .p (by simp) (.b (weight_ev x1 x2 hF.mark hw (by have := hF.len; omega) (by have := hF.len; have := hF.p64; omega)) ?_)
          exact pw_l2 n l x2 x3 (by omega) hw (by omega) hinv x3.length 0 x1 (by omega) (by omega) hF
        | true =>
          obtain ⟨t, ht, hne⟩ := List.any_eq_true.1 hi
          obtain ⟨j, hj, rfl⟩ := List.mem_iff_getElem.1 ht
          have hne2 : sumO x2 (l.getD j zT).f0 ≠ sumO x2 (l.getD j zT).f1 := by
            have e : l.getD j zT = l[j] := by simp [List.getD_eq_getElem?_getD, hj]
            rw [e]; simpa using hne
          have hn := hF.places
          refine .n (by simp) (.p (by omega) (.p (by omega) ?_))
          have := pw_l0 n (by omega) l x2 true (pw_l1 n l x2 x1 hF hw (by omega) l.length 0 (by omega) (by omega) ⟨j, by omega, hj, hne2⟩) n 0 (by omega) (by omega)
          simpa using this
end Go.Proofs.YthpclmkcljmoeaaDoor.P
