/- PetriUnions: Largest is closed or empty, lies within its set, holds each closed set within, is Largest of itself; the union of two closed sets is closed. -/
import Derived.Test.YthpclmkcljmoeaaDoorGTypes
import Derived.Test.YthpclmkcljmoeaaDoorGLarge
import Derived.Test.YthpclmkcljmoeaaDoorGSmall
import Derived.Test.YthpclmkcljmoeaaDoorPx12
namespace Go.Proofs.YthpclmkcljmoeaaDoor.P
open Go.RowKit Go.Proofs.YthpclmkcljmoeaaDoorW.PrintWords Go.Proofs.YthpclmkcljmoeaaDoorW.PrintLast Go.Proofs.YthpclmkcljmoeaaDoorW.PrintMore
set_option linter.unusedVariables false
set_option linter.unusedSimpArgs false
/-- Is bit i of b set, as pick asks. -/
def bitP (b : Int) (i : Nat) : Bool := decide (Go.bits .and .i64 (shr .i64 b (i : Int)) 1 = 1)
def pickM (b : Int) (i : Nat) : List Int := ((List.range i).filter (bitP b)).map (fun (p : Nat) => (p : Int))
theorem pickM_succ (b : Int) (i : Nat) : pickM b (i + 1) = pickM b i ++ (if bitP b i = true then [(i : Int)] else []) := by
  unfold pickM
  rw [List.range_succ, List.filter_append, List.map_append]
  congr 1
  rw [List.filter_cons]
  by_cases h : bitP b i = true
  · rw [if_pos h, if_pos h]
    rfl
  · rw [if_neg h, if_neg h]
    rfl
theorem pickM_len (b : Int) (i : Nat) : (pickM b i).length ≤ i := by
  unfold pickM
  rw [List.length_map]
  exact Nat.le_trans (List.length_filter_le _ _) (by simp)
theorem pickM_mem {b : Int} {i : Nat} {p : Int} : p ∈ pickM b i ↔ 0 ≤ p ∧ p < (i : Int) ∧ bitP b p.toNat = true := by
  unfold pickM
  simp only [List.mem_map, List.mem_filter, List.mem_range]
  constructor
  · rintro ⟨q, ⟨h1, h2⟩, rfl⟩
    exact ⟨by omega, by omega, by simpa using h2⟩
  · rintro ⟨h1, h2, h3⟩
    exact ⟨p.toNat, ⟨by omega, h3⟩, by omega⟩
theorem pickM_sorted (b : Int) (i : Nat) : (pickM b i).Pairwise (· < ·) := by
  unfold pickM
  rw [List.pairwise_map]
  refine List.Pairwise.imp (R := fun a b : Nat => a < b) (fun h => by omega) ?_
  exact List.Pairwise.sublist List.filter_sublist List.pairwise_lt_range
theorem pickM_l0 (b : Int) (n : Nat) (hn : n ≤ 64) (d : Nat) : ∀ i : Nat, n - i = d → i ≤ n → Ev (fun k => taquinlaw18_pick.l0 k b (n : Int) (pickM b i) (i : Int)) (pickM b n) := by
  induction d with
  | zero =>
    intro i hd hi
    obtain rfl : i = n := by omega
    refine .s ?_
    simp only [taquinlaw18_pick.l0]
    exact .n (by omega) (.r _)
  | succ d ih =>
    intro i hd hi
    have hs := pickM_succ b i
    have hl := pickM_len b i
    refine .s ?_
    simp only [taquinlaw18_pick.l0]
    refine .p (by omega) (.p (by omega) ?_)
    by_cases hb : Go.bits .and .i64 (shr .i64 b (i : Int)) 1 = 1
    · rw [if_pos (show bitP b i = true from decide_eq_true hb)] at hs
      refine .p hb (.p (by omega) ?_)
      rw [w64 (by omega) (by omega), ← hs]
      exact ih (i + 1) (by omega) (by omega)
    · rw [if_neg (show ¬ bitP b i = true from fun h => hb (of_decide_eq_true h)), List.append_nil] at hs
      refine .n hb ?_
      rw [w64 (by omega) (by omega), ← hs]
      exact ih (i + 1) (by omega) (by omega)
theorem pickM_ev (b : Int) (n : Nat) (hn : n ≤ 64) : Ev (fun k => taquinlaw18_pick.f k b (n : Int)) (pickM b n) := pickM_l0 b n hn n 0 (by omega) (by omega)
theorem pickM_set (b : Int) (n : Nat) : isSetB n (pickM b n) = true := isSet_of (pickM_sorted b n) (fun p hp => by have := pickM_mem.1 hp; omega)
/-! ### The bits -/
theorem of_shr (b : Int) (h0 : -9223372036854775808 ≤ b) (h1 : b ≤ 9223372036854775807) (i : Nat) : BitVec.ofInt 64 (b / 2 ^ i) = (BitVec.ofInt 64 b).sshiftRight i := by
  unfold BitVec.sshiftRight
  rw [BitVec.toInt_ofInt, Int.shiftRight_eq_div_pow]
  have e : b.bmod (2 ^ 64) = b := by
    rw [Int.bmod_eq_of_le] <;> omega
  rw [e]
  simp
theorem and_one (v : BitVec 64) : (v &&& 1#64).toNat = if v.getLsbD 0 = true then 1 else 0 := by
  rw [BitVec.toNat_and]
  simp only [BitVec.toNat_ofNat]
  rw [show 1 % 2 ^ 64 = 1 by decide, Nat.and_one_is_mod, ← BitVec.testBit_toNat, Nat.testBit_zero]
  rcases Nat.mod_two_eq_zero_or_one v.toNat with h | h <;> simp [h]
theorem bitP_eq (b : Int) (h0 : -9223372036854775808 ≤ b) (h1 : b ≤ 9223372036854775807) (i : Nat) (hi : i < 64) : bitP b i = (BitVec.ofInt 64 b).getLsbD i := by
  have e1 : shr .i64 b (i : Int) = b / 2 ^ i := by
    unfold shr
    rw [show min (i : Int).toNat IntKind.i64.bits = i by simp [IntKind.bits]; omega]
  have e2 : Go.bits .and .i64 (shr .i64 b (i : Int)) 1 = IntKind.i64.wrap (((BitVec.ofInt 64 (b / 2 ^ i) &&& 1#64).toNat : Nat) : Int) := by rw [e1]; rfl
  have e3 : ((BitVec.ofInt 64 b).sshiftRight i).getLsbD 0 = (BitVec.ofInt 64 b).getLsbD i := by
    rw [BitVec.getLsbD_sshiftRight, Nat.add_zero, if_pos hi]; simp
  unfold bitP
  rw [e2, of_shr b h0 h1, and_one, e3, IntKind.wrap_i64]
  cases (BitVec.ofInt 64 b).getLsbD i <;> decide
theorem or_rng (x y : Int) : -9223372036854775808 ≤ Go.bits .or .i64 x y ∧ Go.bits .or .i64 x y ≤ 9223372036854775807 := by
  show -9223372036854775808 ≤ IntKind.i64.wrap _ ∧ IntKind.i64.wrap _ ≤ 9223372036854775807
  rw [IntKind.wrap_i64]
  omega
theorem ofInt_wrap (z : Int) : BitVec.ofInt 64 (IntKind.i64.wrap z) = BitVec.ofInt 64 z := by
  rw [IntKind.wrap_i64]
  apply BitVec.eq_of_toInt_eq
  rw [BitVec.toInt_ofInt, BitVec.toInt_ofInt]
  rw [show (2 : Nat) ^ 64 = 18446744073709551616 by decide]
  rw [Int.bmod_def, Int.bmod_def]
  omega
theorem bitP_or (x y : Int) (hx : -9223372036854775808 ≤ x ∧ x ≤ 9223372036854775807) (hy : -9223372036854775808 ≤ y ∧ y ≤ 9223372036854775807) (i : Nat) (hi : i < 64) : bitP (Go.bits .or .i64 x y) i = (bitP x i || bitP y i) := by
  rw [bitP_eq _ (or_rng x y).1 (or_rng x y).2 i hi, bitP_eq x hx.1 hx.2 i hi, bitP_eq y hy.1 hy.2 i hi]
  have e : BitVec.ofInt 64 (Go.bits .or .i64 x y) = BitVec.ofInt 64 x ||| BitVec.ofInt 64 y := by
    show BitVec.ofInt 64 (IntKind.i64.wrap (((BitVec.ofInt 64 x ||| BitVec.ofInt 64 y).toNat : Nat) : Int)) = _
    rw [ofInt_wrap, BitVec.ofInt_natCast, BitVec.ofNat_toNat, BitVec.setWidth_eq]
  rw [e, BitVec.getLsbD_or]
theorem same_l0 (s : List Int) (hl : s.length ≤ 1000) (d : Nat) : ∀ i : Nat, s.length - i = d → i ≤ s.length → Ev (fun k => taquinlaw18_same.l0 k s s (i : Int)) true := by
  induction d with
  | zero =>
    intro i hd hi
    refine .s ?_
    simp only [taquinlaw18_same.l0]
    exact .n (by omega) (.r _)
  | succ d ih =>
    intro i hd hi
    refine .s ?_
    simp only [taquinlaw18_same.l0]
    refine .p (by omega) (.p (by omega) (.p (by omega) (.p (by trivial) ?_)))
    rw [w64 (by omega) (by omega)]
    exact ih (i + 1) (by omega) (by omega)
theorem same_ev (s : List Int) (hl : s.length ≤ 1000) : Ev (fun k => taquinlaw18_same.f k s s) true := by
  simp only [taquinlaw18_same.f]
  exact .p (by trivial) (same_l0 s hl s.length 0 (by omega) (by omega))
def uM (A B i : Nat) : List Int := ((List.range i).filter (fun p => A.testBit p || B.testBit p)).map (fun (p : Nat) => (p : Int))
theorem uM_succ (A B i : Nat) : uM A B (i + 1) = uM A B i ++ (if (A.testBit i || B.testBit i) = true then [(i : Int)] else []) := by
  unfold uM
  rw [List.range_succ, List.filter_append, List.map_append]
  congr 1
  rw [List.filter_cons]
  by_cases h : (A.testBit i || B.testBit i) = true
  · rw [if_pos h, if_pos h]
    rfl
  · rw [if_neg h, if_neg h]
    rfl
theorem uM_len (A B i : Nat) : (uM A B i).length ≤ i := by
  unfold uM
  rw [List.length_map]
  exact Nat.le_trans (List.length_filter_le _ _) (by simp)
theorem uM_mem {A B i : Nat} {p : Int} : p ∈ uM A B i ↔ 0 ≤ p ∧ p < (i : Int) ∧ (A.testBit p.toNat || B.testBit p.toNat) = true := by
  unfold uM
  simp only [List.mem_map, List.mem_filter, List.mem_range]
  constructor
  · rintro ⟨q, ⟨h1, h2⟩, rfl⟩
    exact ⟨by omega, by omega, by simpa using h2⟩
  · rintro ⟨h1, h2, h3⟩
    exact ⟨p.toNat, ⟨by omega, h3⟩, by omega⟩
theorem uM_sorted (A B i : Nat) : (uM A B i).Pairwise (· < ·) := by
  unfold uM
  rw [List.pairwise_map]
  refine List.Pairwise.imp (R := fun a b : Nat => a < b) (fun h => by omega) ?_
  exact List.Pairwise.sublist List.filter_sublist List.pairwise_lt_range
theorem bit_small {w n i : Nat} (hw : w < 2 ^ n) (h : w.testBit i = true) : i < n := by
  rcases Nat.lt_or_ge i n with h1 | h1
  · exact h1
  · have := Nat.testBit_lt_two_pow (Nat.lt_of_lt_of_le hw (Nat.pow_le_pow_right (n := 2) (by omega) h1))
    simp_all
theorem uM_word {A B n : Nat} (hA : A < 2 ^ n) (hB : B < 2 ^ n) : wordL (uM A B n) = A ||| B := by
  apply Nat.eq_of_testBit_eq
  intro i
  rw [Nat.testBit_or]
  apply Bool.eq_iff_iff.2
  rw [word_mem (fun p hp => (uM_mem.1 hp).1), uM_mem]
  constructor
  · intro h; simpa using h.2.2
  · intro h
    refine ⟨by omega, ?_, by simpa using h⟩
    rcases Bool.or_eq_true _ _ ▸ h with h1 | h1
    · have := bit_small hA h1; omega
    · have := bit_small hB h1; omega
/-- What is known of the three words. -/
structure Un (E : List (Nat × Nat)) (n A B C : Nat) : Prop where
  n12 : n ≤ 12
  a : A < 2 ^ n
  b : B < 2 ^ n
  c : C < 2 ^ n
  ca : A = 0 ∨ closedB E A = true
  cb : B = 0 ∨ closedB E B = true
  ac : Sub A C
  bc : Sub B C
theorem Un.edged {E : List (Nat × Nat)} {A : Nat} (h : A = 0 ∨ closedB E A = true) : Edged E A := by
  rcases h with rfl | h
  · intro e _ he; simp at he
  · exact ((closedB_iff _ _).1 h).2
theorem Un.union {E : List (Nat × Nat)} {n A B C : Nat} (h : Un E n A B C) (h0 : A ||| B ≠ 0) : closedB E (A ||| B) = true := by
  rw [closedB_iff]
  refine ⟨h0, fun e he hz => ?_⟩
  obtain ⟨i, h1, h2⟩ := and_ne_zero.1 hz
  rw [Nat.testBit_or, Bool.or_eq_true] at h2
  rcases h2 with h2 | h2
  · obtain ⟨j, g1, g2⟩ := and_ne_zero.1 (Un.edged h.ca e he (and_ne_zero.2 ⟨i, h1, h2⟩))
    exact and_ne_zero.2 ⟨j, g1, by rw [Nat.testBit_or, g2, Bool.true_or]⟩
  · obtain ⟨j, g1, g2⟩ := and_ne_zero.1 (Un.edged h.cb e he (and_ne_zero.2 ⟨i, h1, h2⟩))
    exact and_ne_zero.2 ⟨j, g1, by rw [Nat.testBit_or, g2, Bool.or_true]⟩
section
variable {n : Nat} {l : List TransT} {m : List Int}
theorem within_of {A : Nat} {s : List Int} (hA : A < 2 ^ 64) (hs : ∀ p ∈ s, 0 ≤ p) (hl : s.length ≤ 1000) (h : Sub A (wordL s)) : Ev (fun k => taquinlaw18_within.f k (listL A) s) true :=
  (within_ev _ s (by have := listL_len A; omega) hl).congr ((all_word A s hA hs).2 h)
theorem un_j2 (h : Fits n l m 12 20) (trap : Bool) {A B C : Nat} (U : Un (edgesN l trap) n A B C) : Ev (fun k => taquinlaw18_PetriUnions.j2 k trap true (listL C) (uM A B n) false (n : Int) l) true := by
  have hn := U.n12
  have h64 : (2 : Nat) ^ n ≤ 2 ^ 64 := Nat.pow_le_pow_right (by omega) (by omega)
  have hul := uM_len A B n
  have hset : isSetB n (uM A B n) = true := isSet_of (uM_sorted A B n) (fun p hp => by have := uM_mem.1 hp; omega)
  have hw := uM_word U.a U.b
  have hs := isSiphon_ev h (by omega) (uM A B n) hset (by omega)
  have ht := isTrap_ev h (by omega) (uM A B n) hset (by omega)
  rw [hw] at hs ht
  refine .s ?_
  simp only [taquinlaw18_PetriUnions.j2]
  refine .n (by simp) ?_
  by_cases h0 : ((uM A B n).length : Int) = 0
  · have e : A ||| B = 0 := by
      have : uM A B n = [] := List.eq_nil_of_length_eq_zero (by omega)
      rw [← hw, this]; rfl
    rw [e] at hs ht
    have hz : ∀ E, closedB E 0 = false := fun E => by simp [closedB]
    rw [hz] at hs ht
    exact .p h0 (.p (by trivial) (.b hs (.n (by simp) (.b ht ((Ev.r _).congr (by simp))))))
  · have hne : A ||| B ≠ 0 := by
      intro e
      obtain ⟨p, hp⟩ := List.exists_mem_of_length_pos (show 0 < (uM A B n).length by omega)
      have hb := (word_mem (fun p hp => (uM_mem.1 hp).1) p.toNat).2 (by rw [Int.toNat_of_nonneg (uM_mem.1 hp).1]; exact hp)
      rw [hw, e] at hb
      simp at hb
    have hc := U.union hne
    have hin : Ev (fun k => taquinlaw18_within.f k (uM A B n) (listL C)) true := by
      refine (within_ev _ _ (by omega) (by have := listL_len C; omega)).congr (List.all_eq_true.2 (fun p hp => decide_eq_true ?_))
      have hm := uM_mem.1 hp
      refine (listL_mem C p).2 ⟨hm.1, by omega, ?_⟩
      rcases Bool.or_eq_true _ _ ▸ hm.2.2 with h1 | h1
      · exact U.ac _ h1
      · exact U.bc _ h1
    refine .n h0 ?_
    cases trap with
    | true =>
      rw [hc] at ht
      exact .p (by trivial) (.p (by trivial) (.b ht (.p (by trivial) (.b hin (.r _)))))
    | false =>
      rw [hc] at hs
      exact .n (by simp) (.p (by trivial) (.b hs (.p (by trivial) (.b hin (.r _)))))
theorem un_l0 (h : Fits n l m 12 20) (x1 : Int) (trap : Bool) {A B C : Nat} (U : Un (edgesN l trap) n A B C) (h1 : Sub A (wordL (pickM x1 n))) (d : Nat) : ∀ i : Nat, n - i = d → i ≤ n →
    Ev (fun k => taquinlaw18_PetriUnions.l0 k x1 trap true (listL A) (listL B) (listL C) (uM A B i) (i : Int) (n : Int) l) true := by
  have hn := U.n12
  have h64 : (2 : Nat) ^ n ≤ 2 ^ 64 := Nat.pow_le_pow_right (by omega) (by omega)
  have hA := U.a
  have hB := U.b
  have hC := U.c
  have hla := listL_len A
  have hlb := listL_len B
  have hlc := listL_len C
  have hp := h.p64
  induction d with
  | zero =>
    intro i hd hi
    obtain rfl : i = n := by omega
    have hpl := pickM_len x1 i
    have hwC : wordL (listL C) = C := wordL_listL C (by omega)
    have hwA : wordL (listL A) = A := wordL_listL A (by omega)
    have hlg := largest_ev h (by omega) trap (listL A) (set_word hp hA) (by omega)
    rw [hwA, show lg (edgesN l trap) A = A from lgW_self _ _ _ U.ca] at hlg
    refine .s ?_
    simp only [taquinlaw18_PetriUnions.l0]
    refine .n (by omega) (.b (pickM_ev x1 i hp) (.b (within_of (by omega) (fun p hp => (pickM_mem.1 hp).1) (by omega) h1) (.p (by trivial) (.b (within_of (by omega) (listL_pos C) (by omega) (by rw [hwC]; exact U.ac)) (.p (by trivial) (.b (within_of (by omega) (listL_pos C) (by omega) (by rw [hwC]; exact U.bc)) (.p (by trivial) (.b hlg (.b (same_ev _ (by omega)) ?_)))))))))
    exact un_j2 h trap U
  | succ d ih =>
    intro i hd hi
    have hs := uM_succ A B i
    have hl := uM_len A B i
    have hmA : decide ((i : Int) ∈ listL A) = A.testBit i := by
      apply Bool.eq_iff_iff.2
      rw [decide_eq_true_eq, listL_mem]
      exact ⟨fun h => by simpa using h.2.2, fun h => ⟨by omega, by omega, by simpa using h⟩⟩
    have hmB : decide ((i : Int) ∈ listL B) = B.testBit i := by
      apply Bool.eq_iff_iff.2
      rw [decide_eq_true_eq, listL_mem]
      exact ⟨fun h => by simpa using h.2.2, fun h => ⟨by omega, by omega, by simpa using h⟩⟩
    have hn1 := ih (i + 1) (by omega) (by omega)
    refine .s ?_
    simp only [taquinlaw18_PetriUnions.l0]
    refine .p (by omega) (.b (meets1_ev (i : Int) (listL A) (by omega)) ?_)
    rw [hmA]
    cases hq : A.testBit i with
    | true =>
      rw [hq, Bool.true_or, if_pos rfl] at hs
      refine .p (by trivial) (.p (by omega) ?_)
      rw [w64 (by omega) (by omega), ← hs]
      exact hn1
    | false =>
      refine .n (by simp) (.b (meets1_ev (i : Int) (listL B) (by omega)) ?_)
      rw [hmB]
      cases hq2 : B.testBit i with
      | true =>
        rw [hq, hq2, Bool.or_true, if_pos rfl] at hs
        refine .p (by trivial) (.p (by omega) ?_)
        rw [w64 (by omega) (by omega), ← hs]
        exact hn1
      | false =>
        rw [hq, hq2, Bool.or_false, if_neg (by simp), List.append_nil] at hs
        refine .n (by simp) ?_
        rw [w64 (by omega) (by omega), ← hs]
        exact hn1
end
theorem PetriUnions (x0 : S24) (a1 a2 : Int) (a3 : Bool) (wf0 : wf24 x0) (w1 : wfI .i64 a1) (w2 : wfI .i64 a2) : ∃ k, taquinlaw18_PetriUnions.f k x0.f0 x0.f1 a1 a2 a3 = some true := by
  obtain ⟨P, l⟩ := x0
  simp only
  have hl : l.length ≤ 9223372036854775807 := wf0.2.2
  refine Ev.ex (f := fun k => taquinlaw18_PetriUnions.f k P l a1 a2 a3) ?_
  have hout : Ev (fun k => taquinlaw18_PetriUnions.j0 k a1 a2 a3 true true P l) true := by
    refine .s ?_
    simp only [taquinlaw18_PetriUnions.j0]
    exact .p (by trivial) (.r _)
  simp only [taquinlaw18_PetriUnions.f]
  refine .b small_ev ?_
  by_cases h0 : P < 0
  · exact .p h0 hout
  refine .n h0 ?_
  by_cases h12 : P > 12
  · exact .p h12 hout
  refine .n h12 ?_
  have hmx : 0 ≤ mx 0 (mn P 64) ∧ mx 0 (mn P 64) ≤ 64 := by
    unfold mx mn
    split <;> split <;> omega
  obtain ⟨r, hr, hh⟩ := fits_ev P l (List.replicate (mx 0 (mn P 64)).toNat 0) 12 20 hl
  refine .p hmx.1 (.p (by omega) (.b hr ?_))
  cases r with
  | false => exact hout
  | true =>
    obtain ⟨n, rfl, hF⟩ := hh rfl
    have hp := hF.p64
    have hn : n ≤ 12 := by have := hF.places; omega
    have r1 := wfI_i64 w1
    have r2 := wfI_i64 w2
    have hlt : ∀ b, wordL (pickM b n) < 2 ^ n := fun b => word_lt (fun p hp => by have := pickM_mem.1 hp; omega)
    have hlg : ∀ b, lg (edgesN l a3) (wordL (pickM b n)) < 2 ^ n := fun b => Nat.lt_of_le_of_lt (lgW_sub _ _ _).le (hlt b)
    have hcl : ∀ b, lg (edgesN l a3) (wordL (pickM b n)) = 0 ∨ closedB (edgesN l a3) (lg (edgesN l a3) (wordL (pickM b n))) = true := fun b => lgW_ends _ _ _ (Nat.le_refl _)
    have hsub : ∀ x y, (∀ i, i < n → bitP x i = true → bitP y i = true) → Sub (wordL (pickM x n)) (wordL (pickM y n)) := fun x y hxy i hi => by
      have h1 := (word_mem (fun p hp => (pickM_mem.1 hp).1) i).1 hi
      have h2 := pickM_mem.1 h1
      refine (word_mem (fun p hp => (pickM_mem.1 hp).1) i).2 (pickM_mem.2 ⟨h2.1, h2.2.1, ?_⟩)
      simp only [Int.toNat_natCast] at h2 ⊢
      exact hxy i (by omega) h2.2.2
    have key : ∀ x y, Sub (wordL (pickM x n)) (wordL (pickM y n)) → Sub (lg (edgesN l a3) (wordL (pickM x n))) (lg (edgesN l a3) (wordL (pickM y n))) := fun x y hxy =>
      lgW_keeps _ _ (Un.edged (hcl x)) _ _ ((lgW_sub _ _ _).trans hxy)
    have hor := bitP_or a1 a2 r1 r2
    have U : Un (edgesN l a3) n (lg (edgesN l a3) (wordL (pickM a1 n))) (lg (edgesN l a3) (wordL (pickM a2 n))) (lg (edgesN l a3) (wordL (pickM (Go.bits .or .i64 a1 a2) n))) :=
      ⟨hn, hlg _, hlg _, hlg _, hcl _, hcl _, key _ _ (hsub _ _ (fun i hi hb => by rw [hor i (by omega), hb, Bool.true_or])), key _ _ (hsub _ _ (fun i hi hb => by rw [hor i (by omega), hb, Bool.or_true]))⟩
    have hL : ∀ b, Ev (fun k => petri_Largest.f k (n : Int) l (pickM b n) a3) (listL (lg (edgesN l a3) (wordL (pickM b n)))) := fun b => largest_ev hF (by omega) a3 (pickM b n) (pickM_set b n) (by have := pickM_len b n; omega)
    refine .s ?_
    simp only [taquinlaw18_PetriUnions.j0]
    refine .n (by simp) (.b (pickM_ev a1 n hp) (.b (hL _) (.b (pickM_ev a2 n hp) (.b (hL _) (.b (pickM_ev _ n hp) (.b (hL _) ?_))))))
    have := un_l0 hF a1 a3 U (lgW_sub _ _ _) n 0 (by omega) (by omega)
    exact this
end Go.Proofs.YthpclmkcljmoeaaDoor.P
