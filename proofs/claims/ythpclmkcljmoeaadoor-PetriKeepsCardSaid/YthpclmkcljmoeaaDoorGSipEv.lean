/- petri's words, lists and edges, as sets; how the words are compared. -/
import Derived.Test.YthpclmkcljmoeaaDoorGSiph
import Derived.Test.YthpclmkcljmoeaaDoorGRight
import Derived.Test.YthpclmkcljmoeaaDoorPx2
import Derived.Test.YthpclmkcljmoeaaDoorPx3
import Derived.Laws.BitsAllLaws
namespace Go.Proofs.YthpclmkcljmoeaaDoor.P
open Go.RowKit Go.Proofs.YthpclmkcljmoeaaDoorW.PrintWords Go.Proofs.YthpclmkcljmoeaaDoorW.PrintLast Go.Proofs.YthpclmkcljmoeaaDoorW.PrintMore
set_option linter.unusedVariables false
set_option linter.unusedSimpArgs false
theorem w64_lt {n : Nat} (h : n < 64) : 2 ^ n < 18446744073709551616 := by
  have : 2 ^ n < 2 ^ 64 := Nat.pow_lt_pow_right (by omega) h
  omega
theorem shl_one {p : Int} (h0 : 0 ≤ p) (h1 : p < 64) : shl .u64 1 p = ((2 ^ p.toNat : Nat) : Int) := by
  unfold shl
  have hm : min p.toNat IntKind.u64.bits = p.toNat := by simp [IntKind.bits]; omega
  have hlt := w64_lt (show p.toNat < 64 by omega)
  rw [hm, IntKind.wrap_u64, Int.one_mul]
  have e : ((2 : Int) ^ p.toNat) = ((2 ^ p.toNat : Nat) : Int) := by simp
  rw [e]
  generalize 2 ^ p.toNat = z at *
  omega
theorem word_l0 (s : List Int) (hs : ∀ p ∈ s, 0 ≤ p ∧ p < 64) (hl : s.length ≤ 1000000) (d : Nat) : ∀ (i : Nat) (W : Nat), s.length - i = d → i ≤ s.length → W < 18446744073709551616 →
    Ev (fun k => petri_word.l0 k (W : Int) s (s.length : Int) (i : Int)) (((s.drop i).foldl (fun w p => w ||| 2 ^ p.toNat) W : Nat) : Int) := by
  induction d with
  | zero =>
    intro i W hd hi hW
    rw [List.drop_eq_nil_of_le (by omega)]
    refine .s ?_
    simp only [petri_word.l0]
    exact .n (by omega) (.r _)
  | succ d ih =>
    intro i W hd hi hW
    have hil : i < s.length := by omega
    have hp := hs _ (mem_getD s i 0 hil)
    rw [drop_at s i 0 hil, List.foldl_cons]
    have hlt := w64_lt (show (s.getD i 0).toNat < 64 by omega)
    have hor : W ||| 2 ^ (s.getD i 0).toNat < 18446744073709551616 := by
      have : W ||| 2 ^ (s.getD i 0).toNat < 2 ^ 64 := Nat.or_lt_two_pow (by omega) (by omega)
      omega
    refine .s ?_
    simp only [petri_word.l0, rdI]
    refine .p (by omega) (.p (by omega) (.p (by omega) (.p (by omega) ?_)))
    rw [shl_one hp.1 hp.2, bits_or_u64_nat W _ hW hlt, w64 (by omega) (by omega)]
    exact ih (i + 1) _ (by omega) (by omega) hor
theorem word_ev (s : List Int) (hs : ∀ p ∈ s, 0 ≤ p ∧ p < 64) (hl : s.length ≤ 1000000) : Ev (fun k => petri_word.f k s) ((wordL s : Nat) : Int) := by
  have := word_l0 s hs hl s.length 0 0 (by omega) (by omega) (by omega)
  simpa [petri_word.f, wordL] using this
theorem wordL_64 {s : List Int} (hs : ∀ p ∈ s, 0 ≤ p ∧ p < 64) : wordL s < 18446744073709551616 := by
  have := wordL_lt 64 s (fun p hp => by have := hs p hp; omega)
  omega
theorem list_l0 (n : Nat) : ∀ (w : Nat) (out : List Int), w ≤ n → w < 18446744073709551616 → out.length + (listL w).length ≤ 64 →
    Ev (fun k => petri_list.l0 k (w : Int) out) (out ++ listL w) := by
  induction n with
  | zero =>
    intro w out hn hw ho
    obtain rfl : w = 0 := by omega
    refine .s ?_
    simp only [petri_list.l0]
    refine .p (by simp) ((Ev.r _).congr ?_)
    rw [listL_zero, List.append_nil]
  | succ n ih =>
    intro w out hn hw ho
    by_cases h0 : w = 0
    · subst h0
      refine .s ?_
      simp only [petri_list.l0]
      refine .p (by simp) ((Ev.r _).congr ?_)
      rw [listL_zero, List.append_nil]
    · have hc := listL_cons w h0 (by omega)
      rw [hc] at ho ⊢
      simp only [List.length_cons] at ho
      have hlt : w &&& (w - 1) ≤ w - 1 := Nat.and_le_right
      have hz : bits_TrailingZeros64.f (w : Int) = some ((Lib.ctz 64 w : Nat) : Int) := by
        unfold bits_TrailingZeros64.f
        rw [if_pos ⟨by omega, by omega⟩, Int.toNat_natCast]
      have hw1 : IntKind.u64.wrap ((w : Int) - 1) = ((w - 1 : Nat) : Int) := by rw [IntKind.wrap_u64]; omega
      refine .s ?_
      simp only [petri_list.l0]
      refine .n (by omega) (.b (.c hz) (.p (by omega) ?_))
      rw [hw1, bits_and_u64_nat w (w - 1) hw (by omega)]
      refine (ih (w &&& (w - 1)) (out ++ [((Lib.ctz 64 w : Nat) : Int)]) (by omega) (by omega) (by simp; omega)).congr ?_
      simp
theorem list_ev (w : Nat) (hw : w < 18446744073709551616) : Ev (fun k => petri_list.f k (w : Int)) (listL w) := by
  have := list_l0 w w [] (Nat.le_refl _) hw (by simpa using listL_len w)
  simpa [petri_list.f] using this
/-! ### Edges -/
def okT (t : S29) : Prop := (∀ p ∈ t.f0, 0 ≤ p ∧ p < 64) ∧ (∀ p ∈ t.f1, 0 ≤ p ∧ p < 64) ∧ t.f0.length ≤ 1000000 ∧ t.f1.length ≤ 1000000
def edgesN (l : List S29) (trap : Bool) : List (Nat × Nat) := l.map fun t => if trap = true then (wordL t.f0, wordL t.f1) else (wordL t.f1, wordL t.f0)
def edgeI (e : Nat × Nat) : S65 := ⟨(e.1 : Int), (e.2 : Int)⟩
def edgesI (l : List (Nat × Nat)) : List S65 := l.map edgeI
def okE (l : List (Nat × Nat)) : Prop := ∀ e ∈ l, e.1 < 18446744073709551616 ∧ e.2 < 18446744073709551616
theorem edgesN_ok {l : List S29} (trap : Bool) (h : ∀ t ∈ l, okT t) : okE (edgesN l trap) := by
  intro e he
  obtain ⟨t, ht, rfl⟩ := List.mem_map.1 he
  have := h t ht
  cases trap
  · exact ⟨wordL_64 this.2.1, wordL_64 this.1⟩
  · exact ⟨wordL_64 this.1, wordL_64 this.2.1⟩
theorem rdT (l : List S29) (i : Nat) : rd_T29 l (i : Int) = l.getD i z29 := by simp [rd_T29]
theorem edges_l0 (l : List S29) (trap : Bool) (h : ∀ t ∈ l, okT t) (hl : l.length ≤ 1000000) (d : Nat) : ∀ (i : Nat) (out : List S65), l.length - i = d → i ≤ l.length → out.length ≤ i →
    Ev (fun k => petri_edges.l0 k trap out l (l.length : Int) (i : Int)) (out ++ edgesI (edgesN (l.drop i) trap)) := by
  induction d with
  | zero =>
    intro i out hd hi ho
    rw [List.drop_eq_nil_of_le (by omega)]
    refine .s ?_
    simp only [petri_edges.l0]
    exact .n (by omega) ((Ev.r _).congr (by simp [edgesN, edgesI]))
  | succ d ih =>
    intro i out hd hi ho
    have hil : i < l.length := by omega
    have hok := h _ (mem_getD l i z29 hil)
    refine .s ?_
    simp only [petri_edges.l0, rdT]
    refine .p (by omega) (.p (by omega) (.p (by omega) (.b (word_ev _ hok.2.1 hok.2.2.2) (.b (word_ev _ hok.1 hok.2.2.1) ?_))))
    rw [drop_at l i z29 hil]
    rw [w64 (show -9223372036854775808 ≤ (i : Int) + 1 by omega) (by omega)]
    cases trap with
    | true =>
      refine .p rfl (.p (by omega) ((ih (i + 1) _ (by omega) (by omega) (by simp; omega)).congr ?_))
      simp [edgesN, edgesI, edgeI]
    | false =>
      refine .n (by simp) (.p (by omega) ((ih (i + 1) _ (by omega) (by omega) (by simp; omega)).congr ?_))
      simp [edgesN, edgesI, edgeI]
theorem edges_ev (P : Int) (l : List S29) (trap : Bool) (h : ∀ t ∈ l, okT t) (hl : l.length ≤ 1000000) : Ev (fun k => petri_edges.f k P l trap) (edgesI (edgesN l trap)) := by
  have := edges_l0 l trap h hl l.length 0 [] (by omega) (by omega) (by simp)
  simpa [petri_edges.f] using this
theorem cast_zero (n : Nat) : ((n : Int) = 0) ↔ n = 0 := by omega
theorem badEI_cast {w : Nat} (hw : w < 18446744073709551616) {e : Nat × Nat} (he : e.1 < 18446744073709551616 ∧ e.2 < 18446744073709551616) : badEI (w : Int) (edgeI e) = badE w e := by
  unfold badEI badE edgeI
  simp only [bits_and_u64_nat e.1 w he.1 hw, bits_and_u64_nat e.2 w he.2 hw, ne_eq, cast_zero]
theorem closed_eq {l : List (Nat × Nat)} (hl : okE l) (hlen : l.length ≤ 1000000) {w : Nat} (hw : w < 18446744073709551616) : petri_closed.f (edgesI l) (w : Int) = some (closedB l w) := by
  unfold petri_closed.f closedB
  rw [if_pos (by simp [edgesI]; omega)]
  have e : (edgesI l).any (badEI (w : Int)) = l.any (badE w) := by
    unfold edgesI
    rw [List.any_map]
    apply Bool.eq_iff_iff.2
    simp only [List.any_eq_true, Function.comp]
    constructor
    · rintro ⟨x, hx, h⟩; exact ⟨x, hx, by rw [← badEI_cast hw (hl x hx)]; exact h⟩
    · rintro ⟨x, hx, h⟩; exact ⟨x, hx, by rw [badEI_cast hw (hl x hx)]; exact h⟩
  rw [e]
  simp only [ne_eq, cast_zero]
theorem andNot_nat (a b : Nat) (ha : a < 18446744073709551616) (hb : b < 18446744073709551616) : Go.bits .andNot .u64 (a : Int) (b : Int) = ((without a b : Nat) : Int) := by
  have hx : without a b < 2 ^ 64 := Nat.lt_of_le_of_lt (without_sub a b).le (by omega)
  have h1 : (BitVec.ofInt 64 (a : Int)).toNat = a := by
    rw [BitVec.ofInt_natCast, BitVec.toNat_ofNat]; exact Nat.mod_eq_of_lt (by omega)
  have h2 : (BitVec.ofInt 64 (b : Int)).toNat = b := by
    rw [BitVec.ofInt_natCast, BitVec.toNat_ofNat]; exact Nat.mod_eq_of_lt (by omega)
  show IntKind.u64.wrap ((BitVec.ofInt 64 (a : Int) &&& ~~~ BitVec.ofInt 64 (b : Int)).toNat : Int) = _
  have e : (BitVec.ofInt 64 (a : Int) &&& ~~~ BitVec.ofInt 64 (b : Int)).toNat = without a b := by
    apply Nat.eq_of_testBit_eq
    intro i
    rw [BitVec.toNat_and, Nat.testBit_and, without_bit, h1, BitVec.toNat_not, h2]
    rw [show 2 ^ 64 - 1 - b = 2 ^ 64 - (b + 1) by omega, Nat.testBit_two_pow_sub_succ (by omega)]
    by_cases hi : i < 64
    · simp [hi]
    · have : a.testBit i = false := Nat.testBit_lt_two_pow (Nat.lt_of_lt_of_le (show a < 2 ^ 64 by omega) (Nat.pow_le_pow_right (by omega) (by omega)))
      simp [this]
  rw [e, IntKind.wrap_u64]
  omega
/-! ### How words are compared -/
theorem ones_eq : ∀ w : Nat, w < 256 → bits_OnesCount64.f (w : Int) = some ((listL w).length : Int) := by decide +kernel
theorem compare_eq (a b : Int) : cmp_Compare_int.f a b = some (if a < b then -1 else if a > b then 1 else 0) := by
  unfold cmp_Compare_int.f cmp_isNaN_int.f
  simp only [Option.bind_some]
  simp
  split
  · rfl
  · split <;> rfl
theorem lex_l0 (a b : List Int) (ha : a.length ≤ 1000) (hb : b.length ≤ 1000) (d : Nat) : ∀ i : Nat, a.length - i = d → i ≤ a.length → i ≤ b.length →
    Ev (fun k => slices_Compare_int_int.l0 k a b a (a.length : Int) (i : Int)) (lexC (a.drop i) (b.drop i)) := by
  induction d with
  | zero =>
    intro i hd hi hi2
    rw [List.drop_eq_nil_of_le (by omega)]
    refine .s ?_
    simp only [slices_Compare_int_int.l0]
    refine .n (by omega) ?_
    by_cases h : (a.length : Int) < (b.length : Int)
    · refine .p h ((Ev.r _).congr ?_)
      rw [drop_at b i 0 (by omega)]
      rfl
    · refine .n h ((Ev.r _).congr ?_)
      rw [List.drop_eq_nil_of_le (by omega)]
      rfl
  | succ d ih =>
    intro i hd hi hi2
    have hil : i < a.length := by omega
    rw [drop_at a i 0 hil]
    refine .s ?_
    simp only [slices_Compare_int_int.l0, rdI, compare_eq, Option.bind_some]
    refine .p (by omega) (.p (by omega) (.p (by omega) ?_))
    by_cases h : (i : Int) ≥ (b.length : Int)
    · refine .p h ((Ev.r _).congr ?_)
      rw [List.drop_eq_nil_of_le (show b.length ≤ i by omega)]
      rfl
    · rw [drop_at b i 0 (by omega)]
      refine .n h (.p (by omega) ?_)
      unfold lexC
      by_cases h1 : a.getD i 0 < b.getD i 0
      · rw [if_pos h1, if_pos h1]
        exact .n (by omega) (.r _)
      · by_cases h2 : a.getD i 0 > b.getD i 0
        · rw [if_neg h1, if_pos h2, if_neg h1, if_pos h2]
          exact .n (by omega) (.r _)
        · rw [if_neg h1, if_neg h2, if_neg h1, if_neg h2]
          refine .p rfl ?_
          rw [w64 (by omega) (by omega)]
          exact ih (i + 1) (by omega) (by omega) (by omega)
theorem lex_ev (a b : List Int) (ha : a.length ≤ 1000) (hb : b.length ≤ 1000) : Ev (fun k => slices_Compare_int_int.f k a b) (lexC a b) := by
  have := lex_l0 a b ha hb a.length 0 (by omega) (by omega) (by omega)
  simpa [slices_Compare_int_int.f] using this
theorem or_ev (x y : Int) : Ev (fun k => cmp_Or_int.f k [x, y]) (if x = 0 then y else x) := by
  simp only [cmp_Or_int.f]
  refine .s ?_
  simp only [cmp_Or_int.l0]
  refine .p (by simp) (.p (by omega) (.p (by simp) ?_))
  by_cases h : x = 0
  · subst h
    rw [if_pos rfl]
    refine .p rfl ?_
    rw [w64 (by omega) (by omega)]
    refine .s ?_
    simp only [cmp_Or_int.l0]
    refine .p (by simp) (.p (by omega) (.p (by simp) ?_))
    by_cases h2 : y = 0
    · subst h2
      refine .p rfl ?_
      rw [w64 (by omega) (by omega)]
      refine .s ?_
      simp only [cmp_Or_int.l0]
      exact .n (by simp) (.r _)
    · exact .n h2 (.r _)
  · rw [if_neg h]
    exact .n h (.r _)
theorem sip1_ev (a b : Nat) (ha : a < 256) (hb : b < 256) : Ev (fun k => petri_Siphons_1.f k (a : Int) (b : Int)) (cmpW a b) := by
  simp only [petri_Siphons_1.f]
  have hla := listL_len a
  have hlb := listL_len b
  refine .b (.c (ones_eq a ha)) (.b (.c (ones_eq b hb)) (.b (.c (compare_eq _ _)) (.b (list_ev a (by omega)) (.b (list_ev b (by omega)) (.b (lex_ev _ _ (by omega) (by omega)) (.b (or_ev _ _) ((Ev.r _).congr ?_)))))))
  unfold cmpW keyW
  rw [lexC]
  by_cases h1 : ((listL a).length : Int) < ((listL b).length : Int)
  · simp [h1]
  · by_cases h2 : ((listL a).length : Int) > ((listL b).length : Int)
    · simp [h1, h2]
    · simp [h1, h2]
end Go.Proofs.YthpclmkcljmoeaaDoor.P
