/- wire's encodings read back: an int, a list of ints. -/
import Derived.Test.YtipjlhhgccfmcaaDoorGItems
import Derived.Test.YtipjlhhgccfmcaaDoorGList
namespace Go.Proofs.YtipjlhhgccfmcaaDoor.P
open Go.RowKit Go.Proofs.YtipjlhhgccfmcaaDoorW.PrintWords Go.Proofs.YtipjlhhgccfmcaaDoorW.PrintLast Go.Proofs.YtipjlhhgccfmcaaDoorW.PrintMore
set_option linter.unusedVariables false
set_option linter.unusedSimpArgs false
/-- Bytes as a string. -/
abbrev bs (l : List UInt8) : ByteArray := ⟨l.toArray⟩
theorem bs_list (l : List UInt8) : (bs l).data.toList = l := by simp
theorem bs_size (l : List UInt8) : (bs l).size = l.length := by simp [ByteArray.size]
theorem bs_of (s : ByteArray) : bs s.data.toList = s := by
  apply ByteArray.ext
  simp
theorem ext0_list (s : ByteArray) (k : Nat) : (s.extract 0 k).data.toList = s.data.toList.take k := by
  rw [ByteArray.data_extract, Array.toList_extract]
  simp [List.extract_eq_take_drop]
theorem ext_bs (l : List UInt8) (k : Nat) : (bs l).extract k (bs l).size = bs (l.drop k) := by
  apply ByteArray.ext
  rw [ByteArray.data_extract, bs_size]
  apply Array.ext'
  rw [Array.toList_extract]
  simp only [List.extract_eq_take_drop, List.toList_toArray]
  rw [List.take_of_length_le (by simp)]
theorem idx_app (e : UInt8) : ∀ (a r : List UInt8), (∀ c ∈ a, c ≠ e) → Lib.indexByte (a ++ e :: r) e = (a.length : Int)
  | [], r, _ => by simp [Lib.indexByte]
  | c :: a, r, h => by
    have h0 := h c (by simp)
    have ih := idx_app e a r (fun x hx => h x (by simp [hx]))
    simp only [List.cons_append, Lib.indexByte]
    rw [if_neg (by simpa using h0), ih]
    rw [if_neg (by simp), List.length_cons]
    omega
/-- A numeral and its closing byte are read; the rest is left. -/
theorem numR_app (n : Int) (h0 : -9223372036854775808 ≤ n) (h1 : n ≤ 9223372036854775807) (e : UInt8) (he : ¬ (e.toNat = 45 ∨ 48 ≤ e.toNat ∧ e.toNat ≤ 57)) (least : Int) (hl : least ≤ n) (r : List UInt8) (b : Bool) :
    numR (bs (Lib.itoa n ++ e :: r)) b (e.toNat : Int) least = (n, bs r, b) := by
  have hlen := itoa_len n h0 h1
  have hmem := itoa_mem n
  have hat := itoa_atoi n h0 h1
  have hne : ∀ c ∈ Lib.itoa n, c ≠ e := fun c hc e2 => he (e2 ▸ hmem c hc)
  generalize hq : Lib.itoa n = a at hlen hmem hat hne
  have hhead : (headB (bs (a ++ e :: r))).data.toList = a ++ e :: r.take (20 - a.length) := by
    unfold headB
    rw [ext0_list, bs_list]
    have : (min ((bs (a ++ e :: r)).size : Int) 21).toNat = min (a ++ e :: r).length 21 := by rw [bs_size]; omega
    rw [this, List.take_eq_take_iff.2 (show min (min (a ++ e :: r).length 21) (a ++ e :: r).length = min 21 (a ++ e :: r).length by omega), List.take_append, List.take_of_length_le (by omega)]
    congr 1
    rw [show 21 - a.length = (20 - a.length) + 1 by omega, List.take_succ_cons]
  have hb : atB (bs (a ++ e :: r)) (e.toNat : Int) = (a.length : Int) := by
    unfold atB
    rw [hhead, Int.toNat_natCast, show e.toNat.toUInt8 = e from UInt8.ofNat_toNat]
    exact idx_app e a _ hne
  have htake : ((headB (bs (a ++ e :: r))).extract 0 a.length).data.toList = a := by
    rw [ext0_list, hhead, List.take_append, List.take_of_length_le (Nat.le_refl _)]
    simp
  unfold numR
  rw [hb, if_neg (by omega), Int.toNat_natCast, htake, hat]
  simp only
  rw [if_pos ⟨hq, hl⟩, ext_bs]
  congr 2
  rw [List.drop_append, List.drop_of_length_le (by omega)]
  simp
/-- An int's encoding is read back. -/
theorem int_app (n : Int) (h : inR n = true) (r : List UInt8) (b : Bool) : numR (bs (intB n ++ r)) b 59 (-9223372036854775808) = (n, bs r, b) := by
  have h := of_decide_eq_true h
  have e : intB n ++ r = Lib.itoa n ++ (59 : UInt8) :: r := by simp [intB]
  rw [e]
  exact numR_app n h.1 h.2 59 (by decide) _ h.1 r b
theorem num_app (n : Int) (h0 : 0 ≤ n) (h1 : n ≤ 9223372036854775807) (r : List UInt8) (b : Bool) : numR (bs (intB n ++ r)) b 59 0 = (n, bs r, b) := by
  have e : intB n ++ r = Lib.itoa n ++ (59 : UInt8) :: r := by simp [intB]
  rw [e]
  exact numR_app n (by omega) h1 59 (by decide) _ h0 r b
theorem intB_pos (n : Int) : 1 ≤ (intB n).length := by simp [intB]
theorem items_app (tail : List UInt8) : ∀ (l : List Int) (k : Nat) (out : List Int), (∀ x ∈ l, inR x = true) → l.length ≤ k → itemsR k (l.length : Int) (bs (l.flatMap intB ++ tail)) false out = (out ++ l, bs tail, false)
  | [], k, out, _, _ => by
    cases k with
    | zero => simp [itemsR]
    | succ k => simp [itemsR]
  | x :: l, 0, out, _, h => by simp at h
  | x :: l, k + 1, out, hx, h => by
    simp only [itemsR]
    rw [if_pos ⟨by rw [List.length_cons]; omega, trivial⟩]
    rw [List.flatMap_cons, List.append_assoc, int_app x (hx x (by simp))]
    simp only
    rw [show ((x :: l).length : Int) - 1 = (l.length : Int) by rw [List.length_cons]; omega]
    rw [items_app tail l k (out ++ [x]) (fun y hy => hx y (by simp [hy])) (by simpa using h)]
    simp
theorem close_app (r : List UInt8) (b : Bool) : wire_Reader_close.f (bs (93 :: r)) b ⟨#[93]⟩ = some (bs r, b) := by
  have hp : ((bs (93 :: r)).extract 0 1).toList == (⟨#[93]⟩ : ByteArray).toList := by
    rw [ba_list, ba_list, ext0_list]
    simp
  have h1 : (⟨#[93]⟩ : ByteArray).size = 1 := rfl
  have h2 : (bs (93 :: r)).size = r.length + 1 := by rw [bs_size]; rfl
  unfold wire_Reader_close.f strings_CutPrefix.f stringslite_CutPrefix.f stringslite_HasPrefix.f
  rw [h1, if_pos (by omega), if_pos (by omega), if_pos (by omega)]
  simp only [Int.cast_ofNat_Int, Int.toNat_one, hp, Option.bind_some, if_true]
  rw [if_pos (by omega), if_pos (by omega)]
  simp only [Option.bind_some, if_true]
  rw [ext_bs]
  rfl
theorem flat_ge (l : List Int) : l.length ≤ (l.flatMap intB).length := by
  induction l with
  | nil => simp
  | cons x r ih =>
    have := intB_pos x
    rw [List.flatMap_cons, List.length_append, List.length_cons]
    omega
theorem nums_len (l : List Int) (hl : l.length ≤ 40000) (h : ∀ x ∈ l, inR x = true) : (numsB l).length ≤ 22 + l.length * 21 := by
  have h1 := itoa_len (l.length : Int) (by omega) (by omega)
  have h2 := flat_len l h
  simp only [numsB, List.length_append, List.length_cons, List.length_nil]
  omega
/-- A list's encoding is read back. -/
theorem nums_app (l : List Int) (hl : l.length ≤ 40000) (h : ∀ x ∈ l, inR x = true) (r : List UInt8) (hr : (numsB l ++ r).length ≤ 1000000) : wire_Reader_Nums.f (bs (numsB l ++ r)) false = some (l, bs r, false) := by
  have e : numsB l ++ r = Lib.itoa (l.length : Int) ++ (91 : UInt8) :: (l.flatMap intB ++ 93 :: r) := by simp [numsB]
  have hn : numR (bs (numsB l ++ r)) false 91 0 = ((l.length : Int), bs (l.flatMap intB ++ 93 :: r), false) := by
    rw [e]
    exact numR_app (l.length : Int) (by omega) (by omega) 91 (by decide) 0 (by omega) _ false
  have hfl := flat_ge l
  have hi : itemsS (bs (numsB l ++ r)) false = (l, bs (93 :: r), false) := by
    unfold itemsS
    rw [hn]
    simp only
    have := items_app (93 :: r) l ((bs (numsB l ++ r)).size + 1) [] h (by rw [bs_size, e]; simp only [List.length_append, List.length_cons]; omega)
    rw [this, List.nil_append]
  unfold wire_Reader_Nums.f
  rw [if_pos (by rw [bs_size]; exact hr), hi]
  simp only
  rw [close_app]
  rfl
/-! ### Whatever the string -/
theorem numR_ge (s : ByteArray) (b : Bool) (e l : Int) (hl : l ≤ 0) : l ≤ (numR s b e l).1 := by
  unfold numR
  split
  · exact hl
  · split
    · split
      · rename_i h
        exact h.2
      · exact hl
    · exact hl
theorem itemsR_size : ∀ (k : Nat) (n : Int) (s : ByteArray) (b : Bool) (out : List Int), (itemsR k n s b out).2.1.size ≤ s.size ∧ (itemsR k n s b out).1.length ≤ out.length + k
  | 0, n, s, b, out => ⟨Nat.le_refl _, Nat.le_refl _⟩
  | k + 1, n, s, b, out => by
    simp only [itemsR]
    split
    · have h1 := (numR_less s b 59 (-9223372036854775808)).1
      obtain ⟨h2, h3⟩ := itemsR_size k (n - 1) (numR s b 59 (-9223372036854775808)).2.1 (numR s b 59 (-9223372036854775808)).2.2 (out ++ [(numR s b 59 (-9223372036854775808)).1])
      simp only [List.length_append, List.length_cons, List.length_nil] at h3
      exact ⟨by omega, by omega⟩
    · exact ⟨Nat.le_refl _, Nat.le_add_right _ _⟩
theorem close_tells (s : ByteArray) (b : Bool) (a : ByteArray) : ∃ z, wire_Reader_close.f s b a = some z ∧ z.1.size ≤ s.size := by
  have h0 : (⟨#[]⟩ : ByteArray).size = 0 := rfl
  have hf : ∀ (x : Option (ByteArray × Bool)) (t : ByteArray), x = some (t, false) → ∃ z, (x.bind fun p => if p.2 = true then some (p.1, b) else some ((⟨#[]⟩ : ByteArray), true)) = some z ∧ z.1.size ≤ s.size := by
    rintro _ t rfl
    exact ⟨_, rfl, by show (⟨#[]⟩ : ByteArray).size ≤ _; omega⟩
  unfold wire_Reader_close.f
  by_cases h1 : (s.size : Int) ≥ (a.size : Int)
  · have e : stringslite_HasPrefix.f s a = some ((s.extract 0 ((a.size : Int) : Int).toNat).toList == a.toList) := by
      unfold stringslite_HasPrefix.f
      rw [if_pos h1, if_pos (by omega), if_pos (by omega)]
    cases hp : ((s.extract 0 ((a.size : Int) : Int).toNat).toList == a.toList) with
    | true =>
      rw [hp] at e
      have e2 : strings_CutPrefix.f s a = some (s.extract a.size s.size, true) := by
        unfold strings_CutPrefix.f stringslite_CutPrefix.f
        rw [e]
        simp only [Option.bind_some, if_true]
        rw [if_pos (by omega), if_pos (by omega)]
        rfl
      rw [e2]
      exact ⟨_, rfl, by show (s.extract a.size s.size).size ≤ _; rw [ByteArray.size_extract]; omega⟩
    | false =>
      rw [hp] at e
      refine hf _ s ?_
      unfold strings_CutPrefix.f stringslite_CutPrefix.f
      rw [e]
      rfl
  · refine hf _ s ?_
    unfold strings_CutPrefix.f stringslite_CutPrefix.f stringslite_HasPrefix.f
    rw [if_neg h1]
    rfl
theorem nums_tells (s : ByteArray) (b : Bool) (hs : s.size ≤ 1000000) : ∃ a r b', wire_Reader_Nums.f s b = some (a, r, b') ∧ a.length ≤ s.size + 1 ∧ r.size ≤ s.size := by
  unfold wire_Reader_Nums.f
  rw [if_pos hs]
  obtain ⟨z, hz, hl⟩ := close_tells (itemsS s b).2.1 (itemsS s b).2.2 ⟨#[93]⟩
  rw [hz]
  have h1 := (numR_less s b 91 0).1
  obtain ⟨h2, h3⟩ := itemsR_size (s.size + 1) (numR s b 91 0).1 (numR s b 91 0).2.1 (numR s b 91 0).2.2 []
  refine ⟨_, _, _, rfl, ?_, ?_⟩
  · split
    · simp
    · simpa [itemsS] using h3
  · have : (itemsS s b).2.1.size ≤ (numR s b 91 0).2.1.size := h2
    show z.1.size ≤ _
    omega
theorem num_tells (s : ByteArray) (b : Bool) (hs : s.size ≤ 1000000) : wire_Reader_Num.f s b = some (numR s b 59 0) := by
  unfold wire_Reader_Num.f wire_Reader_number.f
  rw [if_pos (by omega)]
  rfl
theorem ba_eq {a b : ByteArray} (h : a.toList = b.toList) : a = b := by
  rw [ba_list, ba_list] at h
  exact ByteArray.ext (Array.ext' h)
end Go.Proofs.YtipjlhhgccfmcaaDoor.P
