/- wire's numbers read back, and whatever the string. -/
import Derived.Test.YtemcplbldfldlaaDoorPx14
import Derived.Test.YtemcplbldfldlaaDoorPx13
import Derived.Test.YtemcplbldfldlaaDoorGNumber
import Derived.Test.YtemcplbldfldlaaDoorGClose
import Derived.Test.YtemcplbldfldlaaDoorGInt
namespace Go.Proofs.YtemcplbldfldlaaDoor.P
open Go.RowKit Go.Proofs.YtemcplbldfldlaaDoorW.PrintWords Go.Proofs.YtemcplbldfldlaaDoorW.PrintLast Go.Proofs.YtemcplbldfldlaaDoorW.PrintMore
set_option linter.unusedVariables false
set_option linter.unusedSimpArgs false
/-- What is read is less, or the reading failed. -/
theorem numR_less (s : ByteArray) (b : Bool) (e l : Int) : (numR s b e l).2.1.size ≤ s.size ∧ ((numR s b e l).2.2 = true ∨ (numR s b e l).2.1.size < s.size) := by
  have h0 : (⟨#[]⟩ : ByteArray).size = 0 := rfl
  unfold numR
  by_cases hat : atB s e < 0
  · rw [if_pos hat]; exact ⟨by rw [h0]; omega, .inl rfl⟩
  · rw [if_neg hat]
    obtain ⟨k, hk⟩ : ∃ k : Nat, atB s e = (k : Int) := ⟨(atB s e).toNat, by omega⟩
    have h1 := head_lt hk
    have h2 := head_le s
    split
    · split
      · simp only [ByteArray.size_extract, hk, Int.toNat_natCast]
        exact ⟨by omega, .inr (by omega)⟩
      · exact ⟨by rw [h0]; omega, .inl rfl⟩
    · exact ⟨by rw [h0]; omega, .inl rfl⟩
theorem numR_range (s : ByteArray) (b : Bool) (e l : Int) : -9223372036854775808 ≤ (numR s b e l).1 ∧ (numR s b e l).1 ≤ 9223372036854775807 := by
  unfold numR
  split
  · exact ⟨by simp, by simp⟩
  · split
    · rename_i n hn
      have := Lib.atoiAll_bounds hn
      split
      · exact this
      · exact ⟨by simp, by simp⟩
    · exact ⟨by simp, by simp⟩
theorem int_call (s : ByteArray) (b : Bool) (h : s.size ≤ 1000000) : wire_Reader_Int.f s b = some (numR s b 59 (-9223372036854775808)) := by
  unfold wire_Reader_Int.f wire_Reader_number.f
  rw [if_pos (by omega)]
  rfl
theorem idx_app (e : UInt8) : ∀ (a r : List UInt8), (∀ c ∈ a, c ≠ e) → Lib.indexByte (a ++ e :: r) e = (a.length : Int)
  | [], r, _ => by simp [Lib.indexByte]
  | c :: a, r, h => by
    have h0 := h c (by simp)
    have ih := idx_app e a r (fun x hx => h x (by simp [hx]))
    simp only [List.cons_append, Lib.indexByte]
    rw [if_neg (by simpa using h0), ih]
    rw [if_neg (by simp), List.length_cons]
    omega
/-- A numeral and its closing byte are read; the rest is left. -/
theorem numR_app (n : Int) (h0 : -9223372036854775808 ≤ n) (h1 : n ≤ 9223372036854775807) (e : UInt8) (he : ¬ (e.toNat = 45 ∨ 48 ≤ e.toNat ∧ e.toNat ≤ 57)) (least : Int) (hl : least ≤ n) (r : List UInt8) (b : Bool) :
    numR (bs (Lib.itoa n ++ e :: r)) b (e.toNat : Int) least = (n, bs r, b) := by
  have hlen := itoa_len n h0 h1
  have hmem := itoa_mem n
  have hat := itoa_atoi n h0 h1
  have hne : ∀ c ∈ Lib.itoa n, c ≠ e := fun c hc e2 => he (e2 ▸ hmem c hc)
  generalize hq : Lib.itoa n = a at hlen hmem hat hne
  have hhead : (headB (bs (a ++ e :: r))).data.toList = a ++ e :: r.take (20 - a.length) := by
    unfold headB
    rw [ext0_list, bs_list]
    have : (min ((bs (a ++ e :: r)).size : Int) 21).toNat = min (a ++ e :: r).length 21 := by rw [bs_size]; omega
    rw [this, List.take_eq_take_iff.2 (show min (min (a ++ e :: r).length 21) (a ++ e :: r).length = min 21 (a ++ e :: r).length by omega), List.take_append, List.take_of_length_le (by omega)]
    congr 1
    rw [show 21 - a.length = (20 - a.length) + 1 by omega, List.take_succ_cons]
  have hb : atB (bs (a ++ e :: r)) (e.toNat : Int) = (a.length : Int) := by
    unfold atB
    rw [hhead, Int.toNat_natCast, show e.toNat.toUInt8 = e from UInt8.ofNat_toNat]
    exact idx_app e a _ hne
  have htake : ((headB (bs (a ++ e :: r))).extract 0 a.length).data.toList = a := by
    rw [ext0_list, hhead, List.take_append, List.take_of_length_le (Nat.le_refl _)]
    simp
  unfold numR
  rw [hb, if_neg (by omega), Int.toNat_natCast, htake, hat]
  simp only
  rw [if_pos ⟨hq, hl⟩, ext_bs]
  congr 2
  rw [List.drop_append, List.drop_of_length_le (by omega)]
  simp
/-- An int's encoding is read back. -/
theorem int_app (n : Int) (h : inR n = true) (r : List UInt8) (b : Bool) : numR (bs (intB n ++ r)) b 59 (-9223372036854775808) = (n, bs r, b) := by
  have h := of_decide_eq_true h
  have e : intB n ++ r = Lib.itoa n ++ (59 : UInt8) :: r := by simp [intB]
  rw [e]
  exact numR_app n h.1 h.2 59 (by decide) _ h.1 r b
theorem num_app (n : Int) (h0 : 0 ≤ n) (h1 : n ≤ 9223372036854775807) (r : List UInt8) (b : Bool) : numR (bs (intB n ++ r)) b 59 0 = (n, bs r, b) := by
  have e : intB n ++ r = Lib.itoa n ++ (59 : UInt8) :: r := by simp [intB]
  rw [e]
  exact numR_app n (by omega) h1 59 (by decide) _ h0 r b
theorem intB_pos (n : Int) : 1 ≤ (intB n).length := by simp [intB]
theorem close_byte (c : UInt8) (r : List UInt8) (b : Bool) : wire_Reader_close.f (bs (c :: r)) b ⟨#[c]⟩ = some (bs r, b) := by
  have hp : ((bs (c :: r)).extract 0 1).toList == (⟨#[c]⟩ : ByteArray).toList := by
    rw [ba_list, ba_list, ext0_list]
    simp
  have h1 : (⟨#[c]⟩ : ByteArray).size = 1 := rfl
  have h2 : (bs (c :: r)).size = r.length + 1 := by rw [bs_size]; rfl
  unfold wire_Reader_close.f strings_CutPrefix.f stringslite_CutPrefix.f stringslite_HasPrefix.f
  rw [h1, if_pos (by omega), if_pos (by omega), if_pos (by omega)]
  simp only [Int.cast_ofNat_Int, Int.toNat_one, hp, Option.bind_some, if_true]
  rw [if_pos (by omega), if_pos (by omega)]
  simp only [Option.bind_some, if_true]
  rw [ext_bs]
  rfl
theorem close_app (r : List UInt8) (b : Bool) : wire_Reader_close.f (bs (93 :: r)) b ⟨#[93]⟩ = some (bs r, b) := close_byte 93 r b
theorem numR_lt (s : ByteArray) (b : Bool) (e l : Int) (h : 0 < s.size) : (numR s b e l).2.1.size < s.size := by
  have h0 : (⟨#[]⟩ : ByteArray).size = 0 := rfl
  unfold numR
  by_cases hat : atB s e < 0
  · rw [if_pos hat]; exact h
  · rw [if_neg hat]
    obtain ⟨k, hk⟩ : ∃ k : Nat, atB s e = (k : Int) := ⟨(atB s e).toNat, by omega⟩
    split
    · split
      · simp only [ByteArray.size_extract, hk, Int.toNat_natCast]
        omega
      · exact h
    · exact h
/-! ### Whatever the string -/
theorem numR_ge (s : ByteArray) (b : Bool) (e l : Int) (hl : l ≤ 0) : l ≤ (numR s b e l).1 := by
  unfold numR
  split
  · exact hl
  · split
    · split
      · rename_i h
        exact h.2
      · exact hl
    · exact hl
theorem close_tells (s : ByteArray) (b : Bool) (a : ByteArray) : ∃ z, wire_Reader_close.f s b a = some z ∧ z.1.size ≤ s.size := by
  have h0 : (⟨#[]⟩ : ByteArray).size = 0 := rfl
  have hf : ∀ (x : Option (ByteArray × Bool)) (t : ByteArray), x = some (t, false) → ∃ z, (x.bind fun p => if p.2 = true then some (p.1, b) else some ((⟨#[]⟩ : ByteArray), true)) = some z ∧ z.1.size ≤ s.size := by
    rintro _ t rfl
    exact ⟨_, rfl, by show (⟨#[]⟩ : ByteArray).size ≤ _; omega⟩
  unfold wire_Reader_close.f
  by_cases h1 : (s.size : Int) ≥ (a.size : Int)
  · have e : stringslite_HasPrefix.f s a = some ((s.extract 0 ((a.size : Int) : Int).toNat).toList == a.toList) := by
      unfold stringslite_HasPrefix.f
      rw [if_pos h1, if_pos (by omega), if_pos (by omega)]
    cases hp : ((s.extract 0 ((a.size : Int) : Int).toNat).toList == a.toList) with
    | true =>
      rw [hp] at e
      have e2 : strings_CutPrefix.f s a = some (s.extract a.size s.size, true) := by
        unfold strings_CutPrefix.f stringslite_CutPrefix.f
        rw [e]
        simp only [Option.bind_some, if_true]
        rw [if_pos (by omega), if_pos (by omega)]
        rfl
      rw [e2]
      exact ⟨_, rfl, by show (s.extract a.size s.size).size ≤ _; rw [ByteArray.size_extract]; omega⟩
    | false =>
      rw [hp] at e
      refine hf _ s ?_
      unfold strings_CutPrefix.f stringslite_CutPrefix.f
      rw [e]
      rfl
  · refine hf _ s ?_
    unfold strings_CutPrefix.f stringslite_CutPrefix.f stringslite_HasPrefix.f
    rw [if_neg h1]
    rfl
theorem num_tells (s : ByteArray) (b : Bool) (hs : s.size ≤ 1000000) : wire_Reader_Num.f s b = some (numR s b 59 0) := by
  unfold wire_Reader_Num.f wire_Reader_number.f
  rw [if_pos (by omega)]
  rfl
theorem ba_eq {a b : ByteArray} (h : a.toList = b.toList) : a = b := by
  rw [ba_list, ba_list] at h
  exact ByteArray.ext (Array.ext' h)
end Go.Proofs.YtemcplbldfldlaaDoor.P
