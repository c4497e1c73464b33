import Derived.Test.YtemcplbldfldlaaDoorGTab
import Derived.Test.YtemcplbldfldlaaDoorGShort
import Derived.Test.YtemcplbldfldlaaDoorPx11
import Derived.Lib.Hide
import Derived.BigQuiet
import Derived.Deep.DeepCutAuto
/- wire.Int and wire.Num: what they tell; bytes written behind a builder's. -/
namespace Go.Proofs.YtemcplbldfldlaaDoor.P
open Go.RowKit Go.Proofs.YtemcplbldfldlaaDoorW.PrintWords Go.Proofs.YtemcplbldfldlaaDoorW.PrintLast Go.Proofs.YtemcplbldfldlaaDoorW.PrintMore
set_option linter.unusedVariables false
set_option linter.unusedSimpArgs false
def inR (n : Int) : Bool := decide (-9223372036854775808 ≤ n ∧ n ≤ 9223372036854775807)
/-- An int's encoding; a list's. -/
def intB (n : Int) : List UInt8 := Lib.itoa n ++ [59]
theorem IsB.below {B b : Nat} {l : List UInt8} {w w1 : World} (h : IsB B b l w) (hb : Below w.heap.size w w1) : IsB B b l w1 := by
  have go : ∀ p, Lib.BuilderAt 65 5 B b p (Lib.byteCells l) w → Lib.BuilderAt 65 5 B b p (Lib.byteCells l) w1 := fun p h => by
    have hlt := h.lt
    obtain ⟨hB, v, hv, hown, hne⟩ := h
    exact ⟨hB, v, (hb.block b hlt).trans hv, hown.kept (row := none) (grown_of_below hb none) (Classical.em _), hne⟩
  exact h.elim (fun x => .inl (go _ x)) (fun x => .inr (go _ x))
theorem flat_snoc {α : Type} (l : List α) (f : α → List UInt8) (i : Nat) (z : α) (h : i < l.length) : (l.take (i + 1)).flatMap f = (l.take i).flatMap f ++ f (l.getD i z) := by
  rw [List.take_succ_eq_append_getElem h, List.flatMap_append]
  simp [List.getD_eq_getElem?_getD, h]
theorem intB_len (n : Int) (h : inR n = true) : (intB n).length ≤ 21 := by
  have h := of_decide_eq_true h
  have := itoa_len n h.1 h.2
  simp [intB]; omega
theorem itoa_size (n : Int) : (⟨(Lib.itoa n).toArray⟩ : ByteArray).size = (Lib.itoa n).length := by simp [ByteArray.size]
theorem int_eq (n : Int) (h : inR n = true) : wire_Int.f n = some ⟨(intB n).toArray⟩ := by
  have h := of_decide_eq_true h
  have hl := itoa_len n h.1 h.2
  unfold wire_Int.f strconv_Itoa.f
  rw [if_pos h]
  simp only [Option.bind_some]
  rw [if_pos (by rw [itoa_size]; omega)]
  congr 1
theorem ba_app (l m : List UInt8) : (⟨l.toArray⟩ : ByteArray) ++ (⟨m.toArray⟩ : ByteArray) = ⟨(l ++ m).toArray⟩ := by
  apply ByteArray.ext
  simp
theorem ret_str {a b : ByteArray} (h : a = b) : Ending.returned (.string a) = .returned (.string b) := by rw [h]
/-- Bytes as a string. -/
abbrev bs (l : List UInt8) : ByteArray := ⟨l.toArray⟩
theorem bs_list (l : List UInt8) : (bs l).data.toList = l := by simp
theorem bs_size (l : List UInt8) : (bs l).size = l.length := by simp [ByteArray.size]
theorem bs_of (s : ByteArray) : bs s.data.toList = s := by
  apply ByteArray.ext
  simp
theorem ext0_list (s : ByteArray) (k : Nat) : (s.extract 0 k).data.toList = s.data.toList.take k := by
  rw [ByteArray.data_extract, Array.toList_extract]
  simp [List.extract_eq_take_drop]
theorem ext_bs (l : List UInt8) (k : Nat) : (bs l).extract k (bs l).size = bs (l.drop k) := by
  apply ByteArray.ext
  rw [ByteArray.data_extract, bs_size]
  apply Array.ext'
  rw [Array.toList_extract]
  simp only [List.extract_eq_take_drop, List.toList_toArray]
  rw [List.take_of_length_le (by simp)]
theorem num_eq (n : Nat) (h : n ≤ 1000000) : wire_Num.f (n : Int) = some (bs (intB (n : Int))) := by
  unfold wire_Num.f
  rw [if_neg (by omega), int_eq _ (decide_eq_true (by omega))]
  rfl
end Go.Proofs.YtemcplbldfldlaaDoor.P
/- wire.Text: a string, encoded. -/
namespace Go.Proofs.YtemcplbldfldlaaDoor.P
open Go.RowKit Go.Proofs.YtemcplbldfldlaaDoorW.PrintWords Go.Proofs.YtemcplbldfldlaaDoorW.PrintLast Go.Proofs.YtemcplbldfldlaaDoorW.PrintMore
set_option linter.unusedVariables false
set_option linter.unusedSimpArgs false
def textB (l : List UInt8) : List UInt8 := Lib.itoa (l.length : Int) ++ [58] ++ l ++ [44]
theorem textB_len (l : List UInt8) (h : l.length ≤ 1000) : (textB l).length ≤ 1022 := by
  have := itoa_len (l.length : Int) (by omega) (by omega)
  simp only [textB, List.length_append, List.length_cons, List.length_nil]
  omega
theorem sz (l : List UInt8) : (⟨l.toArray⟩ : ByteArray).size = l.length := bs_size l
theorem list_size (s : ByteArray) : s.data.toList.length = s.size := Array.length_toList
theorem text_eq (s : ByteArray) (h : s.size ≤ 1000) : wire_Text.f s = some (bs (textB s.data.toList)) := by
  have hl := itoa_len (s.size : Int) (by omega) (by omega)
  have e1 : (⟨#[58]⟩ : ByteArray) = ⟨[58].toArray⟩ := rfl
  have e2 : (⟨#[44]⟩ : ByteArray) = ⟨[44].toArray⟩ := rfl
  have e3 : s = (⟨s.data.toList.toArray⟩ : ByteArray) := (bs_of s).symm
  have e4 := list_size s
  unfold wire_Text.f strconv_Itoa.f
  rw [if_pos ⟨by omega, by omega⟩]
  simp only [Option.bind_some]
  generalize s.data.toList = l at e3 e4
  subst e3
  rw [e1, e2, ba_app, ba_app, ba_app]
  rw [if_pos (by rw [sz, sz] at *; omega)]
  rw [if_pos (by rw [sz, sz, List.length_append] at *; simp only [List.length_cons, List.length_nil]; omega)]
  rw [if_pos (by rw [sz, List.length_append, List.length_append]; rw [sz] at *; simp only [List.length_cons, List.length_nil]; omega)]
  rw [sz]
  rfl
end Go.Proofs.YtemcplbldfldlaaDoor.P
