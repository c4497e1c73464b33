/- wire's strings read back, and whatever the string. -/
import Derived.Test.YtemcplbldfldlaaDoorPx14
import Derived.Test.YtemcplbldfldlaaDoorGReader
import Derived.Test.YtemcplbldfldlaaDoorGInt
namespace Go.Proofs.YtemcplbldfldlaaDoor.P
open Go.RowKit Go.Proofs.YtemcplbldfldlaaDoorW.PrintWords Go.Proofs.YtemcplbldfldlaaDoorW.PrintLast Go.Proofs.YtemcplbldfldlaaDoorW.PrintMore
set_option linter.unusedVariables false
set_option linter.unusedSimpArgs false
theorem text_tells (s : ByteArray) (b : Bool) (hs : s.size ≤ 1000000) : ∃ t r b', wire_Reader_Text.f s b = some (t, r, b') ∧ r.size ≤ s.size := by
  have hn : wire_Reader_number.f s b 58 0 = some (numR s b 58 0) := by unfold wire_Reader_number.f; rw [if_pos (by omega)]
  have h0 := numR_ge s b 58 0 (by omega)
  have h1 := (numR_less s b 58 0).1
  unfold wire_Reader_Text.f
  rw [hn]
  generalize numR s b 58 0 = p at h0 h1
  obtain ⟨n, r, b1⟩ := p
  simp only [Option.bind_some] at h0 h1 ⊢
  by_cases h2 : n > (r.size : Int)
  · rw [if_pos h2]
    exact ⟨_, _, _, rfl, by show (⟨#[]⟩ : ByteArray).size ≤ _; rw [show (⟨#[]⟩ : ByteArray).size = 0 from rfl]; omega⟩
  · rw [if_neg h2, if_pos h0, if_pos (by omega)]
    obtain ⟨z, hz, hl⟩ := close_tells (r.extract (n : Int).toNat r.size) b1 ⟨#[44]⟩
    rw [hz]
    simp only [Option.bind_some]
    rw [ByteArray.size_extract] at hl
    split
    · exact ⟨_, _, _, rfl, by omega⟩
    · exact ⟨_, _, _, rfl, by omega⟩
theorem ext0_bs (l r : List UInt8) : (bs (l ++ r)).extract 0 l.length = bs l := by
  apply ByteArray.ext
  apply Array.ext'
  rw [ext0_list, bs_list]
  simp
theorem text_app (l r : List UInt8) (hl : l.length ≤ 1000) (hr : r.length ≤ 100000) : wire_Reader_Text.f (bs (textB l ++ r)) false = some (bs l, bs r, false) := by
  have e : textB l ++ r = Lib.itoa (l.length : Int) ++ (58 : UInt8) :: (l ++ 44 :: r) := by simp [textB]
  have hlen := textB_len l hl
  have hn : wire_Reader_number.f (bs (textB l ++ r)) false 58 0 = some ((l.length : Int), bs (l ++ 44 :: r), false) := by
    unfold wire_Reader_number.f
    rw [if_pos (by rw [bs_size, List.length_append]; omega), e]
    congr 1
    exact numR_app (l.length : Int) (by omega) (by omega) 58 (by decide) 0 (by omega) _ false
  have hsz : (bs (l ++ 44 :: r)).size = l.length + r.length + 1 := by rw [bs_size]; simp; omega
  unfold wire_Reader_Text.f
  rw [hn]
  simp only [Option.bind_some]
  rw [if_neg (by omega), if_pos (by omega), if_pos (by omega), Int.toNat_natCast, ext_bs, ext0_bs]
  rw [show (l ++ 44 :: r).drop l.length = 44 :: r by simp, close_byte]
  rfl
end Go.Proofs.YtemcplbldfldlaaDoor.P
