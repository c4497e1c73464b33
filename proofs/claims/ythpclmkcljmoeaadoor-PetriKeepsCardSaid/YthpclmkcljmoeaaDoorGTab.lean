/- The tables that the translation lays, in their variables; math/bits.TrailingZeros64. -/
import Derived.Test.YthpclmkcljmoeaaDoorGShelf
import Derived.Test.YthpclmkcljmoeaaDoorGBits
import Derived.Test.YthpclmkcljmoeaaDoorPx0
import Derived.KernelRfl
namespace Go.Proofs.YthpclmkcljmoeaaDoor.P
open Go.RowKit Go.Proofs.YthpclmkcljmoeaaDoorW.PrintWords Go.Proofs.YthpclmkcljmoeaaDoorW.PrintLast Go.Proofs.YthpclmkcljmoeaaDoorW.PrintMore
set_option linter.unusedVariables false
set_option linter.unusedSimpArgs false
theorem cell_lt_ {w : World} {a : Addr} {v : Value} (h : w.cell? a = some v) : a.block < w.heap.size := by
  unfold World.cell? at h
  split at h
  · rename_i heq
    exact (Array.getElem?_eq_some_iff.1 heq).1
  · cases h
/-- What is read of the library's tables. -/
def Tab (w : World) : Prop := TabAt (Tryd.laysTz_ren.g 1) Lib.deBruijn64tab w
theorem Tab.below {w w1 : World} (h : Tab w) (hb : Below w.heap.size w w1) : Tab w1 := fun j hj => by
  have h1 := h j hj
  exact (hb.cell (p := ⟨_, j, none⟩) (cell_lt_ h1)).trans h1
def bits_TrailingZeros64.f (a0 : Int) : Option (Int) := if 0 ≤ a0 ∧ a0 < 18446744073709551616 then some (Lib.ctz 64 a0.toNat) else none
theorem bits_TrailingZeros64.calls (a0 : Int) (r : Int) (w : World) (htab : Tab w) (h : bits_TrailingZeros64.f a0 = some r) :
    Calls Tryd.prog 51 #[.int .u64 a0] w fun e w' => e = .returned (.int .i64 r) ∧ Drawn0 w w' := by
  unfold bits_TrailingZeros64.f at h
  by_cases hg : 0 ≤ a0 ∧ a0 < 18446744073709551616
  · rw [if_pos hg] at h
    obtain rfl := Option.some.inj h
    obtain ⟨n, rfl⟩ : ∃ n : Nat, a0 = (n : Int) := ⟨a0.toNat, by omega⟩
    have := Any7.bits_TrailingZeros64 Tryd.laysTz n (by omega) w (fun _ => htab)
    exact this.mono fun e w' ⟨he, hw⟩ => ⟨by rw [he]; simp, ⟨0, by rw [hw]; rfl⟩⟩
  · rw [if_neg hg] at h; cases h
end Go.Proofs.YthpclmkcljmoeaaDoor.P
