/- What the door lays: the table of math/bits; how a row's condition gives it to the walks. -/
import Derived.Test.YthpclmkcljmoeaaDoorGTab
import Derived.Test.YthpclmkcljmoeaaDoorWShare
import Derived.Test.YthpclmkcljmoeaaDoorRows
import Derived.Test.YthpclmkcljmoeaaDoorTie
import Derived.ProofKit
import Derived.LaidMore
import Derived.OpenShut
import Derived.Stop.Joined
import Derived.Lib.LaidTab
namespace Go.Proofs.YthpclmkcljmoeaaDoor.P
open Go.ChangeShapes Go.WideShapes Go.ChangeAt Go.RowKit
theorem door_own : ownKnob Tryd.prog.godebug = none := by kernel_rfl
theorem door_laidOut : laidOutB Tryd.prog = true := by kernel_rfl
/-- The door's own heap meets the condition. -/
theorem door_met (os : Os) (args : Array Value) : laidMetH Tryd.prog [("math/bits.deBruijn64tab", Rows.laid_math_bits_deBruijn64tab)] ((World.doorLaid Tryd.prog 14 os).forCall (fun _ _ => 0) ⟨#[], args, []⟩).memory :=
  laidMetH_of_parts3 (fuel := 8) (laidMet_of_run' 8 (by kernel_rfl) (by kernel_rfl)) (by kernel_rfl) (by kernel_rfl)
theorem door_tab {W : World} (h : laidMetH Tryd.prog [("math/bits.deBruijn64tab", Rows.laid_math_bits_deBruijn64tab)] W) : Tab W := by
  rw [MakeChecks.laidMetH_plain _ _ _ (by kernel_rfl)] at h
  have e : (Rows.laid_math_bits_deBruijn64tab : DataW Unit) = Lib.tabData .u8 (Lib.deBruijn64tab.map (fun (x : Nat) => (x : Int))) := rfl
  rw [e] at h
  have ht := Lib.tabIs_of_head (g := 0) (by kernel_rfl) (by kernel_rfl) Tryd.underlying90 (by kernel_rfl) (by kernel_rfl) (by kernel_rfl) h
  intro j hj
  have := ht.cell (g := 0) (by kernel_rfl) j (by simpa using hj)
  show W.cell? ⟨0, j, none⟩ = _
  simpa [List.getD_eq_getElem?_getD, hj] using this
open Go.Proofs.YthpclmkcljmoeaaDoorW.PrintWords in
/-- A row of numbers that is read may be told as shared. -/
theorem F_int {k : IntKind} {W : World} {A : Option Addr} {xs : List Int} (h : (Kd.int k).C W A xs.length xs) : Kd.F (Kd.int k) W (fun _ => True) A xs.length xs := fun W' hW => by
  refine ⟨h.1, h.2.1, fun hp => ?_⟩
  obtain ⟨ad, he, hc⟩ := h.2.2 hp
  refine ⟨ad, he, fun j p hj => ?_⟩
  obtain ⟨c, h1, h2, h3⟩ := hc j p hj
  refine ⟨c, h1, h2, fun i u hu => ?_⟩
  have h4 := h3 i u hu
  have hb := cell_lt_ h4
  rw [← h4]
  unfold World.cell?
  rw [hW _ trivial hb]
end Go.Proofs.YthpclmkcljmoeaaDoor.P
