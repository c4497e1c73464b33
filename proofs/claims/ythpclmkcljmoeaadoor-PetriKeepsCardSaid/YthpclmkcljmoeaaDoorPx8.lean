-- BY A PROGRAM OF A SESSION (gprint.py), out of the translation: Lean checks it.
import Derived.Test.YthpclmkcljmoeaaDoorPx0
import Derived.Test.YthpclmkcljmoeaaDoorPx4
import Derived.Test.YthpclmkcljmoeaaDoorPx5
import Derived.Test.YthpclmkcljmoeaaDoorPx7
import Derived.Test.YthpclmkcljmoeaaDoorGShort
namespace Go.Proofs.YthpclmkcljmoeaaDoor.P
open Go.RowKit Go.Proofs.YthpclmkcljmoeaaDoorW.PrintWords Go.Proofs.YthpclmkcljmoeaaDoorW.PrintLast Go.Proofs.YthpclmkcljmoeaaDoorW.PrintMore
attribute [local go_sem] max2_int min2_int max_two min_two max_three min_three max_four min_four   -- for this text's walks alone
set_option linter.unusedVariables false
set_option linter.unusedSimpArgs false

/-! ### taquinlaw18_PetriKeeps: function 4 -/
mutual
def taquinlaw18_PetriKeeps.j0 : Nat → List Int → Int → List Int → Bool → Bool → Int → List (S29) → Option (Bool)
 | 0, _, _, _, _, _, _, _ => none
 | k + 1, x1, x2, x3, x9, x32, x250000, x250001 => if x32 = true then (some x9) else ((taquinlaw18_pick.f k x2 x250000).bind fun t252 => ((petri_Largest.f k x250000 x250001 t252 false).bind fun t255 => ((taquinlaw18_pick.f k x2 x250000).bind fun t258 => ((petri_Largest.f k x250000 x250001 t258 true).bind fun t261 => (taquinlaw18_PetriKeeps.l0 k x1 x3 x9 t255 t261 0 x250000 x250001)))))
def taquinlaw18_PetriKeeps.j7 : Nat → Bool → List Int → List Int → Int → List (S29) → Option (Bool)
 | 0, _, _, _, _, _ => none
 | k + 1, x9, x10, x11, x250000, x250001 => if x9 = true then (if (x10.length : Int) = 0 then (if (x11.length : Int) = 0 then (some true) else ((petri_IsTrap.f k x250000 x250001 x11).bind fun t277 => (some t277))) else ((petri_IsSiphon.f k x250000 x250001 x10).bind fun t278 => (if t278 = true then (if (x11.length : Int) = 0 then (some true) else ((petri_IsTrap.f k x250000 x250001 x11).bind fun t279 => (some t279))) else (some false)))) else (some false)
def taquinlaw18_PetriKeeps.l0 : Nat → List Int → List Int → Bool → List Int → List Int → Int → Int → List (S29) → Option (Bool)
 | 0, _, _, _, _, _, _, _, _ => none
 | k + 1, x1, x3, x9, x10, x11, x12, x250000, x250001 => if x12 ≤ (x3.length : Int) then (taquinlaw18_PetriKeeps.l1 k x1 x3 x9 x10 x11 x12 true 0 x250000 x250001) else (taquinlaw18_PetriKeeps.j7 k x9 x10 x11 x250000 x250001)
def taquinlaw18_PetriKeeps.l1 : Nat → List Int → List Int → Bool → List Int → List Int → Int → Bool → Int → Int → List (S29) → Option (Bool)
 | 0, _, _, _, _, _, _, _, _, _, _ => none
 | k + 1, x1, x3, x9, x10, x11, x12, x13, x14, x250000, x250001 => if x14 < (x10.length : Int) then (if x13 = true then (if 0 ≤ x14 then (if 0 ≤ (rd x10 x14) then (if (rd x10 x14) < (x1.length : Int) then (taquinlaw18_PetriKeeps.l1 k x1 x3 x9 x10 x11 x12 ((rd x1 (rd x10 x14)) == 0) (wrap64 (x14 + 1)) x250000 x250001) else (none)) else (none)) else (none)) else (taquinlaw18_PetriKeeps.l1 k x1 x3 x9 x10 x11 x12 false (wrap64 (x14 + 1)) x250000 x250001)) else (taquinlaw18_PetriKeeps.l2 k x1 x3 x9 x10 x11 x12 x13 false 0 x250000 x250001)
def taquinlaw18_PetriKeeps.l2 : Nat → List Int → List Int → Bool → List Int → List Int → Int → Bool → Bool → Int → Int → List (S29) → Option (Bool)
 | 0, _, _, _, _, _, _, _, _, _, _, _ => none
 | k + 1, x1, x3, x9, x10, x11, x12, x13, x15, x16, x250000, x250001 => if x16 < (x11.length : Int) then (if x15 = true then (taquinlaw18_PetriKeeps.l2 k x1 x3 x9 x10 x11 x12 x13 true (wrap64 (x16 + 1)) x250000 x250001) else (if 0 ≤ x16 then (if 0 ≤ (rd x11 x16) then (if (rd x11 x16) < (x1.length : Int) then (taquinlaw18_PetriKeeps.l2 k x1 x3 x9 x10 x11 x12 x13 (decide ((rd x1 (rd x11 x16)) > 0)) (wrap64 (x16 + 1)) x250000 x250001) else (none)) else (none)) else (none))) else (if x12 = (x3.length : Int) then (taquinlaw18_PetriKeeps.j7 k x9 x10 x11 x250000 x250001) else (if 0 ≤ x12 then (if x12 < (x3.length : Int) then ((petri_Fire.f k x250000 x250001 x1 (rd x3 x12)).bind fun bt269 => (if bt269.2 = 0 then (if (bt269.1.length : Int) = x250000 then (taquinlaw18_PetriKeeps.l3 k x3 x9 x10 x11 x12 x13 x15 bt269.1 true 0 x250000 x250001) else (some false)) else (taquinlaw18_PetriKeeps.l0 k x1 x3 x9 x10 x11 (wrap64 (x12 + 1)) x250000 x250001))) else (none)) else (none)))
def taquinlaw18_PetriKeeps.l3 : Nat → List Int → Bool → List Int → List Int → Int → Bool → Bool → List Int → Bool → Int → Int → List (S29) → Option (Bool)
 | 0, _, _, _, _, _, _, _, _, _, _, _, _ => none
 | k + 1, x3, x9, x10, x11, x12, x13, x15, x17, x19, x20, x250000, x250001 => if x20 < (x10.length : Int) then (if x19 = true then (if 0 ≤ x20 then (if 0 ≤ (rd x10 x20) then (if (rd x10 x20) < (x17.length : Int) then (taquinlaw18_PetriKeeps.l3 k x3 x9 x10 x11 x12 x13 x15 x17 ((rd x17 (rd x10 x20)) == 0) (wrap64 (x20 + 1)) x250000 x250001) else (none)) else (none)) else (none)) else (taquinlaw18_PetriKeeps.l3 k x3 x9 x10 x11 x12 x13 x15 x17 false (wrap64 (x20 + 1)) x250000 x250001)) else (taquinlaw18_PetriKeeps.l4 k x3 x9 x10 x11 x12 x13 x15 x17 x19 false 0 x250000 x250001)
def taquinlaw18_PetriKeeps.l4 : Nat → List Int → Bool → List Int → List Int → Int → Bool → Bool → List Int → Bool → Bool → Int → Int → List (S29) → Option (Bool)
 | 0, _, _, _, _, _, _, _, _, _, _, _, _, _ => none
 | k + 1, x3, x9, x10, x11, x12, x13, x15, x17, x19, x21, x22, x250000, x250001 => if x22 < (x11.length : Int) then (if x21 = true then (taquinlaw18_PetriKeeps.l4 k x3 x9 x10 x11 x12 x13 x15 x17 x19 true (wrap64 (x22 + 1)) x250000 x250001) else (if 0 ≤ x22 then (if 0 ≤ (rd x11 x22) then (if (rd x11 x22) < (x17.length : Int) then (taquinlaw18_PetriKeeps.l4 k x3 x9 x10 x11 x12 x13 x15 x17 x19 (decide ((rd x17 (rd x11 x22)) > 0)) (wrap64 (x22 + 1)) x250000 x250001) else (none)) else (none)) else (none))) else (if x13 = true then (if x19 = true then (if x15 = true then (taquinlaw18_PetriKeeps.j6 k x3 x9 x10 x11 x12 x17 (!x21) x250000 x250001) else (taquinlaw18_PetriKeeps.j6 k x3 x9 x10 x11 x12 x17 false x250000 x250001)) else (taquinlaw18_PetriKeeps.j6 k x3 x9 x10 x11 x12 x17 true x250000 x250001)) else (if x15 = true then (taquinlaw18_PetriKeeps.j6 k x3 x9 x10 x11 x12 x17 (!x21) x250000 x250001) else (taquinlaw18_PetriKeeps.j6 k x3 x9 x10 x11 x12 x17 false x250000 x250001)))
def taquinlaw18_PetriKeeps.j6 : Nat → List Int → Bool → List Int → List Int → Int → List Int → Bool → Int → List (S29) → Option (Bool)
 | 0, _, _, _, _, _, _, _, _, _ => none
 | k + 1, x3, x9, x10, x11, x12, x17, x152, x250000, x250001 => if x152 = true then (some false) else (taquinlaw18_PetriKeeps.l0 k x17 x3 x9 x10 x11 (wrap64 (x12 + 1)) x250000 x250001)
end
def taquinlaw18_PetriKeeps.f (k : Nat) (a0_0 : Int) (l0_1 : List (S29)) (l1 : List Int) (a2 : Int) (l3 : List Int) : Option (Bool) := (taquinlaw18_small.f k).bind fun t250 => ((taquinlaw18_fits.f k a0_0 l0_1 l1 10 20).bind fun t251 => (if t251 = true then (taquinlaw18_PetriKeeps.j0 k l1 a2 l3 t250 (decide ((l3.length : Int) > 60)) a0_0 l0_1) else (taquinlaw18_PetriKeeps.j0 k l1 a2 l3 t250 true a0_0 l0_1)))
theorem taquinlaw18_PetriKeeps.mono_l : ∀ k, (∀ y0 y1 y2 y3 y4 y5 y6, LeO (taquinlaw18_PetriKeeps.j0 k y0 y1 y2 y3 y4 y5 y6) (taquinlaw18_PetriKeeps.j0 (k + 1) y0 y1 y2 y3 y4 y5 y6)) ∧ (∀ y0 y1 y2 y3 y4, LeO (taquinlaw18_PetriKeeps.j7 k y0 y1 y2 y3 y4) (taquinlaw18_PetriKeeps.j7 (k + 1) y0 y1 y2 y3 y4)) ∧ (∀ y0 y1 y2 y3 y4 y5 y6 y7, LeO (taquinlaw18_PetriKeeps.l0 k y0 y1 y2 y3 y4 y5 y6 y7) (taquinlaw18_PetriKeeps.l0 (k + 1) y0 y1 y2 y3 y4 y5 y6 y7)) ∧ (∀ y0 y1 y2 y3 y4 y5 y6 y7 y8 y9, LeO (taquinlaw18_PetriKeeps.l1 k y0 y1 y2 y3 y4 y5 y6 y7 y8 y9) (taquinlaw18_PetriKeeps.l1 (k + 1) y0 y1 y2 y3 y4 y5 y6 y7 y8 y9)) ∧ (∀ y0 y1 y2 y3 y4 y5 y6 y7 y8 y9 y10, LeO (taquinlaw18_PetriKeeps.l2 k y0 y1 y2 y3 y4 y5 y6 y7 y8 y9 y10) (taquinlaw18_PetriKeeps.l2 (k + 1) y0 y1 y2 y3 y4 y5 y6 y7 y8 y9 y10)) ∧ (∀ y0 y1 y2 y3 y4 y5 y6 y7 y8 y9 y10 y11, LeO (taquinlaw18_PetriKeeps.l3 k y0 y1 y2 y3 y4 y5 y6 y7 y8 y9 y10 y11) (taquinlaw18_PetriKeeps.l3 (k + 1) y0 y1 y2 y3 y4 y5 y6 y7 y8 y9 y10 y11)) ∧ (∀ y0 y1 y2 y3 y4 y5 y6 y7 y8 y9 y10 y11 y12, LeO (taquinlaw18_PetriKeeps.l4 k y0 y1 y2 y3 y4 y5 y6 y7 y8 y9 y10 y11 y12) (taquinlaw18_PetriKeeps.l4 (k + 1) y0 y1 y2 y3 y4 y5 y6 y7 y8 y9 y10 y11 y12)) ∧ (∀ y0 y1 y2 y3 y4 y5 y6 y7 y8, LeO (taquinlaw18_PetriKeeps.j6 k y0 y1 y2 y3 y4 y5 y6 y7 y8) (taquinlaw18_PetriKeeps.j6 (k + 1) y0 y1 y2 y3 y4 y5 y6 y7 y8))
 | 0 => ⟨fun _ _ _ _ _ _ _ r h => by simp [taquinlaw18_PetriKeeps.j0] at h, fun _ _ _ _ _ r h => by simp [taquinlaw18_PetriKeeps.j7] at h, fun _ _ _ _ _ _ _ _ r h => by simp [taquinlaw18_PetriKeeps.l0] at h, fun _ _ _ _ _ _ _ _ _ _ r h => by simp [taquinlaw18_PetriKeeps.l1] at h, fun _ _ _ _ _ _ _ _ _ _ _ r h => by simp [taquinlaw18_PetriKeeps.l2] at h, fun _ _ _ _ _ _ _ _ _ _ _ _ r h => by simp [taquinlaw18_PetriKeeps.l3] at h, fun _ _ _ _ _ _ _ _ _ _ _ _ _ r h => by simp [taquinlaw18_PetriKeeps.l4] at h, fun _ _ _ _ _ _ _ _ _ r h => by simp [taquinlaw18_PetriKeeps.j6] at h⟩
 | k + 1 => by
  obtain ⟨ih0, ih1, ih2, ih3, ih4, ih5, ih6, ih7⟩ := taquinlaw18_PetriKeeps.mono_l k; refine ⟨?_, ?_, ?_, ?_, ?_, ?_, ?_, ?_⟩
  ·intro y0 y1 y2 y3 y4 y5 y6; unfold taquinlaw18_PetriKeeps.j0
   repeat' first
   | (with_reducible exact ih0 _ _ _ _ _ _ _)
   | (with_reducible exact ih1 _ _ _ _ _)
   | (with_reducible exact ih2 _ _ _ _ _ _ _ _)
   | (with_reducible exact ih3 _ _ _ _ _ _ _ _ _ _)
   | (with_reducible exact ih4 _ _ _ _ _ _ _ _ _ _ _)
   | (with_reducible exact ih5 _ _ _ _ _ _ _ _ _ _ _ _)
   | (with_reducible exact ih6 _ _ _ _ _ _ _ _ _ _ _ _ _)
   | (with_reducible exact ih7 _ _ _ _ _ _ _ _ _)
   | (with_reducible exact petri_Fire.mono _ _ _ _ _)
   | (with_reducible exact petri_IsSiphon.mono _ _ _ _)
   | (with_reducible exact petri_IsTrap.mono _ _ _ _)
   | (with_reducible exact petri_Largest.mono _ _ _ _ _)
   | (with_reducible exact taquinlaw18_fits.mono _ _ _ _ _ _)
   | (with_reducible exact taquinlaw18_pick.mono _ _ _)
   | (with_reducible exact taquinlaw18_small.mono _)
   | (with_reducible exact LeO.refl _)
   | (with_reducible exact LeO.none _)
   | (with_reducible refine LeO.ite ?_ ?_)
   | (with_reducible refine LeO.bind ?_ (fun _ => ?_))
   | exact ih0 _ _ _ _ _ _ _
   | exact ih1 _ _ _ _ _
   | exact ih2 _ _ _ _ _ _ _ _
   | exact ih3 _ _ _ _ _ _ _ _ _ _
   | exact ih4 _ _ _ _ _ _ _ _ _ _ _
   | exact ih5 _ _ _ _ _ _ _ _ _ _ _ _
   | exact ih6 _ _ _ _ _ _ _ _ _ _ _ _ _
   | exact ih7 _ _ _ _ _ _ _ _ _
   | exact petri_Fire.mono _ _ _ _ _
   | exact petri_IsSiphon.mono _ _ _ _
   | exact petri_IsTrap.mono _ _ _ _
   | exact petri_Largest.mono _ _ _ _ _
   | exact taquinlaw18_fits.mono _ _ _ _ _ _
   | exact taquinlaw18_pick.mono _ _ _
   | exact taquinlaw18_small.mono _
   | exact LeO.none _
   | refine LeO.ite ?_ ?_
   | refine LeO.bind ?_ (fun _ => ?_)
  ·intro y0 y1 y2 y3 y4; unfold taquinlaw18_PetriKeeps.j7
   repeat' first
   | (with_reducible exact ih0 _ _ _ _ _ _ _)
   | (with_reducible exact ih1 _ _ _ _ _)
   | (with_reducible exact ih2 _ _ _ _ _ _ _ _)
   | (with_reducible exact ih3 _ _ _ _ _ _ _ _ _ _)
   | (with_reducible exact ih4 _ _ _ _ _ _ _ _ _ _ _)
   | (with_reducible exact ih5 _ _ _ _ _ _ _ _ _ _ _ _)
   | (with_reducible exact ih6 _ _ _ _ _ _ _ _ _ _ _ _ _)
   | (with_reducible exact ih7 _ _ _ _ _ _ _ _ _)
   | (with_reducible exact petri_Fire.mono _ _ _ _ _)
   | (with_reducible exact petri_IsSiphon.mono _ _ _ _)
   | (with_reducible exact petri_IsTrap.mono _ _ _ _)
   | (with_reducible exact petri_Largest.mono _ _ _ _ _)
   | (with_reducible exact taquinlaw18_fits.mono _ _ _ _ _ _)
   | (with_reducible exact taquinlaw18_pick.mono _ _ _)
   | (with_reducible exact taquinlaw18_small.mono _)
   | (with_reducible exact LeO.refl _)
   | (with_reducible exact LeO.none _)
   | (with_reducible refine LeO.ite ?_ ?_)
   | (with_reducible refine LeO.bind ?_ (fun _ => ?_))
   | exact ih0 _ _ _ _ _ _ _
   | exact ih1 _ _ _ _ _
   | exact ih2 _ _ _ _ _ _ _ _
   | exact ih3 _ _ _ _ _ _ _ _ _ _
   | exact ih4 _ _ _ _ _ _ _ _ _ _ _
   | exact ih5 _ _ _ _ _ _ _ _ _ _ _ _
   | exact ih6 _ _ _ _ _ _ _ _ _ _ _ _ _
   | exact ih7 _ _ _ _ _ _ _ _ _
   | exact petri_Fire.mono _ _ _ _ _
   | exact petri_IsSiphon.mono _ _ _ _
   | exact petri_IsTrap.mono _ _ _ _
   | exact petri_Largest.mono _ _ _ _ _
   | exact taquinlaw18_fits.mono _ _ _ _ _ _
   | exact taquinlaw18_pick.mono _ _ _
   | exact taquinlaw18_small.mono _
   | exact LeO.none _
   | refine LeO.ite ?_ ?_
   | refine LeO.bind ?_ (fun _ => ?_)
  ·intro y0 y1 y2 y3 y4 y5 y6 y7; unfold taquinlaw18_PetriKeeps.l0
   repeat' first
   | (with_reducible exact ih0 _ _ _ _ _ _ _)
   | (with_reducible exact ih1 _ _ _ _ _)
   | (with_reducible exact ih2 _ _ _ _ _ _ _ _)
   | (with_reducible exact ih3 _ _ _ _ _ _ _ _ _ _)
   | (with_reducible exact ih4 _ _ _ _ _ _ _ _ _ _ _)
   | (with_reducible exact ih5 _ _ _ _ _ _ _ _ _ _ _ _)
   | (with_reducible exact ih6 _ _ _ _ _ _ _ _ _ _ _ _ _)
   | (with_reducible exact ih7 _ _ _ _ _ _ _ _ _)
   | (with_reducible exact petri_Fire.mono _ _ _ _ _)
   | (with_reducible exact petri_IsSiphon.mono _ _ _ _)
   | (with_reducible exact petri_IsTrap.mono _ _ _ _)
   | (with_reducible exact petri_Largest.mono _ _ _ _ _)
   | (with_reducible exact taquinlaw18_fits.mono _ _ _ _ _ _)
   | (with_reducible exact taquinlaw18_pick.mono _ _ _)
   | (with_reducible exact taquinlaw18_small.mono _)
   | (with_reducible exact LeO.refl _)
   | (with_reducible exact LeO.none _)
   | (with_reducible refine LeO.ite ?_ ?_)
   | (with_reducible refine LeO.bind ?_ (fun _ => ?_))
   | exact ih0 _ _ _ _ _ _ _
   | exact ih1 _ _ _ _ _
   | exact ih2 _ _ _ _ _ _ _ _
   | exact ih3 _ _ _ _ _ _ _ _ _ _
   | exact ih4 _ _ _ _ _ _ _ _ _ _ _
   | exact ih5 _ _ _ _ _ _ _ _ _ _ _ _
   | exact ih6 _ _ _ _ _ _ _ _ _ _ _ _ _
   | exact ih7 _ _ _ _ _ _ _ _ _
   | exact petri_Fire.mono _ _ _ _ _
   | exact petri_IsSiphon.mono _ _ _ _
   | exact petri_IsTrap.mono _ _ _ _
   | exact petri_Largest.mono _ _ _ _ _
   | exact taquinlaw18_fits.mono _ _ _ _ _ _
   | exact taquinlaw18_pick.mono _ _ _
   | exact taquinlaw18_small.mono _
   | exact LeO.none _
   | refine LeO.ite ?_ ?_
   | refine LeO.bind ?_ (fun _ => ?_)
  ·intro y0 y1 y2 y3 y4 y5 y6 y7 y8 y9; unfold taquinlaw18_PetriKeeps.l1
   repeat' first
   | (with_reducible exact ih0 _ _ _ _ _ _ _)
   | (with_reducible exact ih1 _ _ _ _ _)
   | (with_reducible exact ih2 _ _ _ _ _ _ _ _)
   | (with_reducible exact ih3 _ _ _ _ _ _ _ _ _ _)
   | (with_reducible exact ih4 _ _ _ _ _ _ _ _ _ _ _)
   | (with_reducible exact ih5 _ _ _ _ _ _ _ _ _ _ _ _)
   | (with_reducible exact ih6 _ _ _ _ _ _ _ _ _ _ _ _ _)
   | (with_reducible exact ih7 _ _ _ _ _ _ _ _ _)
   | (with_reducible exact petri_Fire.mono _ _ _ _ _)
   | (with_reducible exact petri_IsSiphon.mono _ _ _ _)
   | (with_reducible exact petri_IsTrap.mono _ _ _ _)
   | (with_reducible exact petri_Largest.mono _ _ _ _ _)
   | (with_reducible exact taquinlaw18_fits.mono _ _ _ _ _ _)
   | (with_reducible exact taquinlaw18_pick.mono _ _ _)
   | (with_reducible exact taquinlaw18_small.mono _)
   | (with_reducible exact LeO.refl _)
   | (with_reducible exact LeO.none _)
   | (with_reducible refine LeO.ite ?_ ?_)
   | (with_reducible refine LeO.bind ?_ (fun _ => ?_))
   | exact ih0 _ _ _ _ _ _ _
   | exact ih1 _ _ _ _ _
   | exact ih2 _ _ _ _ _ _ _ _
   | exact ih3 _ _ _ _ _ _ _ _ _ _
   | exact ih4 _ _ _ _ _ _ _ _ _ _ _
   | exact ih5 _ _ _ _ _ _ _ _ _ _ _ _
   | exact ih6 _ _ _ _ _ _ _ _ _ _ _ _ _
   | exact ih7 _ _ _ _ _ _ _ _ _
   | exact petri_Fire.mono _ _ _ _ _
   | exact petri_IsSiphon.mono _ _ _ _
   | exact petri_IsTrap.mono _ _ _ _
   | exact petri_Largest.mono _ _ _ _ _
   | exact taquinlaw18_fits.mono _ _ _ _ _ _
   | exact taquinlaw18_pick.mono _ _ _
   | exact taquinlaw18_small.mono _
   | exact LeO.none _
   | refine LeO.ite ?_ ?_
   | refine LeO.bind ?_ (fun _ => ?_)
  ·intro y0 y1 y2 y3 y4 y5 y6 y7 y8 y9 y10; unfold taquinlaw18_PetriKeeps.l2
   repeat' first
   | (with_reducible exact ih0 _ _ _ _ _ _ _)
   | (with_reducible exact ih1 _ _ _ _ _)
   | (with_reducible exact ih2 _ _ _ _ _ _ _ _)
   | (with_reducible exact ih3 _ _ _ _ _ _ _ _ _ _)
   | (with_reducible exact ih4 _ _ _ _ _ _ _ _ _ _ _)
   | (with_reducible exact ih5 _ _ _ _ _ _ _ _ _ _ _ _)
   | (with_reducible exact ih6 _ _ _ _ _ _ _ _ _ _ _ _ _)
   | (with_reducible exact ih7 _ _ _ _ _ _ _ _ _)
   | (with_reducible exact petri_Fire.mono _ _ _ _ _)
   | (with_reducible exact petri_IsSiphon.mono _ _ _ _)
   | (with_reducible exact petri_IsTrap.mono _ _ _ _)
   | (with_reducible exact petri_Largest.mono _ _ _ _ _)
   | (with_reducible exact taquinlaw18_fits.mono _ _ _ _ _ _)
   | (with_reducible exact taquinlaw18_pick.mono _ _ _)
   | (with_reducible exact taquinlaw18_small.mono _)
   | (with_reducible exact LeO.refl _)
   | (with_reducible exact LeO.none _)
   | (with_reducible refine LeO.ite ?_ ?_)
   | (with_reducible refine LeO.bind ?_ (fun _ => ?_))
   | exact ih0 _ _ _ _ _ _ _
   | exact ih1 _ _ _ _ _
   | exact ih2 _ _ _ _ _ _ _ _
   | exact ih3 _ _ _ _ _ _ _ _ _ _
   | exact ih4 _ _ _ _ _ _ _ _ _ _ _
   | exact ih5 _ _ _ _ _ _ _ _ _ _ _ _
   | exact ih6 _ _ _ _ _ _ _ _ _ _ _ _ _
   | exact ih7 _ _ _ _ _ _ _ _ _
   | exact petri_Fire.mono _ _ _ _ _
   | exact petri_IsSiphon.mono _ _ _ _
   | exact petri_IsTrap.mono _ _ _ _
   | exact petri_Largest.mono _ _ _ _ _
   | exact taquinlaw18_fits.mono _ _ _ _ _ _
   | exact taquinlaw18_pick.mono _ _ _
   | exact taquinlaw18_small.mono _
   | exact LeO.none _
   | refine LeO.ite ?_ ?_
   | refine LeO.bind ?_ (fun _ => ?_)
  ·intro y0 y1 y2 y3 y4 y5 y6 y7 y8 y9 y10 y11; unfold taquinlaw18_PetriKeeps.l3
   repeat' first
   | (with_reducible exact ih0 _ _ _ _ _ _ _)
   | (with_reducible exact ih1 _ _ _ _ _)
   | (with_reducible exact ih2 _ _ _ _ _ _ _ _)
   | (with_reducible exact ih3 _ _ _ _ _ _ _ _ _ _)
   | (with_reducible exact ih4 _ _ _ _ _ _ _ _ _ _ _)
   | (with_reducible exact ih5 _ _ _ _ _ _ _ _ _ _ _ _)
   | (with_reducible exact ih6 _ _ _ _ _ _ _ _ _ _ _ _ _)
   | (with_reducible exact ih7 _ _ _ _ _ _ _ _ _)
   | (with_reducible exact petri_Fire.mono _ _ _ _ _)
   | (with_reducible exact petri_IsSiphon.mono _ _ _ _)
   | (with_reducible exact petri_IsTrap.mono _ _ _ _)
   | (with_reducible exact petri_Largest.mono _ _ _ _ _)
   | (with_reducible exact taquinlaw18_fits.mono _ _ _ _ _ _)
   | (with_reducible exact taquinlaw18_pick.mono _ _ _)
   | (with_reducible exact taquinlaw18_small.mono _)
   | (with_reducible exact LeO.refl _)
   | (with_reducible exact LeO.none _)
   | (with_reducible refine LeO.ite ?_ ?_)
   | (with_reducible refine LeO.bind ?_ (fun _ => ?_))
   | exact ih0 _ _ _ _ _ _ _
   | exact ih1 _ _ _ _ _
   | exact ih2 _ _ _ _ _ _ _ _
   | exact ih3 _ _ _ _ _ _ _ _ _ _
   | exact ih4 _ _ _ _ _ _ _ _ _ _ _
   | exact ih5 _ _ _ _ _ _ _ _ _ _ _ _
   | exact ih6 _ _ _ _ _ _ _ _ _ _ _ _ _
   | exact ih7 _ _ _ _ _ _ _ _ _
   | exact petri_Fire.mono _ _ _ _ _
   | exact petri_IsSiphon.mono _ _ _ _
   | exact petri_IsTrap.mono _ _ _ _
   | exact petri_Largest.mono _ _ _ _ _
   | exact taquinlaw18_fits.mono _ _ _ _ _ _
   | exact taquinlaw18_pick.mono _ _ _
   | exact taquinlaw18_small.mono _
   | exact LeO.none _
   | refine LeO.ite ?_ ?_
   | refine LeO.bind ?_ (fun _ => ?_)
  ·intro y0 y1 y2 y3 y4 y5 y6 y7 y8 y9 y10 y11 y12; unfold taquinlaw18_PetriKeeps.l4
   repeat' first
   | (with_reducible exact ih0 _ _ _ _ _ _ _)
   | (with_reducible exact ih1 _ _ _ _ _)
   | (with_reducible exact ih2 _ _ _ _ _ _ _ _)
   | (with_reducible exact ih3 _ _ _ _ _ _ _ _ _ _)
   | (with_reducible exact ih4 _ _ _ _ _ _ _ _ _ _ _)
   | (with_reducible exact ih5 _ _ _ _ _ _ _ _ _ _ _ _)
   | (with_reducible exact ih6 _ _ _ _ _ _ _ _ _ _ _ _ _)
   | (with_reducible exact ih7 _ _ _ _ _ _ _ _ _)
   | (with_reducible exact petri_Fire.mono _ _ _ _ _)
   | (with_reducible exact petri_IsSiphon.mono _ _ _ _)
   | (with_reducible exact petri_IsTrap.mono _ _ _ _)
   | (with_reducible exact petri_Largest.mono _ _ _ _ _)
   | (with_reducible exact taquinlaw18_fits.mono _ _ _ _ _ _)
   | (with_reducible exact taquinlaw18_pick.mono _ _ _)
   | (with_reducible exact taquinlaw18_small.mono _)
   | (with_reducible exact LeO.refl _)
   | (with_reducible exact LeO.none _)
   | (with_reducible refine LeO.ite ?_ ?_)
   | (with_reducible refine LeO.bind ?_ (fun _ => ?_))
   | exact ih0 _ _ _ _ _ _ _
   | exact ih1 _ _ _ _ _
   | exact ih2 _ _ _ _ _ _ _ _
   | exact ih3 _ _ _ _ _ _ _ _ _ _
   | exact ih4 _ _ _ _ _ _ _ _ _ _ _
   | exact ih5 _ _ _ _ _ _ _ _ _ _ _ _
   | exact ih6 _ _ _ _ _ _ _ _ _ _ _ _ _
   | exact ih7 _ _ _ _ _ _ _ _ _
   | exact petri_Fire.mono _ _ _ _ _
   | exact petri_IsSiphon.mono _ _ _ _
   | exact petri_IsTrap.mono _ _ _ _
   | exact petri_Largest.mono _ _ _ _ _
   | exact taquinlaw18_fits.mono _ _ _ _ _ _
   | exact taquinlaw18_pick.mono _ _ _
   | exact taquinlaw18_small.mono _
   | exact LeO.none _
   | refine LeO.ite ?_ ?_
   | refine LeO.bind ?_ (fun _ => ?_)
  ·intro y0 y1 y2 y3 y4 y5 y6 y7 y8; unfold taquinlaw18_PetriKeeps.j6
   repeat' first
   | (with_reducible exact ih0 _ _ _ _ _ _ _)
   | (with_reducible exact ih1 _ _ _ _ _)
   | (with_reducible exact ih2 _ _ _ _ _ _ _ _)
   | (with_reducible exact ih3 _ _ _ _ _ _ _ _ _ _)
   | (with_reducible exact ih4 _ _ _ _ _ _ _ _ _ _ _)
   | (with_reducible exact ih5 _ _ _ _ _ _ _ _ _ _ _ _)
   | (with_reducible exact ih6 _ _ _ _ _ _ _ _ _ _ _ _ _)
   | (with_reducible exact ih7 _ _ _ _ _ _ _ _ _)
   | (with_reducible exact petri_Fire.mono _ _ _ _ _)
   | (with_reducible exact petri_IsSiphon.mono _ _ _ _)
   | (with_reducible exact petri_IsTrap.mono _ _ _ _)
   | (with_reducible exact petri_Largest.mono _ _ _ _ _)
   | (with_reducible exact taquinlaw18_fits.mono _ _ _ _ _ _)
   | (with_reducible exact taquinlaw18_pick.mono _ _ _)
   | (with_reducible exact taquinlaw18_small.mono _)
   | (with_reducible exact LeO.refl _)
   | (with_reducible exact LeO.none _)
   | (with_reducible refine LeO.ite ?_ ?_)
   | (with_reducible refine LeO.bind ?_ (fun _ => ?_))
   | exact ih0 _ _ _ _ _ _ _
   | exact ih1 _ _ _ _ _
   | exact ih2 _ _ _ _ _ _ _ _
   | exact ih3 _ _ _ _ _ _ _ _ _ _
   | exact ih4 _ _ _ _ _ _ _ _ _ _ _
   | exact ih5 _ _ _ _ _ _ _ _ _ _ _ _
   | exact ih6 _ _ _ _ _ _ _ _ _ _ _ _ _
   | exact ih7 _ _ _ _ _ _ _ _ _
   | exact petri_Fire.mono _ _ _ _ _
   | exact petri_IsSiphon.mono _ _ _ _
   | exact petri_IsTrap.mono _ _ _ _
   | exact petri_Largest.mono _ _ _ _ _
   | exact taquinlaw18_fits.mono _ _ _ _ _ _
   | exact taquinlaw18_pick.mono _ _ _
   | exact taquinlaw18_small.mono _
   | exact LeO.none _
   | refine LeO.ite ?_ ?_
   | refine LeO.bind ?_ (fun _ => ?_)
theorem taquinlaw18_PetriKeeps.mono : ∀ a0 a1 a2 a3 a4 k, LeO (taquinlaw18_PetriKeeps.f k a0 a1 a2 a3 a4) (taquinlaw18_PetriKeeps.f (k + 1) a0 a1 a2 a3 a4) := by
 intro a0 a1 a2 a3 a4 k; obtain ⟨ih0, ih1, ih2, ih3, ih4, ih5, ih6, ih7⟩ := taquinlaw18_PetriKeeps.mono_l k; unfold taquinlaw18_PetriKeeps.f
 repeat' first
   | (with_reducible exact ih0 _ _ _ _ _ _ _)
   | (with_reducible exact ih1 _ _ _ _ _)
   | (with_reducible exact ih2 _ _ _ _ _ _ _ _)
   | (with_reducible exact ih3 _ _ _ _ _ _ _ _ _ _)
   | (with_reducible exact ih4 _ _ _ _ _ _ _ _ _ _ _)
   | (with_reducible exact ih5 _ _ _ _ _ _ _ _ _ _ _ _)
   | (with_reducible exact ih6 _ _ _ _ _ _ _ _ _ _ _ _ _)
   | (with_reducible exact ih7 _ _ _ _ _ _ _ _ _)
   | (with_reducible exact petri_Fire.mono _ _ _ _ _)
   | (with_reducible exact petri_IsSiphon.mono _ _ _ _)
   | (with_reducible exact petri_IsTrap.mono _ _ _ _)
   | (with_reducible exact petri_Largest.mono _ _ _ _ _)
   | (with_reducible exact taquinlaw18_fits.mono _ _ _ _ _ _)
   | (with_reducible exact taquinlaw18_pick.mono _ _ _)
   | (with_reducible exact taquinlaw18_small.mono _)
   | (with_reducible exact LeO.refl _)
   | (with_reducible exact LeO.none _)
   | (with_reducible refine LeO.ite ?_ ?_)
   | (with_reducible refine LeO.bind ?_ (fun _ => ?_))
   | exact ih0 _ _ _ _ _ _ _
   | exact ih1 _ _ _ _ _
   | exact ih2 _ _ _ _ _ _ _ _
   | exact ih3 _ _ _ _ _ _ _ _ _ _
   | exact ih4 _ _ _ _ _ _ _ _ _ _ _
   | exact ih5 _ _ _ _ _ _ _ _ _ _ _ _
   | exact ih6 _ _ _ _ _ _ _ _ _ _ _ _ _
   | exact ih7 _ _ _ _ _ _ _ _ _
   | exact petri_Fire.mono _ _ _ _ _
   | exact petri_IsSiphon.mono _ _ _ _
   | exact petri_IsTrap.mono _ _ _ _
   | exact petri_Largest.mono _ _ _ _ _
   | exact taquinlaw18_fits.mono _ _ _ _ _ _
   | exact taquinlaw18_pick.mono _ _ _
   | exact taquinlaw18_small.mono _
   | exact LeO.none _
   | refine LeO.ite ?_ ?_
   | refine LeO.bind ?_ (fun _ => ?_)
def taquinlaw18_PetriKeeps.T20 : Bool × List (List Nat × List Nat) := (true, [([], []), ([], []), ([], []), ([], []), ([2, 3], [2, 3]), ([4], [4]), ([0, 1, 5], [0, 1, 5]), ([6], [6]), ([7], [7]), ([7], [7]), ([8, 6, 0, 1, 2, 3, 4, 5, 6, 7, 8], [8]), ([9, 10, 0, 1, 2, 3, 4, 5, 6, 7, 8, 9, 10], [9])])
def taquinlaw18_PetriKeeps.B20 : List Nat := [0, 0, 0, 0, 12, 28, 63, 127, 255, 255, 511, 2047]
theorem taquinlaw18_PetriKeeps.tab20 : rtab .any (opsOf Tryd.f4 20) = taquinlaw18_PetriKeeps.T20 := by kernel_rfl
theorem taquinlaw18_PetriKeeps.bits20 : waitsOk taquinlaw18_PetriKeeps.T20.2 taquinlaw18_PetriKeeps.B20 = true := by kernel_rfl
set_option maxHeartbeats 8000000 in
set_option maxRecDepth 100000 in
theorem taquinlaw18_PetriKeeps.calls (k : Nat) (a0_0 : Int) (A0_1 : Option Addr) (c0_1 : Nat) (l0_1 : List (S29)) (P1_ : Nat → Prop) (A1 : Option Addr) (c1 : Nat) (l1 : List Int) (a2 : Int) (A3 : Option Addr) (c3 : Nat) (l3 : List Int) (r : Bool) (w : World) (htab : Tab w) (hr0_1 : Kd.C k29 w A0_1 l0_1.length l0_1) (hc0_1 : l0_1.length ≤ c0_1) (hs1 : Kd.V (Kd.int .i64) 3 w w.heap.size (fun k_ => P1_ k_) (.slice A1 l1.length c1) l1) (hr3 : Kd.C (Kd.int .i64) w A3 l3.length l3) (hc3 : l3.length ≤ c3) (h : taquinlaw18_PetriKeeps.f k a0_0 l0_1 l1 a2 l3 = some r) :
  Calls Tryd.prog 4 #[.agg #[.int .i64 a0_0, .slice A0_1 l0_1.length c0_1], .slice A1 l1.length c1, .int .i64 a2, .slice A3 l3.length c3] w fun e w' => e = .returned (.bool r) ∧ Below w.heap.size w w' := by
 have HTAB := Aside0.mk htab; clear htab; have hu24 := Tryd.underlying24; have HR0_1 := Aside0.mk hr0_1; have HC0_1 := Aside0.mk hc0_1; clear hr0_1 hc0_1; have HO1 := Aside0.mk (show Kd.V (Kd.int .i64) 3 w w.heap.size (fun k_ => (P1_ k_ ∨ w.heap.size ≤ k_)) (.slice A1 l1.length c1) l1 from Kd.V_mono hs1 (fun k_ hk => .inl hk)); have HR3 := Aside0.mk hr3; have HC3 := Aside0.mk hc3; clear hr3 hc3; have HB := Aside0.mk (Below.refl w.heap.size w); have H : ((taquinlaw18_small.f k).bind fun t250 => ((taquinlaw18_fits.f k a0_0 l0_1 l1 10 20).bind fun t251 => (if t251 = true then (taquinlaw18_PetriKeeps.j0 k l1 a2 l3 t250 (decide ((l3.length : Int) > 60)) a0_0 l0_1) else (taquinlaw18_PetriKeeps.j0 k l1 a2 l3 t250 true a0_0 l0_1)))) = some r := h; clear h; replace H := Option.bind_eq_some_iff.mp H; obtain ⟨t250, A50, H⟩ := H; replace H : ((taquinlaw18_fits.f k a0_0 l0_1 l1 10 20).bind fun t251 => (if t251 = true then (taquinlaw18_PetriKeeps.j0 k l1 a2 l3 t250 (decide ((l3.length : Int) > 60)) a0_0 l0_1) else (taquinlaw18_PetriKeeps.j0 k l1 a2 l3 t250 true a0_0 l0_1))) = some r := H; have A5 := Aside0.mk A50; clear A50; have HC6 := Aside0.mk H; clear H
 go_enter Tryd.func4, Tryd.ntmps4
 go_upto_region 2 with (first | ((with_reducible refine gate_dst (N := 4) rfl ?_); (try (refine gate_guard (by rfl) ?_; dsimp only)); refine box_event ?hg (N := 4) ?hd (cs := #[.int .i64 a0_0, .slice A0_1 l0_1.length c0_1]) (t := 24) ?hr ?_; (case hd => rfl); (case hg => rfl); (case hr => first | (go_simp; done) | (go_simp; rfl)); intro gb249 hg w7 hbox hb; have n0_ := Aside0.mk (Kd.V_below (Kd.V_elderB (by (with_reducible repeat (first | apply Kd.V_alloc | apply Kd.V_drewN | apply Kd.V_drew)); exact HO1.out) gb249 (Nat.le_of_eq hg.symm)) hb); have n1_ := Aside0.mk (below_step (by repeat (first | (with_reducible first | exact HB.out | apply below_alloc | apply pw_below_drewN | apply below_drew1) | exact HB.out)) hb); have n2_ := Aside0.mk (hbox); have n3_ := Aside0.mk ((by rw [hg]; exact (below_size (by repeat (first | (with_reducible first | exact HB.out | apply below_alloc | apply pw_below_drewN | apply below_drew1) | exact HB.out))) : w.heap.size ≤ gb249)); have n4_ := Aside0.mk ((by rw [hg]; exact (below_size (by repeat (first | (with_reducible first | exact HB.out | apply below_alloc | apply pw_below_drewN | apply below_drew1) | exact HB.out))) : w.heap.size ≤ gb249)); clear HO1; clear HB; have HO1 := n0_; have HB := n1_; have BK249 := n2_; have GW249 := n3_; have GE249 := n4_; clear n0_ n1_ n2_ n3_ n4_; clear hb hbox hg) | ((with_reducible refine gate_callee (f := 8) rfl ?_); refine goesL_ (some 23) rfl rfl Tryd.func8 (by kernel_rfl) rfl #[] rfl (by (try simp only [List.map_toArray, List.map_cons, List.map_nil]); first | done | rfl | (simp only [List.length_drop, List.length_take]; rfl)) ?_; (with_reducible refine (taquinlaw18_small.calls k  t250 _ ?sideT A5.out).mono ?_); (case sideT => first | exact HTAB.out.below (by repeat (first | (with_reducible first | exact HB.out | apply below_alloc | apply pw_below_drewN | apply below_drew1 | refine below_set ?_ GE249.out) | exact HB.out)) | exact HTAB.out); rintro e w8 ⟨rfl, hb⟩; refine ⟨_, rfl, ?_⟩; have n0_ := Aside0.mk (Kd.V_below (by (with_reducible repeat (first | apply Kd.V_alloc | apply Kd.V_drewN | apply Kd.V_drew)); exact HO1.out) hb); have n1_ := Aside0.mk (blk_below (g := gb249) (o := .cells #[.int .i64 a0_0, .slice A0_1 l0_1.length c0_1] 24 (0, 0)) (by (with_reducible repeat (first | refine blk_drewN ?_ _ | refine blk_drew ?_ | refine blk_alloc ?_ _)); exact BK249.out) hb); have n2_ := Aside0.mk (below_step (by repeat (first | (with_reducible first | exact HB.out | apply below_alloc | apply pw_below_drewN | apply below_drew1 | refine below_set ?_ GE249.out) | exact HB.out)) hb); clear HO1; clear BK249; clear HB; have HO1 := n0_; have BK249 := n1_; have HB := n2_; clear n0_ n1_ n2_; (try clear hb); (try clear hb2); (try clear hk); (try clear hi)))
 (try simp only [Act.put, List.setIfInBounds_toArray, List.set_cons_zero, List.set_cons_succ])
 go_cut [32] (fun v32 wc => ∃ (kq : Nat) (x32_5 : Bool), v32 = .bool x32_5 ∧ Aside0 (taquinlaw18_PetriKeeps.j0 kq l1 a2 l3 t250 x32_5 a0_0 l0_1 = some r) ∧ Aside0 (kq ≤ k) ∧ Aside0 (Kd.V (Kd.int .i64) 3 wc w.heap.size (fun k_ => (P1_ k_ ∨ w.heap.size ≤ k_) ∧ k_ ≠ gb249) (.slice A1 l1.length c1) l1) ∧ Aside0 (wc.heap[gb249]? = some (.cells #[.int .i64 a0_0, (.slice A0_1 l0_1.length c0_1)] 24 (0, 0))) ∧ Aside0 (Below w.heap.size w wc))
 case first => as_aux_lemma =>
  have H := HC6.out; clear HC6; replace H := Option.bind_eq_some_iff.mp H; obtain ⟨t251, A90, H⟩ := H; replace H : (if t251 = true then (taquinlaw18_PetriKeeps.j0 k l1 a2 l3 t250 (decide ((l3.length : Int) > 60)) a0_0 l0_1) else (taquinlaw18_PetriKeeps.j0 k l1 a2 l3 t250 true a0_0 l0_1)) = some r := H; have A9 := Aside0.mk A90; clear A90
  by_cases c10 : t251 = true
  ·subst c10; have H1 : (taquinlaw18_PetriKeeps.j0 k l1 a2 l3 t250 (decide ((l3.length : Int) > 60)) a0_0 l0_1) = some r := by rw [if_pos rfl] at H; exact H
   clear H; have H := H1; clear H1; have H' := Aside0.mk H; clear H; have hcz11_0 : w8.cell? ⟨gb249, 0, none⟩ = some (.int .i64 a0_0) := (blk_cell BK249.out 0).trans rfl; have hcz11_1 : w8.cell? ⟨gb249, 1, none⟩ = some (.slice A0_1 l0_1.length c0_1) := (blk_cell BK249.out 1).trans rfl; have hfz11_0 := blk_frozen BK249.out 0; have hfz11_1 := blk_frozen BK249.out 1
   go_wp2_with (first | ((with_reducible refine gate_callee (f := 9) rfl ?_); refine goesL_ (some 26) rfl rfl Tryd.func9 (by kernel_rfl) rfl #[.agg #[.int .i64 a0_0, .slice A0_1 l0_1.length c0_1], .slice A1 l1.length c1, .int .i64 10, .int .i64 20] rfl (by (try simp only [List.map_toArray, List.map_cons, List.map_nil]); first | done | rfl | (simp only [List.length_drop, List.length_take]; rfl)) ?_; (with_reducible refine (taquinlaw18_fits.calls k a0_0 _ _ l0_1 _ _ l1 10 20 true _ ?side1 ?side2 ?side3 ?side4 A9.out).mono ?_); (case side1 => repeat (first | exact (Kd.C_below HR0_1.out HB.out) | (with_reducible refine Kd.C_alloc ?_ _) | (with_reducible refine Kd.C_drewN ?_ _) | (with_reducible refine Kd.C_drew ?_))); (case side2 => exact HC0_1.out); (case side3 => repeat (first | exact (Kd.V_reads' HO1.out).2.2 | (with_reducible refine Kd.C_alloc ?_ _) | (with_reducible refine Kd.C_drewN ?_ _) | (with_reducible refine Kd.C_drew ?_))); (case side4 => exact (Kd.V_reads' HO1.out).2.1); rintro e w12 ⟨rfl, hb⟩; refine ⟨_, rfl, ?_⟩; have n0_ := Aside0.mk (Kd.V_below (by (with_reducible repeat (first | apply Kd.V_alloc | apply Kd.V_drewN | apply Kd.V_drew)); exact HO1.out) hb); have n1_ := Aside0.mk (blk_below (g := gb249) (o := .cells #[.int .i64 a0_0, .slice A0_1 l0_1.length c0_1] 24 (0, 0)) (by (with_reducible repeat (first | refine blk_drewN ?_ _ | refine blk_drew ?_ | refine blk_alloc ?_ _)); exact BK249.out) hb); have n2_ := Aside0.mk (below_step (by repeat (first | (with_reducible first | exact HB.out | apply below_alloc | apply pw_below_drewN | apply below_drew1 | refine below_set ?_ GE249.out) | exact HB.out)) hb); clear HO1; clear BK249; clear HB; have HO1 := n0_; have BK249 := n1_; have HB := n2_; clear n0_ n1_ n2_; (try clear hb); (try clear hb2); (try clear hk); (try clear hi)))
   go_meet
   case rel => exact ⟨_, (decide ((l3.length : Int) > 60)), (by first | rfl | (simp; done) | (simp [*]; done)), H', ⟨by first | omega | exact Nat.le_refl _⟩, ⟨by (with_reducible repeat (first | apply Kd.V_alloc | apply Kd.V_drewN | apply Kd.V_drew)); exact HO1.out⟩, ⟨by (with_reducible repeat (first | refine blk_drewN ?_ _ | refine blk_drew ?_ | refine blk_alloc ?_ _)); exact BK249.out⟩, ⟨by repeat (first | (with_reducible first | exact HB.out | apply below_alloc | apply pw_below_drewN | apply below_drew1 | refine below_set ?_ GE249.out) | exact HB.out)⟩⟩
  ·replace c10 := Bool.eq_false_iff.mpr c10; subst c10; have H1 : (taquinlaw18_PetriKeeps.j0 k l1 a2 l3 t250 true a0_0 l0_1) = some r := by rw [if_neg (show ¬ (false = true) by decide)] at H; exact H
   clear H; have H := H1; clear H1; have H' := Aside0.mk H; clear H; have hcz13_0 : w8.cell? ⟨gb249, 0, none⟩ = some (.int .i64 a0_0) := (blk_cell BK249.out 0).trans rfl; have hcz13_1 : w8.cell? ⟨gb249, 1, none⟩ = some (.slice A0_1 l0_1.length c0_1) := (blk_cell BK249.out 1).trans rfl; have hfz13_0 := blk_frozen BK249.out 0; have hfz13_1 := blk_frozen BK249.out 1
   go_wp2_with (first | ((with_reducible refine gate_callee (f := 9) rfl ?_); refine goesL_ (some 26) rfl rfl Tryd.func9 (by kernel_rfl) rfl #[.agg #[.int .i64 a0_0, .slice A0_1 l0_1.length c0_1], .slice A1 l1.length c1, .int .i64 10, .int .i64 20] rfl (by (try simp only [List.map_toArray, List.map_cons, List.map_nil]); first | done | rfl | (simp only [List.length_drop, List.length_take]; rfl)) ?_; (with_reducible refine (taquinlaw18_fits.calls k a0_0 _ _ l0_1 _ _ l1 10 20 false _ ?side1 ?side2 ?side3 ?side4 A9.out).mono ?_); (case side1 => repeat (first | exact (Kd.C_below HR0_1.out HB.out) | (with_reducible refine Kd.C_alloc ?_ _) | (with_reducible refine Kd.C_drewN ?_ _) | (with_reducible refine Kd.C_drew ?_))); (case side2 => exact HC0_1.out); (case side3 => repeat (first | exact (Kd.V_reads' HO1.out).2.2 | (with_reducible refine Kd.C_alloc ?_ _) | (with_reducible refine Kd.C_drewN ?_ _) | (with_reducible refine Kd.C_drew ?_))); (case side4 => exact (Kd.V_reads' HO1.out).2.1); rintro e w14 ⟨rfl, hb⟩; refine ⟨_, rfl, ?_⟩; have n0_ := Aside0.mk (Kd.V_below (by (with_reducible repeat (first | apply Kd.V_alloc | apply Kd.V_drewN | apply Kd.V_drew)); exact HO1.out) hb); have n1_ := Aside0.mk (blk_below (g := gb249) (o := .cells #[.int .i64 a0_0, .slice A0_1 l0_1.length c0_1] 24 (0, 0)) (by (with_reducible repeat (first | refine blk_drewN ?_ _ | refine blk_drew ?_ | refine blk_alloc ?_ _)); exact BK249.out) hb); have n2_ := Aside0.mk (below_step (by repeat (first | (with_reducible first | exact HB.out | apply below_alloc | apply pw_below_drewN | apply below_drew1 | refine below_set ?_ GE249.out) | exact HB.out)) hb); clear HO1; clear BK249; clear HB; have HO1 := n0_; have BK249 := n1_; have HB := n2_; clear n0_ n1_ n2_; (try clear hb); (try clear hb2); (try clear hk); (try clear hi)))
   go_meet
   case rel => exact ⟨_, (true), (by first | rfl | (simp; done) | (simp [*]; done)), H', ⟨by first | omega | exact Nat.le_refl _⟩, ⟨by (with_reducible repeat (first | apply Kd.V_alloc | apply Kd.V_drewN | apply Kd.V_drew)); exact HO1.out⟩, ⟨by (with_reducible repeat (first | refine blk_drewN ?_ _ | refine blk_drew ?_ | refine blk_alloc ?_ _)); exact BK249.out⟩, ⟨by repeat (first | (with_reducible first | exact HB.out | apply below_alloc | apply pw_below_drewN | apply below_drew1 | refine below_set ?_ GE249.out) | exact HB.out)⟩⟩
 case rest =>
  clear HC6; (try clear c1); (try clear p2); (try clear c3); (try clear c4); (try clear c8); (try clear c9); (try clear c10); (try clear hcz11_0); (try clear hcz11_1); (try clear hcz13_0); (try clear hcz13_1); (try clear hfz11_0); (try clear hfz11_1); (try clear hfz13_0); (try clear hfz13_1); obtain ⟨kq, x32_5, rfl, HA, HJ5, HO_1, BK249, HB⟩ := hcut
  cases kq with
  | zero => exact absurd HA.out (by simp [taquinlaw18_PetriKeeps.j0])
  | succ kj5 =>
   have H := HA.out; clear HA; simp only [taquinlaw18_PetriKeeps.j0] at H
   by_cases c15 : x32_5 = true
   ·subst c15; have H1 : (some t250) = some r := by rw [if_pos rfl] at H; exact H
    clear H; have H := H1; clear H1; obtain rfl := Option.some.inj H; go_wp2; go_ret; exact ⟨by first | rfl | (simp [errW_none, errW_some] <;> rfl) | (simp [*, errW_none, errW_some] <;> rfl), by repeat (first | (with_reducible first | exact HB.out | apply below_alloc | apply pw_below_drewN | apply below_drew1 | refine below_set ?_ GE249.out) | exact HB.out)⟩
   ·replace c15 := Bool.eq_false_iff.mpr c15; subst c15; have H1 : ((taquinlaw18_pick.f kj5 a2 a0_0).bind fun t252 => ((petri_Largest.f kj5 a0_0 l0_1 t252 false).bind fun t255 => ((taquinlaw18_pick.f kj5 a2 a0_0).bind fun t258 => ((petri_Largest.f kj5 a0_0 l0_1 t258 true).bind fun t261 => (taquinlaw18_PetriKeeps.l0 kj5 l1 l3 t250 t255 t261 0 a0_0 l0_1))))) = some r := by rw [if_neg (show ¬ (false = true) by decide)] at H; exact H
    clear H; have H := H1; clear H1; replace H := Option.bind_eq_some_iff.mp H; obtain ⟨t252, A160, H⟩ := H; replace H : ((petri_Largest.f kj5 a0_0 l0_1 t252 false).bind fun t255 => ((taquinlaw18_pick.f kj5 a2 a0_0).bind fun t258 => ((petri_Largest.f kj5 a0_0 l0_1 t258 true).bind fun t261 => (taquinlaw18_PetriKeeps.l0 kj5 l1 l3 t250 t255 t261 0 a0_0 l0_1)))) = some r := H; have A16 := Aside0.mk A160; clear A160; replace H := Option.bind_eq_some_iff.mp H; obtain ⟨t255, A170, H⟩ := H; replace H : ((taquinlaw18_pick.f kj5 a2 a0_0).bind fun t258 => ((petri_Largest.f kj5 a0_0 l0_1 t258 true).bind fun t261 => (taquinlaw18_PetriKeeps.l0 kj5 l1 l3 t250 t255 t261 0 a0_0 l0_1))) = some r := H; have A17 := Aside0.mk A170; clear A170; replace H := Option.bind_eq_some_iff.mp H; obtain ⟨t258, A180, H⟩ := H; replace H : ((petri_Largest.f kj5 a0_0 l0_1 t258 true).bind fun t261 => (taquinlaw18_PetriKeeps.l0 kj5 l1 l3 t250 t255 t261 0 a0_0 l0_1)) = some r := H; have A18 := Aside0.mk A180; clear A180; replace H := Option.bind_eq_some_iff.mp H; obtain ⟨t261, A190, H⟩ := H; replace H : (taquinlaw18_PetriKeeps.l0 kj5 l1 l3 t250 t255 t261 0 a0_0 l0_1) = some r := H; have A19 := Aside0.mk A190; clear A190; have HC20 := Aside0.mk H; clear H; (try go_wp2); have n0_ := Aside0.mk (Kd.V_drew HO_1.out); have n1_ := Aside0.mk (blk_drew BK249.out); have n2_ := Aside0.mk (below_drew1 HB.out); clear HO_1; clear BK249; clear HB; have HO_1 := n0_; have BK249 := n1_; have HB := n2_; clear n0_ n1_ n2_; refine start_ (n := 7) (S := fun w' => w'.cell? ⟨gb249, 0, none⟩ = some (.int .i64 a0_0) ∧ w'.cell? ⟨gb249, 1, none⟩ = some (.slice A0_1 l0_1.length c0_1)) (ds := []) #[false, false, false, false, false, false, false] (by kernel_rfl) rfl rfl ⟨(blk_cell BK249.out 0).trans rfl, (blk_cell BK249.out 1).trans rfl⟩ (fun hHeld => ?_); generalize wc.drew = w21 at HO_1 BK249 HB hHeld ⊢; refine pure_ (i := 1) (N := some 35) (v := ?_) (a' := ?_) #[false, true, false, false, false, false, false] rfl rfl (by kernel_rfl) (fun _ _ _ h => h) (Or.inl ⟨by rfl, ?_⟩) ?_ ?_
    rotate_left
    ·intro w'; go_simp; with_reducible rfl
    rotate_left
    ·simp only [Act.put, List.setIfInBounds_toArray, List.set_cons_zero, List.set_cons_succ, i64_w, i32_w]; rfl
    refine pure_ (i := 2) (N := some 36) (v := ?_) (a' := ?_) #[false, true, true, false, false, false, false] rfl rfl (by kernel_rfl) (fun _ _ _ h => h) (Or.inl ⟨by rfl, ?_⟩) ?_ ?_; rotate_left
    ·intro w'; go_simp; with_reducible rfl
    rotate_left
    ·simp only [Act.put, List.setIfInBounds_toArray, List.set_cons_zero, List.set_cons_succ, i64_w, i32_w]; rfl
    refine take_ (i := 0) (N := some 34) (v := ?_) (a' := ?_) #[true, true, true, false, false, false, false] rfl rfl (by kernel_rfl) (fun _ _ _ h => h) (Or.inl ⟨by rfl, ?_⟩) hHeld ?_ ?_; rotate_left
    ·rintro w' ⟨s0, s1⟩; go_simp; with_reducible rfl
    rotate_left
    ·simp only [Act.put, List.setIfInBounds_toArray, List.set_cons_zero, List.set_cons_succ, i64_w, i32_w]; rfl
    refine take_ (i := 3) (N := some 37) (v := ?_) (a' := ?_) #[true, true, true, true, false, false, false] rfl rfl (by kernel_rfl) (fun _ _ _ h => h) (Or.inl ⟨by rfl, ?_⟩) hHeld ?_ ?_; rotate_left
    ·rintro w' ⟨s0, s1⟩; go_simp; with_reducible rfl
    rotate_left
    ·simp only [Act.put, List.setIfInBounds_toArray, List.set_cons_zero, List.set_cons_succ, i64_w, i32_w]; rfl
    refine one_ (i := 4) (N := some 38) #[true, true, true, true, true, false, false] rfl rfl (by kernel_rfl) (by decide) (fun K hK => ?_); refine goes_ Tryd.func14 (by kernel_rfl) rfl #[.int .i64 a2, .int .i64 a0_0] (by rfl) rfl rfl (by (try simp only [List.map_toArray, List.map_cons, List.map_nil]); first | done | rfl | (simp only [List.length_drop, List.length_take]; rfl)) ?_; with_reducible refine (taquinlaw18_pick.calls kj5 a2 a0_0 t252 _ A16.out).mono ?_; rintro e w22 ⟨v253, rfl, ho0, hb⟩; refine ⟨_, rfl, ?_⟩; have n0_ := Aside0.mk (Kd.V_elder' (by (with_reducible repeat (first | apply Kd.V_alloc | apply Kd.V_drewN | apply Kd.V_drew)); exact HO_1.out) (Kd.R_base ho0) hb); have n1_ := Aside0.mk (Kd.R_lower (Kd.R_newM (M := fun k_ => (w.heap.size ≤ k_)) ho0 (below_size (by repeat (first | (with_reducible first | exact HB.out | apply below_alloc | apply pw_below_drewN | apply below_drew1 | refine below_set ?_ GE249.out) | exact HB.out))) (fun k_ h_ => h_)) (below_size (by repeat (first | (with_reducible first | exact HB.out | apply below_alloc | apply pw_below_drewN | apply below_drew1 | refine below_set ?_ GE249.out) | exact HB.out)))); have n2_ := Aside0.mk (blk_below (g := gb249) (o := .cells #[.int .i64 a0_0, .slice A0_1 l0_1.length c0_1] 24 (0, 0)) (by (with_reducible repeat (first | refine blk_drewN ?_ _ | refine blk_drew ?_ | refine blk_alloc ?_ _)); exact BK249.out) hb); have n3_ := Aside0.mk (below_step (by repeat (first | (with_reducible first | exact HB.out | apply below_alloc | apply pw_below_drewN | apply below_drew1 | refine below_set ?_ GE249.out) | exact HB.out)) hb); clear HO_1; clear BK249; clear HB; have HO_1 := n0_; have HO254 := n1_; have BK249 := n2_; have HB := n3_; clear n0_ n1_ n2_ n3_
    (try clear hb)
    (try clear hb2)
    (try clear hk)
    (try clear hi)
    (try clear ho0)
    obtain ⟨Ao23, co23, eo23⟩ := Kd.R_slice HO254.out
    (first | subst eo23 | (injection eo23 with f1_ f2_ f3_; have f4_ := f1_.symm; have f5_ := f3_.symm; clear f1_ f2_ f3_; subst f4_; subst f5_))
    refine hK.out _ _ ⟨(blk_cell BK249.out 0).trans rfl, (blk_cell BK249.out 1).trans rfl⟩ (fun hHeld => ?_); clear hK K; refine norm_ (a' := ?_) ?_ ?_; rotate_left
    ·show Act.put _ (some 38) _ = _; simp only [Act.put, List.setIfInBounds_toArray, List.set_cons_zero, List.set_cons_succ, i64_w, i32_w]; rfl
    refine one_ (i := 5) (N := some 39) #[true, true, true, true, true, true, false] rfl rfl (by kernel_rfl) (by decide) (fun K hK => ?_); refine goes_ Tryd.func13 (by kernel_rfl) rfl #[.agg #[.int .i64 a0_0, .slice A0_1 l0_1.length c0_1], .slice Ao23 t252.length co23, .bool false] (by rfl) rfl rfl (by (try simp only [List.map_toArray, List.map_cons, List.map_nil]); first | done | rfl | (simp only [List.length_drop, List.length_take]; rfl)) ?_; with_reducible refine (petri_Largest.calls kj5 a0_0 _ _ l0_1 _ _ t252 false t255 _ ?sideT ?side1 ?side2 ?side3 ?side4 A17.out).mono ?_
    (case sideT => first | exact HTAB.out.below (by repeat (first | (with_reducible first | exact HB.out | apply below_alloc | apply pw_below_drewN | apply below_drew1 | refine below_set ?_ GE249.out) | exact HB.out)) | exact HTAB.out)
    (case side1 => repeat (first | exact (Kd.C_below HR0_1.out HB.out) | (with_reducible refine Kd.C_alloc ?_ _) | (with_reducible refine Kd.C_drewN ?_ _) | (with_reducible refine Kd.C_drew ?_)))
    (case side2 => exact HC0_1.out)
    (case side3 => repeat (first | exact (Kd.R_reads' HO254.out).2.2 | (with_reducible refine Kd.C_alloc ?_ _) | (with_reducible refine Kd.C_drewN ?_ _) | (with_reducible refine Kd.C_drew ?_)))
    (case side4 => exact (Kd.R_reads' HO254.out).2.1)
    rintro e w24 ⟨v256, rfl, ho0, hb⟩; refine ⟨_, rfl, ?_⟩; have n0_ := Aside0.mk (Kd.V_elder' (by (with_reducible repeat (first | apply Kd.V_alloc | apply Kd.V_drewN | apply Kd.V_drew)); exact HO_1.out) (Kd.R_base ho0) hb); have n1_ := Aside0.mk (Kd.R_elder' (by (with_reducible repeat (first | apply Kd.R_alloc | apply Kd.R_drewN | apply Kd.R_drew)); exact HO254.out) (Kd.R_base ho0) hb); have n2_ := Aside0.mk (Kd.R_lower (Kd.R_new' (Kd.R_newM (M := fun k_ => (w.heap.size ≤ k_)) ho0 (below_size (by repeat (first | (with_reducible first | exact HB.out | apply below_alloc | apply pw_below_drewN | apply below_drew1 | refine below_set ?_ GE249.out) | exact HB.out))) (fun k_ h_ => h_)) (Kd.R_lt (by (with_reducible repeat (first | apply Kd.R_alloc | apply Kd.R_drewN | apply Kd.R_drew)); exact HO254.out))) (below_size (by repeat (first | (with_reducible first | exact HB.out | apply below_alloc | apply pw_below_drewN | apply below_drew1 | refine below_set ?_ GE249.out) | exact HB.out)))); have n3_ := Aside0.mk (blk_below (g := gb249) (o := .cells #[.int .i64 a0_0, .slice A0_1 l0_1.length c0_1] 24 (0, 0)) (by (with_reducible repeat (first | refine blk_drewN ?_ _ | refine blk_drew ?_ | refine blk_alloc ?_ _)); exact BK249.out) hb); have n4_ := Aside0.mk (below_step (by repeat (first | (with_reducible first | exact HB.out | apply below_alloc | apply pw_below_drewN | apply below_drew1 | refine below_set ?_ GE249.out) | exact HB.out)) hb); clear HO_1; clear HO254; clear BK249; clear HB; have HO_1 := n0_; have HO254 := n1_; have HO257 := n2_; have BK249 := n3_; have HB := n4_; clear n0_ n1_ n2_ n3_ n4_
    (try clear hb)
    (try clear hb2)
    (try clear hk)
    (try clear hi)
    (try clear ho0)
    refine hK.out _ _ ⟨(blk_cell BK249.out 0).trans rfl, (blk_cell BK249.out 1).trans rfl⟩ (fun hHeld => ?_); clear hK K; refine norm_ (a' := ?_) ?_ ?_; rotate_left
    ·show Act.put _ (some 39) _ = _; simp only [Act.put, List.setIfInBounds_toArray, List.set_cons_zero, List.set_cons_succ, i64_w, i32_w]; rfl
    refine pure_ (i := 6) (N := some 10) (v := ?_) (a' := ?_) #[true, true, true, true, true, true, true] rfl rfl (by kernel_rfl) (fun _ _ _ h => h) (Or.inl ⟨by rfl, ?_⟩) ?_ ?_; rotate_left
    ·intro w'; go_simp; with_reducible rfl
    rotate_left
    ·simp only [Act.put, List.setIfInBounds_toArray, List.set_cons_zero, List.set_cons_succ, i64_w, i32_w]; rfl
    refine done_ (by kernel_rfl) ?_; (try go_wp2); have n0_ := Aside0.mk (Kd.V_drew HO_1.out); have n1_ := Aside0.mk (Kd.R_drew HO254.out); have n2_ := Aside0.mk (Kd.R_drew HO257.out); have n3_ := Aside0.mk (blk_drew BK249.out); have n4_ := Aside0.mk (below_drew1 HB.out); clear HO_1; clear HO254; clear HO257; clear BK249; clear HB; have HO_1 := n0_; have HO254 := n1_; have HO257 := n2_; have BK249 := n3_; have HB := n4_; clear n0_ n1_ n2_ n3_ n4_; refine start_ (n := 7) (S := fun w' => w'.cell? ⟨gb249, 0, none⟩ = some (.int .i64 a0_0) ∧ w'.cell? ⟨gb249, 1, none⟩ = some (.slice A0_1 l0_1.length c0_1)) (ds := []) #[false, false, false, false, false, false, false] (by kernel_rfl) rfl rfl ⟨(blk_cell BK249.out 0).trans rfl, (blk_cell BK249.out 1).trans rfl⟩ (fun hHeld => ?_); generalize w24.drew = w25 at HO_1 HO254 HO257 BK249 HB hHeld ⊢; refine pure_ (i := 1) (N := some 41) (v := ?_) (a' := ?_) #[false, true, false, false, false, false, false] rfl rfl (by kernel_rfl) (fun _ _ _ h => h) (Or.inl ⟨by rfl, ?_⟩) ?_ ?_; rotate_left
    ·intro w'; go_simp; with_reducible rfl
    rotate_left
    ·simp only [Act.put, List.setIfInBounds_toArray, List.set_cons_zero, List.set_cons_succ, i64_w, i32_w]; rfl
    refine pure_ (i := 2) (N := some 42) (v := ?_) (a' := ?_) #[false, true, true, false, false, false, false] rfl rfl (by kernel_rfl) (fun _ _ _ h => h) (Or.inl ⟨by rfl, ?_⟩) ?_ ?_; rotate_left
    ·intro w'; go_simp; with_reducible rfl
    rotate_left
    ·simp only [Act.put, List.setIfInBounds_toArray, List.set_cons_zero, List.set_cons_succ, i64_w, i32_w]; rfl
    refine take_ (i := 0) (N := some 40) (v := ?_) (a' := ?_) #[true, true, true, false, false, false, false] rfl rfl (by kernel_rfl) (fun _ _ _ h => h) (Or.inl ⟨by rfl, ?_⟩) hHeld ?_ ?_; rotate_left
    ·rintro w' ⟨s0, s1⟩; go_simp; with_reducible rfl
    rotate_left
    ·simp only [Act.put, List.setIfInBounds_toArray, List.set_cons_zero, List.set_cons_succ, i64_w, i32_w]; rfl
    refine take_ (i := 3) (N := some 43) (v := ?_) (a' := ?_) #[true, true, true, true, false, false, false] rfl rfl (by kernel_rfl) (fun _ _ _ h => h) (Or.inl ⟨by rfl, ?_⟩) hHeld ?_ ?_; rotate_left
    ·rintro w' ⟨s0, s1⟩; go_simp; with_reducible rfl
    rotate_left
    ·simp only [Act.put, List.setIfInBounds_toArray, List.set_cons_zero, List.set_cons_succ, i64_w, i32_w]; rfl
    refine one_ (i := 4) (N := some 44) #[true, true, true, true, true, false, false] rfl rfl (by kernel_rfl) (by decide) (fun K hK => ?_); refine goes_ Tryd.func14 (by kernel_rfl) rfl #[.int .i64 a2, .int .i64 a0_0] (by rfl) rfl rfl (by (try simp only [List.map_toArray, List.map_cons, List.map_nil]); first | done | rfl | (simp only [List.length_drop, List.length_take]; rfl)) ?_; with_reducible refine (taquinlaw18_pick.calls kj5 a2 a0_0 t258 _ A18.out).mono ?_; rintro e w26 ⟨v259, rfl, ho0, hb⟩; refine ⟨_, rfl, ?_⟩; have n0_ := Aside0.mk (Kd.V_elder' (by (with_reducible repeat (first | apply Kd.V_alloc | apply Kd.V_drewN | apply Kd.V_drew)); exact HO_1.out) (Kd.R_base ho0) hb); have n1_ := Aside0.mk (Kd.R_elder' (by (with_reducible repeat (first | apply Kd.R_alloc | apply Kd.R_drewN | apply Kd.R_drew)); exact HO254.out) (Kd.R_base ho0) hb); have n2_ := Aside0.mk (Kd.R_elder' (by (with_reducible repeat (first | apply Kd.R_alloc | apply Kd.R_drewN | apply Kd.R_drew)); exact HO257.out) (Kd.R_base ho0) hb); have n3_ := Aside0.mk (Kd.R_lower (Kd.R_new' (Kd.R_new' (Kd.R_newM (M := fun k_ => (w.heap.size ≤ k_)) ho0 (below_size (by repeat (first | (with_reducible first | exact HB.out | apply below_alloc | apply pw_below_drewN | apply below_drew1 | refine below_set ?_ GE249.out) | exact HB.out))) (fun k_ h_ => h_)) (Kd.R_lt (by (with_reducible repeat (first | apply Kd.R_alloc | apply Kd.R_drewN | apply Kd.R_drew)); exact HO254.out))) (Kd.R_lt (by (with_reducible repeat (first | apply Kd.R_alloc | apply Kd.R_drewN | apply Kd.R_drew)); exact HO257.out))) (below_size (by repeat (first | (with_reducible first | exact HB.out | apply below_alloc | apply pw_below_drewN | apply below_drew1 | refine below_set ?_ GE249.out) | exact HB.out)))); have n4_ := Aside0.mk (blk_below (g := gb249) (o := .cells #[.int .i64 a0_0, .slice A0_1 l0_1.length c0_1] 24 (0, 0)) (by (with_reducible repeat (first | refine blk_drewN ?_ _ | refine blk_drew ?_ | refine blk_alloc ?_ _)); exact BK249.out) hb); have n5_ := Aside0.mk (below_step (by repeat (first | (with_reducible first | exact HB.out | apply below_alloc | apply pw_below_drewN | apply below_drew1 | refine below_set ?_ GE249.out) | exact HB.out)) hb)
    clear HO_1; clear HO254; clear HO257; clear BK249; clear HB; have HO_1 := n0_; have HO254 := n1_; have HO257 := n2_; have HO260 := n3_; have BK249 := n4_; have HB := n5_; clear n0_ n1_ n2_ n3_ n4_ n5_
    (try clear hb)
    (try clear hb2)
    (try clear hk)
    (try clear hi)
    (try clear ho0)
    obtain ⟨Ao27, co27, eo27⟩ := Kd.R_slice HO260.out
    (first | subst eo27 | (injection eo27 with f1_ f2_ f3_; have f4_ := f1_.symm; have f5_ := f3_.symm; clear f1_ f2_ f3_; subst f4_; subst f5_))
    refine hK.out _ _ ⟨(blk_cell BK249.out 0).trans rfl, (blk_cell BK249.out 1).trans rfl⟩ (fun hHeld => ?_); clear hK K; refine norm_ (a' := ?_) ?_ ?_; rotate_left
    ·show Act.put _ (some 44) _ = _; simp only [Act.put, List.setIfInBounds_toArray, List.set_cons_zero, List.set_cons_succ, i64_w, i32_w]; rfl
    refine one_ (i := 5) (N := some 45) #[true, true, true, true, true, true, false] rfl rfl (by kernel_rfl) (by decide) (fun K hK => ?_); refine goes_ Tryd.func13 (by kernel_rfl) rfl #[.agg #[.int .i64 a0_0, .slice A0_1 l0_1.length c0_1], .slice Ao27 t258.length co27, .bool true] (by rfl) rfl rfl (by (try simp only [List.map_toArray, List.map_cons, List.map_nil]); first | done | rfl | (simp only [List.length_drop, List.length_take]; rfl)) ?_; with_reducible refine (petri_Largest.calls kj5 a0_0 _ _ l0_1 _ _ t258 true t261 _ ?sideT ?side1 ?side2 ?side3 ?side4 A19.out).mono ?_
    (case sideT => first | exact HTAB.out.below (by repeat (first | (with_reducible first | exact HB.out | apply below_alloc | apply pw_below_drewN | apply below_drew1 | refine below_set ?_ GE249.out) | exact HB.out)) | exact HTAB.out)
    (case side1 => repeat (first | exact (Kd.C_below HR0_1.out HB.out) | (with_reducible refine Kd.C_alloc ?_ _) | (with_reducible refine Kd.C_drewN ?_ _) | (with_reducible refine Kd.C_drew ?_)))
    (case side2 => exact HC0_1.out)
    (case side3 => repeat (first | exact (Kd.R_reads' HO260.out).2.2 | (with_reducible refine Kd.C_alloc ?_ _) | (with_reducible refine Kd.C_drewN ?_ _) | (with_reducible refine Kd.C_drew ?_)))
    (case side4 => exact (Kd.R_reads' HO260.out).2.1)
    rintro e w28 ⟨v262, rfl, ho0, hb⟩; refine ⟨_, rfl, ?_⟩; have n0_ := Aside0.mk (Kd.V_elder' (by (with_reducible repeat (first | apply Kd.V_alloc | apply Kd.V_drewN | apply Kd.V_drew)); exact HO_1.out) (Kd.R_base ho0) hb); have n1_ := Aside0.mk (Kd.R_elder' (by (with_reducible repeat (first | apply Kd.R_alloc | apply Kd.R_drewN | apply Kd.R_drew)); exact HO254.out) (Kd.R_base ho0) hb); have n2_ := Aside0.mk (Kd.R_elder' (by (with_reducible repeat (first | apply Kd.R_alloc | apply Kd.R_drewN | apply Kd.R_drew)); exact HO257.out) (Kd.R_base ho0) hb); have n3_ := Aside0.mk (Kd.R_elder' (by (with_reducible repeat (first | apply Kd.R_alloc | apply Kd.R_drewN | apply Kd.R_drew)); exact HO260.out) (Kd.R_base ho0) hb); have n4_ := Aside0.mk (Kd.R_lower (Kd.R_new' (Kd.R_new' (Kd.R_new' (Kd.R_newM (M := fun k_ => (w.heap.size ≤ k_)) ho0 (below_size (by repeat (first | (with_reducible first | exact HB.out | apply below_alloc | apply pw_below_drewN | apply below_drew1 | refine below_set ?_ GE249.out) | exact HB.out))) (fun k_ h_ => h_)) (Kd.R_lt (by (with_reducible repeat (first | apply Kd.R_alloc | apply Kd.R_drewN | apply Kd.R_drew)); exact HO254.out))) (Kd.R_lt (by (with_reducible repeat (first | apply Kd.R_alloc | apply Kd.R_drewN | apply Kd.R_drew)); exact HO257.out))) (Kd.R_lt (by (with_reducible repeat (first | apply Kd.R_alloc | apply Kd.R_drewN | apply Kd.R_drew)); exact HO260.out))) (below_size (by repeat (first | (with_reducible first | exact HB.out | apply below_alloc | apply pw_below_drewN | apply below_drew1 | refine below_set ?_ GE249.out) | exact HB.out)))); have n5_ := Aside0.mk (blk_below (g := gb249) (o := .cells #[.int .i64 a0_0, .slice A0_1 l0_1.length c0_1] 24 (0, 0)) (by (with_reducible repeat (first | refine blk_drewN ?_ _ | refine blk_drew ?_ | refine blk_alloc ?_ _)); exact BK249.out) hb); have n6_ := Aside0.mk (below_step (by repeat (first | (with_reducible first | exact HB.out | apply below_alloc | apply pw_below_drewN | apply below_drew1 | refine below_set ?_ GE249.out) | exact HB.out)) hb)
    clear HO_1; clear HO254; clear HO257; clear HO260; clear BK249; clear HB; have HO_1 := n0_; have HO254 := n1_; have HO257 := n2_; have HO260 := n3_; have HO263 := n4_; have BK249 := n5_; have HB := n6_; clear n0_ n1_ n2_ n3_ n4_ n5_ n6_
    (try clear hb)
    (try clear hb2)
    (try clear hk)
    (try clear hi)
    (try clear ho0)
    refine hK.out _ _ ⟨(blk_cell BK249.out 0).trans rfl, (blk_cell BK249.out 1).trans rfl⟩ (fun hHeld => ?_); clear hK K; refine norm_ (a' := ?_) ?_ ?_; rotate_left
    ·show Act.put _ (some 45) _ = _; simp only [Act.put, List.setIfInBounds_toArray, List.set_cons_zero, List.set_cons_succ, i64_w, i32_w]; rfl
    refine pure_ (i := 6) (N := some 11) (v := ?_) (a' := ?_) #[true, true, true, true, true, true, true] rfl rfl (by kernel_rfl) (fun _ _ _ h => h) (Or.inl ⟨by rfl, ?_⟩) ?_ ?_; rotate_left
    ·intro w'; go_simp; with_reducible rfl
    rotate_left
    ·simp only [Act.put, List.setIfInBounds_toArray, List.set_cons_zero, List.set_cons_succ, i64_w, i32_w]; rfl
    refine done_ (by kernel_rfl) ?_
    go_upto_block 0 with (fail)
    go_cut [] (fun wc => ∃ (kq : Nat), Aside0 (taquinlaw18_PetriKeeps.j7 kq t250 t255 t261 a0_0 l0_1 = some r) ∧ Aside0 (kq ≤ kj5) ∧ Aside0 (Kd.R (Kd.int .i64) 3 wc w.heap.size (fun k_ => (w.heap.size ≤ k_) ∧ some k_ ≠ (v262 : Value).ownBlock) v256 t255) ∧ Aside0 (Kd.R (Kd.int .i64) 3 wc w.heap.size (fun k_ => (w.heap.size ≤ k_) ∧ some k_ ≠ (v256 : Value).ownBlock) v262 t261) ∧ Aside0 (wc.heap[gb249]? = some (.cells #[.int .i64 a0_0, (.slice A0_1 l0_1.length c0_1)] 24 (0, 0))) ∧ Aside0 (Below w.heap.size w wc))
    case first => as_aux_lemma =>
     have H := HC20.out; clear HC20; have H' := Aside0.mk H; clear H; go_wp2
     go_loopg [1, 12] kj5 (fun kq v1 v12 w' => ∃ (x1_2 : List Int) (x12_2 : Int), v12 = .int .i64 x12_2 ∧ Aside0 (taquinlaw18_PetriKeeps.l0 kq x1_2 l3 t250 t255 t261 x12_2 a0_0 l0_1 = some r) ∧ Aside0 (kq ≤ kj5) ∧ Aside0 (Kd.V (Kd.int .i64) 3 w' w.heap.size (fun k_ => (P1_ k_ ∨ w.heap.size ≤ k_) ∧ some k_ ≠ (v256 : Value).ownBlock ∧ some k_ ≠ (v262 : Value).ownBlock ∧ k_ ≠ gb249) v1 x1_2) ∧ Aside0 (Kd.R (Kd.int .i64) 3 w' w.heap.size (fun k_ => (w.heap.size ≤ k_) ∧ some k_ ≠ (v262 : Value).ownBlock) v256 t255) ∧ Aside0 (Kd.R (Kd.int .i64) 3 w' w.heap.size (fun k_ => (w.heap.size ≤ k_) ∧ some k_ ≠ (v256 : Value).ownBlock) v262 t261) ∧ Aside0 (w'.heap[gb249]? = some (.cells #[.int .i64 a0_0, (.slice A0_1 l0_1.length c0_1)] 24 (0, 0))) ∧ Aside0 (Below w.heap.size w w'))
     case atStart => exact ⟨(l1), (0), (by first | rfl | (simp; done) | (simp [*]; done)), H', ⟨Nat.le_refl _⟩, ⟨by (with_reducible repeat (first | apply Kd.V_alloc | apply Kd.V_drewN | apply Kd.V_drew)); exact Kd.V_mono HO_1.out (fun _ hk => ⟨hk.1.1.1.1.1, ⟨hk.1.1.2, ⟨hk.2, hk.1.1.1.1.2⟩⟩⟩)⟩, ⟨by (with_reducible repeat (first | apply Kd.R_alloc | apply Kd.R_drewN | apply Kd.R_drew)); exact Kd.R_mono HO257.out (fun _ hk => ⟨hk.1.1.1.1, hk.2⟩)⟩, ⟨by (with_reducible repeat (first | apply Kd.R_alloc | apply Kd.R_drewN | apply Kd.R_drew)); exact Kd.R_mono HO263.out (fun _ hk => ⟨hk.1.1.1.1, hk.1.2⟩)⟩, ⟨by (with_reducible repeat (first | refine blk_drewN ?_ _ | refine blk_drew ?_ | refine blk_alloc ?_ _)); exact BK249.out⟩, ⟨by repeat (first | (with_reducible first | exact HB.out | apply below_alloc | apply pw_below_drewN | apply below_drew1 | refine below_set ?_ GE249.out) | exact HB.out)⟩⟩
     case round => as_aux_lemma =>
      clear H'; (try clear c1); (try clear p2); (try clear c3); (try clear c4); (try clear c8); (try clear c9); (try clear c10); (try clear c13); (try clear c14); (try clear c15); (try clear hcz11_0); (try clear hcz11_1); (try clear hcz13_0); (try clear hcz13_1); (try clear hfz11_0); (try clear hfz11_1); (try clear hfz13_0); (try clear hfz13_1); (try clear p2); obtain ⟨x1_2, x12_2, rfl, HA, HK2, HO_1, HO_10, HO_11, BK249, HB⟩ := hrel
      cases gk with
      | zero => exact absurd HA.out (by simp [taquinlaw18_PetriKeeps.l0])
      | succ k2 =>
       have H := HA.out; clear HA; simp only [taquinlaw18_PetriKeeps.l0] at H
       by_cases c29 : x12_2 ≤ (l3.length : Int)
       ·rw [if_pos c29] at H; have c29b0 : decide (x12_2 ≤ (l3.length : Int)) = true := decide_eq_true c29; clear c29
        (first | rw [c29b0] | (simp only [i64_w, i32_w]; rw [c29b0]) | skip)
        have H' := Aside0.mk H; clear H; go_wp2
        go_loopg [13, 14] k2 (fun kq v13 v14 w' => ∃ (x13_3 : Bool) (x14_3 : Int), v13 = .bool x13_3 ∧ v14 = .int .i64 x14_3 ∧ Aside0 (taquinlaw18_PetriKeeps.l1 kq x1_2 l3 t250 t255 t261 x12_2 x13_3 x14_3 a0_0 l0_1 = some r) ∧ Aside0 (kq ≤ k2) ∧ Aside0 (Kd.V (Kd.int .i64) 3 w' w.heap.size (fun k_ => (P1_ k_ ∨ w.heap.size ≤ k_) ∧ some k_ ≠ (v256 : Value).ownBlock ∧ some k_ ≠ (v262 : Value).ownBlock ∧ k_ ≠ gb249) u1 x1_2) ∧ Aside0 (Kd.R (Kd.int .i64) 3 w' w.heap.size (fun k_ => (w.heap.size ≤ k_) ∧ some k_ ≠ (v262 : Value).ownBlock) v256 t255) ∧ Aside0 (Kd.R (Kd.int .i64) 3 w' w.heap.size (fun k_ => (w.heap.size ≤ k_) ∧ some k_ ≠ (v256 : Value).ownBlock) v262 t261) ∧ Aside0 (w'.heap[gb249]? = some (.cells #[.int .i64 a0_0, (.slice A0_1 l0_1.length c0_1)] 24 (0, 0))) ∧ Aside0 (Below w.heap.size w w'))
        case atStart => exact ⟨(true), (0), (by first | rfl | (simp; done) | (simp [*]; done)), (by first | rfl | (simp; done) | (simp [*]; done)), H', ⟨Nat.le_refl _⟩, ⟨by (with_reducible repeat (first | apply Kd.V_alloc | apply Kd.V_drewN | apply Kd.V_drew)); exact HO_1.out⟩, ⟨by (with_reducible repeat (first | apply Kd.R_alloc | apply Kd.R_drewN | apply Kd.R_drew)); exact HO_10.out⟩, ⟨by (with_reducible repeat (first | apply Kd.R_alloc | apply Kd.R_drewN | apply Kd.R_drew)); exact HO_11.out⟩, ⟨by (with_reducible repeat (first | refine blk_drewN ?_ _ | refine blk_drew ?_ | refine blk_alloc ?_ _)); exact BK249.out⟩, ⟨by repeat (first | (with_reducible first | exact HB.out | apply below_alloc | apply pw_below_drewN | apply below_drew1 | refine below_set ?_ GE249.out) | exact HB.out)⟩⟩
        case round => as_aux_lemma =>
         clear H'; (try clear c1); (try clear c2); (try clear p2); (try clear c3); (try clear c4); (try clear c8); (try clear c9); (try clear c10); (try clear c13); (try clear c14); (try clear c15); (try clear c29); (try clear c29b0); (try clear hcz11_0); (try clear hcz11_1); (try clear hcz13_0); (try clear hcz13_1); (try clear hfz11_0); (try clear hfz11_1); (try clear hfz13_0); (try clear hfz13_1); (try clear p2); obtain ⟨x13_3, x14_3, rfl, rfl, HA, HK3, HO_1, HO_10, HO_11, BK249, HB⟩ := hrel
         cases gk with
         | zero => exact absurd HA.out (by simp [taquinlaw18_PetriKeeps.l1])
         | succ k3 =>
          have H := HA.out; clear HA; simp only [taquinlaw18_PetriKeeps.l1] at H
          by_cases c30 : x14_3 < (t255.length : Int)
          ·rw [if_pos c30] at H; have c30b0 : decide (x14_3 < (t255.length : Int)) = true := decide_eq_true c30; clear c30
           by_cases c31 : x13_3 = true
           ·subst c31; have H1 : (if 0 ≤ x14_3 then (if 0 ≤ (rd t255 x14_3) then (if (rd t255 x14_3) < (x1_2.length : Int) then (taquinlaw18_PetriKeeps.l1 k3 x1_2 l3 t250 t255 t261 x12_2 ((rd x1_2 (rd t255 x14_3)) == 0) (wrap64 (x14_3 + 1)) a0_0 l0_1) else (none)) else (none)) else (none)) = some r := by rw [if_pos rfl] at H; exact H
            clear H; have H := H1; clear H1
            by_cases c32 : 0 ≤ x14_3
            ·rw [if_pos c32] at H; have c32b0 : decide (0 ≤ x14_3) = true := decide_eq_true c32; clear c32
             by_cases c33 : 0 ≤ (rd t255 x14_3)
             ·rw [if_pos c33] at H; have c33b0 : decide (0 ≤ (rd t255 x14_3)) = true := decide_eq_true c33; clear c33
              by_cases c34 : (rd t255 x14_3) < (x1_2.length : Int)
              ·rw [if_pos c34] at H; have c34b0 : decide ((rd t255 x14_3) < (x1_2.length : Int)) = true := decide_eq_true c34; clear c34; have H' := Aside0.mk H; clear H; obtain ⟨Ao35, co35, eo35⟩ := Kd.R_slice HO_10.out; subst eo35; have p264 : 0 ≤ (x14_3 : Int) := of_decide_eq_true (by first | (with_reducible assumption) | assumption); have q264 : x14_3 < (t255.length : Int) := of_decide_eq_true (by first | (with_reducible assumption) | assumption); obtain ⟨ad264, e264, hx264_0⟩ := Kd.at_int (Kd.R_reads' HO_10.out).2.2 x14_3 p264 q264; cases e264; replace p264 := eq_true p264; replace q264 := eq_true q264; obtain ⟨Ao36, co36, eo36⟩ := Kd.V_slice HO_1.out; subst eo36; have p265 : 0 ≤ ((rd t255 x14_3) : Int) := of_decide_eq_true (by first | (with_reducible assumption) | assumption); have q265 : (rd t255 x14_3) < (x1_2.length : Int) := of_decide_eq_true (by first | (with_reducible assumption) | assumption); obtain ⟨ad265, e265, hx265_0⟩ := Kd.at_int (Kd.V_reads' HO_1.out).2.2 (rd t255 x14_3) p265 q265; cases e265; replace p265 := eq_true p265; replace q265 := eq_true q265; go_wp2; go_roundg k3
               case measure => have := HJ5.out; have := HK2.out; have := HK3.out; omega
               case rel => exact ⟨(((rd x1_2 (rd t255 x14_3)) == 0)), (wrap64 (x14_3 + 1)), (by first | rfl | (simp; done) | (simp [*]; done)), (by first | rfl | (simp; done) | (simp [*]; done)), H', ⟨by have := HJ5.out; have := HK2.out; have := HK3.out; omega⟩, ⟨by (with_reducible repeat (first | apply Kd.V_alloc | apply Kd.V_drewN | apply Kd.V_drew)); exact HO_1.out⟩, ⟨by (with_reducible repeat (first | apply Kd.R_alloc | apply Kd.R_drewN | apply Kd.R_drew)); exact HO_10.out⟩, ⟨by (with_reducible repeat (first | apply Kd.R_alloc | apply Kd.R_drewN | apply Kd.R_drew)); exact HO_11.out⟩, ⟨by (with_reducible repeat (first | refine blk_drewN ?_ _ | refine blk_drew ?_ | refine blk_alloc ?_ _)); exact BK249.out⟩, ⟨by repeat (first | (with_reducible first | exact HB.out | apply below_alloc | apply pw_below_drewN | apply below_drew1 | refine below_set ?_ GE249.out) | exact HB.out)⟩⟩
              ·rw [if_neg c34] at H; exact absurd H (by simp)
             ·rw [if_neg c33] at H; exact absurd H (by simp)
            ·rw [if_neg c32] at H; exact absurd H (by simp)
           ·replace c31 := Bool.eq_false_iff.mpr c31; subst c31; have H1 : (taquinlaw18_PetriKeeps.l1 k3 x1_2 l3 t250 t255 t261 x12_2 false (wrap64 (x14_3 + 1)) a0_0 l0_1) = some r := by rw [if_neg (show ¬ (false = true) by decide)] at H; exact H
            clear H; have H := H1; clear H1; have H' := Aside0.mk H; clear H; obtain ⟨Ao37, co37, eo37⟩ := Kd.R_slice HO_10.out; subst eo37; go_wp2; go_roundg k3
            case measure => have := HJ5.out; have := HK2.out; have := HK3.out; omega
            case rel => exact ⟨(false), (wrap64 (x14_3 + 1)), (by first | rfl | (simp; done) | (simp [*]; done)), (by first | rfl | (simp; done) | (simp [*]; done)), H', ⟨by have := HJ5.out; have := HK2.out; have := HK3.out; omega⟩, ⟨by (with_reducible repeat (first | apply Kd.V_alloc | apply Kd.V_drewN | apply Kd.V_drew)); exact HO_1.out⟩, ⟨by (with_reducible repeat (first | apply Kd.R_alloc | apply Kd.R_drewN | apply Kd.R_drew)); exact HO_10.out⟩, ⟨by (with_reducible repeat (first | apply Kd.R_alloc | apply Kd.R_drewN | apply Kd.R_drew)); exact HO_11.out⟩, ⟨by (with_reducible repeat (first | refine blk_drewN ?_ _ | refine blk_drew ?_ | refine blk_alloc ?_ _)); exact BK249.out⟩, ⟨by repeat (first | (with_reducible first | exact HB.out | apply below_alloc | apply pw_below_drewN | apply below_drew1 | refine below_set ?_ GE249.out) | exact HB.out)⟩⟩
          ·rw [if_neg c30] at H; have c30b0 : decide (x14_3 < (t255.length : Int)) = false := decide_eq_false c30; clear c30; have H' := Aside0.mk H; clear H; obtain ⟨Ao38, co38, eo38⟩ := Kd.R_slice HO_10.out; subst eo38; go_wp2
           go_loopg [15, 16] k3 (fun kq v15 v16 w' => ∃ (x15_4 : Bool) (x16_4 : Int), v15 = .bool x15_4 ∧ v16 = .int .i64 x16_4 ∧ Aside0 (taquinlaw18_PetriKeeps.l2 kq x1_2 l3 t250 t255 t261 x12_2 x13_3 x15_4 x16_4 a0_0 l0_1 = some r) ∧ Aside0 (kq ≤ k3) ∧ Aside0 (Kd.V (Kd.int .i64) 3 w' w.heap.size (fun k_ => (P1_ k_ ∨ w.heap.size ≤ k_) ∧ some k_ ≠ ((.slice Ao38 t255.length co38) : Value).ownBlock ∧ some k_ ≠ (v262 : Value).ownBlock ∧ k_ ≠ gb249) u1 x1_2) ∧ Aside0 (Kd.R (Kd.int .i64) 3 w' w.heap.size (fun k_ => (w.heap.size ≤ k_) ∧ some k_ ≠ (v262 : Value).ownBlock) (.slice Ao38 t255.length co38) t255) ∧ Aside0 (Kd.R (Kd.int .i64) 3 w' w.heap.size (fun k_ => (w.heap.size ≤ k_) ∧ some k_ ≠ ((.slice Ao38 t255.length co38) : Value).ownBlock) v262 t261) ∧ Aside0 (w'.heap[gb249]? = some (.cells #[.int .i64 a0_0, (.slice A0_1 l0_1.length c0_1)] 24 (0, 0))) ∧ Aside0 (Below w.heap.size w w'))
           case atStart => exact ⟨(false), (0), (by first | rfl | (simp; done) | (simp [*]; done)), (by first | rfl | (simp; done) | (simp [*]; done)), H', ⟨Nat.le_refl _⟩, ⟨by (with_reducible repeat (first | apply Kd.V_alloc | apply Kd.V_drewN | apply Kd.V_drew)); exact HO_1.out⟩, ⟨by (with_reducible repeat (first | apply Kd.R_alloc | apply Kd.R_drewN | apply Kd.R_drew)); exact HO_10.out⟩, ⟨by (with_reducible repeat (first | apply Kd.R_alloc | apply Kd.R_drewN | apply Kd.R_drew)); exact HO_11.out⟩, ⟨by (with_reducible repeat (first | refine blk_drewN ?_ _ | refine blk_drew ?_ | refine blk_alloc ?_ _)); exact BK249.out⟩, ⟨by repeat (first | (with_reducible first | exact HB.out | apply below_alloc | apply pw_below_drewN | apply below_drew1 | refine below_set ?_ GE249.out) | exact HB.out)⟩⟩
           case round => as_aux_lemma =>
            clear H'; (try clear c1); (try clear c2); (try clear p2); (try clear q2); (try clear hx2); (try clear c3); (try clear c4); (try clear p6); (try clear c8); (try clear c9); (try clear c10); (try clear c13); (try clear c14); (try clear c15); (try clear p26); (try clear q26); (try clear hx26); (try clear c29); (try clear c29b0); (try clear c30); (try clear c30b0); (try clear c31); (try clear c32); (try clear c32b0); (try clear c33); (try clear c33b0); (try clear c34); (try clear c34b0); (try clear hcz11_0); (try clear hcz11_1); (try clear hcz13_0); (try clear hcz13_1); (try clear hfz11_0); (try clear hfz11_1); (try clear hfz13_0); (try clear hfz13_1); (try clear hx264_0); (try clear hx265_0); (try clear p2); (try clear p264); (try clear p265); (try clear q264); (try clear q265); obtain ⟨x15_4, x16_4, rfl, rfl, HA, HK4, HO_1, HO_10, HO_11, BK249, HB⟩ := hrel
            cases gk with
            | zero => exact absurd HA.out (by simp [taquinlaw18_PetriKeeps.l2])
            | succ k4 =>
             have H := HA.out; clear HA; simp only [taquinlaw18_PetriKeeps.l2] at H
             by_cases c39 : x16_4 < (t261.length : Int)
             ·rw [if_pos c39] at H; have c39b0 : decide (x16_4 < (t261.length : Int)) = true := decide_eq_true c39; clear c39
              by_cases c40 : x15_4 = true
              ·subst c40; have H1 : (taquinlaw18_PetriKeeps.l2 k4 x1_2 l3 t250 t255 t261 x12_2 x13_3 true (wrap64 (x16_4 + 1)) a0_0 l0_1) = some r := by rw [if_pos rfl] at H; exact H
               clear H; have H := H1; clear H1; have H' := Aside0.mk H; clear H; obtain ⟨Ao41, co41, eo41⟩ := Kd.R_slice HO_11.out; subst eo41; go_wp2; go_roundg k4
               case measure => have := HJ5.out; have := HK2.out; have := HK3.out; have := HK4.out; omega
               case rel => exact ⟨(true), (wrap64 (x16_4 + 1)), (by first | rfl | (simp; done) | (simp [*]; done)), (by first | rfl | (simp; done) | (simp [*]; done)), H', ⟨by have := HJ5.out; have := HK2.out; have := HK3.out; have := HK4.out; omega⟩, ⟨by (with_reducible repeat (first | apply Kd.V_alloc | apply Kd.V_drewN | apply Kd.V_drew)); exact HO_1.out⟩, ⟨by (with_reducible repeat (first | apply Kd.R_alloc | apply Kd.R_drewN | apply Kd.R_drew)); exact HO_10.out⟩, ⟨by (with_reducible repeat (first | apply Kd.R_alloc | apply Kd.R_drewN | apply Kd.R_drew)); exact HO_11.out⟩, ⟨by (with_reducible repeat (first | refine blk_drewN ?_ _ | refine blk_drew ?_ | refine blk_alloc ?_ _)); exact BK249.out⟩, ⟨by repeat (first | (with_reducible first | exact HB.out | apply below_alloc | apply pw_below_drewN | apply below_drew1 | refine below_set ?_ GE249.out) | exact HB.out)⟩⟩
              ·replace c40 := Bool.eq_false_iff.mpr c40; subst c40; have H1 : (if 0 ≤ x16_4 then (if 0 ≤ (rd t261 x16_4) then (if (rd t261 x16_4) < (x1_2.length : Int) then (taquinlaw18_PetriKeeps.l2 k4 x1_2 l3 t250 t255 t261 x12_2 x13_3 (decide ((rd x1_2 (rd t261 x16_4)) > 0)) (wrap64 (x16_4 + 1)) a0_0 l0_1) else (none)) else (none)) else (none)) = some r := by rw [if_neg (show ¬ (false = true) by decide)] at H; exact H
               clear H; have H := H1; clear H1
               by_cases c42 : 0 ≤ x16_4
               ·rw [if_pos c42] at H; have c42b0 : decide (0 ≤ x16_4) = true := decide_eq_true c42; clear c42
                by_cases c43 : 0 ≤ (rd t261 x16_4)
                ·rw [if_pos c43] at H; have c43b0 : decide (0 ≤ (rd t261 x16_4)) = true := decide_eq_true c43; clear c43
                 by_cases c44 : (rd t261 x16_4) < (x1_2.length : Int)
                 ·rw [if_pos c44] at H; have c44b0 : decide ((rd t261 x16_4) < (x1_2.length : Int)) = true := decide_eq_true c44; clear c44; have H' := Aside0.mk H; clear H; obtain ⟨Ao45, co45, eo45⟩ := Kd.R_slice HO_11.out; subst eo45; have p266 : 0 ≤ (x16_4 : Int) := of_decide_eq_true (by first | (with_reducible assumption) | assumption); have q266 : x16_4 < (t261.length : Int) := of_decide_eq_true (by first | (with_reducible assumption) | assumption); obtain ⟨ad266, e266, hx266_0⟩ := Kd.at_int (Kd.R_reads' HO_11.out).2.2 x16_4 p266 q266; cases e266; replace p266 := eq_true p266; replace q266 := eq_true q266; obtain ⟨Ao46, co46, eo46⟩ := Kd.V_slice HO_1.out; subst eo46; have p267 : 0 ≤ ((rd t261 x16_4) : Int) := of_decide_eq_true (by first | (with_reducible assumption) | assumption); have q267 : (rd t261 x16_4) < (x1_2.length : Int) := of_decide_eq_true (by first | (with_reducible assumption) | assumption); obtain ⟨ad267, e267, hx267_0⟩ := Kd.at_int (Kd.V_reads' HO_1.out).2.2 (rd t261 x16_4) p267 q267; cases e267; replace p267 := eq_true p267; replace q267 := eq_true q267; go_wp2; go_roundg k4
                  case measure => have := HJ5.out; have := HK2.out; have := HK3.out; have := HK4.out; omega
                  case rel => exact ⟨(decide ((rd x1_2 (rd t261 x16_4)) > 0)), (wrap64 (x16_4 + 1)), (by first | rfl | (simp; done) | (simp [*]; done)), (by first | rfl | (simp; done) | (simp [*]; done)), H', ⟨by have := HJ5.out; have := HK2.out; have := HK3.out; have := HK4.out; omega⟩, ⟨by (with_reducible repeat (first | apply Kd.V_alloc | apply Kd.V_drewN | apply Kd.V_drew)); exact HO_1.out⟩, ⟨by (with_reducible repeat (first | apply Kd.R_alloc | apply Kd.R_drewN | apply Kd.R_drew)); exact HO_10.out⟩, ⟨by (with_reducible repeat (first | apply Kd.R_alloc | apply Kd.R_drewN | apply Kd.R_drew)); exact HO_11.out⟩, ⟨by (with_reducible repeat (first | refine blk_drewN ?_ _ | refine blk_drew ?_ | refine blk_alloc ?_ _)); exact BK249.out⟩, ⟨by repeat (first | (with_reducible first | exact HB.out | apply below_alloc | apply pw_below_drewN | apply below_drew1 | refine below_set ?_ GE249.out) | exact HB.out)⟩⟩
                 ·rw [if_neg c44] at H; exact absurd H (by simp)
                ·rw [if_neg c43] at H; exact absurd H (by simp)
               ·rw [if_neg c42] at H; exact absurd H (by simp)
             ·rw [if_neg c39] at H; have c39b0 : decide (x16_4 < (t261.length : Int)) = false := decide_eq_false c39; clear c39
              by_cases c47 : x12_2 = (l3.length : Int)
              ·rw [if_pos c47] at H; have c47b0 : (x12_2 == (l3.length : Int)) = true := beq_iff_eq.mpr c47; have c47b1 : (x12_2 != (l3.length : Int)) = false := bne_eq_false_iff_eq.mpr c47; clear c47; have H' := Aside0.mk H; clear H; obtain ⟨Ao48, co48, eo48⟩ := Kd.R_slice HO_11.out; subst eo48; go_wp2
               go_meet
               case rel => exact ⟨_, H', ⟨by have := HJ5.out; have := HK2.out; have := HK3.out; have := HK4.out; first | omega | exact Nat.le_refl _⟩, ⟨by (with_reducible repeat (first | apply Kd.R_alloc | apply Kd.R_drewN | apply Kd.R_drew)); exact HO_10.out⟩, ⟨by (with_reducible repeat (first | apply Kd.R_alloc | apply Kd.R_drewN | apply Kd.R_drew)); exact HO_11.out⟩, ⟨by (with_reducible repeat (first | refine blk_drewN ?_ _ | refine blk_drew ?_ | refine blk_alloc ?_ _)); exact BK249.out⟩, ⟨by repeat (first | (with_reducible first | exact HB.out | apply below_alloc | apply pw_below_drewN | apply below_drew1 | refine below_set ?_ GE249.out) | exact HB.out)⟩⟩
              ·rw [if_neg c47] at H; have c47b0 : (x12_2 == (l3.length : Int)) = false := beq_eq_false_iff_ne.mpr c47; have c47b1 : (x12_2 != (l3.length : Int)) = true := bne_iff_ne.mpr c47
               by_cases c49 : 0 ≤ x12_2
               ·rw [if_pos c49] at H; have c49b0 : decide (0 ≤ x12_2) = true := decide_eq_true c49; clear c49
                by_cases c50 : x12_2 < (l3.length : Int)
                ·rw [if_pos c50] at H; have c50b0 : decide (x12_2 < (l3.length : Int)) = true := decide_eq_true c50; clear c50; replace H := Option.bind_eq_some_iff.mp H; obtain ⟨⟨t269, t272⟩, A510, H⟩ := H; replace H : (if t272 = 0 then (if (t269.length : Int) = a0_0 then (taquinlaw18_PetriKeeps.l3 k4 l3 t250 t255 t261 x12_2 x13_3 x15_4 t269 true 0 a0_0 l0_1) else (some false)) else (taquinlaw18_PetriKeeps.l0 k4 x1_2 l3 t250 t255 t261 (wrap64 (x12_2 + 1)) a0_0 l0_1)) = some r := H; have A51 := Aside0.mk A510; clear A510
                 by_cases c52 : t272 = 0
                 ·rw [if_pos c52] at H; have c52b0 : (t272 == 0) = true := beq_iff_eq.mpr c52; have c52b1 : (t272 != 0) = false := bne_eq_false_iff_eq.mpr c52; clear c52
                  by_cases c53 : (t269.length : Int) = a0_0
                  ·rw [if_pos c53] at H; have c53b0 : ((t269.length : Int) == a0_0) = true := beq_iff_eq.mpr c53; have c53b1 : ((t269.length : Int) != a0_0) = false := bne_eq_false_iff_eq.mpr c53; clear c53; have H' := Aside0.mk H; clear H; obtain ⟨Ao54, co54, eo54⟩ := Kd.R_slice HO_11.out; subst eo54; (try go_wp2); have n0_ := Aside0.mk (Kd.V_drew HO_1.out); have n1_ := Aside0.mk (Kd.R_drew HO_10.out); have n2_ := Aside0.mk (Kd.R_drew HO_11.out); have n3_ := Aside0.mk (blk_drew BK249.out); have n4_ := Aside0.mk (below_drew1 HB.out); clear HO_1; clear HO_10; clear HO_11; clear BK249; clear HB; have HO_1 := n0_; have HO_10 := n1_; have HO_11 := n2_; have BK249 := n3_; have HB := n4_; clear n0_ n1_ n2_ n3_ n4_; have p268 : 0 ≤ (x12_2 : Int) := of_decide_eq_true (by first | (with_reducible assumption) | assumption); have q268 : x12_2 < (l3.length : Int) := of_decide_eq_true (by first | (with_reducible assumption) | assumption); obtain ⟨ad268, e268, hx268_0⟩ := Kd.at_int HR3.out x12_2 p268 q268; have hw268_0 := hx268_0; cases e268; replace hx268_0 := (HB.out.cell (World.block_lt_of_cell? w _ hx268_0)).trans hx268_0; replace p268 := eq_true p268; replace q268 := eq_true q268; obtain ⟨Ao56, co56, eo56⟩ := Kd.V_slice HO_1.out
                   (first | subst eo56 | (injection eo56 with f1_ f2_ f3_; have f4_ := f1_.symm; have f5_ := f3_.symm; clear f1_ f2_ f3_; subst f4_; subst f5_))
                   refine start_ (n := 12) (S := fun w' => w'.cell? ⟨gb249, 0, none⟩ = some (.int .i64 a0_0) ∧ w'.cell? ⟨gb249, 1, none⟩ = some (.slice A0_1 l0_1.length c0_1) ∧ w'.cell? (ad268.add (x12_2).toNat) = some (.int .i64 (rd l3 x12_2))) (ds := []) #[false, false, false, false, false, false, false, false, false, false, false, false] (by kernel_rfl) rfl rfl ⟨(blk_cell BK249.out 0).trans rfl, (blk_cell BK249.out 1).trans rfl, ((HB.out.cell (World.block_lt_of_cell? w _ hw268_0)).trans hw268_0)⟩ (fun hHeld => ?_); refine with_tabW taquinlaw18_PetriKeeps.tab20 taquinlaw18_PetriKeeps.bits20 (fun HT_ HW_ => ?_); generalize wr.drew = w55 at HO_1 HO_10 HO_11 BK249 HB hx268_0 hHeld ⊢; refine pu 1 92 12 2 rfl rfl HT_ ?_; refine pu 2 93 12 6 rfl rfl HT_ ?_; refine pu 3 94 12 14 rfl rfl HT_ ?_; refine pu 4 95 12 30 rfl rfl HT_ ?_; refine ta3 0 91 12 31 rfl rfl HT_ HW_ hHeld ?_; refine ta3 5 96 12 63 rfl rfl HT_ HW_ hHeld ?_; refine one_ (i := 6) (N := some 97) #[true, true, true, true, true, true, true, false, false, false, false, false] rfl rfl (one_of HT_.out (by kernel_rfl)) (by decide) (fun K hK => ?_); refine goes_ Tryd.func15 (by kernel_rfl) rfl #[.agg #[.int .i64 a0_0, .slice A0_1 l0_1.length c0_1], .slice Ao56 x1_2.length co56, .int .i64 (rd l3 x12_2)] (by rfl) rfl rfl (by (try simp only [List.map_toArray, List.map_cons, List.map_nil]); first | done | rfl | (simp only [List.length_drop, List.length_take]; rfl)) ?_; with_reducible refine (petri_Fire.calls k4 a0_0 _ _ l0_1 _ _ x1_2 (rd l3 x12_2) t269 t272 _ ?side1 ?side2 ?side3 ?side4 A51.out).mono ?_
                   (case side1 => repeat (first | exact (Kd.C_below HR0_1.out HB.out) | (with_reducible refine Kd.C_alloc ?_ _) | (with_reducible refine Kd.C_drewN ?_ _) | (with_reducible refine Kd.C_drew ?_)))
                   (case side2 => exact HC0_1.out)
                   (case side3 => repeat (first | exact (Kd.V_reads' HO_1.out).2.2 | (with_reducible refine Kd.C_alloc ?_ _) | (with_reducible refine Kd.C_drewN ?_ _) | (with_reducible refine Kd.C_drew ?_)))
                   (case side4 => exact (Kd.V_reads' HO_1.out).2.1)
                   rintro e w57 ⟨v270, rfl, ho0, hb⟩; refine ⟨_, rfl, ?_⟩; have n0_ := Aside0.mk (Kd.V_elder' (by (with_reducible repeat (first | apply Kd.V_alloc | apply Kd.V_drewN | apply Kd.V_drew)); exact HO_1.out) (Kd.R_base ho0) hb); have n1_ := Aside0.mk (Kd.R_elder' (by (with_reducible repeat (first | apply Kd.R_alloc | apply Kd.R_drewN | apply Kd.R_drew)); exact HO_10.out) (Kd.R_base ho0) hb); have n2_ := Aside0.mk (Kd.R_elder' (by (with_reducible repeat (first | apply Kd.R_alloc | apply Kd.R_drewN | apply Kd.R_drew)); exact HO_11.out) (Kd.R_base ho0) hb); have n3_ := Aside0.mk (Kd.R_lower (Kd.R_new' (Kd.R_new' (Kd.R_newM (M := fun k_ => (w.heap.size ≤ k_)) ho0 (below_size (by repeat (first | (with_reducible first | exact HB.out | apply below_alloc | apply pw_below_drewN | apply below_drew1 | refine below_set ?_ GE249.out) | exact HB.out))) (fun k_ h_ => h_)) (Kd.R_lt (by (with_reducible repeat (first | apply Kd.R_alloc | apply Kd.R_drewN | apply Kd.R_drew)); exact HO_10.out))) (Kd.R_lt (by (with_reducible repeat (first | apply Kd.R_alloc | apply Kd.R_drewN | apply Kd.R_drew)); exact HO_11.out))) (below_size (by repeat (first | (with_reducible first | exact HB.out | apply below_alloc | apply pw_below_drewN | apply below_drew1 | refine below_set ?_ GE249.out) | exact HB.out)))); have n4_ := Aside0.mk (blk_below (g := gb249) (o := .cells #[.int .i64 a0_0, .slice A0_1 l0_1.length c0_1] 24 (0, 0)) (by (with_reducible repeat (first | refine blk_drewN ?_ _ | refine blk_drew ?_ | refine blk_alloc ?_ _)); exact BK249.out) hb); have n5_ := Aside0.mk (below_step (by repeat (first | (with_reducible first | exact HB.out | apply below_alloc | apply pw_below_drewN | apply below_drew1 | refine below_set ?_ GE249.out) | exact HB.out)) hb); clear HO_1; clear HO_10; clear HO_11; clear BK249; clear HB; have HO_1 := n0_; have HO_10 := n1_; have HO_11 := n2_; have HO271 := n3_; have BK249 := n4_; have HB := n5_; clear n0_ n1_ n2_ n3_ n4_ n5_
                   (try clear hb)
                   (try clear hb2)
                   (try clear hk)
                   (try clear hi)
                   (try clear ho0)
                   refine hK.out _ _ ⟨(blk_cell BK249.out 0).trans rfl, (blk_cell BK249.out 1).trans rfl, ((HB.out.cell (World.block_lt_of_cell? w _ hw268_0)).trans hw268_0)⟩ (fun hHeld => ?_); clear hK K; refine norm_ (a' := ?_) ?_ ?_; rotate_left
                   ·show Act.put _ (some 97) _ = _; simp only [Act.put, List.setIfInBounds_toArray, List.set_cons_zero, List.set_cons_succ, i64_w, i32_w]; rfl
                   refine pu 7 90 12 255 rfl rfl HT_ ?_; refine pu 8 98 12 511 rfl rfl HT_ ?_; refine pu 9 99 12 1023 rfl rfl HT_ ?_; refine pu 10 17 12 2047 rfl rfl HT_ ?_; refine pu 11 18 12 4095 rfl rfl HT_ ?_; refine done_ (done_of HT_.out (by kernel_rfl)) ?_; obtain ⟨Ao58, co58, eo58⟩ := Kd.R_slice HO271.out; subst eo58; have hcz59_0 : w57.cell? ⟨gb249, 0, none⟩ = some (.int .i64 a0_0) := (blk_cell BK249.out 0).trans rfl; have hcz59_1 : w57.cell? ⟨gb249, 1, none⟩ = some (.slice A0_1 l0_1.length c0_1) := (blk_cell BK249.out 1).trans rfl; have hfz59_0 := blk_frozen BK249.out 0; have hfz59_1 := blk_frozen BK249.out 1; (try go_wp2)
                   go_loopg [19, 20] k4 (fun kq v19 v20 w' => ∃ (x19_5 : Bool) (x20_5 : Int), v19 = .bool x19_5 ∧ v20 = .int .i64 x20_5 ∧ Aside0 (taquinlaw18_PetriKeeps.l3 kq l3 t250 t255 t261 x12_2 x13_3 x15_4 t269 x19_5 x20_5 a0_0 l0_1 = some r) ∧ Aside0 (kq ≤ k4) ∧ Aside0 (Kd.R (Kd.int .i64) 3 w' w.heap.size (fun k_ => (w.heap.size ≤ k_) ∧ some k_ ≠ ((.slice Ao54 t261.length co54) : Value).ownBlock ∧ some k_ ≠ ((.slice Ao58 t269.length co58) : Value).ownBlock) (.slice Ao38 t255.length co38) t255) ∧ Aside0 (Kd.R (Kd.int .i64) 3 w' w.heap.size (fun k_ => (w.heap.size ≤ k_) ∧ some k_ ≠ ((.slice Ao38 t255.length co38) : Value).ownBlock ∧ some k_ ≠ ((.slice Ao58 t269.length co58) : Value).ownBlock) (.slice Ao54 t261.length co54) t261) ∧ Aside0 (Kd.R (Kd.int .i64) 3 w' w.heap.size (fun k_ => (w.heap.size ≤ k_) ∧ some k_ ≠ ((.slice Ao38 t255.length co38) : Value).ownBlock ∧ some k_ ≠ ((.slice Ao54 t261.length co54) : Value).ownBlock) (.slice Ao58 t269.length co58) t269) ∧ Aside0 (w'.heap[gb249]? = some (.cells #[.int .i64 a0_0, (.slice A0_1 l0_1.length c0_1)] 24 (0, 0))) ∧ Aside0 (Below w.heap.size w w'))
                   case atStart => exact ⟨(true), (0), (by first | rfl | (simp; done) | (simp [*]; done)), (by first | rfl | (simp; done) | (simp [*]; done)), H', ⟨Nat.le_refl _⟩, ⟨by (with_reducible repeat (first | apply Kd.R_alloc | apply Kd.R_drewN | apply Kd.R_drew)); exact Kd.R_mono HO_10.out (fun _ hk => ⟨hk.1.1, ⟨hk.1.2, hk.2⟩⟩)⟩, ⟨by (with_reducible repeat (first | apply Kd.R_alloc | apply Kd.R_drewN | apply Kd.R_drew)); exact Kd.R_mono HO_11.out (fun _ hk => ⟨hk.1.1, ⟨hk.1.2, hk.2⟩⟩)⟩, ⟨by (with_reducible repeat (first | apply Kd.R_alloc | apply Kd.R_drewN | apply Kd.R_drew)); exact Kd.R_mono HO271.out (fun _ hk => ⟨hk.1.1.1, ⟨hk.1.2, hk.2⟩⟩)⟩, ⟨by (with_reducible repeat (first | refine blk_drewN ?_ _ | refine blk_drew ?_ | refine blk_alloc ?_ _)); exact BK249.out⟩, ⟨by repeat (first | (with_reducible first | exact HB.out | apply below_alloc | apply pw_below_drewN | apply below_drew1 | refine below_set ?_ GE249.out) | exact HB.out)⟩⟩
                   case round => as_aux_lemma =>
                    clear H'; (try clear c1); (try clear c2); (try clear p2); (try clear q2); (try clear hx2); (try clear c3); (try clear c4); (try clear c5); (try clear p6); (try clear c8); (try clear c9); (try clear c10); (try clear c13); (try clear c14); (try clear c15); (try clear p26); (try clear q26); (try clear hx26); (try clear c29); (try clear c29b0); (try clear c30); (try clear c30b0); (try clear c31); (try clear c32); (try clear c32b0); (try clear c33); (try clear c33b0); (try clear c34); (try clear c34b0); (try clear c39); (try clear c39b0); (try clear c40); (try clear c42); (try clear c42b0); (try clear c43); (try clear c43b0); (try clear c44); (try clear c44b0); (try clear c47); (try clear c47b0); (try clear c47b1); (try clear c49); (try clear c49b0); (try clear c50); (try clear c50b0); (try clear c52); (try clear c52b0); (try clear c52b1); (try clear c53); (try clear c53b0); (try clear c53b1); (try clear hcz11_0); (try clear hcz11_1); (try clear hcz13_0); (try clear hcz13_1); (try clear hcz59_0); (try clear hcz59_1); (try clear hfz11_0); (try clear hfz11_1); (try clear hfz13_0); (try clear hfz13_1); (try clear hfz59_0); (try clear hfz59_1); (try clear hx264_0); (try clear hx265_0); (try clear hx266_0); (try clear hx267_0); (try clear hx268_0); (try clear p2); (try clear p26); (try clear p264); (try clear p265); (try clear p266); (try clear p267); (try clear p268); (try clear p6); (try clear q2); (try clear q26); (try clear q264); (try clear q265); (try clear q266); (try clear q267); (try clear q268); obtain ⟨x19_5, x20_5, rfl, rfl, HA, HK5, HO_10, HO_11, HO_17, BK249, HB⟩ := hrel
                    cases gk with
                    | zero => exact absurd HA.out (by simp [taquinlaw18_PetriKeeps.l3])
                    | succ k5 =>
                     have H := HA.out; clear HA; simp only [taquinlaw18_PetriKeeps.l3] at H
                     by_cases c60 : x20_5 < (t255.length : Int)
                     ·rw [if_pos c60] at H; have c60b0 : decide (x20_5 < (t255.length : Int)) = true := decide_eq_true c60; clear c60
                      by_cases c61 : x19_5 = true
                      ·subst c61; have H1 : (if 0 ≤ x20_5 then (if 0 ≤ (rd t255 x20_5) then (if (rd t255 x20_5) < (t269.length : Int) then (taquinlaw18_PetriKeeps.l3 k5 l3 t250 t255 t261 x12_2 x13_3 x15_4 t269 ((rd t269 (rd t255 x20_5)) == 0) (wrap64 (x20_5 + 1)) a0_0 l0_1) else (none)) else (none)) else (none)) = some r := by rw [if_pos rfl] at H; exact H
                       clear H; have H := H1; clear H1
                       by_cases c62 : 0 ≤ x20_5
                       ·rw [if_pos c62] at H; have c62b0 : decide (0 ≤ x20_5) = true := decide_eq_true c62; clear c62
                        by_cases c63 : 0 ≤ (rd t255 x20_5)
                        ·rw [if_pos c63] at H; have c63b0 : decide (0 ≤ (rd t255 x20_5)) = true := decide_eq_true c63; clear c63
                         by_cases c64 : (rd t255 x20_5) < (t269.length : Int)
                         ·rw [if_pos c64] at H; have c64b0 : decide ((rd t255 x20_5) < (t269.length : Int)) = true := decide_eq_true c64; clear c64; have H' := Aside0.mk H; clear H; have p273 : 0 ≤ (x20_5 : Int) := of_decide_eq_true (by first | (with_reducible assumption) | assumption); have q273 : x20_5 < (t255.length : Int) := of_decide_eq_true (by first | (with_reducible assumption) | assumption); obtain ⟨ad273, e273, hx273_0⟩ := Kd.at_int (Kd.R_reads' HO_10.out).2.2 x20_5 p273 q273; cases e273; replace p273 := eq_true p273; replace q273 := eq_true q273; have p274 : 0 ≤ ((rd t255 x20_5) : Int) := of_decide_eq_true (by first | (with_reducible assumption) | assumption); have q274 : (rd t255 x20_5) < (t269.length : Int) := of_decide_eq_true (by first | (with_reducible assumption) | assumption); obtain ⟨ad274, e274, hx274_0⟩ := Kd.at_int (Kd.R_reads' HO_17.out).2.2 (rd t255 x20_5) p274 q274; cases e274; replace p274 := eq_true p274; replace q274 := eq_true q274; go_wp2; go_roundg k5
                          case measure => have := HJ5.out; have := HK2.out; have := HK3.out; have := HK4.out; have := HK5.out; omega
                          case rel => exact ⟨(((rd t269 (rd t255 x20_5)) == 0)), (wrap64 (x20_5 + 1)), (by first | rfl | (simp; done) | (simp [*]; done)), (by first | rfl | (simp; done) | (simp [*]; done)), H', ⟨by have := HJ5.out; have := HK2.out; have := HK3.out; have := HK4.out; have := HK5.out; omega⟩, ⟨by (with_reducible repeat (first | apply Kd.R_alloc | apply Kd.R_drewN | apply Kd.R_drew)); exact HO_10.out⟩, ⟨by (with_reducible repeat (first | apply Kd.R_alloc | apply Kd.R_drewN | apply Kd.R_drew)); exact HO_11.out⟩, ⟨by (with_reducible repeat (first | apply Kd.R_alloc | apply Kd.R_drewN | apply Kd.R_drew)); exact HO_17.out⟩, ⟨by (with_reducible repeat (first | refine blk_drewN ?_ _ | refine blk_drew ?_ | refine blk_alloc ?_ _)); exact BK249.out⟩, ⟨by repeat (first | (with_reducible first | exact HB.out | apply below_alloc | apply pw_below_drewN | apply below_drew1 | refine below_set ?_ GE249.out) | exact HB.out)⟩⟩
                         ·rw [if_neg c64] at H; exact absurd H (by simp)
                        ·rw [if_neg c63] at H; exact absurd H (by simp)
                       ·rw [if_neg c62] at H; exact absurd H (by simp)
                      ·replace c61 := Bool.eq_false_iff.mpr c61; subst c61; have H1 : (taquinlaw18_PetriKeeps.l3 k5 l3 t250 t255 t261 x12_2 x13_3 x15_4 t269 false (wrap64 (x20_5 + 1)) a0_0 l0_1) = some r := by rw [if_neg (show ¬ (false = true) by decide)] at H; exact H
                       clear H; have H := H1; clear H1; have H' := Aside0.mk H; clear H; go_wp2; go_roundg k5
                       case measure => have := HJ5.out; have := HK2.out; have := HK3.out; have := HK4.out; have := HK5.out; omega
                       case rel => exact ⟨(false), (wrap64 (x20_5 + 1)), (by first | rfl | (simp; done) | (simp [*]; done)), (by first | rfl | (simp; done) | (simp [*]; done)), H', ⟨by have := HJ5.out; have := HK2.out; have := HK3.out; have := HK4.out; have := HK5.out; omega⟩, ⟨by (with_reducible repeat (first | apply Kd.R_alloc | apply Kd.R_drewN | apply Kd.R_drew)); exact HO_10.out⟩, ⟨by (with_reducible repeat (first | apply Kd.R_alloc | apply Kd.R_drewN | apply Kd.R_drew)); exact HO_11.out⟩, ⟨by (with_reducible repeat (first | apply Kd.R_alloc | apply Kd.R_drewN | apply Kd.R_drew)); exact HO_17.out⟩, ⟨by (with_reducible repeat (first | refine blk_drewN ?_ _ | refine blk_drew ?_ | refine blk_alloc ?_ _)); exact BK249.out⟩, ⟨by repeat (first | (with_reducible first | exact HB.out | apply below_alloc | apply pw_below_drewN | apply below_drew1 | refine below_set ?_ GE249.out) | exact HB.out)⟩⟩
                     ·rw [if_neg c60] at H; have c60b0 : decide (x20_5 < (t255.length : Int)) = false := decide_eq_false c60; clear c60; have H' := Aside0.mk H; clear H; go_wp2
                      go_loopg [21, 22] k5 (fun kq v21 v22 w' => ∃ (x21_6 : Bool) (x22_6 : Int), v21 = .bool x21_6 ∧ v22 = .int .i64 x22_6 ∧ Aside0 (taquinlaw18_PetriKeeps.l4 kq l3 t250 t255 t261 x12_2 x13_3 x15_4 t269 x19_5 x21_6 x22_6 a0_0 l0_1 = some r) ∧ Aside0 (kq ≤ k5) ∧ Aside0 (Kd.R (Kd.int .i64) 3 w' w.heap.size (fun k_ => (w.heap.size ≤ k_) ∧ some k_ ≠ ((.slice Ao54 t261.length co54) : Value).ownBlock ∧ some k_ ≠ ((.slice Ao58 t269.length co58) : Value).ownBlock) (.slice Ao38 t255.length co38) t255) ∧ Aside0 (Kd.R (Kd.int .i64) 3 w' w.heap.size (fun k_ => (w.heap.size ≤ k_) ∧ some k_ ≠ ((.slice Ao38 t255.length co38) : Value).ownBlock ∧ some k_ ≠ ((.slice Ao58 t269.length co58) : Value).ownBlock) (.slice Ao54 t261.length co54) t261) ∧ Aside0 (Kd.R (Kd.int .i64) 3 w' w.heap.size (fun k_ => (w.heap.size ≤ k_) ∧ some k_ ≠ ((.slice Ao38 t255.length co38) : Value).ownBlock ∧ some k_ ≠ ((.slice Ao54 t261.length co54) : Value).ownBlock) (.slice Ao58 t269.length co58) t269) ∧ Aside0 (w'.heap[gb249]? = some (.cells #[.int .i64 a0_0, (.slice A0_1 l0_1.length c0_1)] 24 (0, 0))) ∧ Aside0 (Below w.heap.size w w'))
                      case atStart => exact ⟨(false), (0), (by first | rfl | (simp; done) | (simp [*]; done)), (by first | rfl | (simp; done) | (simp [*]; done)), H', ⟨Nat.le_refl _⟩, ⟨by (with_reducible repeat (first | apply Kd.R_alloc | apply Kd.R_drewN | apply Kd.R_drew)); exact HO_10.out⟩, ⟨by (with_reducible repeat (first | apply Kd.R_alloc | apply Kd.R_drewN | apply Kd.R_drew)); exact HO_11.out⟩, ⟨by (with_reducible repeat (first | apply Kd.R_alloc | apply Kd.R_drewN | apply Kd.R_drew)); exact HO_17.out⟩, ⟨by (with_reducible repeat (first | refine blk_drewN ?_ _ | refine blk_drew ?_ | refine blk_alloc ?_ _)); exact BK249.out⟩, ⟨by repeat (first | (with_reducible first | exact HB.out | apply below_alloc | apply pw_below_drewN | apply below_drew1 | refine below_set ?_ GE249.out) | exact HB.out)⟩⟩
                      case round => as_aux_lemma =>
                       clear H'; (try clear c1); (try clear c2); (try clear p2); (try clear q2); (try clear hx2); (try clear c3); (try clear c4); (try clear c5); (try clear c6); (try clear p6); (try clear c8); (try clear c9); (try clear c10); (try clear c13); (try clear c14); (try clear c15); (try clear p26); (try clear q26); (try clear hx26); (try clear p27); (try clear q27); (try clear hx27); (try clear c29); (try clear c29b0); (try clear c30); (try clear c30b0); (try clear c31); (try clear c32); (try clear c32b0); (try clear c33); (try clear c33b0); (try clear c34); (try clear c34b0); (try clear c39); (try clear c39b0); (try clear c40); (try clear c42); (try clear c42b0); (try clear c43); (try clear c43b0); (try clear c44); (try clear c44b0); (try clear c47); (try clear c47b0); (try clear c47b1); (try clear c49); (try clear c49b0); (try clear c50); (try clear c50b0); (try clear c52); (try clear c52b0); (try clear c52b1); (try clear c53); (try clear c53b0); (try clear c53b1); (try clear c60); (try clear c60b0); (try clear c61); (try clear c62); (try clear c62b0); (try clear c63); (try clear c63b0); (try clear c64); (try clear c64b0); (try clear p64); (try clear hcz11_0); (try clear hcz11_1); (try clear hcz13_0); (try clear hcz13_1); (try clear hcz59_0); (try clear hcz59_1); (try clear hfz11_0); (try clear hfz11_1); (try clear hfz13_0); (try clear hfz13_1); (try clear hfz59_0); (try clear hfz59_1); (try clear hx264_0); (try clear hx265_0); (try clear hx266_0); (try clear hx267_0); (try clear hx268_0); (try clear hx273_0); (try clear hx274_0); (try clear p2); (try clear p26); (try clear p264); (try clear p265); (try clear p266); (try clear p267); (try clear p268); (try clear p273); (try clear p274); (try clear p6); (try clear q2); (try clear q26); (try clear q264); (try clear q265); (try clear q266); (try clear q267); (try clear q268); (try clear q273); (try clear q274); obtain ⟨x21_6, x22_6, rfl, rfl, HA, HK6, HO_10, HO_11, HO_17, BK249, HB⟩ := hrel
                       cases gk with
                       | zero => exact absurd HA.out (by simp [taquinlaw18_PetriKeeps.l4])
                       | succ k6 =>
                        have H := HA.out; clear HA; simp only [taquinlaw18_PetriKeeps.l4] at H
                        by_cases c65 : x22_6 < (t261.length : Int)
                        ·rw [if_pos c65] at H; have c65b0 : decide (x22_6 < (t261.length : Int)) = true := decide_eq_true c65; clear c65
                         by_cases c66 : x21_6 = true
                         ·subst c66; have H1 : (taquinlaw18_PetriKeeps.l4 k6 l3 t250 t255 t261 x12_2 x13_3 x15_4 t269 x19_5 true (wrap64 (x22_6 + 1)) a0_0 l0_1) = some r := by rw [if_pos rfl] at H; exact H
                          clear H; have H := H1; clear H1; have H' := Aside0.mk H; clear H; go_wp2; go_roundg k6
                          case measure => have := HJ5.out; have := HK2.out; have := HK3.out; have := HK4.out; have := HK5.out; have := HK6.out; omega
                          case rel => exact ⟨(true), (wrap64 (x22_6 + 1)), (by first | rfl | (simp; done) | (simp [*]; done)), (by first | rfl | (simp; done) | (simp [*]; done)), H', ⟨by have := HJ5.out; have := HK2.out; have := HK3.out; have := HK4.out; have := HK5.out; have := HK6.out; omega⟩, ⟨by (with_reducible repeat (first | apply Kd.R_alloc | apply Kd.R_drewN | apply Kd.R_drew)); exact HO_10.out⟩, ⟨by (with_reducible repeat (first | apply Kd.R_alloc | apply Kd.R_drewN | apply Kd.R_drew)); exact HO_11.out⟩, ⟨by (with_reducible repeat (first | apply Kd.R_alloc | apply Kd.R_drewN | apply Kd.R_drew)); exact HO_17.out⟩, ⟨by (with_reducible repeat (first | refine blk_drewN ?_ _ | refine blk_drew ?_ | refine blk_alloc ?_ _)); exact BK249.out⟩, ⟨by repeat (first | (with_reducible first | exact HB.out | apply below_alloc | apply pw_below_drewN | apply below_drew1 | refine below_set ?_ GE249.out) | exact HB.out)⟩⟩
                         ·replace c66 := Bool.eq_false_iff.mpr c66; subst c66; have H1 : (if 0 ≤ x22_6 then (if 0 ≤ (rd t261 x22_6) then (if (rd t261 x22_6) < (t269.length : Int) then (taquinlaw18_PetriKeeps.l4 k6 l3 t250 t255 t261 x12_2 x13_3 x15_4 t269 x19_5 (decide ((rd t269 (rd t261 x22_6)) > 0)) (wrap64 (x22_6 + 1)) a0_0 l0_1) else (none)) else (none)) else (none)) = some r := by rw [if_neg (show ¬ (false = true) by decide)] at H; exact H
                          clear H; have H := H1; clear H1
                          by_cases c67 : 0 ≤ x22_6
                          ·rw [if_pos c67] at H; have c67b0 : decide (0 ≤ x22_6) = true := decide_eq_true c67; clear c67
                           by_cases c68 : 0 ≤ (rd t261 x22_6)
                           ·rw [if_pos c68] at H; have c68b0 : decide (0 ≤ (rd t261 x22_6)) = true := decide_eq_true c68; clear c68
                            by_cases c69 : (rd t261 x22_6) < (t269.length : Int)
                            ·rw [if_pos c69] at H; have c69b0 : decide ((rd t261 x22_6) < (t269.length : Int)) = true := decide_eq_true c69; clear c69; have H' := Aside0.mk H; clear H; have p275 : 0 ≤ (x22_6 : Int) := of_decide_eq_true (by first | (with_reducible assumption) | assumption); have q275 : x22_6 < (t261.length : Int) := of_decide_eq_true (by first | (with_reducible assumption) | assumption); obtain ⟨ad275, e275, hx275_0⟩ := Kd.at_int (Kd.R_reads' HO_11.out).2.2 x22_6 p275 q275; cases e275; replace p275 := eq_true p275; replace q275 := eq_true q275; have p276 : 0 ≤ ((rd t261 x22_6) : Int) := of_decide_eq_true (by first | (with_reducible assumption) | assumption); have q276 : (rd t261 x22_6) < (t269.length : Int) := of_decide_eq_true (by first | (with_reducible assumption) | assumption); obtain ⟨ad276, e276, hx276_0⟩ := Kd.at_int (Kd.R_reads' HO_17.out).2.2 (rd t261 x22_6) p276 q276; cases e276; replace p276 := eq_true p276; replace q276 := eq_true q276; go_wp2; go_roundg k6
                             case measure => have := HJ5.out; have := HK2.out; have := HK3.out; have := HK4.out; have := HK5.out; have := HK6.out; omega
                             case rel => exact ⟨(decide ((rd t269 (rd t261 x22_6)) > 0)), (wrap64 (x22_6 + 1)), (by first | rfl | (simp; done) | (simp [*]; done)), (by first | rfl | (simp; done) | (simp [*]; done)), H', ⟨by have := HJ5.out; have := HK2.out; have := HK3.out; have := HK4.out; have := HK5.out; have := HK6.out; omega⟩, ⟨by (with_reducible repeat (first | apply Kd.R_alloc | apply Kd.R_drewN | apply Kd.R_drew)); exact HO_10.out⟩, ⟨by (with_reducible repeat (first | apply Kd.R_alloc | apply Kd.R_drewN | apply Kd.R_drew)); exact HO_11.out⟩, ⟨by (with_reducible repeat (first | apply Kd.R_alloc | apply Kd.R_drewN | apply Kd.R_drew)); exact HO_17.out⟩, ⟨by (with_reducible repeat (first | refine blk_drewN ?_ _ | refine blk_drew ?_ | refine blk_alloc ?_ _)); exact BK249.out⟩, ⟨by repeat (first | (with_reducible first | exact HB.out | apply below_alloc | apply pw_below_drewN | apply below_drew1 | refine below_set ?_ GE249.out) | exact HB.out)⟩⟩
                            ·rw [if_neg c69] at H; exact absurd H (by simp)
                           ·rw [if_neg c68] at H; exact absurd H (by simp)
                          ·rw [if_neg c67] at H; exact absurd H (by simp)
                        ·rw [if_neg c65] at H; have c65b0 : decide (x22_6 < (t261.length : Int)) = false := decide_eq_false c65; clear c65; have HC70 := Aside0.mk H; clear H
                         go_upto_region 34 with (fail)
                         go_cut [152] (fun v152 wc => ∃ (kq : Nat) (x152_69 : Bool), v152 = .bool x152_69 ∧ Aside0 (taquinlaw18_PetriKeeps.j6 kq l3 t250 t255 t261 x12_2 t269 x152_69 a0_0 l0_1 = some r) ∧ Aside0 (kq ≤ k6) ∧ Aside0 (Kd.R (Kd.int .i64) 3 wc w.heap.size (fun k_ => (w.heap.size ≤ k_) ∧ some k_ ≠ ((.slice Ao54 t261.length co54) : Value).ownBlock ∧ some k_ ≠ ((.slice Ao58 t269.length co58) : Value).ownBlock) (.slice Ao38 t255.length co38) t255) ∧ Aside0 (Kd.R (Kd.int .i64) 3 wc w.heap.size (fun k_ => (w.heap.size ≤ k_) ∧ some k_ ≠ ((.slice Ao38 t255.length co38) : Value).ownBlock ∧ some k_ ≠ ((.slice Ao58 t269.length co58) : Value).ownBlock) (.slice Ao54 t261.length co54) t261) ∧ Aside0 (Kd.R (Kd.int .i64) 3 wc w.heap.size (fun k_ => (w.heap.size ≤ k_) ∧ some k_ ≠ ((.slice Ao38 t255.length co38) : Value).ownBlock ∧ some k_ ≠ ((.slice Ao54 t261.length co54) : Value).ownBlock) (.slice Ao58 t269.length co58) t269) ∧ Aside0 (wc.heap[gb249]? = some (.cells #[.int .i64 a0_0, (.slice A0_1 l0_1.length c0_1)] 24 (0, 0))) ∧ Aside0 (Below w.heap.size w wc))
                         case first => as_aux_lemma =>
                          have H := HC70.out; clear HC70
                          by_cases c71 : x13_3 = true
                          ·subst c71; have H1 : (if x19_5 = true then (if x15_4 = true then (taquinlaw18_PetriKeeps.j6 k6 l3 t250 t255 t261 x12_2 t269 (!x21_6) a0_0 l0_1) else (taquinlaw18_PetriKeeps.j6 k6 l3 t250 t255 t261 x12_2 t269 false a0_0 l0_1)) else (taquinlaw18_PetriKeeps.j6 k6 l3 t250 t255 t261 x12_2 t269 true a0_0 l0_1)) = some r := by rw [if_pos rfl] at H; exact H
                           clear H; have H := H1; clear H1
                           by_cases c72 : x19_5 = true
                           ·subst c72; have H1 : (if x15_4 = true then (taquinlaw18_PetriKeeps.j6 k6 l3 t250 t255 t261 x12_2 t269 (!x21_6) a0_0 l0_1) else (taquinlaw18_PetriKeeps.j6 k6 l3 t250 t255 t261 x12_2 t269 false a0_0 l0_1)) = some r := by rw [if_pos rfl] at H; exact H
                            clear H; have H := H1; clear H1
                            by_cases c73 : x15_4 = true
                            ·subst c73; have H1 : (taquinlaw18_PetriKeeps.j6 k6 l3 t250 t255 t261 x12_2 t269 (!x21_6) a0_0 l0_1) = some r := by rw [if_pos rfl] at H; exact H
                             clear H; have H := H1; clear H1; have H' := Aside0.mk H; clear H; go_wp2
                             go_meet
                             case rel => exact ⟨_, (!x21_6), (by first | rfl | (simp; done) | (simp [*]; done)), H', ⟨by have := HJ5.out; have := HK2.out; have := HK3.out; have := HK4.out; have := HK5.out; have := HK6.out; first | omega | exact Nat.le_refl _⟩, ⟨by (with_reducible repeat (first | apply Kd.R_alloc | apply Kd.R_drewN | apply Kd.R_drew)); exact HO_10.out⟩, ⟨by (with_reducible repeat (first | apply Kd.R_alloc | apply Kd.R_drewN | apply Kd.R_drew)); exact HO_11.out⟩, ⟨by (with_reducible repeat (first | apply Kd.R_alloc | apply Kd.R_drewN | apply Kd.R_drew)); exact HO_17.out⟩, ⟨by (with_reducible repeat (first | refine blk_drewN ?_ _ | refine blk_drew ?_ | refine blk_alloc ?_ _)); exact BK249.out⟩, ⟨by repeat (first | (with_reducible first | exact HB.out | apply below_alloc | apply pw_below_drewN | apply below_drew1 | refine below_set ?_ GE249.out) | exact HB.out)⟩⟩
                            ·replace c73 := Bool.eq_false_iff.mpr c73; subst c73; have H1 : (taquinlaw18_PetriKeeps.j6 k6 l3 t250 t255 t261 x12_2 t269 false a0_0 l0_1) = some r := by rw [if_neg (show ¬ (false = true) by decide)] at H; exact H
                             clear H; have H := H1; clear H1; have H' := Aside0.mk H; clear H; go_wp2
                             go_meet
                             case rel => exact ⟨_, (false), (by first | rfl | (simp; done) | (simp [*]; done)), H', ⟨by have := HJ5.out; have := HK2.out; have := HK3.out; have := HK4.out; have := HK5.out; have := HK6.out; first | omega | exact Nat.le_refl _⟩, ⟨by (with_reducible repeat (first | apply Kd.R_alloc | apply Kd.R_drewN | apply Kd.R_drew)); exact HO_10.out⟩, ⟨by (with_reducible repeat (first | apply Kd.R_alloc | apply Kd.R_drewN | apply Kd.R_drew)); exact HO_11.out⟩, ⟨by (with_reducible repeat (first | apply Kd.R_alloc | apply Kd.R_drewN | apply Kd.R_drew)); exact HO_17.out⟩, ⟨by (with_reducible repeat (first | refine blk_drewN ?_ _ | refine blk_drew ?_ | refine blk_alloc ?_ _)); exact BK249.out⟩, ⟨by repeat (first | (with_reducible first | exact HB.out | apply below_alloc | apply pw_below_drewN | apply below_drew1 | refine below_set ?_ GE249.out) | exact HB.out)⟩⟩
                           ·replace c72 := Bool.eq_false_iff.mpr c72; subst c72; have H1 : (taquinlaw18_PetriKeeps.j6 k6 l3 t250 t255 t261 x12_2 t269 true a0_0 l0_1) = some r := by rw [if_neg (show ¬ (false = true) by decide)] at H; exact H
                            clear H; have H := H1; clear H1; have H' := Aside0.mk H; clear H; go_wp2
                            go_meet
                            case rel => exact ⟨_, (true), (by first | rfl | (simp; done) | (simp [*]; done)), H', ⟨by have := HJ5.out; have := HK2.out; have := HK3.out; have := HK4.out; have := HK5.out; have := HK6.out; first | omega | exact Nat.le_refl _⟩, ⟨by (with_reducible repeat (first | apply Kd.R_alloc | apply Kd.R_drewN | apply Kd.R_drew)); exact HO_10.out⟩, ⟨by (with_reducible repeat (first | apply Kd.R_alloc | apply Kd.R_drewN | apply Kd.R_drew)); exact HO_11.out⟩, ⟨by (with_reducible repeat (first | apply Kd.R_alloc | apply Kd.R_drewN | apply Kd.R_drew)); exact HO_17.out⟩, ⟨by (with_reducible repeat (first | refine blk_drewN ?_ _ | refine blk_drew ?_ | refine blk_alloc ?_ _)); exact BK249.out⟩, ⟨by repeat (first | (with_reducible first | exact HB.out | apply below_alloc | apply pw_below_drewN | apply below_drew1 | refine below_set ?_ GE249.out) | exact HB.out)⟩⟩
                          ·replace c71 := Bool.eq_false_iff.mpr c71; subst c71; have H1 : (if x15_4 = true then (taquinlaw18_PetriKeeps.j6 k6 l3 t250 t255 t261 x12_2 t269 (!x21_6) a0_0 l0_1) else (taquinlaw18_PetriKeeps.j6 k6 l3 t250 t255 t261 x12_2 t269 false a0_0 l0_1)) = some r := by rw [if_neg (show ¬ (false = true) by decide)] at H; exact H
                           clear H; have H := H1; clear H1
                           by_cases c74 : x15_4 = true
                           ·subst c74; have H1 : (taquinlaw18_PetriKeeps.j6 k6 l3 t250 t255 t261 x12_2 t269 (!x21_6) a0_0 l0_1) = some r := by rw [if_pos rfl] at H; exact H
                            clear H; have H := H1; clear H1; have H' := Aside0.mk H; clear H; go_wp2
                            go_meet
                            case rel => exact ⟨_, (!x21_6), (by first | rfl | (simp; done) | (simp [*]; done)), H', ⟨by have := HJ5.out; have := HK2.out; have := HK3.out; have := HK4.out; have := HK5.out; have := HK6.out; first | omega | exact Nat.le_refl _⟩, ⟨by (with_reducible repeat (first | apply Kd.R_alloc | apply Kd.R_drewN | apply Kd.R_drew)); exact HO_10.out⟩, ⟨by (with_reducible repeat (first | apply Kd.R_alloc | apply Kd.R_drewN | apply Kd.R_drew)); exact HO_11.out⟩, ⟨by (with_reducible repeat (first | apply Kd.R_alloc | apply Kd.R_drewN | apply Kd.R_drew)); exact HO_17.out⟩, ⟨by (with_reducible repeat (first | refine blk_drewN ?_ _ | refine blk_drew ?_ | refine blk_alloc ?_ _)); exact BK249.out⟩, ⟨by repeat (first | (with_reducible first | exact HB.out | apply below_alloc | apply pw_below_drewN | apply below_drew1 | refine below_set ?_ GE249.out) | exact HB.out)⟩⟩
                           ·replace c74 := Bool.eq_false_iff.mpr c74; subst c74; have H1 : (taquinlaw18_PetriKeeps.j6 k6 l3 t250 t255 t261 x12_2 t269 false a0_0 l0_1) = some r := by rw [if_neg (show ¬ (false = true) by decide)] at H; exact H
                            clear H; have H := H1; clear H1; have H' := Aside0.mk H; clear H; go_wp2
                            go_meet
                            case rel => exact ⟨_, (false), (by first | rfl | (simp; done) | (simp [*]; done)), H', ⟨by have := HJ5.out; have := HK2.out; have := HK3.out; have := HK4.out; have := HK5.out; have := HK6.out; first | omega | exact Nat.le_refl _⟩, ⟨by (with_reducible repeat (first | apply Kd.R_alloc | apply Kd.R_drewN | apply Kd.R_drew)); exact HO_10.out⟩, ⟨by (with_reducible repeat (first | apply Kd.R_alloc | apply Kd.R_drewN | apply Kd.R_drew)); exact HO_11.out⟩, ⟨by (with_reducible repeat (first | apply Kd.R_alloc | apply Kd.R_drewN | apply Kd.R_drew)); exact HO_17.out⟩, ⟨by (with_reducible repeat (first | refine blk_drewN ?_ _ | refine blk_drew ?_ | refine blk_alloc ?_ _)); exact BK249.out⟩, ⟨by repeat (first | (with_reducible first | exact HB.out | apply below_alloc | apply pw_below_drewN | apply below_drew1 | refine below_set ?_ GE249.out) | exact HB.out)⟩⟩
                         case rest =>
                          clear HC70; (try clear c1); (try clear c2); (try clear p2); (try clear q2); (try clear hx2); (try clear c3); (try clear c4); (try clear c5); (try clear c6); (try clear p6); (try clear c7); (try clear c8); (try clear c9); (try clear c10); (try clear c13); (try clear c14); (try clear c15); (try clear p26); (try clear q26); (try clear hx26); (try clear p27); (try clear q27); (try clear hx27); (try clear c29); (try clear c29b0); (try clear c30); (try clear c30b0); (try clear c31); (try clear c32); (try clear c32b0); (try clear c33); (try clear c33b0); (try clear c34); (try clear c34b0); (try clear c39); (try clear c39b0); (try clear c40); (try clear c42); (try clear c42b0); (try clear c43); (try clear c43b0); (try clear c44); (try clear c44b0); (try clear c47); (try clear c47b0); (try clear c47b1); (try clear c49); (try clear c49b0); (try clear c50); (try clear c50b0); (try clear c52); (try clear c52b0); (try clear c52b1); (try clear c53); (try clear c53b0); (try clear c53b1); (try clear c60); (try clear c60b0); (try clear c61); (try clear c62); (try clear c62b0); (try clear c63); (try clear c63b0); (try clear c64); (try clear c64b0); (try clear p64); (try clear c65); (try clear c65b0); (try clear c66); (try clear c67); (try clear c67b0); (try clear c68); (try clear c68b0); (try clear c69); (try clear c69b0); (try clear c71); (try clear c72); (try clear c73); (try clear c74); (try clear hcz11_0); (try clear hcz11_1); (try clear hcz13_0); (try clear hcz13_1); (try clear hcz59_0); (try clear hcz59_1); (try clear hfz11_0); (try clear hfz11_1); (try clear hfz13_0); (try clear hfz13_1); (try clear hfz59_0); (try clear hfz59_1); (try clear hx264_0); (try clear hx265_0); (try clear hx266_0); (try clear hx267_0); (try clear hx268_0); (try clear hx273_0); (try clear hx274_0); (try clear hx275_0); (try clear hx276_0); (try clear p2); (try clear p26); (try clear p264); (try clear p265); (try clear p266); (try clear p267); (try clear p268); (try clear p27); (try clear p273); (try clear p274)
                          (try clear p275); (try clear p276); (try clear p6); (try clear p64); (try clear q2); (try clear q26); (try clear q264); (try clear q265); (try clear q266); (try clear q267); (try clear q268); (try clear q27); (try clear q273); (try clear q274); (try clear q275); (try clear q276); obtain ⟨kq, x152_69, rfl, HA, HJ69, HO_10, HO_11, HO_17, BK249, HB⟩ := hcut
                          cases kq with
                          | zero => exact absurd HA.out (by simp [taquinlaw18_PetriKeeps.j6])
                          | succ kj69 =>
                           have H := HA.out; clear HA; simp only [taquinlaw18_PetriKeeps.j6] at H
                           by_cases c75 : x152_69 = true
                           ·subst c75; have H1 : (some false) = some r := by rw [if_pos rfl] at H; exact H
                            clear H; have H := H1; clear H1; obtain rfl := Option.some.inj H; go_wp2; go_ret; exact ⟨by first | rfl | (simp [errW_none, errW_some] <;> rfl) | (simp [*, errW_none, errW_some] <;> rfl), by repeat (first | (with_reducible first | exact HB.out | apply below_alloc | apply pw_below_drewN | apply below_drew1 | refine below_set ?_ GE249.out) | exact HB.out)⟩
                           ·replace c75 := Bool.eq_false_iff.mpr c75; subst c75; have H1 : (taquinlaw18_PetriKeeps.l0 kj69 t269 l3 t250 t255 t261 (wrap64 (x12_2 + 1)) a0_0 l0_1) = some r := by rw [if_neg (show ¬ (false = true) by decide)] at H; exact H
                            clear H; have H := H1; clear H1; have H' := Aside0.mk H; clear H; go_wp2; go_roundg kj69
                            case measure => have := HJ5.out; have := HK2.out; have := HK3.out; have := HK4.out; have := HK5.out; have := HK6.out; have := HJ69.out; omega
                            case rel => exact ⟨(t269), (wrap64 (x12_2 + 1)), (by first | rfl | (simp; done) | (simp [*]; done)), H', ⟨by have := HJ5.out; have := HK2.out; have := HK3.out; have := HK4.out; have := HK5.out; have := HK6.out; have := HJ69.out; omega⟩, ⟨Kd.V_mono (Kd.R_V (ok := fun k_ => (w.heap.size ≤ k_) ∧ some k_ ≠ ((.slice Ao38 t255.length co38) : Value).ownBlock ∧ some k_ ≠ ((.slice Ao54 t261.length co54) : Value).ownBlock ∧ k_ ≠ gb249) (by (with_reducible repeat (first | apply Kd.R_alloc | apply Kd.R_drewN | apply Kd.R_drew)); exact Kd.R_mono (Kd.R_types HO_17.out BK249.out (by decide)) (fun _ hk => ⟨hk.1.1, ⟨hk.1.2.1, ⟨hk.1.2.2, hk.2⟩⟩⟩))) (fun k_ hk => by first | exact ⟨(.inr (hk.1)), hk.2⟩ | exact (.inr (hk)))⟩, ⟨by (with_reducible repeat (first | apply Kd.R_alloc | apply Kd.R_drewN | apply Kd.R_drew)); exact Kd.R_mono HO_10.out (fun _ hk => ⟨hk.1, hk.2.1⟩)⟩, ⟨by (with_reducible repeat (first | apply Kd.R_alloc | apply Kd.R_drewN | apply Kd.R_drew)); exact Kd.R_mono HO_11.out (fun _ hk => ⟨hk.1, hk.2.1⟩)⟩, ⟨by (with_reducible repeat (first | refine blk_drewN ?_ _ | refine blk_drew ?_ | refine blk_alloc ?_ _)); exact BK249.out⟩, ⟨by repeat (first | (with_reducible first | exact HB.out | apply below_alloc | apply pw_below_drewN | apply below_drew1 | refine below_set ?_ GE249.out) | exact HB.out)⟩⟩
                  ·rw [if_neg c53] at H; have c53b0 : ((t269.length : Int) == a0_0) = false := beq_eq_false_iff_ne.mpr c53; have c53b1 : ((t269.length : Int) != a0_0) = true := bne_iff_ne.mpr c53; obtain rfl := Option.some.inj H; obtain ⟨Ao76, co76, eo76⟩ := Kd.R_slice HO_11.out; subst eo76; (try go_wp2); have n0_ := Aside0.mk (Kd.V_drew HO_1.out); have n1_ := Aside0.mk (Kd.R_drew HO_10.out); have n2_ := Aside0.mk (Kd.R_drew HO_11.out); have n3_ := Aside0.mk (blk_drew BK249.out); have n4_ := Aside0.mk (below_drew1 HB.out); clear HO_1; clear HO_10; clear HO_11; clear BK249; clear HB; have HO_1 := n0_; have HO_10 := n1_; have HO_11 := n2_; have BK249 := n3_; have HB := n4_; clear n0_ n1_ n2_ n3_ n4_; have p268 : 0 ≤ (x12_2 : Int) := of_decide_eq_true (by first | (with_reducible assumption) | assumption); have q268 : x12_2 < (l3.length : Int) := of_decide_eq_true (by first | (with_reducible assumption) | assumption); obtain ⟨ad268, e268, hx268_0⟩ := Kd.at_int HR3.out x12_2 p268 q268; have hw268_0 := hx268_0; cases e268; replace hx268_0 := (HB.out.cell (World.block_lt_of_cell? w _ hx268_0)).trans hx268_0; replace p268 := eq_true p268; replace q268 := eq_true q268; obtain ⟨Ao78, co78, eo78⟩ := Kd.V_slice HO_1.out
                   (first | subst eo78 | (injection eo78 with f1_ f2_ f3_; have f4_ := f1_.symm; have f5_ := f3_.symm; clear f1_ f2_ f3_; subst f4_; subst f5_))
                   refine start_ (n := 12) (S := fun w' => w'.cell? ⟨gb249, 0, none⟩ = some (.int .i64 a0_0) ∧ w'.cell? ⟨gb249, 1, none⟩ = some (.slice A0_1 l0_1.length c0_1) ∧ w'.cell? (ad268.add (x12_2).toNat) = some (.int .i64 (rd l3 x12_2))) (ds := []) #[false, false, false, false, false, false, false, false, false, false, false, false] (by kernel_rfl) rfl rfl ⟨(blk_cell BK249.out 0).trans rfl, (blk_cell BK249.out 1).trans rfl, ((HB.out.cell (World.block_lt_of_cell? w _ hw268_0)).trans hw268_0)⟩ (fun hHeld => ?_); refine with_tabW taquinlaw18_PetriKeeps.tab20 taquinlaw18_PetriKeeps.bits20 (fun HT_ HW_ => ?_); generalize wr.drew = w77 at HO_1 HO_10 HO_11 BK249 HB hx268_0 hHeld ⊢; refine pu 1 92 12 2 rfl rfl HT_ ?_; refine pu 2 93 12 6 rfl rfl HT_ ?_; refine pu 3 94 12 14 rfl rfl HT_ ?_; refine pu 4 95 12 30 rfl rfl HT_ ?_; refine ta3 0 91 12 31 rfl rfl HT_ HW_ hHeld ?_; refine ta3 5 96 12 63 rfl rfl HT_ HW_ hHeld ?_; refine one_ (i := 6) (N := some 97) #[true, true, true, true, true, true, true, false, false, false, false, false] rfl rfl (one_of HT_.out (by kernel_rfl)) (by decide) (fun K hK => ?_); refine goes_ Tryd.func15 (by kernel_rfl) rfl #[.agg #[.int .i64 a0_0, .slice A0_1 l0_1.length c0_1], .slice Ao78 x1_2.length co78, .int .i64 (rd l3 x12_2)] (by rfl) rfl rfl (by (try simp only [List.map_toArray, List.map_cons, List.map_nil]); first | done | rfl | (simp only [List.length_drop, List.length_take]; rfl)) ?_; with_reducible refine (petri_Fire.calls k4 a0_0 _ _ l0_1 _ _ x1_2 (rd l3 x12_2) t269 t272 _ ?side1 ?side2 ?side3 ?side4 A51.out).mono ?_
                   (case side1 => repeat (first | exact (Kd.C_below HR0_1.out HB.out) | (with_reducible refine Kd.C_alloc ?_ _) | (with_reducible refine Kd.C_drewN ?_ _) | (with_reducible refine Kd.C_drew ?_)))
                   (case side2 => exact HC0_1.out)
                   (case side3 => repeat (first | exact (Kd.V_reads' HO_1.out).2.2 | (with_reducible refine Kd.C_alloc ?_ _) | (with_reducible refine Kd.C_drewN ?_ _) | (with_reducible refine Kd.C_drew ?_)))
                   (case side4 => exact (Kd.V_reads' HO_1.out).2.1)
                   rintro e w79 ⟨v270, rfl, ho0, hb⟩; refine ⟨_, rfl, ?_⟩; have n0_ := Aside0.mk (Kd.V_elder' (by (with_reducible repeat (first | apply Kd.V_alloc | apply Kd.V_drewN | apply Kd.V_drew)); exact HO_1.out) (Kd.R_base ho0) hb); have n1_ := Aside0.mk (Kd.R_elder' (by (with_reducible repeat (first | apply Kd.R_alloc | apply Kd.R_drewN | apply Kd.R_drew)); exact HO_10.out) (Kd.R_base ho0) hb); have n2_ := Aside0.mk (Kd.R_elder' (by (with_reducible repeat (first | apply Kd.R_alloc | apply Kd.R_drewN | apply Kd.R_drew)); exact HO_11.out) (Kd.R_base ho0) hb); have n3_ := Aside0.mk (Kd.R_lower (Kd.R_new' (Kd.R_new' (Kd.R_newM (M := fun k_ => (w.heap.size ≤ k_)) ho0 (below_size (by repeat (first | (with_reducible first | exact HB.out | apply below_alloc | apply pw_below_drewN | apply below_drew1 | refine below_set ?_ GE249.out) | exact HB.out))) (fun k_ h_ => h_)) (Kd.R_lt (by (with_reducible repeat (first | apply Kd.R_alloc | apply Kd.R_drewN | apply Kd.R_drew)); exact HO_10.out))) (Kd.R_lt (by (with_reducible repeat (first | apply Kd.R_alloc | apply Kd.R_drewN | apply Kd.R_drew)); exact HO_11.out))) (below_size (by repeat (first | (with_reducible first | exact HB.out | apply below_alloc | apply pw_below_drewN | apply below_drew1 | refine below_set ?_ GE249.out) | exact HB.out)))); have n4_ := Aside0.mk (blk_below (g := gb249) (o := .cells #[.int .i64 a0_0, .slice A0_1 l0_1.length c0_1] 24 (0, 0)) (by (with_reducible repeat (first | refine blk_drewN ?_ _ | refine blk_drew ?_ | refine blk_alloc ?_ _)); exact BK249.out) hb); have n5_ := Aside0.mk (below_step (by repeat (first | (with_reducible first | exact HB.out | apply below_alloc | apply pw_below_drewN | apply below_drew1 | refine below_set ?_ GE249.out) | exact HB.out)) hb); clear HO_1; clear HO_10; clear HO_11; clear BK249; clear HB; have HO_1 := n0_; have HO_10 := n1_; have HO_11 := n2_; have HO271 := n3_; have BK249 := n4_; have HB := n5_; clear n0_ n1_ n2_ n3_ n4_ n5_
                   (try clear hb)
                   (try clear hb2)
                   (try clear hk)
                   (try clear hi)
                   (try clear ho0)
                   refine hK.out _ _ ⟨(blk_cell BK249.out 0).trans rfl, (blk_cell BK249.out 1).trans rfl, ((HB.out.cell (World.block_lt_of_cell? w _ hw268_0)).trans hw268_0)⟩ (fun hHeld => ?_); clear hK K; refine norm_ (a' := ?_) ?_ ?_; rotate_left
                   ·show Act.put _ (some 97) _ = _; simp only [Act.put, List.setIfInBounds_toArray, List.set_cons_zero, List.set_cons_succ, i64_w, i32_w]; rfl
                   refine pu 7 90 12 255 rfl rfl HT_ ?_; refine pu 8 98 12 511 rfl rfl HT_ ?_; refine pu 9 99 12 1023 rfl rfl HT_ ?_; refine pu 10 17 12 2047 rfl rfl HT_ ?_; refine pu 11 18 12 4095 rfl rfl HT_ ?_; refine done_ (done_of HT_.out (by kernel_rfl)) ?_; obtain ⟨Ao80, co80, eo80⟩ := Kd.R_slice HO271.out; subst eo80; have hcz81_0 : w79.cell? ⟨gb249, 0, none⟩ = some (.int .i64 a0_0) := (blk_cell BK249.out 0).trans rfl; have hcz81_1 : w79.cell? ⟨gb249, 1, none⟩ = some (.slice A0_1 l0_1.length c0_1) := (blk_cell BK249.out 1).trans rfl; have hfz81_0 := blk_frozen BK249.out 0; have hfz81_1 := blk_frozen BK249.out 1; (try go_wp2); go_ret; exact ⟨by first | rfl | (simp [errW_none, errW_some] <;> rfl) | (simp [*, errW_none, errW_some] <;> rfl), by repeat (first | (with_reducible first | exact HB.out | apply below_alloc | apply pw_below_drewN | apply below_drew1 | refine below_set ?_ GE249.out) | exact HB.out)⟩
                 ·rw [if_neg c52] at H; have c52b0 : (t272 == 0) = false := beq_eq_false_iff_ne.mpr c52; have c52b1 : (t272 != 0) = true := bne_iff_ne.mpr c52; have H' := Aside0.mk H; clear H; obtain ⟨Ao82, co82, eo82⟩ := Kd.R_slice HO_11.out; subst eo82; (try go_wp2); have n0_ := Aside0.mk (Kd.V_drew HO_1.out); have n1_ := Aside0.mk (Kd.R_drew HO_10.out); have n2_ := Aside0.mk (Kd.R_drew HO_11.out); have n3_ := Aside0.mk (blk_drew BK249.out); have n4_ := Aside0.mk (below_drew1 HB.out); clear HO_1; clear HO_10; clear HO_11; clear BK249; clear HB; have HO_1 := n0_; have HO_10 := n1_; have HO_11 := n2_; have BK249 := n3_; have HB := n4_; clear n0_ n1_ n2_ n3_ n4_; have p268 : 0 ≤ (x12_2 : Int) := of_decide_eq_true (by first | (with_reducible assumption) | assumption); have q268 : x12_2 < (l3.length : Int) := of_decide_eq_true (by first | (with_reducible assumption) | assumption); obtain ⟨ad268, e268, hx268_0⟩ := Kd.at_int HR3.out x12_2 p268 q268; have hw268_0 := hx268_0; cases e268; replace hx268_0 := (HB.out.cell (World.block_lt_of_cell? w _ hx268_0)).trans hx268_0; replace p268 := eq_true p268; replace q268 := eq_true q268; obtain ⟨Ao84, co84, eo84⟩ := Kd.V_slice HO_1.out
                  (first | subst eo84 | (injection eo84 with f1_ f2_ f3_; have f4_ := f1_.symm; have f5_ := f3_.symm; clear f1_ f2_ f3_; subst f4_; subst f5_))
                  refine start_ (n := 12) (S := fun w' => w'.cell? ⟨gb249, 0, none⟩ = some (.int .i64 a0_0) ∧ w'.cell? ⟨gb249, 1, none⟩ = some (.slice A0_1 l0_1.length c0_1) ∧ w'.cell? (ad268.add (x12_2).toNat) = some (.int .i64 (rd l3 x12_2))) (ds := []) #[false, false, false, false, false, false, false, false, false, false, false, false] (by kernel_rfl) rfl rfl ⟨(blk_cell BK249.out 0).trans rfl, (blk_cell BK249.out 1).trans rfl, ((HB.out.cell (World.block_lt_of_cell? w _ hw268_0)).trans hw268_0)⟩ (fun hHeld => ?_); refine with_tabW taquinlaw18_PetriKeeps.tab20 taquinlaw18_PetriKeeps.bits20 (fun HT_ HW_ => ?_); generalize wr.drew = w83 at HO_1 HO_10 HO_11 BK249 HB hx268_0 hHeld ⊢; refine pu 1 92 12 2 rfl rfl HT_ ?_; refine pu 2 93 12 6 rfl rfl HT_ ?_; refine pu 3 94 12 14 rfl rfl HT_ ?_; refine pu 4 95 12 30 rfl rfl HT_ ?_; refine ta3 0 91 12 31 rfl rfl HT_ HW_ hHeld ?_; refine ta3 5 96 12 63 rfl rfl HT_ HW_ hHeld ?_; refine one_ (i := 6) (N := some 97) #[true, true, true, true, true, true, true, false, false, false, false, false] rfl rfl (one_of HT_.out (by kernel_rfl)) (by decide) (fun K hK => ?_); refine goes_ Tryd.func15 (by kernel_rfl) rfl #[.agg #[.int .i64 a0_0, .slice A0_1 l0_1.length c0_1], .slice Ao84 x1_2.length co84, .int .i64 (rd l3 x12_2)] (by rfl) rfl rfl (by (try simp only [List.map_toArray, List.map_cons, List.map_nil]); first | done | rfl | (simp only [List.length_drop, List.length_take]; rfl)) ?_; with_reducible refine (petri_Fire.calls k4 a0_0 _ _ l0_1 _ _ x1_2 (rd l3 x12_2) t269 t272 _ ?side1 ?side2 ?side3 ?side4 A51.out).mono ?_
                  (case side1 => repeat (first | exact (Kd.C_below HR0_1.out HB.out) | (with_reducible refine Kd.C_alloc ?_ _) | (with_reducible refine Kd.C_drewN ?_ _) | (with_reducible refine Kd.C_drew ?_)))
                  (case side2 => exact HC0_1.out)
                  (case side3 => repeat (first | exact (Kd.V_reads' HO_1.out).2.2 | (with_reducible refine Kd.C_alloc ?_ _) | (with_reducible refine Kd.C_drewN ?_ _) | (with_reducible refine Kd.C_drew ?_)))
                  (case side4 => exact (Kd.V_reads' HO_1.out).2.1)
                  rintro e w85 ⟨v270, rfl, ho0, hb⟩; refine ⟨_, rfl, ?_⟩; have n0_ := Aside0.mk (Kd.V_elder' (by (with_reducible repeat (first | apply Kd.V_alloc | apply Kd.V_drewN | apply Kd.V_drew)); exact HO_1.out) (Kd.R_base ho0) hb); have n1_ := Aside0.mk (Kd.R_elder' (by (with_reducible repeat (first | apply Kd.R_alloc | apply Kd.R_drewN | apply Kd.R_drew)); exact HO_10.out) (Kd.R_base ho0) hb); have n2_ := Aside0.mk (Kd.R_elder' (by (with_reducible repeat (first | apply Kd.R_alloc | apply Kd.R_drewN | apply Kd.R_drew)); exact HO_11.out) (Kd.R_base ho0) hb); have n3_ := Aside0.mk (Kd.R_lower (Kd.R_new' (Kd.R_new' (Kd.R_newM (M := fun k_ => (w.heap.size ≤ k_)) ho0 (below_size (by repeat (first | (with_reducible first | exact HB.out | apply below_alloc | apply pw_below_drewN | apply below_drew1 | refine below_set ?_ GE249.out) | exact HB.out))) (fun k_ h_ => h_)) (Kd.R_lt (by (with_reducible repeat (first | apply Kd.R_alloc | apply Kd.R_drewN | apply Kd.R_drew)); exact HO_10.out))) (Kd.R_lt (by (with_reducible repeat (first | apply Kd.R_alloc | apply Kd.R_drewN | apply Kd.R_drew)); exact HO_11.out))) (below_size (by repeat (first | (with_reducible first | exact HB.out | apply below_alloc | apply pw_below_drewN | apply below_drew1 | refine below_set ?_ GE249.out) | exact HB.out)))); have n4_ := Aside0.mk (blk_below (g := gb249) (o := .cells #[.int .i64 a0_0, .slice A0_1 l0_1.length c0_1] 24 (0, 0)) (by (with_reducible repeat (first | refine blk_drewN ?_ _ | refine blk_drew ?_ | refine blk_alloc ?_ _)); exact BK249.out) hb); have n5_ := Aside0.mk (below_step (by repeat (first | (with_reducible first | exact HB.out | apply below_alloc | apply pw_below_drewN | apply below_drew1 | refine below_set ?_ GE249.out) | exact HB.out)) hb); clear HO_1; clear HO_10; clear HO_11; clear BK249; clear HB; have HO_1 := n0_; have HO_10 := n1_; have HO_11 := n2_; have HO271 := n3_; have BK249 := n4_; have HB := n5_; clear n0_ n1_ n2_ n3_ n4_ n5_
                  (try clear hb)
                  (try clear hb2)
                  (try clear hk)
                  (try clear hi)
                  (try clear ho0)
                  refine hK.out _ _ ⟨(blk_cell BK249.out 0).trans rfl, (blk_cell BK249.out 1).trans rfl, ((HB.out.cell (World.block_lt_of_cell? w _ hw268_0)).trans hw268_0)⟩ (fun hHeld => ?_); clear hK K; refine norm_ (a' := ?_) ?_ ?_; rotate_left
                  ·show Act.put _ (some 97) _ = _; simp only [Act.put, List.setIfInBounds_toArray, List.set_cons_zero, List.set_cons_succ, i64_w, i32_w]; rfl
                  refine pu 7 90 12 255 rfl rfl HT_ ?_; refine pu 8 98 12 511 rfl rfl HT_ ?_; refine pu 9 99 12 1023 rfl rfl HT_ ?_; refine pu 10 17 12 2047 rfl rfl HT_ ?_; refine pu 11 18 12 4095 rfl rfl HT_ ?_; refine done_ (done_of HT_.out (by kernel_rfl)) ?_; (try go_wp2); go_roundg k4
                  case measure => have := HJ5.out; have := HK2.out; have := HK3.out; have := HK4.out; omega
                  case rel => exact ⟨(x1_2), (wrap64 (x12_2 + 1)), (by first | rfl | (simp; done) | (simp [*]; done)), H', ⟨by have := HJ5.out; have := HK2.out; have := HK3.out; have := HK4.out; omega⟩, ⟨by (with_reducible repeat (first | apply Kd.V_alloc | apply Kd.V_drewN | apply Kd.V_drew)); exact Kd.V_mono HO_1.out (fun _ hk => ⟨hk.1.1, ⟨hk.1.2.1, ⟨hk.1.2.2.1, hk.1.2.2.2⟩⟩⟩)⟩, ⟨by (with_reducible repeat (first | apply Kd.R_alloc | apply Kd.R_drewN | apply Kd.R_drew)); exact Kd.R_mono HO_10.out (fun _ hk => ⟨hk.1.1, hk.1.2⟩)⟩, ⟨by (with_reducible repeat (first | apply Kd.R_alloc | apply Kd.R_drewN | apply Kd.R_drew)); exact Kd.R_mono HO_11.out (fun _ hk => ⟨hk.1.1, hk.1.2⟩)⟩, ⟨by (with_reducible repeat (first | refine blk_drewN ?_ _ | refine blk_drew ?_ | refine blk_alloc ?_ _)); exact BK249.out⟩, ⟨by repeat (first | (with_reducible first | exact HB.out | apply below_alloc | apply pw_below_drewN | apply below_drew1 | refine below_set ?_ GE249.out) | exact HB.out)⟩⟩
                ·rw [if_neg c50] at H; exact absurd H (by simp)
               ·rw [if_neg c49] at H; exact absurd H (by simp)
       ·rw [if_neg c29] at H; have c29b0 : decide (x12_2 ≤ (l3.length : Int)) = false := decide_eq_false c29; clear c29
        (first | rw [c29b0] | (simp only [i64_w, i32_w]; rw [c29b0]) | skip)
        have H' := Aside0.mk H; clear H; go_wp2
        go_meet
        case rel => exact ⟨_, H', ⟨by have := HJ5.out; have := HK2.out; first | omega | exact Nat.le_refl _⟩, ⟨by (with_reducible repeat (first | apply Kd.R_alloc | apply Kd.R_drewN | apply Kd.R_drew)); exact HO_10.out⟩, ⟨by (with_reducible repeat (first | apply Kd.R_alloc | apply Kd.R_drewN | apply Kd.R_drew)); exact HO_11.out⟩, ⟨by (with_reducible repeat (first | refine blk_drewN ?_ _ | refine blk_drew ?_ | refine blk_alloc ?_ _)); exact BK249.out⟩, ⟨by repeat (first | (with_reducible first | exact HB.out | apply below_alloc | apply pw_below_drewN | apply below_drew1 | refine below_set ?_ GE249.out) | exact HB.out)⟩⟩
    case rest =>
     clear HC20; (try clear c1); (try clear c2); (try clear p2); (try clear q2); (try clear hx2); (try clear c3); (try clear c4); (try clear c5); (try clear c6); (try clear p6); (try clear c7); (try clear c8); (try clear c9); (try clear c10); (try clear c13); (try clear c14); (try clear c15); (try clear p26); (try clear q26); (try clear hx26); (try clear p27); (try clear q27); (try clear hx27); (try clear c29); (try clear c29b0); (try clear c30); (try clear c30b0); (try clear c31); (try clear c32); (try clear c32b0); (try clear c33); (try clear c33b0); (try clear c34); (try clear c34b0); (try clear c39); (try clear c39b0); (try clear c40); (try clear c42); (try clear c42b0); (try clear c43); (try clear c43b0); (try clear c44); (try clear c44b0); (try clear c47); (try clear c47b0); (try clear c47b1); (try clear c49); (try clear c49b0); (try clear c50); (try clear c50b0); (try clear c52); (try clear c52b0); (try clear c52b1); (try clear c53); (try clear c53b0); (try clear c53b1); (try clear c60); (try clear c60b0); (try clear c61); (try clear c62); (try clear c62b0); (try clear c63); (try clear c63b0); (try clear c64); (try clear c64b0); (try clear p64); (try clear c65); (try clear c65b0); (try clear c66); (try clear c67); (try clear c67b0); (try clear c68); (try clear c68b0); (try clear c69); (try clear c69b0); (try clear c71); (try clear c72); (try clear c73); (try clear c74); (try clear c75); (try clear hcz11_0); (try clear hcz11_1); (try clear hcz13_0); (try clear hcz13_1); (try clear hcz59_0); (try clear hcz59_1); (try clear hcz81_0); (try clear hcz81_1); (try clear hfz11_0); (try clear hfz11_1); (try clear hfz13_0); (try clear hfz13_1); (try clear hfz59_0); (try clear hfz59_1); (try clear hfz81_0); (try clear hfz81_1); (try clear hx264_0); (try clear hx265_0); (try clear hx266_0); (try clear hx267_0); (try clear hx268_0); (try clear hx273_0); (try clear hx274_0); (try clear hx275_0); (try clear hx276_0); (try clear p2); (try clear p26); (try clear p264); (try clear p265)
     (try clear p266); (try clear p267); (try clear p268); (try clear p27); (try clear p273); (try clear p274); (try clear p275); (try clear p276); (try clear p6); (try clear p64); (try clear q2); (try clear q26); (try clear q264); (try clear q265); (try clear q266); (try clear q267); (try clear q268); (try clear q27); (try clear q273); (try clear q274); (try clear q275); (try clear q276); obtain ⟨kq, HA, HJ19, HO_10, HO_11, BK249, HB⟩ := hcut
     cases kq with
     | zero => exact absurd HA.out (by simp [taquinlaw18_PetriKeeps.j7])
     | succ kj19 =>
      have H := HA.out; clear HA; simp only [taquinlaw18_PetriKeeps.j7] at H
      by_cases c86 : t250 = true
      ·subst c86; have H1 : (if (t255.length : Int) = 0 then (if (t261.length : Int) = 0 then (some true) else ((petri_IsTrap.f kj19 a0_0 l0_1 t261).bind fun t277 => (some t277))) else ((petri_IsSiphon.f kj19 a0_0 l0_1 t255).bind fun t278 => (if t278 = true then (if (t261.length : Int) = 0 then (some true) else ((petri_IsTrap.f kj19 a0_0 l0_1 t261).bind fun t279 => (some t279))) else (some false)))) = some r := by rw [if_pos rfl] at H; exact H
       clear H; have H := H1; clear H1
       by_cases c87 : (t255.length : Int) = 0
       ·rw [if_pos c87] at H; have c87b0 : ((t255.length : Int) == 0) = true := beq_iff_eq.mpr c87; have c87b1 : ((t255.length : Int) != 0) = false := bne_eq_false_iff_eq.mpr c87; clear c87
        by_cases c88 : (t261.length : Int) = 0
        ·rw [if_pos c88] at H; have c88b0 : ((t261.length : Int) == 0) = true := beq_iff_eq.mpr c88; have c88b1 : ((t261.length : Int) != 0) = false := bne_eq_false_iff_eq.mpr c88; clear c88; obtain rfl := Option.some.inj H; obtain ⟨Ao89, co89, eo89⟩ := Kd.R_slice HO_10.out; subst eo89; obtain ⟨Ao90, co90, eo90⟩ := Kd.R_slice HO_11.out; subst eo90; go_wp2; go_ret; exact ⟨by first | rfl | (simp [errW_none, errW_some] <;> rfl) | (simp [*, errW_none, errW_some] <;> rfl), by repeat (first | (with_reducible first | exact HB.out | apply below_alloc | apply pw_below_drewN | apply below_drew1 | refine below_set ?_ GE249.out) | exact HB.out)⟩
        ·rw [if_neg c88] at H; have c88b0 : ((t261.length : Int) == 0) = false := beq_eq_false_iff_ne.mpr c88; have c88b1 : ((t261.length : Int) != 0) = true := bne_iff_ne.mpr c88; have c88b2 : ¬ (t261 = []) := fun h_ => c88 (by rw [h_]; rfl); replace H := Option.bind_eq_some_iff.mp H; obtain ⟨t277, A910, H⟩ := H; replace H : (some t277) = some r := H; have A91 := Aside0.mk A910; clear A910; obtain rfl := Option.some.inj H; obtain ⟨Ao92, co92, eo92⟩ := Kd.R_slice HO_10.out; subst eo92; obtain ⟨Ao93, co93, eo93⟩ := Kd.R_slice HO_11.out; subst eo93; have hcz94_0 : wc.cell? ⟨gb249, 0, none⟩ = some (.int .i64 a0_0) := (blk_cell BK249.out 0).trans rfl; have hcz94_1 : wc.cell? ⟨gb249, 1, none⟩ = some (.slice A0_1 l0_1.length c0_1) := (blk_cell BK249.out 1).trans rfl; have hfz94_0 := blk_frozen BK249.out 0; have hfz94_1 := blk_frozen BK249.out 1
         go_wp2_with (first | (go_at_call 16; (with_reducible refine (petri_IsTrap.calls kj19 a0_0 _ _ l0_1 _ _ t261 t277 _ ?side1 ?side2 ?side3 ?side4 A91.out).mono ?_); (case side1 => repeat (first | exact (Kd.C_below HR0_1.out HB.out) | (with_reducible refine Kd.C_alloc ?_ _) | (with_reducible refine Kd.C_drewN ?_ _) | (with_reducible refine Kd.C_drew ?_))); (case side2 => exact HC0_1.out); (case side3 => repeat (first | exact (Kd.R_reads' HO_11.out).2.2 | (with_reducible refine Kd.C_alloc ?_ _) | (with_reducible refine Kd.C_drewN ?_ _) | (with_reducible refine Kd.C_drew ?_))); (case side4 => exact (Kd.R_reads' HO_11.out).2.1); rintro e w95 ⟨rfl, hb⟩; have n0_ := Aside0.mk (Kd.R_below (by (with_reducible repeat (first | apply Kd.R_alloc | apply Kd.R_drewN | apply Kd.R_drew)); exact HO_10.out) hb); have n1_ := Aside0.mk (Kd.R_below (by (with_reducible repeat (first | apply Kd.R_alloc | apply Kd.R_drewN | apply Kd.R_drew)); exact HO_11.out) hb); have n2_ := Aside0.mk (blk_below (g := gb249) (o := .cells #[.int .i64 a0_0, .slice A0_1 l0_1.length c0_1] 24 (0, 0)) (by (with_reducible repeat (first | refine blk_drewN ?_ _ | refine blk_drew ?_ | refine blk_alloc ?_ _)); exact BK249.out) hb); have n3_ := Aside0.mk (below_step (by repeat (first | (with_reducible first | exact HB.out | apply below_alloc | apply pw_below_drewN | apply below_drew1 | refine below_set ?_ GE249.out) | exact HB.out)) hb); clear HO_10; clear HO_11; clear BK249; clear HB; have HO_10 := n0_; have HO_11 := n1_; have BK249 := n2_; have HB := n3_; clear n0_ n1_ n2_ n3_; (try clear hb); (try clear hb2); (try clear hk); (try clear hi)))
         go_ret; exact ⟨by first | rfl | (simp [errW_none, errW_some] <;> rfl) | (simp [*, errW_none, errW_some] <;> rfl), by repeat (first | (with_reducible first | exact HB.out | apply below_alloc | apply pw_below_drewN | apply below_drew1 | refine below_set ?_ GE249.out) | exact HB.out)⟩
       ·rw [if_neg c87] at H; have c87b0 : ((t255.length : Int) == 0) = false := beq_eq_false_iff_ne.mpr c87; have c87b1 : ((t255.length : Int) != 0) = true := bne_iff_ne.mpr c87; have c87b2 : ¬ (t255 = []) := fun h_ => c87 (by rw [h_]; rfl); replace H := Option.bind_eq_some_iff.mp H; obtain ⟨t278, A960, H⟩ := H; replace H : (if t278 = true then (if (t261.length : Int) = 0 then (some true) else ((petri_IsTrap.f kj19 a0_0 l0_1 t261).bind fun t279 => (some t279))) else (some false)) = some r := H; have A96 := Aside0.mk A960; clear A960
        by_cases c97 : t278 = true
        ·subst c97; have H1 : (if (t261.length : Int) = 0 then (some true) else ((petri_IsTrap.f kj19 a0_0 l0_1 t261).bind fun t279 => (some t279))) = some r := by rw [if_pos rfl] at H; exact H
         clear H; have H := H1; clear H1
         by_cases c98 : (t261.length : Int) = 0
         ·rw [if_pos c98] at H; have c98b0 : ((t261.length : Int) == 0) = true := beq_iff_eq.mpr c98; have c98b1 : ((t261.length : Int) != 0) = false := bne_eq_false_iff_eq.mpr c98; clear c98; obtain rfl := Option.some.inj H; obtain ⟨Ao99, co99, eo99⟩ := Kd.R_slice HO_10.out; subst eo99; have hcz100_0 : wc.cell? ⟨gb249, 0, none⟩ = some (.int .i64 a0_0) := (blk_cell BK249.out 0).trans rfl; have hcz100_1 : wc.cell? ⟨gb249, 1, none⟩ = some (.slice A0_1 l0_1.length c0_1) := (blk_cell BK249.out 1).trans rfl; have hfz100_0 := blk_frozen BK249.out 0; have hfz100_1 := blk_frozen BK249.out 1
          go_wp2_with (first | (go_at_call 12; (with_reducible refine (petri_IsSiphon.calls kj19 a0_0 _ _ l0_1 _ _ t255 true _ ?side1 ?side2 ?side3 ?side4 A96.out).mono ?_); (case side1 => repeat (first | exact (Kd.C_below HR0_1.out HB.out) | (with_reducible refine Kd.C_alloc ?_ _) | (with_reducible refine Kd.C_drewN ?_ _) | (with_reducible refine Kd.C_drew ?_))); (case side2 => exact HC0_1.out); (case side3 => repeat (first | exact (Kd.R_reads' HO_10.out).2.2 | (with_reducible refine Kd.C_alloc ?_ _) | (with_reducible refine Kd.C_drewN ?_ _) | (with_reducible refine Kd.C_drew ?_))); (case side4 => exact (Kd.R_reads' HO_10.out).2.1); rintro e w101 ⟨rfl, hb⟩; have n0_ := Aside0.mk (Kd.R_below (by (with_reducible repeat (first | apply Kd.R_alloc | apply Kd.R_drewN | apply Kd.R_drew)); exact HO_10.out) hb); have n1_ := Aside0.mk (Kd.R_below (by (with_reducible repeat (first | apply Kd.R_alloc | apply Kd.R_drewN | apply Kd.R_drew)); exact HO_11.out) hb); have n2_ := Aside0.mk (blk_below (g := gb249) (o := .cells #[.int .i64 a0_0, .slice A0_1 l0_1.length c0_1] 24 (0, 0)) (by (with_reducible repeat (first | refine blk_drewN ?_ _ | refine blk_drew ?_ | refine blk_alloc ?_ _)); exact BK249.out) hb); have n3_ := Aside0.mk (below_step (by repeat (first | (with_reducible first | exact HB.out | apply below_alloc | apply pw_below_drewN | apply below_drew1 | refine below_set ?_ GE249.out) | exact HB.out)) hb); clear HO_10; clear HO_11; clear BK249; clear HB; have HO_10 := n0_; have HO_11 := n1_; have BK249 := n2_; have HB := n3_; clear n0_ n1_ n2_ n3_; (try clear hb); (try clear hb2); (try clear hk); (try clear hi); obtain ⟨Ao102, co102, eo102⟩ := Kd.R_slice HO_11.out; subst eo102))
          go_ret; exact ⟨by first | rfl | (simp [errW_none, errW_some] <;> rfl) | (simp [*, errW_none, errW_some] <;> rfl), by repeat (first | (with_reducible first | exact HB.out | apply below_alloc | apply pw_below_drewN | apply below_drew1 | refine below_set ?_ GE249.out) | exact HB.out)⟩
         ·rw [if_neg c98] at H; have c98b0 : ((t261.length : Int) == 0) = false := beq_eq_false_iff_ne.mpr c98; have c98b1 : ((t261.length : Int) != 0) = true := bne_iff_ne.mpr c98; have c98b2 : ¬ (t261 = []) := fun h_ => c98 (by rw [h_]; rfl); replace H := Option.bind_eq_some_iff.mp H; obtain ⟨t279, A1030, H⟩ := H; replace H : (some t279) = some r := H; have A103 := Aside0.mk A1030; clear A1030; obtain rfl := Option.some.inj H; obtain ⟨Ao104, co104, eo104⟩ := Kd.R_slice HO_10.out; subst eo104; have hcz105_0 : wc.cell? ⟨gb249, 0, none⟩ = some (.int .i64 a0_0) := (blk_cell BK249.out 0).trans rfl; have hcz105_1 : wc.cell? ⟨gb249, 1, none⟩ = some (.slice A0_1 l0_1.length c0_1) := (blk_cell BK249.out 1).trans rfl; have hfz105_0 := blk_frozen BK249.out 0; have hfz105_1 := blk_frozen BK249.out 1
          go_wp2_with (first | (go_at_call 12; (with_reducible refine (petri_IsSiphon.calls kj19 a0_0 _ _ l0_1 _ _ t255 true _ ?side1 ?side2 ?side3 ?side4 A96.out).mono ?_); (case side1 => repeat (first | exact (Kd.C_below HR0_1.out HB.out) | (with_reducible refine Kd.C_alloc ?_ _) | (with_reducible refine Kd.C_drewN ?_ _) | (with_reducible refine Kd.C_drew ?_))); (case side2 => exact HC0_1.out); (case side3 => repeat (first | exact (Kd.R_reads' HO_10.out).2.2 | (with_reducible refine Kd.C_alloc ?_ _) | (with_reducible refine Kd.C_drewN ?_ _) | (with_reducible refine Kd.C_drew ?_))); (case side4 => exact (Kd.R_reads' HO_10.out).2.1); rintro e w106 ⟨rfl, hb⟩; have n0_ := Aside0.mk (Kd.R_below (by (with_reducible repeat (first | apply Kd.R_alloc | apply Kd.R_drewN | apply Kd.R_drew)); exact HO_10.out) hb); have n1_ := Aside0.mk (Kd.R_below (by (with_reducible repeat (first | apply Kd.R_alloc | apply Kd.R_drewN | apply Kd.R_drew)); exact HO_11.out) hb); have n2_ := Aside0.mk (blk_below (g := gb249) (o := .cells #[.int .i64 a0_0, .slice A0_1 l0_1.length c0_1] 24 (0, 0)) (by (with_reducible repeat (first | refine blk_drewN ?_ _ | refine blk_drew ?_ | refine blk_alloc ?_ _)); exact BK249.out) hb); have n3_ := Aside0.mk (below_step (by repeat (first | (with_reducible first | exact HB.out | apply below_alloc | apply pw_below_drewN | apply below_drew1 | refine below_set ?_ GE249.out) | exact HB.out)) hb); clear HO_10; clear HO_11; clear BK249; clear HB; have HO_10 := n0_; have HO_11 := n1_; have BK249 := n2_; have HB := n3_; clear n0_ n1_ n2_ n3_; (try clear hb); (try clear hb2); (try clear hk); (try clear hi); obtain ⟨Ao107, co107, eo107⟩ := Kd.R_slice HO_11.out; subst eo107; have hcz108_0 : w106.cell? ⟨gb249, 0, none⟩ = some (.int .i64 a0_0) := (blk_cell BK249.out 0).trans rfl; have hcz108_1 : w106.cell? ⟨gb249, 1, none⟩ = some (.slice A0_1 l0_1.length c0_1) := (blk_cell BK249.out 1).trans rfl; have hfz108_0 := blk_frozen BK249.out 0; have hfz108_1 := blk_frozen BK249.out 1) | (go_at_call 16; (with_reducible refine (petri_IsTrap.calls kj19 a0_0 _ _ l0_1 _ _ t261 t279 _ ?side1 ?side2 ?side3 ?side4 A103.out).mono ?_); (case side1 => repeat (first | exact (Kd.C_below HR0_1.out HB.out) | (with_reducible refine Kd.C_alloc ?_ _) | (with_reducible refine Kd.C_drewN ?_ _) | (with_reducible refine Kd.C_drew ?_))); (case side2 => exact HC0_1.out); (case side3 => repeat (first | exact (Kd.R_reads' HO_11.out).2.2 | (with_reducible refine Kd.C_alloc ?_ _) | (with_reducible refine Kd.C_drewN ?_ _) | (with_reducible refine Kd.C_drew ?_))); (case side4 => exact (Kd.R_reads' HO_11.out).2.1); rintro e w109 ⟨rfl, hb⟩; have n0_ := Aside0.mk (Kd.R_below (by (with_reducible repeat (first | apply Kd.R_alloc | apply Kd.R_drewN | apply Kd.R_drew)); exact HO_10.out) hb); have n1_ := Aside0.mk (Kd.R_below (by (with_reducible repeat (first | apply Kd.R_alloc | apply Kd.R_drewN | apply Kd.R_drew)); exact HO_11.out) hb); have n2_ := Aside0.mk (blk_below (g := gb249) (o := .cells #[.int .i64 a0_0, .slice A0_1 l0_1.length c0_1] 24 (0, 0)) (by (with_reducible repeat (first | refine blk_drewN ?_ _ | refine blk_drew ?_ | refine blk_alloc ?_ _)); exact BK249.out) hb); have n3_ := Aside0.mk (below_step (by repeat (first | (with_reducible first | exact HB.out | apply below_alloc | apply pw_below_drewN | apply below_drew1 | refine below_set ?_ GE249.out) | exact HB.out)) hb); clear HO_10; clear HO_11; clear BK249; clear HB; have HO_10 := n0_; have HO_11 := n1_; have BK249 := n2_; have HB := n3_; clear n0_ n1_ n2_ n3_; (try clear hb); (try clear hb2); (try clear hk); (try clear hi)))
          go_ret; exact ⟨by first | rfl | (simp [errW_none, errW_some] <;> rfl) | (simp [*, errW_none, errW_some] <;> rfl), by repeat (first | (with_reducible first | exact HB.out | apply below_alloc | apply pw_below_drewN | apply below_drew1 | refine below_set ?_ GE249.out) | exact HB.out)⟩
        ·replace c97 := Bool.eq_false_iff.mpr c97; subst c97; have H1 : (some false) = some r := by rw [if_neg (show ¬ (false = true) by decide)] at H; exact H
         clear H; have H := H1; clear H1; obtain rfl := Option.some.inj H; obtain ⟨Ao110, co110, eo110⟩ := Kd.R_slice HO_10.out; subst eo110; have hcz111_0 : wc.cell? ⟨gb249, 0, none⟩ = some (.int .i64 a0_0) := (blk_cell BK249.out 0).trans rfl; have hcz111_1 : wc.cell? ⟨gb249, 1, none⟩ = some (.slice A0_1 l0_1.length c0_1) := (blk_cell BK249.out 1).trans rfl; have hfz111_0 := blk_frozen BK249.out 0; have hfz111_1 := blk_frozen BK249.out 1
         go_wp2_with (first | (go_at_call 12; (with_reducible refine (petri_IsSiphon.calls kj19 a0_0 _ _ l0_1 _ _ t255 false _ ?side1 ?side2 ?side3 ?side4 A96.out).mono ?_); (case side1 => repeat (first | exact (Kd.C_below HR0_1.out HB.out) | (with_reducible refine Kd.C_alloc ?_ _) | (with_reducible refine Kd.C_drewN ?_ _) | (with_reducible refine Kd.C_drew ?_))); (case side2 => exact HC0_1.out); (case side3 => repeat (first | exact (Kd.R_reads' HO_10.out).2.2 | (with_reducible refine Kd.C_alloc ?_ _) | (with_reducible refine Kd.C_drewN ?_ _) | (with_reducible refine Kd.C_drew ?_))); (case side4 => exact (Kd.R_reads' HO_10.out).2.1); rintro e w112 ⟨rfl, hb⟩; have n0_ := Aside0.mk (Kd.R_below (by (with_reducible repeat (first | apply Kd.R_alloc | apply Kd.R_drewN | apply Kd.R_drew)); exact HO_10.out) hb); have n1_ := Aside0.mk (Kd.R_below (by (with_reducible repeat (first | apply Kd.R_alloc | apply Kd.R_drewN | apply Kd.R_drew)); exact HO_11.out) hb); have n2_ := Aside0.mk (blk_below (g := gb249) (o := .cells #[.int .i64 a0_0, .slice A0_1 l0_1.length c0_1] 24 (0, 0)) (by (with_reducible repeat (first | refine blk_drewN ?_ _ | refine blk_drew ?_ | refine blk_alloc ?_ _)); exact BK249.out) hb); have n3_ := Aside0.mk (below_step (by repeat (first | (with_reducible first | exact HB.out | apply below_alloc | apply pw_below_drewN | apply below_drew1 | refine below_set ?_ GE249.out) | exact HB.out)) hb); clear HO_10; clear HO_11; clear BK249; clear HB; have HO_10 := n0_; have HO_11 := n1_; have BK249 := n2_; have HB := n3_; clear n0_ n1_ n2_ n3_; (try clear hb); (try clear hb2); (try clear hk); (try clear hi)))
         go_ret; exact ⟨by first | rfl | (simp [errW_none, errW_some] <;> rfl) | (simp [*, errW_none, errW_some] <;> rfl), by repeat (first | (with_reducible first | exact HB.out | apply below_alloc | apply pw_below_drewN | apply below_drew1 | refine below_set ?_ GE249.out) | exact HB.out)⟩
      ·replace c86 := Bool.eq_false_iff.mpr c86; subst c86; have H1 : (some false) = some r := by rw [if_neg (show ¬ (false = true) by decide)] at H; exact H
       clear H; have H := H1; clear H1; obtain rfl := Option.some.inj H; go_wp2; go_ret; exact ⟨by first | rfl | (simp [errW_none, errW_some] <;> rfl) | (simp [*, errW_none, errW_some] <;> rfl), by repeat (first | (with_reducible first | exact HB.out | apply below_alloc | apply pw_below_drewN | apply below_drew1 | refine below_set ?_ GE249.out) | exact HB.out)⟩

end Go.Proofs.YthpclmkcljmoeaaDoor.P
