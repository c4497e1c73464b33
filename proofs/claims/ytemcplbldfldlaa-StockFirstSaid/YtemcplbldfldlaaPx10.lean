-- BY A PROGRAM OF A SESSION (gprint.py), out of the translation: Lean checks it.
import Derived.Test.YtemcplbldfldlaaPx0
import Derived.Test.YtemcplbldfldlaaPx6
import Derived.Test.YtemcplbldfldlaaPx8
import Derived.Test.YtemcplbldfldlaaPx9
import Derived.Test.YtemcplbldfldlaaGShort
namespace Go.Proofs.Ytemcplbldfldlaa.P
open Go.RowKit Go.Proofs.YtemcplbldfldlaaW.PrintWords Go.Proofs.YtemcplbldfldlaaW.PrintLast Go.Proofs.YtemcplbldfldlaaW.PrintMore
attribute [local go_sem] max2_int min2_int max_two min_two max_three min_three max_four min_four   -- for this text's walks alone
set_option linter.unusedVariables false
set_option linter.unusedSimpArgs false

/-! ### taquinlaw35_StockFirst: function 3 -/
mutual
def taquinlaw35_StockFirst.j0 : Nat → List (S43) → Bool → Bool → List (S53) → List (S40) → List (S38) → Option (Bool)
  | 0, _, _, _, _, _, _ => none
  | k + 1, x1, x5, x22, x216000, x216001, x216002 => if x22 = true then (some x5) else ((stock_Plan.f k x216001 x216002 x1).bind fun bt218 => (if bt218.2 = 0 then (taquinlaw35_StockFirst.j1 k x1 x5 bt218.1 bt218.2 ((bt218.1.length : Int) != (x1.length : Int)) x216000 x216001 x216002) else (taquinlaw35_StockFirst.j1 k x1 x5 bt218.1 bt218.2 true x216000 x216001 x216002)))
def taquinlaw35_StockFirst.j1 : Nat → List (S43) → Bool → List (List (S36)) → Int → Bool → List (S53) → List (S40) → List (S38) → Option (Bool)
  | 0, _, _, _, _, _, _, _, _ => none
  | k + 1, x1, x5, x6, x7, x41, x216000, x216001, x216002 => if x41 = true then (if x5 = true then (some (x7 != 0)) else (some false)) else ((some (([] : List (S38)) : List (S38))).bind fun y222 => (if y222.length + x216002.length < 5864062014805 then (taquinlaw35_StockFirst.l0 k x1 x5 x6 (y222 ++ x216002) 0 x216000 x216001 x216002) else (none)))
def taquinlaw35_StockFirst.l0 : Nat → List (S43) → Bool → List (List (S36)) → List (S38) → Int → List (S53) → List (S40) → List (S38) → Option (Bool)
  | 0, _, _, _, _, _, _, _, _ => none
  | k + 1, x1, x5, x6, x8, x9, x216000, x216001, x216002 => if x9 < (x6.length : Int) then (taquinlaw35_StockFirst.l1 k x1 x5 x6 x8 x9 (-1) 0 x216000 x216001 x216002) else (some x5)
def taquinlaw35_StockFirst.l1 : Nat → List (S43) → Bool → List (List (S36)) → List (S38) → Int → Int → Int → List (S53) → List (S40) → List (S38) → Option (Bool)
  | 0, _, _, _, _, _, _, _, _, _, _ => none
  | k + 1, x1, x5, x6, x8, x9, x10, x11, x216000, x216001, x216002 => if 0 ≤ x9 then (if x9 < (x6.length : Int) then (if x11 < ((rd_L10 x6 x9).length : Int) then (if 0 ≤ x11 then (if ((rd_T36 (rd_L10 x6 x9) x11).f0) < 0 then (taquinlaw35_StockFirst.j4 k x1 x5 x6 x8 x9 x10 x11 ((rd_T36 (rd_L10 x6 x9) x11).f0) true x216000 x216001 x216002) else (taquinlaw35_StockFirst.j4 k x1 x5 x6 x8 x9 x10 x11 ((rd_T36 (rd_L10 x6 x9) x11).f0) (decide (((rd_T36 (rd_L10 x6 x9) x11).f0) ≥ (x8.length : Int))) x216000 x216001 x216002)) else (none)) else (taquinlaw35_StockFirst.l2 k x1 x5 x6 x8 x9 x10 0 x216000 x216001 x216002)) else (none)) else (none)
def taquinlaw35_StockFirst.j4 : Nat → List (S43) → Bool → List (List (S36)) → List (S38) → Int → Int → Int → Int → Bool → List (S53) → List (S40) → List (S38) → Option (Bool)
  | 0, _, _, _, _, _, _, _, _, _, _, _, _ => none
  | k + 1, x1, x5, x6, x8, x9, x10, x11, x12, x81, x216000, x216001, x216002 => if x81 = true then (some false) else (if 0 ≤ x12 then (if x12 < (x8.length : Int) then (if 0 ≤ x9 then (if x9 < (x6.length : Int) then (if 0 ≤ x11 then (if x11 < ((rd_L10 x6 x9).length : Int) then ((some (x8.set (x12 : Int).toNat (⟨(rd_T38 x8 x12).f0, wrap64 (((rd_T38 x8 x12).f1) - ((rd_T36 (rd_L10 x6 x9) x11).f1)), (rd_T38 x8 x12).f2⟩ : S38) : List (S38))).bind fun y234 => (if ((rd_T38 y234 x12).f0) < 0 then (some false) else (if ((rd_T38 y234 x12).f0) ≥ (x216001.length : Int) then (some false) else (if 0 ≤ ((rd_T38 y234 x12).f0) then (if ((rd_T38 y234 x12).f0) < (x216001.length : Int) then (taquinlaw35_StockFirst.l1 k x1 x5 x6 y234 x9 (mx x10 ((rd_T40 x216001 ((rd_T38 y234 x12).f0)).f1)) (wrap64 (x11 + 1)) x216000 x216001 x216002) else (none)) else (none))))) else (none)) else (none)) else (none)) else (none)) else (none)) else (none))
def taquinlaw35_StockFirst.l2 : Nat → List (S43) → Bool → List (List (S36)) → List (S38) → Int → Int → Int → List (S53) → List (S40) → List (S38) → Option (Bool)
  | 0, _, _, _, _, _, _, _, _, _, _ => none
  | k + 1, x1, x5, x6, x8, x9, x10, x13, x216000, x216001, x216002 => if x13 < (x8.length : Int) then (if 0 ≤ x13 then (if 0 ≤ x9 then (if x9 < (x1.length : Int) then ((taquinref35_Has.f x216001 ((rd_T38 x8 x13).f0) ((rd_T38 x8 x13).f1) ((rd_T38 x8 x13).f2) ((rd_T43 x1 x9).f0) ((rd_T43 x1 x9).f1) ((rd_T43 x1 x9).f2)).bind fun t241 => (if t241 = true then (taquinlaw35_StockFirst.j6 k x1 x5 x6 x8 x9 x10 x13 (decide (((rd_T38 x8 x13).f1) > 0)) x216000 x216001 x216002) else (taquinlaw35_StockFirst.j6 k x1 x5 x6 x8 x9 x10 x13 false x216000 x216001 x216002))) else (none)) else (none)) else (none)) else (taquinlaw35_StockFirst.l0 k x1 x5 x6 x8 (wrap64 (x9 + 1)) x216000 x216001 x216002)
def taquinlaw35_StockFirst.j6 : Nat → List (S43) → Bool → List (List (S36)) → List (S38) → Int → Int → Int → Bool → List (S53) → List (S40) → List (S38) → Option (Bool)
  | 0, _, _, _, _, _, _, _, _, _, _, _ => none
  | k + 1, x1, x5, x6, x8, x9, x10, x13, x153, x216000, x216001, x216002 => if x153 = true then (if 0 ≤ x13 then (if x13 < (x8.length : Int) then (if 0 ≤ ((rd_T38 x8 x13).f0) then (if ((rd_T38 x8 x13).f0) < (x216001.length : Int) then (if ((rd_T40 x216001 ((rd_T38 x8 x13).f0)).f1) < x10 then (some false) else (taquinlaw35_StockFirst.l2 k x1 x5 x6 x8 x9 x10 (wrap64 (x13 + 1)) x216000 x216001 x216002)) else (none)) else (none)) else (none)) else (none)) else (taquinlaw35_StockFirst.l2 k x1 x5 x6 x8 x9 x10 (wrap64 (x13 + 1)) x216000 x216001 x216002)
end
def taquinlaw35_StockFirst.f (k : Nat) (l0_0 : List (S53)) (l0_1 : List (S40)) (l0_2 : List (S38)) (l1 : List (S43)) : Option (Bool) := (taquinlaw35_small.f k).bind fun t216 => ((taquinlaw35_given.f k l0_0 l0_1 l0_2).bind fun t217 => (if t217 = true then (taquinlaw35_StockFirst.j0 k l1 t216 (decide ((l1.length : Int) > 12)) l0_0 l0_1 l0_2) else (taquinlaw35_StockFirst.j0 k l1 t216 true l0_0 l0_1 l0_2)))
theorem taquinlaw35_StockFirst.mono_l : ∀ k, (∀ y0 y1 y2 y3 y4 y5, LeO (taquinlaw35_StockFirst.j0 k y0 y1 y2 y3 y4 y5) (taquinlaw35_StockFirst.j0 (k + 1) y0 y1 y2 y3 y4 y5)) ∧ (∀ y0 y1 y2 y3 y4 y5 y6 y7, LeO (taquinlaw35_StockFirst.j1 k y0 y1 y2 y3 y4 y5 y6 y7) (taquinlaw35_StockFirst.j1 (k + 1) y0 y1 y2 y3 y4 y5 y6 y7)) ∧ (∀ y0 y1 y2 y3 y4 y5 y6 y7, LeO (taquinlaw35_StockFirst.l0 k y0 y1 y2 y3 y4 y5 y6 y7) (taquinlaw35_StockFirst.l0 (k + 1) y0 y1 y2 y3 y4 y5 y6 y7)) ∧ (∀ y0 y1 y2 y3 y4 y5 y6 y7 y8 y9, LeO (taquinlaw35_StockFirst.l1 k y0 y1 y2 y3 y4 y5 y6 y7 y8 y9) (taquinlaw35_StockFirst.l1 (k + 1) y0 y1 y2 y3 y4 y5 y6 y7 y8 y9)) ∧ (∀ y0 y1 y2 y3 y4 y5 y6 y7 y8 y9 y10 y11, LeO (taquinlaw35_StockFirst.j4 k y0 y1 y2 y3 y4 y5 y6 y7 y8 y9 y10 y11) (taquinlaw35_StockFirst.j4 (k + 1) y0 y1 y2 y3 y4 y5 y6 y7 y8 y9 y10 y11)) ∧ (∀ y0 y1 y2 y3 y4 y5 y6 y7 y8 y9, LeO (taquinlaw35_StockFirst.l2 k y0 y1 y2 y3 y4 y5 y6 y7 y8 y9) (taquinlaw35_StockFirst.l2 (k + 1) y0 y1 y2 y3 y4 y5 y6 y7 y8 y9)) ∧ (∀ y0 y1 y2 y3 y4 y5 y6 y7 y8 y9 y10, LeO (taquinlaw35_StockFirst.j6 k y0 y1 y2 y3 y4 y5 y6 y7 y8 y9 y10) (taquinlaw35_StockFirst.j6 (k + 1) y0 y1 y2 y3 y4 y5 y6 y7 y8 y9 y10))
  | 0 => ⟨fun _ _ _ _ _ _ r h => by simp [taquinlaw35_StockFirst.j0] at h, fun _ _ _ _ _ _ _ _ r h => by simp [taquinlaw35_StockFirst.j1] at h, fun _ _ _ _ _ _ _ _ r h => by simp [taquinlaw35_StockFirst.l0] at h, fun _ _ _ _ _ _ _ _ _ _ r h => by simp [taquinlaw35_StockFirst.l1] at h, fun _ _ _ _ _ _ _ _ _ _ _ _ r h => by simp [taquinlaw35_StockFirst.j4] at h, fun _ _ _ _ _ _ _ _ _ _ r h => by simp [taquinlaw35_StockFirst.l2] at h, fun _ _ _ _ _ _ _ _ _ _ _ r h => by simp [taquinlaw35_StockFirst.j6] at h⟩
  | k + 1 => by
    obtain ⟨ih0, ih1, ih2, ih3, ih4, ih5, ih6⟩ := taquinlaw35_StockFirst.mono_l k
    refine ⟨?_, ?_, ?_, ?_, ?_, ?_, ?_⟩
    · intro y0 y1 y2 y3 y4 y5
      unfold taquinlaw35_StockFirst.j0
      repeat' first
      | (with_reducible exact ih0 _ _ _ _ _ _)
      | (with_reducible exact ih1 _ _ _ _ _ _ _ _)
      | (with_reducible exact ih2 _ _ _ _ _ _ _ _)
      | (with_reducible exact ih3 _ _ _ _ _ _ _ _ _ _)
      | (with_reducible exact ih4 _ _ _ _ _ _ _ _ _ _ _ _)
      | (with_reducible exact ih5 _ _ _ _ _ _ _ _ _ _)
      | (with_reducible exact ih6 _ _ _ _ _ _ _ _ _ _ _)
      | (with_reducible exact stock_Plan.mono _ _ _ _)
      | (with_reducible exact taquinlaw35_given.mono _ _ _ _)
      | (with_reducible exact taquinlaw35_small.mono _)
      | (with_reducible exact LeO.refl _)
      | (with_reducible exact LeO.none _)
      | (with_reducible refine LeO.ite ?_ ?_)
      | (with_reducible refine LeO.bind ?_ (fun _ => ?_))
      | exact ih0 _ _ _ _ _ _
      | exact ih1 _ _ _ _ _ _ _ _
      | exact ih2 _ _ _ _ _ _ _ _
      | exact ih3 _ _ _ _ _ _ _ _ _ _
      | exact ih4 _ _ _ _ _ _ _ _ _ _ _ _
      | exact ih5 _ _ _ _ _ _ _ _ _ _
      | exact ih6 _ _ _ _ _ _ _ _ _ _ _
      | exact stock_Plan.mono _ _ _ _
      | exact taquinlaw35_given.mono _ _ _ _
      | exact taquinlaw35_small.mono _
      | exact LeO.none _
      | refine LeO.ite ?_ ?_
      | refine LeO.bind ?_ (fun _ => ?_)
    · intro y0 y1 y2 y3 y4 y5 y6 y7
      unfold taquinlaw35_StockFirst.j1
      repeat' first
      | (with_reducible exact ih0 _ _ _ _ _ _)
      | (with_reducible exact ih1 _ _ _ _ _ _ _ _)
      | (with_reducible exact ih2 _ _ _ _ _ _ _ _)
      | (with_reducible exact ih3 _ _ _ _ _ _ _ _ _ _)
      | (with_reducible exact ih4 _ _ _ _ _ _ _ _ _ _ _ _)
      | (with_reducible exact ih5 _ _ _ _ _ _ _ _ _ _)
      | (with_reducible exact ih6 _ _ _ _ _ _ _ _ _ _ _)
      | (with_reducible exact stock_Plan.mono _ _ _ _)
      | (with_reducible exact taquinlaw35_given.mono _ _ _ _)
      | (with_reducible exact taquinlaw35_small.mono _)
      | (with_reducible exact LeO.refl _)
      | (with_reducible exact LeO.none _)
      | (with_reducible refine LeO.ite ?_ ?_)
      | (with_reducible refine LeO.bind ?_ (fun _ => ?_))
      | exact ih0 _ _ _ _ _ _
      | exact ih1 _ _ _ _ _ _ _ _
      | exact ih2 _ _ _ _ _ _ _ _
      | exact ih3 _ _ _ _ _ _ _ _ _ _
      | exact ih4 _ _ _ _ _ _ _ _ _ _ _ _
      | exact ih5 _ _ _ _ _ _ _ _ _ _
      | exact ih6 _ _ _ _ _ _ _ _ _ _ _
      | exact stock_Plan.mono _ _ _ _
      | exact taquinlaw35_given.mono _ _ _ _
      | exact taquinlaw35_small.mono _
      | exact LeO.none _
      | refine LeO.ite ?_ ?_
      | refine LeO.bind ?_ (fun _ => ?_)
    · intro y0 y1 y2 y3 y4 y5 y6 y7
      unfold taquinlaw35_StockFirst.l0
      repeat' first
      | (with_reducible exact ih0 _ _ _ _ _ _)
      | (with_reducible exact ih1 _ _ _ _ _ _ _ _)
      | (with_reducible exact ih2 _ _ _ _ _ _ _ _)
      | (with_reducible exact ih3 _ _ _ _ _ _ _ _ _ _)
      | (with_reducible exact ih4 _ _ _ _ _ _ _ _ _ _ _ _)
      | (with_reducible exact ih5 _ _ _ _ _ _ _ _ _ _)
      | (with_reducible exact ih6 _ _ _ _ _ _ _ _ _ _ _)
      | (with_reducible exact stock_Plan.mono _ _ _ _)
      | (with_reducible exact taquinlaw35_given.mono _ _ _ _)
      | (with_reducible exact taquinlaw35_small.mono _)
      | (with_reducible exact LeO.refl _)
      | (with_reducible exact LeO.none _)
      | (with_reducible refine LeO.ite ?_ ?_)
      | (with_reducible refine LeO.bind ?_ (fun _ => ?_))
      | exact ih0 _ _ _ _ _ _
      | exact ih1 _ _ _ _ _ _ _ _
      | exact ih2 _ _ _ _ _ _ _ _
      | exact ih3 _ _ _ _ _ _ _ _ _ _
      | exact ih4 _ _ _ _ _ _ _ _ _ _ _ _
      | exact ih5 _ _ _ _ _ _ _ _ _ _
      | exact ih6 _ _ _ _ _ _ _ _ _ _ _
      | exact stock_Plan.mono _ _ _ _
      | exact taquinlaw35_given.mono _ _ _ _
      | exact taquinlaw35_small.mono _
      | exact LeO.none _
      | refine LeO.ite ?_ ?_
      | refine LeO.bind ?_ (fun _ => ?_)
    · intro y0 y1 y2 y3 y4 y5 y6 y7 y8 y9
      unfold taquinlaw35_StockFirst.l1
      repeat' first
      | (with_reducible exact ih0 _ _ _ _ _ _)
      | (with_reducible exact ih1 _ _ _ _ _ _ _ _)
      | (with_reducible exact ih2 _ _ _ _ _ _ _ _)
      | (with_reducible exact ih3 _ _ _ _ _ _ _ _ _ _)
      | (with_reducible exact ih4 _ _ _ _ _ _ _ _ _ _ _ _)
      | (with_reducible exact ih5 _ _ _ _ _ _ _ _ _ _)
      | (with_reducible exact ih6 _ _ _ _ _ _ _ _ _ _ _)
      | (with_reducible exact stock_Plan.mono _ _ _ _)
      | (with_reducible exact taquinlaw35_given.mono _ _ _ _)
      | (with_reducible exact taquinlaw35_small.mono _)
      | (with_reducible exact LeO.refl _)
      | (with_reducible exact LeO.none _)
      | (with_reducible refine LeO.ite ?_ ?_)
      | (with_reducible refine LeO.bind ?_ (fun _ => ?_))
      | exact ih0 _ _ _ _ _ _
      | exact ih1 _ _ _ _ _ _ _ _
      | exact ih2 _ _ _ _ _ _ _ _
      | exact ih3 _ _ _ _ _ _ _ _ _ _
      | exact ih4 _ _ _ _ _ _ _ _ _ _ _ _
      | exact ih5 _ _ _ _ _ _ _ _ _ _
      | exact ih6 _ _ _ _ _ _ _ _ _ _ _
      | exact stock_Plan.mono _ _ _ _
      | exact taquinlaw35_given.mono _ _ _ _
      | exact taquinlaw35_small.mono _
      | exact LeO.none _
      | refine LeO.ite ?_ ?_
      | refine LeO.bind ?_ (fun _ => ?_)
    · intro y0 y1 y2 y3 y4 y5 y6 y7 y8 y9 y10 y11
      unfold taquinlaw35_StockFirst.j4
      repeat' first
      | (with_reducible exact ih0 _ _ _ _ _ _)
      | (with_reducible exact ih1 _ _ _ _ _ _ _ _)
      | (with_reducible exact ih2 _ _ _ _ _ _ _ _)
      | (with_reducible exact ih3 _ _ _ _ _ _ _ _ _ _)
      | (with_reducible exact ih4 _ _ _ _ _ _ _ _ _ _ _ _)
      | (with_reducible exact ih5 _ _ _ _ _ _ _ _ _ _)
      | (with_reducible exact ih6 _ _ _ _ _ _ _ _ _ _ _)
      | (with_reducible exact stock_Plan.mono _ _ _ _)
      | (with_reducible exact taquinlaw35_given.mono _ _ _ _)
      | (with_reducible exact taquinlaw35_small.mono _)
      | (with_reducible exact LeO.refl _)
      | (with_reducible exact LeO.none _)
      | (with_reducible refine LeO.ite ?_ ?_)
      | (with_reducible refine LeO.bind ?_ (fun _ => ?_))
      | exact ih0 _ _ _ _ _ _
      | exact ih1 _ _ _ _ _ _ _ _
      | exact ih2 _ _ _ _ _ _ _ _
      | exact ih3 _ _ _ _ _ _ _ _ _ _
      | exact ih4 _ _ _ _ _ _ _ _ _ _ _ _
      | exact ih5 _ _ _ _ _ _ _ _ _ _
      | exact ih6 _ _ _ _ _ _ _ _ _ _ _
      | exact stock_Plan.mono _ _ _ _
      | exact taquinlaw35_given.mono _ _ _ _
      | exact taquinlaw35_small.mono _
      | exact LeO.none _
      | refine LeO.ite ?_ ?_
      | refine LeO.bind ?_ (fun _ => ?_)
    · intro y0 y1 y2 y3 y4 y5 y6 y7 y8 y9
      unfold taquinlaw35_StockFirst.l2
      repeat' first
      | (with_reducible exact ih0 _ _ _ _ _ _)
      | (with_reducible exact ih1 _ _ _ _ _ _ _ _)
      | (with_reducible exact ih2 _ _ _ _ _ _ _ _)
      | (with_reducible exact ih3 _ _ _ _ _ _ _ _ _ _)
      | (with_reducible exact ih4 _ _ _ _ _ _ _ _ _ _ _ _)
      | (with_reducible exact ih5 _ _ _ _ _ _ _ _ _ _)
      | (with_reducible exact ih6 _ _ _ _ _ _ _ _ _ _ _)
      | (with_reducible exact stock_Plan.mono _ _ _ _)
      | (with_reducible exact taquinlaw35_given.mono _ _ _ _)
      | (with_reducible exact taquinlaw35_small.mono _)
      | (with_reducible exact LeO.refl _)
      | (with_reducible exact LeO.none _)
      | (with_reducible refine LeO.ite ?_ ?_)
      | (with_reducible refine LeO.bind ?_ (fun _ => ?_))
      | exact ih0 _ _ _ _ _ _
      | exact ih1 _ _ _ _ _ _ _ _
      | exact ih2 _ _ _ _ _ _ _ _
      | exact ih3 _ _ _ _ _ _ _ _ _ _
      | exact ih4 _ _ _ _ _ _ _ _ _ _ _ _
      | exact ih5 _ _ _ _ _ _ _ _ _ _
      | exact ih6 _ _ _ _ _ _ _ _ _ _ _
      | exact stock_Plan.mono _ _ _ _
      | exact taquinlaw35_given.mono _ _ _ _
      | exact taquinlaw35_small.mono _
      | exact LeO.none _
      | refine LeO.ite ?_ ?_
      | refine LeO.bind ?_ (fun _ => ?_)
    · intro y0 y1 y2 y3 y4 y5 y6 y7 y8 y9 y10
      unfold taquinlaw35_StockFirst.j6
      repeat' first
      | (with_reducible exact ih0 _ _ _ _ _ _)
      | (with_reducible exact ih1 _ _ _ _ _ _ _ _)
      | (with_reducible exact ih2 _ _ _ _ _ _ _ _)
      | (with_reducible exact ih3 _ _ _ _ _ _ _ _ _ _)
      | (with_reducible exact ih4 _ _ _ _ _ _ _ _ _ _ _ _)
      | (with_reducible exact ih5 _ _ _ _ _ _ _ _ _ _)
      | (with_reducible exact ih6 _ _ _ _ _ _ _ _ _ _ _)
      | (with_reducible exact stock_Plan.mono _ _ _ _)
      | (with_reducible exact taquinlaw35_given.mono _ _ _ _)
      | (with_reducible exact taquinlaw35_small.mono _)
      | (with_reducible exact LeO.refl _)
      | (with_reducible exact LeO.none _)
      | (with_reducible refine LeO.ite ?_ ?_)
      | (with_reducible refine LeO.bind ?_ (fun _ => ?_))
      | exact ih0 _ _ _ _ _ _
      | exact ih1 _ _ _ _ _ _ _ _
      | exact ih2 _ _ _ _ _ _ _ _
      | exact ih3 _ _ _ _ _ _ _ _ _ _
      | exact ih4 _ _ _ _ _ _ _ _ _ _ _ _
      | exact ih5 _ _ _ _ _ _ _ _ _ _
      | exact ih6 _ _ _ _ _ _ _ _ _ _ _
      | exact stock_Plan.mono _ _ _ _
      | exact taquinlaw35_given.mono _ _ _ _
      | exact taquinlaw35_small.mono _
      | exact LeO.none _
      | refine LeO.ite ?_ ?_
      | refine LeO.bind ?_ (fun _ => ?_)
theorem taquinlaw35_StockFirst.mono : ∀ a0 a1 a2 a3 k, LeO (taquinlaw35_StockFirst.f k a0 a1 a2 a3) (taquinlaw35_StockFirst.f (k + 1) a0 a1 a2 a3) := by
  intro a0 a1 a2 a3 k
  obtain ⟨ih0, ih1, ih2, ih3, ih4, ih5, ih6⟩ := taquinlaw35_StockFirst.mono_l k
  unfold taquinlaw35_StockFirst.f
  repeat' first
      | (with_reducible exact ih0 _ _ _ _ _ _)
      | (with_reducible exact ih1 _ _ _ _ _ _ _ _)
      | (with_reducible exact ih2 _ _ _ _ _ _ _ _)
      | (with_reducible exact ih3 _ _ _ _ _ _ _ _ _ _)
      | (with_reducible exact ih4 _ _ _ _ _ _ _ _ _ _ _ _)
      | (with_reducible exact ih5 _ _ _ _ _ _ _ _ _ _)
      | (with_reducible exact ih6 _ _ _ _ _ _ _ _ _ _ _)
      | (with_reducible exact stock_Plan.mono _ _ _ _)
      | (with_reducible exact taquinlaw35_given.mono _ _ _ _)
      | (with_reducible exact taquinlaw35_small.mono _)
      | (with_reducible exact LeO.refl _)
      | (with_reducible exact LeO.none _)
      | (with_reducible refine LeO.ite ?_ ?_)
      | (with_reducible refine LeO.bind ?_ (fun _ => ?_))
      | exact ih0 _ _ _ _ _ _
      | exact ih1 _ _ _ _ _ _ _ _
      | exact ih2 _ _ _ _ _ _ _ _
      | exact ih3 _ _ _ _ _ _ _ _ _ _
      | exact ih4 _ _ _ _ _ _ _ _ _ _ _ _
      | exact ih5 _ _ _ _ _ _ _ _ _ _
      | exact ih6 _ _ _ _ _ _ _ _ _ _ _
      | exact stock_Plan.mono _ _ _ _
      | exact taquinlaw35_given.mono _ _ _ _
      | exact taquinlaw35_small.mono _
      | exact LeO.none _
      | refine LeO.ite ?_ ?_
      | refine LeO.bind ?_ (fun _ => ?_)
def taquinlaw35_StockFirst.T18 : Bool × List (List Nat × List Nat) := (true, [([], []), ([], []), ([], []), ([], []), ([2, 3], [2, 3]), ([4], [4]), ([5], [5]), ([], []), ([], []), ([7, 8], [7, 8]), ([9], [9]), ([], []), ([10, 11], [10, 11]), ([12], [12]), ([13], [13]), ([6, 14], [6, 14]), ([0, 1, 0, 1, 2, 3, 4, 5, 6, 7, 8, 9, 10, 11, 12, 13, 14, 15], [0, 1]), ([16, 0, 1, 2, 3, 4, 5, 6, 7, 8, 9, 10, 11, 12, 13, 14, 15], [16]), ([17, 15, 0, 1, 2, 3, 4, 5, 6, 7, 8, 9, 10, 11, 12, 13, 14, 15], [15, 17])])
def taquinlaw35_StockFirst.B18 : List Nat := [0, 0, 0, 0, 12, 28, 60, 0, 0, 384, 896, 0, 3968, 8064, 16256, 32764, 65535, 131071, 262143]
theorem taquinlaw35_StockFirst.tab18 : rtab .any (opsOf Try.f3 18) = taquinlaw35_StockFirst.T18 := by kernel_rfl
theorem taquinlaw35_StockFirst.bits18 : waitsOk taquinlaw35_StockFirst.T18.2 taquinlaw35_StockFirst.B18 = true := by kernel_rfl
def taquinlaw35_StockFirst.T19 : Bool × List (List Nat × List Nat) := (true, [([], []), ([], []), ([0, 1], [0, 1]), ([2], [2]), ([3], [3]), ([4], [4]), ([5], [5]), ([6], [6]), ([6], [6]), ([7, 8, 6], [6, 7, 8]), ([9, 6], [6, 9]), ([10, 6], [6, 10]), ([6], [6]), ([12, 6], [6, 12]), ([13, 6], [6, 13]), ([11, 14, 6], [6, 11, 14]), ([6, 15], [6, 15])])
def taquinlaw35_StockFirst.B19 : List Nat := [0, 0, 3, 7, 15, 31, 63, 127, 127, 511, 1023, 2047, 127, 4223, 12415, 32767, 65535]
theorem taquinlaw35_StockFirst.tab19 : rtab .any (opsOf Try.f3 19) = taquinlaw35_StockFirst.T19 := by kernel_rfl
theorem taquinlaw35_StockFirst.bits19 : waitsOk taquinlaw35_StockFirst.T19.2 taquinlaw35_StockFirst.B19 = true := by kernel_rfl
def taquinlaw35_StockFirst.T21 : Bool × List (List Nat × List Nat) := (true, [([], []), ([], []), ([1], [1]), ([], []), ([], []), ([3, 4], [3, 4]), ([5], [5]), ([6], [6]), ([2, 7], [2, 7]), ([8], [8]), ([9], [9]), ([0, 10], [0, 10]), ([11, 0, 1, 2, 3, 4, 5, 6, 7, 8, 9, 10, 11], [0, 11])])
def taquinlaw35_StockFirst.B21 : List Nat := [0, 0, 2, 0, 0, 24, 56, 120, 254, 510, 1022, 2047, 4095]
theorem taquinlaw35_StockFirst.tab21 : rtab .any (opsOf Try.f3 21) = taquinlaw35_StockFirst.T21 := by kernel_rfl
theorem taquinlaw35_StockFirst.bits21 : waitsOk taquinlaw35_StockFirst.T21.2 taquinlaw35_StockFirst.B21 = true := by kernel_rfl
def taquinlaw35_StockFirst.T25 : Bool × List (List Nat × List Nat) := (true, [([], []), ([0], [0]), ([], []), ([], []), ([2, 3], [2, 3]), ([4], [4]), ([], []), ([], []), ([6, 7], [6, 7]), ([8], [8]), ([1, 5, 9], [1, 5, 9]), ([10, 10], [10]), ([11], [11]), ([11], [11]), ([12, 13, 11], [11, 12, 13]), ([14, 11], [11, 14]), ([15, 11], [11, 15]), ([16, 11], [11, 16]), ([11, 17], [11, 17])])
def taquinlaw35_StockFirst.B25 : List Nat := [0, 1, 0, 0, 12, 28, 0, 0, 192, 448, 1023, 2047, 4095, 4095, 16383, 32767, 65535, 131071, 262143]
theorem taquinlaw35_StockFirst.tab25 : rtab .any (opsOf Try.f3 25) = taquinlaw35_StockFirst.T25 := by kernel_rfl
theorem taquinlaw35_StockFirst.bits25 : waitsOk taquinlaw35_StockFirst.T25.2 taquinlaw35_StockFirst.B25 = true := by kernel_rfl
def taquinlaw35_StockFirst.T26 : Bool × List (List Nat × List Nat) := (true, [([], []), ([0], [0]), ([], []), ([], []), ([2, 3], [2, 3]), ([4], [4]), ([5], [5]), ([1, 6], [1, 6]), ([7], [7]), ([8], [8]), ([], []), ([9, 10], [9, 10])])
def taquinlaw35_StockFirst.B26 : List Nat := [0, 1, 0, 0, 12, 28, 60, 127, 255, 511, 0, 2047]
theorem taquinlaw35_StockFirst.tab26 : rtab .any (opsOf Try.f3 26) = taquinlaw35_StockFirst.T26 := by kernel_rfl
theorem taquinlaw35_StockFirst.bits26 : waitsOk taquinlaw35_StockFirst.T26.2 taquinlaw35_StockFirst.B26 = true := by kernel_rfl
set_option maxHeartbeats 8000000 in
set_option maxRecDepth 100000 in
theorem taquinlaw35_StockFirst.calls (k : Nat) (A0_0 : Option Addr) (c0_0 : Nat) (l0_0 : List (S53)) (A0_1 : Option Addr) (c0_1 : Nat) (l0_1 : List (S40)) (A0_2 : Option Addr) (c0_2 : Nat) (l0_2 : List (S38)) (A1 : Option Addr) (c1 : Nat) (l1 : List (S43)) (r : Bool) (w : World) (hr0_0 : Kd.C k53 w A0_0 l0_0.length l0_0) (hc0_0 : l0_0.length ≤ c0_0) (hr0_1 : Kd.C k40 w A0_1 l0_1.length l0_1) (hc0_1 : l0_1.length ≤ c0_1) (hr0_2 : Kd.C k38 w A0_2 l0_2.length l0_2) (hc0_2 : l0_2.length ≤ c0_2) (hr1 : Kd.C k43 w A1 l1.length l1) (hc1 : l1.length ≤ c1) (h : taquinlaw35_StockFirst.f k l0_0 l0_1 l0_2 l1 = some r) :
    Calls Try.prog 3 #[.agg #[.slice A0_0 l0_0.length c0_0, .slice A0_1 l0_1.length c0_1, .slice A0_2 l0_2.length c0_2], .slice A1 l1.length c1] w fun e w' => e = .returned (.bool r) ∧ Below w.heap.size w w' := by
  have hu26 := Try.underlying26
  have hu38 := Try.underlying38
  have hu43 := Try.underlying43
  have HR0_0 := Aside0.mk hr0_0
  have HC0_0 := Aside0.mk hc0_0
  clear hr0_0 hc0_0
  have HR0_1 := Aside0.mk hr0_1
  have HC0_1 := Aside0.mk hc0_1
  clear hr0_1 hc0_1
  have HR0_2 := Aside0.mk hr0_2
  have HC0_2 := Aside0.mk hc0_2
  clear hr0_2 hc0_2
  have HR1 := Aside0.mk hr1
  have HC1 := Aside0.mk hc1
  clear hr1 hc1
  have HB := Aside0.mk (Below.refl w.heap.size w)
  have H : ((taquinlaw35_small.f k).bind fun t216 => ((taquinlaw35_given.f k l0_0 l0_1 l0_2).bind fun t217 => (if t217 = true then (taquinlaw35_StockFirst.j0 k l1 t216 (decide ((l1.length : Int) > 12)) l0_0 l0_1 l0_2) else (taquinlaw35_StockFirst.j0 k l1 t216 true l0_0 l0_1 l0_2)))) = some r := h
  clear h
  replace H := Option.bind_eq_some_iff.mp H
  obtain ⟨t216, A30, H⟩ := H
  replace H : ((taquinlaw35_given.f k l0_0 l0_1 l0_2).bind fun t217 => (if t217 = true then (taquinlaw35_StockFirst.j0 k l1 t216 (decide ((l1.length : Int) > 12)) l0_0 l0_1 l0_2) else (taquinlaw35_StockFirst.j0 k l1 t216 true l0_0 l0_1 l0_2))) = some r := H
  have A3 := Aside0.mk A30
  clear A30
  have HC4 := Aside0.mk H
  clear H
  go_enter Try.func3, Try.ntmps3
  go_upto_region 2 with (first | ((with_reducible refine gate_dst (N := 2) rfl ?_); (try (refine gate_guard (by rfl) ?_; dsimp only)); refine box_event ?hg (N := 2) ?hd (cs := #[.slice A0_0 l0_0.length c0_0, .slice A0_1 l0_1.length c0_1, .slice A0_2 l0_2.length c0_2]) (t := 26) ?hr ?_; (case hd => rfl); (case hg => rfl); (case hr => first | (go_simp; done) | (go_simp; rfl)); intro gb215 hg w5 hbox hb; have n0_ := Aside0.mk (below_step (by repeat (first | (with_reducible first | exact HB.out | apply below_alloc | apply pw_below_drewN | apply below_drew1) | exact HB.out)) hb); have n1_ := Aside0.mk (hbox); have n2_ := Aside0.mk ((by rw [hg]; exact (below_size (by repeat (first | (with_reducible first | exact HB.out | apply below_alloc | apply pw_below_drewN | apply below_drew1) | exact HB.out))) : w.heap.size ≤ gb215)); have n3_ := Aside0.mk ((by rw [hg]; exact (below_size (by repeat (first | (with_reducible first | exact HB.out | apply below_alloc | apply pw_below_drewN | apply below_drew1) | exact HB.out))) : w.heap.size ≤ gb215)); clear HB; have HB := n0_; have BK215 := n1_; have GW215 := n2_; have GE215 := n3_; clear n0_ n1_ n2_ n3_; clear hb hbox hg) | ((with_reducible refine gate_callee (f := 7) rfl ?_); refine goesL_ (some 14) rfl rfl Try.func7 (by kernel_rfl) rfl #[] rfl (by (try simp only [List.map_toArray, List.map_cons, List.map_nil]); first | done | rfl | (simp only [List.length_drop, List.length_take]; rfl)) ?_; (with_reducible refine (taquinlaw35_small.calls k  t216 _ A3.out).mono ?_); rintro e w6 ⟨rfl, hb⟩; refine ⟨_, rfl, ?_⟩; have n0_ := Aside0.mk (blk_below (g := gb215) (o := .cells #[.slice A0_0 l0_0.length c0_0, .slice A0_1 l0_1.length c0_1, .slice A0_2 l0_2.length c0_2] 26 (0, 0)) (by (with_reducible repeat (first | refine blk_drewN ?_ _ | refine blk_drew ?_ | refine blk_alloc ?_ _)); exact BK215.out) hb); have n1_ := Aside0.mk (below_step (by repeat (first | (with_reducible first | exact HB.out | apply below_alloc | apply pw_below_drewN | apply below_drew1 | refine below_set ?_ GE215.out) | exact HB.out)) hb); clear BK215; clear HB; have BK215 := n0_; have HB := n1_; clear n0_ n1_; (try clear hb); (try clear hb2); (try clear hk); (try clear hi)))
  (try simp only [Act.put, List.setIfInBounds_toArray, List.set_cons_zero, List.set_cons_succ])
  go_cut [22] (fun v22 wc => ∃ (kq : Nat) (x22_3 : Bool), v22 = .bool x22_3 ∧ Aside0 (taquinlaw35_StockFirst.j0 kq l1 t216 x22_3 l0_0 l0_1 l0_2 = some r) ∧ Aside0 (kq ≤ k) ∧ Aside0 (wc.heap[gb215]? = some (.cells #[(.slice A0_0 l0_0.length c0_0), (.slice A0_1 l0_1.length c0_1), (.slice A0_2 l0_2.length c0_2)] 26 (0, 0))) ∧ Aside0 (Below w.heap.size w wc))
  case first =>
    have H := HC4.out
    clear HC4
    replace H := Option.bind_eq_some_iff.mp H
    obtain ⟨t217, A70, H⟩ := H
    replace H : (if t217 = true then (taquinlaw35_StockFirst.j0 k l1 t216 (decide ((l1.length : Int) > 12)) l0_0 l0_1 l0_2) else (taquinlaw35_StockFirst.j0 k l1 t216 true l0_0 l0_1 l0_2)) = some r := H
    have A7 := Aside0.mk A70
    clear A70
    by_cases c8 : t217 = true
    · subst c8
      have H1 : (taquinlaw35_StockFirst.j0 k l1 t216 (decide ((l1.length : Int) > 12)) l0_0 l0_1 l0_2) = some r := by rw [if_pos rfl] at H; exact H
      clear H
      have H := H1
      clear H1
      have H' := Aside0.mk H
      clear H
      have hcz9_0 : w6.cell? ⟨gb215, 0, none⟩ = some (.slice A0_0 l0_0.length c0_0) := (blk_cell BK215.out 0).trans rfl
      have hcz9_1 : w6.cell? ⟨gb215, 1, none⟩ = some (.slice A0_1 l0_1.length c0_1) := (blk_cell BK215.out 1).trans rfl
      have hcz9_2 : w6.cell? ⟨gb215, 2, none⟩ = some (.slice A0_2 l0_2.length c0_2) := (blk_cell BK215.out 2).trans rfl
      have hfz9_0 := blk_frozen BK215.out 0
      have hfz9_1 := blk_frozen BK215.out 1
      have hfz9_2 := blk_frozen BK215.out 2
      go_wp2_with (first | ((with_reducible refine gate_callee (f := 8) rfl ?_); refine goesL_ (some 16) rfl rfl Try.func8 (by kernel_rfl) rfl #[.agg #[.slice A0_0 l0_0.length c0_0, .slice A0_1 l0_1.length c0_1, .slice A0_2 l0_2.length c0_2]] rfl (by (try simp only [List.map_toArray, List.map_cons, List.map_nil]); first | done | rfl | (simp only [List.length_drop, List.length_take]; rfl)) ?_; (with_reducible refine (taquinlaw35_given.calls k _ _ l0_0 _ _ l0_1 _ _ l0_2 true _ ?side1 ?side2 ?side3 ?side4 ?side5 ?side6 A7.out).mono ?_); (case side1 => repeat (first | exact (Kd.C_below HR0_0.out HB.out) | (with_reducible refine Kd.C_alloc ?_ _) | (with_reducible refine Kd.C_drewN ?_ _) | (with_reducible refine Kd.C_drew ?_))); (case side2 => exact HC0_0.out); (case side3 => repeat (first | exact (Kd.C_below HR0_1.out HB.out) | (with_reducible refine Kd.C_alloc ?_ _) | (with_reducible refine Kd.C_drewN ?_ _) | (with_reducible refine Kd.C_drew ?_))); (case side4 => exact HC0_1.out); (case side5 => repeat (first | exact (Kd.C_below HR0_2.out HB.out) | (with_reducible refine Kd.C_alloc ?_ _) | (with_reducible refine Kd.C_drewN ?_ _) | (with_reducible refine Kd.C_drew ?_))); (case side6 => exact HC0_2.out); rintro e w10 ⟨rfl, hb⟩; refine ⟨_, rfl, ?_⟩; have n0_ := Aside0.mk (blk_below (g := gb215) (o := .cells #[.slice A0_0 l0_0.length c0_0, .slice A0_1 l0_1.length c0_1, .slice A0_2 l0_2.length c0_2] 26 (0, 0)) (by (with_reducible repeat (first | refine blk_drewN ?_ _ | refine blk_drew ?_ | refine blk_alloc ?_ _)); exact BK215.out) hb); have n1_ := Aside0.mk (below_step (by repeat (first | (with_reducible first | exact HB.out | apply below_alloc | apply pw_below_drewN | apply below_drew1 | refine below_set ?_ GE215.out) | exact HB.out)) hb); clear BK215; clear HB; have BK215 := n0_; have HB := n1_; clear n0_ n1_; (try clear hb); (try clear hb2); (try clear hk); (try clear hi)))
      go_meet
      case rel => exact ⟨_, (decide ((l1.length : Int) > 12)), (by first | rfl | (simp; done) | (simp [*]; done)), H', ⟨by first | omega | exact Nat.le_refl _⟩, ⟨by (with_reducible repeat (first | refine blk_drewN ?_ _ | refine blk_drew ?_ | refine blk_alloc ?_ _)); exact BK215.out⟩, ⟨by repeat (first | (with_reducible first | exact HB.out | apply below_alloc | apply pw_below_drewN | apply below_drew1 | refine below_set ?_ GE215.out) | exact HB.out)⟩⟩
    · replace c8 := Bool.eq_false_iff.mpr c8
      subst c8
      have H1 : (taquinlaw35_StockFirst.j0 k l1 t216 true l0_0 l0_1 l0_2) = some r := by rw [if_neg (show ¬ (false = true) by decide)] at H; exact H
      clear H
      have H := H1
      clear H1
      have H' := Aside0.mk H
      clear H
      have hcz11_0 : w6.cell? ⟨gb215, 0, none⟩ = some (.slice A0_0 l0_0.length c0_0) := (blk_cell BK215.out 0).trans rfl
      have hcz11_1 : w6.cell? ⟨gb215, 1, none⟩ = some (.slice A0_1 l0_1.length c0_1) := (blk_cell BK215.out 1).trans rfl
      have hcz11_2 : w6.cell? ⟨gb215, 2, none⟩ = some (.slice A0_2 l0_2.length c0_2) := (blk_cell BK215.out 2).trans rfl
      have hfz11_0 := blk_frozen BK215.out 0
      have hfz11_1 := blk_frozen BK215.out 1
      have hfz11_2 := blk_frozen BK215.out 2
      go_wp2_with (first | ((with_reducible refine gate_callee (f := 8) rfl ?_); refine goesL_ (some 16) rfl rfl Try.func8 (by kernel_rfl) rfl #[.agg #[.slice A0_0 l0_0.length c0_0, .slice A0_1 l0_1.length c0_1, .slice A0_2 l0_2.length c0_2]] rfl (by (try simp only [List.map_toArray, List.map_cons, List.map_nil]); first | done | rfl | (simp only [List.length_drop, List.length_take]; rfl)) ?_; (with_reducible refine (taquinlaw35_given.calls k _ _ l0_0 _ _ l0_1 _ _ l0_2 false _ ?side1 ?side2 ?side3 ?side4 ?side5 ?side6 A7.out).mono ?_); (case side1 => repeat (first | exact (Kd.C_below HR0_0.out HB.out) | (with_reducible refine Kd.C_alloc ?_ _) | (with_reducible refine Kd.C_drewN ?_ _) | (with_reducible refine Kd.C_drew ?_))); (case side2 => exact HC0_0.out); (case side3 => repeat (first | exact (Kd.C_below HR0_1.out HB.out) | (with_reducible refine Kd.C_alloc ?_ _) | (with_reducible refine Kd.C_drewN ?_ _) | (with_reducible refine Kd.C_drew ?_))); (case side4 => exact HC0_1.out); (case side5 => repeat (first | exact (Kd.C_below HR0_2.out HB.out) | (with_reducible refine Kd.C_alloc ?_ _) | (with_reducible refine Kd.C_drewN ?_ _) | (with_reducible refine Kd.C_drew ?_))); (case side6 => exact HC0_2.out); rintro e w12 ⟨rfl, hb⟩; refine ⟨_, rfl, ?_⟩; have n0_ := Aside0.mk (blk_below (g := gb215) (o := .cells #[.slice A0_0 l0_0.length c0_0, .slice A0_1 l0_1.length c0_1, .slice A0_2 l0_2.length c0_2] 26 (0, 0)) (by (with_reducible repeat (first | refine blk_drewN ?_ _ | refine blk_drew ?_ | refine blk_alloc ?_ _)); exact BK215.out) hb); have n1_ := Aside0.mk (below_step (by repeat (first | (with_reducible first | exact HB.out | apply below_alloc | apply pw_below_drewN | apply below_drew1 | refine below_set ?_ GE215.out) | exact HB.out)) hb); clear BK215; clear HB; have BK215 := n0_; have HB := n1_; clear n0_ n1_; (try clear hb); (try clear hb2); (try clear hk); (try clear hi)))
      go_meet
      case rel => exact ⟨_, (true), (by first | rfl | (simp; done) | (simp [*]; done)), H', ⟨by first | omega | exact Nat.le_refl _⟩, ⟨by (with_reducible repeat (first | refine blk_drewN ?_ _ | refine blk_drew ?_ | refine blk_alloc ?_ _)); exact BK215.out⟩, ⟨by repeat (first | (with_reducible first | exact HB.out | apply below_alloc | apply pw_below_drewN | apply below_drew1 | refine below_set ?_ GE215.out) | exact HB.out)⟩⟩
  case rest =>
    clear HC4
    try clear c1
    try clear p2
    try clear c3
    try clear c7
    try clear c8
    try clear hcz11_0
    try clear hcz11_1
    try clear hcz11_2
    try clear hcz9_0
    try clear hcz9_1
    try clear hcz9_2
    try clear hfz11_0
    try clear hfz11_1
    try clear hfz11_2
    try clear hfz9_0
    try clear hfz9_1
    try clear hfz9_2
    obtain ⟨kq, x22_3, rfl, HA, HJ3, BK215, HB⟩ := hcut
    cases kq with
    | zero => exact absurd HA.out (by simp [taquinlaw35_StockFirst.j0])
    | succ kj3 =>
      have H := HA.out
      clear HA
      simp only [taquinlaw35_StockFirst.j0] at H
      by_cases c13 : x22_3 = true
      · subst c13
        have H1 : (some t216) = some r := by rw [if_pos rfl] at H; exact H
        clear H
        have H := H1
        clear H1
        obtain rfl := Option.some.inj H
        go_wp2
        go_ret
        exact ⟨by first | rfl | (simp [errW_none, errW_some] <;> rfl) | (simp [*, errW_none, errW_some] <;> rfl), by repeat (first | (with_reducible first | exact HB.out | apply below_alloc | apply pw_below_drewN | apply below_drew1 | refine below_set ?_ GE215.out) | exact HB.out)⟩
      · replace c13 := Bool.eq_false_iff.mpr c13
        subst c13
        have H1 : ((stock_Plan.f kj3 l0_1 l0_2 l1).bind fun bt218 => (if bt218.2 = 0 then (taquinlaw35_StockFirst.j1 kj3 l1 t216 bt218.1 bt218.2 ((bt218.1.length : Int) != (l1.length : Int)) l0_0 l0_1 l0_2) else (taquinlaw35_StockFirst.j1 kj3 l1 t216 bt218.1 bt218.2 true l0_0 l0_1 l0_2))) = some r := by rw [if_neg (show ¬ (false = true) by decide)] at H; exact H
        clear H
        have H := H1
        clear H1
        replace H := Option.bind_eq_some_iff.mp H
        obtain ⟨⟨t218, t219⟩, A140, H⟩ := H
        replace H : (if t219 = 0 then (taquinlaw35_StockFirst.j1 kj3 l1 t216 t218 t219 ((t218.length : Int) != (l1.length : Int)) l0_0 l0_1 l0_2) else (taquinlaw35_StockFirst.j1 kj3 l1 t216 t218 t219 true l0_0 l0_1 l0_2)) = some r := H
        have A14 := Aside0.mk A140
        clear A140
        have HC15 := Aside0.mk H
        clear H
        have hcz16_0 : wc.cell? ⟨gb215, 0, none⟩ = some (.slice A0_0 l0_0.length c0_0) := (blk_cell BK215.out 0).trans rfl
        have hcz16_1 : wc.cell? ⟨gb215, 1, none⟩ = some (.slice A0_1 l0_1.length c0_1) := (blk_cell BK215.out 1).trans rfl
        have hcz16_2 : wc.cell? ⟨gb215, 2, none⟩ = some (.slice A0_2 l0_2.length c0_2) := (blk_cell BK215.out 2).trans rfl
        have hfz16_0 := blk_frozen BK215.out 0
        have hfz16_1 := blk_frozen BK215.out 1
        have hfz16_2 := blk_frozen BK215.out 2
        go_upto_region 5 with (first | ((with_reducible refine gate_callee (f := 9) rfl ?_); refine goesL_ (some 30) rfl rfl Try.func9 (by kernel_rfl) rfl #[.slice A0_1 l0_1.length c0_1, .slice A0_2 l0_2.length c0_2, .slice A1 l1.length c1] rfl (by (try simp only [List.map_toArray, List.map_cons, List.map_nil]); first | done | rfl | (simp only [List.length_drop, List.length_take]; rfl)) ?_; (with_reducible refine (stock_Plan.calls kj3 _ _ l0_1 _ _ l0_2 _ _ l1 t218 t219 _ ?side1 ?side2 ?side3 ?side4 ?side5 ?side6 A14.out).mono ?_); (case side1 => repeat (first | exact (Kd.C_below HR0_1.out HB.out) | (with_reducible refine Kd.C_alloc ?_ _) | (with_reducible refine Kd.C_drewN ?_ _) | (with_reducible refine Kd.C_drew ?_))); (case side2 => exact HC0_1.out); (case side3 => repeat (first | exact (Kd.C_below HR0_2.out HB.out) | (with_reducible refine Kd.C_alloc ?_ _) | (with_reducible refine Kd.C_drewN ?_ _) | (with_reducible refine Kd.C_drew ?_))); (case side4 => exact HC0_2.out); (case side5 => repeat (first | exact (Kd.C_below HR1.out HB.out) | (with_reducible refine Kd.C_alloc ?_ _) | (with_reducible refine Kd.C_drewN ?_ _) | (with_reducible refine Kd.C_drew ?_))); (case side6 => exact HC1.out); rintro e w17 ⟨v220, rfl, ho0, hb⟩; refine ⟨_, rfl, ?_⟩; have n0_ := Aside0.mk (Kd.S_lower ho0 (below_size (by repeat (first | (with_reducible first | exact HB.out | apply below_alloc | apply pw_below_drewN | apply below_drew1 | refine below_set ?_ GE215.out) | exact HB.out)))); have n1_ := Aside0.mk (blk_below (g := gb215) (o := .cells #[.slice A0_0 l0_0.length c0_0, .slice A0_1 l0_1.length c0_1, .slice A0_2 l0_2.length c0_2] 26 (0, 0)) (by (with_reducible repeat (first | refine blk_drewN ?_ _ | refine blk_drew ?_ | refine blk_alloc ?_ _)); exact BK215.out) hb); have n2_ := Aside0.mk (below_step (by repeat (first | (with_reducible first | exact HB.out | apply below_alloc | apply pw_below_drewN | apply below_drew1 | refine below_set ?_ GE215.out) | exact HB.out)) hb); clear BK215; clear HB; have HO221 := n0_; have BK215 := n1_; have HB := n2_; clear n0_ n1_ n2_; (try clear hb); (try clear hb2); (try clear hk); (try clear hi); (try clear ho0)))
        (try simp only [Act.put, List.setIfInBounds_toArray, List.set_cons_zero, List.set_cons_succ])
        go_cut [41] (fun v41 wc => ∃ (kq : Nat) (x41_14 : Bool), v41 = .bool x41_14 ∧ Aside0 (taquinlaw35_StockFirst.j1 kq l1 t216 t218 t219 x41_14 l0_0 l0_1 l0_2 = some r) ∧ Aside0 (kq ≤ kj3) ∧ Aside0 (Kd.S (Kd.slice 36 k36) 34 wc w.heap.size (fun _ => True) v220 t218) ∧ Aside0 (wc.heap[gb215]? = some (.cells #[(.slice A0_0 l0_0.length c0_0), (.slice A0_1 l0_1.length c0_1), (.slice A0_2 l0_2.length c0_2)] 26 (0, 0))) ∧ Aside0 (Below w.heap.size w wc))
        case first =>
          have H := HC15.out
          clear HC15
          by_cases c18 : t219 = 0
          · rw [if_pos c18] at H
            have c18b0 : (t219 == 0) = true := beq_iff_eq.mpr c18
            have c18b1 : (t219 != 0) = false := bne_eq_false_iff_eq.mpr c18
            clear c18
            (first | rw [c18b0] | (simp only [i64_w, i32_w]; rw [c18b0]) | skip)
            have H' := Aside0.mk H
            clear H
            obtain ⟨Ao19, co19, eo19⟩ := Kd.S_slice HO221.out
            subst eo19
            go_wp2
            go_meet
            case rel => exact ⟨_, (((t218.length : Int) != (l1.length : Int))), (by first | rfl | (simp; done) | (simp [*]; done)), H', ⟨by have := HJ3.out; first | omega | exact Nat.le_refl _⟩, ⟨by (with_reducible repeat (first | apply Kd.S_alloc | apply Kd.S_drewN | apply Kd.S_drew)); exact HO221.out⟩, ⟨by (with_reducible repeat (first | refine blk_drewN ?_ _ | refine blk_drew ?_ | refine blk_alloc ?_ _)); exact BK215.out⟩, ⟨by repeat (first | (with_reducible first | exact HB.out | apply below_alloc | apply pw_below_drewN | apply below_drew1 | refine below_set ?_ GE215.out) | exact HB.out)⟩⟩
          · rw [if_neg c18] at H
            have c18b0 : (t219 == 0) = false := beq_eq_false_iff_ne.mpr c18
            have c18b1 : (t219 != 0) = true := bne_iff_ne.mpr c18
            (first | rw [c18b0] | (simp only [i64_w, i32_w]; rw [c18b0]) | skip)
            have H' := Aside0.mk H
            clear H
            go_wp2
            go_meet
            case rel => exact ⟨_, (true), (by first | rfl | (simp; done) | (simp [*]; done)), H', ⟨by have := HJ3.out; first | omega | exact Nat.le_refl _⟩, ⟨by (with_reducible repeat (first | apply Kd.S_alloc | apply Kd.S_drewN | apply Kd.S_drew)); exact HO221.out⟩, ⟨by (with_reducible repeat (first | refine blk_drewN ?_ _ | refine blk_drew ?_ | refine blk_alloc ?_ _)); exact BK215.out⟩, ⟨by repeat (first | (with_reducible first | exact HB.out | apply below_alloc | apply pw_below_drewN | apply below_drew1 | refine below_set ?_ GE215.out) | exact HB.out)⟩⟩
        case rest =>
          clear HC15
          try clear c1
          try clear p2
          try clear c3
          try clear c7
          try clear c8
          try clear c9
          try clear c13
          try clear c18
          try clear c18b0
          try clear c18b1
          try clear hcz11_0
          try clear hcz11_1
          try clear hcz11_2
          try clear hcz16_0
          try clear hcz16_1
          try clear hcz16_2
          try clear hcz9_0
          try clear hcz9_1
          try clear hcz9_2
          try clear hfz11_0
          try clear hfz11_1
          try clear hfz11_2
          try clear hfz16_0
          try clear hfz16_1
          try clear hfz16_2
          try clear hfz9_0
          try clear hfz9_1
          try clear hfz9_2
          try clear p2
          obtain ⟨kq, x41_14, rfl, HA, HJ14, HO_6, BK215, HB⟩ := hcut
          cases kq with
          | zero => exact absurd HA.out (by simp [taquinlaw35_StockFirst.j1])
          | succ kj14 =>
            have H := HA.out
            clear HA
            simp only [taquinlaw35_StockFirst.j1] at H
            by_cases c20 : x41_14 = true
            · subst c20
              have H1 : (if t216 = true then (some (t219 != 0)) else (some false)) = some r := by rw [if_pos rfl] at H; exact H
              clear H
              have H := H1
              clear H1
              by_cases c21 : t216 = true
              · subst c21
                have H1 : (some (t219 != 0)) = some r := by rw [if_pos rfl] at H; exact H
                clear H
                have H := H1
                clear H1
                obtain rfl := Option.some.inj H
                go_wp2
                go_ret
                exact ⟨by first | rfl | (simp [errW_none, errW_some] <;> rfl) | (simp [*, errW_none, errW_some] <;> rfl), by repeat (first | (with_reducible first | exact HB.out | apply below_alloc | apply pw_below_drewN | apply below_drew1 | refine below_set ?_ GE215.out) | exact HB.out)⟩
              · replace c21 := Bool.eq_false_iff.mpr c21
                subst c21
                have H1 : (some false) = some r := by rw [if_neg (show ¬ (false = true) by decide)] at H; exact H
                clear H
                have H := H1
                clear H1
                obtain rfl := Option.some.inj H
                go_wp2
                go_ret
                exact ⟨by first | rfl | (simp [errW_none, errW_some] <;> rfl) | (simp [*, errW_none, errW_some] <;> rfl), by repeat (first | (with_reducible first | exact HB.out | apply below_alloc | apply pw_below_drewN | apply below_drew1 | refine below_set ?_ GE215.out) | exact HB.out)⟩
            · replace c20 := Bool.eq_false_iff.mpr c20
              subst c20
              have H1 : ((some (([] : List (S38)) : List (S38))).bind fun y222 => (if y222.length + l0_2.length < 5864062014805 then (taquinlaw35_StockFirst.l0 kj14 l1 t216 t218 (y222 ++ l0_2) 0 l0_0 l0_1 l0_2) else (none))) = some r := by rw [if_neg (show ¬ (false = true) by decide)] at H; exact H
              clear H
              have H := H1
              clear H1
              obtain ⟨y222, hy222⟩ : ∃ y_ : List (S38), y_ = (([] : List (S38))) := ⟨_, rfl⟩
              replace H : (if y222.length + l0_2.length < 5864062014805 then (taquinlaw35_StockFirst.l0 kj14 l1 t216 t218 (y222 ++ l0_2) 0 l0_0 l0_1 l0_2) else (none)) = some r := by first | (rw [hy222]; with_reducible exact H) | (have H2_ := (Option.bind_some _ _).symm.trans H; rw [hy222]; with_reducible exact H2_) | (have H2_ := (Option.bind_some _ _).symm.trans H; with_reducible exact H2_) | with_reducible exact H | (rw [hy222]; exact H) | exact H
              have Ny222 := Aside0.mk hy222
              clear hy222
              by_cases c22 : y222.length + l0_2.length < 5864062014805
              · rw [if_pos c22] at H
                have LMc22 := Aside0.mk c22
                clear c22
                obtain ⟨y225, hy225⟩ : ∃ y_ : List (S38), y_ = (y222 ++ l0_2) := ⟨_, rfl⟩
                replace H : (taquinlaw35_StockFirst.l0 kj14 l1 t216 t218 y225 0 l0_0 l0_1 l0_2) = some r := by first | (rw [hy225]; with_reducible exact H) | (have H2_ := (Option.bind_some _ _).symm.trans H; rw [hy225]; with_reducible exact H2_) | (have H2_ := (Option.bind_some _ _).symm.trans H; with_reducible exact H2_) | with_reducible exact H | (rw [hy225]; exact H) | exact H
                have Ny225 := Aside0.mk hy225
                clear hy225
                have H' := Aside0.mk H
                clear H
                go_wp2_with (first | ((with_reducible refine gate_dst (N := 47) rfl ?_); (try (refine gate_guard (by rfl) ?_; dsimp only)); refine Kd.R_lit k38 _ 38 ?hg (N := 47) ?hd (xs := ([] : List (S38))) (inner := []) (ok := fun _ => True) (okp := fun _ => True) ?hr ?hp (fun _ hk => hk) trivial (Below.refl _ _) (Nat.le_refl _) (by simp) ?_; (case hd => rfl); (case hg => rfl); (case hr => first | (go_simp; done) | (go_simp; rfl)); (case hp => exact (Reps.none _ _)); intro v223 w23 ho24 hb hg_ hnew_; clear hg_ hnew_; (first | rw [← Ny222.out] at ho24 | (simp only [Int.reduceToNat] at ho24; rw [← Ny222.out] at ho24)); have n0_ := Aside0.mk (Kd.S_below (by (with_reducible repeat (first | apply Kd.S_alloc | apply Kd.S_drewN | apply Kd.S_drew)); exact HO_6.out) hb); have n1_ := Aside0.mk (Kd.R_lower ho24 (below_size (by repeat (first | (with_reducible first | exact HB.out | apply below_alloc | apply pw_below_drewN | apply below_drew1 | refine below_set ?_ GE215.out) | exact HB.out)))); have n2_ := Aside0.mk (blk_below (g := gb215) (o := .cells #[.slice A0_0 l0_0.length c0_0, .slice A0_1 l0_1.length c0_1, .slice A0_2 l0_2.length c0_2] 26 (0, 0)) (by (with_reducible repeat (first | refine blk_drewN ?_ _ | refine blk_drew ?_ | refine blk_alloc ?_ _)); exact BK215.out) hb); have n3_ := Aside0.mk (below_step (by repeat (first | (with_reducible first | exact HB.out | apply below_alloc | apply pw_below_drewN | apply below_drew1 | refine below_set ?_ GE215.out) | exact HB.out)) hb); clear HO_6; clear BK215; clear HB; have HO_6 := n0_; have HO224 := n1_; have BK215 := n2_; have HB := n3_; clear n0_ n1_ n2_ n3_; clear hb ho24; have hcz25_0 : w23.cell? ⟨gb215, 0, none⟩ = some (.slice A0_0 l0_0.length c0_0) := (blk_cell BK215.out 0).trans rfl; have hcz25_1 : w23.cell? ⟨gb215, 1, none⟩ = some (.slice A0_1 l0_1.length c0_1) := (blk_cell BK215.out 1).trans rfl; have hcz25_2 : w23.cell? ⟨gb215, 2, none⟩ = some (.slice A0_2 l0_2.length c0_2) := (blk_cell BK215.out 2).trans rfl; have hfz25_0 := blk_frozen BK215.out 0; have hfz25_1 := blk_frozen BK215.out 1; have hfz25_2 := blk_frozen BK215.out 2) | ((with_reducible refine gate_builtin (b := .append) (xs := #[.tmp 47, .tmp 49]) rfl ?_); (try (refine gate_guard (by rfl) ?_; dsimp only)); at_builtin; refine Kd.R_append_rows k38 (w0 := w) w.heap.size rfl (.tmp 47) (.tmp 49) 24 38 (.agg #[(.int .i64 0), (.int .i64 0), (.int .i64 0)]) 24 rfl Try.underlying24 info38 rfl (by decide) (by omega) v223 y222 l0_2 _ _ _ (fun _ => True) (fun _ => False) rfl rfl ?aO ?aR (fun _ _ h => h) (fun _ h => h.elim) ?aF ?aB ?aS ?aL ?_; (case aR => repeat (first | exact (Kd.C_below HR0_2.out HB.out) | (with_reducible refine Kd.C_alloc ?_ _) | (with_reducible refine Kd.C_drewN ?_ _) | (with_reducible refine Kd.C_drew ?_))); (case aB => exact (by repeat (first | (with_reducible first | exact HB.out | apply below_alloc | apply pw_below_drewN | apply below_drew1 | refine below_set ?_ GE215.out) | exact HB.out))); (case aF => exact (fun _ _ => trivial)); (case aO => exact (by (with_reducible repeat (first | apply Kd.R_alloc | apply Kd.R_drewN | apply Kd.R_drew)); exact HO224.out)); (case aS => exact (below_size (by repeat (first | (with_reducible first | exact HB.out | apply below_alloc | apply pw_below_drewN | apply below_drew1 | refine below_set ?_ GE215.out) | exact HB.out)))); (case aL => have := LMc22.out; omega); intro v226 w26 ho hb hg hat; rw [← Ny225.out] at ho; have n0_ := Aside0.mk (Kd.S_over' (by (with_reducible repeat (first | apply Kd.S_alloc | apply Kd.S_drewN | apply Kd.S_drew)); exact HO_6.out) (Kd.R_typed (by (with_reducible repeat (first | apply Kd.R_alloc | apply Kd.R_drewN | apply Kd.R_drew)); exact HO224.out)) (by decide) hg); have n1_ := Aside0.mk (blk_grown (g := gb215) (o := .cells #[.slice A0_0 l0_0.length c0_0, .slice A0_1 l0_1.length c0_1, .slice A0_2 l0_2.length c0_2] 26 (0, 0)) (by (with_reducible repeat (first | refine blk_drewN ?_ _ | refine blk_drew ?_ | refine blk_alloc ?_ _)); exact BK215.out) hg (Kd.R_ne HO224.out BK215.out (by decide))); have n2_ := Aside0.mk (hb); have n3_ := Aside0.mk (ho); clear HO_6; clear BK215; clear HB; clear HO224; have HO_6 := n0_; have BK215 := n1_; have HB := n2_; have HO227 := n3_; clear n0_ n1_ n2_ n3_; clear ho hb hg hat))
                go_loopg [9] kj14 (fun kq v9 w' => ∃ (x8_3 : List (S38)) (x9_3 : Int), v9 = .int .i64 x9_3 ∧ Aside0 (taquinlaw35_StockFirst.l0 kq l1 t216 t218 x8_3 x9_3 l0_0 l0_1 l0_2 = some r) ∧ Aside0 (kq ≤ kj14) ∧ Aside0 (Kd.S (Kd.slice 36 k36) 34 w' w.heap.size (fun _ => True) v220 t218) ∧ Aside0 (Kd.R k38 38 w' w.heap.size (fun _ => True) v226 x8_3) ∧ Aside0 (w'.heap[gb215]? = some (.cells #[(.slice A0_0 l0_0.length c0_0), (.slice A0_1 l0_1.length c0_1), (.slice A0_2 l0_2.length c0_2)] 26 (0, 0))) ∧ Aside0 (Below w.heap.size w w'))
                case atStart => exact ⟨(y225), (0), (by first | rfl | (simp; done) | (simp [*]; done)), H', ⟨Nat.le_refl _⟩, ⟨by (with_reducible repeat (first | apply Kd.S_alloc | apply Kd.S_drewN | apply Kd.S_drew)); exact HO_6.out⟩, ⟨by (with_reducible repeat (first | apply Kd.R_alloc | apply Kd.R_drewN | apply Kd.R_drew)); exact HO227.out⟩, ⟨by (with_reducible repeat (first | refine blk_drewN ?_ _ | refine blk_drew ?_ | refine blk_alloc ?_ _)); exact BK215.out⟩, ⟨by repeat (first | (with_reducible first | exact HB.out | apply below_alloc | apply pw_below_drewN | apply below_drew1 | refine below_set ?_ GE215.out) | exact HB.out)⟩⟩
                case round =>
                  clear H'
                  try clear c1
                  try clear c2
                  try clear p2
                  try clear c3
                  try clear c7
                  try clear c8
                  try clear c9
                  try clear c13
                  try clear c18
                  try clear c18b0
                  try clear c18b1
                  try clear c20
                  try clear c21
                  try clear c22
                  try clear hcz11_0
                  try clear hcz11_1
                  try clear hcz11_2
                  try clear hcz16_0
                  try clear hcz16_1
                  try clear hcz16_2
                  try clear hcz25_0
                  try clear hcz25_1
                  try clear hcz25_2
                  try clear hcz9_0
                  try clear hcz9_1
                  try clear hcz9_2
                  try clear hfz11_0
                  try clear hfz11_1
                  try clear hfz11_2
                  try clear hfz16_0
                  try clear hfz16_1
                  try clear hfz16_2
                  try clear hfz25_0
                  try clear hfz25_1
                  try clear hfz25_2
                  try clear hfz9_0
                  try clear hfz9_1
                  try clear hfz9_2
                  try clear p2
                  obtain ⟨x8_3, x9_3, rfl, HA, HK3, HO_6, HO_8, BK215, HB⟩ := hrel
                  cases gk with
                  | zero => exact absurd HA.out (by simp [taquinlaw35_StockFirst.l0])
                  | succ k3 =>
                    have H := HA.out
                    clear HA
                    simp only [taquinlaw35_StockFirst.l0] at H
                    by_cases c27 : x9_3 < (t218.length : Int)
                    · rw [if_pos c27] at H
                      have c27b0 : decide (x9_3 < (t218.length : Int)) = true := decide_eq_true c27
                      clear c27
                      have H' := Aside0.mk H
                      clear H
                      obtain ⟨Ao28, co28, eo28⟩ := Kd.S_slice HO_6.out
                      subst eo28
                      go_wp2
                      go_loopg [10, 11] k3 (fun kq v10 v11 w' => ∃ (x8_4 : List (S38)) (x10_4 : Int) (x11_4 : Int), v10 = .int .i64 x10_4 ∧ v11 = .int .i64 x11_4 ∧ Aside0 (taquinlaw35_StockFirst.l1 kq l1 t216 t218 x8_4 x9_3 x10_4 x11_4 l0_0 l0_1 l0_2 = some r) ∧ Aside0 (kq ≤ k3) ∧ Aside0 (Kd.S (Kd.slice 36 k36) 34 w' w.heap.size (fun _ => True) (.slice Ao28 t218.length co28) t218) ∧ Aside0 (Kd.R k38 38 w' w.heap.size (fun _ => True) v226 x8_4) ∧ Aside0 (w'.heap[gb215]? = some (.cells #[(.slice A0_0 l0_0.length c0_0), (.slice A0_1 l0_1.length c0_1), (.slice A0_2 l0_2.length c0_2)] 26 (0, 0))) ∧ Aside0 (Below w.heap.size w w'))
                      case atStart => exact ⟨(x8_3), ((-1)), (0), (by first | rfl | (simp; done) | (simp [*]; done)), (by first | rfl | (simp; done) | (simp [*]; done)), H', ⟨Nat.le_refl _⟩, ⟨by (with_reducible repeat (first | apply Kd.S_alloc | apply Kd.S_drewN | apply Kd.S_drew)); exact HO_6.out⟩, ⟨by (with_reducible repeat (first | apply Kd.R_alloc | apply Kd.R_drewN | apply Kd.R_drew)); exact HO_8.out⟩, ⟨by (with_reducible repeat (first | refine blk_drewN ?_ _ | refine blk_drew ?_ | refine blk_alloc ?_ _)); exact BK215.out⟩, ⟨by repeat (first | (with_reducible first | exact HB.out | apply below_alloc | apply pw_below_drewN | apply below_drew1 | refine below_set ?_ GE215.out) | exact HB.out)⟩⟩
                      case round =>
                        clear H'
                        try clear c1
                        try clear c2
                        try clear p2
                        try clear c3
                        try clear c7
                        try clear c8
                        try clear c9
                        try clear c13
                        try clear c18
                        try clear c18b0
                        try clear c18b1
                        try clear c20
                        try clear c21
                        try clear c22
                        try clear c27
                        try clear c27b0
                        try clear hcz11_0
                        try clear hcz11_1
                        try clear hcz11_2
                        try clear hcz16_0
                        try clear hcz16_1
                        try clear hcz16_2
                        try clear hcz25_0
                        try clear hcz25_1
                        try clear hcz25_2
                        try clear hcz9_0
                        try clear hcz9_1
                        try clear hcz9_2
                        try clear hfz11_0
                        try clear hfz11_1
                        try clear hfz11_2
                        try clear hfz16_0
                        try clear hfz16_1
                        try clear hfz16_2
                        try clear hfz25_0
                        try clear hfz25_1
                        try clear hfz25_2
                        try clear hfz9_0
                        try clear hfz9_1
                        try clear hfz9_2
                        try clear p2
                        obtain ⟨x8_4, x10_4, x11_4, rfl, rfl, HA, HK4, HO_6, HO_8, BK215, HB⟩ := hrel
                        cases gk with
                        | zero => exact absurd HA.out (by simp [taquinlaw35_StockFirst.l1])
                        | succ k4 =>
                          have H := HA.out
                          clear HA
                          simp only [taquinlaw35_StockFirst.l1] at H
                          by_cases c29 : 0 ≤ x9_3
                          · rw [if_pos c29] at H
                            have c29b0 : decide (0 ≤ x9_3) = true := decide_eq_true c29
                            clear c29
                            by_cases c30 : x9_3 < (t218.length : Int)
                            · rw [if_pos c30] at H
                              have c30b0 : decide (x9_3 < (t218.length : Int)) = true := decide_eq_true c30
                              clear c30
                              by_cases c31 : x11_4 < ((rd_L10 t218 x9_3).length : Int)
                              · rw [if_pos c31] at H
                                have c31b0 : decide (x11_4 < ((rd_L10 t218 x9_3).length : Int)) = true := decide_eq_true c31
                                clear c31
                                by_cases c32 : 0 ≤ x11_4
                                · rw [if_pos c32] at H
                                  have c32b0 : decide (0 ≤ x11_4) = true := decide_eq_true c32
                                  clear c32
                                  have HC33 := Aside0.mk H
                                  clear H
                                  have p228 : 0 ≤ (x9_3 : Int) := of_decide_eq_true (by first | (with_reducible assumption) | assumption)
                                  have q228 : x9_3 < (t218.length : Int) := of_decide_eq_true (by first | (with_reducible assumption) | assumption)
                                  obtain ⟨ad228, A228_0, c228_0, e228, hx228_0, hl228_0, hi228_0⟩ := at_L10 (Kd.S_reads' HO_6.out).2.2 x9_3 p228 q228
                                  cases e228
                                  obtain ⟨ce228, hce228, hMe228, hcc228⟩ := Kd.S_get HO_6.out [] x9_3 p228 (by first | exact q228 | exact of_decide_eq_true (by first | (with_reducible assumption) | assumption) | (have e_ := (Kd.S_reads' HO_6.out).1; omega))
                                  obtain ⟨ve228_0, rfl, ge228_0⟩ := hMe228
                                  have hv228_0 := hcc228 0 _ rfl
                                  rw [Nat.add_zero, show ((Kd.slice 36 k36)).sz = 1 from rfl, Nat.mul_one] at hv228_0
                                  replace hv228_0 := Option.some.inj (hv228_0.symm.trans hx228_0)
                                  rw [hv228_0] at ge228_0
                                  have HL228_0 := Aside0.mk (show Kd.R k36 36 _ _ _ _ (rd_L10 t218 x9_3) from ge228_0)
                                  clear hv228_0 ge228_0
                                  clear hcc228 hce228
                                  have HR228_0 := Aside0.mk hi228_0
                                  have HC228_0 := Aside0.mk hl228_0
                                  clear hi228_0 hl228_0
                                  replace p228 := eq_true p228
                                  replace q228 := eq_true q228
                                  have p229 : 0 ≤ (x9_3 : Int) := of_decide_eq_true (by first | (with_reducible assumption) | assumption)
                                  have q229 : x9_3 < (t218.length : Int) := of_decide_eq_true (by first | (with_reducible assumption) | assumption)
                                  obtain ⟨ad229, A229_0, c229_0, e229, hx229_0, hl229_0, hi229_0⟩ := at_L10 (Kd.S_reads' HO_6.out).2.2 x9_3 p229 q229
                                  obtain rfl : ad228 = ad229 := (by injection e229)
                                  obtain ⟨ce229, hce229, hMe229, hcc229⟩ := Kd.S_get HO_6.out [] x9_3 p229 (by first | exact q229 | exact of_decide_eq_true (by first | (with_reducible assumption) | assumption) | (have e_ := (Kd.S_reads' HO_6.out).1; omega))
                                  obtain ⟨ve229_0, rfl, ge229_0⟩ := hMe229
                                  have hv229_0 := hcc229 0 _ rfl
                                  rw [Nat.add_zero, show ((Kd.slice 36 k36)).sz = 1 from rfl, Nat.mul_one] at hv229_0
                                  replace hv229_0 := Option.some.inj (hv229_0.symm.trans hx229_0)
                                  rw [hv229_0] at ge229_0
                                  have HL229_0 := Aside0.mk (show Kd.R k36 36 _ _ _ _ (rd_L10 t218 x9_3) from ge229_0)
                                  clear hv229_0 ge229_0
                                  clear hcc229 hce229
                                  have HR229_0 := Aside0.mk hi229_0
                                  have HC229_0 := Aside0.mk hl229_0
                                  clear hi229_0 hl229_0
                                  replace p229 := eq_true p229
                                  replace q229 := eq_true q229
                                  have ea_ := Option.some.inj (hx228_0.symm.trans hx229_0)
                                  injection ea_ with ea_ en_ ec_
                                  subst ea_
                                  subst ec_
                                  clear en_
                                  have p230 : 0 ≤ (x11_4 : Int) := of_decide_eq_true (by first | (with_reducible assumption) | assumption)
                                  have q230 : x11_4 < ((rd_L10 t218 x9_3).length : Int) := of_decide_eq_true (by first | (with_reducible assumption) | assumption)
                                  obtain ⟨ad230, e230, hx230_0, hx230_1⟩ := at_T36 (by repeat (first | (with_reducible exact HR229_0.out) | (with_reducible refine Kd.C_alloc ?_ _) | (with_reducible refine Kd.C_drewN ?_ _) | (with_reducible refine Kd.C_drew ?_) | exact HR229_0.out)) x11_4 p230 q230
                                  cases e230
                                  replace p230 := eq_true p230
                                  replace q230 := eq_true q230
                                  go_upto_region 16 with (fail)
                                  go_cut [81] (fun v81 wc => ∃ (kq : Nat) (x81_32 : Bool), v81 = .bool x81_32 ∧ Aside0 (taquinlaw35_StockFirst.j4 kq l1 t216 t218 x8_4 x9_3 x10_4 x11_4 ((rd_T36 (rd_L10 t218 x9_3) x11_4).f0) x81_32 l0_0 l0_1 l0_2 = some r) ∧ Aside0 (kq ≤ k4) ∧ Aside0 (Kd.S (Kd.slice 36 k36) 34 wc w.heap.size (fun _ => True) (.slice (some ad228) t218.length co28) t218) ∧ Aside0 (Kd.R k38 38 wc w.heap.size (fun _ => True) v226 x8_4) ∧ Aside0 (wc.heap[gb215]? = some (.cells #[(.slice A0_0 l0_0.length c0_0), (.slice A0_1 l0_1.length c0_1), (.slice A0_2 l0_2.length c0_2)] 26 (0, 0))) ∧ Aside0 (Kd.C k36 wc (some ad230) (rd_L10 t218 x9_3).length (rd_L10 t218 x9_3)) ∧ Aside0 (Kd.C k36 wc (some ad230) (rd_L10 t218 x9_3).length (rd_L10 t218 x9_3)) ∧ Aside0 (Below w.heap.size w wc))
                                  case first =>
                                    have H := HC33.out
                                    clear HC33
                                    by_cases c34 : ((rd_T36 (rd_L10 t218 x9_3) x11_4).f0) < 0
                                    · rw [if_pos c34] at H
                                      have c34b0 : decide (((rd_T36 (rd_L10 t218 x9_3) x11_4).f0) < 0) = true := decide_eq_true c34
                                      clear c34
                                      (first | rw [c34b0] | (simp only [i64_w, i32_w]; rw [c34b0]) | skip)
                                      have H' := Aside0.mk H
                                      clear H
                                      go_wp2
                                      go_meet
                                      case rel => exact ⟨_, (true), (by first | rfl | (simp; done) | (simp [*]; done)), H', ⟨by have := HJ3.out; have := HJ14.out; have := HK3.out; have := HK4.out; first | omega | exact Nat.le_refl _⟩, ⟨by (with_reducible repeat (first | apply Kd.S_alloc | apply Kd.S_drewN | apply Kd.S_drew)); exact HO_6.out⟩, ⟨by (with_reducible repeat (first | apply Kd.R_alloc | apply Kd.R_drewN | apply Kd.R_drew)); exact HO_8.out⟩, ⟨by (with_reducible repeat (first | refine blk_drewN ?_ _ | refine blk_drew ?_ | refine blk_alloc ?_ _)); exact BK215.out⟩, ⟨by repeat (first | (with_reducible exact HR228_0.out) | (with_reducible refine Kd.C_alloc ?_ _) | (with_reducible refine Kd.C_drewN ?_ _) | (with_reducible refine Kd.C_drew ?_) | exact HR228_0.out)⟩, ⟨by repeat (first | (with_reducible exact HR229_0.out) | (with_reducible refine Kd.C_alloc ?_ _) | (with_reducible refine Kd.C_drewN ?_ _) | (with_reducible refine Kd.C_drew ?_) | exact HR229_0.out)⟩, ⟨by repeat (first | (with_reducible first | exact HB.out | apply below_alloc | apply pw_below_drewN | apply below_drew1 | refine below_set ?_ GE215.out) | exact HB.out)⟩⟩
                                    · rw [if_neg c34] at H
                                      have c34b0 : decide (((rd_T36 (rd_L10 t218 x9_3) x11_4).f0) < 0) = false := decide_eq_false c34
                                      clear c34
                                      (first | rw [c34b0] | (simp only [i64_w, i32_w]; rw [c34b0]) | skip)
                                      have H' := Aside0.mk H
                                      clear H
                                      obtain ⟨Ao35, co35, eo35⟩ := Kd.R_slice HO_8.out
                                      subst eo35
                                      go_wp2
                                      go_meet
                                      case rel => exact ⟨_, (decide (((rd_T36 (rd_L10 t218 x9_3) x11_4).f0) ≥ (x8_4.length : Int))), (by first | rfl | (simp; done) | (simp [*]; done)), H', ⟨by have := HJ3.out; have := HJ14.out; have := HK3.out; have := HK4.out; first | omega | exact Nat.le_refl _⟩, ⟨by (with_reducible repeat (first | apply Kd.S_alloc | apply Kd.S_drewN | apply Kd.S_drew)); exact HO_6.out⟩, ⟨by (with_reducible repeat (first | apply Kd.R_alloc | apply Kd.R_drewN | apply Kd.R_drew)); exact HO_8.out⟩, ⟨by (with_reducible repeat (first | refine blk_drewN ?_ _ | refine blk_drew ?_ | refine blk_alloc ?_ _)); exact BK215.out⟩, ⟨by repeat (first | (with_reducible exact HR228_0.out) | (with_reducible refine Kd.C_alloc ?_ _) | (with_reducible refine Kd.C_drewN ?_ _) | (with_reducible refine Kd.C_drew ?_) | exact HR228_0.out)⟩, ⟨by repeat (first | (with_reducible exact HR229_0.out) | (with_reducible refine Kd.C_alloc ?_ _) | (with_reducible refine Kd.C_drewN ?_ _) | (with_reducible refine Kd.C_drew ?_) | exact HR229_0.out)⟩, ⟨by repeat (first | (with_reducible first | exact HB.out | apply below_alloc | apply pw_below_drewN | apply below_drew1 | refine below_set ?_ GE215.out) | exact HB.out)⟩⟩
                                  case rest =>
                                    clear HC33
                                    try clear c1
                                    try clear c2
                                    try clear p2
                                    try clear q2
                                    try clear hx2
                                    try clear c3
                                    try clear c7
                                    try clear c8
                                    try clear c9
                                    try clear c13
                                    try clear c18
                                    try clear c18b0
                                    try clear c18b1
                                    try clear c20
                                    try clear c21
                                    try clear c22
                                    try clear p22
                                    try clear q22
                                    try clear hx22
                                    try clear p23
                                    try clear q23
                                    try clear hx23
                                    try clear c27
                                    try clear c27b0
                                    try clear c29
                                    try clear c29b0
                                    try clear c30
                                    try clear c30b0
                                    try clear c31
                                    try clear c31b0
                                    try clear c32
                                    try clear c32b0
                                    try clear c34
                                    try clear c34b0
                                    try clear hcz11_0
                                    try clear hcz11_1
                                    try clear hcz11_2
                                    try clear hcz16_0
                                    try clear hcz16_1
                                    try clear hcz16_2
                                    try clear hcz25_0
                                    try clear hcz25_1
                                    try clear hcz25_2
                                    try clear hcz9_0
                                    try clear hcz9_1
                                    try clear hcz9_2
                                    try clear hfz11_0
                                    try clear hfz11_1
                                    try clear hfz11_2
                                    try clear hfz16_0
                                    try clear hfz16_1
                                    try clear hfz16_2
                                    try clear hfz25_0
                                    try clear hfz25_1
                                    try clear hfz25_2
                                    try clear hfz9_0
                                    try clear hfz9_1
                                    try clear hfz9_2
                                    try clear hx228_0
                                    try clear hx229_0
                                    try clear hx230_0
                                    try clear hx230_1
                                    try clear p2
                                    try clear p228
                                    try clear p229
                                    try clear p230
                                    try clear q228
                                    try clear q229
                                    try clear q230
                                    obtain ⟨kq, x81_32, rfl, HA, HJ32, HO_6, HO_8, BK215, HR228_0, HR229_0, HB⟩ := hcut
                                    cases kq with
                                    | zero => exact absurd HA.out (by simp [taquinlaw35_StockFirst.j4])
                                    | succ kj32 =>
                                      have H := HA.out
                                      clear HA
                                      simp only [taquinlaw35_StockFirst.j4] at H
                                      by_cases c36 : x81_32 = true
                                      · subst c36
                                        have H1 : (some false) = some r := by rw [if_pos rfl] at H; exact H
                                        clear H
                                        have H := H1
                                        clear H1
                                        obtain rfl := Option.some.inj H
                                        go_wp2
                                        go_ret
                                        exact ⟨by first | rfl | (simp [errW_none, errW_some] <;> rfl) | (simp [*, errW_none, errW_some] <;> rfl), by repeat (first | (with_reducible first | exact HB.out | apply below_alloc | apply pw_below_drewN | apply below_drew1 | refine below_set ?_ GE215.out) | exact HB.out)⟩
                                      · replace c36 := Bool.eq_false_iff.mpr c36
                                        subst c36
                                        have H1 : (if 0 ≤ ((rd_T36 (rd_L10 t218 x9_3) x11_4).f0) then (if ((rd_T36 (rd_L10 t218 x9_3) x11_4).f0) < (x8_4.length : Int) then (if 0 ≤ x9_3 then (if x9_3 < (t218.length : Int) then (if 0 ≤ x11_4 then (if x11_4 < ((rd_L10 t218 x9_3).length : Int) then ((some (x8_4.set (((rd_T36 (rd_L10 t218 x9_3) x11_4).f0) : Int).toNat (⟨(rd_T38 x8_4 ((rd_T36 (rd_L10 t218 x9_3) x11_4).f0)).f0, wrap64 (((rd_T38 x8_4 ((rd_T36 (rd_L10 t218 x9_3) x11_4).f0)).f1) - ((rd_T36 (rd_L10 t218 x9_3) x11_4).f1)), (rd_T38 x8_4 ((rd_T36 (rd_L10 t218 x9_3) x11_4).f0)).f2⟩ : S38) : List (S38))).bind fun y234 => (if ((rd_T38 y234 ((rd_T36 (rd_L10 t218 x9_3) x11_4).f0)).f0) < 0 then (some false) else (if ((rd_T38 y234 ((rd_T36 (rd_L10 t218 x9_3) x11_4).f0)).f0) ≥ (l0_1.length : Int) then (some false) else (if 0 ≤ ((rd_T38 y234 ((rd_T36 (rd_L10 t218 x9_3) x11_4).f0)).f0) then (if ((rd_T38 y234 ((rd_T36 (rd_L10 t218 x9_3) x11_4).f0)).f0) < (l0_1.length : Int) then (taquinlaw35_StockFirst.l1 kj32 l1 t216 t218 y234 x9_3 (mx x10_4 ((rd_T40 l0_1 ((rd_T38 y234 ((rd_T36 (rd_L10 t218 x9_3) x11_4).f0)).f0)).f1)) (wrap64 (x11_4 + 1)) l0_0 l0_1 l0_2) else (none)) else (none))))) else (none)) else (none)) else (none)) else (none)) else (none)) else (none)) = some r := by rw [if_neg (show ¬ (false = true) by decide)] at H; exact H
                                        clear H
                                        have H := H1
                                        clear H1
                                        by_cases c37 : 0 ≤ ((rd_T36 (rd_L10 t218 x9_3) x11_4).f0)
                                        · rw [if_pos c37] at H
                                          have c37b0 : decide (0 ≤ ((rd_T36 (rd_L10 t218 x9_3) x11_4).f0)) = true := decide_eq_true c37
                                          clear c37
                                          by_cases c38 : ((rd_T36 (rd_L10 t218 x9_3) x11_4).f0) < (x8_4.length : Int)
                                          · rw [if_pos c38] at H
                                            have c38b0 : decide (((rd_T36 (rd_L10 t218 x9_3) x11_4).f0) < (x8_4.length : Int)) = true := decide_eq_true c38
                                            clear c38
                                            by_cases c39 : 0 ≤ x9_3
                                            · rw [if_pos c39] at H
                                              have c39b0 : decide (0 ≤ x9_3) = true := decide_eq_true c39
                                              clear c39
                                              by_cases c40 : x9_3 < (t218.length : Int)
                                              · rw [if_pos c40] at H
                                                have c40b0 : decide (x9_3 < (t218.length : Int)) = true := decide_eq_true c40
                                                clear c40
                                                by_cases c41 : 0 ≤ x11_4
                                                · rw [if_pos c41] at H
                                                  have c41b0 : decide (0 ≤ x11_4) = true := decide_eq_true c41
                                                  clear c41
                                                  by_cases c42 : x11_4 < ((rd_L10 t218 x9_3).length : Int)
                                                  · rw [if_pos c42] at H
                                                    have c42b0 : decide (x11_4 < ((rd_L10 t218 x9_3).length : Int)) = true := decide_eq_true c42
                                                    clear c42
                                                    obtain ⟨y234, hy234⟩ : ∃ y_ : List (S38), y_ = (x8_4.set (((rd_T36 (rd_L10 t218 x9_3) x11_4).f0) : Int).toNat (⟨(rd_T38 x8_4 ((rd_T36 (rd_L10 t218 x9_3) x11_4).f0)).f0, wrap64 (((rd_T38 x8_4 ((rd_T36 (rd_L10 t218 x9_3) x11_4).f0)).f1) - ((rd_T36 (rd_L10 t218 x9_3) x11_4).f1)), (rd_T38 x8_4 ((rd_T36 (rd_L10 t218 x9_3) x11_4).f0)).f2⟩ : S38)) := ⟨_, rfl⟩
                                                    replace H : (if ((rd_T38 y234 ((rd_T36 (rd_L10 t218 x9_3) x11_4).f0)).f0) < 0 then (some false) else (if ((rd_T38 y234 ((rd_T36 (rd_L10 t218 x9_3) x11_4).f0)).f0) ≥ (l0_1.length : Int) then (some false) else (if 0 ≤ ((rd_T38 y234 ((rd_T36 (rd_L10 t218 x9_3) x11_4).f0)).f0) then (if ((rd_T38 y234 ((rd_T36 (rd_L10 t218 x9_3) x11_4).f0)).f0) < (l0_1.length : Int) then (taquinlaw35_StockFirst.l1 kj32 l1 t216 t218 y234 x9_3 (mx x10_4 ((rd_T40 l0_1 ((rd_T38 y234 ((rd_T36 (rd_L10 t218 x9_3) x11_4).f0)).f0)).f1)) (wrap64 (x11_4 + 1)) l0_0 l0_1 l0_2) else (none)) else (none)))) = some r := by first | (rw [hy234]; with_reducible exact H) | (have H2_ := (Option.bind_some _ _).symm.trans H; rw [hy234]; with_reducible exact H2_) | (have H2_ := (Option.bind_some _ _).symm.trans H; with_reducible exact H2_) | with_reducible exact H | (rw [hy234]; exact H) | exact H
                                                    have Ny234 := Aside0.mk hy234
                                                    clear hy234
                                                    by_cases c44 : ((rd_T38 y234 ((rd_T36 (rd_L10 t218 x9_3) x11_4).f0)).f0) < 0
                                                    · rw [if_pos c44] at H
                                                      have c44b0 : decide (((rd_T38 y234 ((rd_T36 (rd_L10 t218 x9_3) x11_4).f0)).f0) < 0) = true := decide_eq_true c44
                                                      clear c44
                                                      obtain rfl := Option.some.inj H
                                                      try go_wp2
                                                      have n0_ := Aside0.mk (Kd.S_drew HO_6.out)
                                                      have n1_ := Aside0.mk (Kd.R_drew HO_8.out)
                                                      have n2_ := Aside0.mk (blk_drew BK215.out)
                                                      have n3_ := Aside0.mk (Kd.C_drew HR228_0.out)
                                                      have n4_ := Aside0.mk (Kd.C_drew HR229_0.out)
                                                      have n5_ := Aside0.mk (below_drew1 HB.out)
                                                      clear HO_6
                                                      clear HO_8
                                                      clear BK215
                                                      clear HR228_0
                                                      clear HR229_0
                                                      clear HB
                                                      have HO_6 := n0_
                                                      have HO_8 := n1_
                                                      have BK215 := n2_
                                                      have HR228_0 := n3_
                                                      have HR229_0 := n4_
                                                      have HB := n5_
                                                      clear n0_ n1_ n2_ n3_ n4_ n5_
                                                      obtain ⟨Ao46, co46, eo46⟩ := Kd.R_slice HO_8.out
                                                      (first | subst eo46 | (injection eo46 with f1_ f2_ f3_; have f4_ := f1_.symm; have f5_ := f3_.symm; clear f1_ f2_ f3_; subst f4_; subst f5_))
                                                      have p231 : 0 ≤ (((rd_T36 (rd_L10 t218 x9_3) x11_4).f0) : Int) := of_decide_eq_true (by first | (with_reducible assumption) | assumption)
                                                      have q231 : ((rd_T36 (rd_L10 t218 x9_3) x11_4).f0) < (x8_4.length : Int) := of_decide_eq_true (by first | (with_reducible assumption) | assumption)
                                                      obtain ⟨ad231, e231, hx231_0, hx231_1, hx231_2⟩ := at_T38 (Kd.R_reads' HO_8.out).2.2 ((rd_T36 (rd_L10 t218 x9_3) x11_4).f0) p231 q231
                                                      cases e231
                                                      replace p231 := eq_true p231
                                                      replace q231 := eq_true q231
                                                      have p232 : 0 ≤ (x9_3 : Int) := of_decide_eq_true (by first | (with_reducible assumption) | assumption)
                                                      have q232 : x9_3 < (t218.length : Int) := of_decide_eq_true (by first | (with_reducible assumption) | assumption)
                                                      obtain ⟨ad232, A232_0, c232_0, e232, hx232_0, hl232_0, hi232_0⟩ := at_L10 (Kd.S_reads' HO_6.out).2.2 x9_3 p232 q232
                                                      obtain rfl : ad228 = ad232 := (by injection e232)
                                                      obtain ⟨ce232, hce232, hMe232, hcc232⟩ := Kd.S_get HO_6.out [] x9_3 p232 (by first | exact q232 | exact of_decide_eq_true (by first | (with_reducible assumption) | assumption) | (have e_ := (Kd.S_reads' HO_6.out).1; omega))
                                                      obtain ⟨ve232_0, rfl, ge232_0⟩ := hMe232
                                                      have hv232_0 := hcc232 0 _ rfl
                                                      rw [Nat.add_zero, show ((Kd.slice 36 k36)).sz = 1 from rfl, Nat.mul_one] at hv232_0
                                                      replace hv232_0 := Option.some.inj (hv232_0.symm.trans hx232_0)
                                                      rw [hv232_0] at ge232_0
                                                      have HL232_0 := Aside0.mk (show Kd.R k36 36 _ _ _ _ (rd_L10 t218 x9_3) from ge232_0)
                                                      clear hv232_0 ge232_0
                                                      clear hcc232 hce232
                                                      have HR232_0 := Aside0.mk hi232_0
                                                      have HC232_0 := Aside0.mk hl232_0
                                                      clear hi232_0 hl232_0
                                                      replace p232 := eq_true p232
                                                      replace q232 := eq_true q232
                                                      have p233 : 0 ≤ (x11_4 : Int) := of_decide_eq_true (by first | (with_reducible assumption) | assumption)
                                                      have q233 : x11_4 < ((rd_L10 t218 x9_3).length : Int) := of_decide_eq_true (by first | (with_reducible assumption) | assumption)
                                                      obtain ⟨ad233, e233, hx233_0, hx233_1⟩ := at_T36 (by repeat (first | (with_reducible exact HR232_0.out) | (with_reducible refine Kd.C_alloc ?_ _) | (with_reducible refine Kd.C_drewN ?_ _) | (with_reducible refine Kd.C_drew ?_) | exact HR232_0.out)) x11_4 p233 q233
                                                      cases e233
                                                      replace p233 := eq_true p233
                                                      replace q233 := eq_true q233
                                                      have p43 : 0 ≤ (((rd_T36 (rd_L10 t218 x9_3) x11_4).f0) : Int) := of_decide_eq_true (by first | (with_reducible assumption) | assumption)
                                                      have q43 : (((rd_T36 (rd_L10 t218 x9_3) x11_4).f0) : Int) < ((x8_4.length : Int) : Int) := of_decide_eq_true (by first | (with_reducible assumption) | assumption)
                                                      obtain ⟨go43, co43, eo43, gb43, gl43, cl43, HG43⟩ := Kd.R_form HO_8.out (by omega)
                                                      (first | cases eo43 | (injection eo43 with ea_ en_ ec_; (first | subst ea_ | (injection ea_ with ea_; subst ea_)); subst ec_; clear en_))
                                                      have GB43 := Aside0.mk gb43
                                                      have GG43 := Aside0.mk HG43
                                                      clear gb43 gl43 HG43
                                                      (first | simp only [add_plain] at hx231_0 | skip)
                                                      (first | simp only [add_plain] at hx231_1 | skip)
                                                      (first | simp only [add_plain] at hx231_2 | skip)
                                                      obtain ⟨ce43, hcl43, hM43, hcc43, hfr43⟩ := Kd.R_elem HO_8.out z38 (((rd_T36 (rd_L10 t218 x9_3) x11_4).f0) : Int) p43 q43
                                                      obtain rfl := k38_openM hM43
                                                      have hx43_0 : World.cell? _ ⟨go43, (((rd_T36 (rd_L10 t218 x9_3) x11_4).f0) : Int).toNat * 3, none⟩ = some (.int .i64 ((rd_T38 x8_4 ((rd_T36 (rd_L10 t218 x9_3) x11_4).f0)).f0)) := hcc43 0 _ rfl
                                                      have hx43_1 : World.cell? _ ⟨go43, (((rd_T36 (rd_L10 t218 x9_3) x11_4).f0) : Int).toNat * 3 + 1, none⟩ = some (.int .i64 ((rd_T38 x8_4 ((rd_T36 (rd_L10 t218 x9_3) x11_4).f0)).f1)) := hcc43 1 _ rfl
                                                      have hx43_2 : World.cell? _ ⟨go43, (((rd_T36 (rd_L10 t218 x9_3) x11_4).f0) : Int).toNat * 3 + 2, none⟩ = some (.int .i64 ((rd_T38 x8_4 ((rd_T36 (rd_L10 t218 x9_3) x11_4).f0)).f2)) := hcc43 2 _ rfl
                                                      have hf43_0 : World.frozen? _ ⟨go43, (((rd_T36 (rd_L10 t218 x9_3) x11_4).f0) : Int).toNat * 3, none⟩ = false := hfr43 0
                                                      have hf43_1 : World.frozen? _ ⟨go43, (((rd_T36 (rd_L10 t218 x9_3) x11_4).f0) : Int).toNat * 3 + 1, none⟩ = false := hfr43 1
                                                      have hf43_2 : World.frozen? _ ⟨go43, (((rd_T36 (rd_L10 t218 x9_3) x11_4).f0) : Int).toNat * 3 + 2, none⟩ = false := hfr43 2
                                                      clear hcl43 hcc43 hfr43 hM43
                                                      replace p43 := eq_true p43
                                                      replace q43 := eq_true q43
                                                      obtain ⟨ce47, hcl47, hM47, hcc47, hfr47⟩ := Kd.R_elem HO_8.out z38 (((rd_T36 (rd_L10 t218 x9_3) x11_4).f0) : Int) (of_decide_eq_true (by first | (with_reducible assumption) | assumption)) (by have h_ : (((rd_T36 (rd_L10 t218 x9_3) x11_4).f0) : Int) < ((x8_4.length : Int) : Int) := of_decide_eq_true (by first | (with_reducible assumption) | assumption); first | exact h_ | (have e_ := (Kd.R_reads' HO_8.out).1; omega) | simpa using h_)
                                                      obtain rfl := k38_openM hM47
                                                      have HP47 := (Kd.R_seg HO_8.out (((rd_T36 (rd_L10 t218 x9_3) x11_4).f0) : Int) (of_decide_eq_true (by first | (with_reducible assumption) | assumption)) (by have h_ : (((rd_T36 (rd_L10 t218 x9_3) x11_4).f0) : Int) < ((x8_4.length : Int) : Int) := of_decide_eq_true (by first | (with_reducible assumption) | assumption); first | exact h_ | (have e_ := (Kd.R_reads' HO_8.out).1; omega) | simpa using h_) (seg := [.int .i64 (wrap64 (((rd_T38 x8_4 ((rd_T36 (rd_L10 t218 x9_3) x11_4).f0)).f1) - ((rd_T36 (rd_L10 t218 x9_3) x11_4).f1)))]) (j := 1) hcl47 hcc47 (show 2 ≤ 3 from by decide) (x' := (⟨(rd_T38 x8_4 ((rd_T36 (rd_L10 t218 x9_3) x11_4).f0)).f0, wrap64 (((rd_T38 x8_4 ((rd_T36 (rd_L10 t218 x9_3) x11_4).f0)).f1) - ((rd_T36 (rd_L10 t218 x9_3) x11_4).f1)), (rd_T38 x8_4 ((rd_T36 (rd_L10 t218 x9_3) x11_4).f0)).f2⟩ : S38)) (k38_mkM _ _ _ (⟨(rd_T38 x8_4 ((rd_T36 (rd_L10 t218 x9_3) x11_4).f0)).f0, wrap64 (((rd_T38 x8_4 ((rd_T36 (rd_L10 t218 x9_3) x11_4).f0)).f1) - ((rd_T36 (rd_L10 t218 x9_3) x11_4).f1)), (rd_T38 x8_4 ((rd_T36 (rd_L10 t218 x9_3) x11_4).f0)).f2⟩ : S38) ) (fun _ hk => hk)).1
                                                      rw [← Ny234.out] at HP47
                                                      have HQ47 := Aside0.mk HP47
                                                      clear hcl47 hcc47 hfr47 hM47 HP47
                                                      refine start_ (n := 19) (S := fun w' => w'.cell? ⟨go43, (((rd_T36 (rd_L10 t218 x9_3) x11_4).f0)).toNat * 3, none⟩ = some (.int .i64 ((rd_T38 x8_4 ((rd_T36 (rd_L10 t218 x9_3) x11_4).f0)).f0)) ∧ w'.cell? ⟨go43, (((rd_T36 (rd_L10 t218 x9_3) x11_4).f0)).toNat * 3 + 1, none⟩ = some (.int .i64 ((rd_T38 x8_4 ((rd_T36 (rd_L10 t218 x9_3) x11_4).f0)).f1)) ∧ w'.cell? ⟨go43, (((rd_T36 (rd_L10 t218 x9_3) x11_4).f0)).toNat * 3 + 2, none⟩ = some (.int .i64 ((rd_T38 x8_4 ((rd_T36 (rd_L10 t218 x9_3) x11_4).f0)).f2)) ∧ w'.cell? (ad228.add (x9_3).toNat) = some (.slice (some ad233) (rd_L10 t218 x9_3).length c232_0) ∧ w'.cell? (ad233.add ((x11_4).toNat * 2)) = some (.int .i64 ((rd_T36 (rd_L10 t218 x9_3) x11_4).f0)) ∧ w'.cell? ⟨(ad233.add ((x11_4).toNat * 2)).block, (ad233.add ((x11_4).toNat * 2)).off + 1, none⟩ = some (.int .i64 ((rd_T36 (rd_L10 t218 x9_3) x11_4).f1))) (ds := [18]) #[false, false, false, false, false, false, false, false, false, false, false, false, false, false, false, false, false, false, false] (by kernel_rfl) rfl rfl ⟨hx231_0, hx231_1, hx231_2, hx232_0, hx233_0, hx233_1⟩ (fun hHeld => ?_); refine with_tabW taquinlaw35_StockFirst.tab18 taquinlaw35_StockFirst.bits18 (fun HT_ HW_ => ?_)
                                                      generalize wc.drew = w45 at HO_6 HO_8 BK215 HR228_0 HR229_0 HB GG43 HL232_0 HQ47 HR232_0 hf43_0 hf43_1 hf43_2 hx231_0 hx231_1 hx231_2 hx232_0 hx233_0 hx233_1 hx43_0 hx43_1 hx43_2 hHeld ⊢
                                                      refine pu 0 82 19 1 rfl rfl HT_ ?_
                                                      refine pu 1 83 19 3 rfl rfl HT_ ?_
                                                      refine pu 2 84 19 7 rfl rfl HT_ ?_
                                                      refine pu 3 85 19 15 rfl rfl HT_ ?_
                                                      refine pu 4 86 19 31 rfl rfl HT_ ?_
                                                      refine pu 5 87 19 63 rfl rfl HT_ ?_
                                                      refine pu 7 89 19 191 rfl rfl HT_ ?_
                                                      refine pu 8 90 19 447 rfl rfl HT_ ?_
                                                      refine pu 9 91 19 959 rfl rfl HT_ ?_
                                                      refine pu 11 93 19 3007 rfl rfl HT_ ?_
                                                      refine ta6 6 88 19 3071 rfl rfl HT_ HW_ hHeld ?_
                                                      refine ta6 10 92 19 4095 rfl rfl HT_ HW_ hHeld ?_
                                                      refine pu 12 94 19 8191 rfl rfl HT_ ?_
                                                      refine pu 13 95 19 16383 rfl rfl HT_ ?_
                                                      refine ta6 14 96 19 32767 rfl rfl HT_ HW_ hHeld ?_
                                                      refine pu 15 97 19 65535 rfl rfl HT_ ?_
                                                      refine pu 16 98 19 131071 rfl rfl HT_ ?_
                                                      refine pu 17 99 19 262143 rfl rfl HT_ ?_
                                                      refine last_ (i := 18) (N := none) #[true, true, true, true, true, true, true, true, true, true, true, true, true, true, true, true, true, true, true] rfl rfl (one_of HT_.out (by kernel_rfl)) (by decide) (fun K hK => ?_)
                                                      refine skip_ (w1 := ?_) (by rfl) rfl ?_ ?_
                                                      rotate_left
                                                      · go_simp
                                                        rfl
                                                      refine hK.out _ _ ?_
                                                      clear hK K
                                                      refine done_ (done_of HT_.out (by kernel_rfl)) ?_
                                                      try go_wp2
                                                      have n0_ : Aside0 (Kd.S (Kd.slice 36 k36) 34 (w45.setCell ⟨go43, (((rd_T36 (rd_L10 t218 x9_3) x11_4).f0) : Int).toNat * 3 + 1, none⟩ (.int .i64 (wrap64 (((rd_T38 x8_4 ((rd_T36 (rd_L10 t218 x9_3) x11_4).f0)).f1) - ((rd_T36 (rd_L10 t218 x9_3) x11_4).f1))))) w.heap.size (fun _ => True) (.slice (some ad228) t218.length co28) t218) := ⟨by (with_reducible repeat (first | apply Kd.S_alloc | apply Kd.S_drewN | apply Kd.S_drew)); exact Kd.S_mono (Kd.S_far (p := ⟨go43, (((rd_T36 (rd_L10 t218 x9_3) x11_4).f0) : Int).toNat * 3 + 1, none⟩) (Kd.S_types HO_6.out GG43.out (by decide)) (fun _ hk => hk.2) (.int .i64 (wrap64 (((rd_T38 x8_4 ((rd_T36 (rd_L10 t218 x9_3) x11_4).f0)).f1) - ((rd_T36 (rd_L10 t218 x9_3) x11_4).f1))))) (fun _ hk => trivial)⟩
                                                      have n1_ : Aside0 (Kd.R k38 38 (w45.setCell ⟨go43, (((rd_T36 (rd_L10 t218 x9_3) x11_4).f0) : Int).toNat * 3 + 1, none⟩ (.int .i64 (wrap64 (((rd_T38 x8_4 ((rd_T36 (rd_L10 t218 x9_3) x11_4).f0)).f1) - ((rd_T36 (rd_L10 t218 x9_3) x11_4).f1))))) w.heap.size (fun _ => True) (.slice (some ⟨go43, 0, none⟩) x8_4.length co46) y234) := ⟨by (with_reducible repeat (first | apply Kd.R_alloc | apply Kd.R_drewN | apply Kd.R_drew)); exact HQ47.out⟩
                                                      have n2_ : Aside0 (Kd.R k36 36 (w45.setCell ⟨go43, (((rd_T36 (rd_L10 t218 x9_3) x11_4).f0) : Int).toNat * 3 + 1, none⟩ (.int .i64 (wrap64 (((rd_T38 x8_4 ((rd_T36 (rd_L10 t218 x9_3) x11_4).f0)).f1) - ((rd_T36 (rd_L10 t218 x9_3) x11_4).f1))))) w.heap.size (fun k_ => some k_ ≠ (.slice (some ad228) t218.length co28 : Value).ownBlock) (.slice (some ad233) (rd_L10 t218 x9_3).length c232_0) (rd_L10 t218 x9_3)) := ⟨by (with_reducible repeat (first | apply Kd.R_alloc | apply Kd.R_drewN | apply Kd.R_drew)); exact Kd.R_mono (Kd.R_far (p := ⟨go43, (((rd_T36 (rd_L10 t218 x9_3) x11_4).f0) : Int).toNat * 3 + 1, none⟩) (Kd.R_types HL232_0.out GG43.out (by decide)) (fun _ hk => hk.2) (.int .i64 (wrap64 (((rd_T38 x8_4 ((rd_T36 (rd_L10 t218 x9_3) x11_4).f0)).f1) - ((rd_T36 (rd_L10 t218 x9_3) x11_4).f1))))) (fun _ hk => hk.1.2)⟩
                                                      have n3_ : Aside0 ((w45.setCell ⟨go43, (((rd_T36 (rd_L10 t218 x9_3) x11_4).f0) : Int).toNat * 3 + 1, none⟩ (.int .i64 (wrap64 (((rd_T38 x8_4 ((rd_T36 (rd_L10 t218 x9_3) x11_4).f0)).f1) - ((rd_T36 (rd_L10 t218 x9_3) x11_4).f1))))).heap[gb215]? = some (.cells #[.slice A0_0 l0_0.length c0_0, .slice A0_1 l0_1.length c0_1, .slice A0_2 l0_2.length c0_2] 26 (0, 0))) := ⟨by (with_reducible repeat (first | refine blk_drewN ?_ _ | refine blk_drew ?_ | refine blk_alloc ?_ _)); refine blk_far ?_ (by have h_ := Kd.R_ne HO_8.out BK215.out (by decide); intro e_; exact h_ (by rw [e_]; rfl)) _; (with_reducible repeat (first | refine blk_drewN ?_ _ | refine blk_drew ?_ | refine blk_alloc ?_ _)); exact BK215.out⟩
                                                      have n4_ : Aside0 (Below w.heap.size w (w45.setCell ⟨go43, (((rd_T36 (rd_L10 t218 x9_3) x11_4).f0) : Int).toNat * 3 + 1, none⟩ (.int .i64 (wrap64 (((rd_T38 x8_4 ((rd_T36 (rd_L10 t218 x9_3) x11_4).f0)).f1) - ((rd_T36 (rd_L10 t218 x9_3) x11_4).f1)))))) := ⟨by repeat (first | (with_reducible first | exact HB.out | apply below_alloc | apply pw_below_drewN | apply below_drew1 | refine below_set ?_ GB43.out | refine below_set ?_ GE215.out) | exact HB.out)⟩
                                                      (try clear HO_6)
                                                      (try clear HO_8)
                                                      (try clear HL232_0)
                                                      (try clear BK215)
                                                      (try clear HB)
                                                      generalize (w45.setCell ⟨go43, (((rd_T36 (rd_L10 t218 x9_3) x11_4).f0) : Int).toNat * 3 + 1, none⟩ (.int .i64 (wrap64 (((rd_T38 x8_4 ((rd_T36 (rd_L10 t218 x9_3) x11_4).f0)).f1) - ((rd_T36 (rd_L10 t218 x9_3) x11_4).f1))))) = w48 at n0_ n1_ n2_ n3_ n4_ ⊢
                                                      have HO_6 := n0_
                                                      have HO_8 := n1_
                                                      have HL232_0 := n2_
                                                      have BK215 := n3_
                                                      have HB := n4_
                                                      clear n0_ n1_ n2_ n3_ n4_
                                                      have n0_ := Aside0.mk (Kd.S_drew HO_6.out)
                                                      have n1_ := Aside0.mk (Kd.R_drew HO_8.out)
                                                      have n2_ := Aside0.mk (Kd.R_drew HL232_0.out)
                                                      have n3_ := Aside0.mk (blk_drew BK215.out)
                                                      have n4_ := Aside0.mk (below_drew1 HB.out)
                                                      clear HO_6
                                                      clear HO_8
                                                      clear HL232_0
                                                      clear BK215
                                                      clear HB
                                                      have HO_6 := n0_
                                                      have HO_8 := n1_
                                                      have HL232_0 := n2_
                                                      have BK215 := n3_
                                                      have HB := n4_
                                                      clear n0_ n1_ n2_ n3_ n4_
                                                      have p235 : 0 ≤ (((rd_T36 (rd_L10 t218 x9_3) x11_4).f0) : Int) := of_decide_eq_true (by first | (with_reducible assumption) | assumption)
                                                      have q235 : ((rd_T36 (rd_L10 t218 x9_3) x11_4).f0) < (y234.length : Int) := (by have h_ : (((rd_T36 (rd_L10 t218 x9_3) x11_4).f0) : Int) < ((x8_4.length : Int) : Int) := of_decide_eq_true (by first | (with_reducible assumption) | assumption); first | (have e_ := (Kd.R_reads' HO_8.out).1; omega) | simpa only [Ny234.out, List.length_set] using h_)
                                                      have ql235 : ((((rd_T36 (rd_L10 t218 x9_3) x11_4).f0) : Int) < ((x8_4.length : Int) : Int)) = True := eq_true (of_decide_eq_true (by first | (with_reducible assumption) | assumption))
                                                      obtain ⟨ad235, e235, hx235_0, hx235_1, hx235_2⟩ := at_T38 (Kd.R_reads' HO_8.out).2.2 ((rd_T36 (rd_L10 t218 x9_3) x11_4).f0) p235 q235
                                                      obtain rfl : (⟨go43, 0, none⟩ : Addr) = ad235 := (by injection e235)
                                                      (first | simp only [add_plain] at hx235_0 | simp only [add_at] at hx235_0 | simp only [Addr.add, Nat.zero_add] at hx235_0 | skip)
                                                      (first | simp only [add_plain] at hx235_1 | simp only [add_at] at hx235_1 | simp only [Addr.add, Nat.zero_add] at hx235_1 | skip)
                                                      (first | simp only [add_plain] at hx235_2 | simp only [add_at] at hx235_2 | simp only [Addr.add, Nat.zero_add] at hx235_2 | skip)
                                                      replace p235 := eq_true p235
                                                      replace q235 := eq_true q235
                                                      refine start_ (n := 17) (S := fun w' => w'.cell? ⟨go43, (((rd_T36 (rd_L10 t218 x9_3) x11_4).f0)).toNat * 3, none⟩ = some (.int .i64 ((rd_T38 y234 ((rd_T36 (rd_L10 t218 x9_3) x11_4).f0)).f0)) ∧ w'.cell? ⟨go43, (((rd_T36 (rd_L10 t218 x9_3) x11_4).f0)).toNat * 3 + 1, none⟩ = some (.int .i64 ((rd_T38 y234 ((rd_T36 (rd_L10 t218 x9_3) x11_4).f0)).f1)) ∧ w'.cell? ⟨go43, (((rd_T36 (rd_L10 t218 x9_3) x11_4).f0)).toNat * 3 + 2, none⟩ = some (.int .i64 ((rd_T38 y234 ((rd_T36 (rd_L10 t218 x9_3) x11_4).f0)).f2))) (ds := []) #[false, false, false, false, false, false, false, false, false, false, false, false, false, false, false, false, false] (by kernel_rfl) rfl rfl ⟨hx235_0, hx235_1, hx235_2⟩ (fun hHeld => ?_); refine with_tabW taquinlaw35_StockFirst.tab19 taquinlaw35_StockFirst.bits19 (fun HT_ HW_ => ?_)
                                                      generalize w48.drew = w49 at HO_6 HO_8 HL232_0 BK215 HB HQ47 hx235_0 hx235_1 hx235_2 hHeld ⊢
                                                      refine pu 0 100 17 1 rfl rfl HT_ ?_
                                                      refine pu 1 101 17 3 rfl rfl HT_ ?_
                                                      refine pu 2 102 17 7 rfl rfl HT_ ?_
                                                      refine pu 3 103 17 15 rfl rfl HT_ ?_
                                                      refine ta3 4 104 17 31 rfl rfl HT_ HW_ hHeld ?_
                                                      refine pu 5 105 17 63 rfl rfl HT_ ?_
                                                      refine pu 6 106 17 127 rfl rfl HT_ ?_
                                                      refine pun 7 107 17 255 rfl rfl HT_ ?_
                                                      refine pun 8 108 17 511 rfl rfl HT_ ?_
                                                      refine pun 9 109 17 1023 rfl rfl HT_ ?_
                                                      refine pun 10 110 17 2047 rfl rfl HT_ ?_
                                                      refine pun 11 111 17 4095 rfl rfl HT_ ?_
                                                      refine pun 12 112 17 8191 rfl rfl HT_ ?_
                                                      refine pun 13 113 17 16383 rfl rfl HT_ ?_
                                                      refine pun 14 114 17 32767 rfl rfl HT_ ?_
                                                      refine pun 15 115 17 65535 rfl rfl HT_ ?_
                                                      refine pu 16 116 17 131071 rfl rfl HT_ ?_
                                                      refine done_ (done_of HT_.out (by kernel_rfl)) ?_
                                                      try go_wp2
                                                      go_ret
                                                      exact ⟨by first | rfl | (simp [errW_none, errW_some] <;> rfl) | (simp [*, errW_none, errW_some] <;> rfl), by repeat (first | (with_reducible first | exact HB.out | apply below_alloc | apply pw_below_drewN | apply below_drew1 | refine below_set ?_ GE215.out) | exact HB.out)⟩
                                                    · rw [if_neg c44] at H
                                                      have c44b0 : decide (((rd_T38 y234 ((rd_T36 (rd_L10 t218 x9_3) x11_4).f0)).f0) < 0) = false := decide_eq_false c44
                                                      clear c44
                                                      by_cases c50 : ((rd_T38 y234 ((rd_T36 (rd_L10 t218 x9_3) x11_4).f0)).f0) ≥ (l0_1.length : Int)
                                                      · rw [if_pos c50] at H
                                                        have c50b0 : decide ((l0_1.length : Int) ≤ ((rd_T38 y234 ((rd_T36 (rd_L10 t218 x9_3) x11_4).f0)).f0)) = true := decide_eq_true c50
                                                        clear c50
                                                        obtain rfl := Option.some.inj H
                                                        try go_wp2
                                                        have n0_ := Aside0.mk (Kd.S_drew HO_6.out)
                                                        have n1_ := Aside0.mk (Kd.R_drew HO_8.out)
                                                        have n2_ := Aside0.mk (blk_drew BK215.out)
                                                        have n3_ := Aside0.mk (Kd.C_drew HR228_0.out)
                                                        have n4_ := Aside0.mk (Kd.C_drew HR229_0.out)
                                                        have n5_ := Aside0.mk (below_drew1 HB.out)
                                                        clear HO_6
                                                        clear HO_8
                                                        clear BK215
                                                        clear HR228_0
                                                        clear HR229_0
                                                        clear HB
                                                        have HO_6 := n0_
                                                        have HO_8 := n1_
                                                        have BK215 := n2_
                                                        have HR228_0 := n3_
                                                        have HR229_0 := n4_
                                                        have HB := n5_
                                                        clear n0_ n1_ n2_ n3_ n4_ n5_
                                                        obtain ⟨Ao52, co52, eo52⟩ := Kd.R_slice HO_8.out
                                                        (first | subst eo52 | (injection eo52 with f1_ f2_ f3_; have f4_ := f1_.symm; have f5_ := f3_.symm; clear f1_ f2_ f3_; subst f4_; subst f5_))
                                                        have p231 : 0 ≤ (((rd_T36 (rd_L10 t218 x9_3) x11_4).f0) : Int) := of_decide_eq_true (by first | (with_reducible assumption) | assumption)
                                                        have q231 : ((rd_T36 (rd_L10 t218 x9_3) x11_4).f0) < (x8_4.length : Int) := of_decide_eq_true (by first | (with_reducible assumption) | assumption)
                                                        obtain ⟨ad231, e231, hx231_0, hx231_1, hx231_2⟩ := at_T38 (Kd.R_reads' HO_8.out).2.2 ((rd_T36 (rd_L10 t218 x9_3) x11_4).f0) p231 q231
                                                        cases e231
                                                        replace p231 := eq_true p231
                                                        replace q231 := eq_true q231
                                                        have p232 : 0 ≤ (x9_3 : Int) := of_decide_eq_true (by first | (with_reducible assumption) | assumption)
                                                        have q232 : x9_3 < (t218.length : Int) := of_decide_eq_true (by first | (with_reducible assumption) | assumption)
                                                        obtain ⟨ad232, A232_0, c232_0, e232, hx232_0, hl232_0, hi232_0⟩ := at_L10 (Kd.S_reads' HO_6.out).2.2 x9_3 p232 q232
                                                        obtain rfl : ad228 = ad232 := (by injection e232)
                                                        obtain ⟨ce232, hce232, hMe232, hcc232⟩ := Kd.S_get HO_6.out [] x9_3 p232 (by first | exact q232 | exact of_decide_eq_true (by first | (with_reducible assumption) | assumption) | (have e_ := (Kd.S_reads' HO_6.out).1; omega))
                                                        obtain ⟨ve232_0, rfl, ge232_0⟩ := hMe232
                                                        have hv232_0 := hcc232 0 _ rfl
                                                        rw [Nat.add_zero, show ((Kd.slice 36 k36)).sz = 1 from rfl, Nat.mul_one] at hv232_0
                                                        replace hv232_0 := Option.some.inj (hv232_0.symm.trans hx232_0)
                                                        rw [hv232_0] at ge232_0
                                                        have HL232_0 := Aside0.mk (show Kd.R k36 36 _ _ _ _ (rd_L10 t218 x9_3) from ge232_0)
                                                        clear hv232_0 ge232_0
                                                        clear hcc232 hce232
                                                        have HR232_0 := Aside0.mk hi232_0
                                                        have HC232_0 := Aside0.mk hl232_0
                                                        clear hi232_0 hl232_0
                                                        replace p232 := eq_true p232
                                                        replace q232 := eq_true q232
                                                        have p233 : 0 ≤ (x11_4 : Int) := of_decide_eq_true (by first | (with_reducible assumption) | assumption)
                                                        have q233 : x11_4 < ((rd_L10 t218 x9_3).length : Int) := of_decide_eq_true (by first | (with_reducible assumption) | assumption)
                                                        obtain ⟨ad233, e233, hx233_0, hx233_1⟩ := at_T36 (by repeat (first | (with_reducible exact HR232_0.out) | (with_reducible refine Kd.C_alloc ?_ _) | (with_reducible refine Kd.C_drewN ?_ _) | (with_reducible refine Kd.C_drew ?_) | exact HR232_0.out)) x11_4 p233 q233
                                                        cases e233
                                                        replace p233 := eq_true p233
                                                        replace q233 := eq_true q233
                                                        have p43 : 0 ≤ (((rd_T36 (rd_L10 t218 x9_3) x11_4).f0) : Int) := of_decide_eq_true (by first | (with_reducible assumption) | assumption)
                                                        have q43 : (((rd_T36 (rd_L10 t218 x9_3) x11_4).f0) : Int) < ((x8_4.length : Int) : Int) := of_decide_eq_true (by first | (with_reducible assumption) | assumption)
                                                        obtain ⟨go43, co43, eo43, gb43, gl43, cl43, HG43⟩ := Kd.R_form HO_8.out (by omega)
                                                        (first | cases eo43 | (injection eo43 with ea_ en_ ec_; (first | subst ea_ | (injection ea_ with ea_; subst ea_)); subst ec_; clear en_))
                                                        have GB43 := Aside0.mk gb43
                                                        have GG43 := Aside0.mk HG43
                                                        clear gb43 gl43 HG43
                                                        (first | simp only [add_plain] at hx231_0 | skip)
                                                        (first | simp only [add_plain] at hx231_1 | skip)
                                                        (first | simp only [add_plain] at hx231_2 | skip)
                                                        obtain ⟨ce43, hcl43, hM43, hcc43, hfr43⟩ := Kd.R_elem HO_8.out z38 (((rd_T36 (rd_L10 t218 x9_3) x11_4).f0) : Int) p43 q43
                                                        obtain rfl := k38_openM hM43
                                                        have hx43_0 : World.cell? _ ⟨go43, (((rd_T36 (rd_L10 t218 x9_3) x11_4).f0) : Int).toNat * 3, none⟩ = some (.int .i64 ((rd_T38 x8_4 ((rd_T36 (rd_L10 t218 x9_3) x11_4).f0)).f0)) := hcc43 0 _ rfl
                                                        have hx43_1 : World.cell? _ ⟨go43, (((rd_T36 (rd_L10 t218 x9_3) x11_4).f0) : Int).toNat * 3 + 1, none⟩ = some (.int .i64 ((rd_T38 x8_4 ((rd_T36 (rd_L10 t218 x9_3) x11_4).f0)).f1)) := hcc43 1 _ rfl
                                                        have hx43_2 : World.cell? _ ⟨go43, (((rd_T36 (rd_L10 t218 x9_3) x11_4).f0) : Int).toNat * 3 + 2, none⟩ = some (.int .i64 ((rd_T38 x8_4 ((rd_T36 (rd_L10 t218 x9_3) x11_4).f0)).f2)) := hcc43 2 _ rfl
                                                        have hf43_0 : World.frozen? _ ⟨go43, (((rd_T36 (rd_L10 t218 x9_3) x11_4).f0) : Int).toNat * 3, none⟩ = false := hfr43 0
                                                        have hf43_1 : World.frozen? _ ⟨go43, (((rd_T36 (rd_L10 t218 x9_3) x11_4).f0) : Int).toNat * 3 + 1, none⟩ = false := hfr43 1
                                                        have hf43_2 : World.frozen? _ ⟨go43, (((rd_T36 (rd_L10 t218 x9_3) x11_4).f0) : Int).toNat * 3 + 2, none⟩ = false := hfr43 2
                                                        clear hcl43 hcc43 hfr43 hM43
                                                        replace p43 := eq_true p43
                                                        replace q43 := eq_true q43
                                                        obtain ⟨ce53, hcl53, hM53, hcc53, hfr53⟩ := Kd.R_elem HO_8.out z38 (((rd_T36 (rd_L10 t218 x9_3) x11_4).f0) : Int) (of_decide_eq_true (by first | (with_reducible assumption) | assumption)) (by have h_ : (((rd_T36 (rd_L10 t218 x9_3) x11_4).f0) : Int) < ((x8_4.length : Int) : Int) := of_decide_eq_true (by first | (with_reducible assumption) | assumption); first | exact h_ | (have e_ := (Kd.R_reads' HO_8.out).1; omega) | simpa using h_)
                                                        obtain rfl := k38_openM hM53
                                                        have HP53 := (Kd.R_seg HO_8.out (((rd_T36 (rd_L10 t218 x9_3) x11_4).f0) : Int) (of_decide_eq_true (by first | (with_reducible assumption) | assumption)) (by have h_ : (((rd_T36 (rd_L10 t218 x9_3) x11_4).f0) : Int) < ((x8_4.length : Int) : Int) := of_decide_eq_true (by first | (with_reducible assumption) | assumption); first | exact h_ | (have e_ := (Kd.R_reads' HO_8.out).1; omega) | simpa using h_) (seg := [.int .i64 (wrap64 (((rd_T38 x8_4 ((rd_T36 (rd_L10 t218 x9_3) x11_4).f0)).f1) - ((rd_T36 (rd_L10 t218 x9_3) x11_4).f1)))]) (j := 1) hcl53 hcc53 (show 2 ≤ 3 from by decide) (x' := (⟨(rd_T38 x8_4 ((rd_T36 (rd_L10 t218 x9_3) x11_4).f0)).f0, wrap64 (((rd_T38 x8_4 ((rd_T36 (rd_L10 t218 x9_3) x11_4).f0)).f1) - ((rd_T36 (rd_L10 t218 x9_3) x11_4).f1)), (rd_T38 x8_4 ((rd_T36 (rd_L10 t218 x9_3) x11_4).f0)).f2⟩ : S38)) (k38_mkM _ _ _ (⟨(rd_T38 x8_4 ((rd_T36 (rd_L10 t218 x9_3) x11_4).f0)).f0, wrap64 (((rd_T38 x8_4 ((rd_T36 (rd_L10 t218 x9_3) x11_4).f0)).f1) - ((rd_T36 (rd_L10 t218 x9_3) x11_4).f1)), (rd_T38 x8_4 ((rd_T36 (rd_L10 t218 x9_3) x11_4).f0)).f2⟩ : S38) ) (fun _ hk => hk)).1
                                                        rw [← Ny234.out] at HP53
                                                        have HQ53 := Aside0.mk HP53
                                                        clear hcl53 hcc53 hfr53 hM53 HP53
                                                        refine start_ (n := 19) (S := fun w' => w'.cell? ⟨go43, (((rd_T36 (rd_L10 t218 x9_3) x11_4).f0)).toNat * 3, none⟩ = some (.int .i64 ((rd_T38 x8_4 ((rd_T36 (rd_L10 t218 x9_3) x11_4).f0)).f0)) ∧ w'.cell? ⟨go43, (((rd_T36 (rd_L10 t218 x9_3) x11_4).f0)).toNat * 3 + 1, none⟩ = some (.int .i64 ((rd_T38 x8_4 ((rd_T36 (rd_L10 t218 x9_3) x11_4).f0)).f1)) ∧ w'.cell? ⟨go43, (((rd_T36 (rd_L10 t218 x9_3) x11_4).f0)).toNat * 3 + 2, none⟩ = some (.int .i64 ((rd_T38 x8_4 ((rd_T36 (rd_L10 t218 x9_3) x11_4).f0)).f2)) ∧ w'.cell? (ad228.add (x9_3).toNat) = some (.slice (some ad233) (rd_L10 t218 x9_3).length c232_0) ∧ w'.cell? (ad233.add ((x11_4).toNat * 2)) = some (.int .i64 ((rd_T36 (rd_L10 t218 x9_3) x11_4).f0)) ∧ w'.cell? ⟨(ad233.add ((x11_4).toNat * 2)).block, (ad233.add ((x11_4).toNat * 2)).off + 1, none⟩ = some (.int .i64 ((rd_T36 (rd_L10 t218 x9_3) x11_4).f1))) (ds := [18]) #[false, false, false, false, false, false, false, false, false, false, false, false, false, false, false, false, false, false, false] (by kernel_rfl) rfl rfl ⟨hx231_0, hx231_1, hx231_2, hx232_0, hx233_0, hx233_1⟩ (fun hHeld => ?_); refine with_tabW taquinlaw35_StockFirst.tab18 taquinlaw35_StockFirst.bits18 (fun HT_ HW_ => ?_)
                                                        generalize wc.drew = w51 at HO_6 HO_8 BK215 HR228_0 HR229_0 HB GG43 HL232_0 HQ53 HR232_0 hf43_0 hf43_1 hf43_2 hx231_0 hx231_1 hx231_2 hx232_0 hx233_0 hx233_1 hx43_0 hx43_1 hx43_2 hHeld ⊢
                                                        refine pu 0 82 19 1 rfl rfl HT_ ?_
                                                        refine pu 1 83 19 3 rfl rfl HT_ ?_
                                                        refine pu 2 84 19 7 rfl rfl HT_ ?_
                                                        refine pu 3 85 19 15 rfl rfl HT_ ?_
                                                        refine pu 4 86 19 31 rfl rfl HT_ ?_
                                                        refine pu 5 87 19 63 rfl rfl HT_ ?_
                                                        refine pu 7 89 19 191 rfl rfl HT_ ?_
                                                        refine pu 8 90 19 447 rfl rfl HT_ ?_
                                                        refine pu 9 91 19 959 rfl rfl HT_ ?_
                                                        refine pu 11 93 19 3007 rfl rfl HT_ ?_
                                                        refine ta6 6 88 19 3071 rfl rfl HT_ HW_ hHeld ?_
                                                        refine ta6 10 92 19 4095 rfl rfl HT_ HW_ hHeld ?_
                                                        refine pu 12 94 19 8191 rfl rfl HT_ ?_
                                                        refine pu 13 95 19 16383 rfl rfl HT_ ?_
                                                        refine ta6 14 96 19 32767 rfl rfl HT_ HW_ hHeld ?_
                                                        refine pu 15 97 19 65535 rfl rfl HT_ ?_
                                                        refine pu 16 98 19 131071 rfl rfl HT_ ?_
                                                        refine pu 17 99 19 262143 rfl rfl HT_ ?_
                                                        refine last_ (i := 18) (N := none) #[true, true, true, true, true, true, true, true, true, true, true, true, true, true, true, true, true, true, true] rfl rfl (one_of HT_.out (by kernel_rfl)) (by decide) (fun K hK => ?_)
                                                        refine skip_ (w1 := ?_) (by rfl) rfl ?_ ?_
                                                        rotate_left
                                                        · go_simp
                                                          rfl
                                                        refine hK.out _ _ ?_
                                                        clear hK K
                                                        refine done_ (done_of HT_.out (by kernel_rfl)) ?_
                                                        try go_wp2
                                                        have n0_ : Aside0 (Kd.S (Kd.slice 36 k36) 34 (w51.setCell ⟨go43, (((rd_T36 (rd_L10 t218 x9_3) x11_4).f0) : Int).toNat * 3 + 1, none⟩ (.int .i64 (wrap64 (((rd_T38 x8_4 ((rd_T36 (rd_L10 t218 x9_3) x11_4).f0)).f1) - ((rd_T36 (rd_L10 t218 x9_3) x11_4).f1))))) w.heap.size (fun _ => True) (.slice (some ad228) t218.length co28) t218) := ⟨by (with_reducible repeat (first | apply Kd.S_alloc | apply Kd.S_drewN | apply Kd.S_drew)); exact Kd.S_mono (Kd.S_far (p := ⟨go43, (((rd_T36 (rd_L10 t218 x9_3) x11_4).f0) : Int).toNat * 3 + 1, none⟩) (Kd.S_types HO_6.out GG43.out (by decide)) (fun _ hk => hk.2) (.int .i64 (wrap64 (((rd_T38 x8_4 ((rd_T36 (rd_L10 t218 x9_3) x11_4).f0)).f1) - ((rd_T36 (rd_L10 t218 x9_3) x11_4).f1))))) (fun _ hk => trivial)⟩
                                                        have n1_ : Aside0 (Kd.R k38 38 (w51.setCell ⟨go43, (((rd_T36 (rd_L10 t218 x9_3) x11_4).f0) : Int).toNat * 3 + 1, none⟩ (.int .i64 (wrap64 (((rd_T38 x8_4 ((rd_T36 (rd_L10 t218 x9_3) x11_4).f0)).f1) - ((rd_T36 (rd_L10 t218 x9_3) x11_4).f1))))) w.heap.size (fun _ => True) (.slice (some ⟨go43, 0, none⟩) x8_4.length co52) y234) := ⟨by (with_reducible repeat (first | apply Kd.R_alloc | apply Kd.R_drewN | apply Kd.R_drew)); exact HQ53.out⟩
                                                        have n2_ : Aside0 (Kd.R k36 36 (w51.setCell ⟨go43, (((rd_T36 (rd_L10 t218 x9_3) x11_4).f0) : Int).toNat * 3 + 1, none⟩ (.int .i64 (wrap64 (((rd_T38 x8_4 ((rd_T36 (rd_L10 t218 x9_3) x11_4).f0)).f1) - ((rd_T36 (rd_L10 t218 x9_3) x11_4).f1))))) w.heap.size (fun k_ => some k_ ≠ (.slice (some ad228) t218.length co28 : Value).ownBlock) (.slice (some ad233) (rd_L10 t218 x9_3).length c232_0) (rd_L10 t218 x9_3)) := ⟨by (with_reducible repeat (first | apply Kd.R_alloc | apply Kd.R_drewN | apply Kd.R_drew)); exact Kd.R_mono (Kd.R_far (p := ⟨go43, (((rd_T36 (rd_L10 t218 x9_3) x11_4).f0) : Int).toNat * 3 + 1, none⟩) (Kd.R_types HL232_0.out GG43.out (by decide)) (fun _ hk => hk.2) (.int .i64 (wrap64 (((rd_T38 x8_4 ((rd_T36 (rd_L10 t218 x9_3) x11_4).f0)).f1) - ((rd_T36 (rd_L10 t218 x9_3) x11_4).f1))))) (fun _ hk => hk.1.2)⟩
                                                        have n3_ : Aside0 ((w51.setCell ⟨go43, (((rd_T36 (rd_L10 t218 x9_3) x11_4).f0) : Int).toNat * 3 + 1, none⟩ (.int .i64 (wrap64 (((rd_T38 x8_4 ((rd_T36 (rd_L10 t218 x9_3) x11_4).f0)).f1) - ((rd_T36 (rd_L10 t218 x9_3) x11_4).f1))))).heap[gb215]? = some (.cells #[.slice A0_0 l0_0.length c0_0, .slice A0_1 l0_1.length c0_1, .slice A0_2 l0_2.length c0_2] 26 (0, 0))) := ⟨by (with_reducible repeat (first | refine blk_drewN ?_ _ | refine blk_drew ?_ | refine blk_alloc ?_ _)); refine blk_far ?_ (by have h_ := Kd.R_ne HO_8.out BK215.out (by decide); intro e_; exact h_ (by rw [e_]; rfl)) _; (with_reducible repeat (first | refine blk_drewN ?_ _ | refine blk_drew ?_ | refine blk_alloc ?_ _)); exact BK215.out⟩
                                                        have n4_ : Aside0 (Below w.heap.size w (w51.setCell ⟨go43, (((rd_T36 (rd_L10 t218 x9_3) x11_4).f0) : Int).toNat * 3 + 1, none⟩ (.int .i64 (wrap64 (((rd_T38 x8_4 ((rd_T36 (rd_L10 t218 x9_3) x11_4).f0)).f1) - ((rd_T36 (rd_L10 t218 x9_3) x11_4).f1)))))) := ⟨by repeat (first | (with_reducible first | exact HB.out | apply below_alloc | apply pw_below_drewN | apply below_drew1 | refine below_set ?_ GB43.out | refine below_set ?_ GE215.out) | exact HB.out)⟩
                                                        (try clear HO_6)
                                                        (try clear HO_8)
                                                        (try clear HL232_0)
                                                        (try clear BK215)
                                                        (try clear HB)
                                                        generalize (w51.setCell ⟨go43, (((rd_T36 (rd_L10 t218 x9_3) x11_4).f0) : Int).toNat * 3 + 1, none⟩ (.int .i64 (wrap64 (((rd_T38 x8_4 ((rd_T36 (rd_L10 t218 x9_3) x11_4).f0)).f1) - ((rd_T36 (rd_L10 t218 x9_3) x11_4).f1))))) = w54 at n0_ n1_ n2_ n3_ n4_ ⊢
                                                        have HO_6 := n0_
                                                        have HO_8 := n1_
                                                        have HL232_0 := n2_
                                                        have BK215 := n3_
                                                        have HB := n4_
                                                        clear n0_ n1_ n2_ n3_ n4_
                                                        have n0_ := Aside0.mk (Kd.S_drew HO_6.out)
                                                        have n1_ := Aside0.mk (Kd.R_drew HO_8.out)
                                                        have n2_ := Aside0.mk (Kd.R_drew HL232_0.out)
                                                        have n3_ := Aside0.mk (blk_drew BK215.out)
                                                        have n4_ := Aside0.mk (below_drew1 HB.out)
                                                        clear HO_6
                                                        clear HO_8
                                                        clear HL232_0
                                                        clear BK215
                                                        clear HB
                                                        have HO_6 := n0_
                                                        have HO_8 := n1_
                                                        have HL232_0 := n2_
                                                        have BK215 := n3_
                                                        have HB := n4_
                                                        clear n0_ n1_ n2_ n3_ n4_
                                                        have p235 : 0 ≤ (((rd_T36 (rd_L10 t218 x9_3) x11_4).f0) : Int) := of_decide_eq_true (by first | (with_reducible assumption) | assumption)
                                                        have q235 : ((rd_T36 (rd_L10 t218 x9_3) x11_4).f0) < (y234.length : Int) := (by have h_ : (((rd_T36 (rd_L10 t218 x9_3) x11_4).f0) : Int) < ((x8_4.length : Int) : Int) := of_decide_eq_true (by first | (with_reducible assumption) | assumption); first | (have e_ := (Kd.R_reads' HO_8.out).1; omega) | simpa only [Ny234.out, List.length_set] using h_)
                                                        have ql235 : ((((rd_T36 (rd_L10 t218 x9_3) x11_4).f0) : Int) < ((x8_4.length : Int) : Int)) = True := eq_true (of_decide_eq_true (by first | (with_reducible assumption) | assumption))
                                                        obtain ⟨ad235, e235, hx235_0, hx235_1, hx235_2⟩ := at_T38 (Kd.R_reads' HO_8.out).2.2 ((rd_T36 (rd_L10 t218 x9_3) x11_4).f0) p235 q235
                                                        obtain rfl : (⟨go43, 0, none⟩ : Addr) = ad235 := (by injection e235)
                                                        (first | simp only [add_plain] at hx235_0 | simp only [add_at] at hx235_0 | simp only [Addr.add, Nat.zero_add] at hx235_0 | skip)
                                                        (first | simp only [add_plain] at hx235_1 | simp only [add_at] at hx235_1 | simp only [Addr.add, Nat.zero_add] at hx235_1 | skip)
                                                        (first | simp only [add_plain] at hx235_2 | simp only [add_at] at hx235_2 | simp only [Addr.add, Nat.zero_add] at hx235_2 | skip)
                                                        replace p235 := eq_true p235
                                                        replace q235 := eq_true q235
                                                        have p236 : 0 ≤ (((rd_T36 (rd_L10 t218 x9_3) x11_4).f0) : Int) := of_decide_eq_true (by first | (with_reducible assumption) | assumption)
                                                        have q236 : ((rd_T36 (rd_L10 t218 x9_3) x11_4).f0) < (y234.length : Int) := (by have h_ : (((rd_T36 (rd_L10 t218 x9_3) x11_4).f0) : Int) < ((x8_4.length : Int) : Int) := of_decide_eq_true (by first | (with_reducible assumption) | assumption); first | (have e_ := (Kd.R_reads' HO_8.out).1; omega) | simpa only [Ny234.out, List.length_set] using h_)
                                                        have ql236 : ((((rd_T36 (rd_L10 t218 x9_3) x11_4).f0) : Int) < ((x8_4.length : Int) : Int)) = True := eq_true (of_decide_eq_true (by first | (with_reducible assumption) | assumption))
                                                        obtain ⟨ad236, e236, hx236_0, hx236_1, hx236_2⟩ := at_T38 (Kd.R_reads' HO_8.out).2.2 ((rd_T36 (rd_L10 t218 x9_3) x11_4).f0) p236 q236
                                                        obtain rfl : (⟨go43, 0, none⟩ : Addr) = ad236 := (by injection e236)
                                                        (first | simp only [add_plain] at hx236_0 | simp only [add_at] at hx236_0 | simp only [Addr.add, Nat.zero_add] at hx236_0 | skip)
                                                        (first | simp only [add_plain] at hx236_1 | simp only [add_at] at hx236_1 | simp only [Addr.add, Nat.zero_add] at hx236_1 | skip)
                                                        (first | simp only [add_plain] at hx236_2 | simp only [add_at] at hx236_2 | simp only [Addr.add, Nat.zero_add] at hx236_2 | skip)
                                                        replace p236 := eq_true p236
                                                        replace q236 := eq_true q236
                                                        refine start_ (n := 17) (S := fun w' => w'.cell? ⟨gb215, 0, none⟩ = some (.slice A0_0 l0_0.length c0_0) ∧ w'.cell? ⟨gb215, 1, none⟩ = some (.slice A0_1 l0_1.length c0_1) ∧ w'.cell? ⟨gb215, 2, none⟩ = some (.slice A0_2 l0_2.length c0_2) ∧ w'.cell? ⟨go43, (((rd_T36 (rd_L10 t218 x9_3) x11_4).f0)).toNat * 3, none⟩ = some (.int .i64 ((rd_T38 y234 ((rd_T36 (rd_L10 t218 x9_3) x11_4).f0)).f0)) ∧ w'.cell? ⟨go43, (((rd_T36 (rd_L10 t218 x9_3) x11_4).f0)).toNat * 3 + 1, none⟩ = some (.int .i64 ((rd_T38 y234 ((rd_T36 (rd_L10 t218 x9_3) x11_4).f0)).f1)) ∧ w'.cell? ⟨go43, (((rd_T36 (rd_L10 t218 x9_3) x11_4).f0)).toNat * 3 + 2, none⟩ = some (.int .i64 ((rd_T38 y234 ((rd_T36 (rd_L10 t218 x9_3) x11_4).f0)).f2)) ∧ w'.cell? ⟨go43, (((rd_T36 (rd_L10 t218 x9_3) x11_4).f0)).toNat * 3, none⟩ = some (.int .i64 ((rd_T38 y234 ((rd_T36 (rd_L10 t218 x9_3) x11_4).f0)).f0)) ∧ w'.cell? ⟨go43, (((rd_T36 (rd_L10 t218 x9_3) x11_4).f0)).toNat * 3 + 1, none⟩ = some (.int .i64 ((rd_T38 y234 ((rd_T36 (rd_L10 t218 x9_3) x11_4).f0)).f1)) ∧ w'.cell? ⟨go43, (((rd_T36 (rd_L10 t218 x9_3) x11_4).f0)).toNat * 3 + 2, none⟩ = some (.int .i64 ((rd_T38 y234 ((rd_T36 (rd_L10 t218 x9_3) x11_4).f0)).f2))) (ds := []) #[false, false, false, false, false, false, false, false, false, false, false, false, false, false, false, false, false] (by kernel_rfl) rfl rfl ⟨(blk_cell BK215.out 0).trans rfl, (blk_cell BK215.out 1).trans rfl, (blk_cell BK215.out 2).trans rfl, hx235_0, hx235_1, hx235_2, hx236_0, hx236_1, hx236_2⟩ (fun hHeld => ?_); refine with_tabW taquinlaw35_StockFirst.tab19 taquinlaw35_StockFirst.bits19 (fun HT_ HW_ => ?_)
                                                        generalize w54.drew = w55 at HO_6 HO_8 HL232_0 BK215 HB HQ53 hx235_0 hx235_1 hx235_2 hx236_0 hx236_1 hx236_2 hHeld ⊢
                                                        refine pu 0 100 17 1 rfl rfl HT_ ?_
                                                        refine pu 1 101 17 3 rfl rfl HT_ ?_
                                                        refine pu 2 102 17 7 rfl rfl HT_ ?_
                                                        refine pu 3 103 17 15 rfl rfl HT_ ?_
                                                        refine ta9 4 104 17 31 rfl rfl HT_ HW_ hHeld ?_
                                                        refine pu 5 105 17 63 rfl rfl HT_ ?_
                                                        refine pu 6 106 17 127 rfl rfl HT_ ?_
                                                        refine pu 7 107 17 255 rfl rfl HT_ ?_
                                                        refine pu 8 108 17 511 rfl rfl HT_ ?_
                                                        refine pu 9 109 17 1023 rfl rfl HT_ ?_
                                                        refine pu 10 110 17 2047 rfl rfl HT_ ?_
                                                        refine pu 12 112 17 6143 rfl rfl HT_ ?_
                                                        refine ta9 11 111 17 8191 rfl rfl HT_ HW_ hHeld ?_
                                                        refine ta9 13 113 17 16383 rfl rfl HT_ HW_ hHeld ?_
                                                        refine pu 14 114 17 32767 rfl rfl HT_ ?_
                                                        refine pu 15 115 17 65535 rfl rfl HT_ ?_
                                                        refine pu 16 116 17 131071 rfl rfl HT_ ?_
                                                        refine done_ (done_of HT_.out (by kernel_rfl)) ?_
                                                        try go_wp2
                                                        go_ret
                                                        exact ⟨by first | rfl | (simp [errW_none, errW_some] <;> rfl) | (simp [*, errW_none, errW_some] <;> rfl), by repeat (first | (with_reducible first | exact HB.out | apply below_alloc | apply pw_below_drewN | apply below_drew1 | refine below_set ?_ GE215.out) | exact HB.out)⟩
                                                      · rw [if_neg c50] at H
                                                        have c50b0 : decide ((l0_1.length : Int) ≤ ((rd_T38 y234 ((rd_T36 (rd_L10 t218 x9_3) x11_4).f0)).f0)) = false := decide_eq_false c50
                                                        clear c50
                                                        by_cases c56 : 0 ≤ ((rd_T38 y234 ((rd_T36 (rd_L10 t218 x9_3) x11_4).f0)).f0)
                                                        · rw [if_pos c56] at H
                                                          have c56b0 : decide (0 ≤ ((rd_T38 y234 ((rd_T36 (rd_L10 t218 x9_3) x11_4).f0)).f0)) = true := decide_eq_true c56
                                                          clear c56
                                                          by_cases c57 : ((rd_T38 y234 ((rd_T36 (rd_L10 t218 x9_3) x11_4).f0)).f0) < (l0_1.length : Int)
                                                          · rw [if_pos c57] at H
                                                            have c57b0 : decide (((rd_T38 y234 ((rd_T36 (rd_L10 t218 x9_3) x11_4).f0)).f0) < (l0_1.length : Int)) = true := decide_eq_true c57
                                                            clear c57
                                                            obtain ⟨ji58, hji58⟩ : ∃ j_ : Int, (mx x10_4 ((rd_T40 l0_1 ((rd_T38 y234 ((rd_T36 (rd_L10 t218 x9_3) x11_4).f0)).f0)).f1)) = j_ := ⟨_, rfl⟩
                                                            replace H : (taquinlaw35_StockFirst.l1 kj32 l1 t216 t218 y234 x9_3 ji58 (wrap64 (x11_4 + 1)) l0_0 l0_1 l0_2) = some r := by first | (rw [hji58] at H; exact H) | (simp only [hji58] at H ⊢; exact H)
                                                            have hji58_ : (if x10_4 < ((rd_T40 l0_1 ((rd_T38 y234 ((rd_T36 (rd_L10 t218 x9_3) x11_4).f0)).f0)).f1) then ((rd_T40 l0_1 ((rd_T38 y234 ((rd_T36 (rd_L10 t218 x9_3) x11_4).f0)).f0)).f1) else x10_4) = ji58 := hji58
                                                            have H' := Aside0.mk H
                                                            clear H
                                                            try go_wp2
                                                            have n0_ := Aside0.mk (Kd.S_drew HO_6.out)
                                                            have n1_ := Aside0.mk (Kd.R_drew HO_8.out)
                                                            have n2_ := Aside0.mk (blk_drew BK215.out)
                                                            have n3_ := Aside0.mk (Kd.C_drew HR228_0.out)
                                                            have n4_ := Aside0.mk (Kd.C_drew HR229_0.out)
                                                            have n5_ := Aside0.mk (below_drew1 HB.out)
                                                            clear HO_6
                                                            clear HO_8
                                                            clear BK215
                                                            clear HR228_0
                                                            clear HR229_0
                                                            clear HB
                                                            have HO_6 := n0_
                                                            have HO_8 := n1_
                                                            have BK215 := n2_
                                                            have HR228_0 := n3_
                                                            have HR229_0 := n4_
                                                            have HB := n5_
                                                            clear n0_ n1_ n2_ n3_ n4_ n5_
                                                            obtain ⟨Ao60, co60, eo60⟩ := Kd.R_slice HO_8.out
                                                            (first | subst eo60 | (injection eo60 with f1_ f2_ f3_; have f4_ := f1_.symm; have f5_ := f3_.symm; clear f1_ f2_ f3_; subst f4_; subst f5_))
                                                            have p231 : 0 ≤ (((rd_T36 (rd_L10 t218 x9_3) x11_4).f0) : Int) := of_decide_eq_true (by first | (with_reducible assumption) | assumption)
                                                            have q231 : ((rd_T36 (rd_L10 t218 x9_3) x11_4).f0) < (x8_4.length : Int) := of_decide_eq_true (by first | (with_reducible assumption) | assumption)
                                                            obtain ⟨ad231, e231, hx231_0, hx231_1, hx231_2⟩ := at_T38 (Kd.R_reads' HO_8.out).2.2 ((rd_T36 (rd_L10 t218 x9_3) x11_4).f0) p231 q231
                                                            cases e231
                                                            replace p231 := eq_true p231
                                                            replace q231 := eq_true q231
                                                            have p232 : 0 ≤ (x9_3 : Int) := of_decide_eq_true (by first | (with_reducible assumption) | assumption)
                                                            have q232 : x9_3 < (t218.length : Int) := of_decide_eq_true (by first | (with_reducible assumption) | assumption)
                                                            obtain ⟨ad232, A232_0, c232_0, e232, hx232_0, hl232_0, hi232_0⟩ := at_L10 (Kd.S_reads' HO_6.out).2.2 x9_3 p232 q232
                                                            obtain rfl : ad228 = ad232 := (by injection e232)
                                                            obtain ⟨ce232, hce232, hMe232, hcc232⟩ := Kd.S_get HO_6.out [] x9_3 p232 (by first | exact q232 | exact of_decide_eq_true (by first | (with_reducible assumption) | assumption) | (have e_ := (Kd.S_reads' HO_6.out).1; omega))
                                                            obtain ⟨ve232_0, rfl, ge232_0⟩ := hMe232
                                                            have hv232_0 := hcc232 0 _ rfl
                                                            rw [Nat.add_zero, show ((Kd.slice 36 k36)).sz = 1 from rfl, Nat.mul_one] at hv232_0
                                                            replace hv232_0 := Option.some.inj (hv232_0.symm.trans hx232_0)
                                                            rw [hv232_0] at ge232_0
                                                            have HL232_0 := Aside0.mk (show Kd.R k36 36 _ _ _ _ (rd_L10 t218 x9_3) from ge232_0)
                                                            clear hv232_0 ge232_0
                                                            clear hcc232 hce232
                                                            have HR232_0 := Aside0.mk hi232_0
                                                            have HC232_0 := Aside0.mk hl232_0
                                                            clear hi232_0 hl232_0
                                                            replace p232 := eq_true p232
                                                            replace q232 := eq_true q232
                                                            have p233 : 0 ≤ (x11_4 : Int) := of_decide_eq_true (by first | (with_reducible assumption) | assumption)
                                                            have q233 : x11_4 < ((rd_L10 t218 x9_3).length : Int) := of_decide_eq_true (by first | (with_reducible assumption) | assumption)
                                                            obtain ⟨ad233, e233, hx233_0, hx233_1⟩ := at_T36 (by repeat (first | (with_reducible exact HR232_0.out) | (with_reducible refine Kd.C_alloc ?_ _) | (with_reducible refine Kd.C_drewN ?_ _) | (with_reducible refine Kd.C_drew ?_) | exact HR232_0.out)) x11_4 p233 q233
                                                            cases e233
                                                            replace p233 := eq_true p233
                                                            replace q233 := eq_true q233
                                                            have p43 : 0 ≤ (((rd_T36 (rd_L10 t218 x9_3) x11_4).f0) : Int) := of_decide_eq_true (by first | (with_reducible assumption) | assumption)
                                                            have q43 : (((rd_T36 (rd_L10 t218 x9_3) x11_4).f0) : Int) < ((x8_4.length : Int) : Int) := of_decide_eq_true (by first | (with_reducible assumption) | assumption)
                                                            obtain ⟨go43, co43, eo43, gb43, gl43, cl43, HG43⟩ := Kd.R_form HO_8.out (by omega)
                                                            (first | cases eo43 | (injection eo43 with ea_ en_ ec_; (first | subst ea_ | (injection ea_ with ea_; subst ea_)); subst ec_; clear en_))
                                                            have GB43 := Aside0.mk gb43
                                                            have GG43 := Aside0.mk HG43
                                                            clear gb43 gl43 HG43
                                                            (first | simp only [add_plain] at hx231_0 | skip)
                                                            (first | simp only [add_plain] at hx231_1 | skip)
                                                            (first | simp only [add_plain] at hx231_2 | skip)
                                                            obtain ⟨ce43, hcl43, hM43, hcc43, hfr43⟩ := Kd.R_elem HO_8.out z38 (((rd_T36 (rd_L10 t218 x9_3) x11_4).f0) : Int) p43 q43
                                                            obtain rfl := k38_openM hM43
                                                            have hx43_0 : World.cell? _ ⟨go43, (((rd_T36 (rd_L10 t218 x9_3) x11_4).f0) : Int).toNat * 3, none⟩ = some (.int .i64 ((rd_T38 x8_4 ((rd_T36 (rd_L10 t218 x9_3) x11_4).f0)).f0)) := hcc43 0 _ rfl
                                                            have hx43_1 : World.cell? _ ⟨go43, (((rd_T36 (rd_L10 t218 x9_3) x11_4).f0) : Int).toNat * 3 + 1, none⟩ = some (.int .i64 ((rd_T38 x8_4 ((rd_T36 (rd_L10 t218 x9_3) x11_4).f0)).f1)) := hcc43 1 _ rfl
                                                            have hx43_2 : World.cell? _ ⟨go43, (((rd_T36 (rd_L10 t218 x9_3) x11_4).f0) : Int).toNat * 3 + 2, none⟩ = some (.int .i64 ((rd_T38 x8_4 ((rd_T36 (rd_L10 t218 x9_3) x11_4).f0)).f2)) := hcc43 2 _ rfl
                                                            have hf43_0 : World.frozen? _ ⟨go43, (((rd_T36 (rd_L10 t218 x9_3) x11_4).f0) : Int).toNat * 3, none⟩ = false := hfr43 0
                                                            have hf43_1 : World.frozen? _ ⟨go43, (((rd_T36 (rd_L10 t218 x9_3) x11_4).f0) : Int).toNat * 3 + 1, none⟩ = false := hfr43 1
                                                            have hf43_2 : World.frozen? _ ⟨go43, (((rd_T36 (rd_L10 t218 x9_3) x11_4).f0) : Int).toNat * 3 + 2, none⟩ = false := hfr43 2
                                                            clear hcl43 hcc43 hfr43 hM43
                                                            replace p43 := eq_true p43
                                                            replace q43 := eq_true q43
                                                            obtain ⟨ce61, hcl61, hM61, hcc61, hfr61⟩ := Kd.R_elem HO_8.out z38 (((rd_T36 (rd_L10 t218 x9_3) x11_4).f0) : Int) (of_decide_eq_true (by first | (with_reducible assumption) | assumption)) (by have h_ : (((rd_T36 (rd_L10 t218 x9_3) x11_4).f0) : Int) < ((x8_4.length : Int) : Int) := of_decide_eq_true (by first | (with_reducible assumption) | assumption); first | exact h_ | (have e_ := (Kd.R_reads' HO_8.out).1; omega) | simpa using h_)
                                                            obtain rfl := k38_openM hM61
                                                            have HP61 := (Kd.R_seg HO_8.out (((rd_T36 (rd_L10 t218 x9_3) x11_4).f0) : Int) (of_decide_eq_true (by first | (with_reducible assumption) | assumption)) (by have h_ : (((rd_T36 (rd_L10 t218 x9_3) x11_4).f0) : Int) < ((x8_4.length : Int) : Int) := of_decide_eq_true (by first | (with_reducible assumption) | assumption); first | exact h_ | (have e_ := (Kd.R_reads' HO_8.out).1; omega) | simpa using h_) (seg := [.int .i64 (wrap64 (((rd_T38 x8_4 ((rd_T36 (rd_L10 t218 x9_3) x11_4).f0)).f1) - ((rd_T36 (rd_L10 t218 x9_3) x11_4).f1)))]) (j := 1) hcl61 hcc61 (show 2 ≤ 3 from by decide) (x' := (⟨(rd_T38 x8_4 ((rd_T36 (rd_L10 t218 x9_3) x11_4).f0)).f0, wrap64 (((rd_T38 x8_4 ((rd_T36 (rd_L10 t218 x9_3) x11_4).f0)).f1) - ((rd_T36 (rd_L10 t218 x9_3) x11_4).f1)), (rd_T38 x8_4 ((rd_T36 (rd_L10 t218 x9_3) x11_4).f0)).f2⟩ : S38)) (k38_mkM _ _ _ (⟨(rd_T38 x8_4 ((rd_T36 (rd_L10 t218 x9_3) x11_4).f0)).f0, wrap64 (((rd_T38 x8_4 ((rd_T36 (rd_L10 t218 x9_3) x11_4).f0)).f1) - ((rd_T36 (rd_L10 t218 x9_3) x11_4).f1)), (rd_T38 x8_4 ((rd_T36 (rd_L10 t218 x9_3) x11_4).f0)).f2⟩ : S38) ) (fun _ hk => hk)).1
                                                            rw [← Ny234.out] at HP61
                                                            have HQ61 := Aside0.mk HP61
                                                            clear hcl61 hcc61 hfr61 hM61 HP61
                                                            refine start_ (n := 19) (S := fun w' => w'.cell? ⟨go43, (((rd_T36 (rd_L10 t218 x9_3) x11_4).f0)).toNat * 3, none⟩ = some (.int .i64 ((rd_T38 x8_4 ((rd_T36 (rd_L10 t218 x9_3) x11_4).f0)).f0)) ∧ w'.cell? ⟨go43, (((rd_T36 (rd_L10 t218 x9_3) x11_4).f0)).toNat * 3 + 1, none⟩ = some (.int .i64 ((rd_T38 x8_4 ((rd_T36 (rd_L10 t218 x9_3) x11_4).f0)).f1)) ∧ w'.cell? ⟨go43, (((rd_T36 (rd_L10 t218 x9_3) x11_4).f0)).toNat * 3 + 2, none⟩ = some (.int .i64 ((rd_T38 x8_4 ((rd_T36 (rd_L10 t218 x9_3) x11_4).f0)).f2)) ∧ w'.cell? (ad228.add (x9_3).toNat) = some (.slice (some ad233) (rd_L10 t218 x9_3).length c232_0) ∧ w'.cell? (ad233.add ((x11_4).toNat * 2)) = some (.int .i64 ((rd_T36 (rd_L10 t218 x9_3) x11_4).f0)) ∧ w'.cell? ⟨(ad233.add ((x11_4).toNat * 2)).block, (ad233.add ((x11_4).toNat * 2)).off + 1, none⟩ = some (.int .i64 ((rd_T36 (rd_L10 t218 x9_3) x11_4).f1))) (ds := [18]) #[false, false, false, false, false, false, false, false, false, false, false, false, false, false, false, false, false, false, false] (by kernel_rfl) rfl rfl ⟨hx231_0, hx231_1, hx231_2, hx232_0, hx233_0, hx233_1⟩ (fun hHeld => ?_); refine with_tabW taquinlaw35_StockFirst.tab18 taquinlaw35_StockFirst.bits18 (fun HT_ HW_ => ?_)
                                                            generalize wc.drew = w59 at HO_6 HO_8 BK215 HR228_0 HR229_0 HB GG43 HL232_0 HQ61 HR232_0 hf43_0 hf43_1 hf43_2 hx231_0 hx231_1 hx231_2 hx232_0 hx233_0 hx233_1 hx43_0 hx43_1 hx43_2 hHeld ⊢
                                                            refine pu 0 82 19 1 rfl rfl HT_ ?_
                                                            refine pu 1 83 19 3 rfl rfl HT_ ?_
                                                            refine pu 2 84 19 7 rfl rfl HT_ ?_
                                                            refine pu 3 85 19 15 rfl rfl HT_ ?_
                                                            refine pu 4 86 19 31 rfl rfl HT_ ?_
                                                            refine pu 5 87 19 63 rfl rfl HT_ ?_
                                                            refine pu 7 89 19 191 rfl rfl HT_ ?_
                                                            refine pu 8 90 19 447 rfl rfl HT_ ?_
                                                            refine pu 9 91 19 959 rfl rfl HT_ ?_
                                                            refine pu 11 93 19 3007 rfl rfl HT_ ?_
                                                            refine ta6 6 88 19 3071 rfl rfl HT_ HW_ hHeld ?_
                                                            refine ta6 10 92 19 4095 rfl rfl HT_ HW_ hHeld ?_
                                                            refine pu 12 94 19 8191 rfl rfl HT_ ?_
                                                            refine pu 13 95 19 16383 rfl rfl HT_ ?_
                                                            refine ta6 14 96 19 32767 rfl rfl HT_ HW_ hHeld ?_
                                                            refine pu 15 97 19 65535 rfl rfl HT_ ?_
                                                            refine pu 16 98 19 131071 rfl rfl HT_ ?_
                                                            refine pu 17 99 19 262143 rfl rfl HT_ ?_
                                                            refine last_ (i := 18) (N := none) #[true, true, true, true, true, true, true, true, true, true, true, true, true, true, true, true, true, true, true] rfl rfl (one_of HT_.out (by kernel_rfl)) (by decide) (fun K hK => ?_)
                                                            refine skip_ (w1 := ?_) (by rfl) rfl ?_ ?_
                                                            rotate_left
                                                            · go_simp
                                                              rfl
                                                            refine hK.out _ _ ?_
                                                            clear hK K
                                                            refine done_ (done_of HT_.out (by kernel_rfl)) ?_
                                                            try go_wp2
                                                            have n0_ : Aside0 (Kd.S (Kd.slice 36 k36) 34 (w59.setCell ⟨go43, (((rd_T36 (rd_L10 t218 x9_3) x11_4).f0) : Int).toNat * 3 + 1, none⟩ (.int .i64 (wrap64 (((rd_T38 x8_4 ((rd_T36 (rd_L10 t218 x9_3) x11_4).f0)).f1) - ((rd_T36 (rd_L10 t218 x9_3) x11_4).f1))))) w.heap.size (fun _ => True) (.slice (some ad228) t218.length co28) t218) := ⟨by (with_reducible repeat (first | apply Kd.S_alloc | apply Kd.S_drewN | apply Kd.S_drew)); exact Kd.S_mono (Kd.S_far (p := ⟨go43, (((rd_T36 (rd_L10 t218 x9_3) x11_4).f0) : Int).toNat * 3 + 1, none⟩) (Kd.S_types HO_6.out GG43.out (by decide)) (fun _ hk => hk.2) (.int .i64 (wrap64 (((rd_T38 x8_4 ((rd_T36 (rd_L10 t218 x9_3) x11_4).f0)).f1) - ((rd_T36 (rd_L10 t218 x9_3) x11_4).f1))))) (fun _ hk => trivial)⟩
                                                            have n1_ : Aside0 (Kd.R k38 38 (w59.setCell ⟨go43, (((rd_T36 (rd_L10 t218 x9_3) x11_4).f0) : Int).toNat * 3 + 1, none⟩ (.int .i64 (wrap64 (((rd_T38 x8_4 ((rd_T36 (rd_L10 t218 x9_3) x11_4).f0)).f1) - ((rd_T36 (rd_L10 t218 x9_3) x11_4).f1))))) w.heap.size (fun _ => True) (.slice (some ⟨go43, 0, none⟩) x8_4.length co60) y234) := ⟨by (with_reducible repeat (first | apply Kd.R_alloc | apply Kd.R_drewN | apply Kd.R_drew)); exact HQ61.out⟩
                                                            have n2_ : Aside0 (Kd.R k36 36 (w59.setCell ⟨go43, (((rd_T36 (rd_L10 t218 x9_3) x11_4).f0) : Int).toNat * 3 + 1, none⟩ (.int .i64 (wrap64 (((rd_T38 x8_4 ((rd_T36 (rd_L10 t218 x9_3) x11_4).f0)).f1) - ((rd_T36 (rd_L10 t218 x9_3) x11_4).f1))))) w.heap.size (fun k_ => some k_ ≠ (.slice (some ad228) t218.length co28 : Value).ownBlock) (.slice (some ad233) (rd_L10 t218 x9_3).length c232_0) (rd_L10 t218 x9_3)) := ⟨by (with_reducible repeat (first | apply Kd.R_alloc | apply Kd.R_drewN | apply Kd.R_drew)); exact Kd.R_mono (Kd.R_far (p := ⟨go43, (((rd_T36 (rd_L10 t218 x9_3) x11_4).f0) : Int).toNat * 3 + 1, none⟩) (Kd.R_types HL232_0.out GG43.out (by decide)) (fun _ hk => hk.2) (.int .i64 (wrap64 (((rd_T38 x8_4 ((rd_T36 (rd_L10 t218 x9_3) x11_4).f0)).f1) - ((rd_T36 (rd_L10 t218 x9_3) x11_4).f1))))) (fun _ hk => hk.1.2)⟩
                                                            have n3_ : Aside0 ((w59.setCell ⟨go43, (((rd_T36 (rd_L10 t218 x9_3) x11_4).f0) : Int).toNat * 3 + 1, none⟩ (.int .i64 (wrap64 (((rd_T38 x8_4 ((rd_T36 (rd_L10 t218 x9_3) x11_4).f0)).f1) - ((rd_T36 (rd_L10 t218 x9_3) x11_4).f1))))).heap[gb215]? = some (.cells #[.slice A0_0 l0_0.length c0_0, .slice A0_1 l0_1.length c0_1, .slice A0_2 l0_2.length c0_2] 26 (0, 0))) := ⟨by (with_reducible repeat (first | refine blk_drewN ?_ _ | refine blk_drew ?_ | refine blk_alloc ?_ _)); refine blk_far ?_ (by have h_ := Kd.R_ne HO_8.out BK215.out (by decide); intro e_; exact h_ (by rw [e_]; rfl)) _; (with_reducible repeat (first | refine blk_drewN ?_ _ | refine blk_drew ?_ | refine blk_alloc ?_ _)); exact BK215.out⟩
                                                            have n4_ : Aside0 (Below w.heap.size w (w59.setCell ⟨go43, (((rd_T36 (rd_L10 t218 x9_3) x11_4).f0) : Int).toNat * 3 + 1, none⟩ (.int .i64 (wrap64 (((rd_T38 x8_4 ((rd_T36 (rd_L10 t218 x9_3) x11_4).f0)).f1) - ((rd_T36 (rd_L10 t218 x9_3) x11_4).f1)))))) := ⟨by repeat (first | (with_reducible first | exact HB.out | apply below_alloc | apply pw_below_drewN | apply below_drew1 | refine below_set ?_ GB43.out | refine below_set ?_ GE215.out) | exact HB.out)⟩
                                                            (try clear HO_6)
                                                            (try clear HO_8)
                                                            (try clear HL232_0)
                                                            (try clear BK215)
                                                            (try clear HB)
                                                            generalize (w59.setCell ⟨go43, (((rd_T36 (rd_L10 t218 x9_3) x11_4).f0) : Int).toNat * 3 + 1, none⟩ (.int .i64 (wrap64 (((rd_T38 x8_4 ((rd_T36 (rd_L10 t218 x9_3) x11_4).f0)).f1) - ((rd_T36 (rd_L10 t218 x9_3) x11_4).f1))))) = w62 at n0_ n1_ n2_ n3_ n4_ ⊢
                                                            have HO_6 := n0_
                                                            have HO_8 := n1_
                                                            have HL232_0 := n2_
                                                            have BK215 := n3_
                                                            have HB := n4_
                                                            clear n0_ n1_ n2_ n3_ n4_
                                                            have n0_ := Aside0.mk (Kd.S_drew HO_6.out)
                                                            have n1_ := Aside0.mk (Kd.R_drew HO_8.out)
                                                            have n2_ := Aside0.mk (Kd.R_drew HL232_0.out)
                                                            have n3_ := Aside0.mk (blk_drew BK215.out)
                                                            have n4_ := Aside0.mk (below_drew1 HB.out)
                                                            clear HO_6
                                                            clear HO_8
                                                            clear HL232_0
                                                            clear BK215
                                                            clear HB
                                                            have HO_6 := n0_
                                                            have HO_8 := n1_
                                                            have HL232_0 := n2_
                                                            have BK215 := n3_
                                                            have HB := n4_
                                                            clear n0_ n1_ n2_ n3_ n4_
                                                            have p235 : 0 ≤ (((rd_T36 (rd_L10 t218 x9_3) x11_4).f0) : Int) := of_decide_eq_true (by first | (with_reducible assumption) | assumption)
                                                            have q235 : ((rd_T36 (rd_L10 t218 x9_3) x11_4).f0) < (y234.length : Int) := (by have h_ : (((rd_T36 (rd_L10 t218 x9_3) x11_4).f0) : Int) < ((x8_4.length : Int) : Int) := of_decide_eq_true (by first | (with_reducible assumption) | assumption); first | (have e_ := (Kd.R_reads' HO_8.out).1; omega) | simpa only [Ny234.out, List.length_set] using h_)
                                                            have ql235 : ((((rd_T36 (rd_L10 t218 x9_3) x11_4).f0) : Int) < ((x8_4.length : Int) : Int)) = True := eq_true (of_decide_eq_true (by first | (with_reducible assumption) | assumption))
                                                            obtain ⟨ad235, e235, hx235_0, hx235_1, hx235_2⟩ := at_T38 (Kd.R_reads' HO_8.out).2.2 ((rd_T36 (rd_L10 t218 x9_3) x11_4).f0) p235 q235
                                                            obtain rfl : (⟨go43, 0, none⟩ : Addr) = ad235 := (by injection e235)
                                                            (first | simp only [add_plain] at hx235_0 | simp only [add_at] at hx235_0 | simp only [Addr.add, Nat.zero_add] at hx235_0 | skip)
                                                            (first | simp only [add_plain] at hx235_1 | simp only [add_at] at hx235_1 | simp only [Addr.add, Nat.zero_add] at hx235_1 | skip)
                                                            (first | simp only [add_plain] at hx235_2 | simp only [add_at] at hx235_2 | simp only [Addr.add, Nat.zero_add] at hx235_2 | skip)
                                                            replace p235 := eq_true p235
                                                            replace q235 := eq_true q235
                                                            have p236 : 0 ≤ (((rd_T36 (rd_L10 t218 x9_3) x11_4).f0) : Int) := of_decide_eq_true (by first | (with_reducible assumption) | assumption)
                                                            have q236 : ((rd_T36 (rd_L10 t218 x9_3) x11_4).f0) < (y234.length : Int) := (by have h_ : (((rd_T36 (rd_L10 t218 x9_3) x11_4).f0) : Int) < ((x8_4.length : Int) : Int) := of_decide_eq_true (by first | (with_reducible assumption) | assumption); first | (have e_ := (Kd.R_reads' HO_8.out).1; omega) | simpa only [Ny234.out, List.length_set] using h_)
                                                            have ql236 : ((((rd_T36 (rd_L10 t218 x9_3) x11_4).f0) : Int) < ((x8_4.length : Int) : Int)) = True := eq_true (of_decide_eq_true (by first | (with_reducible assumption) | assumption))
                                                            obtain ⟨ad236, e236, hx236_0, hx236_1, hx236_2⟩ := at_T38 (Kd.R_reads' HO_8.out).2.2 ((rd_T36 (rd_L10 t218 x9_3) x11_4).f0) p236 q236
                                                            obtain rfl : (⟨go43, 0, none⟩ : Addr) = ad236 := (by injection e236)
                                                            (first | simp only [add_plain] at hx236_0 | simp only [add_at] at hx236_0 | simp only [Addr.add, Nat.zero_add] at hx236_0 | skip)
                                                            (first | simp only [add_plain] at hx236_1 | simp only [add_at] at hx236_1 | simp only [Addr.add, Nat.zero_add] at hx236_1 | skip)
                                                            (first | simp only [add_plain] at hx236_2 | simp only [add_at] at hx236_2 | simp only [Addr.add, Nat.zero_add] at hx236_2 | skip)
                                                            replace p236 := eq_true p236
                                                            replace q236 := eq_true q236
                                                            refine start_ (n := 17) (S := fun w' => w'.cell? ⟨gb215, 0, none⟩ = some (.slice A0_0 l0_0.length c0_0) ∧ w'.cell? ⟨gb215, 1, none⟩ = some (.slice A0_1 l0_1.length c0_1) ∧ w'.cell? ⟨gb215, 2, none⟩ = some (.slice A0_2 l0_2.length c0_2) ∧ w'.cell? ⟨go43, (((rd_T36 (rd_L10 t218 x9_3) x11_4).f0)).toNat * 3, none⟩ = some (.int .i64 ((rd_T38 y234 ((rd_T36 (rd_L10 t218 x9_3) x11_4).f0)).f0)) ∧ w'.cell? ⟨go43, (((rd_T36 (rd_L10 t218 x9_3) x11_4).f0)).toNat * 3 + 1, none⟩ = some (.int .i64 ((rd_T38 y234 ((rd_T36 (rd_L10 t218 x9_3) x11_4).f0)).f1)) ∧ w'.cell? ⟨go43, (((rd_T36 (rd_L10 t218 x9_3) x11_4).f0)).toNat * 3 + 2, none⟩ = some (.int .i64 ((rd_T38 y234 ((rd_T36 (rd_L10 t218 x9_3) x11_4).f0)).f2)) ∧ w'.cell? ⟨go43, (((rd_T36 (rd_L10 t218 x9_3) x11_4).f0)).toNat * 3, none⟩ = some (.int .i64 ((rd_T38 y234 ((rd_T36 (rd_L10 t218 x9_3) x11_4).f0)).f0)) ∧ w'.cell? ⟨go43, (((rd_T36 (rd_L10 t218 x9_3) x11_4).f0)).toNat * 3 + 1, none⟩ = some (.int .i64 ((rd_T38 y234 ((rd_T36 (rd_L10 t218 x9_3) x11_4).f0)).f1)) ∧ w'.cell? ⟨go43, (((rd_T36 (rd_L10 t218 x9_3) x11_4).f0)).toNat * 3 + 2, none⟩ = some (.int .i64 ((rd_T38 y234 ((rd_T36 (rd_L10 t218 x9_3) x11_4).f0)).f2))) (ds := []) #[false, false, false, false, false, false, false, false, false, false, false, false, false, false, false, false, false] (by kernel_rfl) rfl rfl ⟨(blk_cell BK215.out 0).trans rfl, (blk_cell BK215.out 1).trans rfl, (blk_cell BK215.out 2).trans rfl, hx235_0, hx235_1, hx235_2, hx236_0, hx236_1, hx236_2⟩ (fun hHeld => ?_); refine with_tabW taquinlaw35_StockFirst.tab19 taquinlaw35_StockFirst.bits19 (fun HT_ HW_ => ?_)
                                                            generalize w62.drew = w63 at HO_6 HO_8 HL232_0 BK215 HB HQ61 hx235_0 hx235_1 hx235_2 hx236_0 hx236_1 hx236_2 hHeld ⊢
                                                            refine pu 0 100 17 1 rfl rfl HT_ ?_
                                                            refine pu 1 101 17 3 rfl rfl HT_ ?_
                                                            refine pu 2 102 17 7 rfl rfl HT_ ?_
                                                            refine pu 3 103 17 15 rfl rfl HT_ ?_
                                                            refine ta9 4 104 17 31 rfl rfl HT_ HW_ hHeld ?_
                                                            refine pu 5 105 17 63 rfl rfl HT_ ?_
                                                            refine pu 6 106 17 127 rfl rfl HT_ ?_
                                                            refine pu 7 107 17 255 rfl rfl HT_ ?_
                                                            refine pu 8 108 17 511 rfl rfl HT_ ?_
                                                            refine pu 9 109 17 1023 rfl rfl HT_ ?_
                                                            refine pu 10 110 17 2047 rfl rfl HT_ ?_
                                                            refine pu 12 112 17 6143 rfl rfl HT_ ?_
                                                            refine ta9 11 111 17 8191 rfl rfl HT_ HW_ hHeld ?_
                                                            refine ta9 13 113 17 16383 rfl rfl HT_ HW_ hHeld ?_
                                                            refine pu 14 114 17 32767 rfl rfl HT_ ?_
                                                            refine pu 15 115 17 65535 rfl rfl HT_ ?_
                                                            refine pu 16 116 17 131071 rfl rfl HT_ ?_
                                                            refine done_ (done_of HT_.out (by kernel_rfl)) ?_
                                                            try go_wp2
                                                            have n0_ := Aside0.mk (Kd.S_drew HO_6.out)
                                                            have n1_ := Aside0.mk (Kd.R_drew HO_8.out)
                                                            have n2_ := Aside0.mk (Kd.R_drew HL232_0.out)
                                                            have n3_ := Aside0.mk (blk_drew BK215.out)
                                                            have n4_ := Aside0.mk (below_drew1 HB.out)
                                                            clear HO_6
                                                            clear HO_8
                                                            clear HL232_0
                                                            clear BK215
                                                            clear HB
                                                            have HO_6 := n0_
                                                            have HO_8 := n1_
                                                            have HL232_0 := n2_
                                                            have BK215 := n3_
                                                            have HB := n4_
                                                            clear n0_ n1_ n2_ n3_ n4_
                                                            have p237 : 0 ≤ (((rd_T36 (rd_L10 t218 x9_3) x11_4).f0) : Int) := of_decide_eq_true (by first | (with_reducible assumption) | assumption)
                                                            have q237 : ((rd_T36 (rd_L10 t218 x9_3) x11_4).f0) < (y234.length : Int) := (by have h_ : (((rd_T36 (rd_L10 t218 x9_3) x11_4).f0) : Int) < ((x8_4.length : Int) : Int) := of_decide_eq_true (by first | (with_reducible assumption) | assumption); first | (have e_ := (Kd.R_reads' HO_8.out).1; omega) | simpa only [Ny234.out, List.length_set] using h_)
                                                            have ql237 : ((((rd_T36 (rd_L10 t218 x9_3) x11_4).f0) : Int) < ((x8_4.length : Int) : Int)) = True := eq_true (of_decide_eq_true (by first | (with_reducible assumption) | assumption))
                                                            obtain ⟨ad237, e237, hx237_0, hx237_1, hx237_2⟩ := at_T38 (Kd.R_reads' HO_8.out).2.2 ((rd_T36 (rd_L10 t218 x9_3) x11_4).f0) p237 q237
                                                            obtain rfl : (⟨go43, 0, none⟩ : Addr) = ad237 := (by injection e237)
                                                            (first | simp only [add_plain] at hx237_0 | simp only [add_at] at hx237_0 | simp only [Addr.add, Nat.zero_add] at hx237_0 | skip)
                                                            (first | simp only [add_plain] at hx237_1 | simp only [add_at] at hx237_1 | simp only [Addr.add, Nat.zero_add] at hx237_1 | skip)
                                                            (first | simp only [add_plain] at hx237_2 | simp only [add_at] at hx237_2 | simp only [Addr.add, Nat.zero_add] at hx237_2 | skip)
                                                            replace p237 := eq_true p237
                                                            replace q237 := eq_true q237
                                                            have p238 : 0 ≤ (((rd_T38 y234 ((rd_T36 (rd_L10 t218 x9_3) x11_4).f0)).f0) : Int) := of_decide_eq_true (by first | (with_reducible assumption) | assumption)
                                                            have q238 : ((rd_T38 y234 ((rd_T36 (rd_L10 t218 x9_3) x11_4).f0)).f0) < (l0_1.length : Int) := of_decide_eq_true (by first | (with_reducible assumption) | assumption)
                                                            obtain ⟨ad238, e238, hx238_0, hx238_1, hx238_2⟩ := at_T40 HR0_1.out ((rd_T38 y234 ((rd_T36 (rd_L10 t218 x9_3) x11_4).f0)).f0) p238 q238
                                                            have hw238_2 := hx238_2
                                                            have hw238_1 := hx238_1
                                                            have hw238_0 := hx238_0
                                                            cases e238
                                                            replace hx238_0 := (HB.out.cell (World.block_lt_of_cell? w _ hx238_0)).trans hx238_0
                                                            replace hx238_1 := (HB.out.cell (World.block_lt_of_cell? w _ hx238_1)).trans hx238_1
                                                            replace hx238_2 := (HB.out.cell (World.block_lt_of_cell? w _ hx238_2)).trans hx238_2
                                                            replace p238 := eq_true p238
                                                            replace q238 := eq_true q238
                                                            refine start_ (n := 13) (S := fun w' => w'.cell? ⟨gb215, 0, none⟩ = some (.slice A0_0 l0_0.length c0_0) ∧ w'.cell? ⟨gb215, 1, none⟩ = some (.slice (some ad238) l0_1.length c0_1) ∧ w'.cell? ⟨gb215, 2, none⟩ = some (.slice A0_2 l0_2.length c0_2) ∧ w'.cell? ⟨go43, (((rd_T36 (rd_L10 t218 x9_3) x11_4).f0)).toNat * 3, none⟩ = some (.int .i64 ((rd_T38 y234 ((rd_T36 (rd_L10 t218 x9_3) x11_4).f0)).f0)) ∧ w'.cell? ⟨go43, (((rd_T36 (rd_L10 t218 x9_3) x11_4).f0)).toNat * 3 + 1, none⟩ = some (.int .i64 ((rd_T38 y234 ((rd_T36 (rd_L10 t218 x9_3) x11_4).f0)).f1)) ∧ w'.cell? ⟨go43, (((rd_T36 (rd_L10 t218 x9_3) x11_4).f0)).toNat * 3 + 2, none⟩ = some (.int .i64 ((rd_T38 y234 ((rd_T36 (rd_L10 t218 x9_3) x11_4).f0)).f2)) ∧ w'.cell? (ad238.add ((((rd_T38 y234 ((rd_T36 (rd_L10 t218 x9_3) x11_4).f0)).f0)).toNat * 3)) = some (.int .i64 ((rd_T40 l0_1 ((rd_T38 y234 ((rd_T36 (rd_L10 t218 x9_3) x11_4).f0)).f0)).f0)) ∧ w'.cell? ⟨(ad238.add ((((rd_T38 y234 ((rd_T36 (rd_L10 t218 x9_3) x11_4).f0)).f0)).toNat * 3)).block, (ad238.add ((((rd_T38 y234 ((rd_T36 (rd_L10 t218 x9_3) x11_4).f0)).f0)).toNat * 3)).off + 1, none⟩ = some (.int .i64 ((rd_T40 l0_1 ((rd_T38 y234 ((rd_T36 (rd_L10 t218 x9_3) x11_4).f0)).f0)).f1)) ∧ w'.cell? ⟨(ad238.add ((((rd_T38 y234 ((rd_T36 (rd_L10 t218 x9_3) x11_4).f0)).f0)).toNat * 3)).block, (ad238.add ((((rd_T38 y234 ((rd_T36 (rd_L10 t218 x9_3) x11_4).f0)).f0)).toNat * 3)).off + 2, none⟩ = some (.bool ((rd_T40 l0_1 ((rd_T38 y234 ((rd_T36 (rd_L10 t218 x9_3) x11_4).f0)).f0)).f2))) (ds := []) #[false, false, false, false, false, false, false, false, false, false, false, false, false] (by kernel_rfl) rfl rfl ⟨(blk_cell BK215.out 0).trans rfl, (blk_cell BK215.out 1).trans rfl, (blk_cell BK215.out 2).trans rfl, hx237_0, hx237_1, hx237_2, ((HB.out.cell (World.block_lt_of_cell? w _ hw238_0)).trans hw238_0), ((HB.out.cell (World.block_lt_of_cell? w _ hw238_1)).trans hw238_1), ((HB.out.cell (World.block_lt_of_cell? w _ hw238_2)).trans hw238_2)⟩ (fun hHeld => ?_); refine with_tabW taquinlaw35_StockFirst.tab21 taquinlaw35_StockFirst.bits21 (fun HT_ HW_ => ?_)
                                                            generalize w63.drew = w64 at HO_6 HO_8 HL232_0 BK215 HB hx237_0 hx237_1 hx237_2 hx238_0 hx238_1 hx238_2 hHeld ⊢
                                                            refine pu 0 117 13 1 rfl rfl HT_ ?_
                                                            refine pu 1 118 13 3 rfl rfl HT_ ?_
                                                            refine pu 3 120 13 11 rfl rfl HT_ ?_
                                                            refine pu 4 121 13 27 rfl rfl HT_ ?_
                                                            refine pu 5 122 13 59 rfl rfl HT_ ?_
                                                            refine pu 6 123 13 123 rfl rfl HT_ ?_
                                                            refine ta9 2 119 13 127 rfl rfl HT_ HW_ hHeld ?_
                                                            refine ta9 7 124 13 255 rfl rfl HT_ HW_ hHeld ?_
                                                            refine pu 8 125 13 511 rfl rfl HT_ ?_
                                                            refine pu 9 126 13 1023 rfl rfl HT_ ?_
                                                            refine ta9 10 127 13 2047 rfl rfl HT_ HW_ hHeld ?_
                                                            refine pu 11 128 13 4095 rfl rfl HT_ ?_
                                                            refine pu 12 10 13 8191 rfl rfl HT_ ?_
                                                            refine done_ (done_of HT_.out (by kernel_rfl)) ?_
                                                            try go_wp2
                                                            go_roundg kj32
                                                            case measure => have := HJ3.out; have := HJ14.out; have := HK3.out; have := HK4.out; have := HJ32.out; omega
                                                            case rel => exact ⟨(y234), (ji58), (wrap64 (x11_4 + 1)), (by first | rfl | (simp; done) | (simp only [← hji58] <;> (first | rfl | simp)) | (simp [*]; done)), (by first | rfl | (simp; done) | (simp [*]; done)), H', ⟨by have := HJ3.out; have := HJ14.out; have := HK3.out; have := HK4.out; have := HJ32.out; omega⟩, ⟨by (with_reducible repeat (first | apply Kd.S_alloc | apply Kd.S_drewN | apply Kd.S_drew)); exact HO_6.out⟩, ⟨by (with_reducible repeat (first | apply Kd.R_alloc | apply Kd.R_drewN | apply Kd.R_drew)); exact HO_8.out⟩, ⟨by (with_reducible repeat (first | refine blk_drewN ?_ _ | refine blk_drew ?_ | refine blk_alloc ?_ _)); exact BK215.out⟩, ⟨by repeat (first | (with_reducible first | exact HB.out | apply below_alloc | apply pw_below_drewN | apply below_drew1 | refine below_set ?_ GE215.out) | exact HB.out)⟩⟩
                                                          · rw [if_neg c57] at H
                                                            exact absurd H (by simp)
                                                        · rw [if_neg c56] at H
                                                          exact absurd H (by simp)
                                                  · rw [if_neg c42] at H
                                                    exact absurd H (by simp)
                                                · rw [if_neg c41] at H
                                                  exact absurd H (by simp)
                                              · rw [if_neg c40] at H
                                                exact absurd H (by simp)
                                            · rw [if_neg c39] at H
                                              exact absurd H (by simp)
                                          · rw [if_neg c38] at H
                                            exact absurd H (by simp)
                                        · rw [if_neg c37] at H
                                          exact absurd H (by simp)
                                · rw [if_neg c32] at H
                                  exact absurd H (by simp)
                              · rw [if_neg c31] at H
                                have c31b0 : decide (x11_4 < ((rd_L10 t218 x9_3).length : Int)) = false := decide_eq_false c31
                                clear c31
                                have H' := Aside0.mk H
                                clear H
                                have p228 : 0 ≤ (x9_3 : Int) := of_decide_eq_true (by first | (with_reducible assumption) | assumption)
                                have q228 : x9_3 < (t218.length : Int) := of_decide_eq_true (by first | (with_reducible assumption) | assumption)
                                obtain ⟨ad228, A228_0, c228_0, e228, hx228_0, hl228_0, hi228_0⟩ := at_L10 (Kd.S_reads' HO_6.out).2.2 x9_3 p228 q228
                                cases e228
                                obtain ⟨ce228, hce228, hMe228, hcc228⟩ := Kd.S_get HO_6.out [] x9_3 p228 (by first | exact q228 | exact of_decide_eq_true (by first | (with_reducible assumption) | assumption) | (have e_ := (Kd.S_reads' HO_6.out).1; omega))
                                obtain ⟨ve228_0, rfl, ge228_0⟩ := hMe228
                                have hv228_0 := hcc228 0 _ rfl
                                rw [Nat.add_zero, show ((Kd.slice 36 k36)).sz = 1 from rfl, Nat.mul_one] at hv228_0
                                replace hv228_0 := Option.some.inj (hv228_0.symm.trans hx228_0)
                                rw [hv228_0] at ge228_0
                                have HL228_0 := Aside0.mk (show Kd.R k36 36 _ _ _ _ (rd_L10 t218 x9_3) from ge228_0)
                                clear hv228_0 ge228_0
                                clear hcc228 hce228
                                have HR228_0 := Aside0.mk hi228_0
                                have HC228_0 := Aside0.mk hl228_0
                                clear hi228_0 hl228_0
                                replace p228 := eq_true p228
                                replace q228 := eq_true q228
                                go_wp2
                                go_loopg [13] k4 (fun kq v13 w' => ∃ (x13_5 : Int), v13 = .int .i64 x13_5 ∧ Aside0 (taquinlaw35_StockFirst.l2 kq l1 t216 t218 x8_4 x9_3 x10_4 x13_5 l0_0 l0_1 l0_2 = some r) ∧ Aside0 (kq ≤ k4) ∧ Aside0 (Kd.S (Kd.slice 36 k36) 34 w' w.heap.size (fun _ => True) (.slice (some ad228) t218.length co28) t218) ∧ Aside0 (Kd.R k38 38 w' w.heap.size (fun _ => True) v226 x8_4) ∧ Aside0 (w'.heap[gb215]? = some (.cells #[(.slice A0_0 l0_0.length c0_0), (.slice A0_1 l0_1.length c0_1), (.slice A0_2 l0_2.length c0_2)] 26 (0, 0))) ∧ Aside0 (Kd.C k36 w' A228_0 (rd_L10 t218 x9_3).length (rd_L10 t218 x9_3)) ∧ Aside0 (Below w.heap.size w w'))
                                case atStart => exact ⟨(0), (by first | rfl | (simp; done) | (simp [*]; done)), H', ⟨Nat.le_refl _⟩, ⟨by (with_reducible repeat (first | apply Kd.S_alloc | apply Kd.S_drewN | apply Kd.S_drew)); exact HO_6.out⟩, ⟨by (with_reducible repeat (first | apply Kd.R_alloc | apply Kd.R_drewN | apply Kd.R_drew)); exact HO_8.out⟩, ⟨by (with_reducible repeat (first | refine blk_drewN ?_ _ | refine blk_drew ?_ | refine blk_alloc ?_ _)); exact BK215.out⟩, ⟨by repeat (first | (with_reducible exact HR228_0.out) | (with_reducible refine Kd.C_alloc ?_ _) | (with_reducible refine Kd.C_drewN ?_ _) | (with_reducible refine Kd.C_drew ?_) | exact HR228_0.out)⟩, ⟨by repeat (first | (with_reducible first | exact HB.out | apply below_alloc | apply pw_below_drewN | apply below_drew1 | refine below_set ?_ GE215.out) | exact HB.out)⟩⟩
                                case round =>
                                  clear H'
                                  try clear c2
                                  try clear p2
                                  try clear q2
                                  try clear hx2
                                  try clear c3
                                  try clear c4
                                  try clear p4
                                  try clear q4
                                  try clear hx4
                                  try clear hf4
                                  try clear c5
                                  try clear c6
                                  try clear p6
                                  try clear c22
                                  try clear p22
                                  try clear q22
                                  try clear hx22
                                  try clear c23
                                  try clear p23
                                  try clear q23
                                  try clear hx23
                                  try clear c31
                                  try clear c31b0
                                  try clear c32
                                  try clear c37
                                  try clear c38
                                  try clear c39
                                  try clear c40
                                  try clear c41
                                  try clear c42
                                  try clear c43
                                  try clear p43
                                  try clear q43
                                  try clear hx43
                                  try clear hf43
                                  try clear c56
                                  try clear c57
                                  try clear c61
                                  try clear p64
                                  try clear hx228_0
                                  try clear hx231_0
                                  try clear hx231_1
                                  try clear hx231_2
                                  try clear hx232_0
                                  try clear hx233_0
                                  try clear hx233_1
                                  try clear hx235_0
                                  try clear hx235_1
                                  try clear hx235_2
                                  try clear hx236_0
                                  try clear hx236_1
                                  try clear hx236_2
                                  try clear hx237_0
                                  try clear hx237_1
                                  try clear hx237_2
                                  try clear hx238_0
                                  try clear hx238_1
                                  try clear hx238_2
                                  try clear hx43_0
                                  try clear hx43_1
                                  try clear hx43_2
                                  try clear p228
                                  try clear p231
                                  try clear p232
                                  try clear p233
                                  try clear p235
                                  try clear p236
                                  try clear p237
                                  try clear p238
                                  try clear p43
                                  try clear q228
                                  try clear q231
                                  try clear q232
                                  try clear q233
                                  try clear q235
                                  try clear q236
                                  try clear q237
                                  try clear q238
                                  try clear q43
                                  obtain ⟨x13_5, rfl, HA, HK5, HO_6, HO_8, BK215, HR228_0, HB⟩ := hrel
                                  cases gk with
                                  | zero => exact absurd HA.out (by simp [taquinlaw35_StockFirst.l2])
                                  | succ k5 =>
                                    have H := HA.out
                                    clear HA
                                    simp only [taquinlaw35_StockFirst.l2] at H
                                    by_cases c65 : x13_5 < (x8_4.length : Int)
                                    · rw [if_pos c65] at H
                                      have c65b0 : decide (x13_5 < (x8_4.length : Int)) = true := decide_eq_true c65
                                      clear c65
                                      have HC66 := Aside0.mk H
                                      clear H
                                      obtain ⟨Ao67, co67, eo67⟩ := Kd.R_slice HO_8.out
                                      subst eo67
                                      go_upto_region 25 with (fail)
                                      go_cut [153] (fun v153 wc => ∃ (kq : Nat) (x153_65 : Bool), v153 = .bool x153_65 ∧ Aside0 (taquinlaw35_StockFirst.j6 kq l1 t216 t218 x8_4 x9_3 x10_4 x13_5 x153_65 l0_0 l0_1 l0_2 = some r) ∧ Aside0 (kq ≤ k5) ∧ Aside0 (Kd.S (Kd.slice 36 k36) 34 wc w.heap.size (fun _ => True) (.slice (some ad228) t218.length co28) t218) ∧ Aside0 (Kd.R k38 38 wc w.heap.size (fun _ => True) (.slice Ao67 x8_4.length co67) x8_4) ∧ Aside0 (wc.heap[gb215]? = some (.cells #[(.slice A0_0 l0_0.length c0_0), (.slice A0_1 l0_1.length c0_1), (.slice A0_2 l0_2.length c0_2)] 26 (0, 0))) ∧ Aside0 (Kd.C k36 wc A228_0 (rd_L10 t218 x9_3).length (rd_L10 t218 x9_3)) ∧ Aside0 (Below w.heap.size w wc))
                                      case first =>
                                        have H := HC66.out
                                        clear HC66
                                        by_cases c68 : 0 ≤ x13_5
                                        · rw [if_pos c68] at H
                                          have c68b0 : decide (0 ≤ x13_5) = true := decide_eq_true c68
                                          clear c68
                                          (first | rw [c68b0] | (simp only [i64_w, i32_w]; rw [c68b0]) | skip)
                                          by_cases c69 : 0 ≤ x9_3
                                          · rw [if_pos c69] at H
                                            have c69b0 : decide (0 ≤ x9_3) = true := decide_eq_true c69
                                            clear c69
                                            by_cases c70 : x9_3 < (l1.length : Int)
                                            · rw [if_pos c70] at H
                                              have c70b0 : decide (x9_3 < (l1.length : Int)) = true := decide_eq_true c70
                                              clear c70
                                              replace H := Option.bind_eq_some_iff.mp H
                                              obtain ⟨t241, A710, H⟩ := H
                                              replace H : (if t241 = true then (taquinlaw35_StockFirst.j6 k5 l1 t216 t218 x8_4 x9_3 x10_4 x13_5 (decide (((rd_T38 x8_4 x13_5).f1) > 0)) l0_0 l0_1 l0_2) else (taquinlaw35_StockFirst.j6 k5 l1 t216 t218 x8_4 x9_3 x10_4 x13_5 false l0_0 l0_1 l0_2)) = some r := H
                                              have A71 := Aside0.mk A710
                                              clear A710
                                              by_cases c72 : t241 = true
                                              · subst c72
                                                have H1 : (taquinlaw35_StockFirst.j6 k5 l1 t216 t218 x8_4 x9_3 x10_4 x13_5 (decide (((rd_T38 x8_4 x13_5).f1) > 0)) l0_0 l0_1 l0_2) = some r := by rw [if_pos rfl] at H; exact H
                                                clear H
                                                have H := H1
                                                clear H1
                                                have H' := Aside0.mk H
                                                clear H
                                                try go_wp2
                                                have n0_ := Aside0.mk (Kd.S_drew HO_6.out)
                                                have n1_ := Aside0.mk (Kd.R_drew HO_8.out)
                                                have n2_ := Aside0.mk (blk_drew BK215.out)
                                                have n3_ := Aside0.mk (Kd.C_drew HR228_0.out)
                                                have n4_ := Aside0.mk (below_drew1 HB.out)
                                                clear HO_6
                                                clear HO_8
                                                clear BK215
                                                clear HR228_0
                                                clear HB
                                                have HO_6 := n0_
                                                have HO_8 := n1_
                                                have BK215 := n2_
                                                have HR228_0 := n3_
                                                have HB := n4_
                                                clear n0_ n1_ n2_ n3_ n4_
                                                have p239 : 0 ≤ (x13_5 : Int) := of_decide_eq_true (by first | (with_reducible assumption) | assumption)
                                                have q239 : x13_5 < (x8_4.length : Int) := of_decide_eq_true (by first | (with_reducible assumption) | assumption)
                                                obtain ⟨ad239, e239, hx239_0, hx239_1, hx239_2⟩ := at_T38 (Kd.R_reads' HO_8.out).2.2 x13_5 p239 q239
                                                cases e239
                                                replace p239 := eq_true p239
                                                replace q239 := eq_true q239
                                                have p240 : 0 ≤ (x9_3 : Int) := of_decide_eq_true (by first | (with_reducible assumption) | assumption)
                                                have q240 : x9_3 < (l1.length : Int) := of_decide_eq_true (by first | (with_reducible assumption) | assumption)
                                                obtain ⟨ad240, e240, hx240_0, hx240_1, hx240_2⟩ := at_T43 HR1.out x9_3 p240 q240
                                                have hw240_2 := hx240_2
                                                have hw240_1 := hx240_1
                                                have hw240_0 := hx240_0
                                                cases e240
                                                replace hx240_0 := (HB.out.cell (World.block_lt_of_cell? w _ hx240_0)).trans hx240_0
                                                replace hx240_1 := (HB.out.cell (World.block_lt_of_cell? w _ hx240_1)).trans hx240_1
                                                replace hx240_2 := (HB.out.cell (World.block_lt_of_cell? w _ hx240_2)).trans hx240_2
                                                replace p240 := eq_true p240
                                                replace q240 := eq_true q240
                                                have p242 : 0 ≤ (x13_5 : Int) := of_decide_eq_true (by first | (with_reducible assumption) | assumption)
                                                have q242 : x13_5 < (x8_4.length : Int) := of_decide_eq_true (by first | (with_reducible assumption) | assumption)
                                                obtain ⟨ad242, e242, hx242_0, hx242_1, hx242_2⟩ := at_T38 (Kd.R_reads' HO_8.out).2.2 x13_5 p242 q242
                                                obtain rfl : ad239 = ad242 := (by injection e242)
                                                replace p242 := eq_true p242
                                                replace q242 := eq_true q242
                                                refine start_ (n := 19) (S := fun w' => w'.cell? ⟨gb215, 0, none⟩ = some (.slice A0_0 l0_0.length c0_0) ∧ w'.cell? ⟨gb215, 1, none⟩ = some (.slice A0_1 l0_1.length c0_1) ∧ w'.cell? ⟨gb215, 2, none⟩ = some (.slice A0_2 l0_2.length c0_2) ∧ w'.cell? (ad239.add ((x13_5).toNat * 3)) = some (.int .i64 ((rd_T38 x8_4 x13_5).f0)) ∧ w'.cell? ⟨(ad239.add ((x13_5).toNat * 3)).block, (ad239.add ((x13_5).toNat * 3)).off + 1, none⟩ = some (.int .i64 ((rd_T38 x8_4 x13_5).f1)) ∧ w'.cell? ⟨(ad239.add ((x13_5).toNat * 3)).block, (ad239.add ((x13_5).toNat * 3)).off + 2, none⟩ = some (.int .i64 ((rd_T38 x8_4 x13_5).f2)) ∧ w'.cell? (ad240.add ((x9_3).toNat * 3)) = some (.int .i64 ((rd_T43 l1 x9_3).f0)) ∧ w'.cell? ⟨(ad240.add ((x9_3).toNat * 3)).block, (ad240.add ((x9_3).toNat * 3)).off + 1, none⟩ = some (.int .i64 ((rd_T43 l1 x9_3).f1)) ∧ w'.cell? ⟨(ad240.add ((x9_3).toNat * 3)).block, (ad240.add ((x9_3).toNat * 3)).off + 2, none⟩ = some (.int .i64 ((rd_T43 l1 x9_3).f2)) ∧ w'.cell? (ad239.add ((x13_5).toNat * 3)) = some (.int .i64 ((rd_T38 x8_4 x13_5).f0)) ∧ w'.cell? ⟨(ad239.add ((x13_5).toNat * 3)).block, (ad239.add ((x13_5).toNat * 3)).off + 1, none⟩ = some (.int .i64 ((rd_T38 x8_4 x13_5).f1)) ∧ w'.cell? ⟨(ad239.add ((x13_5).toNat * 3)).block, (ad239.add ((x13_5).toNat * 3)).off + 2, none⟩ = some (.int .i64 ((rd_T38 x8_4 x13_5).f2))) (ds := []) #[false, false, false, false, false, false, false, false, false, false, false, false, false, false, false, false, false, false, false] (by kernel_rfl) rfl rfl ⟨(blk_cell BK215.out 0).trans rfl, (blk_cell BK215.out 1).trans rfl, (blk_cell BK215.out 2).trans rfl, hx239_0, hx239_1, hx239_2, ((HB.out.cell (World.block_lt_of_cell? w _ hw240_0)).trans hw240_0), ((HB.out.cell (World.block_lt_of_cell? w _ hw240_1)).trans hw240_1), ((HB.out.cell (World.block_lt_of_cell? w _ hw240_2)).trans hw240_2), hx242_0, hx242_1, hx242_2⟩ (fun hHeld => ?_); refine with_tabW taquinlaw35_StockFirst.tab25 taquinlaw35_StockFirst.bits25 (fun HT_ HW_ => ?_)
                                                generalize wr.drew = w73 at HO_6 HO_8 BK215 HR228_0 HB hx239_0 hx239_1 hx239_2 hx240_0 hx240_1 hx240_2 hx242_0 hx242_1 hx242_2 hHeld ⊢
                                                refine pu 0 135 19 1 rfl rfl HT_ ?_
                                                refine pu 2 137 19 5 rfl rfl HT_ ?_
                                                refine pu 3 138 19 13 rfl rfl HT_ ?_
                                                refine pu 4 139 19 29 rfl rfl HT_ ?_
                                                refine pu 6 141 19 93 rfl rfl HT_ ?_
                                                refine pu 7 142 19 221 rfl rfl HT_ ?_
                                                refine pu 8 143 19 477 rfl rfl HT_ ?_
                                                refine ta12 1 136 19 479 rfl rfl HT_ HW_ hHeld ?_
                                                refine ta12 5 140 19 511 rfl rfl HT_ HW_ hHeld ?_
                                                refine ta12 9 144 19 1023 rfl rfl HT_ HW_ hHeld ?_
                                                refine one_ (i := 10) (N := some 145) #[true, true, true, true, true, true, true, true, true, true, true, false, false, false, false, false, false, false, false] rfl rfl (one_of HT_.out (by kernel_rfl)) (by decide) (fun K hK => ?_)
                                                refine goes_ Try.func10 (by kernel_rfl) rfl #[.slice A0_1 l0_1.length c0_1, .agg #[.int .i64 ((rd_T38 x8_4 x13_5).f0), .int .i64 ((rd_T38 x8_4 x13_5).f1), .int .i64 ((rd_T38 x8_4 x13_5).f2)], .agg #[.int .i64 ((rd_T43 l1 x9_3).f0), .int .i64 ((rd_T43 l1 x9_3).f1), .int .i64 ((rd_T43 l1 x9_3).f2)]] (by rfl) rfl rfl (by (try simp only [List.map_toArray, List.map_cons, List.map_nil]); first | done | rfl | (simp only [List.length_drop, List.length_take]; rfl)) ?_
                                                with_reducible refine (taquinref35_Has.calls _ _ l0_1 ((rd_T38 x8_4 x13_5).f0) ((rd_T38 x8_4 x13_5).f1) ((rd_T38 x8_4 x13_5).f2) ((rd_T43 l1 x9_3).f0) ((rd_T43 l1 x9_3).f1) ((rd_T43 l1 x9_3).f2) true _ ?side1 ?side2 A71.out).mono ?_
                                                (case side1 => repeat (first | exact (Kd.C_below HR0_1.out HB.out) | (with_reducible refine Kd.C_alloc ?_ _) | (with_reducible refine Kd.C_drewN ?_ _) | (with_reducible refine Kd.C_drew ?_)))
                                                (case side2 => exact HC0_1.out)
                                                rintro e w74 ⟨rfl, hb⟩
                                                have HS3_ := (hb.cell (World.block_lt_of_cell? _ _ (hHeld.2.2.2.1))).trans (hHeld.2.2.2.1)
                                                have HS4_ := (hb.cell (World.block_lt_of_cell? _ _ (hHeld.2.2.2.2.1))).trans (hHeld.2.2.2.2.1)
                                                have HS5_ := (hb.cell (World.block_lt_of_cell? _ _ (hHeld.2.2.2.2.2.1))).trans (hHeld.2.2.2.2.2.1)
                                                have HS9_ := (hb.cell (World.block_lt_of_cell? _ _ (hHeld.2.2.2.2.2.2.2.2.2.1))).trans (hHeld.2.2.2.2.2.2.2.2.2.1)
                                                have HS10_ := (hb.cell (World.block_lt_of_cell? _ _ (hHeld.2.2.2.2.2.2.2.2.2.2.1))).trans (hHeld.2.2.2.2.2.2.2.2.2.2.1)
                                                have HS11_ := (hb.cell (World.block_lt_of_cell? _ _ (hHeld.2.2.2.2.2.2.2.2.2.2.2))).trans (hHeld.2.2.2.2.2.2.2.2.2.2.2)
                                                refine ⟨_, rfl, ?_⟩
                                                have n0_ := Aside0.mk (Kd.S_below (by (with_reducible repeat (first | apply Kd.S_alloc | apply Kd.S_drewN | apply Kd.S_drew)); exact HO_6.out) hb)
                                                have n1_ := Aside0.mk (Kd.R_below (by (with_reducible repeat (first | apply Kd.R_alloc | apply Kd.R_drewN | apply Kd.R_drew)); exact HO_8.out) hb)
                                                have n2_ := Aside0.mk (blk_below (g := gb215) (o := .cells #[.slice A0_0 l0_0.length c0_0, .slice A0_1 l0_1.length c0_1, .slice A0_2 l0_2.length c0_2] 26 (0, 0)) (by (with_reducible repeat (first | refine blk_drewN ?_ _ | refine blk_drew ?_ | refine blk_alloc ?_ _)); exact BK215.out) hb)
                                                have n3_ := Aside0.mk (Kd.C_below (by repeat (first | (with_reducible exact HR228_0.out) | (with_reducible refine Kd.C_alloc ?_ _) | (with_reducible refine Kd.C_drewN ?_ _) | (with_reducible refine Kd.C_drew ?_) | exact HR228_0.out)) hb)
                                                have n4_ := Aside0.mk (below_step (by repeat (first | (with_reducible first | exact HB.out | apply below_alloc | apply pw_below_drewN | apply below_drew1 | refine below_set ?_ GE215.out) | exact HB.out)) hb)
                                                clear HO_6
                                                clear HO_8
                                                clear BK215
                                                clear HR228_0
                                                clear HB
                                                have HO_6 := n0_
                                                have HO_8 := n1_
                                                have BK215 := n2_
                                                have HR228_0 := n3_
                                                have HB := n4_
                                                clear n0_ n1_ n2_ n3_ n4_
                                                (try clear hb)
                                                (try clear hb2)
                                                (try clear hk)
                                                (try clear hi)
                                                refine hK.out _ _ ⟨(blk_cell BK215.out 0).trans rfl, (blk_cell BK215.out 1).trans rfl, (blk_cell BK215.out 2).trans rfl, HS3_, HS4_, HS5_, ((HB.out.cell (World.block_lt_of_cell? w _ hw240_0)).trans hw240_0), ((HB.out.cell (World.block_lt_of_cell? w _ hw240_1)).trans hw240_1), ((HB.out.cell (World.block_lt_of_cell? w _ hw240_2)).trans hw240_2), HS9_, HS10_, HS11_⟩ (fun hHeld => ?_)
                                                clear hK K
                                                refine norm_ (a' := ?_) ?_ ?_
                                                rotate_left
                                                · show Act.put _ (some 145) _ = _
                                                  simp only [Act.put, List.setIfInBounds_toArray, List.set_cons_zero, List.set_cons_succ, i64_w, i32_w]
                                                  rfl
                                                refine pu 11 146 19 4095 rfl rfl HT_ ?_
                                                refine pu 12 147 19 8191 rfl rfl HT_ ?_
                                                refine pu 13 148 19 16383 rfl rfl HT_ ?_
                                                refine pu 14 149 19 32767 rfl rfl HT_ ?_
                                                refine pu 15 150 19 65535 rfl rfl HT_ ?_
                                                refine ta12 16 151 19 131071 rfl rfl HT_ HW_ hHeld ?_
                                                refine pu 17 152 19 262143 rfl rfl HT_ ?_
                                                refine pu 18 153 19 524287 rfl rfl HT_ ?_
                                                refine done_ (done_of HT_.out (by kernel_rfl)) ?_
                                                try go_wp2
                                                go_meet
                                                case rel => exact ⟨_, (decide (((rd_T38 x8_4 x13_5).f1) > 0)), (by first | rfl | (simp; done) | (simp [*]; done)), H', ⟨by have := HJ3.out; have := HJ14.out; have := HK3.out; have := HK4.out; have := HK5.out; first | omega | exact Nat.le_refl _⟩, ⟨by (with_reducible repeat (first | apply Kd.S_alloc | apply Kd.S_drewN | apply Kd.S_drew)); exact HO_6.out⟩, ⟨by (with_reducible repeat (first | apply Kd.R_alloc | apply Kd.R_drewN | apply Kd.R_drew)); exact HO_8.out⟩, ⟨by (with_reducible repeat (first | refine blk_drewN ?_ _ | refine blk_drew ?_ | refine blk_alloc ?_ _)); exact BK215.out⟩, ⟨by repeat (first | (with_reducible exact HR228_0.out) | (with_reducible refine Kd.C_alloc ?_ _) | (with_reducible refine Kd.C_drewN ?_ _) | (with_reducible refine Kd.C_drew ?_) | exact HR228_0.out)⟩, ⟨by repeat (first | (with_reducible first | exact HB.out | apply below_alloc | apply pw_below_drewN | apply below_drew1 | refine below_set ?_ GE215.out) | exact HB.out)⟩⟩
                                              · replace c72 := Bool.eq_false_iff.mpr c72
                                                subst c72
                                                have H1 : (taquinlaw35_StockFirst.j6 k5 l1 t216 t218 x8_4 x9_3 x10_4 x13_5 false l0_0 l0_1 l0_2) = some r := by rw [if_neg (show ¬ (false = true) by decide)] at H; exact H
                                                clear H
                                                have H := H1
                                                clear H1
                                                have H' := Aside0.mk H
                                                clear H
                                                try go_wp2
                                                have n0_ := Aside0.mk (Kd.S_drew HO_6.out)
                                                have n1_ := Aside0.mk (Kd.R_drew HO_8.out)
                                                have n2_ := Aside0.mk (blk_drew BK215.out)
                                                have n3_ := Aside0.mk (Kd.C_drew HR228_0.out)
                                                have n4_ := Aside0.mk (below_drew1 HB.out)
                                                clear HO_6
                                                clear HO_8
                                                clear BK215
                                                clear HR228_0
                                                clear HB
                                                have HO_6 := n0_
                                                have HO_8 := n1_
                                                have BK215 := n2_
                                                have HR228_0 := n3_
                                                have HB := n4_
                                                clear n0_ n1_ n2_ n3_ n4_
                                                have p239 : 0 ≤ (x13_5 : Int) := of_decide_eq_true (by first | (with_reducible assumption) | assumption)
                                                have q239 : x13_5 < (x8_4.length : Int) := of_decide_eq_true (by first | (with_reducible assumption) | assumption)
                                                obtain ⟨ad239, e239, hx239_0, hx239_1, hx239_2⟩ := at_T38 (Kd.R_reads' HO_8.out).2.2 x13_5 p239 q239
                                                cases e239
                                                replace p239 := eq_true p239
                                                replace q239 := eq_true q239
                                                have p240 : 0 ≤ (x9_3 : Int) := of_decide_eq_true (by first | (with_reducible assumption) | assumption)
                                                have q240 : x9_3 < (l1.length : Int) := of_decide_eq_true (by first | (with_reducible assumption) | assumption)
                                                obtain ⟨ad240, e240, hx240_0, hx240_1, hx240_2⟩ := at_T43 HR1.out x9_3 p240 q240
                                                have hw240_2 := hx240_2
                                                have hw240_1 := hx240_1
                                                have hw240_0 := hx240_0
                                                cases e240
                                                replace hx240_0 := (HB.out.cell (World.block_lt_of_cell? w _ hx240_0)).trans hx240_0
                                                replace hx240_1 := (HB.out.cell (World.block_lt_of_cell? w _ hx240_1)).trans hx240_1
                                                replace hx240_2 := (HB.out.cell (World.block_lt_of_cell? w _ hx240_2)).trans hx240_2
                                                replace p240 := eq_true p240
                                                replace q240 := eq_true q240
                                                refine start_ (n := 19) (S := fun w' => w'.cell? ⟨gb215, 0, none⟩ = some (.slice A0_0 l0_0.length c0_0) ∧ w'.cell? ⟨gb215, 1, none⟩ = some (.slice A0_1 l0_1.length c0_1) ∧ w'.cell? ⟨gb215, 2, none⟩ = some (.slice A0_2 l0_2.length c0_2) ∧ w'.cell? (ad239.add ((x13_5).toNat * 3)) = some (.int .i64 ((rd_T38 x8_4 x13_5).f0)) ∧ w'.cell? ⟨(ad239.add ((x13_5).toNat * 3)).block, (ad239.add ((x13_5).toNat * 3)).off + 1, none⟩ = some (.int .i64 ((rd_T38 x8_4 x13_5).f1)) ∧ w'.cell? ⟨(ad239.add ((x13_5).toNat * 3)).block, (ad239.add ((x13_5).toNat * 3)).off + 2, none⟩ = some (.int .i64 ((rd_T38 x8_4 x13_5).f2)) ∧ w'.cell? (ad240.add ((x9_3).toNat * 3)) = some (.int .i64 ((rd_T43 l1 x9_3).f0)) ∧ w'.cell? ⟨(ad240.add ((x9_3).toNat * 3)).block, (ad240.add ((x9_3).toNat * 3)).off + 1, none⟩ = some (.int .i64 ((rd_T43 l1 x9_3).f1)) ∧ w'.cell? ⟨(ad240.add ((x9_3).toNat * 3)).block, (ad240.add ((x9_3).toNat * 3)).off + 2, none⟩ = some (.int .i64 ((rd_T43 l1 x9_3).f2))) (ds := []) #[false, false, false, false, false, false, false, false, false, false, false, false, false, false, false, false, false, false, false] (by kernel_rfl) rfl rfl ⟨(blk_cell BK215.out 0).trans rfl, (blk_cell BK215.out 1).trans rfl, (blk_cell BK215.out 2).trans rfl, hx239_0, hx239_1, hx239_2, ((HB.out.cell (World.block_lt_of_cell? w _ hw240_0)).trans hw240_0), ((HB.out.cell (World.block_lt_of_cell? w _ hw240_1)).trans hw240_1), ((HB.out.cell (World.block_lt_of_cell? w _ hw240_2)).trans hw240_2)⟩ (fun hHeld => ?_); refine with_tabW taquinlaw35_StockFirst.tab25 taquinlaw35_StockFirst.bits25 (fun HT_ HW_ => ?_)
                                                generalize wr.drew = w75 at HO_6 HO_8 BK215 HR228_0 HB hx239_0 hx239_1 hx239_2 hx240_0 hx240_1 hx240_2 hHeld ⊢
                                                refine pu 0 135 19 1 rfl rfl HT_ ?_
                                                refine pu 2 137 19 5 rfl rfl HT_ ?_
                                                refine pu 3 138 19 13 rfl rfl HT_ ?_
                                                refine pu 4 139 19 29 rfl rfl HT_ ?_
                                                refine pu 6 141 19 93 rfl rfl HT_ ?_
                                                refine pu 7 142 19 221 rfl rfl HT_ ?_
                                                refine pu 8 143 19 477 rfl rfl HT_ ?_
                                                refine ta9 1 136 19 479 rfl rfl HT_ HW_ hHeld ?_
                                                refine ta9 5 140 19 511 rfl rfl HT_ HW_ hHeld ?_
                                                refine ta9 9 144 19 1023 rfl rfl HT_ HW_ hHeld ?_
                                                refine one_ (i := 10) (N := some 145) #[true, true, true, true, true, true, true, true, true, true, true, false, false, false, false, false, false, false, false] rfl rfl (one_of HT_.out (by kernel_rfl)) (by decide) (fun K hK => ?_)
                                                refine goes_ Try.func10 (by kernel_rfl) rfl #[.slice A0_1 l0_1.length c0_1, .agg #[.int .i64 ((rd_T38 x8_4 x13_5).f0), .int .i64 ((rd_T38 x8_4 x13_5).f1), .int .i64 ((rd_T38 x8_4 x13_5).f2)], .agg #[.int .i64 ((rd_T43 l1 x9_3).f0), .int .i64 ((rd_T43 l1 x9_3).f1), .int .i64 ((rd_T43 l1 x9_3).f2)]] (by rfl) rfl rfl (by (try simp only [List.map_toArray, List.map_cons, List.map_nil]); first | done | rfl | (simp only [List.length_drop, List.length_take]; rfl)) ?_
                                                with_reducible refine (taquinref35_Has.calls _ _ l0_1 ((rd_T38 x8_4 x13_5).f0) ((rd_T38 x8_4 x13_5).f1) ((rd_T38 x8_4 x13_5).f2) ((rd_T43 l1 x9_3).f0) ((rd_T43 l1 x9_3).f1) ((rd_T43 l1 x9_3).f2) false _ ?side1 ?side2 A71.out).mono ?_
                                                (case side1 => repeat (first | exact (Kd.C_below HR0_1.out HB.out) | (with_reducible refine Kd.C_alloc ?_ _) | (with_reducible refine Kd.C_drewN ?_ _) | (with_reducible refine Kd.C_drew ?_)))
                                                (case side2 => exact HC0_1.out)
                                                rintro e w76 ⟨rfl, hb⟩
                                                have HS3_ := (hb.cell (World.block_lt_of_cell? _ _ (hHeld.2.2.2.1))).trans (hHeld.2.2.2.1)
                                                have HS4_ := (hb.cell (World.block_lt_of_cell? _ _ (hHeld.2.2.2.2.1))).trans (hHeld.2.2.2.2.1)
                                                have HS5_ := (hb.cell (World.block_lt_of_cell? _ _ (hHeld.2.2.2.2.2.1))).trans (hHeld.2.2.2.2.2.1)
                                                refine ⟨_, rfl, ?_⟩
                                                have n0_ := Aside0.mk (Kd.S_below (by (with_reducible repeat (first | apply Kd.S_alloc | apply Kd.S_drewN | apply Kd.S_drew)); exact HO_6.out) hb)
                                                have n1_ := Aside0.mk (Kd.R_below (by (with_reducible repeat (first | apply Kd.R_alloc | apply Kd.R_drewN | apply Kd.R_drew)); exact HO_8.out) hb)
                                                have n2_ := Aside0.mk (blk_below (g := gb215) (o := .cells #[.slice A0_0 l0_0.length c0_0, .slice A0_1 l0_1.length c0_1, .slice A0_2 l0_2.length c0_2] 26 (0, 0)) (by (with_reducible repeat (first | refine blk_drewN ?_ _ | refine blk_drew ?_ | refine blk_alloc ?_ _)); exact BK215.out) hb)
                                                have n3_ := Aside0.mk (Kd.C_below (by repeat (first | (with_reducible exact HR228_0.out) | (with_reducible refine Kd.C_alloc ?_ _) | (with_reducible refine Kd.C_drewN ?_ _) | (with_reducible refine Kd.C_drew ?_) | exact HR228_0.out)) hb)
                                                have n4_ := Aside0.mk (below_step (by repeat (first | (with_reducible first | exact HB.out | apply below_alloc | apply pw_below_drewN | apply below_drew1 | refine below_set ?_ GE215.out) | exact HB.out)) hb)
                                                clear HO_6
                                                clear HO_8
                                                clear BK215
                                                clear HR228_0
                                                clear HB
                                                have HO_6 := n0_
                                                have HO_8 := n1_
                                                have BK215 := n2_
                                                have HR228_0 := n3_
                                                have HB := n4_
                                                clear n0_ n1_ n2_ n3_ n4_
                                                (try clear hb)
                                                (try clear hb2)
                                                (try clear hk)
                                                (try clear hi)
                                                refine hK.out _ _ ⟨(blk_cell BK215.out 0).trans rfl, (blk_cell BK215.out 1).trans rfl, (blk_cell BK215.out 2).trans rfl, HS3_, HS4_, HS5_, ((HB.out.cell (World.block_lt_of_cell? w _ hw240_0)).trans hw240_0), ((HB.out.cell (World.block_lt_of_cell? w _ hw240_1)).trans hw240_1), ((HB.out.cell (World.block_lt_of_cell? w _ hw240_2)).trans hw240_2)⟩ (fun hHeld => ?_)
                                                clear hK K
                                                refine norm_ (a' := ?_) ?_ ?_
                                                rotate_left
                                                · show Act.put _ (some 145) _ = _
                                                  simp only [Act.put, List.setIfInBounds_toArray, List.set_cons_zero, List.set_cons_succ, i64_w, i32_w]
                                                  rfl
                                                refine pu 11 146 19 4095 rfl rfl HT_ ?_
                                                refine pun 12 147 19 8191 rfl rfl HT_ ?_
                                                refine pun 13 148 19 16383 rfl rfl HT_ ?_
                                                refine pun 14 149 19 32767 rfl rfl HT_ ?_
                                                refine pun 15 150 19 65535 rfl rfl HT_ ?_
                                                refine pun 16 151 19 131071 rfl rfl HT_ ?_
                                                refine pun 17 152 19 262143 rfl rfl HT_ ?_
                                                refine pu 18 153 19 524287 rfl rfl HT_ ?_
                                                refine done_ (done_of HT_.out (by kernel_rfl)) ?_
                                                try go_wp2
                                                go_meet
                                                case rel => exact ⟨_, (false), (by first | rfl | (simp; done) | (simp [*]; done)), H', ⟨by have := HJ3.out; have := HJ14.out; have := HK3.out; have := HK4.out; have := HK5.out; first | omega | exact Nat.le_refl _⟩, ⟨by (with_reducible repeat (first | apply Kd.S_alloc | apply Kd.S_drewN | apply Kd.S_drew)); exact HO_6.out⟩, ⟨by (with_reducible repeat (first | apply Kd.R_alloc | apply Kd.R_drewN | apply Kd.R_drew)); exact HO_8.out⟩, ⟨by (with_reducible repeat (first | refine blk_drewN ?_ _ | refine blk_drew ?_ | refine blk_alloc ?_ _)); exact BK215.out⟩, ⟨by repeat (first | (with_reducible exact HR228_0.out) | (with_reducible refine Kd.C_alloc ?_ _) | (with_reducible refine Kd.C_drewN ?_ _) | (with_reducible refine Kd.C_drew ?_) | exact HR228_0.out)⟩, ⟨by repeat (first | (with_reducible first | exact HB.out | apply below_alloc | apply pw_below_drewN | apply below_drew1 | refine below_set ?_ GE215.out) | exact HB.out)⟩⟩
                                            · rw [if_neg c70] at H
                                              exact absurd H (by simp)
                                          · rw [if_neg c69] at H
                                            exact absurd H (by simp)
                                        · rw [if_neg c68] at H
                                          exact absurd H (by simp)
                                      case rest =>
                                        clear HC66
                                        try clear c1
                                        try clear c2
                                        try clear p2
                                        try clear q2
                                        try clear hx2
                                        try clear c3
                                        try clear c4
                                        try clear p4
                                        try clear q4
                                        try clear hx4
                                        try clear hf4
                                        try clear c5
                                        try clear c6
                                        try clear p6
                                        try clear c7
                                        try clear c10
                                        try clear c22
                                        try clear p22
                                        try clear q22
                                        try clear hx22
                                        try clear c23
                                        try clear p23
                                        try clear q23
                                        try clear hx23
                                        try clear p24
                                        try clear q24
                                        try clear hx24
                                        try clear c31
                                        try clear c31b0
                                        try clear c32
                                        try clear c37
                                        try clear c38
                                        try clear c39
                                        try clear c40
                                        try clear c41
                                        try clear c42
                                        try clear c43
                                        try clear p43
                                        try clear q43
                                        try clear hx43
                                        try clear hf43
                                        try clear c56
                                        try clear c57
                                        try clear c61
                                        try clear p64
                                        try clear c65
                                        try clear c65b0
                                        try clear c68
                                        try clear c68b0
                                        try clear c69
                                        try clear c69b0
                                        try clear c70
                                        try clear c70b0
                                        try clear c72
                                        try clear hx228_0
                                        try clear hx231_0
                                        try clear hx231_1
                                        try clear hx231_2
                                        try clear hx232_0
                                        try clear hx233_0
                                        try clear hx233_1
                                        try clear hx235_0
                                        try clear hx235_1
                                        try clear hx235_2
                                        try clear hx236_0
                                        try clear hx236_1
                                        try clear hx236_2
                                        try clear hx237_0
                                        try clear hx237_1
                                        try clear hx237_2
                                        try clear hx238_0
                                        try clear hx238_1
                                        try clear hx238_2
                                        try clear hx239_0
                                        try clear hx239_1
                                        try clear hx239_2
                                        try clear hx240_0
                                        try clear hx240_1
                                        try clear hx240_2
                                        try clear hx242_0
                                        try clear hx242_1
                                        try clear hx242_2
                                        try clear hx43_0
                                        try clear hx43_1
                                        try clear hx43_2
                                        try clear p2
                                        try clear p22
                                        try clear p228
                                        try clear p23
                                        try clear p231
                                        try clear p232
                                        try clear p233
                                        try clear p235
                                        try clear p236
                                        try clear p237
                                        try clear p238
                                        try clear p239
                                        try clear p240
                                        try clear p242
                                        try clear p4
                                        try clear p43
                                        try clear p6
                                        try clear p64
                                        try clear q2
                                        try clear q22
                                        try clear q228
                                        try clear q23
                                        try clear q231
                                        try clear q232
                                        try clear q233
                                        try clear q235
                                        try clear q236
                                        try clear q237
                                        try clear q238
                                        try clear q239
                                        try clear q240
                                        try clear q242
                                        try clear q4
                                        try clear q43
                                        obtain ⟨kq, x153_65, rfl, HA, HJ65, HO_6, HO_8, BK215, HR228_0, HB⟩ := hcut
                                        cases kq with
                                        | zero => exact absurd HA.out (by simp [taquinlaw35_StockFirst.j6])
                                        | succ kj65 =>
                                          have H := HA.out
                                          clear HA
                                          simp only [taquinlaw35_StockFirst.j6] at H
                                          by_cases c77 : x153_65 = true
                                          · subst c77
                                            have H1 : (if 0 ≤ x13_5 then (if x13_5 < (x8_4.length : Int) then (if 0 ≤ ((rd_T38 x8_4 x13_5).f0) then (if ((rd_T38 x8_4 x13_5).f0) < (l0_1.length : Int) then (if ((rd_T40 l0_1 ((rd_T38 x8_4 x13_5).f0)).f1) < x10_4 then (some false) else (taquinlaw35_StockFirst.l2 kj65 l1 t216 t218 x8_4 x9_3 x10_4 (wrap64 (x13_5 + 1)) l0_0 l0_1 l0_2)) else (none)) else (none)) else (none)) else (none)) = some r := by rw [if_pos rfl] at H; exact H
                                            clear H
                                            have H := H1
                                            clear H1
                                            by_cases c78 : 0 ≤ x13_5
                                            · rw [if_pos c78] at H
                                              have c78b0 : decide (0 ≤ x13_5) = true := decide_eq_true c78
                                              clear c78
                                              by_cases c79 : x13_5 < (x8_4.length : Int)
                                              · rw [if_pos c79] at H
                                                have c79b0 : decide (x13_5 < (x8_4.length : Int)) = true := decide_eq_true c79
                                                clear c79
                                                by_cases c80 : 0 ≤ ((rd_T38 x8_4 x13_5).f0)
                                                · rw [if_pos c80] at H
                                                  have c80b0 : decide (0 ≤ ((rd_T38 x8_4 x13_5).f0)) = true := decide_eq_true c80
                                                  clear c80
                                                  by_cases c81 : ((rd_T38 x8_4 x13_5).f0) < (l0_1.length : Int)
                                                  · rw [if_pos c81] at H
                                                    have c81b0 : decide (((rd_T38 x8_4 x13_5).f0) < (l0_1.length : Int)) = true := decide_eq_true c81
                                                    clear c81
                                                    by_cases c82 : ((rd_T40 l0_1 ((rd_T38 x8_4 x13_5).f0)).f1) < x10_4
                                                    · rw [if_pos c82] at H
                                                      have c82b0 : decide (((rd_T40 l0_1 ((rd_T38 x8_4 x13_5).f0)).f1) < x10_4) = true := decide_eq_true c82
                                                      clear c82
                                                      obtain rfl := Option.some.inj H
                                                      try go_wp2
                                                      have n0_ := Aside0.mk (Kd.S_drew HO_6.out)
                                                      have n1_ := Aside0.mk (Kd.R_drew HO_8.out)
                                                      have n2_ := Aside0.mk (blk_drew BK215.out)
                                                      have n3_ := Aside0.mk (Kd.C_drew HR228_0.out)
                                                      have n4_ := Aside0.mk (below_drew1 HB.out)
                                                      clear HO_6
                                                      clear HO_8
                                                      clear BK215
                                                      clear HR228_0
                                                      clear HB
                                                      have HO_6 := n0_
                                                      have HO_8 := n1_
                                                      have BK215 := n2_
                                                      have HR228_0 := n3_
                                                      have HB := n4_
                                                      clear n0_ n1_ n2_ n3_ n4_
                                                      have p243 : 0 ≤ (x13_5 : Int) := of_decide_eq_true (by first | (with_reducible assumption) | assumption)
                                                      have q243 : x13_5 < (x8_4.length : Int) := of_decide_eq_true (by first | (with_reducible assumption) | assumption)
                                                      obtain ⟨ad243, e243, hx243_0, hx243_1, hx243_2⟩ := at_T38 (Kd.R_reads' HO_8.out).2.2 x13_5 p243 q243
                                                      cases e243
                                                      replace p243 := eq_true p243
                                                      replace q243 := eq_true q243
                                                      have p244 : 0 ≤ (((rd_T38 x8_4 x13_5).f0) : Int) := of_decide_eq_true (by first | (with_reducible assumption) | assumption)
                                                      have q244 : ((rd_T38 x8_4 x13_5).f0) < (l0_1.length : Int) := of_decide_eq_true (by first | (with_reducible assumption) | assumption)
                                                      obtain ⟨ad244, e244, hx244_0, hx244_1, hx244_2⟩ := at_T40 HR0_1.out ((rd_T38 x8_4 x13_5).f0) p244 q244
                                                      have hw244_2 := hx244_2
                                                      have hw244_1 := hx244_1
                                                      have hw244_0 := hx244_0
                                                      cases e244
                                                      replace hx244_0 := (HB.out.cell (World.block_lt_of_cell? w _ hx244_0)).trans hx244_0
                                                      replace hx244_1 := (HB.out.cell (World.block_lt_of_cell? w _ hx244_1)).trans hx244_1
                                                      replace hx244_2 := (HB.out.cell (World.block_lt_of_cell? w _ hx244_2)).trans hx244_2
                                                      replace p244 := eq_true p244
                                                      replace q244 := eq_true q244
                                                      refine start_ (n := 12) (S := fun w' => w'.cell? ⟨gb215, 0, none⟩ = some (.slice A0_0 l0_0.length c0_0) ∧ w'.cell? ⟨gb215, 1, none⟩ = some (.slice (some ad244) l0_1.length c0_1) ∧ w'.cell? ⟨gb215, 2, none⟩ = some (.slice A0_2 l0_2.length c0_2) ∧ w'.cell? (ad243.add ((x13_5).toNat * 3)) = some (.int .i64 ((rd_T38 x8_4 x13_5).f0)) ∧ w'.cell? ⟨(ad243.add ((x13_5).toNat * 3)).block, (ad243.add ((x13_5).toNat * 3)).off + 1, none⟩ = some (.int .i64 ((rd_T38 x8_4 x13_5).f1)) ∧ w'.cell? ⟨(ad243.add ((x13_5).toNat * 3)).block, (ad243.add ((x13_5).toNat * 3)).off + 2, none⟩ = some (.int .i64 ((rd_T38 x8_4 x13_5).f2)) ∧ w'.cell? (ad244.add ((((rd_T38 x8_4 x13_5).f0)).toNat * 3)) = some (.int .i64 ((rd_T40 l0_1 ((rd_T38 x8_4 x13_5).f0)).f0)) ∧ w'.cell? ⟨(ad244.add ((((rd_T38 x8_4 x13_5).f0)).toNat * 3)).block, (ad244.add ((((rd_T38 x8_4 x13_5).f0)).toNat * 3)).off + 1, none⟩ = some (.int .i64 ((rd_T40 l0_1 ((rd_T38 x8_4 x13_5).f0)).f1)) ∧ w'.cell? ⟨(ad244.add ((((rd_T38 x8_4 x13_5).f0)).toNat * 3)).block, (ad244.add ((((rd_T38 x8_4 x13_5).f0)).toNat * 3)).off + 2, none⟩ = some (.bool ((rd_T40 l0_1 ((rd_T38 x8_4 x13_5).f0)).f2))) (ds := []) #[false, false, false, false, false, false, false, false, false, false, false, false] (by kernel_rfl) rfl rfl ⟨(blk_cell BK215.out 0).trans rfl, (blk_cell BK215.out 1).trans rfl, (blk_cell BK215.out 2).trans rfl, hx243_0, hx243_1, hx243_2, ((HB.out.cell (World.block_lt_of_cell? w _ hw244_0)).trans hw244_0), ((HB.out.cell (World.block_lt_of_cell? w _ hw244_1)).trans hw244_1), ((HB.out.cell (World.block_lt_of_cell? w _ hw244_2)).trans hw244_2)⟩ (fun hHeld => ?_); refine with_tabW taquinlaw35_StockFirst.tab26 taquinlaw35_StockFirst.bits26 (fun HT_ HW_ => ?_)
                                                      generalize wc.drew = w83 at HO_6 HO_8 BK215 HR228_0 HB hx243_0 hx243_1 hx243_2 hx244_0 hx244_1 hx244_2 hHeld ⊢
                                                      refine pu 0 154 12 1 rfl rfl HT_ ?_
                                                      refine pu 2 156 12 5 rfl rfl HT_ ?_
                                                      refine pu 3 157 12 13 rfl rfl HT_ ?_
                                                      refine pu 4 158 12 29 rfl rfl HT_ ?_
                                                      refine pu 5 159 12 61 rfl rfl HT_ ?_
                                                      refine pu 10 164 12 1085 rfl rfl HT_ ?_
                                                      refine ta9 1 155 12 1087 rfl rfl HT_ HW_ hHeld ?_
                                                      refine ta9 6 160 12 1151 rfl rfl HT_ HW_ hHeld ?_
                                                      refine pu 7 161 12 1279 rfl rfl HT_ ?_
                                                      refine pu 8 162 12 1535 rfl rfl HT_ ?_
                                                      refine ta9 9 163 12 2047 rfl rfl HT_ HW_ hHeld ?_
                                                      refine pu 11 165 12 4095 rfl rfl HT_ ?_
                                                      refine done_ (done_of HT_.out (by kernel_rfl)) ?_
                                                      try go_wp2
                                                      go_ret
                                                      exact ⟨by first | rfl | (simp [errW_none, errW_some] <;> rfl) | (simp [*, errW_none, errW_some] <;> rfl), by repeat (first | (with_reducible first | exact HB.out | apply below_alloc | apply pw_below_drewN | apply below_drew1 | refine below_set ?_ GE215.out) | exact HB.out)⟩
                                                    · rw [if_neg c82] at H
                                                      have c82b0 : decide (((rd_T40 l0_1 ((rd_T38 x8_4 x13_5).f0)).f1) < x10_4) = false := decide_eq_false c82
                                                      clear c82
                                                      have H' := Aside0.mk H
                                                      clear H
                                                      try go_wp2
                                                      have n0_ := Aside0.mk (Kd.S_drew HO_6.out)
                                                      have n1_ := Aside0.mk (Kd.R_drew HO_8.out)
                                                      have n2_ := Aside0.mk (blk_drew BK215.out)
                                                      have n3_ := Aside0.mk (Kd.C_drew HR228_0.out)
                                                      have n4_ := Aside0.mk (below_drew1 HB.out)
                                                      clear HO_6
                                                      clear HO_8
                                                      clear BK215
                                                      clear HR228_0
                                                      clear HB
                                                      have HO_6 := n0_
                                                      have HO_8 := n1_
                                                      have BK215 := n2_
                                                      have HR228_0 := n3_
                                                      have HB := n4_
                                                      clear n0_ n1_ n2_ n3_ n4_
                                                      have p243 : 0 ≤ (x13_5 : Int) := of_decide_eq_true (by first | (with_reducible assumption) | assumption)
                                                      have q243 : x13_5 < (x8_4.length : Int) := of_decide_eq_true (by first | (with_reducible assumption) | assumption)
                                                      obtain ⟨ad243, e243, hx243_0, hx243_1, hx243_2⟩ := at_T38 (Kd.R_reads' HO_8.out).2.2 x13_5 p243 q243
                                                      cases e243
                                                      replace p243 := eq_true p243
                                                      replace q243 := eq_true q243
                                                      have p244 : 0 ≤ (((rd_T38 x8_4 x13_5).f0) : Int) := of_decide_eq_true (by first | (with_reducible assumption) | assumption)
                                                      have q244 : ((rd_T38 x8_4 x13_5).f0) < (l0_1.length : Int) := of_decide_eq_true (by first | (with_reducible assumption) | assumption)
                                                      obtain ⟨ad244, e244, hx244_0, hx244_1, hx244_2⟩ := at_T40 HR0_1.out ((rd_T38 x8_4 x13_5).f0) p244 q244
                                                      have hw244_2 := hx244_2
                                                      have hw244_1 := hx244_1
                                                      have hw244_0 := hx244_0
                                                      cases e244
                                                      replace hx244_0 := (HB.out.cell (World.block_lt_of_cell? w _ hx244_0)).trans hx244_0
                                                      replace hx244_1 := (HB.out.cell (World.block_lt_of_cell? w _ hx244_1)).trans hx244_1
                                                      replace hx244_2 := (HB.out.cell (World.block_lt_of_cell? w _ hx244_2)).trans hx244_2
                                                      replace p244 := eq_true p244
                                                      replace q244 := eq_true q244
                                                      refine start_ (n := 12) (S := fun w' => w'.cell? ⟨gb215, 0, none⟩ = some (.slice A0_0 l0_0.length c0_0) ∧ w'.cell? ⟨gb215, 1, none⟩ = some (.slice (some ad244) l0_1.length c0_1) ∧ w'.cell? ⟨gb215, 2, none⟩ = some (.slice A0_2 l0_2.length c0_2) ∧ w'.cell? (ad243.add ((x13_5).toNat * 3)) = some (.int .i64 ((rd_T38 x8_4 x13_5).f0)) ∧ w'.cell? ⟨(ad243.add ((x13_5).toNat * 3)).block, (ad243.add ((x13_5).toNat * 3)).off + 1, none⟩ = some (.int .i64 ((rd_T38 x8_4 x13_5).f1)) ∧ w'.cell? ⟨(ad243.add ((x13_5).toNat * 3)).block, (ad243.add ((x13_5).toNat * 3)).off + 2, none⟩ = some (.int .i64 ((rd_T38 x8_4 x13_5).f2)) ∧ w'.cell? (ad244.add ((((rd_T38 x8_4 x13_5).f0)).toNat * 3)) = some (.int .i64 ((rd_T40 l0_1 ((rd_T38 x8_4 x13_5).f0)).f0)) ∧ w'.cell? ⟨(ad244.add ((((rd_T38 x8_4 x13_5).f0)).toNat * 3)).block, (ad244.add ((((rd_T38 x8_4 x13_5).f0)).toNat * 3)).off + 1, none⟩ = some (.int .i64 ((rd_T40 l0_1 ((rd_T38 x8_4 x13_5).f0)).f1)) ∧ w'.cell? ⟨(ad244.add ((((rd_T38 x8_4 x13_5).f0)).toNat * 3)).block, (ad244.add ((((rd_T38 x8_4 x13_5).f0)).toNat * 3)).off + 2, none⟩ = some (.bool ((rd_T40 l0_1 ((rd_T38 x8_4 x13_5).f0)).f2))) (ds := []) #[false, false, false, false, false, false, false, false, false, false, false, false] (by kernel_rfl) rfl rfl ⟨(blk_cell BK215.out 0).trans rfl, (blk_cell BK215.out 1).trans rfl, (blk_cell BK215.out 2).trans rfl, hx243_0, hx243_1, hx243_2, ((HB.out.cell (World.block_lt_of_cell? w _ hw244_0)).trans hw244_0), ((HB.out.cell (World.block_lt_of_cell? w _ hw244_1)).trans hw244_1), ((HB.out.cell (World.block_lt_of_cell? w _ hw244_2)).trans hw244_2)⟩ (fun hHeld => ?_); refine with_tabW taquinlaw35_StockFirst.tab26 taquinlaw35_StockFirst.bits26 (fun HT_ HW_ => ?_)
                                                      generalize wc.drew = w84 at HO_6 HO_8 BK215 HR228_0 HB hx243_0 hx243_1 hx243_2 hx244_0 hx244_1 hx244_2 hHeld ⊢
                                                      refine pu 0 154 12 1 rfl rfl HT_ ?_
                                                      refine pu 2 156 12 5 rfl rfl HT_ ?_
                                                      refine pu 3 157 12 13 rfl rfl HT_ ?_
                                                      refine pu 4 158 12 29 rfl rfl HT_ ?_
                                                      refine pu 5 159 12 61 rfl rfl HT_ ?_
                                                      refine pu 10 164 12 1085 rfl rfl HT_ ?_
                                                      refine ta9 1 155 12 1087 rfl rfl HT_ HW_ hHeld ?_
                                                      refine ta9 6 160 12 1151 rfl rfl HT_ HW_ hHeld ?_
                                                      refine pu 7 161 12 1279 rfl rfl HT_ ?_
                                                      refine pu 8 162 12 1535 rfl rfl HT_ ?_
                                                      refine ta9 9 163 12 2047 rfl rfl HT_ HW_ hHeld ?_
                                                      refine pu 11 165 12 4095 rfl rfl HT_ ?_
                                                      refine done_ (done_of HT_.out (by kernel_rfl)) ?_
                                                      try go_wp2
                                                      go_roundg kj65
                                                      case measure => have := HJ3.out; have := HJ14.out; have := HK3.out; have := HK4.out; have := HK5.out; have := HJ65.out; omega
                                                      case rel => exact ⟨(wrap64 (x13_5 + 1)), (by first | rfl | (simp; done) | (simp [*]; done)), H', ⟨by have := HJ3.out; have := HJ14.out; have := HK3.out; have := HK4.out; have := HK5.out; have := HJ65.out; omega⟩, ⟨by (with_reducible repeat (first | apply Kd.S_alloc | apply Kd.S_drewN | apply Kd.S_drew)); exact HO_6.out⟩, ⟨by (with_reducible repeat (first | apply Kd.R_alloc | apply Kd.R_drewN | apply Kd.R_drew)); exact HO_8.out⟩, ⟨by (with_reducible repeat (first | refine blk_drewN ?_ _ | refine blk_drew ?_ | refine blk_alloc ?_ _)); exact BK215.out⟩, ⟨by repeat (first | (with_reducible exact HR228_0.out) | (with_reducible refine Kd.C_alloc ?_ _) | (with_reducible refine Kd.C_drewN ?_ _) | (with_reducible refine Kd.C_drew ?_) | exact HR228_0.out)⟩, ⟨by repeat (first | (with_reducible first | exact HB.out | apply below_alloc | apply pw_below_drewN | apply below_drew1 | refine below_set ?_ GE215.out) | exact HB.out)⟩⟩
                                                  · rw [if_neg c81] at H
                                                    exact absurd H (by simp)
                                                · rw [if_neg c80] at H
                                                  exact absurd H (by simp)
                                              · rw [if_neg c79] at H
                                                exact absurd H (by simp)
                                            · rw [if_neg c78] at H
                                              exact absurd H (by simp)
                                          · replace c77 := Bool.eq_false_iff.mpr c77
                                            subst c77
                                            have H1 : (taquinlaw35_StockFirst.l2 kj65 l1 t216 t218 x8_4 x9_3 x10_4 (wrap64 (x13_5 + 1)) l0_0 l0_1 l0_2) = some r := by rw [if_neg (show ¬ (false = true) by decide)] at H; exact H
                                            clear H
                                            have H := H1
                                            clear H1
                                            have H' := Aside0.mk H
                                            clear H
                                            go_wp2
                                            go_roundg kj65
                                            case measure => have := HJ3.out; have := HJ14.out; have := HK3.out; have := HK4.out; have := HK5.out; have := HJ65.out; omega
                                            case rel => exact ⟨(wrap64 (x13_5 + 1)), (by first | rfl | (simp; done) | (simp [*]; done)), H', ⟨by have := HJ3.out; have := HJ14.out; have := HK3.out; have := HK4.out; have := HK5.out; have := HJ65.out; omega⟩, ⟨by (with_reducible repeat (first | apply Kd.S_alloc | apply Kd.S_drewN | apply Kd.S_drew)); exact HO_6.out⟩, ⟨by (with_reducible repeat (first | apply Kd.R_alloc | apply Kd.R_drewN | apply Kd.R_drew)); exact HO_8.out⟩, ⟨by (with_reducible repeat (first | refine blk_drewN ?_ _ | refine blk_drew ?_ | refine blk_alloc ?_ _)); exact BK215.out⟩, ⟨by repeat (first | (with_reducible exact HR228_0.out) | (with_reducible refine Kd.C_alloc ?_ _) | (with_reducible refine Kd.C_drewN ?_ _) | (with_reducible refine Kd.C_drew ?_) | exact HR228_0.out)⟩, ⟨by repeat (first | (with_reducible first | exact HB.out | apply below_alloc | apply pw_below_drewN | apply below_drew1 | refine below_set ?_ GE215.out) | exact HB.out)⟩⟩
                                    · rw [if_neg c65] at H
                                      have c65b0 : decide (x13_5 < (x8_4.length : Int)) = false := decide_eq_false c65
                                      clear c65
                                      have H' := Aside0.mk H
                                      clear H
                                      obtain ⟨Ao85, co85, eo85⟩ := Kd.R_slice HO_8.out
                                      subst eo85
                                      go_wp2
                                      go_roundg k5
                                      case measure => have := HJ3.out; have := HJ14.out; have := HK3.out; have := HK4.out; have := HK5.out; omega
                                      case rel => exact ⟨(x8_4), (wrap64 (x9_3 + 1)), (by first | rfl | (simp; done) | (simp [*]; done)), H', ⟨by have := HJ3.out; have := HJ14.out; have := HK3.out; have := HK4.out; have := HK5.out; omega⟩, ⟨by (with_reducible repeat (first | apply Kd.S_alloc | apply Kd.S_drewN | apply Kd.S_drew)); exact HO_6.out⟩, ⟨by (with_reducible repeat (first | apply Kd.R_alloc | apply Kd.R_drewN | apply Kd.R_drew)); exact HO_8.out⟩, ⟨by (with_reducible repeat (first | refine blk_drewN ?_ _ | refine blk_drew ?_ | refine blk_alloc ?_ _)); exact BK215.out⟩, ⟨by repeat (first | (with_reducible first | exact HB.out | apply below_alloc | apply pw_below_drewN | apply below_drew1 | refine below_set ?_ GE215.out) | exact HB.out)⟩⟩
                            · rw [if_neg c30] at H
                              exact absurd H (by simp)
                          · rw [if_neg c29] at H
                            exact absurd H (by simp)
                    · rw [if_neg c27] at H
                      have c27b0 : decide (x9_3 < (t218.length : Int)) = false := decide_eq_false c27
                      clear c27
                      obtain rfl := Option.some.inj H
                      obtain ⟨Ao86, co86, eo86⟩ := Kd.S_slice HO_6.out
                      subst eo86
                      go_wp2
                      go_ret
                      exact ⟨by first | rfl | (simp [errW_none, errW_some] <;> rfl) | (simp [*, errW_none, errW_some] <;> rfl), by repeat (first | (with_reducible first | exact HB.out | apply below_alloc | apply pw_below_drewN | apply below_drew1 | refine below_set ?_ GE215.out) | exact HB.out)⟩
              · rw [if_neg c22] at H
                exact absurd H (by simp)

end Go.Proofs.Ytemcplbldfldlaa.P
