import Derived.Test.YtemcplbldfldlaaDoorPx0
import Derived.ChangeSlices
import Derived.ChangeArms
import Derived.DataElems
import Derived.DataReads
import Derived.Deep.Slices
import Derived.Laws.CopyRow
import Derived.Lib.Hide
import Derived.Lib.LazyBuf
import Derived.BigRegion
import Derived.BigQuiet
import Derived.Deep.RegionHeld3
import Derived.Deep.DeepCutAuto
import Derived.Shelf.Abstract
import Derived.LoopN
/- Short names for the steps of a printed region walk (pure_, take_ of the print's words): the side goals are shown by default tactics. No condition. -/
namespace Go.Proofs.YtemcplbldfldlaaDoor.P
open Go.RowKit Go.Proofs.YtemcplbldfldlaaDoorW.PrintWords Go.Proofs.YtemcplbldfldlaaDoorW.PrintLast Go.Proofs.YtemcplbldfldlaaDoorW.PrintMore
set_option linter.unusedVariables false

/-- The n lowest bits of m, as what has come up. -/
def bitsOf : Nat → Nat → List Bool
  | 0, _ => []
  | n + 1, m => (m % 2 == 1) :: bitsOf n (m / 2)
def M (n m : Nat) : Array Bool := (bitsOf n m).toArray

section
variable {P : Program} {ops : Array Oper} {Q : Exit → Act → World → Prop} {S : World → Prop} {ds : List Nat} {T : Bool × List (List Nat × List Nat)} {B : List Nat} {oi : Oper} {v : Value} {fuel : Nat} {l : Array Bool} {a a' : Act} {w : World}

theorem pu (i N n m : Nat) (hi : ops[i]? = some oi) (hN : oi.dst = some N) (HT : Aside0 (rtab .any ops = T)) (h : wpAnyLast P .any ops Q S ds fuel (M n m) a' w)
    (hc : anyT T l.toList (M n m).toList i = true := by kernel_rfl) (hQ : ∀ c a w, Q (.panic c) (a.put oi.dst v) w → Q (.panic c) a w := by exact fun _ _ _ h => h)
    (ht : Region.wanted oi (yielded ops a.tmps) = true := by rfl) (hy : ∀ w, (execOp a.eval oi).run P w = .ok (.value v) w := by intro w'; go_simp; with_reducible rfl)
    (ha : a.put (some N) v = a' := by simp only [Act.put, List.setIfInBounds_toArray, List.set_cons_zero, List.set_cons_succ, i64_w, i32_w]; rfl) : wpAnyLast P .any ops Q S ds (fuel + 1) l a w :=
  pure_ (M n m) hi hN (any_of HT.out hc) hQ (Or.inl ⟨ht, hy⟩) ha h
theorem pun (i N n m : Nat) (hi : ops[i]? = some oi) (hN : oi.dst = some N) (HT : Aside0 (rtab .any ops = T)) (h : wpAnyLast P .any ops Q S ds fuel (M n m) a' w)
    (hc : anyT T l.toList (M n m).toList i = true := by kernel_rfl) (hQ : ∀ c a w, Q (.panic c) (a.put oi.dst undef) w → Q (.panic c) a w := by exact fun _ _ _ h => h)
    (ht : Region.wanted oi (yielded ops a.tmps) = false := by rfl) 
    (ha : a.put (some N) undef = a' := by simp only [Act.put, List.setIfInBounds_toArray, List.set_cons_zero, List.set_cons_succ, i64_w, i32_w]; rfl) : wpAnyLast P .any ops Q S ds (fuel + 1) l a w :=
  pure_ (M n m) hi hN (any_of HT.out hc) hQ (Or.inr ⟨ht, rfl⟩) ha h
theorem tan (i N n m : Nat) (hi : ops[i]? = some oi) (hN : oi.dst = some N) (HT : Aside0 (rtab .any ops = T)) (HW : Aside0 (waitsOk T.2 B = true)) (hS : S w) (h : wpAnyLast P .any ops Q S ds fuel (M n m) a' w)
    (hc : takeW T B ds l.toList (M n m).toList i = true := by kernel_rfl) (hQ : ∀ c a w, Q (.panic c) (a.put oi.dst undef) w → Q (.panic c) a w := by exact fun _ _ _ h => h)
    (ht : Region.wanted oi (yielded ops a.tmps) = false := by rfl) 
    (ha : a.put (some N) undef = a' := by simp only [Act.put, List.setIfInBounds_toArray, List.set_cons_zero, List.set_cons_succ, i64_w, i32_w]; rfl) : wpAnyLast P .any ops Q S ds (fuel + 1) l a w :=
  take_ (M n m) hi hN (take_ofW HT.out HW.out hc) hQ (Or.inr ⟨ht, rfl⟩) hS ha h
theorem ta1 (i N n m : Nat) (hi : ops[i]? = some oi) (hN : oi.dst = some N) (HT : Aside0 (rtab .any ops = T)) (HW : Aside0 (waitsOk T.2 B = true)) (hS : S w) (h : wpAnyLast P .any ops Q S ds fuel (M n m) a' w)
    (hc : takeW T B ds l.toList (M n m).toList i = true := by kernel_rfl) (hQ : ∀ c a w, Q (.panic c) (a.put oi.dst v) w → Q (.panic c) a w := by exact fun _ _ _ h => h)
    (ht : Region.wanted oi (yielded ops a.tmps) = true := by rfl) (hy : ∀ w, S w → (execOp a.eval oi).run P w = .ok (.value v) w := by rintro w' s0; go_simp; with_reducible rfl)
    (ha : a.put (some N) v = a' := by simp only [Act.put, List.setIfInBounds_toArray, List.set_cons_zero, List.set_cons_succ, i64_w, i32_w]; rfl) : wpAnyLast P .any ops Q S ds (fuel + 1) l a w :=
  take_ (M n m) hi hN (take_ofW HT.out HW.out hc) hQ (Or.inl ⟨ht, hy⟩) hS ha h
theorem ta2 (i N n m : Nat) (hi : ops[i]? = some oi) (hN : oi.dst = some N) (HT : Aside0 (rtab .any ops = T)) (HW : Aside0 (waitsOk T.2 B = true)) (hS : S w) (h : wpAnyLast P .any ops Q S ds fuel (M n m) a' w)
    (hc : takeW T B ds l.toList (M n m).toList i = true := by kernel_rfl) (hQ : ∀ c a w, Q (.panic c) (a.put oi.dst v) w → Q (.panic c) a w := by exact fun _ _ _ h => h)
    (ht : Region.wanted oi (yielded ops a.tmps) = true := by rfl) (hy : ∀ w, S w → (execOp a.eval oi).run P w = .ok (.value v) w := by rintro w' ⟨s0, s1⟩; go_simp; with_reducible rfl)
    (ha : a.put (some N) v = a' := by simp only [Act.put, List.setIfInBounds_toArray, List.set_cons_zero, List.set_cons_succ, i64_w, i32_w]; rfl) : wpAnyLast P .any ops Q S ds (fuel + 1) l a w :=
  take_ (M n m) hi hN (take_ofW HT.out HW.out hc) hQ (Or.inl ⟨ht, hy⟩) hS ha h
theorem ta3 (i N n m : Nat) (hi : ops[i]? = some oi) (hN : oi.dst = some N) (HT : Aside0 (rtab .any ops = T)) (HW : Aside0 (waitsOk T.2 B = true)) (hS : S w) (h : wpAnyLast P .any ops Q S ds fuel (M n m) a' w)
    (hc : takeW T B ds l.toList (M n m).toList i = true := by kernel_rfl) (hQ : ∀ c a w, Q (.panic c) (a.put oi.dst v) w → Q (.panic c) a w := by exact fun _ _ _ h => h)
    (ht : Region.wanted oi (yielded ops a.tmps) = true := by rfl) (hy : ∀ w, S w → (execOp a.eval oi).run P w = .ok (.value v) w := by rintro w' ⟨s0, s1, s2⟩; go_simp; with_reducible rfl)
    (ha : a.put (some N) v = a' := by simp only [Act.put, List.setIfInBounds_toArray, List.set_cons_zero, List.set_cons_succ, i64_w, i32_w]; rfl) : wpAnyLast P .any ops Q S ds (fuel + 1) l a w :=
  take_ (M n m) hi hN (take_ofW HT.out HW.out hc) hQ (Or.inl ⟨ht, hy⟩) hS ha h
theorem ta4 (i N n m : Nat) (hi : ops[i]? = some oi) (hN : oi.dst = some N) (HT : Aside0 (rtab .any ops = T)) (HW : Aside0 (waitsOk T.2 B = true)) (hS : S w) (h : wpAnyLast P .any ops Q S ds fuel (M n m) a' w)
    (hc : takeW T B ds l.toList (M n m).toList i = true := by kernel_rfl) (hQ : ∀ c a w, Q (.panic c) (a.put oi.dst v) w → Q (.panic c) a w := by exact fun _ _ _ h => h)
    (ht : Region.wanted oi (yielded ops a.tmps) = true := by rfl) (hy : ∀ w, S w → (execOp a.eval oi).run P w = .ok (.value v) w := by rintro w' ⟨s0, s1, s2, s3⟩; go_simp; with_reducible rfl)
    (ha : a.put (some N) v = a' := by simp only [Act.put, List.setIfInBounds_toArray, List.set_cons_zero, List.set_cons_succ, i64_w, i32_w]; rfl) : wpAnyLast P .any ops Q S ds (fuel + 1) l a w :=
  take_ (M n m) hi hN (take_ofW HT.out HW.out hc) hQ (Or.inl ⟨ht, hy⟩) hS ha h
theorem ta5 (i N n m : Nat) (hi : ops[i]? = some oi) (hN : oi.dst = some N) (HT : Aside0 (rtab .any ops = T)) (HW : Aside0 (waitsOk T.2 B = true)) (hS : S w) (h : wpAnyLast P .any ops Q S ds fuel (M n m) a' w)
    (hc : takeW T B ds l.toList (M n m).toList i = true := by kernel_rfl) (hQ : ∀ c a w, Q (.panic c) (a.put oi.dst v) w → Q (.panic c) a w := by exact fun _ _ _ h => h)
    (ht : Region.wanted oi (yielded ops a.tmps) = true := by rfl) (hy : ∀ w, S w → (execOp a.eval oi).run P w = .ok (.value v) w := by rintro w' ⟨s0, s1, s2, s3, s4⟩; go_simp; with_reducible rfl)
    (ha : a.put (some N) v = a' := by simp only [Act.put, List.setIfInBounds_toArray, List.set_cons_zero, List.set_cons_succ, i64_w, i32_w]; rfl) : wpAnyLast P .any ops Q S ds (fuel + 1) l a w :=
  take_ (M n m) hi hN (take_ofW HT.out HW.out hc) hQ (Or.inl ⟨ht, hy⟩) hS ha h
theorem ta6 (i N n m : Nat) (hi : ops[i]? = some oi) (hN : oi.dst = some N) (HT : Aside0 (rtab .any ops = T)) (HW : Aside0 (waitsOk T.2 B = true)) (hS : S w) (h : wpAnyLast P .any ops Q S ds fuel (M n m) a' w)
    (hc : takeW T B ds l.toList (M n m).toList i = true := by kernel_rfl) (hQ : ∀ c a w, Q (.panic c) (a.put oi.dst v) w → Q (.panic c) a w := by exact fun _ _ _ h => h)
    (ht : Region.wanted oi (yielded ops a.tmps) = true := by rfl) (hy : ∀ w, S w → (execOp a.eval oi).run P w = .ok (.value v) w := by rintro w' ⟨s0, s1, s2, s3, s4, s5⟩; go_simp; with_reducible rfl)
    (ha : a.put (some N) v = a' := by simp only [Act.put, List.setIfInBounds_toArray, List.set_cons_zero, List.set_cons_succ, i64_w, i32_w]; rfl) : wpAnyLast P .any ops Q S ds (fuel + 1) l a w :=
  take_ (M n m) hi hN (take_ofW HT.out HW.out hc) hQ (Or.inl ⟨ht, hy⟩) hS ha h
theorem ta7 (i N n m : Nat) (hi : ops[i]? = some oi) (hN : oi.dst = some N) (HT : Aside0 (rtab .any ops = T)) (HW : Aside0 (waitsOk T.2 B = true)) (hS : S w) (h : wpAnyLast P .any ops Q S ds fuel (M n m) a' w)
    (hc : takeW T B ds l.toList (M n m).toList i = true := by kernel_rfl) (hQ : ∀ c a w, Q (.panic c) (a.put oi.dst v) w → Q (.panic c) a w := by exact fun _ _ _ h => h)
    (ht : Region.wanted oi (yielded ops a.tmps) = true := by rfl) (hy : ∀ w, S w → (execOp a.eval oi).run P w = .ok (.value v) w := by rintro w' ⟨s0, s1, s2, s3, s4, s5, s6⟩; go_simp; with_reducible rfl)
    (ha : a.put (some N) v = a' := by simp only [Act.put, List.setIfInBounds_toArray, List.set_cons_zero, List.set_cons_succ, i64_w, i32_w]; rfl) : wpAnyLast P .any ops Q S ds (fuel + 1) l a w :=
  take_ (M n m) hi hN (take_ofW HT.out HW.out hc) hQ (Or.inl ⟨ht, hy⟩) hS ha h
theorem ta8 (i N n m : Nat) (hi : ops[i]? = some oi) (hN : oi.dst = some N) (HT : Aside0 (rtab .any ops = T)) (HW : Aside0 (waitsOk T.2 B = true)) (hS : S w) (h : wpAnyLast P .any ops Q S ds fuel (M n m) a' w)
    (hc : takeW T B ds l.toList (M n m).toList i = true := by kernel_rfl) (hQ : ∀ c a w, Q (.panic c) (a.put oi.dst v) w → Q (.panic c) a w := by exact fun _ _ _ h => h)
    (ht : Region.wanted oi (yielded ops a.tmps) = true := by rfl) (hy : ∀ w, S w → (execOp a.eval oi).run P w = .ok (.value v) w := by rintro w' ⟨s0, s1, s2, s3, s4, s5, s6, s7⟩; go_simp; with_reducible rfl)
    (ha : a.put (some N) v = a' := by simp only [Act.put, List.setIfInBounds_toArray, List.set_cons_zero, List.set_cons_succ, i64_w, i32_w]; rfl) : wpAnyLast P .any ops Q S ds (fuel + 1) l a w :=
  take_ (M n m) hi hN (take_ofW HT.out HW.out hc) hQ (Or.inl ⟨ht, hy⟩) hS ha h
theorem ta9 (i N n m : Nat) (hi : ops[i]? = some oi) (hN : oi.dst = some N) (HT : Aside0 (rtab .any ops = T)) (HW : Aside0 (waitsOk T.2 B = true)) (hS : S w) (h : wpAnyLast P .any ops Q S ds fuel (M n m) a' w)
    (hc : takeW T B ds l.toList (M n m).toList i = true := by kernel_rfl) (hQ : ∀ c a w, Q (.panic c) (a.put oi.dst v) w → Q (.panic c) a w := by exact fun _ _ _ h => h)
    (ht : Region.wanted oi (yielded ops a.tmps) = true := by rfl) (hy : ∀ w, S w → (execOp a.eval oi).run P w = .ok (.value v) w := by rintro w' ⟨s0, s1, s2, s3, s4, s5, s6, s7, s8⟩; go_simp; with_reducible rfl)
    (ha : a.put (some N) v = a' := by simp only [Act.put, List.setIfInBounds_toArray, List.set_cons_zero, List.set_cons_succ, i64_w, i32_w]; rfl) : wpAnyLast P .any ops Q S ds (fuel + 1) l a w :=
  take_ (M n m) hi hN (take_ofW HT.out HW.out hc) hQ (Or.inl ⟨ht, hy⟩) hS ha h
theorem ta10 (i N n m : Nat) (hi : ops[i]? = some oi) (hN : oi.dst = some N) (HT : Aside0 (rtab .any ops = T)) (HW : Aside0 (waitsOk T.2 B = true)) (hS : S w) (h : wpAnyLast P .any ops Q S ds fuel (M n m) a' w)
    (hc : takeW T B ds l.toList (M n m).toList i = true := by kernel_rfl) (hQ : ∀ c a w, Q (.panic c) (a.put oi.dst v) w → Q (.panic c) a w := by exact fun _ _ _ h => h)
    (ht : Region.wanted oi (yielded ops a.tmps) = true := by rfl) (hy : ∀ w, S w → (execOp a.eval oi).run P w = .ok (.value v) w := by rintro w' ⟨s0, s1, s2, s3, s4, s5, s6, s7, s8, s9⟩; go_simp; with_reducible rfl)
    (ha : a.put (some N) v = a' := by simp only [Act.put, List.setIfInBounds_toArray, List.set_cons_zero, List.set_cons_succ, i64_w, i32_w]; rfl) : wpAnyLast P .any ops Q S ds (fuel + 1) l a w :=
  take_ (M n m) hi hN (take_ofW HT.out HW.out hc) hQ (Or.inl ⟨ht, hy⟩) hS ha h
theorem ta11 (i N n m : Nat) (hi : ops[i]? = some oi) (hN : oi.dst = some N) (HT : Aside0 (rtab .any ops = T)) (HW : Aside0 (waitsOk T.2 B = true)) (hS : S w) (h : wpAnyLast P .any ops Q S ds fuel (M n m) a' w)
    (hc : takeW T B ds l.toList (M n m).toList i = true := by kernel_rfl) (hQ : ∀ c a w, Q (.panic c) (a.put oi.dst v) w → Q (.panic c) a w := by exact fun _ _ _ h => h)
    (ht : Region.wanted oi (yielded ops a.tmps) = true := by rfl) (hy : ∀ w, S w → (execOp a.eval oi).run P w = .ok (.value v) w := by rintro w' ⟨s0, s1, s2, s3, s4, s5, s6, s7, s8, s9, s10⟩; go_simp; with_reducible rfl)
    (ha : a.put (some N) v = a' := by simp only [Act.put, List.setIfInBounds_toArray, List.set_cons_zero, List.set_cons_succ, i64_w, i32_w]; rfl) : wpAnyLast P .any ops Q S ds (fuel + 1) l a w :=
  take_ (M n m) hi hN (take_ofW HT.out HW.out hc) hQ (Or.inl ⟨ht, hy⟩) hS ha h
theorem ta12 (i N n m : Nat) (hi : ops[i]? = some oi) (hN : oi.dst = some N) (HT : Aside0 (rtab .any ops = T)) (HW : Aside0 (waitsOk T.2 B = true)) (hS : S w) (h : wpAnyLast P .any ops Q S ds fuel (M n m) a' w)
    (hc : takeW T B ds l.toList (M n m).toList i = true := by kernel_rfl) (hQ : ∀ c a w, Q (.panic c) (a.put oi.dst v) w → Q (.panic c) a w := by exact fun _ _ _ h => h)
    (ht : Region.wanted oi (yielded ops a.tmps) = true := by rfl) (hy : ∀ w, S w → (execOp a.eval oi).run P w = .ok (.value v) w := by rintro w' ⟨s0, s1, s2, s3, s4, s5, s6, s7, s8, s9, s10, s11⟩; go_simp; with_reducible rfl)
    (ha : a.put (some N) v = a' := by simp only [Act.put, List.setIfInBounds_toArray, List.set_cons_zero, List.set_cons_succ, i64_w, i32_w]; rfl) : wpAnyLast P .any ops Q S ds (fuel + 1) l a w :=
  take_ (M n m) hi hN (take_ofW HT.out HW.out hc) hQ (Or.inl ⟨ht, hy⟩) hS ha h
theorem ta13 (i N n m : Nat) (hi : ops[i]? = some oi) (hN : oi.dst = some N) (HT : Aside0 (rtab .any ops = T)) (HW : Aside0 (waitsOk T.2 B = true)) (hS : S w) (h : wpAnyLast P .any ops Q S ds fuel (M n m) a' w)
    (hc : takeW T B ds l.toList (M n m).toList i = true := by kernel_rfl) (hQ : ∀ c a w, Q (.panic c) (a.put oi.dst v) w → Q (.panic c) a w := by exact fun _ _ _ h => h)
    (ht : Region.wanted oi (yielded ops a.tmps) = true := by rfl) (hy : ∀ w, S w → (execOp a.eval oi).run P w = .ok (.value v) w := by rintro w' ⟨s0, s1, s2, s3, s4, s5, s6, s7, s8, s9, s10, s11, s12⟩; go_simp; with_reducible rfl)
    (ha : a.put (some N) v = a' := by simp only [Act.put, List.setIfInBounds_toArray, List.set_cons_zero, List.set_cons_succ, i64_w, i32_w]; rfl) : wpAnyLast P .any ops Q S ds (fuel + 1) l a w :=
  take_ (M n m) hi hN (take_ofW HT.out HW.out hc) hQ (Or.inl ⟨ht, hy⟩) hS ha h
theorem ta14 (i N n m : Nat) (hi : ops[i]? = some oi) (hN : oi.dst = some N) (HT : Aside0 (rtab .any ops = T)) (HW : Aside0 (waitsOk T.2 B = true)) (hS : S w) (h : wpAnyLast P .any ops Q S ds fuel (M n m) a' w)
    (hc : takeW T B ds l.toList (M n m).toList i = true := by kernel_rfl) (hQ : ∀ c a w, Q (.panic c) (a.put oi.dst v) w → Q (.panic c) a w := by exact fun _ _ _ h => h)
    (ht : Region.wanted oi (yielded ops a.tmps) = true := by rfl) (hy : ∀ w, S w → (execOp a.eval oi).run P w = .ok (.value v) w := by rintro w' ⟨s0, s1, s2, s3, s4, s5, s6, s7, s8, s9, s10, s11, s12, s13⟩; go_simp; with_reducible rfl)
    (ha : a.put (some N) v = a' := by simp only [Act.put, List.setIfInBounds_toArray, List.set_cons_zero, List.set_cons_succ, i64_w, i32_w]; rfl) : wpAnyLast P .any ops Q S ds (fuel + 1) l a w :=
  take_ (M n m) hi hN (take_ofW HT.out HW.out hc) hQ (Or.inl ⟨ht, hy⟩) hS ha h
theorem ta15 (i N n m : Nat) (hi : ops[i]? = some oi) (hN : oi.dst = some N) (HT : Aside0 (rtab .any ops = T)) (HW : Aside0 (waitsOk T.2 B = true)) (hS : S w) (h : wpAnyLast P .any ops Q S ds fuel (M n m) a' w)
    (hc : takeW T B ds l.toList (M n m).toList i = true := by kernel_rfl) (hQ : ∀ c a w, Q (.panic c) (a.put oi.dst v) w → Q (.panic c) a w := by exact fun _ _ _ h => h)
    (ht : Region.wanted oi (yielded ops a.tmps) = true := by rfl) (hy : ∀ w, S w → (execOp a.eval oi).run P w = .ok (.value v) w := by rintro w' ⟨s0, s1, s2, s3, s4, s5, s6, s7, s8, s9, s10, s11, s12, s13, s14⟩; go_simp; with_reducible rfl)
    (ha : a.put (some N) v = a' := by simp only [Act.put, List.setIfInBounds_toArray, List.set_cons_zero, List.set_cons_succ, i64_w, i32_w]; rfl) : wpAnyLast P .any ops Q S ds (fuel + 1) l a w :=
  take_ (M n m) hi hN (take_ofW HT.out HW.out hc) hQ (Or.inl ⟨ht, hy⟩) hS ha h
theorem ta16 (i N n m : Nat) (hi : ops[i]? = some oi) (hN : oi.dst = some N) (HT : Aside0 (rtab .any ops = T)) (HW : Aside0 (waitsOk T.2 B = true)) (hS : S w) (h : wpAnyLast P .any ops Q S ds fuel (M n m) a' w)
    (hc : takeW T B ds l.toList (M n m).toList i = true := by kernel_rfl) (hQ : ∀ c a w, Q (.panic c) (a.put oi.dst v) w → Q (.panic c) a w := by exact fun _ _ _ h => h)
    (ht : Region.wanted oi (yielded ops a.tmps) = true := by rfl) (hy : ∀ w, S w → (execOp a.eval oi).run P w = .ok (.value v) w := by rintro w' ⟨s0, s1, s2, s3, s4, s5, s6, s7, s8, s9, s10, s11, s12, s13, s14, s15⟩; go_simp; with_reducible rfl)
    (ha : a.put (some N) v = a' := by simp only [Act.put, List.setIfInBounds_toArray, List.set_cons_zero, List.set_cons_succ, i64_w, i32_w]; rfl) : wpAnyLast P .any ops Q S ds (fuel + 1) l a w :=
  take_ (M n m) hi hN (take_ofW HT.out HW.out hc) hQ (Or.inl ⟨ht, hy⟩) hS ha h
theorem ta17 (i N n m : Nat) (hi : ops[i]? = some oi) (hN : oi.dst = some N) (HT : Aside0 (rtab .any ops = T)) (HW : Aside0 (waitsOk T.2 B = true)) (hS : S w) (h : wpAnyLast P .any ops Q S ds fuel (M n m) a' w)
    (hc : takeW T B ds l.toList (M n m).toList i = true := by kernel_rfl) (hQ : ∀ c a w, Q (.panic c) (a.put oi.dst v) w → Q (.panic c) a w := by exact fun _ _ _ h => h)
    (ht : Region.wanted oi (yielded ops a.tmps) = true := by rfl) (hy : ∀ w, S w → (execOp a.eval oi).run P w = .ok (.value v) w := by rintro w' ⟨s0, s1, s2, s3, s4, s5, s6, s7, s8, s9, s10, s11, s12, s13, s14, s15, s16⟩; go_simp; with_reducible rfl)
    (ha : a.put (some N) v = a' := by simp only [Act.put, List.setIfInBounds_toArray, List.set_cons_zero, List.set_cons_succ, i64_w, i32_w]; rfl) : wpAnyLast P .any ops Q S ds (fuel + 1) l a w :=
  take_ (M n m) hi hN (take_ofW HT.out HW.out hc) hQ (Or.inl ⟨ht, hy⟩) hS ha h
theorem ta18 (i N n m : Nat) (hi : ops[i]? = some oi) (hN : oi.dst = some N) (HT : Aside0 (rtab .any ops = T)) (HW : Aside0 (waitsOk T.2 B = true)) (hS : S w) (h : wpAnyLast P .any ops Q S ds fuel (M n m) a' w)
    (hc : takeW T B ds l.toList (M n m).toList i = true := by kernel_rfl) (hQ : ∀ c a w, Q (.panic c) (a.put oi.dst v) w → Q (.panic c) a w := by exact fun _ _ _ h => h)
    (ht : Region.wanted oi (yielded ops a.tmps) = true := by rfl) (hy : ∀ w, S w → (execOp a.eval oi).run P w = .ok (.value v) w := by rintro w' ⟨s0, s1, s2, s3, s4, s5, s6, s7, s8, s9, s10, s11, s12, s13, s14, s15, s16, s17⟩; go_simp; with_reducible rfl)
    (ha : a.put (some N) v = a' := by simp only [Act.put, List.setIfInBounds_toArray, List.set_cons_zero, List.set_cons_succ, i64_w, i32_w]; rfl) : wpAnyLast P .any ops Q S ds (fuel + 1) l a w :=
  take_ (M n m) hi hN (take_ofW HT.out HW.out hc) hQ (Or.inl ⟨ht, hy⟩) hS ha h
theorem ta19 (i N n m : Nat) (hi : ops[i]? = some oi) (hN : oi.dst = some N) (HT : Aside0 (rtab .any ops = T)) (HW : Aside0 (waitsOk T.2 B = true)) (hS : S w) (h : wpAnyLast P .any ops Q S ds fuel (M n m) a' w)
    (hc : takeW T B ds l.toList (M n m).toList i = true := by kernel_rfl) (hQ : ∀ c a w, Q (.panic c) (a.put oi.dst v) w → Q (.panic c) a w := by exact fun _ _ _ h => h)
    (ht : Region.wanted oi (yielded ops a.tmps) = true := by rfl) (hy : ∀ w, S w → (execOp a.eval oi).run P w = .ok (.value v) w := by rintro w' ⟨s0, s1, s2, s3, s4, s5, s6, s7, s8, s9, s10, s11, s12, s13, s14, s15, s16, s17, s18⟩; go_simp; with_reducible rfl)
    (ha : a.put (some N) v = a' := by simp only [Act.put, List.setIfInBounds_toArray, List.set_cons_zero, List.set_cons_succ, i64_w, i32_w]; rfl) : wpAnyLast P .any ops Q S ds (fuel + 1) l a w :=
  take_ (M n m) hi hN (take_ofW HT.out HW.out hc) hQ (Or.inl ⟨ht, hy⟩) hS ha h
theorem ta20 (i N n m : Nat) (hi : ops[i]? = some oi) (hN : oi.dst = some N) (HT : Aside0 (rtab .any ops = T)) (HW : Aside0 (waitsOk T.2 B = true)) (hS : S w) (h : wpAnyLast P .any ops Q S ds fuel (M n m) a' w)
    (hc : takeW T B ds l.toList (M n m).toList i = true := by kernel_rfl) (hQ : ∀ c a w, Q (.panic c) (a.put oi.dst v) w → Q (.panic c) a w := by exact fun _ _ _ h => h)
    (ht : Region.wanted oi (yielded ops a.tmps) = true := by rfl) (hy : ∀ w, S w → (execOp a.eval oi).run P w = .ok (.value v) w := by rintro w' ⟨s0, s1, s2, s3, s4, s5, s6, s7, s8, s9, s10, s11, s12, s13, s14, s15, s16, s17, s18, s19⟩; go_simp; with_reducible rfl)
    (ha : a.put (some N) v = a' := by simp only [Act.put, List.setIfInBounds_toArray, List.set_cons_zero, List.set_cons_succ, i64_w, i32_w]; rfl) : wpAnyLast P .any ops Q S ds (fuel + 1) l a w :=
  take_ (M n m) hi hN (take_ofW HT.out HW.out hc) hQ (Or.inl ⟨ht, hy⟩) hS ha h
theorem ta21 (i N n m : Nat) (hi : ops[i]? = some oi) (hN : oi.dst = some N) (HT : Aside0 (rtab .any ops = T)) (HW : Aside0 (waitsOk T.2 B = true)) (hS : S w) (h : wpAnyLast P .any ops Q S ds fuel (M n m) a' w)
    (hc : takeW T B ds l.toList (M n m).toList i = true := by kernel_rfl) (hQ : ∀ c a w, Q (.panic c) (a.put oi.dst v) w → Q (.panic c) a w := by exact fun _ _ _ h => h)
    (ht : Region.wanted oi (yielded ops a.tmps) = true := by rfl) (hy : ∀ w, S w → (execOp a.eval oi).run P w = .ok (.value v) w := by rintro w' ⟨s0, s1, s2, s3, s4, s5, s6, s7, s8, s9, s10, s11, s12, s13, s14, s15, s16, s17, s18, s19, s20⟩; go_simp; with_reducible rfl)
    (ha : a.put (some N) v = a' := by simp only [Act.put, List.setIfInBounds_toArray, List.set_cons_zero, List.set_cons_succ, i64_w, i32_w]; rfl) : wpAnyLast P .any ops Q S ds (fuel + 1) l a w :=
  take_ (M n m) hi hN (take_ofW HT.out HW.out hc) hQ (Or.inl ⟨ht, hy⟩) hS ha h
theorem ta22 (i N n m : Nat) (hi : ops[i]? = some oi) (hN : oi.dst = some N) (HT : Aside0 (rtab .any ops = T)) (HW : Aside0 (waitsOk T.2 B = true)) (hS : S w) (h : wpAnyLast P .any ops Q S ds fuel (M n m) a' w)
    (hc : takeW T B ds l.toList (M n m).toList i = true := by kernel_rfl) (hQ : ∀ c a w, Q (.panic c) (a.put oi.dst v) w → Q (.panic c) a w := by exact fun _ _ _ h => h)
    (ht : Region.wanted oi (yielded ops a.tmps) = true := by rfl) (hy : ∀ w, S w → (execOp a.eval oi).run P w = .ok (.value v) w := by rintro w' ⟨s0, s1, s2, s3, s4, s5, s6, s7, s8, s9, s10, s11, s12, s13, s14, s15, s16, s17, s18, s19, s20, s21⟩; go_simp; with_reducible rfl)
    (ha : a.put (some N) v = a' := by simp only [Act.put, List.setIfInBounds_toArray, List.set_cons_zero, List.set_cons_succ, i64_w, i32_w]; rfl) : wpAnyLast P .any ops Q S ds (fuel + 1) l a w :=
  take_ (M n m) hi hN (take_ofW HT.out HW.out hc) hQ (Or.inl ⟨ht, hy⟩) hS ha h
theorem ta23 (i N n m : Nat) (hi : ops[i]? = some oi) (hN : oi.dst = some N) (HT : Aside0 (rtab .any ops = T)) (HW : Aside0 (waitsOk T.2 B = true)) (hS : S w) (h : wpAnyLast P .any ops Q S ds fuel (M n m) a' w)
    (hc : takeW T B ds l.toList (M n m).toList i = true := by kernel_rfl) (hQ : ∀ c a w, Q (.panic c) (a.put oi.dst v) w → Q (.panic c) a w := by exact fun _ _ _ h => h)
    (ht : Region.wanted oi (yielded ops a.tmps) = true := by rfl) (hy : ∀ w, S w → (execOp a.eval oi).run P w = .ok (.value v) w := by rintro w' ⟨s0, s1, s2, s3, s4, s5, s6, s7, s8, s9, s10, s11, s12, s13, s14, s15, s16, s17, s18, s19, s20, s21, s22⟩; go_simp; with_reducible rfl)
    (ha : a.put (some N) v = a' := by simp only [Act.put, List.setIfInBounds_toArray, List.set_cons_zero, List.set_cons_succ, i64_w, i32_w]; rfl) : wpAnyLast P .any ops Q S ds (fuel + 1) l a w :=
  take_ (M n m) hi hN (take_ofW HT.out HW.out hc) hQ (Or.inl ⟨ht, hy⟩) hS ha h
theorem ta24 (i N n m : Nat) (hi : ops[i]? = some oi) (hN : oi.dst = some N) (HT : Aside0 (rtab .any ops = T)) (HW : Aside0 (waitsOk T.2 B = true)) (hS : S w) (h : wpAnyLast P .any ops Q S ds fuel (M n m) a' w)
    (hc : takeW T B ds l.toList (M n m).toList i = true := by kernel_rfl) (hQ : ∀ c a w, Q (.panic c) (a.put oi.dst v) w → Q (.panic c) a w := by exact fun _ _ _ h => h)
    (ht : Region.wanted oi (yielded ops a.tmps) = true := by rfl) (hy : ∀ w, S w → (execOp a.eval oi).run P w = .ok (.value v) w := by rintro w' ⟨s0, s1, s2, s3, s4, s5, s6, s7, s8, s9, s10, s11, s12, s13, s14, s15, s16, s17, s18, s19, s20, s21, s22, s23⟩; go_simp; with_reducible rfl)
    (ha : a.put (some N) v = a' := by simp only [Act.put, List.setIfInBounds_toArray, List.set_cons_zero, List.set_cons_succ, i64_w, i32_w]; rfl) : wpAnyLast P .any ops Q S ds (fuel + 1) l a w :=
  take_ (M n m) hi hN (take_ofW HT.out HW.out hc) hQ (Or.inl ⟨ht, hy⟩) hS ha h
end
end Go.Proofs.YtemcplbldfldlaaDoor.P
/- What a function of rounds tells in the end: small rules to evaluate a printed model, step by step. -/
namespace Go.Proofs.YtemcplbldfldlaaDoor.P
open Go.RowKit Go.Proofs.YtemcplbldfldlaaDoorW.PrintWords Go.Proofs.YtemcplbldfldlaaDoorW.PrintLast Go.Proofs.YtemcplbldfldlaaDoorW.PrintMore
set_option linter.unusedVariables false
set_option linter.unusedSimpArgs false
/-- From some number of rounds on, f tells v. -/
def Ev {α : Type} (f : Nat → Option α) (v : α) : Prop := ∃ K, ∀ k, K ≤ k → f k = some v
namespace Ev
variable {α β : Type}
theorem c {o : Option α} {v : α} (h : o = some v) : Ev (fun _ => o) v := ⟨0, fun _ _ => h⟩
theorem r (v : α) : Ev (fun _ => some v) v := ⟨0, fun _ _ => rfl⟩
theorem s {f : Nat → Option α} {v : α} (h : Ev (fun k => f (k + 1)) v) : Ev f v := by
  obtain ⟨K, h⟩ := h
  refine ⟨K + 1, fun k hk => ?_⟩
  obtain ⟨m, rfl⟩ : ∃ m, k = m + 1 := ⟨k - 1, by omega⟩
  exact h m (by omega)
theorem p {q : Prop} [Decidable q] {a b : Nat → Option α} {v : α} (hq : q) (h : Ev a v) : Ev (fun k => if q then a k else b k) v := by
  obtain ⟨K, h⟩ := h
  exact ⟨K, fun k hk => by simp only [if_pos hq]; exact h k hk⟩
theorem n {q : Prop} [Decidable q] {a b : Nat → Option α} {v : α} (hq : ¬ q) (h : Ev b v) : Ev (fun k => if q then a k else b k) v := by
  obtain ⟨K, h⟩ := h
  exact ⟨K, fun k hk => by simp only [if_neg hq]; exact h k hk⟩
theorem b {a : Nat → Option α} {g : Nat → α → Option β} {x : α} {v : β} (h1 : Ev a x) (h2 : Ev (fun k => g k x) v) : Ev (fun k => (a k).bind (g k)) v := by
  obtain ⟨K1, h1⟩ := h1
  obtain ⟨K2, h2⟩ := h2
  exact ⟨max K1 K2, fun k hk => by simp only [h1 k (by omega), Option.bind_some]; exact h2 k (by omega)⟩
theorem of_mono {f : Nat → Option α} {v : α} (hm : ∀ k, LeO (f k) (f (k + 1))) {k : Nat} (h : f k = some v) : Ev f v := by
  refine ⟨k, fun m hm' => ?_⟩
  obtain ⟨d, rfl⟩ : ∃ d, m = k + d := ⟨m - k, by omega⟩
  clear hm'
  induction d with
  | zero => exact h
  | succ d ih => exact hm (k + d) _ ih
theorem ex {f : Nat → Option α} {v : α} (h : Ev f v) : ∃ k, f k = some v := by
  obtain ⟨K, h⟩ := h
  exact ⟨K, h K (Nat.le_refl _)⟩
theorem congr {f : Nat → Option α} {v w : α} (h : Ev f v) (e : v = w) : Ev f w := e ▸ h
end Ev
theorem w64 {n : Int} (h0 : -9223372036854775808 ≤ n) (h1 : n ≤ 9223372036854775807) : wrap64 n = n := by unfold wrap64; omega
theorem drop_at {α : Type} (l : List α) (i : Nat) (z : α) (h : i < l.length) : l.drop i = l.getD i z :: l.drop (i + 1) := by
  rw [List.drop_eq_getElem_cons h]
  simp [List.getD_eq_getElem?_getD, h]
theorem getD_mem {α : Type} (l : List α) (i : Nat) (z : α) (h : i < l.length) : l.getD i z ∈ l := by
  rw [List.getD_eq_getElem?_getD, List.getElem?_eq_getElem h]
  exact List.getElem_mem h
end Go.Proofs.YtemcplbldfldlaaDoor.P
/- From the reading of an argument (DataW.trod) to the print's kinds: integers, bools, strings, slices, structs. -/
namespace Go.Proofs.YtemcplbldfldlaaDoor.P
open Go.RowKit Go.Proofs.YtemcplbldfldlaaDoorW.PrintWords Go.Proofs.YtemcplbldfldlaaDoorW.PrintLast
set_option linter.unusedVariables false
set_option linter.unusedSimpArgs false

/-- Whatever can be read at type t is of the kind d, and wf. -/
def Rd {α : Type} (P : Program) (d : Kd α) (wf : α → Prop) (t : TypeId) : Prop :=
  ∀ {H : Type} {enc : TypeId × Value → H} {w : World} {fuel : Nat} {cs : List Value} {x : DataW H × List MemPlace},
    DataW.trod enc P w 0 (fun _ => true) true fuel t cs = some x → ∃ a : α, d.K w a cs ∧ wf a
def wfI (k : IntKind) (n : Int) : Prop := (Lit.int k n).wf = true
def wfS (s : ByteArray) : Prop := s.size ≤ 9223372036854775807
def wfB (_ : Bool) : Prop := True
def wfL {α : Type} (wf : α → Prop) (l : List α) : Prop := (∀ x ∈ l, wf x) ∧ l.length ≤ 9223372036854775807
theorem wfI_i64 {n : Int} (h : wfI .i64 n) : -9223372036854775808 ≤ n ∧ n ≤ 9223372036854775807 := by
  simp [wfI, Lit.wf, IntKind.min, IntKind.max, IntKind.signed, IntKind.bits] at h
  omega
section
variable {P : Program} {t e : TypeId}
theorem Rd.int {k : IntKind} (ht : P.underlying t = some (.int k)) : Rd P (Kd.int k) (wfI k) t := by
  intro H enc w fuel cs x h
  obtain ⟨n, rfl, _, hw⟩ := DataW.trod_int ht h
  exact ⟨n, rfl, hw⟩
theorem Rd.bool (ht : P.underlying t = some .bool) : Rd P Kd.bool wfB t := by
  intro H enc w fuel cs x h
  obtain ⟨b, rfl, _⟩ := DataW.trod_bool ht h
  exact ⟨b, rfl, trivial⟩
theorem Rd.string (ht : P.underlying t = some .string) : Rd P Kd.string wfS t := by
  intro H enc w fuel cs x h
  obtain ⟨s, rfl, _, hs⟩ := DataW.trod_string ht h
  exact ⟨s, rfl, by simpa [wfS, maxLen] using hs⟩
theorem mapM_some {α β : Type} {f : α → Option β} : ∀ {l : List α} {ys : List β}, l.mapM f = some ys → ys.length = l.length ∧ ∀ (i : Nat) (a : α), l[i]? = some a → ∃ y, ys[i]? = some y ∧ f a = some y
  | [], ys, h => by simp at h; subst h; exact ⟨rfl, fun i a ha => by simp at ha⟩
  | a :: l, ys, h => by
    rw [List.mapM_cons] at h
    simp only [Option.bind_eq_bind, Option.bind_eq_some_iff, Option.pure_def, Option.some.injEq] at h
    obtain ⟨y, hy, zs, hz, rfl⟩ := h
    obtain ⟨h1, h2⟩ := mapM_some hz
    refine ⟨by simp [h1], fun i b hb => ?_⟩
    cases i with
    | zero => simp at hb; subst hb; exact ⟨y, by simp, hy⟩
    | succ i => simpa using h2 i b (by simpa using hb)
theorem cells_some {w : World} {a : Addr} {n : Nat} {cs : List Value} (h : w.cells? 0 a n = some cs) : cs.length = n ∧ ∀ (i : Nat) (u : Value), cs[i]? = some u → w.cell? (a.add i) = some u := by
  unfold World.cells? at h
  rw [if_pos (Nat.zero_le _)] at h
  obtain ⟨h1, h2⟩ := mapM_some h
  rw [List.length_range] at h1
  refine ⟨h1, fun i u hu => ?_⟩
  have hi : i < n := by rw [← h1]; exact (List.getElem?_eq_some_iff.1 hu).1
  obtain ⟨y, hy, hc⟩ := h2 i i (by simp [hi])
  rw [hy] at hu
  cases hu
  exact hc
theorem list_of {α : Type} {p : Nat → α → Prop} : ∀ (n : Nat), (∀ i, i < n → ∃ x, p i x) → ∃ xs : List α, xs.length = n ∧ ∀ i x, xs[i]? = some x → p i x
  | 0, _ => ⟨[], rfl, fun i x h => by simp at h⟩
  | n + 1, h => by
    obtain ⟨xs, hl, hx⟩ := list_of n (fun i hi => h i (by omega))
    obtain ⟨y, hy⟩ := h n (by omega)
    refine ⟨xs ++ [y], by simp [hl], fun i x hi => ?_⟩
    rcases Nat.lt_or_ge i xs.length with hlt | hge
    · rw [List.getElem?_append_left hlt] at hi; exact hx i x hi
    · rw [List.getElem?_append_right hge] at hi
      have : i - xs.length = 0 := by
        have := (List.getElem?_eq_some_iff.1 hi).1
        simp at this; omega
      rw [this] at hi
      simp at hi
      subst hi
      rw [show i = n from by omega]
      exact hy
theorem Rd.slice {α : Type} {d : Kd α} {wf : α → Prop} (ht : P.underlying t = some (.slice e)) (hc : P.cellsOf e = d.sz) (r : Rd P d wf e) : Rd P (Kd.slice e d) (wfL wf) t := by
  intro H enc w fuel cs x h
  rcases DataW.trod_slice ht h with ⟨rfl, _⟩ | ⟨a, len, cap, elems, rest, n, rfl, rfl, _, _, hlc, hcm, hel, hget, _⟩
  · exact ⟨[], ⟨none, 0, rfl, Nat.le_refl _, rfl, by simp, fun h0 => absurd h0 (by simp)⟩, ⟨fun x hx => by simp at hx, by simp⟩⟩
  · rw [hc] at hget
    obtain ⟨xs, hxl, hx⟩ := list_of (α := α) (p := fun i x => ∃ c, w.cells? 0 (a.add (i * d.sz)) d.sz = some c ∧ d.K w x c ∧ wf x) len (fun i hi => by
      have h1 := hget i hi
      rw [List.getElem?_eq_getElem (by omega)] at h1
      obtain ⟨c, hc1, hc2⟩ := Option.bind_eq_some_iff.1 h1
      obtain ⟨y, hy, hw⟩ := r hc2
      exact ⟨y, c, hc1, hy, hw⟩)
    subst hxl
    have hml : cap ≤ 9223372036854775807 := by simpa [maxLen] using hcm
    refine ⟨xs, ⟨some a, cap, rfl, hlc, rfl, by omega, fun _ => ⟨a, rfl, fun j p hp => ?_⟩⟩, fun x hxm => ?_, by omega⟩
    · obtain ⟨c, hc1, hc2, _⟩ := hx j p hp
      obtain ⟨h1, h2⟩ := cells_some hc1
      exact ⟨c, h1, hc2, fun i u hu => by rw [← Addr.add_add]; exact h2 i u hu⟩
    · obtain ⟨j, hj, rfl⟩ := List.mem_iff_getElem.1 hxm
      obtain ⟨_, _, _, hw⟩ := hx j _ (List.getElem?_eq_getElem hj)
      exact hw
theorem Rd.iso {α β : Type} {d : Kd α} {wf : α → Prop} (f : β → α) (g : α → β) (hfg : ∀ a, f (g a) = a) (r : Rd P d wf t) : Rd P (Kd.iso d f) (fun b => wf (f b)) t := by
  intro H enc w fuel cs x h
  obtain ⟨a, ha, hw⟩ := r h
  exact ⟨g a, by show d.K w (f (g a)) cs; rw [hfg]; exact ha, by show wf (f (g a)); rw [hfg]; exact hw⟩
theorem pairK {α β : Type} {a : Kd α} {b : Kd β} {w : World} {x : α} {y : β} {cs : List Value} (s : Nat) (h0 : a.K w x (cs.take s)) (h1 : b.K w y (cs.drop s)) : (Kd.pair a b).K w (x, y) cs :=
  ⟨_, _, (List.take_append_drop s cs).symm, h0, h1⟩

theorem Rd.struct2 {α0 α1 : Type} {d0 : Kd α0} {wf0 : α0 → Prop} {d1 : Kd α1} {wf1 : α1 → Prop} {f0 f1 : Field} (hs : P.underlying t = some (.struct #[f0, f1])) (o0 : f0.offset = 0) (c0 : P.cellsOf f0.type = d0.sz) (o1 : f1.offset = d0.sz) (c1 : P.cellsOf f1.type = d1.sz) (c : P.cellsOf t = d0.sz + d1.sz) (r0 : Rd P d0 wf0 f0.type) (r1 : Rd P d1 wf1 f1.type) :
    Rd P (Kd.pair d0 d1) (fun x => wf0 x.1 ∧ wf1 x.2) t := by
  intro H enc w fuel cs x h
  obtain ⟨xs, m, _, _, hcl, hxl, hf⟩ := DataW.trod_struct hs h
  rw [c] at hcl
  have hxl' : xs.length = 2 := hxl
  have h0 := hf 0 f0 rfl
  rw [List.getElem?_eq_getElem (by omega), o0, c0] at h0
  obtain ⟨a0, k0, w0⟩ := r0 h0
  have h1 := hf 1 f1 rfl
  rw [List.getElem?_eq_getElem (by omega), o1, c1] at h1
  obtain ⟨a1, k1, w1⟩ := r1 h1
  rw [List.take_of_length_le (by rw [List.length_drop]; omega)] at k1
  exact ⟨(a0, a1), pairK d0.sz (by simpa [List.drop_drop, Nat.add_assoc] using k0) (by simpa [List.drop_drop, Nat.add_assoc] using k1), ⟨w0, w1⟩⟩
theorem Rd.struct3 {α0 α1 α2 : Type} {d0 : Kd α0} {wf0 : α0 → Prop} {d1 : Kd α1} {wf1 : α1 → Prop} {d2 : Kd α2} {wf2 : α2 → Prop} {f0 f1 f2 : Field} (hs : P.underlying t = some (.struct #[f0, f1, f2])) (o0 : f0.offset = 0) (c0 : P.cellsOf f0.type = d0.sz) (o1 : f1.offset = d0.sz) (c1 : P.cellsOf f1.type = d1.sz) (o2 : f2.offset = d0.sz + d1.sz) (c2 : P.cellsOf f2.type = d2.sz) (c : P.cellsOf t = d0.sz + d1.sz + d2.sz) (r0 : Rd P d0 wf0 f0.type) (r1 : Rd P d1 wf1 f1.type) (r2 : Rd P d2 wf2 f2.type) :
    Rd P (Kd.pair d0 (Kd.pair d1 d2)) (fun x => wf0 x.1 ∧ wf1 x.2.1 ∧ wf2 x.2.2) t := by
  intro H enc w fuel cs x h
  obtain ⟨xs, m, _, _, hcl, hxl, hf⟩ := DataW.trod_struct hs h
  rw [c] at hcl
  have hxl' : xs.length = 3 := hxl
  have h0 := hf 0 f0 rfl
  rw [List.getElem?_eq_getElem (by omega), o0, c0] at h0
  obtain ⟨a0, k0, w0⟩ := r0 h0
  have h1 := hf 1 f1 rfl
  rw [List.getElem?_eq_getElem (by omega), o1, c1] at h1
  obtain ⟨a1, k1, w1⟩ := r1 h1
  have h2 := hf 2 f2 rfl
  rw [List.getElem?_eq_getElem (by omega), o2, c2] at h2
  obtain ⟨a2, k2, w2⟩ := r2 h2
  rw [List.take_of_length_le (by rw [List.length_drop]; omega)] at k2
  exact ⟨(a0, a1, a2), pairK d0.sz (by simpa [List.drop_drop, Nat.add_assoc] using k0) (pairK d1.sz (by simpa [List.drop_drop, Nat.add_assoc] using k1) (by simpa [List.drop_drop, Nat.add_assoc] using k2)), ⟨w0, w1, w2⟩⟩
theorem Rd.struct4 {α0 α1 α2 α3 : Type} {d0 : Kd α0} {wf0 : α0 → Prop} {d1 : Kd α1} {wf1 : α1 → Prop} {d2 : Kd α2} {wf2 : α2 → Prop} {d3 : Kd α3} {wf3 : α3 → Prop} {f0 f1 f2 f3 : Field} (hs : P.underlying t = some (.struct #[f0, f1, f2, f3])) (o0 : f0.offset = 0) (c0 : P.cellsOf f0.type = d0.sz) (o1 : f1.offset = d0.sz) (c1 : P.cellsOf f1.type = d1.sz) (o2 : f2.offset = d0.sz + d1.sz) (c2 : P.cellsOf f2.type = d2.sz) (o3 : f3.offset = d0.sz + d1.sz + d2.sz) (c3 : P.cellsOf f3.type = d3.sz) (c : P.cellsOf t = d0.sz + d1.sz + d2.sz + d3.sz) (r0 : Rd P d0 wf0 f0.type) (r1 : Rd P d1 wf1 f1.type) (r2 : Rd P d2 wf2 f2.type) (r3 : Rd P d3 wf3 f3.type) :
    Rd P (Kd.pair d0 (Kd.pair d1 (Kd.pair d2 d3))) (fun x => wf0 x.1 ∧ wf1 x.2.1 ∧ wf2 x.2.2.1 ∧ wf3 x.2.2.2) t := by
  intro H enc w fuel cs x h
  obtain ⟨xs, m, _, _, hcl, hxl, hf⟩ := DataW.trod_struct hs h
  rw [c] at hcl
  have hxl' : xs.length = 4 := hxl
  have h0 := hf 0 f0 rfl
  rw [List.getElem?_eq_getElem (by omega), o0, c0] at h0
  obtain ⟨a0, k0, w0⟩ := r0 h0
  have h1 := hf 1 f1 rfl
  rw [List.getElem?_eq_getElem (by omega), o1, c1] at h1
  obtain ⟨a1, k1, w1⟩ := r1 h1
  have h2 := hf 2 f2 rfl
  rw [List.getElem?_eq_getElem (by omega), o2, c2] at h2
  obtain ⟨a2, k2, w2⟩ := r2 h2
  have h3 := hf 3 f3 rfl
  rw [List.getElem?_eq_getElem (by omega), o3, c3] at h3
  obtain ⟨a3, k3, w3⟩ := r3 h3
  rw [List.take_of_length_le (by rw [List.length_drop]; omega)] at k3
  exact ⟨(a0, a1, a2, a3), pairK d0.sz (by simpa [List.drop_drop, Nat.add_assoc] using k0) (pairK d1.sz (by simpa [List.drop_drop, Nat.add_assoc] using k1) (pairK d2.sz (by simpa [List.drop_drop, Nat.add_assoc] using k2) (by simpa [List.drop_drop, Nat.add_assoc] using k3))), ⟨w0, w1, w2, w3⟩⟩
theorem Rd.struct5 {α0 α1 α2 α3 α4 : Type} {d0 : Kd α0} {wf0 : α0 → Prop} {d1 : Kd α1} {wf1 : α1 → Prop} {d2 : Kd α2} {wf2 : α2 → Prop} {d3 : Kd α3} {wf3 : α3 → Prop} {d4 : Kd α4} {wf4 : α4 → Prop} {f0 f1 f2 f3 f4 : Field} (hs : P.underlying t = some (.struct #[f0, f1, f2, f3, f4])) (o0 : f0.offset = 0) (c0 : P.cellsOf f0.type = d0.sz) (o1 : f1.offset = d0.sz) (c1 : P.cellsOf f1.type = d1.sz) (o2 : f2.offset = d0.sz + d1.sz) (c2 : P.cellsOf f2.type = d2.sz) (o3 : f3.offset = d0.sz + d1.sz + d2.sz) (c3 : P.cellsOf f3.type = d3.sz) (o4 : f4.offset = d0.sz + d1.sz + d2.sz + d3.sz) (c4 : P.cellsOf f4.type = d4.sz) (c : P.cellsOf t = d0.sz + d1.sz + d2.sz + d3.sz + d4.sz) (r0 : Rd P d0 wf0 f0.type) (r1 : Rd P d1 wf1 f1.type) (r2 : Rd P d2 wf2 f2.type) (r3 : Rd P d3 wf3 f3.type) (r4 : Rd P d4 wf4 f4.type) :
    Rd P (Kd.pair d0 (Kd.pair d1 (Kd.pair d2 (Kd.pair d3 d4)))) (fun x => wf0 x.1 ∧ wf1 x.2.1 ∧ wf2 x.2.2.1 ∧ wf3 x.2.2.2.1 ∧ wf4 x.2.2.2.2) t := by
  intro H enc w fuel cs x h
  obtain ⟨xs, m, _, _, hcl, hxl, hf⟩ := DataW.trod_struct hs h
  rw [c] at hcl
  have hxl' : xs.length = 5 := hxl
  have h0 := hf 0 f0 rfl
  rw [List.getElem?_eq_getElem (by omega), o0, c0] at h0
  obtain ⟨a0, k0, w0⟩ := r0 h0
  have h1 := hf 1 f1 rfl
  rw [List.getElem?_eq_getElem (by omega), o1, c1] at h1
  obtain ⟨a1, k1, w1⟩ := r1 h1
  have h2 := hf 2 f2 rfl
  rw [List.getElem?_eq_getElem (by omega), o2, c2] at h2
  obtain ⟨a2, k2, w2⟩ := r2 h2
  have h3 := hf 3 f3 rfl
  rw [List.getElem?_eq_getElem (by omega), o3, c3] at h3
  obtain ⟨a3, k3, w3⟩ := r3 h3
  have h4 := hf 4 f4 rfl
  rw [List.getElem?_eq_getElem (by omega), o4, c4] at h4
  obtain ⟨a4, k4, w4⟩ := r4 h4
  rw [List.take_of_length_le (by rw [List.length_drop]; omega)] at k4
  exact ⟨(a0, a1, a2, a3, a4), pairK d0.sz (by simpa [List.drop_drop, Nat.add_assoc] using k0) (pairK d1.sz (by simpa [List.drop_drop, Nat.add_assoc] using k1) (pairK d2.sz (by simpa [List.drop_drop, Nat.add_assoc] using k2) (pairK d3.sz (by simpa [List.drop_drop, Nat.add_assoc] using k3) (by simpa [List.drop_drop, Nat.add_assoc] using k4)))), ⟨w0, w1, w2, w3, w4⟩⟩
theorem Rd.struct6 {α0 α1 α2 α3 α4 α5 : Type} {d0 : Kd α0} {wf0 : α0 → Prop} {d1 : Kd α1} {wf1 : α1 → Prop} {d2 : Kd α2} {wf2 : α2 → Prop} {d3 : Kd α3} {wf3 : α3 → Prop} {d4 : Kd α4} {wf4 : α4 → Prop} {d5 : Kd α5} {wf5 : α5 → Prop} {f0 f1 f2 f3 f4 f5 : Field} (hs : P.underlying t = some (.struct #[f0, f1, f2, f3, f4, f5])) (o0 : f0.offset = 0) (c0 : P.cellsOf f0.type = d0.sz) (o1 : f1.offset = d0.sz) (c1 : P.cellsOf f1.type = d1.sz) (o2 : f2.offset = d0.sz + d1.sz) (c2 : P.cellsOf f2.type = d2.sz) (o3 : f3.offset = d0.sz + d1.sz + d2.sz) (c3 : P.cellsOf f3.type = d3.sz) (o4 : f4.offset = d0.sz + d1.sz + d2.sz + d3.sz) (c4 : P.cellsOf f4.type = d4.sz) (o5 : f5.offset = d0.sz + d1.sz + d2.sz + d3.sz + d4.sz) (c5 : P.cellsOf f5.type = d5.sz) (c : P.cellsOf t = d0.sz + d1.sz + d2.sz + d3.sz + d4.sz + d5.sz) (r0 : Rd P d0 wf0 f0.type) (r1 : Rd P d1 wf1 f1.type) (r2 : Rd P d2 wf2 f2.type) (r3 : Rd P d3 wf3 f3.type) (r4 : Rd P d4 wf4 f4.type) (r5 : Rd P d5 wf5 f5.type) :
    Rd P (Kd.pair d0 (Kd.pair d1 (Kd.pair d2 (Kd.pair d3 (Kd.pair d4 d5))))) (fun x => wf0 x.1 ∧ wf1 x.2.1 ∧ wf2 x.2.2.1 ∧ wf3 x.2.2.2.1 ∧ wf4 x.2.2.2.2.1 ∧ wf5 x.2.2.2.2.2) t := by
  intro H enc w fuel cs x h
  obtain ⟨xs, m, _, _, hcl, hxl, hf⟩ := DataW.trod_struct hs h
  rw [c] at hcl
  have hxl' : xs.length = 6 := hxl
  have h0 := hf 0 f0 rfl
  rw [List.getElem?_eq_getElem (by omega), o0, c0] at h0
  obtain ⟨a0, k0, w0⟩ := r0 h0
  have h1 := hf 1 f1 rfl
  rw [List.getElem?_eq_getElem (by omega), o1, c1] at h1
  obtain ⟨a1, k1, w1⟩ := r1 h1
  have h2 := hf 2 f2 rfl
  rw [List.getElem?_eq_getElem (by omega), o2, c2] at h2
  obtain ⟨a2, k2, w2⟩ := r2 h2
  have h3 := hf 3 f3 rfl
  rw [List.getElem?_eq_getElem (by omega), o3, c3] at h3
  obtain ⟨a3, k3, w3⟩ := r3 h3
  have h4 := hf 4 f4 rfl
  rw [List.getElem?_eq_getElem (by omega), o4, c4] at h4
  obtain ⟨a4, k4, w4⟩ := r4 h4
  have h5 := hf 5 f5 rfl
  rw [List.getElem?_eq_getElem (by omega), o5, c5] at h5
  obtain ⟨a5, k5, w5⟩ := r5 h5
  rw [List.take_of_length_le (by rw [List.length_drop]; omega)] at k5
  exact ⟨(a0, a1, a2, a3, a4, a5), pairK d0.sz (by simpa [List.drop_drop, Nat.add_assoc] using k0) (pairK d1.sz (by simpa [List.drop_drop, Nat.add_assoc] using k1) (pairK d2.sz (by simpa [List.drop_drop, Nat.add_assoc] using k2) (pairK d3.sz (by simpa [List.drop_drop, Nat.add_assoc] using k3) (pairK d4.sz (by simpa [List.drop_drop, Nat.add_assoc] using k4) (by simpa [List.drop_drop, Nat.add_assoc] using k5))))), ⟨w0, w1, w2, w3, w4, w5⟩⟩
theorem Rd.struct7 {α0 α1 α2 α3 α4 α5 α6 : Type} {d0 : Kd α0} {wf0 : α0 → Prop} {d1 : Kd α1} {wf1 : α1 → Prop} {d2 : Kd α2} {wf2 : α2 → Prop} {d3 : Kd α3} {wf3 : α3 → Prop} {d4 : Kd α4} {wf4 : α4 → Prop} {d5 : Kd α5} {wf5 : α5 → Prop} {d6 : Kd α6} {wf6 : α6 → Prop} {f0 f1 f2 f3 f4 f5 f6 : Field} (hs : P.underlying t = some (.struct #[f0, f1, f2, f3, f4, f5, f6])) (o0 : f0.offset = 0) (c0 : P.cellsOf f0.type = d0.sz) (o1 : f1.offset = d0.sz) (c1 : P.cellsOf f1.type = d1.sz) (o2 : f2.offset = d0.sz + d1.sz) (c2 : P.cellsOf f2.type = d2.sz) (o3 : f3.offset = d0.sz + d1.sz + d2.sz) (c3 : P.cellsOf f3.type = d3.sz) (o4 : f4.offset = d0.sz + d1.sz + d2.sz + d3.sz) (c4 : P.cellsOf f4.type = d4.sz) (o5 : f5.offset = d0.sz + d1.sz + d2.sz + d3.sz + d4.sz) (c5 : P.cellsOf f5.type = d5.sz) (o6 : f6.offset = d0.sz + d1.sz + d2.sz + d3.sz + d4.sz + d5.sz) (c6 : P.cellsOf f6.type = d6.sz) (c : P.cellsOf t = d0.sz + d1.sz + d2.sz + d3.sz + d4.sz + d5.sz + d6.sz) (r0 : Rd P d0 wf0 f0.type) (r1 : Rd P d1 wf1 f1.type) (r2 : Rd P d2 wf2 f2.type) (r3 : Rd P d3 wf3 f3.type) (r4 : Rd P d4 wf4 f4.type) (r5 : Rd P d5 wf5 f5.type) (r6 : Rd P d6 wf6 f6.type) :
    Rd P (Kd.pair d0 (Kd.pair d1 (Kd.pair d2 (Kd.pair d3 (Kd.pair d4 (Kd.pair d5 d6)))))) (fun x => wf0 x.1 ∧ wf1 x.2.1 ∧ wf2 x.2.2.1 ∧ wf3 x.2.2.2.1 ∧ wf4 x.2.2.2.2.1 ∧ wf5 x.2.2.2.2.2.1 ∧ wf6 x.2.2.2.2.2.2) t := by
  intro H enc w fuel cs x h
  obtain ⟨xs, m, _, _, hcl, hxl, hf⟩ := DataW.trod_struct hs h
  rw [c] at hcl
  have hxl' : xs.length = 7 := hxl
  have h0 := hf 0 f0 rfl
  rw [List.getElem?_eq_getElem (by omega), o0, c0] at h0
  obtain ⟨a0, k0, w0⟩ := r0 h0
  have h1 := hf 1 f1 rfl
  rw [List.getElem?_eq_getElem (by omega), o1, c1] at h1
  obtain ⟨a1, k1, w1⟩ := r1 h1
  have h2 := hf 2 f2 rfl
  rw [List.getElem?_eq_getElem (by omega), o2, c2] at h2
  obtain ⟨a2, k2, w2⟩ := r2 h2
  have h3 := hf 3 f3 rfl
  rw [List.getElem?_eq_getElem (by omega), o3, c3] at h3
  obtain ⟨a3, k3, w3⟩ := r3 h3
  have h4 := hf 4 f4 rfl
  rw [List.getElem?_eq_getElem (by omega), o4, c4] at h4
  obtain ⟨a4, k4, w4⟩ := r4 h4
  have h5 := hf 5 f5 rfl
  rw [List.getElem?_eq_getElem (by omega), o5, c5] at h5
  obtain ⟨a5, k5, w5⟩ := r5 h5
  have h6 := hf 6 f6 rfl
  rw [List.getElem?_eq_getElem (by omega), o6, c6] at h6
  obtain ⟨a6, k6, w6⟩ := r6 h6
  rw [List.take_of_length_le (by rw [List.length_drop]; omega)] at k6
  exact ⟨(a0, a1, a2, a3, a4, a5, a6), pairK d0.sz (by simpa [List.drop_drop, Nat.add_assoc] using k0) (pairK d1.sz (by simpa [List.drop_drop, Nat.add_assoc] using k1) (pairK d2.sz (by simpa [List.drop_drop, Nat.add_assoc] using k2) (pairK d3.sz (by simpa [List.drop_drop, Nat.add_assoc] using k3) (pairK d4.sz (by simpa [List.drop_drop, Nat.add_assoc] using k4) (pairK d5.sz (by simpa [List.drop_drop, Nat.add_assoc] using k5) (by simpa [List.drop_drop, Nat.add_assoc] using k6)))))), ⟨w0, w1, w2, w3, w4, w5, w6⟩⟩
end
end Go.Proofs.YtemcplbldfldlaaDoor.P
/- copy onto a row of the call's own, of elements of any kind, all of it: the row is the source's then. Condition: both have one length. -/
namespace Go.Proofs.YtemcplbldfldlaaDoor.P
open Go.RowKit Go.Proofs.YtemcplbldfldlaaDoorW.PrintWords Go.Proofs.YtemcplbldfldlaaDoorW.PrintLast Go.Proofs.YtemcplbldfldlaaDoorW.PrintMore
set_option linter.unusedVariables false
section
variable {P : Program} {ops : Array Oper} {rest : List Oper} {o : Oper} {a : Act} {Q : Exit → Act → World → Prop} {α : Type} {W : World}
theorem run_copy_all (d : Kd α) (base : Nat) (t t' ty e : TypeId) (ht : P.underlying t = some (.slice e)) (hinfo : (P.info? e).map (·.size) = some d.sz) (hs0 : 0 < d.sz)
    (v : Value) (xs ys : List α) (A : Option Addr) (m c : Nat) (ok : Nat → Prop) (HO : d.R e W base ok v xs) (HR : d.C W A m ys) (hKM : ∀ x cs W' okp, d.K W x cs → d.M W' base okp x cs) (hm : m = xs.length) :
    ∃ w1, (Builtin.copy_ #[t, t'] ty #[v, .slice A m c]).run P W = .ok (goInt m) w1 ∧ d.R e w1 base ok v ys ∧ W.grownBy w1 v.ownBlock := by
  obtain ⟨i0, hi, hi0⟩ := Option.map_eq_some_iff.1 hinfo
  obtain ⟨hok, inner, hown, hr⟩ := HO
  have hl : ys.length = m := HR.1
  rcases Nat.eq_zero_or_pos m with h0 | hp
  · subst h0
    obtain rfl : ys = [] := List.eq_nil_of_length_eq_zero hl
    obtain rfl : xs = [] := List.eq_nil_of_length_eq_zero hm.symm
    have hld : ∀ (x : Addr), (loadCells x 0).run P W = .ok #[] W := fun x => by simpa using run_loadCells_list (P := P) W x [] (by simp)
    refine ⟨W, ?_, ⟨hok, inner, hown, hr⟩, World.grownBy.refl W _⟩
    rcases hown.2 with ⟨rfl, _⟩ | ⟨g, cap, cur, rfl, _⟩ <;> cases A <;> simp [Builtin.copy_, run_underlying ht, Builtin.lenOf, Builtin.firstCells, sizeOf, typeInfo, hi, storeCells, hld]
  · obtain ⟨ad, rfl, _⟩ := HR.2.2 hp
    obtain ⟨news, hnr, hnc⟩ := ReadsRow.inner_ HR
    have hnl : news.length = m * d.sz := by rw [hnr.1, hl]
    have hone : ∀ u ∈ news, u.oneCell' = true := by
      intro u hu
      obtain ⟨q, hq, rfl⟩ := List.mem_iff_getElem.1 hu
      have hql : q / d.sz < ys.length := by
        rw [Nat.div_lt_iff_lt_mul hs0, ← hnr.1]
        exact hq
      have hc := hnr.2 (q / d.sz) _ (List.getElem?_eq_getElem hql)
      refine d.K_one hc _ ?_
      rw [List.mem_iff_getElem?]
      refine ⟨q % d.sz, ?_⟩
      rw [List.getElem?_take, if_pos (Nat.mod_lt _ hs0), List.getElem?_drop, Nat.mul_comm, Nat.div_add_mod, List.getElem?_eq_getElem hq]
    rcases hown.2 with ⟨_, hx0⟩ | ⟨g, cap, cur, rfl, hb, hh, hnc', hcm, hcs, htake⟩
    · omega
    have hfit : m * d.sz ≤ cap * d.sz := Nat.mul_le_mul_right _ (hm ▸ hnc')
    have hload := run_loadCells_list (P := P) W ad news hnc
    have hst := run_storeCells_at P g 0 e news 0 cur W hh (by rw [hnl, hcs]; omega) hone
    have hrun : (Builtin.copy_ #[t, t'] ty #[.slice (some ⟨g, 0, none⟩) xs.length cap, .slice (some ad) m c]).run P W = .ok (goInt m) (W.setRow g (cur.toList.take (0 + 0) ++ news ++ cur.toList.drop (0 + 0 + news.length)).toArray) := by
      have hmin : Nat.min m xs.length = m := by rw [hm]; exact Nat.min_self _
      rw [hnl] at hload
      generalize W.setRow g (cur.toList.take (0 + 0) ++ news ++ cur.toList.drop (0 + 0 + news.length)).toArray = W2 at hst ⊢
      simp [Builtin.copy_, run_underlying ht, Builtin.lenOf, Builtin.firstCells, sizeOf, typeInfo, hi, hi0, hmin, hload, hst]
    have hh1 := setRow_heap W g cur (cur.toList.take (0 + 0) ++ news ++ cur.toList.drop (0 + 0 + news.length)).toArray e (0, 0) hh
    refine ⟨_, hrun, ⟨hok, news, ⟨by rw [hnl, hl], .inr ⟨g, cap, _, by rw [hl, hm], hb, hh1, by rw [hl, hm]; exact hnc', hcm, ?_, ?_⟩⟩, ⟨hnr.1, fun j p hj => hKM _ _ _ _ (hnr.2 j p hj)⟩⟩, ?_⟩
    · simp only [Nat.add_zero, List.take_zero, List.nil_append, Nat.zero_add, List.size_toArray, List.length_append, List.length_drop, Array.length_toList]
      omega
    · simp only [Nat.add_zero, List.take_zero, List.nil_append, Nat.zero_add]
      rw [List.take_left' (by rw [hnl, hl])]
    · exact ⟨rfl, rfl, rfl, by simp [World.setRow], fun k hk hk2 => setRow_other W g k _ (fun he => hk2 (by simp [Value.ownBlock, he]))⟩
theorem R_copy_all (d : Kd α) {w0 : World} (base : Nat) (hgd : o.guard = none) (s x : Operand) (t t' e : TypeId)
    (ho : o.op = .call { callee := .builtin .copy, args := #[s, x], argTypes := #[t, t'] }) (ht : P.underlying t = some (.slice e)) (hinfo : (P.info? e).map (·.size) = some d.sz) (hs0 : 0 < d.sz)
    (v : Value) (xs ys : List α) (A : Option Addr) (m c : Nat) (ok : Nat → Prop) (hs : a.eval s = v) (hx : a.eval x = .slice A m c)
    (HO : d.R e W base ok v xs) (HR : d.C W A m ys) (hKM : ∀ x cs W' okp, d.K W x cs → d.M W' base okp x cs) (hm : m = xs.length) (HB : Below base w0 W) (hbase : base ≤ W.heap.size)
    (h : ∀ w1, d.R e w1 base ok v ys → Below base w0 w1 → wpList P ops Q rest (a.put o.dst (.int .i64 (m : Int))) w1) : wpList P ops Q (o :: rest) a W := by
  obtain ⟨w1, hr, h1, hg⟩ := run_copy_all d base t t' o.type e ht hinfo hs0 v xs ys A m c ok HO HR hKM hm
  obtain ⟨_, inner, hown, _⟩ := HO
  refine wpList_plain hgd fun K hK => ?_
  unfold Oper.wp execOp
  simp only [ho, resolve, invoke, builtin, Sem.run_bind, Sem.run_pure, Result.andThen_ok, List.map_toArray, List.map_cons, List.map_nil, hs, hx, hr]
  exact hK _ _ (h w1 h1 (HB.grown hg hbase (own_base hown)))
end
end Go.Proofs.YtemcplbldfldlaaDoor.P
/- What a copied row of boxes holds. -/
namespace Go.Proofs.YtemcplbldfldlaaDoor.P
open Go.RowKit Go.Proofs.YtemcplbldfldlaaDoorW.PrintWords Go.Proofs.YtemcplbldfldlaaDoorW.PrintLast Go.Proofs.YtemcplbldfldlaaDoorW.PrintMore
set_option linter.unusedVariables false
set_option linter.unusedSimpArgs false
def api_Box.f (l0 : List S40) : Option (List S40) := if l0.length ≤ 1000000 then some l0 else none
theorem api_Box.spec {l r : List S40} (h : api_Box.f l = some r) : l.length ≤ 1000000 ∧ r = l := by
  unfold api_Box.f at h
  by_cases c : l.length ≤ 1000000
  · rw [if_pos c] at h; exact ⟨c, (Option.some.inj h).symm⟩
  · rw [if_neg c] at h; cases h
end Go.Proofs.YtemcplbldfldlaaDoor.P
/- slices.SortStableFunc of at most 20 ints: insertion sort, by a test that compares keys. -/
namespace Go.Proofs.YtemcplbldfldlaaDoor.P
open Go.RowKit Go.Proofs.YtemcplbldfldlaaDoorW.PrintWords Go.Proofs.YtemcplbldfldlaaDoorW.PrintLast Go.Proofs.YtemcplbldfldlaaDoorW.PrintMore
set_option linter.unusedVariables false
set_option linter.unusedSimpArgs false
/-- A row of ints, and what lies behind it in its block. -/
def intRow (xs : List Int) (tail : List Value) : Array Value := (xs.map (Value.int .i64) ++ tail).toArray
theorem irow_cell {W : World} {g : Nat} {xs : List Int} {tail : List Value} {t : Nat} (h : W.heap[g]? = some (.cells (intRow xs tail) t (0, 0))) (j : Nat) (hj : j < xs.length) : W.cell? ⟨g, j, none⟩ = some (.int .i64 (xs.getD j 0)) := by
  simp [World.cell?, h, intRow, hj, List.getElem?_append]
theorem irow_free {W : World} {g : Nat} {xs : List Int} {tail : List Value} {t : Nat} (h : W.heap[g]? = some (.cells (intRow xs tail) t (0, 0))) (j : Nat) : W.frozen? ⟨g, j, none⟩ = false := by
  simp [World.frozen?, h]
theorem irow_set {W : World} {g : Nat} {xs : List Int} {tail : List Value} {t : Nat} (h : W.heap[g]? = some (.cells (intRow xs tail) t (0, 0))) (j : Nat) (hj : j < xs.length) (v : Int) :
    (W.setCell ⟨g, j, none⟩ (.int .i64 v)).heap[g]? = some (.cells (intRow (xs.set j v) tail) t (0, 0)) := by
  simp [World.setCell, Array.getElem?_modify, h, intRow, List.map_set, List.set_append, hj]
/-- The last elements first: where x goes. -/
def insR (key : Int → Int) (x : Int) : List Int → List Int
  | [] => [x]
  | y :: r => if key x < key y then y :: insR key x r else x :: y :: r
/-- What the insertion sort makes. -/
def isort (key : Int → Int) (xs : List Int) : List Int := (xs.foldl (fun p x => insR key x p) []).reverse
theorem insR_len (key : Int → Int) (x : Int) : ∀ p, (insR key x p).length = p.length + 1
  | [] => rfl
  | y :: r => by unfold insR; split <;> simp [insR_len key x r]
theorem insR_mem (key : Int → Int) (x z : Int) : ∀ p, z ∈ insR key x p ↔ z = x ∨ z ∈ p
  | [] => by simp [insR]
  | y :: r => by
    unfold insR; split
    · simp only [List.mem_cons, insR_mem key x z r]
      constructor
      · rintro (h | h | h) <;> simp [h]
      · rintro (h | h | h) <;> simp [h]
    · simp
theorem vi {k : IntKind} {a b : Int} (h : a = b) : Value.int k a = Value.int k b := h ▸ rfl
def cmpI (a b : Int) : Int := if a < b then -1 else if a > b then 1 else 0
theorem cmpI_neg (a b : Int) : cmpI a b < 0 ↔ a < b := by
  unfold cmpI
  by_cases h : a < b
  · rw [if_pos h]; simp [h]
  · rw [if_neg h]
    by_cases h2 : a > b
    · rw [if_pos h2]; simp [h]
    · rw [if_neg h2]; simp [h]
/-- The first m, sorted, the last ones first. -/
def pre (key : Int → Int) (xs : List Int) (m : Nat) : List Int := (xs.take m).foldl (fun p x => insR key x p) []
theorem pre_succ (key : Int → Int) (xs : List Int) (m : Nat) (h : m < xs.length) : pre key xs (m + 1) = insR key (xs.getD m 0) (pre key xs m) := by
  unfold pre
  rw [List.take_succ_eq_append_getElem h, List.foldl_append]
  simp [List.getD_eq_getElem?_getD, h]
theorem foldIns_len (key : Int → Int) : ∀ (l p : List Int), (l.foldl (fun p x => insR key x p) p).length = l.length + p.length
  | [], p => by simp
  | x :: l, p => by rw [List.foldl_cons, foldIns_len key l, insR_len, List.length_cons]; omega
theorem pre_len (key : Int → Int) (xs : List Int) (m : Nat) (h : m ≤ xs.length) : (pre key xs m).length = m := by
  unfold pre; rw [foldIns_len, List.length_take]; simp; omega
theorem foldIns_mem (key : Int → Int) (z : Int) : ∀ (l p : List Int), z ∈ l.foldl (fun p x => insR key x p) p ↔ z ∈ l ∨ z ∈ p
  | [], p => by simp
  | x :: l, p => by
    rw [List.foldl_cons, foldIns_mem key z l, insR_mem]
    simp only [List.mem_cons]
    constructor
    · rintro (h | h | h) <;> simp [h]
    · rintro ((h | h) | h) <;> simp [h]
theorem pre_all (key : Int → Int) (xs : List Int) (m : Nat) (h : xs.length ≤ m) : (pre key xs m).reverse = isort key xs := by
  unfold pre isort; rw [List.take_of_length_le h]
theorem pre_one (key : Int → Int) (xs : List Int) : (pre key xs 1).reverse ++ xs.drop 1 = xs := by
  cases xs with
  | nil => rfl
  | cons x l => simp [pre, insR]
/-- The row while x sinks: p2 lies before it, qs (turned) behind it. -/
def sinkRow (p2 qs : List Int) (x : Int) (rest : List Int) : List Int := p2.reverse ++ x :: (qs.reverse ++ rest)
theorem sink_end (key : Int → Int) (p2 qs : List Int) (x : Int) (rest p : List Int) (h : p = qs ++ x :: p2) : sinkRow p2 qs x rest = p.reverse ++ rest := by
  subst h; simp [sinkRow]
theorem sink_len (p2 qs : List Int) (x : Int) (rest : List Int) : (sinkRow p2 qs x rest).length = p2.length + 1 + qs.length + rest.length := by simp [sinkRow]; omega
theorem sink_x (y : Int) (p3 qs : List Int) (x : Int) (rest : List Int) : (sinkRow (y :: p3) qs x rest).getD (p3.length + 1) 0 = x := by
  simp [sinkRow, List.getD_eq_getElem?_getD, List.getElem?_append]
theorem sink_y (y : Int) (p3 qs : List Int) (x : Int) (rest : List Int) : (sinkRow (y :: p3) qs x rest).getD p3.length 0 = y := by
  simp [sinkRow, List.getD_eq_getElem?_getD, List.getElem?_append]
theorem sink_swap (y : Int) (p3 qs : List Int) (x : Int) (rest : List Int) : ((sinkRow (y :: p3) qs x rest).set (p3.length + 1) y).set p3.length x = sinkRow p3 (qs ++ [y]) x rest := by
  have h1 : sinkRow (y :: p3) qs x rest = p3.reverse ++ (y :: x :: (qs.reverse ++ rest)) := by simp [sinkRow]
  rw [h1, List.set_append_right _ _ (by simp), List.set_append_right _ _ (by simp)]
  simp [sinkRow]
/-- Where the inner loop stands. -/
structure Sink (key : Int → Int) (xs : List Int) (tail : List Value) (b base m : Nat) (w : World) (p2 qs : List Int) (W : World) : Prop where
  row : W.heap[b]? = some (.cells (intRow (sinkRow p2 qs (xs.getD m 0) (xs.drop (m + 1))) tail) 3 (0, 0))
  below : Below base w W
  so : insR key (xs.getD m 0) (pre key xs m) = qs ++ insR key (xs.getD m 0) p2
  len : p2.length + qs.length = m
theorem Sink.mem {key : Int → Int} {xs : List Int} {tail : List Value} {b base m : Nat} {w : World} {p2 qs : List Int} {W : World} (h : Sink key xs tail b base m w p2 qs W) (hm : m < xs.length) (y : Int) (p3 : List Int) (e : p2 = y :: p3) : y ∈ xs ∧ xs.getD m 0 ∈ xs := by
  have hx : xs.getD m 0 ∈ xs := by
    rw [List.getD_eq_getElem?_getD, List.getElem?_eq_getElem hm]
    exact List.getElem_mem hm
  refine ⟨?_, hx⟩
  have h1 : y ∈ insR key (xs.getD m 0) (pre key xs m) := by
    rw [h.so, e]
    exact List.mem_append.2 (.inr ((insR_mem _ _ _ _).2 (.inr (by simp))))
  rcases (insR_mem _ _ _ _).1 h1 with h2 | h2
  · rw [h2]; exact hx
  · rcases (foldIns_mem key y (xs.take m) []).1 h2 with h3 | h3
    · exact List.mem_of_mem_take h3
    · cases h3
theorem Sink.start {key : Int → Int} {xs : List Int} {tail : List Value} {b base m : Nat} {w W : World} (hm : m < xs.length) (hr : W.heap[b]? = some (.cells (intRow ((pre key xs m).reverse ++ xs.drop m) tail) 3 (0, 0))) (hb : Below base w W) : Sink key xs tail b base m w (pre key xs m) [] W where
  row := by
    have : (pre key xs m).reverse ++ xs.drop m = sinkRow (pre key xs m) [] (xs.getD m 0) (xs.drop (m + 1)) := by
      rw [List.drop_eq_getElem_cons hm]
      simp [sinkRow, List.getD_eq_getElem?_getD, hm]
    rw [← this]; exact hr
  below := hb
  so := rfl
  len := by rw [pre_len _ _ _ (by omega)]; simp
theorem Sink.stop {key : Int → Int} {xs : List Int} {tail : List Value} {b base m : Nat} {w W : World} {p2 qs : List Int} (h : Sink key xs tail b base m w p2 qs W) (hm : m < xs.length) (hs : insR key (xs.getD m 0) p2 = xs.getD m 0 :: p2) :
    W.heap[b]? = some (.cells (intRow ((pre key xs (m + 1)).reverse ++ xs.drop (m + 1)) tail) 3 (0, 0)) := by
  have h1 := h.row
  rwa [sink_end key p2 qs (xs.getD m 0) (xs.drop (m + 1)) (pre key xs (m + 1)) (by rw [pre_succ _ _ _ hm, h.so, hs])] at h1
theorem Sink.swap {key : Int → Int} {xs : List Int} {tail : List Value} {b base m : Nat} {w W : World} {y : Int} {p3 qs : List Int} (h : Sink key xs tail b base m w (y :: p3) qs W) (hb : base ≤ b) (hlt : key (xs.getD m 0) < key y) (n : Nat) :
    Sink key xs tail b base m w p3 (qs ++ [y]) (((W.drewN n).setCell ⟨b, p3.length + 1, none⟩ (.int .i64 y)).setCell ⟨b, p3.length, none⟩ (.int .i64 (xs.getD m 0))) where
  row := by
    rw [← sink_swap]
    have hl := sink_len (y :: p3) qs (xs.getD m 0) (xs.drop (m + 1))
    simp only [List.length_cons] at hl
    refine irow_set (irow_set (blk_drewN h.row n) _ (by omega) _) _ ?_ _
    rw [List.length_set]; omega
  below := ((pw_below_drewN h.below n).setCell (p := ⟨b, p3.length + 1, none⟩) hb _).setCell (p := ⟨b, p3.length, none⟩) hb _
  so := by rw [h.so, insR, if_pos hlt, List.append_assoc]; rfl
  len := by have := h.len; simp only [List.length_cons, List.length_append, List.length_nil] at this ⊢; omega
set_option maxHeartbeats 4000000 in
set_option maxRecDepth 100000 in
theorem insertionSort_calls (g : Nat) (lb : Array Value) (key : Int → Int) (eg : ∀ args w, (callFunc g args).run Tryd.prog w = .ok (.enter g args) w) (b cap base : Nat) (xs : List Int) (tail : List Value) (w : World)
    (hb : base ≤ b) (hlen : xs.length ≤ 1000) (hbase : base ≤ w.heap.size) (hrow : w.heap[b]? = some (.cells (intRow xs tail) 3 (0, 0)))
    (hp : ∀ (W : World) (i j : Int), Below base w W → i ∈ xs → j ∈ xs → Calls Tryd.prog g (#[.int .i64 i, .int .i64 j] ++ lb) W fun e w' => e = .returned (.int .i64 (cmpI (key i) (key j))) ∧ ∃ q, w' = W.drewN q) :
    Calls Tryd.prog 60 #[.slice (some ⟨b, 0, none⟩) xs.length cap, .int .i64 0, .int .i64 xs.length, .func (.func g) #[] lb] w fun e w' => e = .returned (.tuple #[]) ∧ w'.heap[b]? = some (.cells (intRow (isort key xs) tail) 3 (0, 0)) ∧ Below base w w' := by
  have HP := Lib.hid hp
  have HR0 := Lib.hid hrow
  clear hp hrow
  go_enter Tryd.func60, Tryd.ntmps60
  go_wp2
  go_loopg [8, 9] xs.length (fun gg s8 _ wr => ∃ m : Nat, 1 ≤ m ∧ m ≤ xs.length + 1 ∧ xs.length - m ≤ gg ∧ s8 = .int .i64 m ∧ Aside (wr.heap[b]? = some (.cells (intRow ((pre key xs m).reverse ++ xs.drop m) tail) 3 (0, 0))) ∧ Aside (Below base w wr))
  case atStart => exact ⟨1, Nat.le_refl _, by omega, by omega, rfl, (by rw [pre_one]; exact HR0.out), Below.refl _ w⟩
  case round =>
    obtain ⟨m, hm1, hm2, hg, rfl, RW, BW⟩ := hrel
    by_cases hlt : m < xs.length
    · have hltz : (m : Int) < (xs.length : Int) := by omega
      have hS0 := Lib.hid (Sink.start hlt RW.out BW.out)
      have hpl := pre_len key xs m (by omega)
      generalize hp0 : pre key xs m = p0 at hS0 hpl
      have HP0 := Lib.hid hp0
      clear hp0 RW BW
      go_wp2
      go_loopg [9] m (fun g2 s9 wr2 => ∃ (j : Nat) (p2 qs : List Int), j = p2.length ∧ j ≤ g2 ∧ s9 = .int .i64 j ∧ Aside (Sink key xs tail b base m w p2 qs wr2))
      case atStart => exact ⟨m, p0, [], hpl.symm, Nat.le_refl _, rfl, hS0.out⟩
      case round =>
        obtain ⟨j, p2, qs, hj, hg2, rfl, SK⟩ := hrel
        cases p2 with
        | nil =>
          have hend := Lib.hid (SK.out.stop hlt rfl)
          have hbe := Lib.hid SK.out.below
          clear SK
          have hz : ¬ (j : Int) > 0 := by simp at hj; omega
          go_wp2
          go_quiet (fail)
          go_wp2
          go_roundg (xs.length - (m + 1))
          case measure => omega
          case rel => exact ⟨m + 1, by omega, by omega, by omega, by go_num, blk_drewN hend.out _, pw_below_drewN hbe.out _⟩
        | cons y p3 =>
          have hmem := SK.out.mem hlt y p3 rfl
          have hc : ∀ nq, _ := fun nq => HP.out (wr.drewN nq) (xs.getD m 0) y (pw_below_drewN SK.out.below nq) hmem.2 hmem.1
          have hlen2 := SK.out.len
          have hrl : (sinkRow (y :: p3) qs (xs.getD m 0) (xs.drop (m + 1))).length = xs.length := by rw [sink_len, List.length_drop]; omega
          simp only [List.length_cons] at hj hlen2
          have hcx := irow_cell SK.out.row j (by rw [hrl]; omega)
          have hcy := irow_cell SK.out.row (j - 1) (by rw [hrl]; omega)
          rw [hj, sink_x] at hcx
          rw [show j - 1 = p3.length from by omega, sink_y] at hcy
          rw [← hj] at hcx
          generalize hk : p3.length = k at hcy hj hlen2
          generalize hx : xs.getD m 0 = x at hcx hc
          have HX := Lib.hid hx
          have HK := Lib.hid hk
          clear hx hk hrl
          have j1 : (j : Int) > 0 := by omega
          have j1n : 0 < j := by omega
          have j3n : j < xs.length := by omega
          have j4n : k < xs.length := by omega
          have j2 : IntKind.i64.wrap ((j : Int) - 1) = (k : Int) := by rw [IntKind.wrap_i64]; omega
          have j3 : (j : Int) < (xs.length : Int) := by omega
          have HJ := Lib.hid hj
          have HL2 := Lib.hid hlen2
          have j0 : ¬ (j : Int) < 0 := by omega
          have k0 : (0 : Int) ≤ (k : Int) := by omega
          clear hj hlen2
          have j4 : (k : Int) < (xs.length : Int) := by have := HJ.out; omega
          by_cases hlt2 : key x < key y
          · have hneg := (cmpI_neg _ _).2 hlt2
            generalize cmpI (key x) (key y) = cc at hc hneg
            go_wp2
            go_quiet (exact Calls.quiet_of (hc _))
            have fx := irow_free SK.out.row j
            have fy := irow_free SK.out.row k
            have hjk : ¬ j = k := by have := HJ.out; omega
            have hkj : ¬ k = j := by have := HJ.out; omega
            go_wp2
            go_region
            go_wp2
            go_roundg k
            case measure => have := HJ.out; omega
            case rel =>
              refine ⟨k, p3, qs ++ [y], HK.out.symm, Nat.le_refl _, rfl, ?_⟩
              have h1 := SK.out.swap hb (by rw [HX.out]; exact hlt2) (nq + 1)
              rw [HK.out, HX.out, ← HJ.out] at h1
              exact h1
          · have hneg : ¬ cmpI (key x) (key y) < 0 := fun h => hlt2 ((cmpI_neg _ _).1 h)
            generalize cmpI (key x) (key y) = cc at hc hneg
            have hend := Lib.hid (SK.out.stop hlt (by rw [HX.out]; simp [insR, hlt2]))
            have hbe := Lib.hid SK.out.below
            clear SK
            go_wp2
            go_quiet (exact Calls.quiet_of (hc _))
            go_wp2
            go_roundg (xs.length - (m + 1))
            case measure => omega
            case rel => exact ⟨m + 1, by omega, by omega, by omega, by go_num, blk_drewN hend.out _, pw_below_drewN hbe.out _⟩
    · have hltz : ¬ (m : Int) < (xs.length : Int) := by omega
      go_wp2
      go_end0
      have hm3 : m = xs.length ∨ m = xs.length + 1 := by omega
      have h1 := RW.out
      rw [pre_all key xs m (by omega), List.drop_eq_nil_of_le (by omega), List.append_nil] at h1
      exact ⟨rfl, h1, BW.out⟩
set_option maxHeartbeats 1000000 in
theorem insertionSort_none (g : Nat) (lb : Array Value) (b cap : Nat) (w : World) :
    Calls Tryd.prog 60 #[.slice (some ⟨b, 0, none⟩) 20 cap, .int .i64 20, .int .i64 20, .func (.func g) #[] lb] w fun e w' => e = .returned (.tuple #[]) ∧ w' = w := by
  go_enter Tryd.func60, Tryd.ntmps60
  go_wp2
  refine wp_loop_rounds 1 ?_
  rw [rounds_succ]
  go_wp2
  go_end0
  exact ⟨rfl, rfl⟩
set_option maxHeartbeats 1000000 in
set_option maxRecDepth 100000 in
theorem stableSort_calls (g : Nat) (lb : Array Value) (key : Int → Int) (eg : ∀ args w, (callFunc g args).run Tryd.prog w = .ok (.enter g args) w) (b cap base : Nat) (xs : List Int) (tail : List Value) (w : World)
    (hb : base ≤ b) (hlen : xs.length ≤ 20) (hbase : base ≤ w.heap.size) (hrow : w.heap[b]? = some (.cells (intRow xs tail) 3 (0, 0)))
    (hp : ∀ (W : World) (i j : Int), Below base w W → i ∈ xs → j ∈ xs → Calls Tryd.prog g (#[.int .i64 i, .int .i64 j] ++ lb) W fun e w' => e = .returned (.int .i64 (cmpI (key i) (key j))) ∧ ∃ q, w' = W.drewN q) :
    Calls Tryd.prog 44 #[.slice (some ⟨b, 0, none⟩) xs.length cap, .func (.func g) #[] lb] w fun e w' => e = .returned (.tuple #[]) ∧ w'.heap[b]? = some (.cells (intRow (isort key xs) tail) 3 (0, 0)) ∧ Below base w w' := by
  have hc := insertionSort_calls g lb key eg b cap base xs tail w hb (by omega) hbase hrow hp
  have hst : Calls Tryd.prog 53 #[.slice (some ⟨b, 0, none⟩) xs.length cap, .int .i64 xs.length, .func (.func g) #[] lb] w fun e w' => e = .returned (.tuple #[]) ∧ w'.heap[b]? = some (.cells (intRow (isort key xs) tail) 3 (0, 0)) ∧ Below base w w' := by
    clear hp
    have HC := Lib.hid hc
    clear hc
    by_cases h20 : xs.length = 20
    · rw [h20] at HC ⊢
      have hnone := fun W => insertionSort_none g lb b cap W
      go_enter Tryd.func53, Tryd.ntmps53
      go_wp2
      refine wp_loop_rounds 2 ?_
      rw [rounds_succ]
      go_wp2_with (go_at_call 60; refine HC.out.mono ?_; rintro e w1 ⟨rfl, hr1, hb1⟩; have HR1 := Lib.hid hr1; have HB1 := Lib.hid hb1; clear hr1 hb1)
      rw [rounds_succ]
      go_wp2_with (go_at_call 60; refine (hnone w1).mono ?_; rintro e w2 ⟨rfl, rfl⟩)
      refine wp_loop_rounds 1 ?_
      rw [rounds_succ]
      go_wp2
      go_end0
      exact ⟨rfl, HR1.out, HB1.out⟩
    · have h1 : ¬ (20 : Int) ≤ (xs.length : Int) := by omega
      have h2 : ¬ (20 : Int) < (xs.length : Int) := by omega
      go_enter Tryd.func53, Tryd.ntmps53
      go_wp2
      refine wp_loop_rounds 1 ?_
      rw [rounds_succ]
      go_wp2_with (go_at_call 60; refine HC.out.mono ?_; rintro e w1 ⟨rfl, hr1, hb1⟩; have HR1 := Lib.hid hr1; have HB1 := Lib.hid hb1; clear hr1 hb1)
      refine wp_loop_rounds 1 ?_
      rw [rounds_succ]
      go_wp2
      go_end0
      exact ⟨rfl, HR1.out, HB1.out⟩
  clear hc hp
  go_enter Tryd.func44, Tryd.ntmps44
  go_wp2_with (go_at_call 53; refine hst.mono ?_; rintro e w1 ⟨rfl, hr1, hb1⟩)
  go_end0
  exact ⟨rfl, hr1, hb1⟩
set_option maxHeartbeats 1000000 in
/-- The same of nil. -/
theorem stableSort_nil (g : Nat) (lb : Array Value) (w : World) :
    Calls Tryd.prog 44 #[.slice none 0 0, .func (.func g) #[] lb] w fun e w' => e = .returned (.tuple #[]) ∧ w' = w := by
  have h1 : Calls Tryd.prog 60 #[.slice none 0 0, .int .i64 0, .int .i64 0, .func (.func g) #[] lb] w fun e w' => e = .returned (.tuple #[]) ∧ w' = w := by
    go_enter Tryd.func60, Tryd.ntmps60
    go_wp2
    refine wp_loop_rounds 1 ?_
    rw [rounds_succ]
    go_wp2
    go_end0
    exact ⟨rfl, rfl⟩
  have h2 : Calls Tryd.prog 53 #[.slice none 0 0, .int .i64 0, .func (.func g) #[] lb] w fun e w' => e = .returned (.tuple #[]) ∧ w' = w := by
    go_enter Tryd.func53, Tryd.ntmps53
    go_wp2
    refine wp_loop_rounds 1 ?_
    rw [rounds_succ]
    go_wp2_with (go_at_call 60; refine h1.mono ?_; rintro e w1 ⟨rfl, rfl⟩)
    refine wp_loop_rounds 1 ?_
    rw [rounds_succ]
    go_wp2
    go_end0
    exact ⟨rfl, rfl⟩
  go_enter Tryd.func44, Tryd.ntmps44
  go_wp2_with (go_at_call 53; refine h2.mono ?_; rintro e w1 ⟨rfl, rfl⟩)
  go_end0
  exact ⟨rfl, rfl⟩
theorem isort_len (key : Int → Int) (xs : List Int) : (isort key xs).length = xs.length := by
  unfold isort; rw [List.length_reverse, foldIns_len]; simp
theorem isort_mem (key : Int → Int) (xs : List Int) (z : Int) : z ∈ isort key xs ↔ z ∈ xs := by
  unfold isort; rw [List.mem_reverse, foldIns_mem]; simp
/-- A row of ints of one's own, in its cells. -/
theorem intRow_of {W : World} {base : Nat} {ok : Nat → Prop} {v : Value} {xs : List Int} (h : Kd.R (Kd.int .i64) 3 W base ok v xs) :
    (v = .slice none 0 0 ∧ xs = []) ∨ ∃ g cap tail, v = .slice (some ⟨g, 0, none⟩) xs.length cap ∧ base ≤ g ∧ W.heap[g]? = some (.cells (intRow xs tail) 3 (0, 0)) ∧ xs.length ≤ cap ∧ cap ≤ maxLen ∧ xs.length + tail.length = cap ∧ ok g := by
  have hown := Kd.own_of_R h
  rcases hown.2 with ⟨hv, hx⟩ | ⟨g, cap, cur, hv, hb, hh, hnc, hcm, hcs, htk⟩
  · exact .inl ⟨hv, List.eq_nil_of_length_eq_zero hx⟩
  · refine .inr ⟨g, cap, cur.toList.drop xs.length, hv, hb, ?_, hnc, hcm, ?_, h.1 g (by rw [hv]; rfl)⟩
    · rw [hh]
      congr 2
      apply Array.ext'
      rw [Nat.mul_one] at htk
      simp only [intRow]
      rw [show (xs.map (Value.int .i64)) = cur.toList.take xs.length from htk.symm, List.take_append_drop]
    · rw [List.length_drop]; have : cur.toList.length = cur.size := by simp
      omega
theorem R_of_intRow {W : World} {base : Nat} {ok : Nat → Prop} {xs : List Int} {g cap : Nat} {tail : List Value} (hh : W.heap[g]? = some (.cells (intRow xs tail) 3 (0, 0))) (hb : base ≤ g) (hc : cap ≤ maxLen) (ht : xs.length + tail.length = cap) (hok : ok g) :
    Kd.R (Kd.int .i64) 3 W base ok (.slice (some ⟨g, 0, none⟩) xs.length cap) xs := by
  refine Kd.R_of_own ⟨by simp [encs], .inr ⟨g, cap, _, rfl, hb, hh, by omega, hc, ?_, ?_⟩⟩ (fun k hk => ?_)
  · simp [intRow, ht]
  · simp [intRow, encs]
  · have : g = k := by simpa [Value.ownBlock] using hk
    exact this ▸ hok
end Go.Proofs.YtemcplbldfldlaaDoor.P
