/- slices.IndexFunc and slices.ContainsFunc, whatever the closure: at transitions, edges, ints and words. -/
import Derived.Test.YthpclmkcljmoeaaDoorGShort
import Derived.Lib.Hide
import Derived.BigRegion
import Derived.BigQuiet
import Derived.Deep.RegionHeld3
import Derived.Deep.DeepCutAuto
namespace Go.Proofs.YthpclmkcljmoeaaDoor.P
open Go.RowKit Go.Proofs.YthpclmkcljmoeaaDoorW.PrintWords Go.Proofs.YthpclmkcljmoeaaDoorW.PrintLast Go.Proofs.YthpclmkcljmoeaaDoorW.PrintMore
set_option linter.unusedVariables false
set_option linter.unusedSimpArgs false
theorem mem_getD {α : Type} (l : List α) (i : Nat) (z : α) (h : i < l.length) : l.getD i z ∈ l := by
  rw [List.getD_eq_getElem?_getD, List.getElem?_eq_getElem h]
  exact List.getElem_mem h
/-- The first place whose element meets p, or -1. -/
def idxOf {α : Type} (p : α → Bool) : Nat → List α → Int
  | _, [] => -1
  | i, x :: xs => if p x then i else idxOf p (i + 1) xs
theorem idxOf_any {α : Type} (p : α → Bool) : ∀ (i : Nat) (xs : List α), decide (idxOf p i xs ≥ 0) = xs.any p
  | i, [] => by simp [idxOf]
  | i, x :: xs => by
    unfold idxOf
    cases h : p x with
    | true => simp [h]
    | false => simp [h, idxOf_any p (i + 1) xs]
theorem idxOf_hit {α : Type} (p : α → Bool) (z : α) : ∀ (i kk : Nat) (xs : List α), kk < xs.length → (∀ j, j < kk → p (xs.getD j z) = false) → p (xs.getD kk z) = true → idxOf p i xs = ((i + kk : Nat) : Int)
  | i, kk, [], h, _, _ => by simp at h
  | i, 0, x :: xs, _, _, h => by simp at h; simp [idxOf, h]
  | i, kk + 1, x :: xs, hl, hf, h => by
    have h0 := hf 0 (by omega)
    simp at h0
    simp only [idxOf, h0]
    rw [if_neg (by simp), idxOf_hit p z (i + 1) kk xs (by simpa using hl) (fun j hj => by simpa using hf (j + 1) (by omega)) (by simpa using h)]
    congr 1; omega
theorem idxOf_miss {α : Type} (p : α → Bool) (z : α) : ∀ (i : Nat) (xs : List α), (∀ j, j < xs.length → p (xs.getD j z) = false) → idxOf p i xs = -1
  | i, [], _ => rfl
  | i, x :: xs, hf => by
    have h0 := hf 0 (by simp)
    simp at h0
    simp only [idxOf, h0]
    rw [if_neg (by simp)]
    exact idxOf_miss p z (i + 1) xs (fun j hj => by simpa using hf (j + 1) (by simpa using hj))
set_option maxHeartbeats 2000000 in
theorem transIndex (g : Nat) (lb : Array Value) (p : S29 → Bool) (eg : ∀ args w, (callFunc g args).run Tryd.prog w = .ok (.enter g args) w) (A0 : Option Addr) (c0 : Nat) (l0 : List S29) (w : World)
    (hp : ∀ (W : World) (x : S29) (A0 : Option Addr) (c0 : Nat) (A1 : Option Addr) (c1 : Nat), x ∈ l0 → Below w.heap.size w W → x.f0.length ≤ c0 → Kd.C (Kd.int .i64) W A0 x.f0.length x.f0 → x.f1.length ≤ c1 → Kd.C (Kd.int .i64) W A1 x.f1.length x.f1 → Calls Tryd.prog g (#[.agg #[.slice A0 x.f0.length c0, .slice A1 x.f1.length c1]] ++ lb) W fun e w' => e = .returned (.bool (p x)) ∧ Below w.heap.size w w')
    (hr0 : Kd.C k29 w A0 l0.length l0) (hlen : l0.length ≤ 1000000) :
    Calls Tryd.prog 55 #[.slice A0 l0.length c0, .func (.func g) #[] lb] w fun e w' => e = .returned (.int .i64 (idxOf p 0 l0)) ∧ Below w.heap.size w w' := by
  have HR := Lib.hid hr0
  have HP := Lib.hid hp
  clear hr0 hp
  go_enter Tryd.func55, Tryd.ntmps55
  go_wp2
  go_loopg [5, 8] l0.length (fun gg _ s8 wr => ∃ kk : Nat, kk ≤ l0.length ∧ l0.length - kk ≤ gg ∧ s8 = .int .i64 kk ∧ Aside (Below w.heap.size w wr) ∧ Aside (∀ j, j < kk → p (l0.getD j z29) = false))
  case atStart => exact ⟨0, Nat.zero_le _, by omega, rfl, Below.refl _ w, fun j hj => absurd hj (Nat.not_lt_zero _)⟩
  case round =>
    obtain ⟨kk, hkk, hg, rfl, BW, AA⟩ := hrel
    by_cases hlt : kk < l0.length
    · have hltz : (kk : Int) < (l0.length : Int) := by omega
      obtain ⟨ad, B0, d0, B1, d1, rfl, l2a, l2b, m0, g0, m1, g1⟩ := at_T29 (Kd.C_below HR.out BW.out) (kk : Int) (by omega) hltz
      simp only [rd_T29, Int.toNat_natCast] at l2a l2b m0 g0 m1 g1
      have hc := HP.out wr (l0.getD kk z29) B0 d0 B1 d1 (mem_getD l0 kk z29 hlt) BW.out m0 g0 m1 g1
      generalize hy : l0.getD kk z29 = y at l2a l2b m0 g0 m1 g1 hc
      have B := Lib.hid hy
      clear hy m0 g0 m1 g1
      cases hq : p y with
      | true =>
        rw [hq] at hc
        go_wp2_with (refine hc.mono ?_; rintro e w' ⟨rfl, hb'⟩)
        go_ret
        refine ⟨?_, hb'⟩
        rw [idxOf_hit p z29 0 kk l0 hlt AA.out (by rw [B.out]; exact hq)]
        simp
      | false =>
        rw [hq] at hc
        go_wp2_with (refine hc.mono ?_; rintro e w' ⟨rfl, hb'⟩)
        go_roundg (l0.length - (kk + 1))
        case measure => omega
        case rel =>
          refine ⟨kk + 1, by omega, by omega, by go_num, hb', (show Aside _ from fun j hj => ?_)⟩
          by_cases e : j = kk
          · subst e
            rw [B.out]; exact hq
          · exact AA.out j (by omega)
    · have hltz : ¬ (kk : Int) < (l0.length : Int) := by omega
      have hkk' : kk = l0.length := by omega
      go_wp2
      go_ret
      refine ⟨?_, BW.out⟩
      rw [idxOf_miss p z29 0 l0 (hkk' ▸ AA.out)]
      rfl
set_option maxHeartbeats 1000000 in
theorem transContains (g : Nat) (lb : Array Value) (p : S29 → Bool) (eg : ∀ args w, (callFunc g args).run Tryd.prog w = .ok (.enter g args) w) (A0 : Option Addr) (c0 : Nat) (l0 : List S29) (w : World)
    (hp : ∀ (W : World) (x : S29) (A0 : Option Addr) (c0 : Nat) (A1 : Option Addr) (c1 : Nat), x ∈ l0 → Below w.heap.size w W → x.f0.length ≤ c0 → Kd.C (Kd.int .i64) W A0 x.f0.length x.f0 → x.f1.length ≤ c1 → Kd.C (Kd.int .i64) W A1 x.f1.length x.f1 → Calls Tryd.prog g (#[.agg #[.slice A0 x.f0.length c0, .slice A1 x.f1.length c1]] ++ lb) W fun e w' => e = .returned (.bool (p x)) ∧ Below w.heap.size w w')
    (hr0 : Kd.C k29 w A0 l0.length l0) (hlen : l0.length ≤ 1000000) :
    Calls Tryd.prog 42 #[.slice A0 l0.length c0, .func (.func g) #[] lb] w fun e w' => e = .returned (.bool (l0.any p)) ∧ Below w.heap.size w w' := by
  have hc := transIndex g lb p eg A0 c0 l0 w hp hr0 hlen
  rw [← idxOf_any p 0 l0]
  generalize idxOf p 0 l0 = n at hc ⊢
  clear hp hr0
  go_enter Tryd.func42, Tryd.ntmps42
  go_wp2_with (go_at_call 55; refine hc.mono ?_; rintro e w' ⟨rfl, hb'⟩)
  go_ret
  exact ⟨by simp, hb'⟩
set_option maxHeartbeats 2000000 in
theorem edgeIndex (g : Nat) (lb : Array Value) (p : S65 → Bool) (eg : ∀ args w, (callFunc g args).run Tryd.prog w = .ok (.enter g args) w) (A0 : Option Addr) (c0 : Nat) (l0 : List S65) (w : World)
    (hp : ∀ (W : World) (x : S65), x ∈ l0 → Below w.heap.size w W → Calls Tryd.prog g (#[.agg #[.int .u64 x.f0, .int .u64 x.f1]] ++ lb) W fun e w' => e = .returned (.bool (p x)) ∧ Below w.heap.size w w')
    (hr0 : Kd.C k65 w A0 l0.length l0) (hlen : l0.length ≤ 1000000) :
    Calls Tryd.prog 67 #[.slice A0 l0.length c0, .func (.func g) #[] lb] w fun e w' => e = .returned (.int .i64 (idxOf p 0 l0)) ∧ Below w.heap.size w w' := by
  have HR := Lib.hid hr0
  have HP := Lib.hid hp
  clear hr0 hp
  go_enter Tryd.func67, Tryd.ntmps67
  go_wp2
  go_loopg [5, 8] l0.length (fun gg _ s8 wr => ∃ kk : Nat, kk ≤ l0.length ∧ l0.length - kk ≤ gg ∧ s8 = .int .i64 kk ∧ Aside (Below w.heap.size w wr) ∧ Aside (∀ j, j < kk → p (l0.getD j z65) = false))
  case atStart => exact ⟨0, Nat.zero_le _, by omega, rfl, Below.refl _ w, fun j hj => absurd hj (Nat.not_lt_zero _)⟩
  case round =>
    obtain ⟨kk, hkk, hg, rfl, BW, AA⟩ := hrel
    by_cases hlt : kk < l0.length
    · have hltz : (kk : Int) < (l0.length : Int) := by omega
      have hc := HP.out wr (l0.getD kk z65) (mem_getD l0 kk z65 hlt) BW.out
      obtain ⟨ad, rfl, l2a, l2b⟩ := at_T65 (Kd.C_below HR.out BW.out) (kk : Int) (by omega) hltz
      simp only [rd_T65, Int.toNat_natCast] at l2a l2b
      generalize hy : l0.getD kk z65 = y at l2a l2b hc
      have B := Lib.hid hy
      clear hy
      cases hq : p y with
      | true =>
        rw [hq] at hc
        go_wp2_with (refine hc.mono ?_; rintro e w' ⟨rfl, hb'⟩)
        go_ret
        refine ⟨?_, hb'⟩
        rw [idxOf_hit p z65 0 kk l0 hlt AA.out (by rw [B.out]; exact hq)]
        simp
      | false =>
        rw [hq] at hc
        go_wp2_with (refine hc.mono ?_; rintro e w' ⟨rfl, hb'⟩)
        go_roundg (l0.length - (kk + 1))
        case measure => omega
        case rel =>
          refine ⟨kk + 1, by omega, by omega, by go_num, hb', (show Aside _ from fun j hj => ?_)⟩
          by_cases e : j = kk
          · subst e
            rw [B.out]; exact hq
          · exact AA.out j (by omega)
    · have hltz : ¬ (kk : Int) < (l0.length : Int) := by omega
      have hkk' : kk = l0.length := by omega
      go_wp2
      go_ret
      refine ⟨?_, BW.out⟩
      rw [idxOf_miss p z65 0 l0 (hkk' ▸ AA.out)]
      rfl
set_option maxHeartbeats 1000000 in
theorem edgeContains (g : Nat) (lb : Array Value) (p : S65 → Bool) (eg : ∀ args w, (callFunc g args).run Tryd.prog w = .ok (.enter g args) w) (A0 : Option Addr) (c0 : Nat) (l0 : List S65) (w : World)
    (hp : ∀ (W : World) (x : S65), x ∈ l0 → Below w.heap.size w W → Calls Tryd.prog g (#[.agg #[.int .u64 x.f0, .int .u64 x.f1]] ++ lb) W fun e w' => e = .returned (.bool (p x)) ∧ Below w.heap.size w w')
    (hr0 : Kd.C k65 w A0 l0.length l0) (hlen : l0.length ≤ 1000000) :
    Calls Tryd.prog 53 #[.slice A0 l0.length c0, .func (.func g) #[] lb] w fun e w' => e = .returned (.bool (l0.any p)) ∧ Below w.heap.size w w' := by
  have hc := edgeIndex g lb p eg A0 c0 l0 w hp hr0 hlen
  rw [← idxOf_any p 0 l0]
  generalize idxOf p 0 l0 = n at hc ⊢
  clear hp hr0
  go_enter Tryd.func53, Tryd.ntmps53
  go_wp2_with (go_at_call 67; refine hc.mono ?_; rintro e w' ⟨rfl, hb'⟩)
  go_ret
  exact ⟨by simp, hb'⟩
set_option maxHeartbeats 2000000 in
theorem intIndex (g : Nat) (lb : Array Value) (p : Int → Bool) (eg : ∀ args w, (callFunc g args).run Tryd.prog w = .ok (.enter g args) w) (A0 : Option Addr) (c0 : Nat) (l0 : List Int) (w : World)
    (hp : ∀ (W : World) (x : Int), x ∈ l0 → Below w.heap.size w W → Calls Tryd.prog g (#[.int .i64 x] ++ lb) W fun e w' => e = .returned (.bool (p x)) ∧ Below w.heap.size w w')
    (hr0 : Kd.C (Kd.int .i64) w A0 l0.length l0) (hlen : l0.length ≤ 1000000) :
    Calls Tryd.prog 56 #[.slice A0 l0.length c0, .func (.func g) #[] lb] w fun e w' => e = .returned (.int .i64 (idxOf p 0 l0)) ∧ Below w.heap.size w w' := by
  have HR := Lib.hid hr0
  have HP := Lib.hid hp
  clear hr0 hp
  go_enter Tryd.func56, Tryd.ntmps56
  go_wp2
  go_loopg [5, 8] l0.length (fun gg _ s8 wr => ∃ kk : Nat, kk ≤ l0.length ∧ l0.length - kk ≤ gg ∧ s8 = .int .i64 kk ∧ Aside (Below w.heap.size w wr) ∧ Aside (∀ j, j < kk → p (l0.getD j (0 : Int)) = false))
  case atStart => exact ⟨0, Nat.zero_le _, by omega, rfl, Below.refl _ w, fun j hj => absurd hj (Nat.not_lt_zero _)⟩
  case round =>
    obtain ⟨kk, hkk, hg, rfl, BW, AA⟩ := hrel
    by_cases hlt : kk < l0.length
    · have hltz : (kk : Int) < (l0.length : Int) := by omega
      have hc := HP.out wr (l0.getD kk (0 : Int)) (mem_getD l0 kk (0 : Int) hlt) BW.out
      obtain ⟨ad, rfl, l2a⟩ := Kd.at_int (Kd.C_below HR.out BW.out) (kk : Int) (by omega) hltz
      simp only [rd, Int.toNat_natCast] at l2a
      generalize hy : l0.getD kk (0 : Int) = y at l2a hc
      have B := Lib.hid hy
      clear hy
      cases hq : p y with
      | true =>
        rw [hq] at hc
        go_wp2_with (refine hc.mono ?_; rintro e w' ⟨rfl, hb'⟩)
        go_ret
        refine ⟨?_, hb'⟩
        rw [idxOf_hit p (0 : Int) 0 kk l0 hlt AA.out (by rw [B.out]; exact hq)]
        simp
      | false =>
        rw [hq] at hc
        go_wp2_with (refine hc.mono ?_; rintro e w' ⟨rfl, hb'⟩)
        go_roundg (l0.length - (kk + 1))
        case measure => omega
        case rel =>
          refine ⟨kk + 1, by omega, by omega, by go_num, hb', (show Aside _ from fun j hj => ?_)⟩
          by_cases e : j = kk
          · subst e
            rw [B.out]; exact hq
          · exact AA.out j (by omega)
    · have hltz : ¬ (kk : Int) < (l0.length : Int) := by omega
      have hkk' : kk = l0.length := by omega
      go_wp2
      go_ret
      refine ⟨?_, BW.out⟩
      rw [idxOf_miss p (0 : Int) 0 l0 (hkk' ▸ AA.out)]
      rfl
set_option maxHeartbeats 1000000 in
theorem intContains (g : Nat) (lb : Array Value) (p : Int → Bool) (eg : ∀ args w, (callFunc g args).run Tryd.prog w = .ok (.enter g args) w) (A0 : Option Addr) (c0 : Nat) (l0 : List Int) (w : World)
    (hp : ∀ (W : World) (x : Int), x ∈ l0 → Below w.heap.size w W → Calls Tryd.prog g (#[.int .i64 x] ++ lb) W fun e w' => e = .returned (.bool (p x)) ∧ Below w.heap.size w w')
    (hr0 : Kd.C (Kd.int .i64) w A0 l0.length l0) (hlen : l0.length ≤ 1000000) :
    Calls Tryd.prog 45 #[.slice A0 l0.length c0, .func (.func g) #[] lb] w fun e w' => e = .returned (.bool (l0.any p)) ∧ Below w.heap.size w w' := by
  have hc := intIndex g lb p eg A0 c0 l0 w hp hr0 hlen
  rw [← idxOf_any p 0 l0]
  generalize idxOf p 0 l0 = n at hc ⊢
  clear hp hr0
  go_enter Tryd.func45, Tryd.ntmps45
  go_wp2_with (go_at_call 56; refine hc.mono ?_; rintro e w' ⟨rfl, hb'⟩)
  go_ret
  exact ⟨by simp, hb'⟩
set_option maxHeartbeats 2000000 in
theorem wordIndex (g : Nat) (lb : Array Value) (p : Int → Bool) (eg : ∀ args w, (callFunc g args).run Tryd.prog w = .ok (.enter g args) w) (A0 : Option Addr) (c0 : Nat) (l0 : List Int) (w : World)
    (hp : ∀ (W : World) (x : Int), x ∈ l0 → Below w.heap.size w W → Calls Tryd.prog g (#[.int .u64 x] ++ lb) W fun e w' => e = .returned (.bool (p x)) ∧ Below w.heap.size w w')
    (hr0 : Kd.C (Kd.int .u64) w A0 l0.length l0) (hlen : l0.length ≤ 1000000) :
    Calls Tryd.prog 52 #[.slice A0 l0.length c0, .func (.func g) #[] lb] w fun e w' => e = .returned (.int .i64 (idxOf p 0 l0)) ∧ Below w.heap.size w w' := by
  have HR := Lib.hid hr0
  have HP := Lib.hid hp
  clear hr0 hp
  go_enter Tryd.func52, Tryd.ntmps52
  go_wp2
  go_loopg [5, 8] l0.length (fun gg _ s8 wr => ∃ kk : Nat, kk ≤ l0.length ∧ l0.length - kk ≤ gg ∧ s8 = .int .i64 kk ∧ Aside (Below w.heap.size w wr) ∧ Aside (∀ j, j < kk → p (l0.getD j (0 : Int)) = false))
  case atStart => exact ⟨0, Nat.zero_le _, by omega, rfl, Below.refl _ w, fun j hj => absurd hj (Nat.not_lt_zero _)⟩
  case round =>
    obtain ⟨kk, hkk, hg, rfl, BW, AA⟩ := hrel
    by_cases hlt : kk < l0.length
    · have hltz : (kk : Int) < (l0.length : Int) := by omega
      have hc := HP.out wr (l0.getD kk (0 : Int)) (mem_getD l0 kk (0 : Int) hlt) BW.out
      obtain ⟨ad, rfl, l2a⟩ := Kd.at_int (Kd.C_below HR.out BW.out) (kk : Int) (by omega) hltz
      simp only [rd, Int.toNat_natCast] at l2a
      generalize hy : l0.getD kk (0 : Int) = y at l2a hc
      have B := Lib.hid hy
      clear hy
      cases hq : p y with
      | true =>
        rw [hq] at hc
        go_wp2_with (refine hc.mono ?_; rintro e w' ⟨rfl, hb'⟩)
        go_ret
        refine ⟨?_, hb'⟩
        rw [idxOf_hit p (0 : Int) 0 kk l0 hlt AA.out (by rw [B.out]; exact hq)]
        simp
      | false =>
        rw [hq] at hc
        go_wp2_with (refine hc.mono ?_; rintro e w' ⟨rfl, hb'⟩)
        go_roundg (l0.length - (kk + 1))
        case measure => omega
        case rel =>
          refine ⟨kk + 1, by omega, by omega, by go_num, hb', (show Aside _ from fun j hj => ?_)⟩
          by_cases e : j = kk
          · subst e
            rw [B.out]; exact hq
          · exact AA.out j (by omega)
    · have hltz : ¬ (kk : Int) < (l0.length : Int) := by omega
      have hkk' : kk = l0.length := by omega
      go_wp2
      go_ret
      refine ⟨?_, BW.out⟩
      rw [idxOf_miss p (0 : Int) 0 l0 (hkk' ▸ AA.out)]
      rfl
set_option maxHeartbeats 1000000 in
theorem wordContains (g : Nat) (lb : Array Value) (p : Int → Bool) (eg : ∀ args w, (callFunc g args).run Tryd.prog w = .ok (.enter g args) w) (A0 : Option Addr) (c0 : Nat) (l0 : List Int) (w : World)
    (hp : ∀ (W : World) (x : Int), x ∈ l0 → Below w.heap.size w W → Calls Tryd.prog g (#[.int .u64 x] ++ lb) W fun e w' => e = .returned (.bool (p x)) ∧ Below w.heap.size w w')
    (hr0 : Kd.C (Kd.int .u64) w A0 l0.length l0) (hlen : l0.length ≤ 1000000) :
    Calls Tryd.prog 35 #[.slice A0 l0.length c0, .func (.func g) #[] lb] w fun e w' => e = .returned (.bool (l0.any p)) ∧ Below w.heap.size w w' := by
  have hc := wordIndex g lb p eg A0 c0 l0 w hp hr0 hlen
  rw [← idxOf_any p 0 l0]
  generalize idxOf p 0 l0 = n at hc ⊢
  clear hp hr0
  go_enter Tryd.func35, Tryd.ntmps35
  go_wp2_with (go_at_call 52; refine hc.mono ?_; rintro e w' ⟨rfl, hb'⟩)
  go_ret
  exact ⟨by simp, hb'⟩
end Go.Proofs.YthpclmkcljmoeaaDoor.P
