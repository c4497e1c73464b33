/- slices.ContainsFunc of wants, with stock.Plan's test: is one not right. For at most 1000000 wants. -/
import Derived.Test.YtemcplbldfldlaaDoorPx6
import Derived.Lib.Hide
import Derived.BigRegion
import Derived.BigQuiet
import Derived.Shelf.Abstract
import Derived.Deep.DeepCutAuto
namespace Go.Proofs.YtemcplbldfldlaaDoor.P
open Go.RowKit Go.Proofs.YtemcplbldfldlaaDoorW.PrintWords Go.Proofs.YtemcplbldfldlaaDoorW.PrintLast Go.Proofs.YtemcplbldfldlaaDoorW.PrintMore
set_option linter.unusedVariables false
set_option linter.unusedSimpArgs false
/-- Is a want not right. -/
def wantBad (x : S48) : Bool := !decide (0 ≤ x.f0 ∧ 1 ≤ x.f1 ∧ x.f1 ≤ 20000 ∧ 0 ≤ x.f2 ∧ x.f2 ≤ 20000)
def api_Want.f (l0 : List S48) : Option Bool := if l0.length ≤ 1000000 then some (l0.any wantBad) else none
/-- The first place whose element meets p, or -1. -/
def idxOf {α : Type} (p : α → Bool) : Nat → List α → Int
  | _, [] => -1
  | i, x :: xs => if p x then i else idxOf p (i + 1) xs
theorem idxOf_any {α : Type} (p : α → Bool) : ∀ (i : Nat) (xs : List α), decide (idxOf p i xs ≥ 0) = xs.any p
  | i, [] => by simp [idxOf]
  | i, x :: xs => by
    unfold idxOf
    cases h : p x with
    | true => simp [h]
    | false => simp [h, idxOf_any p (i + 1) xs]
theorem idxOf_hit {α : Type} (p : α → Bool) (z : α) : ∀ (i kk : Nat) (xs : List α), kk < xs.length → (∀ j, j < kk → p (xs.getD j z) = false) → p (xs.getD kk z) = true → idxOf p i xs = ((i + kk : Nat) : Int)
  | i, kk, [], h, _, _ => by simp at h
  | i, 0, x :: xs, _, _, h => by simp at h; simp [idxOf, h]
  | i, kk + 1, x :: xs, hl, hf, h => by
    have h0 := hf 0 (by omega)
    simp at h0
    simp only [idxOf, h0]
    rw [if_neg (by simp), idxOf_hit p z (i + 1) kk xs (by simpa using hl) (fun j hj => by simpa using hf (j + 1) (by omega)) (by simpa using h)]
    congr 1; omega
theorem idxOf_miss {α : Type} (p : α → Bool) (z : α) : ∀ (i : Nat) (xs : List α), (∀ j, j < xs.length → p (xs.getD j z) = false) → idxOf p i xs = -1
  | i, [], _ => rfl
  | i, x :: xs, hf => by
    have h0 := hf 0 (by simp)
    simp at h0
    simp only [idxOf, h0]
    rw [if_neg (by simp)]
    exact idxOf_miss p z (i + 1) xs (fun j hj => by simpa using hf (j + 1) (by simpa using hj))
set_option maxHeartbeats 1000000 in
/-- The test. -/
theorem wantTest (W : World) (x : S48) : Calls Tryd.prog 33 #[.agg #[.int .i64 x.f0, .int .i64 x.f1, .int .i64 x.f2]] W fun e w' => e = .returned (.bool (wantBad x)) ∧ Below W.heap.size W w' := by
  have hr : stock_rightWant.f x.f0 x.f1 x.f2 = some (!wantBad x) := by
    simp only [stock_rightWant.f, stock_between.f, wantBad, Bool.not_not]
    simp only [ge_iff_le]
    by_cases h1 : 0 ≤ x.f0 <;> by_cases h2 : 1 ≤ x.f1 <;> by_cases h3 : x.f1 ≤ 20000 <;> by_cases h4 : 0 ≤ x.f2 <;> by_cases h5 : x.f2 ≤ 20000 <;> simp [h1, h2, h3, h4, h5]
  generalize wantBad x = b at hr ⊢
  have HR := Lib.hid hr
  clear hr
  go_enter Tryd.func33, Tryd.ntmps33
  go_wp2_with (go_at_call 34; refine (stock_rightWant.calls _ _ _ _ _ HR.out).mono ?_; rintro e w1 ⟨rfl, hB⟩; have HB := Lib.hid hB; clear hB)
  go_ret
  exact ⟨by simp, below_then (below_alloc (Below.refl _ _) _) (by simp) HB.out⟩
set_option maxHeartbeats 2000000 in
/-- slices.IndexFunc of wants, with a test that lays nothing but blocks of its own. -/
theorem wantIndex (g : Nat) (lb : Array Value) (p : S48 → Bool) (eg : ∀ args w, (callFunc g args).run Tryd.prog w = .ok (.enter g args) w) (A0 : Option Addr) (c0 : Nat) (l0 : List S48) (w : World)
    (hp : ∀ (W : World) (x : S48), Below w.heap.size w W → Calls Tryd.prog g (#[.agg #[.int .i64 x.f0, .int .i64 x.f1, .int .i64 x.f2]] ++ lb) W fun e w' => e = .returned (.bool (p x)) ∧ Below w.heap.size w w')
    (hr0 : Kd.C k48 w A0 l0.length l0) (hlen : l0.length ≤ 1000000) :
    Calls Tryd.prog 42 #[.slice A0 l0.length c0, .func (.func g) #[] lb] w fun e w' => e = .returned (.int .i64 (idxOf p 0 l0)) ∧ Below w.heap.size w w' := by
  have HR := Lib.hid hr0
  have HP := Lib.hid hp
  clear hr0 hp
  go_enter Tryd.func42, Tryd.ntmps42
  go_wp2
  go_loopg [5, 8] l0.length (fun gg _ s8 wr => ∃ kk : Nat, kk ≤ l0.length ∧ l0.length - kk ≤ gg ∧ s8 = .int .i64 kk ∧ Aside (Below w.heap.size w wr) ∧ Aside (∀ j, j < kk → p (l0.getD j z48) = false))
  case atStart => exact ⟨0, Nat.zero_le _, by omega, rfl, Below.refl _ w, fun j hj => absurd hj (Nat.not_lt_zero _)⟩
  case round =>
    obtain ⟨kk, hkk, hg, rfl, BW, AA⟩ := hrel
    by_cases hlt : kk < l0.length
    · have hltz : (kk : Int) < (l0.length : Int) := by omega
      have hc := HP.out wr (l0.getD kk z48) BW.out
      obtain ⟨ad, rfl, l2a, l2b, l2c⟩ := at_T48 (Kd.C_below HR.out BW.out) (kk : Int) (by omega) hltz
      simp only [rd_T48, Int.toNat_natCast] at l2a l2b l2c
      generalize hy : l0.getD kk z48 = y at l2a l2b l2c hc
      have B := Lib.hid hy
      clear hy
      cases hq : p y with
      | true =>
        rw [hq] at hc
        go_wp2_with (refine hc.mono ?_; rintro e w' ⟨rfl, hb'⟩)
        go_ret
        refine ⟨?_, hb'⟩
        rw [idxOf_hit p z48 0 kk l0 hlt AA.out (by rw [B.out]; exact hq)]
        simp
      | false =>
        rw [hq] at hc
        go_wp2_with (refine hc.mono ?_; rintro e w' ⟨rfl, hb'⟩)
        go_roundg (l0.length - (kk + 1))
        case measure => omega
        case rel =>
          refine ⟨kk + 1, by omega, by omega, by go_num, hb', (show Aside _ from fun j hj => ?_)⟩
          by_cases e : j = kk
          · subst e
            rw [B.out]; exact hq
          · exact AA.out j (by omega)
    · have hltz : ¬ (kk : Int) < (l0.length : Int) := by omega
      have hkk' : kk = l0.length := by omega
      go_wp2
      go_ret
      refine ⟨?_, BW.out⟩
      rw [idxOf_miss p z48 0 l0 (hkk' ▸ AA.out)]
      rfl
set_option maxHeartbeats 1000000 in
theorem api_Want.calls (A0 : Option Addr) (c0 : Nat) (l0 : List S48) (r : Bool) (w : World) (hr0 : Kd.C k48 w A0 l0.length l0) (hc0 : l0.length ≤ c0) (h : api_Want.f l0 = some r) :
    Calls Tryd.prog 32 #[.slice A0 l0.length c0, .func (.func 33) #[] #[]] w fun e w' => e = .returned (.bool r) ∧ Below w.heap.size w w' := by
  unfold api_Want.f at h
  by_cases hlen : l0.length ≤ 1000000
  · rw [if_pos hlen] at h
    obtain rfl := Option.some.inj h
    clear h
    have hc := wantIndex 33 #[] wantBad (fun args w => Go.Proofs.enters_of Tryd.func33 (by kernel_rfl) rfl args w) A0 c0 l0 w (fun W x hb => (wantTest W x).mono fun e w' ⟨he, hb'⟩ => ⟨he, below_then hb hb.size hb'⟩) hr0 hlen
    rw [← idxOf_any wantBad 0 l0]
    generalize idxOf wantBad 0 l0 = n at hc ⊢
    clear hr0
    go_enter Tryd.func32, Tryd.ntmps32
    go_wp2_with (go_at_call 42; refine hc.mono ?_; rintro e w' ⟨rfl, hb'⟩)
    go_ret
    exact ⟨by simp, hb'⟩
  · rw [if_neg hlen] at h
    cases h
end Go.Proofs.YtemcplbldfldlaaDoor.P
