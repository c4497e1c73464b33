/- layout.Count: how many layouts there are. -/
import Derived.Test.YtipjlhhgccfmcaaDoorGChoose
namespace Go.Proofs.YtipjlhhgccfmcaaDoor.P
open Go.RowKit Go.Proofs.YtipjlhhgccfmcaaDoorW.PrintWords Go.Proofs.YtipjlhhgccfmcaaDoorW.PrintLast
/-- How many layouts there are. -/
def cnt (n k : Int) : Int := if 1 ≤ n ∧ n ≤ 24 ∧ 1 ≤ k ∧ k ≤ n then n * chs (n - 1).toNat (k - 1).toNat else 0
def layout_Count.f (a0 : Int) (a1 : Int) : Option (Int) := some (cnt a0 a1)
theorem wrap_in (x : Int) (h1 : -4611686018427387904 ≤ x) (h2 : x ≤ 4611686018427387904) : wrap64 x = x := by unfold wrap64; omega
theorem mul_in {a b : Int} (ha : 0 ≤ a) (ha' : a ≤ 24) (hb : 0 ≤ b) (hb' : b ≤ 16777216) : 0 ≤ a * b ∧ a * b ≤ 402653184 :=
  ⟨Int.mul_nonneg ha hb, by have := Int.mul_le_mul ha' hb' hb (by omega); omega⟩
theorem cnt_some (n k : Nat) (hn : n < 24) (hk : k ≤ n) : cnt ((n : Int) + 1) ((k : Int) + 1) = ((n : Int) + 1) * chs n k := by
  unfold cnt
  rw [if_pos (by omega), show ((n : Int) + 1 - 1).toNat = n from by omega, show ((k : Int) + 1 - 1).toNat = k from by omega]

set_option maxHeartbeats 400000 in
set_option maxRecDepth 100000 in
theorem layout_Count.calls (a0 : Int) (a1 : Int) (r : Int) (w : World) (h : layout_Count.f a0 a1 = some r) :
    Calls Tryd.prog 9 #[.int .i64 a0, .int .i64 a1] w fun e w' => e = .returned (.int .i64 r) ∧ Below w.heap.size w w' := by
  obtain rfl : cnt a0 a1 = r := by simpa [layout_Count.f] using h
  clear h
  by_cases h1 : a0 < 1
  · have H : Hid (cnt a0 a1 = 0) := Lib.hid (if_neg (by omega))
    go_enter Tryd.func9, Tryd.ntmps9
    go_wp2
    go_ret
    exact ⟨by rw [H.out]; rfl, Below.refl _ _⟩
  by_cases h2 : 24 < a0
  · have H : Hid (cnt a0 a1 = 0) := Lib.hid (if_neg (by omega))
    go_enter Tryd.func9, Tryd.ntmps9
    go_wp2
    go_ret
    exact ⟨by rw [H.out]; rfl, Below.refl _ _⟩
  by_cases h3 : a1 < 1
  · have H : Hid (cnt a0 a1 = 0) := Lib.hid (if_neg (by omega))
    go_enter Tryd.func9, Tryd.ntmps9
    go_wp2
    go_ret
    exact ⟨by rw [H.out]; rfl, Below.refl _ _⟩
  by_cases h4 : a0 < a1
  · have H : Hid (cnt a0 a1 = 0) := Lib.hid (if_neg (by omega))
    go_enter Tryd.func9, Tryd.ntmps9
    go_wp2
    go_ret
    exact ⟨by rw [H.out]; rfl, Below.refl _ _⟩
  obtain ⟨n, rfl⟩ : ∃ n : Nat, a0 = (n : Int) + 1 := ⟨(a0 - 1).toNat, by omega⟩
  obtain ⟨k, rfl⟩ : ∃ k : Nat, a1 = (k : Int) + 1 := ⟨(a1 - 1).toNat, by omega⟩
  have H := Lib.hid (cnt_some n k (by omega) (by omega))
  go_enter Tryd.func9, Tryd.ntmps9
  go_wp2_with (go_at_call 20; refine (choose_any _).mono ?_; rintro e w' ⟨g, T, rfl, hg, hT, hv, hB⟩; have hc := arr_cell hT (n * 25 + k) (by omega); have hv2 := Lib.hid (hv n k (by omega) (by omega)); clear hv hT)
  go_ret
  refine ⟨?_, hB⟩
  have hb := chs_24 n k (by omega)
  have hm := mul_in (a := (n : Int) + 1) (by omega) (by omega) hb.1 hb.2
  rw [H.out]
  show Ending.returned (Value.int IntKind.i64 (wrap64 (((n : Int) + 1) * T (n * 25 + k)))) = _
  rw [hv2.out, wrap_in _ (by omega) (by omega)]
end Go.Proofs.YtipjlhhgccfmcaaDoor.P
