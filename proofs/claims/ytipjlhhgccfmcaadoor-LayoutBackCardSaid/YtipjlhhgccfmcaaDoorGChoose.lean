/- The table of binomial coefficients that layout.choose makes. -/
import Derived.Test.YtipjlhhgccfmcaaDoorPx0
import Derived.BigRegion
import Derived.BigQuiet
import Derived.Lib.Hide
namespace Go.Proofs.YtipjlhhgccfmcaaDoor.P
open Go.RowKit Go.Proofs.YtipjlhhgccfmcaaDoorW.PrintWords Go.Proofs.YtipjlhhgccfmcaaDoorW.PrintLast
/-- Binomial coefficients. -/
def chs : Nat → Nat → Int
  | _, 0 => 1
  | 0, _ + 1 => 0
  | n + 1, k + 1 => chs n k + chs n (k + 1)
def arrOf (T : Nat → Int) : Array Value := Array.ofFn (n := 625) fun j => Value.int .i64 (T j)
theorem arrOf_size (T : Nat → Int) : (arrOf T).size = 625 := by simp only [arrOf, Array.size_ofFn]
theorem arrOf_get (T : Nat → Int) (j : Nat) (h : j < 625) : (arrOf T)[j]? = some (.int .i64 (T j)) := by
  rw [Array.getElem?_eq_getElem (by rw [arrOf_size]; exact h)]
  simp only [arrOf, Array.getElem_ofFn]
theorem arrOf_set (T : Nat → Int) (j : Nat) (v : Int) : (arrOf T).setIfInBounds j (.int .i64 v) = arrOf (fun i => if i = j then v else T i) := by
  apply Array.ext
  · rw [Array.size_setIfInBounds, arrOf_size, arrOf_size]
  · intro i h1 h2
    rw [Array.getElem_setIfInBounds (by rw [arrOf_size]; rw [arrOf_size] at h2; exact h2)]
    simp only [arrOf, Array.getElem_ofFn]
    by_cases e : j = i
    · rw [if_pos e, if_pos e.symm]
    · rw [if_neg e, if_neg (fun h3 => e h3.symm)]
theorem zeros58 : Tryd.zeroCells51 = arrOf fun _ => 0 := by kernel_rfl
theorem arr_cell {W : World} {g : Nat} {T : Nat → Int} {t : Nat} (h : W.heap[g]? = some (.cells (arrOf T) t (0, 0))) (j : Nat) (hj : j < 625) : W.cell? ⟨g, j, none⟩ = some (.int .i64 (T j)) := by
  simp [World.cell?, h, arrOf_get T j hj]
theorem arr_free {W : World} {g : Nat} {T : Nat → Int} {t : Nat} (h : W.heap[g]? = some (.cells (arrOf T) t (0, 0))) (j : Nat) : W.frozen? ⟨g, j, none⟩ = false := by
  simp [World.frozen?, h]
theorem arr_set {W : World} {g : Nat} {T : Nat → Int} {t : Nat} (h : W.heap[g]? = some (.cells (arrOf T) t (0, 0))) (j : Nat) (v : Int) :
    (W.setCell ⟨g, j, none⟩ (.int .i64 v)).heap[g]? = some (.cells (arrOf (fun i => if i = j then v else T i)) t (0, 0)) := by
  simp [World.setCell, Array.getElem?_modify, h, arrOf_set T j v]
/-- Rows below n are done; of row n, the cells up to k; all others 0. -/
def Filled (T : Nat → Int) (n k : Nat) : Prop := ∀ a b, a ≤ 24 → b ≤ 24 → T (a * 25 + b) = if a < n ∨ (a = n ∧ b ≤ k) then chs a b else 0
def Done (T : Nat → Int) (n : Nat) : Prop := ∀ a b, a ≤ 24 → b ≤ 24 → T (a * 25 + b) = if a < n then chs a b else 0



theorem chs_le (n : Nat) : ∀ k, 0 ≤ chs n k ∧ chs n k ≤ 2 ^ n := by
  induction n with
  | zero => intro k; cases k <;> simp [chs]
  | succ n ih =>
    intro k
    cases k with
    | zero => simp only [chs]; have : (0 : Int) < 2 ^ (n + 1) := Int.pow_pos (by omega); omega
    | succ k => have h1 := ih k; have h2 := ih (k + 1); simp only [chs]; rw [Int.pow_succ]; omega
theorem chs_24 (n k : Nat) (h : n ≤ 24) : 0 ≤ chs n k ∧ chs n k ≤ 16777216 := by
  have h1 := chs_le n k
  have h2 : ((2 ^ n : Nat) : Int) ≤ ((2 ^ 24 : Nat) : Int) := Int.ofNat_le.2 (Nat.pow_le_pow_right (by omega) h)
  have h3 : ((2 ^ 24 : Nat) : Int) = 16777216 := rfl
  have h4 : ((2 ^ n : Nat) : Int) = 2 ^ n := by simp
  omega
theorem chs_zero (n : Nat) : ∀ k, n < k → chs n k = 0 := by
  induction n with
  | zero => intro k h; cases k with
    | zero => omega
    | succ k => rfl
  | succ n ih => intro k h; cases k with
    | zero => omega
    | succ k => simp only [chs]; rw [ih k (by omega), ih (k + 1) (by omega)]; rfl
theorem done_zero : Done (fun _ => 0) 0 := by
  intro a b _ _; rw [if_neg (by omega)]
theorem done_fill {T : Nat → Int} {n : Nat} (h : Done T n) (hn : n < 25) : Filled (fun i => if i = n * 25 then 1 else T i) n 0 := by
  intro a b ha hb
  show (if a * 25 + b = n * 25 then (1 : Int) else T (a * 25 + b)) = _
  by_cases e : a = n ∧ b = 0
  · obtain ⟨rfl, rfl⟩ := e
    rw [if_pos (by omega), if_pos (by omega)]
    cases a <;> rfl
  · rw [if_neg (by omega), h a b ha hb]
    by_cases e2 : a < n
    · rw [if_pos e2, if_pos (by omega)]
    · rw [if_neg e2, if_neg (by omega)]
theorem fill_step {T : Nat → Int} {n k : Nat} (h : Filled T n k) (hn : n < 25) (hk : k < n) : Filled (fun i => if i = n * 25 + (k + 1) then T ((n - 1) * 25 + k) + T ((n - 1) * 25 + (k + 1)) else T i) n (k + 1) := by
  intro a b ha hb
  show (if a * 25 + b = n * 25 + (k + 1) then T ((n - 1) * 25 + k) + T ((n - 1) * 25 + (k + 1)) else T (a * 25 + b)) = _
  by_cases e : a = n ∧ b = k + 1
  · obtain ⟨rfl, rfl⟩ := e
    obtain ⟨m, rfl⟩ : ∃ m, a = m + 1 := ⟨a - 1, by omega⟩
    rw [if_pos rfl, if_pos (by omega), Nat.add_sub_cancel, h m k (by omega) (by omega), h m (k + 1) (by omega) (by omega), if_pos (by omega), if_pos (by omega)]
    rfl
  · rw [if_neg (by omega), h a b ha hb]
    by_cases e2 : a < n ∨ (a = n ∧ b ≤ k)
    · rw [if_pos e2, if_pos (by omega)]
    · rw [if_neg e2, if_neg (by omega)]
theorem fill_done {T : Nat → Int} {n : Nat} (h : Filled T n n) : Done T (n + 1) := by
  intro a b ha hb
  rw [h a b ha hb]
  by_cases e : a < n ∨ (a = n ∧ b ≤ n)
  · rw [if_pos e, if_pos (by omega)]
  · rw [if_neg e]
    by_cases e2 : a < n + 1
    · rw [if_pos e2]
      obtain rfl : a = n := by omega
      exact (chs_zero a b (by omega)).symm
    · rw [if_neg e2]

set_option maxHeartbeats 400000 in
set_option maxRecDepth 100000 in
theorem choose_any (w : World) : Calls Tryd.prog 20 #[] w fun e w' => ∃ g T, e = .returned (.pointer (some ⟨g, 0, none⟩)) ∧ w.heap.size ≤ g ∧ w'.heap[g]? = some (.cells (arrOf T) 51 (0, 0)) ∧ (∀ n k, n ≤ 24 → k ≤ 24 → T (n * 25 + k) = chs n k) ∧ Below w.heap.size w w' := by
  go_enter Tryd.func20, Tryd.ntmps20
  go_wp2
  go_loopw [6] (fun i wr => ∃ (n : Nat) (T : Nat → Int), n ≤ 25 ∧ i = .int .i64 n ∧ wr.heap[w.heap.size]? = some (.cells (arrOf T) 51 (0, 0)) ∧ Done T n ∧ Below w.heap.size w wr) (fun i _ => 25 - (intOf i).toNat)
  case atStart => exact ⟨0, fun _ => 0, by omega, rfl, by rw [zeros58]; exact heap_alloc_new w _, done_zero, below_alloc (Below.refl _ _) _⟩
  case round =>
    obtain ⟨n, T, hn, rfl, hT, hD, hB⟩ := hrel
    by_cases hlt : n < 25
    · have hc := arr_cell hT (n * 25) (by omega)
      have hf := arr_free hT (n * 25)
      have hT1 := Lib.hid (arr_set hT (n * 25) 1)
      clear hT
      go_wp2
      obtain ⟨wo, rfl⟩ : ∃ wo : World, wo = wr := ⟨_, rfl⟩
      go_loopw [15] (fun i wr => ∃ (k : Nat) (T : Nat → Int), k ≤ n ∧ i = .int .i64 k ∧ wr.heap[w.heap.size]? = some (.cells (arrOf T) 51 (0, 0)) ∧ Filled T n k ∧ Below w.heap.size w wr) (fun i _ => n - (intOf i).toNat)
      case atStart => exact ⟨0, _, by omega, rfl, hT1.out, done_fill hD hlt, hB.setCell (Nat.le_refl _) _⟩
      case round =>
        obtain ⟨k, T2, hk, rfl, hT2, hF, hB2⟩ := hrel
        by_cases hlt2 : k < n
        · have hv1 : 0 ≤ T2 ((n - 1) * 25 + k) ∧ T2 ((n - 1) * 25 + k) ≤ 16777216 := by rw [hF _ _ (by omega) (by omega), if_pos (by omega)]; exact chs_24 _ _ (by omega)
          have hv2 : 0 ≤ T2 ((n - 1) * 25 + (k + 1)) ∧ T2 ((n - 1) * 25 + (k + 1)) ≤ 16777216 := by rw [hF _ _ (by omega) (by omega), if_pos (by omega)]; exact chs_24 _ _ (by omega)
          go_wp2
          have hc1 := arr_cell hT2 ((n - 1) * 25 + k) (by omega)
          have hc2 := arr_cell hT2 ((n - 1) * 25 + (k + 1)) (by omega)
          have hc3 := arr_cell hT2 (n * 25 + (k + 1)) (by omega)
          have hf1 := arr_free hT2 (n * 25 + (k + 1))
          have HT2 := Lib.hid hT2
          clear hT2
          obtain ⟨hv1a, hv1b⟩ := hv1
          obtain ⟨hv2a, hv2b⟩ := hv2
          go_region
          all_goals
            go_wp2
            go_roundw
            case rel => exact ⟨k + 1, fun i => if i = n * 25 + (k + 1) then T2 ((n - 1) * 25 + k) + T2 ((n - 1) * 25 + (k + 1)) else T2 i, by omega, by go_num, arr_set HT2.out _ _, fill_step hF hlt hlt2, below_drew (hB2.setCell (Nat.le_refl _) _)⟩
            case measure => simp [intOf]; omega
        · obtain rfl : k = n := by omega
          go_wp2
          go_roundw
          case rel => exact ⟨k + 1, T2, by omega, by go_num, hT2, fill_done hF, hB2⟩
          case measure => simp [intOf]; omega
    · obtain rfl : n = 25 := by omega
      go_wp2
      go_ret
      exact ⟨_, T, rfl, Nat.le_refl _, hT, fun a b ha hb => by rw [hD a b ha hb, if_pos (by omega)], hB⟩
end Go.Proofs.YtipjlhhgccfmcaaDoor.P
