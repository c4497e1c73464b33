/- LayoutAll holds: the pure statement behind the printed walk; no condition. -/
import Derived.Test.YtipjlhhgccfmcaaPureLayoutRanks
import Derived.Test.YtipjlhhgccfmcaaPx6
namespace Go.Proofs.Ytipjlhhgccfmcaa.P
open Go.RowKit Go.Proofs.YtipjlhhgccfmcaaW.PrintWords Go.Proofs.YtipjlhhgccfmcaaW.PrintLast
/-- How many of the first n bits of m are set, from bit i on. -/
def popF (m : Nat) : Nat → Nat → Nat
  | 0, _ => 0
  | d + 1, i => m / 2 ^ i % 2 + popF m d (i + 1)
theorem popF_le (m d : Nat) : ∀ i, popF m d i ≤ d := by
  induction d with
  | zero => intro i; exact Nat.le_refl _
  | succ d ih => intro i; have := ih (i + 1); simp only [popF]; have : m / 2 ^ i % 2 < 2 := Nat.mod_lt _ (by omega); omega
theorem bit_at (m i : Nat) (hm : m < 128) (hi : i < 7) : Go.bits .and .i64 (shr .i64 (m : Int) (i : Int)) 1 = ((m / 2 ^ i % 2 : Nat) : Int) := by
  have h : ∀ m, m < 128 → ∀ i, i < 7 → Go.bits .and .i64 (shr .i64 ((m : Nat) : Int) ((i : Nat) : Int)) 1 = ((m / 2 ^ i % 2 : Nat) : Int) := by decide +kernel
  exact h m hm i hi
theorem shl_at (n : Nat) (hn : n < 8) : shl .i64 1 (n : Int) = ((2 ^ n : Nat) : Int) := by
  have h : ∀ n, n < 8 → shl .i64 1 ((n : Nat) : Int) = ((2 ^ n : Nat) : Int) := by decide +kernel
  exact h n hn
theorem all_l1 (n : Nat) (hn : n ≤ 7) (a1 : Int) (x5 : Bool) (x6 x7 : Int) (m : Nat) (hm : m < 128) (d : Nat) : ∀ (k i c : Nat), n - i = d → i ≤ n → c ≤ i →
    (((c + popF m d i : Nat) : Int) = a1 → taquinlaw25_LayoutAll.l1 (k + d + 1) n a1 x5 x6 x7 m c i = taquinlaw25_LayoutAll.l0 k n a1 x5 x6 (wrap64 (x7 + a1)) ((m + 1 : Nat) : Int)) ∧
    (((c + popF m d i : Nat) : Int) ≠ a1 → taquinlaw25_LayoutAll.l1 (k + d + 1) n a1 x5 x6 x7 m c i = taquinlaw25_LayoutAll.l0 k n a1 x5 x6 x7 ((m + 1 : Nat) : Int)) := by
  induction d with
  | zero =>
    intro k i c hd hi hc
    simp only [popF, Nat.add_zero]
    unfold taquinlaw25_LayoutAll.l1
    rw [if_neg (by omega), wrap_in ((m : Int) + 1) (by omega) (by omega)]
    exact ⟨fun h => by rw [if_pos h]; rfl, fun h => by rw [if_neg h]; rfl⟩
  | succ d ih =>
    intro k i c hd hi hc
    have hb : m / 2 ^ i % 2 < 2 := Nat.mod_lt _ (by omega)
    have he : taquinlaw25_LayoutAll.l1 (k + (d + 1) + 1) n a1 x5 x6 x7 m c i = taquinlaw25_LayoutAll.l1 (k + d + 1) n a1 x5 x6 x7 m ((c + m / 2 ^ i % 2 : Nat) : Int) ((i + 1 : Nat) : Int) := by
      rw [show k + (d + 1) + 1 = (k + d + 1) + 1 from rfl, taquinlaw25_LayoutAll.l1]
      rw [if_pos (by omega), if_pos (by omega), bit_at m i hm (by omega), wrap_in ((c : Int) + ((m / 2 ^ i % 2 : Nat) : Int)) (by omega) (by omega), wrap_in ((i : Int) + 1) (by omega) (by omega)]
      rfl
    have := ih k (i + 1) (c + m / 2 ^ i % 2) (by omega) (by omega) (by omega)
    rw [he]
    simp only [popF, ← Nat.add_assoc]
    exact this
/-- How many numbers below m + d, from m on, have k bits set. -/
def many (n : Nat) (a1 : Int) : Nat → Nat → Nat
  | 0, _ => 0
  | d + 1, m => (if ((popF m n 0 : Nat) : Int) = a1 then 1 else 0) + many n a1 d (m + 1)
theorem many_out (n : Nat) (a1 : Int) (h : a1 < 0 ∨ (n : Int) < a1) (d : Nat) : ∀ m, many n a1 d m = 0 := by
  induction d with
  | zero => intro m; rfl
  | succ d ih => intro m; have := popF_le m n 0; simp only [many]; rw [ih, if_neg (by omega)]
theorem all_l0 (n : Nat) (h1 : 1 ≤ n) (hn : n ≤ 7) (a1 : Int) (x6 : Int) (K : Nat) (d : Nat) : ∀ (m s : Nat), 2 ^ n - m = d → m ≤ 2 ^ n → s ≤ m → (0 ≤ a1 ∧ a1 ≤ n ∨ s = 0) → x6 = ((s + many n a1 d m : Nat) : Int) * a1 →
    taquinlaw25_LayoutAll.l0 (K + 1 + d * (n + 2)) n a1 true x6 (s * a1) m = taquinlaw25_LayoutAll.l2 K n a1 true x6 0 [] 0 := by
  have h2 : 2 ^ n ≤ 128 := by
    have : ∀ n, n ≤ 7 → 2 ^ n ≤ 128 := by decide
    exact this n hn
  induction d with
  | zero =>
    intro m s hd hm hs _ hx
    rw [Nat.zero_mul, Nat.add_zero, taquinlaw25_LayoutAll.l0]
    rw [if_pos (by omega), shl_at n (by omega), if_neg (by omega), if_pos (by simpa [many] using hx)]
  | succ d ih =>
    intro m s hd hm hs hk hx
    rw [show K + 1 + (d + 1) * (n + 2) = ((K + 1 + d * (n + 2)) + n + 1) + 1 from by rw [Nat.add_mul]; omega, taquinlaw25_LayoutAll.l0]
    rw [if_pos (by omega), shl_at n (by omega), if_pos (by omega)]
    have h := all_l1 n hn a1 true x6 ((s : Int) * a1) m (by omega) n (K + 1 + d * (n + 2)) 0 0 (by omega) (by omega) (by omega)
    rw [Nat.zero_add, show ((0 : Nat) : Int) = 0 from rfl] at h
    have hp := popF_le m n 0
    by_cases hc : ((popF m n 0 : Nat) : Int) = a1
    · have hr : 0 ≤ a1 ∧ a1 ≤ n := by omega
      have hsa : 0 ≤ (s : Int) * a1 ∧ (s : Int) * a1 ≤ 128 * 7 := ⟨Int.mul_nonneg (by omega) hr.1, by have := Int.mul_le_mul (show (s : Int) ≤ 128 by omega) (show a1 ≤ 7 by omega) hr.1 (by omega); omega⟩
      rw [h.1 hc, wrap_in _ (by omega) (by omega)]
      have := ih (m + 1) (s + 1) (by omega) (by omega) (by omega) (.inl hr) (by rw [hx, many, if_pos hc, show s + (1 + many n a1 d (m + 1)) = s + 1 + many n a1 d (m + 1) from by omega])
      rw [show ((s + 1 : Nat) : Int) * a1 = (s : Int) * a1 + a1 from by rw [Int.natCast_add, Int.add_mul]; simp] at this
      exact this
    · rw [h.2 hc]
      exact ih (m + 1) s (by omega) (by omega) (by omega) hk (by rw [hx, many, if_neg hc, Nat.zero_add])
theorem cnt_out (n k : Int) (h : k < 1 ∨ n < k) : cnt n k = 0 := by unfold cnt; rw [if_neg (by omega)]
theorem many_cnt (n : Nat) (h1 : 1 ≤ n) (hn : n ≤ 7) (a1 : Int) : cnt n a1 = ((many n a1 (2 ^ n) 0 : Nat) : Int) * a1 := by
  by_cases h : a1 < 1 ∨ (n : Int) < a1
  · rw [cnt_out _ _ h]
    by_cases h0 : a1 = 0
    · rw [h0, Int.mul_zero]
    · rw [many_out n a1 (by omega)]; simp
  · obtain ⟨k, rfl⟩ : ∃ k : Nat, a1 = k := ⟨a1.toNat, by omega⟩
    have : ∀ n, n ≤ 7 → 1 ≤ n → ∀ k, k ≤ 7 → 1 ≤ k → k ≤ n → cnt ((n : Nat) : Int) ((k : Nat) : Int) = ((many n ((k : Nat) : Int) (2 ^ n) 0 : Nat) : Int) * ((k : Nat) : Int) := by decide +kernel
    exact this n hn h1 k (by omega) (by omega) (by omega)
theorem cnt_small (n k : Int) : 0 ≤ cnt n k ∧ cnt n k ≤ 402653184 := by
  unfold cnt
  split
  · exact mul_in (by omega) (by omega) (chs_24 _ _ (by omega)).1 (chs_24 _ _ (by omega)).2
  · omega
theorem all_l2 (n : Nat) (h1 : 1 ≤ n) (hn : n ≤ 7) (a1 : Int) (d : Nat) : ∀ (k i : Nat) (last : List Bool) (t : Int), cnt n a1 - i = d → d + 100 < k →
    (0 < i → ∃ t' : Nat, t = t' ∧ rightL last t ∧ last.length = n ∧ ((last.count true : Nat) : Int) = a1 ∧ rankOf last t = (i : Int) - 1) → taquinlaw25_LayoutAll.l2 k n a1 true (cnt n a1) i last t = some true := by
  induction d with
  | zero =>
    intro k i last t hd hk _
    obtain ⟨k, rfl⟩ : ∃ m, k = m + 1 := ⟨k - 1, by omega⟩
    simp only [taquinlaw25_LayoutAll.l2]
    rw [if_neg (by omega)]
  | succ d ih =>
    intro k i last t hd hk hl
    obtain ⟨k, rfl⟩ : ∃ m, k = m + 1 := ⟨k - 1, by omega⟩
    have hcs := cnt_small n a1
    have hk1 : 1 ≤ a1 := by
      by_cases h : a1 < 1
      · have := cnt_out n a1 (.inl h); omega
      · omega
    obtain ⟨a, rfl⟩ : ∃ a : Nat, a1 = a := ⟨a1.toNat, by omega⟩
    obtain ⟨m, u, hu, hru, hul, huc, hur⟩ := unrank_of (n := n) (k := a) (r := (i : Int)) (by omega) (by omega)
    simp only [taquinlaw25_LayoutAll.l2]
    rw [if_pos (by omega), hu]
    simp only [Option.bind_some, if_true, right_tells, decide_eq_true hru]
    rw [shelves_ge m u (by omega) _ (by omega)]
    simp only [Option.bind_some]
    rw [if_pos (by omega), wrap_in ((i : Int) + 1) (by omega) (by omega)]
    have hnext := ih k (i + 1) m u (by omega) (by omega) (fun _ => ⟨u, rfl, hru, hul, by omega, by rw [hur]; omega⟩)
    simp only [Int.natCast_add, Int.natCast_one] at hnext
    by_cases hi : (i : Int) > 0
    · obtain ⟨t', rfl, hrl, hll, hlc, hlr⟩ := hl (by omega)
      rw [if_pos hi, before_ge last m t' u (by omega) (by omega) _ (by omega), ← rank_before hrl hru (by omega) (by omega), decide_eq_true (by omega)]
      simp only [Option.bind_some, if_true]
      exact hnext
    · rw [if_neg hi]; exact hnext
theorem LayoutAll' (a0 a1 : Int) : ∃ k, taquinlaw25_LayoutAll.f k a0 a1 = some true := by
  by_cases h : a0 < 1 ∨ a0 > 7
  · refine ⟨10 + 1, ?_⟩
    unfold taquinlaw25_LayoutAll.f
    rw [small_ge _ (by omega)]
    simp only [Option.bind_some]
    by_cases h0 : a0 < 1
    · rw [if_pos h0]; simp only [taquinlaw25_LayoutAll.j0, if_true]
    · rw [if_neg h0, decide_eq_true (by omega)]; simp only [taquinlaw25_LayoutAll.j0, if_true]
  · obtain ⟨n, rfl⟩ : ∃ n : Nat, a0 = n := ⟨a0.toNat, by omega⟩
    have hcs := cnt_small n a1
    refine ⟨((cnt n a1).toNat + 101 + 1 + 2 ^ n * (n + 2)) + 1, ?_⟩
    unfold taquinlaw25_LayoutAll.f
    rw [small_ge _ (by omega)]
    simp only [Option.bind_some]
    rw [if_neg (by omega), decide_eq_false (by omega)]
    simp only [taquinlaw25_LayoutAll.j0, Bool.false_eq_true, if_false, layout_Count.f, Option.bind_some]
    have h0 := all_l0 n (by omega) (by omega) a1 (cnt n a1) ((cnt n a1).toNat + 101) (2 ^ n) 0 0 (Nat.sub_zero _) (Nat.zero_le _) (Nat.le_refl _) (.inr rfl) (by rw [Nat.zero_add]; exact many_cnt n (by omega) (by omega) a1)
    rw [show ((0 : Nat) : Int) * a1 = 0 from Int.zero_mul _, show ((0 : Nat) : Int) = 0 from rfl] at h0
    rw [h0]
    exact all_l2 n (by omega) (by omega) a1 (cnt n a1).toNat _ 0 [] 0 (by omega) (by omega) (fun h => by omega)
end Go.Proofs.Ytipjlhhgccfmcaa.P
namespace Go.Proofs.Ytipjlhhgccfmcaa.Pure
open Go.Proofs.Ytipjlhhgccfmcaa.P
theorem LayoutAll : taquinlaw25_LayoutAll.Pure := fun a0 a1 _ _ => LayoutAll' a0 a1
end Go.Proofs.Ytipjlhhgccfmcaa.Pure
