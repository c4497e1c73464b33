/- Functions of petri that call closures: petri.Enabled, petri.closed, petri.Invariant, the test of petri.RightMarking; and slices.Clone of ints. -/
import Derived.Test.YthpclmkcljmoeaaDoorGCont
import Derived.Test.YthpclmkcljmoeaaDoorGShelf
import Derived.Deep.QuietTactic
import Derived.Laws.EntriesVeiled
namespace Go.Proofs.YthpclmkcljmoeaaDoor.P
open Go.RowKit Go.Proofs.YthpclmkcljmoeaaDoorW.PrintWords Go.Proofs.YthpclmkcljmoeaaDoorW.PrintLast Go.Proofs.YthpclmkcljmoeaaDoorW.PrintMore
set_option linter.unusedVariables false
set_option linter.unusedSimpArgs false
theorem cell_ltG {w : World} {a : Addr} {v : Value} (h : w.cell? a = some v) : a.block < w.heap.size := by
  unfold World.cell? at h
  split at h
  · rename_i heq
    exact (Array.getElem?_eq_some_iff.1 heq).1
  · cases h
/-! ### slices.Clone of ints -/
def slices_Clone_int_int.f (l0 : List Int) : Option (List Int) := if l0.length ≤ 1000000 then some l0 else none
theorem slices_Clone_int_int.calls (A0 : Option Addr) (c0 : Nat) (l0 : List Int) (r : List Int) (w : World) (hr0 : Kd.C (Kd.int .i64) w A0 l0.length l0) (hc0 : l0.length ≤ c0) (h : slices_Clone_int_int.f l0 = some r) :
    Calls Tryd.prog 40 #[.slice A0 l0.length c0] w fun e w' => ∃ v0_ : Value, e = .returned (v0_) ∧ Kd.R (Kd.int .i64) 3 w' w.heap.size (fun _ => True) v0_ r ∧ Below w.heap.size w w' := by
  unfold slices_Clone_int_int.f at h
  by_cases hl : l0.length ≤ 1000000
  · rw [if_pos hl] at h
    obtain rfl := Option.some.inj h
    cases A0 with
    | none =>
      have h0 : l0.length = 0 := by
        rcases Nat.eq_zero_or_pos l0.length with h0 | h0
        · exact h0
        · obtain ⟨ad, he, _⟩ := Kd.at_int hr0 0 (by omega) (by omega)
          cases he
      obtain rfl := List.eq_nil_of_length_eq_zero h0
      exact (Any.slices_Clone_int_nil Tryd.laysClone 0 c0 w).mono fun e w' ⟨he, hw⟩ => ⟨_, he, Kd.R_nil _ _ _ _ _, by rw [hw]; exact Below.refl _ _⟩
    | some ad =>
      rcases Nat.eq_zero_or_pos l0.length with h0 | h0
      · obtain rfl := List.eq_nil_of_length_eq_zero h0
        exact (Any.slices_Clone_int_zero Tryd.laysClone ad c0 w).mono fun e w' ⟨v, he, ho, _, hb⟩ => ⟨v, he, Kd.R_of_own ho (fun _ _ => trivial), hb⟩
      · obtain ⟨b, off, spot⟩ := ad
        have hs : spot = none := by
          obtain ⟨ad', he, hc⟩ := Kd.at_int hr0 0 (by omega) (by omega)
          obtain rfl := Option.some.inj he
          simpa [Addr.add] using World.cell?_spot hc
        subst hs
        have hc : ∀ j, j < l0.length → w.cell? ⟨b, off + j, none⟩ = some (.int .i64 (l0.getD j 0)) := fun j hj => by
          obtain ⟨ad', he, hc⟩ := Kd.at_int hr0 (j : Int) (by omega) (by omega)
          obtain rfl := Option.some.inj he
          have e : Addr.add ⟨b, off, none⟩ j = ⟨b, off + j, none⟩ := by
            unfold Addr.add
            split
            · rename_i h0; simp [h0]
            · rfl
          simp only [Int.toNat_natCast] at hc
          rw [e] at hc
          simpa [rd] using hc
        refine (Any.slices_Clone_int Tryd.laysClone b off l0.length c0 l0 w (Nat.le_refl _) (by omega) hc).mono fun e w' ⟨v, he, ho, _, hb⟩ => ⟨v, he, Kd.R_of_own ?_ (fun _ _ => trivial), hb⟩
        rw [List.take_length] at ho
        exact ho
  · rw [if_neg hl] at h; cases h
/-! ### petri.RightMarking's test -/
def badMark (k : Int) : Bool := decide (k < 0) || decide (k > 1099511627776)
theorem markTest (W : World) (x : Int) : Calls Tryd.prog 46 #[.int .i64 x] W fun e w' => e = .returned (.bool (badMark x)) ∧ Below W.heap.size W w' := by
  unfold badMark
  by_cases h : x < 0
  · go_enter Tryd.func46, Tryd.ntmps46
    go_wp2
    go_ret
    exact ⟨by simp [h], Below.refl _ _⟩
  · go_enter Tryd.func46, Tryd.ntmps46
    go_wp2
    go_ret
    exact ⟨by simp [h] <;> omega, Below.refl _ _⟩
def slices_ContainsFunc_int_int.f (l0 : List Int) : Option (Bool) := if l0.length ≤ 1000000 then some (l0.any badMark) else none
theorem slices_ContainsFunc_int_int.calls (A0 : Option Addr) (c0 : Nat) (l0 : List Int) (r : Bool) (w : World) (hr0 : Kd.C (Kd.int .i64) w A0 l0.length l0) (hc0 : l0.length ≤ c0) (h : slices_ContainsFunc_int_int.f l0 = some r) :
    Calls Tryd.prog 45 #[.slice A0 l0.length c0, .func (.func 46) #[] #[]] w fun e w' => e = .returned (.bool r) ∧ Below w.heap.size w w' := by
  unfold slices_ContainsFunc_int_int.f at h
  by_cases hl : l0.length ≤ 1000000
  · rw [if_pos hl] at h
    obtain rfl := Option.some.inj h
    exact intContains 46 #[] badMark (fun args w => Go.Proofs.enters_of Tryd.func46 (by kernel_rfl) rfl args w) A0 c0 l0 w (fun W x _ hb => (markTest W x).mono fun e w' ⟨he, hb'⟩ => ⟨he, below_then hb hb.size hb'⟩) hr0 hl
  · rw [if_neg hl] at h; cases h
/-! ### petri.Enabled -/
theorem enabTest (p : Nat) (A0 : Option Addr) (c0 : Nat) (m : List Int) (W : World) (x : Int) (hp : W.cell? ⟨p, 0, none⟩ = some (.slice A0 m.length c0)) (hr : Kd.C (Kd.int .i64) W A0 m.length m) (h0 : 0 ≤ x) (h1 : x < (m.length : Int)) :
    Calls Tryd.prog 47 #[.int .i64 x, .pointer (some ⟨p, 0, none⟩)] W fun e w' => e = .returned (.bool (decide (rd m x < 1))) ∧ Below W.heap.size W w' := by
  obtain ⟨ad, rfl, hc⟩ := Kd.at_int hr x h0 h1
  generalize rd m x = y at hc ⊢
  clear hr
  go_enter Tryd.func47, Tryd.ntmps47
  go_wp2
  go_ret
  exact ⟨rfl, Below.refl _ _⟩
/-- The places of a list lie below n. -/
def inM (n : Nat) (s : List Int) : Bool := s.all fun p => decide (0 ≤ p) && decide (p < (n : Int))
theorem inM_mem {n : Nat} {s : List Int} (h : inM n s = true) {p : Int} (hp : p ∈ s) : 0 ≤ p ∧ p < (n : Int) := by
  have := List.all_eq_true.1 h p hp
  simpa using this
def dead (m : List Int) (s : List Int) : Bool := s.any fun p => decide (rd m p < 1)
def petri_Enabled.f (a0_0 : Int) (l0_1 : List S29) (l1 : List Int) (a2 : Int) : Option (Bool) :=
  if 0 ≤ a2 ∧ a2 < (l0_1.length : Int) then
    if (rd_T29 l0_1 a2).f0.length ≤ 1000000 ∧ inM l1.length (rd_T29 l0_1 a2).f0 = true then some (!dead l1 (rd_T29 l0_1 a2).f0) else none
  else some false
set_option maxHeartbeats 1000000 in
theorem petri_Enabled.calls (a0_0 : Int) (A0_1 : Option Addr) (c0_1 : Nat) (l0_1 : List S29) (A1 : Option Addr) (c1 : Nat) (l1 : List Int) (a2 : Int) (r : Bool) (w : World) (hr0_1 : Kd.C k29 w A0_1 l0_1.length l0_1) (hc0_1 : l0_1.length ≤ c0_1) (hr1 : Kd.C (Kd.int .i64) w A1 l1.length l1) (hc1 : l1.length ≤ c1) (h : petri_Enabled.f a0_0 l0_1 l1 a2 = some r) :
    Calls Tryd.prog 26 #[.agg #[.int .i64 a0_0, .slice A0_1 l0_1.length c0_1], .slice A1 l1.length c1, .int .i64 a2] w fun e w' => e = .returned (.bool r) ∧ Below w.heap.size w w' := by
  unfold petri_Enabled.f at h
  by_cases h0 : 0 ≤ a2
  · by_cases h1 : a2 < (l0_1.length : Int)
    · rw [if_pos ⟨h0, h1⟩] at h
      by_cases hg : (rd_T29 l0_1 a2).f0.length ≤ 1000000 ∧ inM l1.length (rd_T29 l0_1 a2).f0 = true
      · rw [if_pos hg] at h
        obtain rfl := Option.some.inj h
        clear h
        obtain ⟨ad, B0, d0, B1, d1, rfl, la, lb, m0, g0, m1, g1⟩ := at_T29 hr0_1 a2 h0 h1
        generalize (rd_T29 l0_1 a2).f0 = s at *
        generalize (rd_T29 l0_1 a2).f1 = s2 at *
        have hlt := cell_ltG la
        obtain ⟨w2, hw2⟩ : ∃ w2, w2 = (w.alloc (.cells #[.int .i64 a0_0, .slice (some ad) l0_1.length c0_1] 24)).alloc (.cells #[.slice A1 l1.length c1] 25) := ⟨_, rfl⟩
        have hb2 : Below w.heap.size w w2 := hw2 ▸ below_alloc (below_alloc (Below.refl _ _) _) _
        have hs2 : w2.heap.size = w.heap.size + 2 := by rw [hw2]; simp
        have hx2 : w2.heap[w.heap.size + 1]? = some (.cells #[.slice A1 l1.length c1] 25 (0, 0)) := by
          have := heap_alloc_new (w.alloc (.cells #[.int .i64 a0_0, .slice (some ad) l0_1.length c0_1] 24)) (.cells #[.slice A1 l1.length c1] 25)
          rw [hw2]; simpa using this
        have hcon := intContains 47 #[.pointer (some ⟨w.heap.size + 1, 0, none⟩)] (fun p => decide (rd l1 p < 1)) (fun args w => Go.Proofs.enters_of Tryd.func47 (by kernel_rfl) rfl args w) B0 d0 s w2 (fun W x hx hb => (enabTest (w.heap.size + 1) A1 c1 l1 W x (blk_cell ((hb.block _ (by omega)).trans hx2) 0) (Kd.C_below hr1 (below_then hb2 hb2.size hb)) (inM_mem hg.2 hx).1 (inM_mem hg.2 hx).2).mono fun e w' ⟨he, hb'⟩ => ⟨he, below_then hb hb.size hb'⟩) (Kd.C_below g0 hb2) hg.1
        change Calls _ _ _ _ (fun e w' => e = .returned (.bool (dead l1 s)) ∧ _) at hcon
        rw [hw2] at hcon
        generalize dead l1 s = b at hcon ⊢
        have HC := Lib.hid hcon
        have hla := (hb2.cell (p := ad.add (a2.toNat * 2)) hlt).trans la
        rw [hw2] at hla
        clear hlt la lb
        clear hcon hx2 hs2 hb2 hw2 hr1 hc1 hr0_1 hc0_1 g0 g1 m0 m1 hg
        have hmf : ∀ (fn : Fn) (first cap : Array Value) (w : World), (Instr.makeFunc fn first cap).run Tryd.prog w = .ok (.func fn first cap) w := fun _ _ _ _ => rfl
        go_enter Tryd.func26, Tryd.ntmps26
        go_wp2_with (go_at_call 45; refine HC.out.mono ?_; rintro e w1 ⟨rfl, hb⟩; have HB1 := Lib.hid hb; clear hb)
        go_ret
        exact ⟨by simp, below_then (below_alloc (below_alloc (Below.refl _ _) _) _) (by simp; omega) HB1.out⟩
      · rw [if_neg hg] at h; cases h
    · rw [if_neg (fun h => h1 h.2)] at h
      obtain rfl := Option.some.inj h
      clear hr0_1 hr1 hc0_1 hc1 h
      go_enter Tryd.func26, Tryd.ntmps26
      go_wp2
      go_ret
      exact ⟨rfl, below_alloc (below_alloc (Below.refl _ _) _) _⟩
  · rw [if_neg (fun h => h0 h.1)] at h
    obtain rfl := Option.some.inj h
    clear hr0_1 hr1 hc0_1 hc1 h
    go_enter Tryd.func26, Tryd.ntmps26
    go_wp2
    go_ret
    exact ⟨rfl, below_alloc (below_alloc (Below.refl _ _) _) _⟩
/-! ### petri.closed -/
def badEI (w : Int) (e : S65) : Bool := decide (Go.bits .and .u64 e.f0 w ≠ 0) && decide (Go.bits .and .u64 e.f1 w = 0)
theorem closedTest (p : Nat) (v : Int) (W : World) (x : S65) (hp : W.cell? ⟨p, 0, none⟩ = some (.int .u64 v)) (hlt : p < W.heap.size) :
    Calls Tryd.prog 54 #[.agg #[.int .u64 x.f0, .int .u64 x.f1], .pointer (some ⟨p, 0, none⟩)] W fun e w' => e = .returned (.bool (badEI v x)) ∧ Below W.heap.size W w' := by
  unfold badEI
  have hne : ¬ p = W.heap.size := by omega
  by_cases h : Go.bits .and .u64 x.f0 v = 0
  · have hb : (Go.bits .and .u64 x.f0 v != 0) = false := by simp [h]
    have HH := Lib.hid h
    clear h
    go_enter Tryd.func54, Tryd.ntmps54
    go_wp2
    go_ret
    exact ⟨by simp [HH.out], below_alloc (Below.refl _ _) _⟩
  · have hb : (Go.bits .and .u64 x.f0 v != 0) = true := by simp [h]
    have HH := Lib.hid h
    clear h
    go_enter Tryd.func54, Tryd.ntmps54
    go_wp2
    go_ret
    exact ⟨by simp [HH.out, Bool.beq_eq_decide_eq], below_alloc (Below.refl _ _) _⟩
def petri_closed.f (l0 : List S65) (a1 : Int) : Option (Bool) := if l0.length ≤ 1000000 then some (decide (a1 ≠ 0) && !l0.any (badEI a1)) else none
set_option maxHeartbeats 1000000 in
theorem petri_closed.calls (A0 : Option Addr) (c0 : Nat) (l0 : List S65) (a1 : Int) (r : Bool) (w : World) (hr0 : Kd.C k65 w A0 l0.length l0) (hc0 : l0.length ≤ c0) (h : petri_closed.f l0 a1 = some r) :
    Calls Tryd.prog 37 #[.slice A0 l0.length c0, .int .u64 a1] w fun e w' => e = .returned (.bool r) ∧ Below w.heap.size w w' := by
  unfold petri_closed.f at h
  by_cases hl : l0.length ≤ 1000000
  · rw [if_pos hl] at h
    obtain rfl := Option.some.inj h
    clear h
    by_cases h0 : a1 = 0
    · have hb : (a1 != 0) = false := by simp [h0]
      have HH := Lib.hid h0
      clear h0 hr0 hc0
      go_enter Tryd.func37, Tryd.ntmps37
      go_wp2
      go_ret
      exact ⟨by simp [HH.out], below_alloc (Below.refl _ _) _⟩
    · obtain ⟨w2, hw2⟩ : ∃ w2, w2 = w.alloc (.cells #[.int .u64 a1] 52) := ⟨_, rfl⟩
      have hb2 : Below w.heap.size w w2 := hw2 ▸ below_alloc (Below.refl _ _) _
      have hs2 : w2.heap.size = w.heap.size + 1 := by rw [hw2]; simp
      have hx2 : w2.heap[w.heap.size]? = some (.cells #[.int .u64 a1] 52 (0, 0)) := hw2 ▸ heap_alloc_new w _
      have hcon := edgeContains 54 #[.pointer (some ⟨w.heap.size, 0, none⟩)] (badEI a1) (fun args w => Go.Proofs.enters_of Tryd.func54 (by kernel_rfl) rfl args w) A0 c0 l0 w2 (fun W x hx hb => (closedTest w.heap.size a1 W x (blk_cell ((hb.block _ (by omega)).trans hx2) 0) (by have := hb.size; omega)).mono fun e w' ⟨he, hb'⟩ => ⟨he, below_then hb hb.size hb'⟩) (Kd.C_below hr0 hb2) hl
      rw [hw2] at hcon
      generalize l0.any (badEI a1) = b at hcon ⊢
      have HC := Lib.hid hcon
      have hb : (a1 != 0) = true := by simp [h0]
      have HH := Lib.hid h0
      clear hcon hx2 hs2 hb2 hw2 hr0 hc0 h0
      have hmf : ∀ (fn : Fn) (first cap : Array Value) (w : World), (Instr.makeFunc fn first cap).run Tryd.prog w = .ok (.func fn first cap) w := fun _ _ _ _ => rfl
      go_enter Tryd.func37, Tryd.ntmps37
      go_wp2_with (go_at_call 53; refine HC.out.mono ?_; rintro e w1 ⟨rfl, hb⟩; have HB1 := Lib.hid hb; clear hb)
      go_ret
      exact ⟨by simp [HH.out], below_then (below_alloc (Below.refl _ _) _) (by simp) HB1.out⟩
  · rw [if_neg hl] at h; cases h
/-! ### petri.Invariant -/
def sumW (l1 : List Int) (s : List Int) : Int := s.foldl (fun k p => wrap64 (k + rd l1 p)) 0
theorem sumW_take (l1 s : List Int) (k : Nat) (h : k < s.length) : sumW l1 (s.take (k + 1)) = wrap64 (sumW l1 (s.take k) + rd l1 (s.getD k 0)) := by
  unfold sumW
  rw [List.take_succ_eq_append_getElem h, List.foldl_append]
  simp [List.getD_eq_getElem?_getD, h]
set_option maxHeartbeats 1000000 in
theorem sumCalls (p : Nat) (A1 : Option Addr) (c1 : Nat) (l1 : List Int) (W : World) (A : Option Addr) (c : Nat) (s : List Int) (hp : W.cell? ⟨p, 0, none⟩ = some (.slice A1 l1.length c1)) (hr1 : Kd.C (Kd.int .i64) W A1 l1.length l1) (hr : Kd.C (Kd.int .i64) W A s.length s) (hin : inM l1.length s = true) (hlen : s.length ≤ 1000000) :
    Calls Tryd.prog 41 #[.slice A s.length c, .pointer (some ⟨p, 0, none⟩)] W fun e w' => e = .returned (.int .i64 (sumW l1 s)) ∧ w' = W := by
  have HR := Lib.hid hr
  have HR1 := Lib.hid hr1
  have HI := Lib.hid hin
  clear hr hr1 hin
  go_enter Tryd.func41, Tryd.ntmps41
  go_wp2
  go_loop [4, 6, 9] (fun s4 s6 s9 => ∃ k : Nat, k ≤ s.length ∧ s9 = .int .i64 k ∧ s4 = .int .i64 (sumW l1 (s.take k))) (fun _ _ s9 => s.length - (intOf s9).toNat)
  case atStart => exact ⟨0, Nat.zero_le _, rfl, rfl⟩
  case round =>
    obtain ⟨k, hk, rfl, rfl⟩ := hrel
    by_cases hlt : k < s.length
    · have hltz : (k : Int) < (s.length : Int) := by omega
      have hmem := inM_mem HI.out (mem_getD s k 0 hlt)
      have hst := sumW_take l1 s k hlt
      obtain ⟨ad, rfl, la⟩ := Kd.at_int HR.out (k : Int) (by omega) hltz
      obtain ⟨bd, rfl, lb⟩ := Kd.at_int HR1.out (s.getD k 0) hmem.1 hmem.2
      simp only [rd, Int.toNat_natCast] at la
      generalize s.getD k 0 = y at *
      generalize rd l1 y = z at *
      obtain ⟨h0, h1⟩ := hmem
      have HS := Lib.hid hst
      clear hst
      generalize sumW l1 (s.take k) = u at *
      go_wp2
      go_round
      case rel => exact ⟨k + 1, by omega, by go_num, by rw [HS.out]⟩
      case measure => simp [intOf]; omega
    · have hltz : ¬ (k : Int) < (s.length : Int) := by omega
      obtain rfl : k = s.length := by omega
      go_wp2
      go_ret
      exact ⟨rfl, rfl⟩
set_option maxHeartbeats 1000000 in
theorem invTest (q p : Nat) (A1 : Option Addr) (c1 : Nat) (l1 : List Int) (W : World) (x : S29) (B0 : Option Addr) (d0 : Nat) (B1 : Option Addr) (d1 : Nat) (hq : W.cell? ⟨q, 0, none⟩ = some (.func (.func 41) #[] #[.pointer (some ⟨p, 0, none⟩)])) (hp : W.cell? ⟨p, 0, none⟩ = some (.slice A1 l1.length c1)) (hr1 : Kd.C (Kd.int .i64) W A1 l1.length l1)
    (g0 : Kd.C (Kd.int .i64) W B0 x.f0.length x.f0) (g1 : Kd.C (Kd.int .i64) W B1 x.f1.length x.f1) (hi0 : inM l1.length x.f0 = true) (hi1 : inM l1.length x.f1 = true) (hl0 : x.f0.length ≤ 1000000) (hl1 : x.f1.length ≤ 1000000) :
    Calls Tryd.prog 43 #[.agg #[.slice B0 x.f0.length d0, .slice B1 x.f1.length d1], .pointer (some ⟨q, 0, none⟩)] W fun e w' => e = .returned (.bool (decide (sumW l1 x.f0 ≠ sumW l1 x.f1))) ∧ Below W.heap.size W w' := by
  have hql := cell_ltG hq
  have hpl := cell_ltG hp
  simp only at hql hpl
  have hne : ¬ q = W.heap.size := by omega
  have S : ∀ (B : Option Addr) (d : Nat) (s : List Int), Kd.C (Kd.int .i64) W B s.length s → inM l1.length s = true → s.length ≤ 1000000 → ∀ (o : Obj) (n : Nat), Calls Tryd.prog 41 #[.slice B s.length d, .pointer (some ⟨p, 0, none⟩)] ((W.alloc o).drewN n) fun e w' => e = .returned (.int .i64 (sumW l1 s)) ∧ w' = (W.alloc o).drewN n := fun B d s hr hi hl o n => by
    have hb : Below W.heap.size W ((W.alloc o).drewN n) := pw_below_drewN (below_alloc (Below.refl _ _) _) _
    exact sumCalls p A1 c1 l1 _ B d s ((hb.cell (p := ⟨p, 0, none⟩) hpl).trans hp) (Kd.C_below hr1 hb) (Kd.C_below hr hb) hi hl
  have S0 := Lib.hid (S B0 d0 x.f0 g0 hi0 hl0)
  have S1 := Lib.hid (S B1 d1 x.f1 g1 hi1 hl1)
  have hqa := (World.cell?_alloc_old W (.cells #[.slice B0 x.f0.length d0, .slice B1 x.f1.length d1] 29) ⟨q, 0, none⟩ hne).trans hq
  clear S hr1 g0 g1 hi0 hi1 hql hpl hq hp
  generalize sumW l1 x.f0 = u at *
  generalize sumW l1 x.f1 = v at *
  go_enter Tryd.func43, Tryd.ntmps43
  go_wp2
  go_quiet (first | (go_at_call 41; with_reducible exact Calls.quiet_of_same (S0.out _ _)) | (go_at_call 41; with_reducible exact Calls.quiet_of_same (S1.out _ _)))
  go_wp2
  go_ret
  exact ⟨by by_cases huv : u = v <;> simp [huv], pw_below_drewN (below_alloc (Below.refl _ _) _) _⟩
def petri_Invariant.f (a0_0 : Int) (l0_1 : List S29) (l1 : List Int) : Option (Bool) :=
  if l0_1.length ≤ 1000000 ∧ l0_1.all (fun t => inM l1.length t.f0 && inM l1.length t.f1 && decide (t.f0.length ≤ 1000000) && decide (t.f1.length ≤ 1000000)) = true then some (!l0_1.any (fun t => decide (sumW l1 t.f0 ≠ sumW l1 t.f1))) else none
set_option maxHeartbeats 2000000 in
theorem petri_Invariant.calls (a0_0 : Int) (A0_1 : Option Addr) (c0_1 : Nat) (l0_1 : List S29) (A1 : Option Addr) (c1 : Nat) (l1 : List Int) (r : Bool) (w : World) (hr0_1 : Kd.C k29 w A0_1 l0_1.length l0_1) (hc0_1 : l0_1.length ≤ c0_1) (hr1 : Kd.C (Kd.int .i64) w A1 l1.length l1) (hc1 : l1.length ≤ c1) (h : petri_Invariant.f a0_0 l0_1 l1 = some r) :
    Calls Tryd.prog 21 #[.agg #[.int .i64 a0_0, .slice A0_1 l0_1.length c0_1], .slice A1 l1.length c1] w fun e w' => e = .returned (.bool r) ∧ Below w.heap.size w w' := by
  unfold petri_Invariant.f at h
  by_cases hg : l0_1.length ≤ 1000000 ∧ l0_1.all (fun t => inM l1.length t.f0 && inM l1.length t.f1 && decide (t.f0.length ≤ 1000000) && decide (t.f1.length ≤ 1000000)) = true
  · rw [if_pos hg] at h
    obtain rfl := Option.some.inj h
    clear h
    obtain ⟨hl, hall⟩ := hg
    obtain ⟨w2, hw2⟩ : ∃ w2, w2 = ((w.alloc (.cells #[.int .i64 a0_0, .slice A0_1 l0_1.length c0_1] 24)).alloc (.cells #[.slice A1 l1.length c1] 25)).alloc (.cells #[.func (.func 41) #[] #[.pointer (some ⟨w.heap.size + 1, 0, none⟩)]] /-T-/67) := ⟨_, rfl⟩
    have hb2 : Below w.heap.size w w2 := hw2 ▸ below_alloc (below_alloc (below_alloc (Below.refl _ _) _) _) _
    have hs2 : w2.heap.size = w.heap.size + 3 := by rw [hw2]; simp
    have hx1 : w2.heap[w.heap.size + 1]? = some (.cells #[.slice A1 l1.length c1] 25 (0, 0)) := by
      have := blk_alloc (heap_alloc_new (w.alloc (.cells #[.int .i64 a0_0, .slice A0_1 l0_1.length c0_1] 24)) (.cells #[.slice A1 l1.length c1] 25)) (.cells #[.func (.func 41) #[] #[.pointer (some ⟨w.heap.size + 1, 0, none⟩)]] /-T-/67)
      rw [hw2]; simpa using this
    have hx2 : w2.heap[w.heap.size + 2]? = some (.cells #[.func (.func 41) #[] #[.pointer (some ⟨w.heap.size + 1, 0, none⟩)]] /-T-/67 (0, 0)) := by
      have := heap_alloc_new ((w.alloc (.cells #[.int .i64 a0_0, .slice A0_1 l0_1.length c0_1] 24)).alloc (.cells #[.slice A1 l1.length c1] 25)) (.cells #[.func (.func 41) #[] #[.pointer (some ⟨w.heap.size + 1, 0, none⟩)]] /-T-/67)
      rw [hw2]; simpa using this
    have hcon := transContains 43 #[.pointer (some ⟨w.heap.size + 2, 0, none⟩)] (fun t => decide (sumW l1 t.f0 ≠ sumW l1 t.f1)) (fun args w => Go.Proofs.enters_of Tryd.func43 (by kernel_rfl) rfl args w) A0_1 c0_1 l0_1 w2 (fun W x B0 d0 B1 d1 hx hb m0 g0 m1 g1 => by
      have hx' := List.all_eq_true.1 hall x hx
      simp only [Bool.and_eq_true, decide_eq_true_eq] at hx'
      exact (invTest (w.heap.size + 2) (w.heap.size + 1) A1 c1 l1 W x B0 d0 B1 d1 (blk_cell ((hb.block _ (by omega)).trans hx2) 0) (blk_cell ((hb.block _ (by omega)).trans hx1) 0) (Kd.C_below hr1 (below_then hb2 hb2.size hb)) g0 g1 hx'.1.1.1 hx'.1.1.2 hx'.1.2 hx'.2).mono fun e w' ⟨he, hb'⟩ => ⟨he, below_then hb hb.size hb'⟩) (Kd.C_below hr0_1 hb2) hl
    rw [hw2] at hcon
    generalize l0_1.any (fun t => decide (sumW l1 t.f0 ≠ sumW l1 t.f1)) = b at hcon ⊢
    have HC := Lib.hid hcon
    clear hcon hx1 hx2 hs2 hb2 hw2 hr0_1 hr1 hc0_1 hc1 hall
    have hmf : ∀ (fn : Fn) (first cap : Array Value) (w : World), (Instr.makeFunc fn first cap).run Tryd.prog w = .ok (.func fn first cap) w := fun _ _ _ _ => rfl
    go_enter Tryd.func21, Tryd.ntmps21
    go_wp2_with (go_at_call 42; refine HC.out.mono ?_; rintro e w1 ⟨rfl, hb⟩; have HB1 := Lib.hid hb; clear hb)
    go_ret
    exact ⟨by simp, below_then (below_alloc (below_alloc (below_alloc (Below.refl _ _) _) _) _) (by simp; omega) HB1.out⟩
  · rw [if_neg hg] at h; cases h
end Go.Proofs.YthpclmkcljmoeaaDoor.P
