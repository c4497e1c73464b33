/- layout.Unrank: which layout has a rank. -/
import Derived.Test.YtipjlhhgccfmcaaDoorGCount
import Derived.BigRegion
import Derived.BigQuiet
import Derived.Deep.RegionHeld3
import Derived.Deep.DeepCutAuto
namespace Go.Proofs.YtipjlhhgccfmcaaDoor.P
open Go.RowKit Go.Proofs.YtipjlhhgccfmcaaDoorW.PrintWords Go.Proofs.YtipjlhhgccfmcaaDoorW.PrintLast

theorem vi {k : IntKind} {a b : Int} (h : a = b) : Value.int k a = Value.int k b := h ▸ rfl
def boolRow (ys : List Bool) : Array Value := (ys.map Value.bool).toArray
theorem boolRow_made (n : Nat) : madeCells #[.bool false] n = boolRow (List.replicate n false) := by
  apply Array.ext'
  apply List.ext_getElem
  · simp [boolRow, madeCells]
  · intro i h1 h2
    simp [boolRow, madeCells, Nat.mod_one]
theorem row_cell {W : World} {g : Nat} {ys : List Bool} {t : Nat} (h : W.heap[g]? = some (.cells (boolRow ys) t (0, 0))) (j : Nat) (hj : j < ys.length) : W.cell? ⟨g, j, none⟩ = some (.bool (ys.getD j false)) := by
  simp [World.cell?, h, boolRow, hj]
theorem row_free {W : World} {g : Nat} {ys : List Bool} {t : Nat} (h : W.heap[g]? = some (.cells (boolRow ys) t (0, 0))) (j : Nat) : W.frozen? ⟨g, j, none⟩ = false := by
  simp [World.frozen?, h]
theorem row_set {W : World} {g : Nat} {ys : List Bool} {t : Nat} (h : W.heap[g]? = some (.cells (boolRow ys) t (0, 0))) (j : Nat) (v : Bool) :
    (W.setCell ⟨g, j, none⟩ (.bool v)).heap[g]? = some (.cells (boolRow (ys.set j v)) t (0, 0)) := by
  simp [World.setCell, Array.getElem?_modify, h, boolRow, List.map_set]
theorem row_own {W : World} {g base : Nat} {ys : List Bool} {t : Nat} (h : W.heap[g]? = some (.cells (boolRow ys) t (0, 0))) (hb : base ≤ g) (hn : ys.length ≤ 9223372036854775807) (ok : Nat → Prop) (hok : ok g) :
    Kd.R Kd.bool t W base ok (.slice (some ⟨g, 0, none⟩) ys.length ys.length) ys := by
  refine Kd.R_of_own ⟨by simp [encs], .inr ⟨g, ys.length, _, rfl, hb, h, Nat.le_refl _, by simpa [maxLen] using hn, by simp [boolRow], ?_⟩⟩ (fun k hk => ?_)
  · rw [Nat.mul_one, List.take_of_length_le (by simp [boolRow])]; simp [boolRow, encs]
  · have : g = k := by simpa [Value.ownBlock] using hk
    exact this ▸ hok
theorem set_pre (pre : List Bool) (m : Nat) (b : Bool) : (pre ++ List.replicate (m + 1) false).set pre.length b = (pre ++ [b]) ++ List.replicate m false := by
  rw [List.set_append_right _ _ (Nat.le_refl _), Nat.sub_self, List.replicate_succ, List.set_cons_zero, List.append_assoc]; rfl

theorem two_cells {W : World} {b : Nat} {x y : Value} {t : TypeId} (h : W.heap[b]? = some (.cells #[x, y] t (0, 0))) :
    W.cell? ⟨b, 0, none⟩ = some x ∧ W.cell? ⟨b, 1, none⟩ = some y ∧ W.frozen? ⟨b, 0, none⟩ = false ∧ W.frozen? ⟨b, 1, none⟩ = false ∧ b < W.heap.size :=
  ⟨blk_cell h 0, blk_cell h 1, blk_frozen h 0, blk_frozen h 1, blk_lt h⟩
theorem cnt_pos {n k r : Int} (h0 : 0 ≤ r) (h : r < cnt n k) : ∃ a b : Nat, n = (a : Int) + 1 ∧ k = (b : Int) + 1 ∧ a ≤ 23 ∧ b ≤ a ∧ 1 ≤ chs a b ∧ r < ((a : Int) + 1) * chs a b := by
  unfold cnt at h
  by_cases c : 1 ≤ n ∧ n ≤ 24 ∧ 1 ≤ k ∧ k ≤ n
  · rw [if_pos c] at h
    refine ⟨(n - 1).toNat, (k - 1).toNat, by omega, by omega, by omega, by omega, ?_, ?_⟩
    · have h1 := (chs_24 (n - 1).toNat (k - 1).toNat (by omega)).1
      have h2 : chs (n - 1).toNat (k - 1).toNat ≠ 0 := by
        intro e; rw [e, Int.mul_zero] at h; omega
      omega
    · rw [show (((n - 1).toNat : Nat) : Int) + 1 = n from by omega]; exact h
  · rw [if_neg c] at h; omega

/-- The memory of Unrank's own: the layout at bl, its row at br, the binomials at g, the result's place. -/
structure UnrankMem (w : World) (g : Nat) (T : Nat → Int) (n : Nat) (t : Int) (bl br : Nat) (ys : List Bool) (W : World) : Prop where
  lay : W.heap[bl]? = some (.cells #[.slice (some ⟨br, 0, none⟩) n n, .int .i64 t] 24 (0, 0))
  row : W.heap[br]? = some (.cells (boolRow ys) 4 (0, 0))
  arr : W.heap[g]? = some (.cells (arrOf T) 51 (0, 0))
  res : W.heap[w.heap.size]? = some (.cells #[.slice none 0 0, .int .i64 0] 24 (0, 0))
  lt1 : w.heap.size < bl
  lt2 : w.heap.size < br
  below : Below w.heap.size w W
theorem UnrankMem.set {w : World} {g : Nat} {T : Nat → Int} {n : Nat} {t : Int} {bl br : Nat} {ys : List Bool} {W : World} (h : UnrankMem w g T n t bl br ys W) (j : Nat) (v : Bool) :
    UnrankMem w g T n t bl br (ys.set j v) (W.setCell ⟨br, j, none⟩ (.bool v)) where
  lay := blk_far h.lay (blk_ne h.lay h.row (by decide)) _
  row := row_set h.row j v
  arr := blk_far h.arr (blk_ne h.arr h.row (by decide)) _
  res := blk_far h.res (blk_ne h.res h.row (by decide)) _
  lt1 := h.lt1
  lt2 := h.lt2
  below := below_set h.below (Nat.le_of_lt h.lt2)

/-- The shelves of the cells from i on, by the rest of the rank. -/
def unrankL (t : Nat) : Nat → Nat → Nat → Nat → Int → List Bool
  | 0, _, _, _, _ => []
  | m + 1, i, left, need, r =>
    if i = t then true :: unrankL t m (i + 1) left need r
    else if need = 0 then false :: unrankL t m (i + 1) (left - 1) 0 r
    else if r < chs (left - 1) (need - 1) then true :: unrankL t m (i + 1) (left - 1) (need - 1) r
    else false :: unrankL t m (i + 1) (left - 1) need (r - chs (left - 1) (need - 1))
def layout_Unrank.f (a0 : Int) (a1 : Int) (a2 : Int) : Option (List Bool × Int × Bool) :=
  if a2 < 0 ∨ cnt a0 a1 ≤ a2 then some ([], 0, false)
  else some (unrankL (a2 / chs (a0 - 1).toNat (a1 - 1).toNat).toNat a0.toNat 0 (a0 - 1).toNat (a1 - 1).toNat (a2 % chs (a0 - 1).toNat (a1 - 1).toNat), a2 / chs (a0 - 1).toNat (a1 - 1).toNat, true)

/-- Where the loop stands: i cells are behind it. -/
structure UnInv (N t : Nat) (full : List Bool) (i left need : Nat) (rk : Int) (pre : List Bool) : Prop where
  ile : i ≤ N
  pl : pre.length = i
  total : pre ++ unrankL t (N - i) i left need rk = full
  left_ : left + i + 1 = N + (if i ≤ t then 0 else 1)
  needle : need ≤ 23
  lo : 0 ≤ rk
  hi : rk ≤ 16777216
section
variable {N t i left need : Nat} {rk : Int} {full pre : List Bool}
theorem UnInv.pos (h : UnInv N t full i left need rk pre) (hi : i < N) (e : i ≠ t) (ht : t < N) : 1 ≤ left ∧ left ≤ N := by
  have := h.left_
  by_cases c : i ≤ t
  · rw [if_pos c] at this; omega
  · rw [if_neg c] at this; omega
theorem UnInv.left_step (h : UnInv N t full i left need rk pre) (hi : i < N) (e : i ≠ t) (ht : t < N) : left - 1 + (i + 1) + 1 = N + (if i + 1 ≤ t then 0 else 1) := by
  have h1 := h.left_; have h2 := h.pos hi e ht
  by_cases c : i ≤ t
  · rw [if_pos c] at h1; rw [if_pos (by omega)]; omega
  · rw [if_neg c] at h1; rw [if_neg (by omega)]; omega
theorem unrankL_at (h : i < N) : unrankL t (N - i) i left need rk = unrankL t (N - (i + 1) + 1) i left need rk := by rw [show N - i = N - (i + 1) + 1 from by omega]
theorem UnInv.target (h : UnInv N t full i left need rk pre) (hi : i < N) (e : i = t) : UnInv N t full (i + 1) left need rk (pre ++ [true]) where
  ile := by omega
  pl := by simp [h.pl]
  total := by have := h.total; rw [unrankL_at hi, unrankL, if_pos e] at this; simpa using this
  left_ := by have := h.left_; rw [if_pos (by omega)] at this; rw [if_neg (by omega)]; omega
  needle := h.needle
  lo := h.lo
  hi := h.hi
theorem UnInv.zero (h : UnInv N t full i left 0 rk pre) (hi : i < N) (e : i ≠ t) (ht : t < N) : UnInv N t full (i + 1) (left - 1) 0 rk (pre ++ [false]) where
  ile := by omega
  pl := by simp [h.pl]
  total := by have := h.total; rw [unrankL_at hi, unrankL, if_neg e, if_pos rfl] at this; simpa using this
  left_ := h.left_step hi e ht
  needle := h.needle
  lo := h.lo
  hi := h.hi
theorem UnInv.take (h : UnInv N t full i left need rk pre) (hi : i < N) (e : i ≠ t) (ht : t < N) (hn : 0 < need) (hc : rk < chs (left - 1) (need - 1)) : UnInv N t full (i + 1) (left - 1) (need - 1) rk (pre ++ [true]) where
  ile := by omega
  pl := by simp [h.pl]
  total := by have := h.total; rw [unrankL_at hi, unrankL, if_neg e, if_neg (by omega), if_pos hc] at this; simpa using this
  left_ := h.left_step hi e ht
  needle := by have := h.needle; omega
  lo := h.lo
  hi := h.hi
theorem UnInv.skip (h : UnInv N t full i left need rk pre) (hi : i < N) (e : i ≠ t) (ht : t < N) (hN : N ≤ 24) (hn : 0 < need) (hc : ¬ rk < chs (left - 1) (need - 1)) : UnInv N t full (i + 1) (left - 1) need (rk - chs (left - 1) (need - 1)) (pre ++ [false]) where
  ile := by omega
  pl := by simp [h.pl]
  total := by have := h.total; rw [unrankL_at hi, unrankL, if_neg e, if_neg (by omega), if_neg hc] at this; simpa using this
  left_ := h.left_step hi e ht
  needle := h.needle
  lo := by omega
  hi := by have := h.hi; have := h.pos hi e ht; have := chs_24 (left - 1) (need - 1) (by omega); omega
theorem UnInv.end_ (h : UnInv N t full N left need rk pre) : pre = full := by
  have := h.total
  rw [Nat.sub_self] at this
  simpa [unrankL] using this
theorem pre_set (h : UnInv N t full i left need rk pre) (hi : i < N) (b : Bool) : (pre ++ List.replicate (N - i) false).set i b = (pre ++ [b]) ++ List.replicate (N - (i + 1)) false := by
  rw [show N - i = N - (i + 1) + 1 from by omega, ← h.pl, set_pre, h.pl]
theorem pre_keep (pre : List Bool) (hi : i < N) : pre ++ List.replicate (N - i) false = (pre ++ [false]) ++ List.replicate (N - (i + 1)) false := by
  rw [show N - i = N - (i + 1) + 1 from by omega, List.replicate_succ, List.append_assoc]; rfl
end
theorem UnrankMem.made1 {w W : World} {g : Nat} {T : Nat → Int} {n : Nat} {t : Int} {ys : List Bool} (harr : W.heap[g]? = some (.cells (arrOf T) 51 (0, 0))) (hres : W.heap[w.heap.size]? = some (.cells #[.slice none 0 0, .int .i64 0] 24 (0, 0))) (hb : Below w.heap.size w W) :
    UnrankMem w g T n t (W.heap.size + 1) W.heap.size ys ((W.alloc (.cells (boolRow ys) 4)).alloc (.cells #[.slice (some ⟨W.heap.size, 0, none⟩) n n, .int .i64 t] 24)).drew where
  lay := blk_drew (by have := heap_alloc_new (W.alloc (.cells (boolRow ys) 4)) (.cells #[.slice (some ⟨W.heap.size, 0, none⟩) n n, .int .i64 t] 24); simpa using this)
  row := blk_drew (blk_alloc (heap_alloc_new W _) _)
  arr := blk_drew (blk_alloc (blk_alloc harr _) _)
  res := blk_drew (blk_alloc (blk_alloc hres _) _)
  lt1 := by have := blk_lt hres; omega
  lt2 := blk_lt hres
  below := below_drew (below_alloc (below_alloc hb _) _)
theorem UnrankMem.made2 {w W : World} {g : Nat} {T : Nat → Int} {n : Nat} {t : Int} {ys : List Bool} (harr : W.heap[g]? = some (.cells (arrOf T) 51 (0, 0))) (hres : W.heap[w.heap.size]? = some (.cells #[.slice none 0 0, .int .i64 0] 24 (0, 0))) (hb : Below w.heap.size w W) :
    UnrankMem w g T n t W.heap.size (W.heap.size + 1) ys ((W.alloc (.cells #[.slice (some ⟨W.heap.size + 1, 0, none⟩) n n, .int .i64 t] 24)).alloc (.cells (boolRow ys) 4)).drew where
  lay := blk_drew (blk_alloc (heap_alloc_new W _) _)
  row := blk_drew (by have := heap_alloc_new (W.alloc (.cells #[.slice (some ⟨W.heap.size + 1, 0, none⟩) n n, .int .i64 t] 24)) (.cells (boolRow ys) 4); simpa using this)
  arr := blk_drew (blk_alloc (blk_alloc harr _) _)
  res := blk_drew (blk_alloc (blk_alloc hres _) _)
  lt1 := blk_lt hres
  lt2 := by have := blk_lt hres; omega
  below := below_drew (below_alloc (below_alloc hb _) _)

set_option maxHeartbeats 400000 in
set_option maxRecDepth 100000 in
theorem layout_Unrank.calls (a0 : Int) (a1 : Int) (a2 : Int) (r1 : List Bool) (r2 : Int) (r3 : Bool) (w : World) (h : layout_Unrank.f a0 a1 a2 = some (r1, r2, r3)) :
    Calls Tryd.prog 11 #[.int .i64 a0, .int .i64 a1, .int .i64 a2] w fun e w' => ∃ v0_ : Value, e = .returned (.tuple #[.agg #[v0_, .int .i64 r2], .bool r3]) ∧ Kd.R Kd.bool 4 w' w.heap.size (fun _ => True) v0_ r1 ∧ Below w.heap.size w w' := by
  unfold layout_Unrank.f at h
  by_cases h1 : a2 < 0
  · rw [if_pos (.inl h1)] at h
    simp only [Option.some.injEq, Prod.mk.injEq] at h
    obtain ⟨rfl, rfl, rfl⟩ := h
    go_enter Tryd.func11, Tryd.ntmps11
    go_wp2_with fail
    refine bodyPost_ret (v := .tuple #[.agg #[.slice none 0 0, .int .i64 0], .bool false]) (by simp [results, Tryd.results11, go_sem]) rfl ⟨.slice none 0 0, rfl, Kd.R_nil _ _ _ _ _, ?_⟩
    exact below_alloc (Below.refl _ _) _
  by_cases h2 : cnt a0 a1 ≤ a2
  · rw [if_pos (.inr h2)] at h
    simp only [Option.some.injEq, Prod.mk.injEq] at h
    obtain ⟨rfl, rfl, rfl⟩ := h
    have hc := Lib.hid (show layout_Count.f a0 a1 = some (cnt a0 a1) from rfl)
    go_enter Tryd.func11, Tryd.ntmps11
    go_wp2_with (go_at_call 9; refine (layout_Count.calls _ _ _ _ hc.out).mono ?_; rintro e w1 ⟨rfl, hB⟩; have hb := Lib.hid ((hB.block w.heap.size (by simp)).trans (heap_alloc_new w _)); obtain ⟨hc0, hc1, hf0, hf1, hlt⟩ := two_cells hb.out)
    refine bodyPost_ret (v := .tuple #[.agg #[.slice none 0 0, .int .i64 0], .bool false]) (by simp [results, Tryd.results11, go_sem, hc0, hc1]) rfl ⟨.slice none 0 0, rfl, Kd.R_nil _ _ _ _ _, ?_⟩
    exact below_set (below_set (below_then (below_alloc (Below.refl _ _) _) (by simp) hB) (Nat.le_refl _)) (Nat.le_refl _)
  rw [if_neg (by omega)] at h
  obtain ⟨n, k, rfl, rfl, hn, hk, hch, hlt⟩ := cnt_pos (by omega) (show a2 < cnt a0 a1 by omega)
  simp only [Option.some.injEq, Prod.mk.injEq, show ((n : Int) + 1 - 1).toNat = n from by omega, show ((k : Int) + 1 - 1).toNat = k from by omega, show ((n : Int) + 1).toNat = n + 1 from by omega] at h
  obtain ⟨rfl, rfl, rfl⟩ := h
  have hc := Lib.hid (show layout_Count.f ((n : Int) + 1) ((k : Int) + 1) = some (cnt ((n : Int) + 1) ((k : Int) + 1)) from rfl)
  have hmk := print_make_of (P := Tryd.prog) 22 4 (.bool false) 1 Tryd.underlying22 (by kernel_rfl) rfl (by decide) (n + 1) (by omega)
  simp only [Int.natCast_add, Int.natCast_one, boolRow_made] at hmk
  have h2' : a2 < cnt ((n : Int) + 1) ((k : Int) + 1) := by omega
  clear h2
  have hq24 := (chs_24 n k (by omega)).2
  generalize hq : chs n k = q at *
  have Hq := Lib.hid hq
  clear hq
  have q1 : (q == 0) = false := by rw [beq_eq_false_iff_ne]; omega
  have q2 : ¬ q = 0 := by omega
  have e1 := Int.ediv_nonneg (a := a2) (b := q) (by omega) (by omega)
  have e2 : a2 / q < (n : Int) + 1 := Int.ediv_lt_of_lt_mul (by omega) hlt
  have e3 := Int.emod_nonneg a2 (b := q) (by omega)
  have e4 := Int.emod_lt_of_pos a2 (b := q) (by omega)
  have e5 : IntKind.i64.wrap (a2.tdiv q) = a2 / q := by rw [IntKind.wrap_i64, Int.tdiv_eq_ediv_of_nonneg (by omega)]; omega
  obtain ⟨t, ht⟩ : ∃ t : Nat, a2 / q = t := ⟨(a2 / q).toNat, by omega⟩
  rw [ht] at e2 e5 ⊢
  rw [show ((t : Int)).toNat = t from by omega]
  have ht' : t < n + 1 := by omega
  clear e1 e2
  have q3 := Lib.hid e5
  have Ht := Lib.hid ht
  clear e5 ht
  obtain ⟨full, hfull⟩ : ∃ full, unrankL t (n + 1) 0 n k (a2 % q) = full := ⟨_, rfl⟩
  have HF := Lib.hid hfull
  rw [hfull]
  clear hfull
  go_enter Tryd.func11, Tryd.ntmps11
  go_wp2_with (first
    | (go_at_call 9; refine (layout_Count.calls _ _ _ _ hc.out).mono ?_; rintro e w1 ⟨rfl, hB⟩; have hb := Lib.hid ((hB.block w.heap.size (by simp)).trans (heap_alloc_new w _)); have HB1 := Lib.hid (below_then (below_alloc (Below.refl w.heap.size _) _) (by simp) hB); clear hB)
    | (go_at_call 20; refine (choose_any _).mono ?_; rintro e w2 ⟨g, T, rfl, hg, hT, hv, hB⟩; have hb2 := Lib.hid ((hB.block w.heap.size (blk_lt hb.out)).trans hb.out); have HB2 := Lib.hid (below_then HB1.out (Nat.le_of_lt (blk_lt hb.out)) hB); have HT := Lib.hid hT; have hv2 := Lib.hid ((hv n k (by omega) (by omega)).trans Hq.out); have HV := Lib.hid hv; clear hv hT hB hb))
  have hca := arr_cell HT.out (n * 25 + k) (by omega)
  rw [hv2.out] at hca
  have q3 := q3.out
  have b1 : (0 : Int) ≤ (n : Int) := by omega
  have b2 : (n : Int) < 25 := by omega
  have b3 : (0 : Int) ≤ (k : Int) := by omega
  have b4 : (k : Int) < 25 := by omega
  have w3 : IntKind.i64.wrap ((n : Int) + 1 - 1) = (n : Int) := by rw [IntKind.wrap_i64]; omega
  have w4 : IntKind.i64.wrap ((k : Int) + 1 - 1) = (k : Int) := by rw [IntKind.wrap_i64]; omega
  have w1 : IntKind.i64.wrap (n : Int) = (n : Int) := by rw [IntKind.wrap_i64]; omega
  have w2' : IntKind.i64.wrap (k : Int) = (k : Int) := by rw [IntKind.wrap_i64]; omega
  go_cut [9] (fun v9 W => ∃ bl br, v9 = .pointer (some ⟨bl, 0, none⟩) ∧ UnrankMem w g T (n + 1) t bl br (List.replicate (n + 1) false) W)
  case first =>
    go_region_held3 (fun W => W.cell? ⟨g, n * 25 + k, none⟩ = some (Value.int .i64 q)) (first | go_keep) (fail)
    all_goals
      go_wp2_with fail
      go_meet
    case rel => exact ⟨_, _, rfl, UnrankMem.made1 HT.out hb2.out HB2.out⟩
    case rel => exact ⟨_, _, rfl, UnrankMem.made2 HT.out hb2.out HB2.out⟩
  case rest =>
    clear hca w3 w4 w1 w2' b1 b2 b3 b4 q3 HT hb2 HB2 hg hc hmk HB1 Ht
    obtain ⟨bl, br, rfl, hM⟩ := hcut
    have hca := arr_cell hM.arr (n * 25 + k) (by omega)
    rw [hv2.out] at hca
    have HM := Lib.hid hM
    clear hM
    go_wp2
    go_loopw [2, 10, 11, 54] (fun v2 v10 v11 v54 wr => ∃ (i left need : Nat) (rk : Int) (pre : List Bool), v2 = .int .i64 rk ∧ v10 = .int .i64 left ∧ v11 = .int .i64 need ∧ v54 = .int .i64 i ∧ UnInv (n + 1) t full i left need rk pre ∧ UnrankMem w g T (n + 1) t bl br (pre ++ List.replicate (n + 1 - i) false) wr)
      (fun _ _ _ v54 _ => n + 1 - (intOf v54).toNat)
    case atStart => exact ⟨0, n, k, _, [], rfl, rfl, rfl, rfl, ⟨by omega, rfl, by rw [List.nil_append]; exact HF.out, by rw [if_pos (Nat.zero_le _)], by omega, e3, by omega⟩, HM.out⟩
    case round =>
      clear hca e3 e4 HM q1 q2
      obtain ⟨i, left, need, rk, pre, rfl, rfl, rfl, rfl, hI, hM⟩ := hrel
      have hile := hI.ile
      have hlo := hI.lo
      have hhi := hI.hi
      have hnl := hI.needle
      obtain ⟨hl0, hl1, hlf0, hlf1, hl2⟩ := two_cells hM.lay
      by_cases hlt2 : i < n + 1
      · have hlen : i < (pre ++ List.replicate (n + 1 - i) false).length := by simp [hI.pl]; omega
        have hrc := row_cell hM.row i hlen
        have hrf := row_free hM.row i
        have HI := Lib.hid hI
        have HM := Lib.hid hM
        clear hI hM hlen
        by_cases e : i = t
        · have e' : ((i : Int) == (t : Int)) = true := by rw [beq_iff_eq]; omega
          have hI2 := Lib.hid (HI.out.target hlt2 e)
          have hM2 := Lib.hid (HM.out.set i true)
          rw [pre_set HI.out hlt2] at hM2
          clear e
          go_wp2
          go_roundw
          case rel => exact ⟨i + 1, left, need, rk, _, rfl, rfl, rfl, by go_num, hI2.out, hM2.out⟩
          case measure => simp [intOf]; omega
        · have e' : ((i : Int) == (t : Int)) = false := by rw [beq_eq_false_iff_ne]; omega
          obtain ⟨hp1, hp2⟩ := HI.out.pos hlt2 e ht'
          by_cases hn0 : need = 0
          · subst hn0
            have hI2 := Lib.hid (HI.out.zero hlt2 e ht')
            have hM2 := Lib.hid (pre_keep pre hlt2 ▸ HM.out)
            clear e
            go_wp2
            go_roundw
            case rel => exact ⟨i + 1, left - 1, 0, rk, _, rfl, vi (by omega), rfl, by go_num, hI2.out, hM2.out⟩
            case measure => simp [intOf]; omega
          · have hn1 : ((need : Int) == 0) = false := by rw [beq_eq_false_iff_ne]; omega
            have hn2 : 0 < need := by omega
            have hca := arr_cell HM.out.arr ((left - 1) * 25 + (need - 1)) (by omega)
            rw [HV.out _ _ (by omega) (by omega)] at hca
            have hch1 := chs_24 (left - 1) (need - 1) (by omega)
            by_cases hc : rk < chs (left - 1) (need - 1)
            · have hI2 := Lib.hid (HI.out.take hlt2 e ht' hn2 hc)
              have hM2 := Lib.hid (HM.out.set i true)
              rw [pre_set HI.out hlt2] at hM2
              clear e hn0
              generalize chs (left - 1) (need - 1) = c at *
              go_wp2
              go_roundw
              case rel => exact ⟨i + 1, left - 1, need - 1, rk, _, rfl, vi (by omega), vi (by omega), by go_num, hI2.out, hM2.out⟩
              case measure => simp [intOf]; omega
            · have hI2 := Lib.hid (HI.out.skip hlt2 e ht' (by omega) hn2 hc)
              have hM2 := Lib.hid (pre_keep pre hlt2 ▸ HM.out)
              clear e hn0
              obtain ⟨hch1, hch2⟩ := hch1
              generalize chs (left - 1) (need - 1) = c at *
              go_wp2
              go_roundw
              case rel => exact ⟨i + 1, left - 1, need, _, _, rfl, vi (by omega), rfl, by go_num, hI2.out, hM2.out⟩
              case measure => simp [intOf]; omega
      · obtain rfl : i = n + 1 := by omega
        have hE := Lib.hid hI.end_
        have hpl := Lib.hid hI.pl
        rw [Nat.sub_self, List.replicate_zero, List.append_nil] at hM
        obtain ⟨hr0, hr1, hrf0, hrf1, _⟩ := two_cells hM.res
        have hne := Lib.hid (Nat.ne_of_lt hM.lt1)
        have hne2 := Lib.hid (blk_ne hM.row hM.res (by decide))
        have HM := Lib.hid hM
        clear hM hI
        go_wp2
        refine bodyPost_ret (v := .tuple #[.agg #[.slice (some ⟨br, 0, none⟩) (n + 1) (n + 1), .int .i64 t], .bool true]) (by simp [results, Tryd.results11, go_sem, hr0, hr1]) rfl ⟨_, rfl, ?_, ?_⟩
        · have hrow := blk_far (p := ⟨w.heap.size, 1, none⟩) (blk_far (p := ⟨w.heap.size, 0, none⟩) HM.out.row hne2.out (.slice (some ⟨br, 0, none⟩) (n + 1) (n + 1))) hne2.out (.int .i64 t)
          have := row_own hrow (Nat.le_of_lt HM.out.lt2) (by rw [hpl.out]; omega) (fun _ => True) trivial
          rw [hpl.out, hE.out] at this
          exact this
        · exact below_set (below_set HM.out.below (Nat.le_refl _)) (Nat.le_refl _)
end Go.Proofs.YtipjlhhgccfmcaaDoor.P
