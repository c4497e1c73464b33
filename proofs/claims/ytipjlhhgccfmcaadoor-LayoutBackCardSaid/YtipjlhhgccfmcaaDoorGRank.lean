/- layout.Rank: what the rank of a right layout is. -/
import Derived.Test.YtipjlhhgccfmcaaDoorGCount
import Derived.Test.YtipjlhhgccfmcaaDoorPx1
import Derived.BigRegion
import Derived.BigQuiet
import Derived.Deep.RegionHeld3
namespace Go.Proofs.YtipjlhhgccfmcaaDoor.P
open Go.RowKit Go.Proofs.YtipjlhhgccfmcaaDoorW.PrintWords Go.Proofs.YtipjlhhgccfmcaaDoorW.PrintLast

theorem rdOf_get (l : List Bool) (i : Nat) : rdOf false l (i : Int) = l.getD i false := by simp [rdOf]
theorem drop_get (l : List Bool) (i : Nat) (h : i < l.length) : l.drop i = l.getD i false :: l.drop (i + 1) := by
  rw [List.drop_eq_getElem_cons h, List.getD_eq_getElem?_getD, List.getElem?_eq_getElem h]; rfl
theorem count_drop (l : List Bool) (i : Nat) (h : i < l.length) : (l.drop i).count true = (l.drop (i + 1)).count true + if l.getD i false = true then 1 else 0 := by
  rw [drop_get l i h, List.count_cons]; cases l.getD i false <;> simp

theorem shelves_l0 (l : List Bool) (hl : l.length ≤ 1000) (d : Nat) : ∀ (k i c : Nat), l.length - i = d → d < k → i ≤ l.length → c ≤ i →
    layout_Shelves.l0 k c l (l.length : Int) i = some ((c + (l.drop i).count true : Nat) : Int) := by
  induction d with
  | zero =>
    intro k i c hd hk hi hc
    obtain ⟨k, rfl⟩ : ∃ m, k = m + 1 := ⟨k - 1, by omega⟩
    simp only [layout_Shelves.l0]
    rw [if_neg (by omega), List.drop_eq_nil_of_le (by omega)]; rfl
  | succ d ih =>
    intro k i c hd hk hi hc
    obtain ⟨k, rfl⟩ : ∃ m, k = m + 1 := ⟨k - 1, by omega⟩
    simp only [layout_Shelves.l0]
    rw [if_pos (by omega), if_pos (by omega), if_pos (by omega), rdOf_get, count_drop l i (by omega), wrap_in ((c : Int) + 1) (by omega) (by omega), wrap_in ((i : Int) + 1) (by omega) (by omega)]
    have h1 := ih k (i + 1) (c + 1) (by omega) (by omega) (by omega) (by omega)
    have h2 := ih k (i + 1) c (by omega) (by omega) (by omega) (by omega)
    simp only [Int.natCast_add, Int.natCast_one] at h1 h2
    by_cases e : l.getD i false = true
    · rw [if_pos e, if_pos e, h1]; congr 1; omega
    · rw [if_neg e, if_neg e, h2]; congr 1
theorem shelves_tells (l : List Bool) (t : Int) (hl : l.length ≤ 1000) : layout_Shelves.f (l.length + 1) l t = some ((l.count true : Nat) : Int) := by
  have h := shelves_l0 l hl l.length (l.length + 1) 0 0 (by omega) (by omega) (by omega) (by omega)
  simp only [List.drop_zero, Nat.zero_add] at h
  exact h

/-- What the cells from i on add to the rank. -/
def rankL (t : Nat) : Nat → Nat → Nat → List Bool → Int
  | _, _, _, [] => 0
  | i, left, need, b :: bs =>
    if i = t then rankL t (i + 1) left need bs
    else if b = true then rankL t (i + 1) (left - 1) (need - 1) bs
    else (if 0 < need then chs (left - 1) (need - 1) else 0) + rankL t (i + 1) (left - 1) need bs
def rightL (l : List Bool) (t : Int) : Prop := 1 ≤ l.length ∧ l.length ≤ 24 ∧ 0 ≤ t ∧ t < l.length ∧ l.getD t.toNat false = true
instance (l : List Bool) (t : Int) : Decidable (rightL l t) := by unfold rightL; infer_instance
def rankOf (l : List Bool) (t : Int) : Int := t * chs (l.length - 1) (l.count true - 1) + rankL t.toNat 0 (l.length - 1) (l.count true - 1) l
def layout_Rank.f (l0_0 : List Bool) (a0_1 : Int) : Option (Int) := if rightL l0_0 a0_1 then some (rankOf l0_0 a0_1) else none

/-- Where the loop over the cells stands: i cells are behind it. -/
structure RankInv (l : List Bool) (t i left need : Nat) (rk : Int) : Prop where
  ile : i ≤ l.length
  total : rk + rankL t i left need (l.drop i) = rankOf l t
  left_ : left + i + 1 = l.length + (if i ≤ t then 0 else 1)
  need_ : need + (if i ≤ t then 1 else 0) = (l.drop i).count true
  lo : 0 ≤ rk
  hi : rk ≤ 402653184 + i * 16777216
theorem count_at (l : List Bool) (t : Nat) (h : t < l.length) (ht : l.getD t false = true) : ∀ i, i ≤ t → 1 ≤ (l.drop i).count true := by
  intro i hi
  have : true ∈ l.drop i := by
    rw [List.mem_iff_getElem]
    refine ⟨t - i, by rw [List.length_drop]; omega, ?_⟩
    rw [List.getElem_drop]
    rw [List.getD_eq_getElem?_getD, List.getElem?_eq_getElem h] at ht
    simpa [show i + (t - i) = t from by omega] using ht
  have := List.count_pos_iff.2 this
  omega
section
variable {l : List Bool} {t i left need : Nat} {rk : Int}
theorem RankInv.start (h1 : 1 ≤ l.length) (h2 : l.length ≤ 24) (ht : t < l.length) (h5 : l.getD t false = true) : RankInv l t 0 (l.length - 1) (l.count true - 1) (t * chs (l.length - 1) (l.count true - 1)) where
  ile := by omega
  total := by simp [rankOf]
  left_ := by rw [if_pos (Nat.zero_le _)]; omega
  need_ := by have h0 := count_at l t ht h5 0 (Nat.zero_le _); rw [List.drop_zero] at h0 ⊢; rw [if_pos (Nat.zero_le _)]; omega
  lo := (mul_in (a := (t : Int)) (by omega) (by omega) (chs_24 (l.length - 1) (l.count true - 1) (by omega)).1 (chs_24 _ _ (by omega)).2).1
  hi := by have := (mul_in (a := (t : Int)) (by omega) (by omega) (chs_24 (l.length - 1) (l.count true - 1) (by omega)).1 (chs_24 _ _ (by omega)).2).2; omega
theorem RankInv.target (h : RankInv l t i left need rk) (hi : i < l.length) (e : i = t) (h5 : l.getD t false = true) : RankInv l t (i + 1) left need rk where
  ile := by omega
  total := by have := h.total; rw [drop_get l i hi, rankL, if_pos e] at this; exact this
  left_ := by have := h.left_; rw [if_pos (by omega)] at this; rw [if_neg (by omega)]; omega
  need_ := by have := h.need_; rw [count_drop l i hi, if_pos (by omega), e, if_pos h5] at this; rw [if_neg (by omega), e]; omega
  lo := h.lo
  hi := by have := h.hi; omega
theorem RankInv.pos (h : RankInv l t i left need rk) (hi : i < l.length) (e : i ≠ t) (ht : t < l.length) : 1 ≤ left ∧ left ≤ l.length := by
  have := h.left_
  by_cases c : i ≤ t
  · rw [if_pos c] at this; omega
  · rw [if_neg c] at this; omega
theorem RankInv.need_le (h : RankInv l t i left need rk) : need ≤ l.length := by
  have h1 := h.need_
  have h2 : (l.drop i).count true ≤ l.length := Nat.le_trans List.count_le_length (by rw [List.length_drop]; omega)
  omega
theorem RankInv.shelf_pos (h : RankInv l t i left need rk) (hi : i < l.length) (e : i ≠ t) (ht : t < l.length) (h5 : l.getD t false = true) (hb : l.getD i false = true) : 1 ≤ need := by
  have h1 := h.need_
  rw [count_drop l i hi, if_pos hb] at h1
  by_cases c : i ≤ t
  · have := count_at l t ht h5 (i + 1) (by omega); rw [if_pos c] at h1; omega
  · rw [if_neg c] at h1; omega
theorem RankInv.shelf (h : RankInv l t i left need rk) (hi : i < l.length) (e : i ≠ t) (ht : t < l.length) (h5 : l.getD t false = true) (hb : l.getD i false = true) : RankInv l t (i + 1) (left - 1) (need - 1) rk where
  ile := by omega
  total := by have := h.total; rw [drop_get l i hi, rankL, if_neg e, if_pos hb] at this; exact this
  left_ := by
    have h1 := h.left_; have h2 := h.pos hi e ht
    by_cases c : i ≤ t
    · rw [if_pos c] at h1; rw [if_pos (by omega)]; omega
    · rw [if_neg c] at h1; rw [if_neg (by omega)]; omega
  need_ := by
    have h1 := h.need_; have h2 := h.shelf_pos hi e ht h5 hb
    rw [count_drop l i hi, if_pos hb] at h1
    by_cases c : i ≤ t
    · rw [if_pos c] at h1; rw [if_pos (by omega)]; omega
    · rw [if_neg c] at h1; rw [if_neg (by omega)]; omega
  lo := h.lo
  hi := by have := h.hi; omega
theorem RankInv.blank (h : RankInv l t i left need rk) (hi : i < l.length) (h2 : l.length ≤ 24) (e : i ≠ t) (ht : t < l.length) (hb : l.getD i false = false) : RankInv l t (i + 1) (left - 1) need (rk + if 0 < need then chs (left - 1) (need - 1) else 0) where
  ile := by omega
  total := by have := h.total; rw [drop_get l i hi, rankL, if_neg e, if_neg (by rw [hb]; decide)] at this; rw [← this]; omega
  left_ := by
    have h1 := h.left_; have h2 := h.pos hi e ht
    by_cases c : i ≤ t
    · rw [if_pos c] at h1; rw [if_pos (by omega)]; omega
    · rw [if_neg c] at h1; rw [if_neg (by omega)]; omega
  need_ := by
    have h1 := h.need_
    rw [count_drop l i hi, hb, if_neg (show ¬ (false = true) by decide)] at h1
    by_cases c : i ≤ t
    · rw [if_pos c] at h1; rw [if_pos (by omega)]; omega
    · rw [if_neg c] at h1; rw [if_neg (by omega)]; omega
  lo := by have h1 := h.lo; have h3 := h.pos hi e ht; split
           · have := (chs_24 (left - 1) (need - 1) (by omega)).1; omega
           · omega
  hi := by have h1 := h.hi; have h3 := h.pos hi e ht; split
           · have := (chs_24 (left - 1) (need - 1) (by omega)).2; omega
           · omega
theorem RankInv.end_ (h : RankInv l t l.length left need rk) : rk = rankOf l t := by
  have := h.total
  rw [List.drop_length] at this
  simpa [rankL] using this
end

set_option maxHeartbeats 400000 in
set_option maxRecDepth 100000 in
theorem layout_Rank.calls (A0_0 : Option Addr) (c0_0 : Nat) (l0_0 : List Bool) (a0_1 : Int) (r : Int) (w : World) (hr0_0 : Kd.C Kd.bool w A0_0 l0_0.length l0_0) (hc0_0 : l0_0.length ≤ c0_0) (h : layout_Rank.f l0_0 a0_1 = some r) :
    Calls Tryd.prog 10 #[.agg #[.slice A0_0 l0_0.length c0_0, .int .i64 a0_1]] w fun e w' => e = .returned (.int .i64 r) ∧ Below w.heap.size w w' := by
  unfold layout_Rank.f at h
  by_cases hR : rightL l0_0 a0_1
  · rw [if_pos hR] at h
    obtain rfl : rankOf l0_0 a0_1 = r := by simpa using h
    clear h
    obtain ⟨h1, h2, h3, h4, h5⟩ := hR
    obtain ⟨t, rfl⟩ : ∃ t : Nat, a0_1 = t := ⟨a0_1.toNat, by omega⟩
    have ht : t < l0_0.length := by omega
    have HR := Lib.hid hr0_0
    have h6 := Lib.hid (show l0_0.getD t false = true from by simpa using h5)
    clear h5 hr0_0 h3 h4
    have hST := Lib.hid (shelves_tells l0_0 t (by omega))
    have hS := Lib.hid (RankInv.start h1 h2 ht h6.out)
    have hK1 : 1 ≤ l0_0.count true := by have := count_at l0_0 t ht h6.out 0 (by omega); simpa using this
    have hK2 : l0_0.count true ≤ l0_0.length := List.count_le_length
    go_enter Tryd.func10, Tryd.ntmps10
    go_wp2_with (go_at_call 20; refine (choose_any _).mono ?_; rintro e w1 ⟨g, T, rfl, hg, hT, hv, hB⟩; have hc0 := (hB.cell (p := ⟨w.heap.size, 0, none⟩) (by simp)).trans (show _ = some (Value.slice A0_0 l0_0.length c0_0) by simp); have hc1 := (hB.cell (p := ⟨w.heap.size, 1, none⟩) (by simp)).trans (show _ = some (Value.int .i64 t) by simp); have HT := Lib.hid hT; have HV := Lib.hid hv; clear hv hT; have hBw := Lib.hid (below_then (below_alloc (Below.refl _ _) _) (by simp) hB); have hsz : w.heap.size < w1.heap.size := Nat.lt_of_lt_of_le (by simp) hB.size)
    go_region_held3 (fun W => W.cell? ⟨w.heap.size, 0, none⟩ = some (Value.slice A0_0 l0_0.length c0_0) ∧ W.cell? ⟨w.heap.size, 1, none⟩ = some (Value.int .i64 t))
      (first | go_keep | exact ⟨hd0, hd1⟩)
      ((go_at_call 21; refine (layout_Shelves.calls _ _ _ _ _ _ _ (Kd.C_below HR.out (by exact below_drew hBw.out)) hc0_0 hST.out).mono ?_; rintro e w2 ⟨rfl, hB2⟩; have hd0 := (hB2.cell (p := ⟨w.heap.size, 0, none⟩) (by exact hsz)).trans hc0; have hd1 := (hB2.cell (p := ⟨w.heap.size, 1, none⟩) (by exact hsz)).trans hc1))
    have HB2 := Lib.hid (below_then (below_drew hBw.out) (Nat.le_of_lt hsz) hB2)
    have HT2 : Hid (w2.heap[g]? = some (.cells (arrOf T) 51 (0, 0))) := Lib.hid ((hB2.block g (Array.getElem?_eq_some_iff.1 HT.out).1).trans HT.out)
    have hca := arr_cell HT2.out ((l0_0.length - 1) * 25 + (l0_0.count true - 1)) (by omega)
    clear hB hB2 hg HT hBw hc0 hc1 hsz
    go_wp2
    go_quiet (fail)
    go_wp2
    have hTk : wrap64 ((t : Int) * T ((l0_0.length - 1) * 25 + (l0_0.count true - 1))) = (t : Int) * chs (l0_0.length - 1) (l0_0.count true - 1) := by
      rw [HV.out _ _ (by omega) (by omega)]
      have hm := mul_in (a := (t : Int)) (by omega) (by omega) (chs_24 (l0_0.length - 1) (l0_0.count true - 1) (by omega)).1 (chs_24 _ _ (by omega)).2
      exact wrap_in _ (by omega) (by omega)
    have HTk := Lib.hid hTk
    clear hTk
    go_loopw [6, 7, 8, 36] (fun v6 v7 v8 v36 wr => ∃ (i left need : Nat) (rk : Int), v6 = .int .i64 rk ∧ v7 = .int .i64 left ∧ v8 = .int .i64 need ∧ v36 = .int .i64 i ∧ RankInv l0_0 t i left need rk ∧
        wr.cell? ⟨w.heap.size, 0, none⟩ = some (Value.slice A0_0 l0_0.length c0_0) ∧ wr.cell? ⟨w.heap.size, 1, none⟩ = some (Value.int .i64 t) ∧ wr.heap[g]? = some (.cells (arrOf T) 51 (0, 0)) ∧ Below w.heap.size w wr)
      (fun _ _ _ v36 _ => l0_0.length - (intOf v36).toNat)
    case atStart => exact ⟨0, l0_0.length - 1, l0_0.count true - 1, _, by rw [HTk.out], by congr 1; omega, by congr 1; omega, rfl, hS.out, hd0, hd1, HT2.out, pw_below_drewN HB2.out _⟩
    case round =>
      clear hd0 hd1 HT2 hca HB2 HTk hS
      obtain ⟨i, left, need, rk, rfl, rfl, rfl, rfl, hI, hd0, hd1, hT3, hB3⟩ := hrel
      have HI := Lib.hid hI
      have HT3 := Lib.hid hT3
      have HB3 := Lib.hid hB3
      have hrk := hI.lo
      have hrk2 := hI.hi
      have hile := hI.ile
      by_cases hlt : i < l0_0.length
      · obtain ⟨ad, hA, hcell⟩ := Kd.at_bool HR.out (i : Int) (by omega) (by omega)
        subst hA
        have hcell2 := (hB3.cell (World.block_lt_of_cell? w _ hcell)).trans hcell
        rw [rdOf_get] at hcell2
        simp only [Int.toNat_natCast] at hcell2
        clear hcell hI hT3 hB3
        by_cases e : i = t
        · have e' : ((i : Int) == (t : Int)) = true := by rw [beq_iff_eq]; omega
          have hI2 := Lib.hid (HI.out.target hlt e h6.out)
          clear e
          go_wp2
          go_roundw
          case rel => exact ⟨i + 1, left, need, rk, rfl, rfl, rfl, by go_num, hI2.out, hd0, hd1, HT3.out, HB3.out⟩
          case measure => simp [intOf]; omega
        · have e' : ((i : Int) == (t : Int)) = false := by rw [beq_eq_false_iff_ne]; omega
          have hpos := HI.out.pos hlt e ht
          obtain ⟨hp1, hp2⟩ := hpos
          by_cases b : l0_0.getD i false = true
          · have hn1 := HI.out.shelf_pos hlt e ht h6.out b
            have hnl := HI.out.need_le
            have hI2 := Lib.hid (HI.out.shelf hlt e ht h6.out b)
            rw [b] at hcell2
            clear e b
            go_wp2
            go_roundw
            case rel => exact ⟨i + 1, left - 1, need - 1, rk, rfl, by congr 1; omega, by congr 1; omega, by go_num, hI2.out, hd0, hd1, HT3.out, HB3.out⟩
            case measure => simp [intOf]; omega
          · have b := Bool.eq_false_iff.2 b
            have hI2 := Lib.hid (HI.out.blank hlt h2 e ht b)
            rw [b] at hcell2
            clear e b
            have hnl := HI.out.need_le
            by_cases hn0 : 0 < need
            · have hca := arr_cell HT3.out ((left - 1) * 25 + (need - 1)) (by omega)
              have hch := chs_24 (left - 1) (need - 1) (by omega)
              rw [← HV.out _ _ (by omega) (by omega)] at hch
              obtain ⟨hch1, hch2⟩ := hch
              rw [if_pos hn0, ← HV.out _ _ (by omega) (by omega)] at hI2
              go_wp2
              go_roundw
              case rel => exact ⟨i + 1, left - 1, need, _, rfl, by congr 1; omega, rfl, by go_num, hI2.out, hd0, hd1, HT3.out, HB3.out⟩
              case measure => simp [intOf]; omega
            · obtain rfl : need = 0 := by omega
              rw [if_neg (by omega), Int.add_zero] at hI2
              go_wp2
              go_roundw
              case rel => exact ⟨i + 1, left - 1, 0, rk, rfl, by congr 1; omega, rfl, by go_num, hI2.out, hd0, hd1, HT3.out, HB3.out⟩
              case measure => simp [intOf]; omega
      · obtain rfl : i = l0_0.length := by omega
        have hE := Lib.hid hI.end_
        go_wp2
        go_ret
        exact ⟨by rw [← hE.out]; rfl, HB3.out⟩
  · rw [if_neg hR] at h; cases h
end Go.Proofs.YtipjlhhgccfmcaaDoor.P
