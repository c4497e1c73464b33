/- stock.Order: which boxes fit a want, by their expiry. For at most 20 boxes whose lots are there. -/
import Derived.Test.YtemcplbldfldlaaDoorGShort
import Derived.Test.YtemcplbldfldlaaDoorPx7
namespace Go.Proofs.YtemcplbldfldlaaDoor.P
open Go.RowKit Go.Proofs.YtemcplbldfldlaaDoorW.PrintWords Go.Proofs.YtemcplbldfldlaaDoorW.PrintLast Go.Proofs.YtemcplbldfldlaaDoorW.PrintMore
set_option linter.unusedVariables false
set_option linter.unusedSimpArgs false
set_option maxRecDepth 100000 in
theorem order_infoI : (Tryd.prog.info? 3).map (fun i => (i.zero, i.size, i.bytes)) = some (some (.int .i64 0), 1, 8) := by kernel_rfl
/-- Does a lot fit a want. -/
def fitL (l : S38) (x : S48) : Bool := decide (l.f0 = x.f0) && !l.f2 && decide (x.f2 ≤ l.f1)
/-- Does a box fit a want. -/
def fitB (lots : List S38) (x : S48) (b : S40) : Bool := decide (0 ≤ b.f0) && fitL (rd_T38 lots b.f0) x
/-- The expiry of the lot of box i. -/
def keyB (lots : List S38) (boxes : List S40) (i : Int) : Int := (rd_T38 lots (rd_T40 boxes i).f0).f1
/-- The places below m of the boxes that fit and have units. -/
def fitUpto (lots : List S38) (boxes : List S40) (x : S48) (m : Nat) : List Int :=
  ((List.range m).filter (fun i => decide ((boxes.getD i z40).f1 > 0) && fitB lots x (boxes.getD i z40))).map (fun (k : Nat) => (k : Int))
/-- The boxes' lots are there. -/
def lotsIn (lots : List S38) (boxes : List S40) : Prop := ∀ b ∈ boxes, b.f0 < (lots.length : Int)
instance (lots : List S38) (boxes : List S40) : Decidable (lotsIn lots boxes) := inferInstanceAs (Decidable (∀ b ∈ boxes, b.f0 < (lots.length : Int)))
def stock_Order.f (l0 : List S38) (l1 : List S40) (a2_0 : Int) (a2_1 : Int) (a2_2 : Int) : Option (List Int) :=
  if l1.length ≤ 20 ∧ lotsIn l0 l1 then some (isort (keyB l0 l1) (fitUpto l0 l1 ⟨a2_0, a2_1, a2_2⟩ l1.length)) else none
theorem fitUpto_succ (lots : List S38) (boxes : List S40) (x : S48) (m : Nat) :
    fitUpto lots boxes x (m + 1) = fitUpto lots boxes x m ++ (if (decide ((boxes.getD m z40).f1 > 0) && fitB lots x (boxes.getD m z40)) = true then [(m : Int)] else []) := by
  unfold fitUpto
  rw [List.range_succ, List.filter_append, List.map_append]
  congr 1
  rw [List.filter_cons]
  split <;> simp
theorem fitUpto_len (lots : List S38) (boxes : List S40) (x : S48) (m : Nat) : (fitUpto lots boxes x m).length ≤ m := by
  unfold fitUpto
  rw [List.length_map]
  exact Nat.le_trans (List.length_filter_le _ _) (by simp)
theorem fitUpto_mem {lots : List S38} {boxes : List S40} {x : S48} {m : Nat} {i : Int} (h : i ∈ fitUpto lots boxes x m) : 0 ≤ i ∧ i < (m : Int) ∧ 0 < (rd_T40 boxes i).f1 ∧ fitB lots x (rd_T40 boxes i) = true := by
  unfold fitUpto at h
  obtain ⟨k, hk, rfl⟩ := List.mem_map.1 h
  obtain ⟨h1, h2⟩ := List.mem_filter.1 hk
  have h3 := List.mem_range.1 h1
  simp only [Bool.and_eq_true, decide_eq_true_eq] at h2
  exact ⟨by omega, by omega, by simpa [rd_T40] using h2.1, by simpa [rd_T40] using h2.2⟩
theorem fits_eq (lots : List S38) (x : S48) (b : S40) (h : b.f0 < (lots.length : Int)) : stock_fits.f lots b.f0 b.f1 b.f2 x.f0 x.f1 x.f2 = some (fitB lots x b) := by
  unfold stock_fits.f fitB fitL stock_Fits.f
  by_cases h0 : b.f0 ≥ 0
  · have h1 : (0 : Int) ≤ b.f0 := h0
    rw [if_pos h0, if_pos h1, if_pos h]
    by_cases h2 : (rd_T38 lots b.f0).f0 = x.f0
    · rw [if_pos h2]
      cases h3 : (rd_T38 lots b.f0).f2 <;> simp [h1, h2]
    · rw [if_neg h2]; simp [h2]
  · rw [if_neg h0]
    simp [show ¬ (0 : Int) ≤ b.f0 from h0]
set_option maxHeartbeats 1000000 in
set_option maxRecDepth 100000 in
theorem cmpCompare_calls (a b : Int) (w : World) : Calls Tryd.prog 46 #[.int .i64 a, .int .i64 b] w fun e w' => e = .returned (.int .i64 (cmpI a b)) ∧ w' = w := by
  have hn : ∀ x, Calls Tryd.prog 54 #[.int .i64 x] w fun e w' => e = .returned (.bool false) ∧ w' = w := by
    intro x
    go_enter Tryd.func54, Tryd.ntmps54
    go_wp2
    go_ret
    exact ⟨by simp, rfl⟩
  unfold cmpI
  by_cases h1 : a < b
  · rw [if_pos h1]
    go_enter Tryd.func46, Tryd.ntmps46
    go_wp2_with (first | (go_at_call 54; refine (hn a).mono ?_; rintro e w1 ⟨rfl, rfl⟩) | (go_at_call 54; refine (hn b).mono ?_; rintro e w1 ⟨rfl, rfl⟩))
    go_ret
    exact ⟨rfl, rfl⟩
  · rw [if_neg h1]
    by_cases h2 : a > b
    · rw [if_pos h2]
      go_enter Tryd.func46, Tryd.ntmps46
      go_wp2_with (first | (go_at_call 54; refine (hn a).mono ?_; rintro e w1 ⟨rfl, rfl⟩) | (go_at_call 54; refine (hn b).mono ?_; rintro e w1 ⟨rfl, rfl⟩))
      go_ret
      exact ⟨rfl, rfl⟩
    · rw [if_neg h2]
      go_enter Tryd.func46, Tryd.ntmps46
      go_wp2_with (first | (go_at_call 54; refine (hn a).mono ?_; rintro e w1 ⟨rfl, rfl⟩) | (go_at_call 54; refine (hn b).mono ?_; rintro e w1 ⟨rfl, rfl⟩))
      go_ret
      exact ⟨rfl, rfl⟩
set_option maxHeartbeats 2000000 in
set_option maxRecDepth 100000 in
/-- The test of the sort. -/
theorem orderTest (p q : Nat) (A0 : Option Addr) (c0 : Nat) (l0 : List S38) (A1 : Option Addr) (c1 : Nat) (l1 : List S40) (i j : Int) (W : World)
    (hp : W.cell? ⟨p, 0, none⟩ = some (.slice A0 l0.length c0)) (hq : W.cell? ⟨q, 0, none⟩ = some (.slice A1 l1.length c1)) (hr0 : Kd.C k38 W A0 l0.length l0) (hr1 : Kd.C k40 W A1 l1.length l1)
    (hi : 0 ≤ i ∧ i < (l1.length : Int)) (hj : 0 ≤ j ∧ j < (l1.length : Int)) (hi2 : 0 ≤ (rd_T40 l1 i).f0 ∧ (rd_T40 l1 i).f0 < (l0.length : Int)) (hj2 : 0 ≤ (rd_T40 l1 j).f0 ∧ (rd_T40 l1 j).f0 < (l0.length : Int)) :
    Calls Tryd.prog 45 #[.int .i64 i, .int .i64 j, .pointer (some ⟨p, 0, none⟩), .pointer (some ⟨q, 0, none⟩)] W fun e w' => e = .returned (.int .i64 (cmpI (keyB l0 l1 i) (keyB l0 l1 j))) ∧ ∃ n, w' = W.drewN n := by
  obtain ⟨i1, i2⟩ := hi
  obtain ⟨j1, j2⟩ := hj
  obtain ⟨i3, i4⟩ := hi2
  obtain ⟨j3, j4⟩ := hj2
  unfold keyB
  obtain ⟨ad, rfl, ci, _, _⟩ := at_T40 hr1 i i1 i2
  obtain ⟨ad', e2, cj, _, _⟩ := at_T40 hr1 j j1 j2
  obtain rfl := Option.some.inj e2
  generalize (rd_T40 l1 i).f0 = x at *
  generalize (rd_T40 l1 j).f0 = y at *
  obtain ⟨bd, rfl, _, di, _⟩ := at_T38 hr0 x i3 i4
  obtain ⟨bd', e3, _, dj, _⟩ := at_T38 hr0 y j3 j4
  obtain rfl := Option.some.inj e3
  generalize (rd_T38 l0 x).f1 = u at *
  generalize (rd_T38 l0 y).f1 = v at *
  clear hr0 hr1 e2 e3
  go_enter Tryd.func45, Tryd.ntmps45
  go_wp2
  go_quiet (first | (go_at_call 46; exact Calls.quiet_of_same (cmpCompare_calls _ _ _)))
  go_wp2
  go_ret
  exact ⟨rfl, _, rfl⟩
/-- The memory of Order's own: three variables, the row. -/
structure OMem (A0 : Option Addr) (n0 c0 : Nat) (A1 : Option Addr) (n1 c1 : Nat) (x : S48) (w : World) (v : Value) (ys : List Int) (W : World) : Prop where
  b0 : W.heap[w.heap.size]? = some (.cells #[.slice A0 n0 c0] 23 (0, 0))
  b1 : W.heap[w.heap.size + 1]? = some (.cells #[.slice A1 n1 c1] 24 (0, 0))
  b2 : W.heap[w.heap.size + 2]? = some (.cells #[.int .i64 x.f0, .int .i64 x.f1, .int .i64 x.f2] 48 (0, 0))
  row : Kd.R (Kd.int .i64) 3 W (w.heap.size + 3) (fun _ => True) v ys
  below : Below w.heap.size w W
  size : w.heap.size + 3 ≤ W.heap.size
section
variable {A0 : Option Addr} {n0 c0 : Nat} {A1 : Option Addr} {n1 c1 : Nat} {x : S48} {w W W1 : World} {v v1 : Value} {ys ys1 : List Int}
/-- On, with another row. -/
theorem OMem.on (h : OMem A0 n0 c0 A1 n1 c1 x w v ys W) (hb : Below (w.heap.size + 3) W W1) (hr : Kd.R (Kd.int .i64) 3 W1 (w.heap.size + 3) (fun _ => True) v1 ys1) : OMem A0 n0 c0 A1 n1 c1 x w v1 ys1 W1 where
  b0 := (hb.block _ (by omega)).trans h.b0
  b1 := (hb.block _ (by omega)).trans h.b1
  b2 := (hb.block _ (by omega)).trans h.b2
  row := hr
  below := h.below.trans (hb.mono (by omega))
  size := Nat.le_trans h.size hb.size
theorem OMem.step (h : OMem A0 n0 c0 A1 n1 c1 x w v ys W) (hb : Below W.heap.size W W1) : OMem A0 n0 c0 A1 n1 c1 x w v ys W1 :=
  h.on (hb.mono h.size) (Kd.R_below h.row hb)
end
set_option maxHeartbeats 4000000 in
set_option maxRecDepth 100000 in
theorem stock_Order.calls (A0 : Option Addr) (c0 : Nat) (l0 : List S38) (A1 : Option Addr) (c1 : Nat) (l1 : List S40) (a2_0 : Int) (a2_1 : Int) (a2_2 : Int) (r : List Int) (w : World) (hr0 : Kd.C k38 w A0 l0.length l0) (hc0 : l0.length ≤ c0) (hr1 : Kd.C k40 w A1 l1.length l1) (hc1 : l1.length ≤ c1) (h : stock_Order.f l0 l1 a2_0 a2_1 a2_2 = some r) :
    Calls Tryd.prog 35 #[.slice A0 l0.length c0, .slice A1 l1.length c1, .agg #[.int .i64 a2_0, .int .i64 a2_1, .int .i64 a2_2]] w fun e w' => ∃ v0_ : Value, e = .returned (v0_) ∧ Kd.R (Kd.int .i64) 3 w' w.heap.size (fun _ => True) v0_ r ∧ Below w.heap.size w w' := by
  unfold stock_Order.f at h
  by_cases hg : l1.length ≤ 20 ∧ lotsIn l0 l1
  case neg => rw [if_neg hg] at h; cases h
  rw [if_pos hg] at h
  obtain rfl := Option.some.inj h
  clear h
  obtain ⟨h20, hli⟩ := hg
  obtain ⟨x, hx⟩ : ∃ x : S48, x = ⟨a2_0, a2_1, a2_2⟩ := ⟨_, rfl⟩
  obtain ⟨e0, e1, e2⟩ : a2_0 = x.f0 ∧ a2_1 = x.f1 ∧ a2_2 = x.f2 := by subst hx; exact ⟨rfl, rfl, rfl⟩
  rw [← hx, e0, e1, e2]
  clear e0 e1 e2 hx
  have HR0 := Lib.hid hr0
  have HR1 := Lib.hid hr1
  have HC0 := Lib.hid hc0
  have HLI := Lib.hid hli
  clear hr0 hr1 hc0 hc1 hli
  go_enter Tryd.func35, Tryd.ntmps35
  go_wp2
  go_loopg [7, 12] l1.length (fun gg s7 s12 wr => ∃ m : Nat, m ≤ l1.length ∧ l1.length - m ≤ gg ∧ s12 = .int .i64 m ∧ Aside (OMem A0 l0.length c0 A1 l1.length c1 x w s7 (fitUpto l0 l1 x m) wr))
  case atStart =>
    refine ⟨0, Nat.zero_le _, by omega, rfl, ?_⟩
    exact {
      b0 := blk_alloc (blk_alloc (heap_alloc_new w _) _) _
      b1 := by
        have := blk_alloc (heap_alloc_new (w.alloc (.cells #[.slice A0 l0.length c0] 23)) (.cells #[.slice A1 l1.length c1] 24)) (.cells #[.int .i64 x.f0, .int .i64 x.f1, .int .i64 x.f2] 48)
        simpa using this
      b2 := by
        have := heap_alloc_new ((w.alloc (.cells #[.slice A0 l0.length c0] 23)).alloc (.cells #[.slice A1 l1.length c1] 24)) (.cells #[.int .i64 x.f0, .int .i64 x.f1, .int .i64 x.f2] 48)
        simpa using this
      row := Kd.R_nil _ _ _ _ _
      below := below_alloc (below_alloc (below_alloc (Below.refl _ _) _) _) _
      size := by simp }
  case round =>
    obtain ⟨m, hm, hgm, rfl, OM⟩ := hrel
    by_cases hlt : m < l1.length
    · have hltz : (m : Int) < (l1.length : Int) := by omega
      obtain ⟨ad, e1, la, lb, lc⟩ := at_T40 (Kd.C_below HR1.out OM.out.below) (m : Int) (by omega) hltz
      subst e1
      have hbm : (l1.getD m z40).f0 < (l0.length : Int) := HLI.out _ (by rw [List.getD_eq_getElem?_getD, List.getElem?_eq_getElem hlt]; exact List.getElem_mem hlt)
      have hsucc := fitUpto_succ l0 l1 x m
      simp only [rd_T40, Int.toNat_natCast] at la lb lc
      generalize l1.getD m z40 = y at la lb lc hbm hsucc
      have hfit := fits_eq l0 x y hbm
      have HF := Lib.hid hfit
      have HS := Lib.hid hsucc
      have HBM := Lib.hid hbm
      clear hfit hsucc hbm
      by_cases hpos : y.f1 > 0
      · cases hfb : fitB l0 x y with
        | true =>
          rw [hfb] at HF
          go_wp2_with (first
            | ((with_reducible refine gate_dst (N := 9) rfl ?_); refine box_event ?hg (N := 9) ?hd (cs := #[.int .i64 0, .int .i64 0, .int .i64 0]) (t := 40) ?hr ?_; (case hd => rfl); (case hg => rfl); (case hr => first | (go_simp; done) | (go_simp; rfl)); intro gb hg w8 hbox hb; have HB8 := Lib.hid hb; have BK := Lib.hid hbox; have GE := Lib.hid (show wr.heap.size ≤ gb by omega); have hcz0 : w8.cell? ⟨gb, 0, none⟩ = some (.int .i64 0) := (blk_cell hbox 0).trans rfl; have hcz1 : w8.cell? ⟨gb, 1, none⟩ = some (.int .i64 0) := (blk_cell hbox 1).trans rfl; have hcz2 : w8.cell? ⟨gb, 2, none⟩ = some (.int .i64 0) := (blk_cell hbox 2).trans rfl; have hfz0 := blk_frozen hbox 0; have hfz1 := blk_frozen hbox 1; have hfz2 := blk_frozen hbox 2; clear hb hbox hg; have OM8 := Lib.hid (OM.out.step HB8.out); have hne0 : ¬ w.heap.size = gb := by { have := OM.out.size; have := GE.out; omega }; have hne2 : ¬ w.heap.size + 1 + 1 = gb := by { have := OM.out.size; have := GE.out; omega }; have z0 : w8.cell? ⟨w.heap.size, 0, none⟩ = some (.slice A0 l0.length c0) := (blk_cell OM8.out.b0 0).trans rfl; have z20 : w8.cell? ⟨w.heap.size + 1 + 1, 0, none⟩ = some (.int .i64 x.f0) := (blk_cell OM8.out.b2 0).trans rfl; have z21 : w8.cell? ⟨w.heap.size + 1 + 1, 1, none⟩ = some (.int .i64 x.f1) := (blk_cell OM8.out.b2 1).trans rfl; have z22 : w8.cell? ⟨w.heap.size + 1 + 1, 2, none⟩ = some (.int .i64 x.f2) := (blk_cell OM8.out.b2 2).trans rfl)
            | (go_at_call 43; have hb3 := (((HB8.out.setCell (p := ⟨gb, 0, none⟩) GE.out (.int .i64 y.f0)).setCell (p := ⟨gb, 1, none⟩) GE.out (.int .i64 y.f1)).setCell (p := ⟨gb, 2, none⟩) GE.out (.int .i64 y.f2)); refine (stock_fits.calls _ _ l0 y.f0 y.f1 y.f2 x.f0 x.f1 x.f2 true _ (Kd.C_below HR0.out (below_then OM.out.below OM.out.below.size hb3)) HC0.out HF.out).mono ?_; rintro e w9 ⟨rfl, hb9⟩; have OM9 := Lib.hid (OM.out.step (below_then hb3 hb3.size hb9)); clear hb3 hb9)
            | ((with_reducible refine gate_builtin (b := .append) (xs := #[.tmp 26, .tmp 28]) rfl ?_); at_builtin; refine Kd.R_append (Kd.int .i64) (w0 := w9) (w.heap.size + 3) rfl (.tmp 26) (.tmp 28) 77 3 (.int .i64 0) 8 rfl Tryd.underlying77 order_infoI rfl (by decide) (by omega) u7 (fitUpto l0 l1 x m) (m : Int) [.int .i64 (m : Int)] (fun _ => True) (fun _ => False) rfl (by first | (go_simp; done) | (go_simp; rfl)) rfl (fun _ hk => hk.elim) (fun _ _ => trivial) OM9.out.row (Below.refl _ _) OM9.out.size (by have := fitUpto_len l0 l1 x m; omega) ?_; intro v10 w10 ho hb hg hat; have OM10 := Lib.hid (OM9.out.on hb ho); clear ho hb hg hat))
          go_roundg (l1.length - (m + 1))
          case measure => omega
          case rel => exact ⟨m + 1, by omega, Nat.le_refl _, by go_num, by rw [HS.out, if_pos (by simp [hpos, hfb])]; exact OM10.out⟩
        | false =>
          rw [hfb] at HF
          go_wp2_with (first
            | ((with_reducible refine gate_dst (N := 9) rfl ?_); refine box_event ?hg (N := 9) ?hd (cs := #[.int .i64 0, .int .i64 0, .int .i64 0]) (t := 40) ?hr ?_; (case hd => rfl); (case hg => rfl); (case hr => first | (go_simp; done) | (go_simp; rfl)); intro gb hg w8 hbox hb; have HB8 := Lib.hid hb; have BK := Lib.hid hbox; have GE := Lib.hid (show wr.heap.size ≤ gb by omega); have hcz0 : w8.cell? ⟨gb, 0, none⟩ = some (.int .i64 0) := (blk_cell hbox 0).trans rfl; have hcz1 : w8.cell? ⟨gb, 1, none⟩ = some (.int .i64 0) := (blk_cell hbox 1).trans rfl; have hcz2 : w8.cell? ⟨gb, 2, none⟩ = some (.int .i64 0) := (blk_cell hbox 2).trans rfl; have hfz0 := blk_frozen hbox 0; have hfz1 := blk_frozen hbox 1; have hfz2 := blk_frozen hbox 2; clear hb hbox hg; have OM8 := Lib.hid (OM.out.step HB8.out); have hne0 : ¬ w.heap.size = gb := by { have := OM.out.size; have := GE.out; omega }; have hne2 : ¬ w.heap.size + 1 + 1 = gb := by { have := OM.out.size; have := GE.out; omega }; have z0 : w8.cell? ⟨w.heap.size, 0, none⟩ = some (.slice A0 l0.length c0) := (blk_cell OM8.out.b0 0).trans rfl; have z20 : w8.cell? ⟨w.heap.size + 1 + 1, 0, none⟩ = some (.int .i64 x.f0) := (blk_cell OM8.out.b2 0).trans rfl; have z21 : w8.cell? ⟨w.heap.size + 1 + 1, 1, none⟩ = some (.int .i64 x.f1) := (blk_cell OM8.out.b2 1).trans rfl; have z22 : w8.cell? ⟨w.heap.size + 1 + 1, 2, none⟩ = some (.int .i64 x.f2) := (blk_cell OM8.out.b2 2).trans rfl)
            | (go_at_call 43; have hb3 := (((HB8.out.setCell (p := ⟨gb, 0, none⟩) GE.out (.int .i64 y.f0)).setCell (p := ⟨gb, 1, none⟩) GE.out (.int .i64 y.f1)).setCell (p := ⟨gb, 2, none⟩) GE.out (.int .i64 y.f2)); refine (stock_fits.calls _ _ l0 y.f0 y.f1 y.f2 x.f0 x.f1 x.f2 false _ (Kd.C_below HR0.out (below_then OM.out.below OM.out.below.size hb3)) HC0.out HF.out).mono ?_; rintro e w9 ⟨rfl, hb9⟩; have OM9 := Lib.hid (OM.out.step (below_then hb3 hb3.size hb9)); clear hb3 hb9))
          go_roundg (l1.length - (m + 1))
          case measure => omega
          case rel => exact ⟨m + 1, by omega, Nat.le_refl _, by go_num, by rw [HS.out, if_neg (by simp [hfb]), List.append_nil]; exact OM9.out⟩
      · go_wp2_with (first
            | ((with_reducible refine gate_dst (N := 9) rfl ?_); refine box_event ?hg (N := 9) ?hd (cs := #[.int .i64 0, .int .i64 0, .int .i64 0]) (t := 40) ?hr ?_; (case hd => rfl); (case hg => rfl); (case hr => first | (go_simp; done) | (go_simp; rfl)); intro gb hg w8 hbox hb; have HB8 := Lib.hid hb; have BK := Lib.hid hbox; have GE := Lib.hid (show wr.heap.size ≤ gb by omega); have hcz0 : w8.cell? ⟨gb, 0, none⟩ = some (.int .i64 0) := (blk_cell hbox 0).trans rfl; have hcz1 : w8.cell? ⟨gb, 1, none⟩ = some (.int .i64 0) := (blk_cell hbox 1).trans rfl; have hcz2 : w8.cell? ⟨gb, 2, none⟩ = some (.int .i64 0) := (blk_cell hbox 2).trans rfl; have hfz0 := blk_frozen hbox 0; have hfz1 := blk_frozen hbox 1; have hfz2 := blk_frozen hbox 2; clear hb hbox hg; have OM8 := Lib.hid (OM.out.step HB8.out); have hne0 : ¬ w.heap.size = gb := by { have := OM.out.size; have := GE.out; omega }; have hne2 : ¬ w.heap.size + 1 + 1 = gb := by { have := OM.out.size; have := GE.out; omega }; have z0 : w8.cell? ⟨w.heap.size, 0, none⟩ = some (.slice A0 l0.length c0) := (blk_cell OM8.out.b0 0).trans rfl; have z20 : w8.cell? ⟨w.heap.size + 1 + 1, 0, none⟩ = some (.int .i64 x.f0) := (blk_cell OM8.out.b2 0).trans rfl; have z21 : w8.cell? ⟨w.heap.size + 1 + 1, 1, none⟩ = some (.int .i64 x.f1) := (blk_cell OM8.out.b2 1).trans rfl; have z22 : w8.cell? ⟨w.heap.size + 1 + 1, 2, none⟩ = some (.int .i64 x.f2) := (blk_cell OM8.out.b2 2).trans rfl))
        have OM9 := Lib.hid (OM.out.step (((HB8.out.setCell (p := ⟨gb, 0, none⟩) GE.out (.int .i64 y.f0)).setCell (p := ⟨gb, 1, none⟩) GE.out (.int .i64 y.f1)).setCell (p := ⟨gb, 2, none⟩) GE.out (.int .i64 y.f2)))
        go_roundg (l1.length - (m + 1))
        case measure => omega
        case rel => exact ⟨m + 1, by omega, Nat.le_refl _, by go_num, by rw [HS.out, if_neg (by have h : ¬ y.f1 > 0 := (by omega); simp [h]), List.append_nil]; exact OM9.out⟩
    · have hltz : ¬ (m : Int) < (l1.length : Int) := by omega
      obtain rfl : m = l1.length := by omega
      have hmf : ∀ (fn : Fn) (first cap : Array Value) (w : World), (Instr.makeFunc fn first cap).run Tryd.prog w = .ok (.func fn first cap) w := fun _ _ _ _ => rfl
      rcases intRow_of OM.out.row with ⟨rfl, hnil⟩ | ⟨g, cap, tail, rfl, hbg, hrow, hnc, hcm, htl, _⟩
      · have HN := Lib.hid hnil
        clear hnil
        have hs := fun g lb => stableSort_nil g lb wr
        clear hltz
        have hltz : ¬ (l1.length : Int) < (l1.length : Int) := by omega
        have HB := Lib.hid OM.out.below
        clear OM
        go_wp2_with (go_at_call 44; refine (hs _ _).mono ?_; rintro e w1 ⟨rfl, rfl⟩)
        go_ret
        exact ⟨_, rfl, by rw [HN.out]; exact Kd.R_nil _ _ _ _ _, HB.out⟩
      · have hs := stableSort_calls 45 #[.pointer (some ⟨w.heap.size, 0, none⟩), .pointer (some ⟨w.heap.size + 1, 0, none⟩)] (keyB l0 l1) (fun args w => Go.Proofs.enters_of Tryd.func45 (by kernel_rfl) rfl args w) g cap (w.heap.size + 3) (fitUpto l0 l1 x l1.length) tail wr hbg (Nat.le_trans (fitUpto_len _ _ _ _) h20) OM.out.size hrow (fun W i j hb hi hj => by
          have hm1 := fitUpto_mem hi
          have hm2 := fitUpto_mem hj
          have hin : ∀ k, 0 ≤ k → k < (l1.length : Int) → fitB l0 x (rd_T40 l1 k) = true → 0 ≤ (rd_T40 l1 k).f0 ∧ (rd_T40 l1 k).f0 < (l0.length : Int) := by
            intro k hk1 hk2 hk3
            unfold fitB at hk3
            simp only [Bool.and_eq_true, decide_eq_true_eq] at hk3
            refine ⟨hk3.1, HLI.out _ ?_⟩
            unfold rd_T40
            have hkk : k.toNat < l1.length := by omega
            rw [List.getD_eq_getElem?_getD, List.getElem?_eq_getElem hkk]
            exact List.getElem_mem hkk
          have hb' : Below w.heap.size w W := OM.out.below.trans (hb.mono (by omega))
          exact orderTest w.heap.size (w.heap.size + 1) A0 c0 l0 A1 c1 l1 i j W (blk_cell ((hb.block _ (by omega)).trans OM.out.b0) 0) (blk_cell ((hb.block _ (by omega)).trans OM.out.b1) 0) (Kd.C_below HR0.out hb') (Kd.C_below HR1.out hb') ⟨hm1.1, hm1.2.1⟩ ⟨hm2.1, hm2.2.1⟩ (hin i hm1.1 hm1.2.1 hm1.2.2.2) (hin j hm2.1 hm2.2.1 hm2.2.2.2))
        have HS := Lib.hid hs
        have HB := Lib.hid OM.out.below
        have HX := Lib.hid (show w.heap.size ≤ g ∧ cap ≤ maxLen ∧ (fitUpto l0 l1 x l1.length).length + tail.length = cap from ⟨by omega, hcm, htl⟩)
        clear hs OM hrow hbg hnc hcm htl hltz
        have hltz : ¬ (l1.length : Int) < (l1.length : Int) := by omega
        go_wp2_with (go_at_call 44; refine HS.out.mono ?_; rintro e w1 ⟨rfl, hr1, hb1⟩; have HR1' := Lib.hid hr1; have HB1 := Lib.hid hb1; clear hr1 hb1)
        go_ret
        refine ⟨_, rfl, ?_, HB.out.trans (HB1.out.mono (by omega))⟩
        have h1 := R_of_intRow (ok := fun _ => True) HR1'.out HX.out.1 HX.out.2.1 (by rw [isort_len]; exact HX.out.2.2) trivial
        rwa [isort_len] at h1
end Go.Proofs.YtemcplbldfldlaaDoor.P
