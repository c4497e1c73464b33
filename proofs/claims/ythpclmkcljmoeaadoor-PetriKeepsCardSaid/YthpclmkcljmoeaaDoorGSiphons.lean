/- petri.Siphons: the minimal closed sets of a net of at most eight places, by size and then by their places. -/
import Derived.Test.YthpclmkcljmoeaaDoorGSipSort
import Derived.Test.YthpclmkcljmoeaaDoorPx3
import Derived.Test.YthpclmkcljmoeaaDoorWInvWords
import Derived.Laws.EntriesVeiled
namespace Go.Proofs.YthpclmkcljmoeaaDoor.P
open Go.RowKit Go.Proofs.YthpclmkcljmoeaaDoorW.PrintWords Go.Proofs.YthpclmkcljmoeaaDoorW.PrintLast Go.Proofs.YthpclmkcljmoeaaDoorW.PrintMore
set_option linter.unusedVariables false
set_option linter.unusedSimpArgs false
def castL (l : List Nat) : List Int := l.map (fun (x : Nat) => (x : Int))
def sipOk (a0_0 : Int) (l0_1 : List S29) : Bool := decide (0 ≤ a0_0) && decide (a0_0 ≤ 8) && decide (l0_1.length ≤ 5000) && l0_1.all (fun t => t.f0.all (fun p => decide (0 ≤ p) && decide (p < 64)) && t.f1.all (fun p => decide (0 ≤ p) && decide (p < 64)) && decide (t.f0.length ≤ 1000000) && decide (t.f1.length ≤ 1000000))
def petri_Siphons.f (a0_0 : Int) (l0_1 : List S29) : Option (List (List Int) × Int) :=
  if a0_0 > 14 then some ([], 27) else if sipOk a0_0 l0_1 = true then some ((sipW (edgesN l0_1 false) a0_0.toNat).map listL, 0) else none
theorem sipOk_okT {a : Int} {l : List S29} (h : sipOk a l = true) : 0 ≤ a ∧ a ≤ 8 ∧ l.length ≤ 5000 ∧ ∀ t ∈ l, okT t := by
  unfold sipOk at h
  simp only [Bool.and_eq_true, decide_eq_true_eq, List.all_eq_true] at h
  exact ⟨h.1.1.1, h.1.1.2, h.1.2, fun t ht => ⟨fun p hp => (h.2 t ht).1.1.1 p hp, fun p hp => (h.2 t ht).1.1.2 p hp, (h.2 t ht).1.2, (h.2 t ht).2⟩⟩
theorem pow_le_256 {n : Nat} (h : n ≤ 8) : 2 ^ n ≤ 256 := Nat.pow_le_pow_right (n := 2) (by omega) h
/-- The row of all words, sorted. -/
theorem sort_row (base n : Nat) (hn : n ≤ 8) (W : World) (v : Value) (ht : Tab W) (h0 : 0 < base) (hR : Kd.R (Kd.int .u64) 52 W base (fun _ => True) v (castL (List.range' 1 (2 ^ n - 1)))) :
    ∃ A cap, v = .slice A (2 ^ n - 1) cap ∧ Calls Tryd.prog 28 #[v, .func (.func 29) #[] #[]] W fun e w' => e = .returned (.tuple #[]) ∧ Below base W w' ∧ Kd.C (Kd.int .u64) w' A (2 ^ n - 1) (castL (allW n)) := by
  have hp := pow_le_256 hn
  have hlen : (castL (List.range' 1 (2 ^ n - 1))).length = 2 ^ n - 1 := by simp [castL]
  have hown := Kd.own_of_R hR
  rcases hown.2 with ⟨hv, hx⟩ | ⟨g, cap, cur, hv, hb, hh, hnc, hcm, hcs, htk⟩
  · rw [hlen] at hx
    refine ⟨none, 0, by rw [hv, hx], ?_⟩
    rw [hv]
    refine (AnyF.slices_SortFunc_none { Tryd.laysSort with } none 0 _ W).mono ?_
    rintro e w' ⟨rfl, rfl⟩
    refine ⟨rfl, Below.refl _ _, ?_⟩
    rw [hx]
    have : allW n = [] := List.eq_nil_of_length_eq_zero (by rw [allW_len]; exact hx)
    rw [this]
    exact Kd.C_nil _ _
  · rw [hlen] at hv hnc htk
    refine ⟨some ⟨g, 0, none⟩, cap, hv, ?_⟩
    rw [hv]
    have hc : ∀ j, j < (List.range' 1 (2 ^ n - 1)).length → W.cell? ⟨g, j, none⟩ = some (.int .u64 (((List.range' 1 (2 ^ n - 1)).getD j 0 : Nat) : Int)) ∧ W.frozen? ⟨g, j, none⟩ = false := fun j hj => by
      refine ⟨?_, blk_frozen hh j⟩
      rw [blk_cell hh j]
      rw [List.length_range'] at hj
      have h1 : (cur.toList.take ((2 ^ n - 1) * 1))[j]? = cur[j]? := by rw [List.getElem?_take, if_pos (by omega)]; simp
      rw [← h1, htk]
      simp [encs, castL, hj, List.getD_eq_getElem?_getD]
    have h1 := sort_words g cap base (List.range' 1 (2 ^ n - 1)) (fun x hx => by have := List.mem_range'_1.1 hx; omega) W ht (fun q hq => by
      have : q = 0 := hq
      omega) hb (blk_lt hh) hc (by simp; omega)
    rw [List.length_range'] at h1
    exact h1
theorem sip2Test (q : Nat) (v : Int) (W : World) (x : Int) (hq : W.cell? ⟨q, 0, none⟩ = some (.int .u64 v)) :
    Calls Tryd.prog 36 #[.int .u64 x, .pointer (some ⟨q, 0, none⟩)] W fun e w' => e = .returned (.bool (decide (Go.bits .andNot .u64 x v = 0))) ∧ Below W.heap.size W w' := by
  go_enter Tryd.func36, Tryd.ntmps36
  go_wp2
  go_ret
  exact ⟨by simp [Bool.beq_eq_decide_eq], Below.refl _ _⟩
/-- The words made so far. -/
structure AMem (a0 : Int) (A : Option Addr) (n c : Nat) (w w1 : World) (v : Value) (ys : List Int) (W : World) : Prop where
  b0 : W.heap[w.heap.size]? = some (.cells #[.int .i64 a0, .slice A n c] 24 (0, 0))
  row : Kd.R (Kd.int .u64) 52 W w1.heap.size (fun _ => True) v ys
  below : Below w1.heap.size w1 W
/-- What is taken so far. -/
structure LMem (w2 : World) (v7 v8 : Value) (fs : List Int) (os : List (List Int)) (W : World) : Prop where
  found : Kd.R (Kd.int .u64) 52 W w2.heap.size (fun _ => True) v7 fs
  out : Kd.S (Kd.slice 3 (Kd.int .i64)) 25 W w2.heap.size (fun _ => True) v8 os
  below : Below w2.heap.size w2 W
/-- The same beside the round's word in its box. -/
structure GMem (w2 : World) (gb : Nat) (x : Int) (v7 v8 : Value) (fs : List Int) (os : List (List Int)) (W : World) : Prop where
  found : Kd.R (Kd.int .u64) 52 W w2.heap.size (fun k => True ∧ k ≠ gb) v7 fs
  out : Kd.S (Kd.slice 3 (Kd.int .i64)) 25 W w2.heap.size (fun _ => True) v8 os
  below : Below w2.heap.size w2 W
  box : W.heap[gb]? = some (.cells #[.int .u64 x] 52 (0, 0))
section
variable {w2 W W1 : World} {gb : Nat} {x : Int} {v7 v8 v : Value} {fs : List Int} {os : List (List Int)}
theorem GMem.step (h : GMem w2 gb x v7 v8 fs os W) (hb : Below W.heap.size W W1) : GMem w2 gb x v7 v8 fs os W1 where
  found := Kd.R_below h.found hb
  out := Kd.S_below h.out hb
  below := below_then h.below h.below.size hb
  box := (hb.block _ (blk_lt h.box)).trans h.box
theorem LMem.boxed (h : LMem w2 v7 v8 fs os W) (hg : gb = W.heap.size) (hbox : W1.heap[gb]? = some (.cells #[.int .u64 0] 52 (0, 0))) (hb : Below W.heap.size W W1) (x : Int) : GMem w2 gb x v7 v8 fs os (W1.setCell ⟨gb, 0, none⟩ (.int .u64 x)) where
  found := Kd.R_far (p := ⟨gb, 0, none⟩) (Kd.R_below (Kd.R_elderB h.found gb (Nat.le_of_eq hg.symm)) hb) (fun _ hk => hk.2) _
  out := Kd.S_set (Kd.S_below h.out hb) hbox (by decide) 0 _
  below := (below_then h.below h.below.size hb).setCell (p := ⟨gb, 0, none⟩) (by rw [hg]; exact h.below.size) _
  box := blk_put (cs := #[.int .u64 0]) hbox 0 _ rfl
theorem GMem.back (h : GMem w2 gb x v7 v8 fs os W) : LMem w2 v7 v8 fs os W := ⟨Kd.R_mono h.found (fun _ _ => trivial), h.out, h.below⟩
theorem GMem.app1 (h : GMem w2 gb x v7 v8 fs os W) (hr : Kd.R (Kd.int .u64) 52 W1 w2.heap.size (fun k => True ∧ k ≠ gb) v (fs ++ [x])) (hb : Below w2.heap.size w2 W1) (hg : W.grownBy W1 v7.ownBlock) : GMem w2 gb x v v8 (fs ++ [x]) os W1 where
  found := hr
  out := Kd.S_over' h.out (Kd.R_typed h.found) (by decide) hg
  below := hb
  box := (hg.block gb (blk_lt h.box) (Kd.R_away h.found (fun _ hk => hk.2))).trans h.box
theorem GMem.app2 {L : List Int} (h : GMem w2 gb x v7 v8 fs os W) (hr : Kd.S (Kd.slice 3 (Kd.int .i64)) 25 W1 w2.heap.size (fun _ => True) v (os ++ [L])) (hb : Below w2.heap.size w2 W1) (hg : W.grownBy W1 v8.ownBlock) : GMem w2 gb x v7 v fs (os ++ [L]) W1 where
  found := Kd.R_over' h.found (Kd.S_typed h.out) (by decide) hg
  out := hr
  below := hb
  box := (hg.block gb (blk_lt h.box) (Kd.S_ne h.out h.box (by decide))).trans h.box
end
theorem sip_infoU : (Tryd.prog.info? 52).map (fun i => (i.zero, i.size, i.bytes)) = some (some (.int .u64 0), 1, 8) := by kernel_rfl
theorem sip_infoL : (Tryd.prog.info? 25).map (fun i => (i.zero, i.size, i.bytes)) = some (some (.slice none 0 0), 1, 24) := by kernel_rfl
def sip_T16 : Bool × List (List Nat × List Nat) := (true, [([], []), ([], []), ([1], [1]), ([0, 2], [0, 2]), ([], []), ([], []), ([5, 3], [5]), ([6], [6]), ([4, 7, 6], [4, 7]), ([3, 8, 0, 1, 2, 3], [0, 3]), ([8, 9, 0, 1, 2, 3, 4, 5, 6, 7, 8, 9], [4, 8])])
def sip_B16 : List Nat := [0, 0, 2, 7, 0, 0, 47, 111, 255, 511, 1023]
theorem sip_tab16 : rtab .any (opsOf Tryd.f11 16) = sip_T16 := by kernel_rfl
theorem sip_bits16 : waitsOk sip_T16.2 sip_B16 = true := by kernel_rfl
theorem found_any (fs : List Nat) (x : Nat) (hf : ∀ f ∈ fs, f < 18446744073709551616) (hx : x < 18446744073709551616) : (castL fs).any (fun f => decide (Go.bits .andNot .u64 f (x : Int) = 0)) = fs.any (fun f => decide (without f x = 0)) := by
  unfold castL
  rw [List.any_map]
  apply Bool.eq_iff_iff.2
  simp only [List.any_eq_true, Function.comp, decide_eq_true_eq]
  constructor
  · rintro ⟨f, hm, h⟩
    rw [andNot_nat f x (hf f hm) hx] at h
    exact ⟨f, hm, by omega⟩
  · rintro ⟨f, hm, h⟩
    exact ⟨f, hm, by rw [andNot_nat f x (hf f hm) hx, h]; rfl⟩
theorem allW_drop (n m : Nat) (h : m < (allW n).length) : (allW n).drop m = (allW n).getD m 0 :: (allW n).drop (m + 1) := by
  rw [List.drop_eq_getElem_cons h]
  simp [List.getD_eq_getElem?_getD, h]
set_option maxHeartbeats 8000000 in
set_option maxRecDepth 100000 in
theorem petri_Siphons.calls (a0_0 : Int) (A0_1 : Option Addr) (c0_1 : Nat) (l0_1 : List S29) (r1 : List (List Int)) (r2 : Int) (w : World) (htab : Tab w) (hr0_1 : Kd.C k29 w A0_1 l0_1.length l0_1) (hc0_1 : l0_1.length ≤ c0_1) (h : petri_Siphons.f a0_0 l0_1 = some (r1, r2)) :
    Calls Tryd.prog 11 #[.agg #[.int .i64 a0_0, .slice A0_1 l0_1.length c0_1]] w fun e w' => ∃ v0_, e = .returned (.tuple #[v0_, .int .i64 r2]) ∧ Kd.S (Kd.slice 3 (Kd.int .i64)) 25 w' w.heap.size (fun _ => True) v0_ r1 ∧ Below w.heap.size w w' := by
  unfold petri_Siphons.f at h
  by_cases h14 : a0_0 > 14
  · rw [if_pos h14] at h
    simp only [Option.some.injEq, Prod.mk.injEq] at h
    obtain ⟨rfl, rfl⟩ := h
    clear hr0_1 hc0_1 htab
    go_enter Tryd.func11, Tryd.ntmps11
    go_wp2
    go_ret2
    exact ⟨_, rfl, Kd.S_nil _ _ _ _ _, below_alloc (Below.refl _ _) _⟩
  rw [if_neg h14] at h
  by_cases hok : sipOk a0_0 l0_1 = true
  case neg => rw [if_neg hok] at h; cases h
  rw [if_pos hok] at h
  simp only [Option.some.injEq, Prod.mk.injEq] at h
  obtain ⟨rfl, rfl⟩ := h
  obtain ⟨hp0, hp8, hl5, hokT⟩ := sipOk_okT hok
  clear hok
  obtain ⟨n, rfl⟩ : ∃ n : Nat, a0_0 = (n : Int) := ⟨a0_0.toNat, by omega⟩
  have hn8 : n ≤ 8 := by omega
  have hpow := pow_le_256 hn8
  simp only [Int.toNat_natCast]
  have hTE := edgesN_ok false hokT
  obtain ⟨KE, hKE⟩ := edges_ev (n : Int) l0_1 false hokT (by omega)
  have hKE' := hKE KE (Nat.le_refl _)
  clear hKE
  have hEl : (edgesI (edgesN l0_1 false)).length ≤ 1000000 := by simp [edgesI, edgesN]; omega
  have hEl2 : (edgesN l0_1 false).length ≤ 1000000 := by simp [edgesN]; omega
  generalize edgesN l0_1 false = EN at *
  have h0w : 0 < w.heap.size := by
    have := htab 0 (by decide)
    have := cell_lt_ this
    omega
  have HE := Lib.hid hKE'
  have HEl := Lib.hid hEl
  have HEl2 := Lib.hid hEl2
  have HTE := Lib.hid hTE
  have HR := Lib.hid hr0_1
  have HC := Lib.hid hc0_1
  have HTab := Lib.hid htab
  have H0W := Lib.hid h0w
  have HPow := Lib.hid hpow
  have HN8 := Lib.hid hn8
  clear hKE' hEl hTE hr0_1 hc0_1 htab h0w hokT hl5 hEl2 hpow hn8
  have shl := shl_one (p := (n : Int)) (by omega) (by omega)
  rw [Int.toNat_natCast] at shl
  go_enter Tryd.func11, Tryd.ntmps11
  go_wp2_with (go_at_call 27; refine (petri_edges.calls KE (n : Int) A0_1 c0_1 l0_1 false _ _ (Kd.C_below HR.out (below_alloc (Below.refl _ _) _)) HC.out HE.out).mono ?_; rintro e w1 ⟨v4, rfl, hr4, hb4⟩; have HR4 := Lib.hid hr4; have HB4 := Lib.hid hb4; clear hr4 hb4)
  have hb0 : w1.heap[w.heap.size]? = some (.cells #[.int .i64 n, .slice A0_1 l0_1.length c0_1] 24 (0, 0)) := (HB4.out.block _ (by simp)).trans (heap_alloc_new w _)
  have hb1 : Below w.heap.size w w1 := below_then (below_alloc (Below.refl _ _) _) (by simp) HB4.out
  have hr4 := Kd.R_lower HR4.out (base' := w.heap.size) (by simp)
  clear HR4 HB4
  have HB0 := Lib.hid hb0
  have HB1 := Lib.hid hb1
  have HR4 := Lib.hid hr4
  have HS := Lib.hid (blk_lt hb0)
  clear hb0 hb1 hr4
  go_loopg [5, 6] (2 ^ n) (fun gg s5 s6 wr => ∃ m : Nat, 1 ≤ m ∧ m ≤ 2 ^ n ∧ 2 ^ n - m ≤ gg ∧ s6 = .int .u64 m ∧ Aside (AMem n A0_1 l0_1.length c0_1 w w1 s5 (castL (List.range' 1 (m - 1))) wr))
  case atStart => exact ⟨1, Nat.le_refl _, Nat.one_le_two_pow, Nat.sub_le _ _, rfl, ⟨HB0.out, Kd.R_nil _ _ _ _ _, Below.refl _ _⟩⟩
  case round =>
    obtain ⟨m, hm1, hm2, hg, rfl, AM⟩ := hrel
    have z0 : wr.cell? ⟨w.heap.size, 0, none⟩ = some (.int .i64 n) := (blk_cell AM.out.b0 0).trans rfl
    have hwp : IntKind.u64.wrap ((2 : Int) ^ n) = ((2 ^ n : Nat) : Int) := by
      have := HPow.out
      rw [IntKind.wrap_u64]
      have e : ((2 : Int) ^ n) = ((2 ^ n : Nat) : Int) := by simp
      rw [e]
      generalize 2 ^ n = z at *
      omega
    by_cases hlt : m < 2 ^ n
    · have hltz : (m : Int) < IntKind.u64.wrap ((2 : Int) ^ n) := by rw [hwp]; omega
      have hltz2 : (m : Int) < (2 : Int) ^ n := by
        have e : ((2 : Int) ^ n) = ((2 ^ n : Nat) : Int) := by simp
        rw [e]; omega
      have hmsz : (castL (List.range' 1 (m - 1))).length ≤ 255 := by
        have := HPow.out
        simp only [castL, List.length_map, List.length_range']
        generalize 2 ^ n = z at *
        omega
      have HM := Lib.hid hmsz
      clear hmsz
      go_wp2_with (first
        | ((with_reducible refine gate_builtin (b := .append) (xs := #[.tmp 23, .tmp 25]) rfl ?_); at_builtin; refine Kd.R_append (Kd.int .u64) (w0 := w1) w1.heap.size rfl (.tmp 23) (.tmp 25) 51 52 (.int .u64 0) 8 rfl Tryd.underlying51 sip_infoU rfl (by decide) (by omega) u5 (castL (List.range' 1 (m - 1))) (m : Int) [.int .u64 (m : Int)] (fun _ => True) (fun _ => False) rfl (by first | (go_simp; done) | (go_simp; rfl)) rfl (fun _ hk => hk.elim) (fun _ _ => trivial) AM.out.row AM.out.below AM.out.below.size (by have := HM.out; omega) ?_; intro v10 w10 ho hb hg hat; have HO10 := Lib.hid ho; have HB10 := Lib.hid hb; clear ho hb hg hat))
      go_roundg (2 ^ n - (m + 1))
      case measure => omega
      case rel =>
        refine ⟨m + 1, by omega, by omega, Nat.le_refl _, (by
          have := HPow.out
          have e : IntKind.u64.wrap ((m : Int) + 1) = ((m + 1 : Nat) : Int) := by
            rw [IntKind.wrap_u64]
            generalize 2 ^ n = z at *
            omega
          first | rw [e] | skip), ⟨(HB10.out.block _ HS.out).trans HB0.out, ?_, HB10.out⟩⟩
        have e : castL (List.range' 1 (m + 1 - 1)) = castL (List.range' 1 (m - 1)) ++ [(m : Int)] := by
          obtain ⟨q, rfl⟩ : ∃ q, m = q + 1 := ⟨m - 1, by omega⟩
          simp only [castL, Nat.add_sub_cancel, List.range'_1_concat, List.map_append, List.map_cons, List.map_nil]
          congr 2
          omega
        rw [e]
        exact HO10.out
    · have hltz : ¬ (m : Int) < IntKind.u64.wrap ((2 : Int) ^ n) := by rw [hwp]; omega
      have hltz2 : ¬ (m : Int) < (2 : Int) ^ n := by
        have e : ((2 : Int) ^ n) = ((2 ^ n : Nat) : Int) := by simp
        rw [e]; omega
      have hmn : m = 2 ^ n := by omega
      rw [hmn] at AM
      obtain ⟨A5, cap5, hu5, hsort⟩ := sort_row w1.heap.size n HN8.out wr u5 ((HTab.out.below HB1.out).below AM.out.below) (by have := HB1.out.size; have := H0W.out; omega) AM.out.row
      generalize hN : 2 ^ n - 1 = N at hu5 hsort
      subst hu5
      obtain ⟨E4, c4, hv4, hl4, hcE⟩ := Kd.R_reads HR4.out
      subst hv4
      have HSo := Lib.hid hsort
      have HCE := Lib.hid hcE
      have HL4 := Lib.hid hl4
      have HNN := Lib.hid hN
      clear hsort hmn hcE hl4 hN HR4
      go_wp2_with (go_at_call 28; refine HSo.out.mono ?_; rintro e w2 ⟨rfl, hb2, hc2⟩; have HB2 := Lib.hid (AM.out.below.trans hb2); have HC2 := Lib.hid hc2; clear hb2 hc2)
      have HB02 := Lib.hid (below_then HB1.out HB1.out.size HB2.out)
      have HT2 := Lib.hid ((HTab.out.below HB1.out).below HB2.out)
      have HCE2 := Lib.hid (Kd.C_below HCE.out HB2.out)
      clear AM z0 HB0 HS HCE
      have hNl : (allW n).length = N := by rw [allW_len]; exact HNN.out
      have hN255 : N ≤ 255 := by have := HPow.out; have := HNN.out; omega
      have HNL := Lib.hid hNl
      have HN255 := Lib.hid hN255
      clear hNl hN255
      go_loopg [7, 8, 31] N (fun gg s7 s8 s31 wr => ∃ (m : Nat) (fs : List Nat), m ≤ N ∧ N - m ≤ gg ∧ s31 = .int .i64 m ∧ fs.length ≤ m ∧ Aside (∀ f ∈ fs, f < 256) ∧ Aside (sipF EN fs ((allW n).drop m) = sipW EN n) ∧ Aside (LMem w2 s7 s8 (castL fs) (fs.map listL) wr))
      case atStart => exact ⟨0, [], Nat.zero_le _, Nat.le_refl _, rfl, Nat.le_refl _, (fun f hf => by cases hf), rfl, ⟨Kd.R_nil _ _ _ _ _, Kd.S_nil _ _ _ _ _, Below.refl _ _⟩⟩
      case round =>
        obtain ⟨m, fs, hm, hg, rfl, hfl, F256, SIP, LM⟩ := hrel
        by_cases hlt : m < N
        · have hltz : (m : Int) < (N : Int) := by omega
          obtain ⟨ad, hA5, hcell⟩ := Kd.at_int (Kd.C_below HC2.out LM.out.below) (m : Int) (by omega) hltz
          subst hA5
          have hx : rd (castL (allW n)) (m : Int) = (((allW n).getD m 0 : Nat) : Int) := by
            have := HNL.out
            simp [rd, castL, List.getD_eq_getElem?_getD, show m < (allW n).length by omega]
          rw [hx] at hcell
          simp only [Int.toNat_natCast] at hcell
          have hsd := SIP.out
          rw [allW_drop n m (by rw [HNL.out]; exact hlt)] at hsd
          have hx256 : (allW n).getD m 0 < 256 := by
            have := (allW_mem n _).1 (mem_getD (allW n) m 0 (by rw [HNL.out]; exact hlt))
            have := HPow.out
            omega
          generalize (allW n).getD m 0 = x at hcell hsd hx256
          obtain ⟨B7, c7, hv7, hc7, hC7⟩ := Kd.R_reads LM.out.found
          subst hv7
          have hany := found_any fs x (fun f hf => by have := F256.out f hf; omega) (by omega)
          have hcon : ∀ (gb : Nat) (W : World), W.heap[gb]? = some (.cells #[.int .u64 x] 52 (0, 0)) → Kd.C (Kd.int .u64) W B7 (castL fs).length (castL fs) → Calls Tryd.prog 35 #[.slice B7 (castL fs).length c7, .func (.func 36) #[] #[.pointer (some ⟨gb, 0, none⟩)]] W fun e w' => e = .returned (.bool (fs.any (fun f => decide (without f x = 0)))) ∧ Below W.heap.size W w' := fun gb W hbx hC => by
            rw [← hany]
            refine wordContains 36 #[.pointer (some ⟨gb, 0, none⟩)] (fun f => decide (Go.bits .andNot .u64 f (x : Int) = 0)) (fun args w => Go.Proofs.enters_of Tryd.func36 (by kernel_rfl) rfl args w) B7 c7 (castL fs) W (fun W1 y hy hb => (sip2Test gb x W1 y (blk_cell ((hb.block _ (blk_lt hbx)).trans hbx) 0)).mono fun e w' ⟨he, hb'⟩ => ⟨he, below_then hb hb.size hb'⟩) hC (by have := HN255.out; simp [castL]; omega)
          have hclo : ∀ W, Below w2.heap.size w2 W → Calls Tryd.prog 37 #[.slice E4 (edgesI EN).length c4, .int .u64 x] W fun e w' => e = .returned (.bool (closedB EN x)) ∧ Below W.heap.size W w' := fun W hb => petri_closed.calls E4 c4 (edgesI EN) x (closedB EN x) W (Kd.C_below HCE2.out hb) HL4.out (closed_eq HTE.out HEl2.out (by omega))
          have hmf : ∀ (fn : Fn) (first cap : Array Value) (w : World), (Instr.makeFunc fn first cap).run Tryd.prog w = .ok (.func fn first cap) w := fun _ _ _ _ => rfl
          have HCon := Lib.hid hcon
          have HClo := Lib.hid hclo
          have HSD := Lib.hid hsd
          have HX := Lib.hid hx256
          clear hcon hclo hsd hx256 hx hC7 hany
          generalize hlen7 : (castL fs).length = N7 at *
          have HL7 := Lib.hid hlen7
          clear hlen7
          have HFL := Lib.hid hfl
          have HXX := Lib.hid hlt
          cases hq : fs.any (fun f => decide (without f x = 0)) with
          | true =>
            rw [hq] at HCon
            have hnext : sipF EN fs ((allW n).drop (m + 1)) = sipW EN n := by
              have := HSD.out
              rwa [sipF, hq, Bool.true_or, if_pos rfl] at this
            have HNX := Lib.hid hnext
            clear hnext hq
            go_wp2_with (first
              | ((with_reducible refine gate_dst (N := 10) rfl ?_); refine box_event ?hg (N := 10) ?hd (cs := #[.int .u64 0]) (t := 52) ?hr ?_; (case hd => rfl); (case hg => rfl); (case hr => first | (go_simp; done) | (go_simp; rfl)); intro gb hg w8 hbox hb; have GM8 := Lib.hid (LM.out.boxed hg hbox hb x); have hcz0 : w8.cell? ⟨gb, 0, none⟩ = some (.int .u64 0) := (blk_cell hbox 0).trans rfl; have hfz0 := blk_frozen hbox 0; clear hb hbox hg)
              | (go_at_call 35; refine (HCon.out _ _ GM8.out.box (by have := (Kd.R_reads' GM8.out.found).2.2; rwa [HL7.out] at this)).mono ?_; rintro e w9 ⟨rfl, hb9⟩; have GM9 := Lib.hid (GM8.out.step hb9); have hx9 : w9.cell? ⟨gb, 0, none⟩ = some (.int .u64 x) := (blk_cell GM9.out.box 0).trans rfl; clear hb9))
            go_roundg (N - (m + 1))
            case measure => omega
            case rel => exact ⟨m + 1, fs, by omega, Nat.le_refl _, (by have h1 := HN255.out; have h2 := HXX.out; rw [w64 (show -9223372036854775808 ≤ (m : Int) + 1 by omega) (by omega)]; first | rfl | simp), by have := HFL.out; omega, F256.out, HNX.out, GM9.out.back⟩
          | false =>
            rw [hq] at HCon
            cases hq2 : closedB EN x with
            | false =>
              rw [hq2] at HClo
              have hnext : sipF EN fs ((allW n).drop (m + 1)) = sipW EN n := by
                have := HSD.out
                rwa [sipF, hq, hq2, Bool.false_or, Bool.not_false, if_pos rfl] at this
              have HNX := Lib.hid hnext
              clear hnext hq hq2
              go_wp2_with (first
                | ((with_reducible refine gate_dst (N := 10) rfl ?_); refine box_event ?hg (N := 10) ?hd (cs := #[.int .u64 0]) (t := 52) ?hr ?_; (case hd => rfl); (case hg => rfl); (case hr => first | (go_simp; done) | (go_simp; rfl)); intro gb hg w8 hbox hb; have GM8 := Lib.hid (LM.out.boxed hg hbox hb x); have hcz0 : w8.cell? ⟨gb, 0, none⟩ = some (.int .u64 0) := (blk_cell hbox 0).trans rfl; have hfz0 := blk_frozen hbox 0; clear hb hbox hg)
                | (go_at_call 35; refine (HCon.out _ _ GM8.out.box (by have := (Kd.R_reads' GM8.out.found).2.2; rwa [HL7.out] at this)).mono ?_; rintro e w9 ⟨rfl, hb9⟩; have GM9 := Lib.hid (GM8.out.step hb9); have hx9 : w9.cell? ⟨gb, 0, none⟩ = some (.int .u64 x) := (blk_cell GM9.out.box 0).trans rfl; clear hb9)
                | (go_at_call 37; refine (HClo.out _ GM9.out.below).mono ?_; rintro e w10 ⟨rfl, hb10⟩; have GM10 := Lib.hid (GM9.out.step hb10); clear hb10))
              go_roundg (N - (m + 1))
              case measure => omega
              case rel => exact ⟨m + 1, fs, by omega, Nat.le_refl _, (by have h1 := HN255.out; have h2 := HXX.out; rw [w64 (show -9223372036854775808 ≤ (m : Int) + 1 by omega) (by omega)]; first | rfl | simp), by have := HFL.out; omega, F256.out, HNX.out, GM10.out.back⟩
            | true =>
              rw [hq2] at HClo
              have hnext : sipF EN (fs ++ [x]) ((allW n).drop (m + 1)) = sipW EN n := by
                have := HSD.out
                rwa [sipF, hq, hq2, Bool.false_or, Bool.not_true, if_neg (by simp)] at this
              have HNX := Lib.hid hnext
              clear hnext hq hq2
              go_wp2_with (first
                | ((with_reducible refine gate_dst (N := 10) rfl ?_); refine box_event ?hg (N := 10) ?hd (cs := #[.int .u64 0]) (t := 52) ?hr ?_; (case hd => rfl); (case hg => rfl); (case hr => first | (go_simp; done) | (go_simp; rfl)); intro gb hg w8 hbox hb; have GM8 := Lib.hid (LM.out.boxed hg hbox hb x); have hcz0 : w8.cell? ⟨gb, 0, none⟩ = some (.int .u64 0) := (blk_cell hbox 0).trans rfl; have hfz0 := blk_frozen hbox 0; clear hb hbox hg)
                | (go_at_call 35; refine (HCon.out _ _ GM8.out.box (by have := (Kd.R_reads' GM8.out.found).2.2; rwa [HL7.out] at this)).mono ?_; rintro e w9 ⟨rfl, hb9⟩; have GM9 := Lib.hid (GM8.out.step hb9); have hx9 : w9.cell? ⟨gb, 0, none⟩ = some (.int .u64 x) := (blk_cell GM9.out.box 0).trans rfl; clear hb9)
                | (go_at_call 37; refine (HClo.out _ GM9.out.below).mono ?_; rintro e w10 ⟨rfl, hb10⟩; have GM10 := Lib.hid (GM9.out.step hb10); clear hb10))
              have GM11 := Lib.hid (GM10.out.step (below_drew (Below.refl _ _)))
              refine start_ (n := 11) (S := fun w' => w'.cell? ⟨gb, 0, none⟩ = some (.int .u64 x)) (ds := []) #[false, false, false, false, false, false, false, false, false, false, false] (by kernel_rfl) rfl rfl ((blk_cell GM11.out.box 0).trans rfl) (fun hHeld => ?_); refine with_tabW sip_tab16 sip_bits16 (fun HT_ HW_ => ?_)
              clear hx9 hcz0 hfz0 GM8 GM9 GM10
              generalize w10.drew = w11 at GM11 hHeld ⊢
              refine pu 0 44 11 1 rfl rfl HT_ ?_
              refine pu 4 48 11 17 rfl rfl HT_ ?_
              refine ta1 1 45 11 19 rfl rfl HT_ HW_ hHeld ?_
              refine ta1 5 49 11 51 rfl rfl HT_ HW_ hHeld ?_
              refine one_ (i := 2) (N := some 46) #[true, true, true, false, true, true, false, false, false, false, false] rfl rfl (one_of HT_.out (by kernel_rfl)) (by decide) (fun K hK => ?_)
              refine value_ (v := .slice (some ⟨w11.heap.size, 0, none⟩) 1 1) (w1 := w11.alloc (.cells #[.int .u64 x] 52)) (by rfl) rfl (by first | (go_simp; done) | (go_simp; rfl)) ?_
              refine hK.out _ _ ((blk_cell (GM11.out.step (below_alloc (Below.refl _ _) _)).box 0).trans rfl) (fun hHeld => ?_)
              clear hK K
              refine norm_ (a' := ?_) ?_ ?_
              rotate_left
              · show Act.put _ (some 46) _ = _
                simp only [Act.put, List.setIfInBounds_toArray, List.set_cons_zero, List.set_cons_succ, i64_w, i32_w]
                rfl
              refine one_ (i := 3) (N := some 47) #[true, true, true, true, true, true, false, false, false, false, false] rfl rfl (one_of HT_.out (by kernel_rfl)) (by decide) (fun K hK => ?_)
              refine Kd.R_append_step (Kd.int .u64) (w0 := w2) w2.heap.size (by rfl) (.tmp 44) (.tmp 46) 51 52 (.int .u64 0) 8 rfl Tryd.underlying51 sip_infoU rfl (by decide) (by omega) (.slice B7 N7 c7) (castL fs) (x : Int) [.int .u64 (x : Int)] (fun k => True ∧ k ≠ gb) (fun _ => False) rfl rfl rfl (fun _ hk => hk.elim) (fun k hk => ⟨trivial, by have := blk_lt GM11.out.box; omega⟩) GM11.out.found GM11.out.below GM11.out.below.size (by have := HL7.out; have := HFL.out; have := HN255.out; have := HXX.out; simp only [castL, List.length_map] at *; omega) ?_
              intro v47 w12 ho hb hg _
              have GM12 := Lib.hid (GM11.out.app1 ho hb hg)
              clear ho hb hg
              refine hK.out _ _ ((blk_cell GM12.out.box 0).trans rfl) (fun hHeld => ?_)
              clear hK K GM11
              refine norm_ (a' := ?_) ?_ ?_
              rotate_left
              · show Act.put _ (some 47) _ = _
                simp only [Act.put, List.setIfInBounds_toArray, List.set_cons_zero, List.set_cons_succ, i64_w, i32_w]
                rfl
              refine one_ (i := 6) (N := some 50) #[true, true, true, true, true, true, true, false, false, false, false] rfl rfl (one_of HT_.out (by kernel_rfl)) (by decide) (fun K hK => ?_)
              obtain ⟨KL, hKL⟩ := list_ev x (by have := HX.out; omega)
              refine goes_ Tryd.func34 (by kernel_rfl) rfl #[.int .u64 x] (by rfl) rfl rfl (by (try simp only [List.map_toArray, List.map_cons, List.map_nil]); first | done | rfl) ?_
              refine (petri_list.calls KL (x : Int) (listL x) w12 (HT2.out.below GM12.out.below) (hKL KL (Nat.le_refl _))).mono ?_
              rintro e w13 ⟨v50, rfl, hr50, hb50⟩
              refine ⟨_, rfl, ?_⟩
              have GM13 := Lib.hid (GM12.out.step hb50)
              have HV := Lib.hid (Kd.R_lower (Kd.R_mono (Kd.R_bound hr50) (fun k hk => hk.2.1)) GM12.out.below.size)
              have HO13 := Lib.hid (Kd.S_mono (Kd.S_below (Kd.S_bound GM12.out.out) hb50) (fun k hk => (⟨trivial, fun h => Nat.lt_irrefl _ (Nat.lt_of_lt_of_le hk.2.2.1 h)⟩ : True ∧ ¬ w12.heap.size ≤ k)))
              have HLT := Lib.hid (Kd.S_lt GM12.out.out)
              clear hr50 hb50 hKL
              refine hK.out _ _ ((blk_cell GM13.out.box 0).trans rfl) (fun hHeld => ?_)
              clear hK K GM12
              refine norm_ (a' := ?_) ?_ ?_
              rotate_left
              · show Act.put _ (some 50) _ = _
                simp only [Act.put, List.setIfInBounds_toArray, List.set_cons_zero, List.set_cons_succ, i64_w, i32_w]
                rfl
              refine one_ (i := 7) (N := some 51) #[true, true, true, true, true, true, true, true, false, false, false] rfl rfl (one_of HT_.out (by kernel_rfl)) (by decide) (fun K hK => ?_)
              refine value_ (v := .slice (some ⟨w13.heap.size, 0, none⟩) 1 1) (w1 := w13.alloc (.cells #[v50] 25)) (by rfl) rfl ?lit51 ?_
              case lit51 =>
                obtain ⟨A50, c50, rfl⟩ := Kd.R_slice HV.out
                first | (go_simp; done) | (go_simp; rfl)
              refine hK.out _ _ ((blk_cell (GM13.out.step (below_alloc (Below.refl _ _) _)).box 0).trans rfl) (fun hHeld => ?_)
              clear hK K
              refine norm_ (a' := ?_) ?_ ?_
              rotate_left
              · show Act.put _ (some 51) _ = _
                simp only [Act.put, List.setIfInBounds_toArray, List.set_cons_zero, List.set_cons_succ, i64_w, i32_w]
                rfl
              refine one_ (i := 8) (N := some 52) #[true, true, true, true, true, true, true, true, true, false, false] rfl rfl (one_of HT_.out (by kernel_rfl)) (by decide) (fun K hK => ?_)
              refine Kd.S_append_step (Kd.slice 3 (Kd.int .i64)) (w0 := w2) w2.heap.size (by rfl) (.tmp 48) (.tmp 51) 31 25 (.slice none 0 0) 24 rfl Tryd.underlying31 sip_infoL rfl (by decide) (by omega) u8 (fs.map listL) (listL x) [v50] (fun _ => True) (fun k => w12.heap.size ≤ k) rfl rfl ⟨v50, rfl, HV.out⟩ (fun k hk => ⟨trivial, fun h => Nat.lt_irrefl _ (Nat.lt_of_lt_of_le (HLT.out k h.symm) hk)⟩) (fun _ _ => trivial) HO13.out GM13.out.below GM13.out.below.size (by have := HFL.out; have := HN255.out; have := HXX.out; simp only [List.length_map] at *; omega) ?_
              intro v52 w14 ho hb hg _
              have GM14 := Lib.hid (GM13.out.app2 ho hb hg)
              clear ho hb hg
              refine hK.out _ _ ((blk_cell GM14.out.box 0).trans rfl) (fun hHeld => ?_)
              clear hK K GM13
              refine norm_ (a' := ?_) ?_ ?_
              rotate_left
              · show Act.put _ (some 52) _ = _
                simp only [Act.put, List.setIfInBounds_toArray, List.set_cons_zero, List.set_cons_succ, i64_w, i32_w]
                rfl
              refine pu 9 7 11 1023 rfl rfl HT_ ?_
              refine pu 10 8 11 2047 rfl rfl HT_ ?_
              refine done_ (done_of HT_.out (by kernel_rfl)) ?_
              go_wp2
              go_roundg (N - (m + 1))
              case measure => omega
              case rel =>
                refine ⟨m + 1, fs ++ [x], by omega, Nat.le_refl _, (by have h1 := HN255.out; have h2 := HXX.out; rw [w64 (show -9223372036854775808 ≤ (m : Int) + 1 by omega) (by omega)]; first | rfl | simp), (by have := HFL.out; simp; omega), (show Aside _ from fun f hf => ?_), HNX.out, ?_⟩
                · rcases List.mem_append.1 hf with hf | hf
                  · exact F256.out f hf
                  · rw [List.mem_singleton.1 hf]; exact HX.out
                · have hb := GM14.out.back
                  have e1 : castL fs ++ [(x : Int)] = castL (fs ++ [x]) := by simp [castL]
                  have e2 : fs.map listL ++ [listL x] = (fs ++ [x]).map listL := by simp
                  rw [e1, e2] at hb
                  exact hb
        · have hltz : ¬ (m : Int) < (N : Int) := by omega
          go_wp2
          go_ret2
          have hd : (allW n).drop m = [] := List.drop_eq_nil_of_le (by rw [HNL.out]; omega)
          have hs := SIP.out
          rw [hd, sipF] at hs
          refine ⟨_, rfl, ?_, below_then HB02.out HB02.out.size LM.out.below⟩
          rw [← hs]
          exact Kd.S_lower LM.out.out HB02.out.size
end Go.Proofs.YthpclmkcljmoeaaDoor.P
