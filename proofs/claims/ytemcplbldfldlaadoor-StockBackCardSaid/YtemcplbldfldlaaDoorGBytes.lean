/- stock.Bytes: a stock, encoded. -/
import Derived.Test.YtemcplbldfldlaaDoorGInt
import Derived.Test.YtemcplbldfldlaaDoorPx0
namespace Go.Proofs.YtemcplbldfldlaaDoor.P
open Go.RowKit Go.Proofs.YtemcplbldfldlaaDoorW.PrintWords Go.Proofs.YtemcplbldfldlaaDoorW.PrintLast Go.Proofs.YtemcplbldfldlaaDoorW.PrintMore
set_option linter.unusedVariables false
set_option linter.unusedSimpArgs false
def kindB (k : S36) : List UInt8 := textB k.f0.data.toList ++ intB k.f1
def lotB (x : S38) : List UInt8 := intB x.f0 ++ intB x.f1 ++ intB (if x.f2 = true then 1 else 0)
def boxB (x : S40) : List UInt8 := intB x.f0 ++ intB x.f1 ++ intB x.f2
def kindB_ok (k : S36) : Bool := decide (k.f0.size ≤ 1000) && inR k.f1
def lotB_ok (x : S38) : Bool := inR x.f0 && inR x.f1
def boxB_ok (x : S40) : Bool := inR x.f0 && (inR x.f1 && inR x.f2)
theorem kindB_parts (k : S36) (h : kindB_ok k = true) : k.f0.size ≤ 1000 ∧ inR k.f1 = true := by simpa [kindB_ok] using h
theorem lotB_parts (x : S38) (h : lotB_ok x = true) : inR x.f0 = true ∧ inR x.f1 = true := by simpa [lotB_ok] using h
theorem boxB_parts (x : S40) (h : boxB_ok x = true) : inR x.f0 = true ∧ inR x.f1 = true ∧ inR x.f2 = true := by simpa [boxB_ok] using h
theorem kindB_len (k : S36) (h : kindB_ok k = true) : (kindB k).length ≤ 1043 := by
  have h := kindB_parts k h
  have h1 := textB_len k.f0.data.toList (by rw [list_size]; exact h.1)
  have h2 := intB_len k.f1 h.2
  simp only [kindB, List.length_append]; omega
theorem lotB_len (x : S38) (h : lotB_ok x = true) : (lotB x).length ≤ 63 := by
  have h := lotB_parts x h
  have h0 := intB_len x.f0 h.1
  have h1 := intB_len x.f1 h.2
  have h2 := intB_len (if x.f2 = true then 1 else 0) (by split <;> decide)
  simp only [lotB, List.length_append]; omega
theorem boxB_len (x : S40) (h : boxB_ok x = true) : (boxB x).length ≤ 63 := by
  have h := boxB_parts x h
  have h0 := intB_len x.f0 h.1
  have h1 := intB_len x.f1 h.2.1
  have h2 := intB_len x.f2 h.2.2
  simp only [boxB, List.length_append]; omega
theorem flat_le {α : Type} (f : α → List UInt8) (c : Nat) : ∀ (l : List α), (∀ x ∈ l, (f x).length ≤ c) → (l.flatMap f).length ≤ l.length * c
  | [], _ => by simp
  | x :: l, h => by
    have h1 := h x (by simp)
    have h2 := flat_le f c l (fun y hy => h y (by simp [hy]))
    rw [List.flatMap_cons, List.length_append, List.length_cons, Nat.succ_mul]
    omega
theorem len_take {α : Type} (P : List UInt8) (l : List α) (f : α → List UInt8) (kk c : Nat) {B : Nat} (hP : P.length + l.length * c ≤ B) (h : ∀ x ∈ l, (f x).length ≤ c) : (P ++ (l.take kk).flatMap f).length ≤ B := by
  have h1 := flat_le f c (l.take kk) (fun x hx => h x (List.mem_of_mem_take hx))
  have h2 : (l.take kk).length * c ≤ l.length * c := Nat.mul_le_mul_right _ (by rw [List.length_take]; omega)
  rw [List.length_append]; omega
/-- A stock's bytes. -/
def stockB (l0 : List S36) (l1 : List S38) (l2 : List S40) : List UInt8 := intB (l0.length : Int) ++ l0.flatMap kindB ++ intB (l1.length : Int) ++ l1.flatMap lotB ++ intB (l2.length : Int) ++ l2.flatMap boxB
def stock_Bytes.f (l0 : List S36) (l1 : List S38) (l2 : List S40) : Option (ByteArray) :=
  if (l0.length ≤ 1000 ∧ l1.length ≤ 1000 ∧ l2.length ≤ 1000) ∧ l0.all kindB_ok = true ∧ l1.all lotB_ok = true ∧ l2.all boxB_ok = true then some (bs (stockB l0 l1 l2)) else none
set_option maxHeartbeats 8000000 in
set_option maxRecDepth 100000 in
theorem bytes_calls (A0 : Option Addr) (c0 : Nat) (l0 : List S36) (A1 : Option Addr) (c1 : Nat) (l1 : List S38) (A2 : Option Addr) (c2 : Nat) (l2 : List S40) (w : World) (htab : Tab w) (hr0 : Kd.C k36 w A0 l0.length l0) (hr1 : Kd.C k38 w A1 l1.length l1) (hr2 : Kd.C k40 w A2 l2.length l2)
    (hl0 : l0.length ≤ 1000) (hl1 : l1.length ≤ 1000) (hl2 : l2.length ≤ 1000) (ha0 : ∀ x ∈ l0, kindB_ok x = true) (ha1 : ∀ x ∈ l1, lotB_ok x = true) (ha2 : ∀ x ∈ l2, boxB_ok x = true) :
    Calls Tryd.prog 7 #[.slice A0 l0.length c0, .slice A1 l1.length c1, .slice A2 l2.length c2] w fun e w' => e = .returned (.string (bs (stockB l0 l1 l2))) ∧ Below w.heap.size w w' := by
  have hk0 := intB_len (l0.length : Int) (decide_eq_true (by omega))
  have hk1 := intB_len (l1.length : Int) (decide_eq_true (by omega))
  have hk2 := intB_len (l2.length : Int) (decide_eq_true (by omega))
  have hf0 := flat_le kindB 1043 l0 (fun x hx => kindB_len x (ha0 x hx))
  have hf1 := flat_le lotB 63 l1 (fun x hx => lotB_len x (ha1 x hx))
  have hP0 : (intB (l0.length : Int)).length + l0.length * 1043 ≤ 2000000 := by omega
  have hP1 : (intB (l0.length : Int) ++ l0.flatMap kindB ++ intB (l1.length : Int)).length + l1.length * 63 ≤ 2000000 := by simp only [List.length_append]; omega
  have hP2 : (intB (l0.length : Int) ++ l0.flatMap kindB ++ intB (l1.length : Int) ++ l1.flatMap lotB ++ intB (l2.length : Int)).length + l2.length * 63 ≤ 2000000 := by simp only [List.length_append]; omega
  clear hf0 hf1
  have HR0 := Lib.hid hr0
  have HR1 := Lib.hid hr1
  have HR2 := Lib.hid hr2
  have HA0 := Lib.hid ha0
  have HA1 := Lib.hid ha1
  have HA2 := Lib.hid ha2
  have HT := Lib.hid htab
  have hfr : IsB w.heap.size w.heap.size [] (w.alloc (.cells #[.pointer none, .slice none 0 0] 65)) := Lib.fresh_isBuilder 65 5 w
  have HF := Lib.hid hfr
  clear hr0 hr1 hr2 ha0 ha1 ha2 htab hfr
  unfold stockB
  go_enter Tryd.func7, Tryd.ntmps7
  have hn := num_eq l0.length (by omega)
  have hnz : (bs (intB (l0.length : Int))).size ≤ 21 := by rw [bs_size]; exact intB_len _ (decide_eq_true (by omega))
  generalize hnb : bs (intB (l0.length : Int)) = tn at hn hnz
  have HNB := Lib.hid hnb
  have HNN := Lib.hid hn
  clear hn hnb
  have hlb : (([] : List UInt8)).length + tn.size ≤ 140737488355328 := by rw [List.length_nil]; omega
  go_wp2_with (first | (go_at_call 25; refine (wire_Num.calls (l0.length : Int) tn _ (HT.out.below (below_alloc (Below.refl w.heap.size w) _)) HNN.out).mono ?_; rintro e wn ⟨rfl, hbn⟩; have BN := Lib.hid (below_step (below_alloc (Below.refl w.heap.size w) _) hbn); have SN := Lib.hid (IsB.below (HF.out) hbn); clear hbn) | (go_at_call 24; refine (build_write w.heap.size w.heap.size _ tn _ SN.out hlb BN.out.size).mono ?_; rintro e wm ⟨rfl, hsm, hbm⟩; have BM := Lib.hid (BN.out.trans hbm); have SM := Lib.hid hsm; clear hsm hbm BN SN))
  clear hlb
  go_loopg [21] l0.length (fun gg s_ wr => ∃ kk : Nat, kk ≤ l0.length ∧ l0.length - kk ≤ gg ∧ s_ = .int .i64 kk ∧ Aside (Below w.heap.size w wr) ∧ Aside (IsB w.heap.size w.heap.size (intB (l0.length : Int) ++ (l0.take kk).flatMap kindB) wr))
  case atStart =>
    refine ⟨0, Nat.zero_le _, by omega, rfl, BM.out, (show IsB _ _ _ _ from ?_)⟩
    have := SM.out
    rw [← HNB.out] at this
    simpa [List.append_assoc] using this
  case round =>
    clear BM SM HNB HNN hnz
    obtain ⟨kk, hkk, hg, rfl, BW, SW⟩ := hrel
    have hpl := len_take (intB (l0.length : Int)) l0 kindB kk 1043 hP0 (fun x hx => kindB_len x (HA0.out x hx))
    by_cases hlt : kk < l0.length
    · have hltz : (kk : Int) < (l0.length : Int) := by omega
      obtain ⟨ad, e1, la0, la1⟩ := at_T36 (Kd.C_below HR0.out BW.out) (kk : Int) (by omega) hltz
      subst e1
      have hsn := flat_snoc l0 kindB kk z36 hlt
      have hok := HA0.out (l0.getD kk z36) (getD_mem l0 kk z36 hlt)
      simp only [rd_T36, Int.toNat_natCast] at la0 la1
      generalize l0.getD kk z36 = y at la0 la1 hsn hok
      have hzz := kindB_parts y hok
      have hi0 := text_eq y.f0 hzz.1
      have hz0 : (bs (textB y.f0.data.toList)).size ≤ 1022 := by rw [bs_size]; exact textB_len _ (by rw [list_size]; exact hzz.1)
      generalize hb0 : bs (textB y.f0.data.toList) = t0 at hi0 hz0
      have hi1 : wire_Int.f y.f1 = some (bs (intB y.f1)) := int_eq y.f1 (hzz.2)
      have hz1 : (bs (intB y.f1)).size ≤ 21 := by rw [bs_size]; exact intB_len _ (hzz.2)
      generalize hb1 : bs (intB y.f1) = t1 at hi1 hz1
      generalize hq : intB (l0.length : Int) ++ (l0.take kk).flatMap kindB = pre at SW hpl
      have HN := Lib.hid hsn
      have HQ := Lib.hid hq
      have HI0 := Lib.hid hi0
      have HY0 := Lib.hid hb0
      have HI1 := Lib.hid hi1
      have HY1 := Lib.hid hb1
      have hc1 : t0.size + t1.size ≤ 9223372036854775807 := by omega
      have hd1 := eq_true hc1
      have he1 : decide (t0.size + t1.size ≤ 9223372036854775807) = true := decide_eq_true hc1
      have hf1 : (9223372036854775807 < t0.size + t1.size) = False := eq_false (Nat.not_lt.2 hc1)
      clear hc1
      have hws : pre.length + (t0 ++ t1).size ≤ 140737488355328 := by simp only [ByteArray.size_append]; omega
      clear hsn hq hok hzz hi0 hb0 hz0 hi1 hb1 hz1
      go_wp2_with ((with_reducible refine gate_dst (N := 9) rfl ?_); refine box_event ?hg (N := 9) ?hd (cs := #[.string ⟨#[]⟩, .int .i64 0]) (t := 36) ?hr ?_; (case hd => rfl); (case hg => rfl); (case hr => first | (go_simp; done) | (go_simp; rfl)); intro gb hgb w8 hbox hb; have HB8 := Lib.hid hb; have BK := Lib.hid hbox; have GE := Lib.hid (show wr.heap.size ≤ gb by omega); have hcz0 : w8.cell? ⟨gb, 0, none⟩ = some (.string ⟨#[]⟩) := (blk_cell hbox 0).trans rfl; have hfz0 := blk_frozen hbox 0; have hcz1 : w8.cell? ⟨gb, 1, none⟩ = some (.int .i64 0) := (blk_cell hbox 1).trans rfl; have hfz1 := blk_frozen hbox 1; clear hb hbox hgb)
      have hbw := ((HB8.out.setCell (p := ⟨gb, 0, none⟩) GE.out (.string y.f0)).setCell (p := ⟨gb, 1, none⟩) GE.out (.int .i64 y.f1))
      have q0 : ((w8.setCell ⟨gb, 0, none⟩ (.string y.f0)).setCell ⟨gb, 1, none⟩ (.int .i64 y.f1)).cell? ⟨gb, 0, none⟩ = some (.string y.f0) := by simp [World.cell?, World.setCell, Array.getElem?_modify, BK.out]
      have q1 : ((w8.setCell ⟨gb, 0, none⟩ (.string y.f0)).setCell ⟨gb, 1, none⟩ (.int .i64 y.f1)).cell? ⟨gb, 1, none⟩ = some (.int .i64 y.f1) := by simp [World.cell?, World.setCell, Array.getElem?_modify, BK.out]
      have hS6 : IsB w.heap.size w.heap.size pre ((w8.setCell ⟨gb, 0, none⟩ (.string y.f0)).setCell ⟨gb, 1, none⟩ (.int .i64 y.f1)) := IsB.below SW.out hbw
      have hB6 := below_step BW.out hbw
      refine start_ (n := 8) (S := fun w' => w'.cell? ⟨gb, 0, none⟩ = some (.string y.f0) ∧ w'.cell? ⟨gb, 1, none⟩ = some (.int .i64 y.f1) ∧ IsB w.heap.size w.heap.size pre w' ∧ Below w.heap.size w w') (ds := [7]) #[false, false, false, false, false, false, false, false] (by kernel_rfl) rfl rfl ⟨q0, q1, hS6, below_drew1 hB6⟩ (fun hHeld => ?_)
      refine pure_ (i := 0) (N := some 25) (v := ?_) (a' := ?_) #[true, false, false, false, false, false, false, false] rfl rfl (by kernel_rfl) (fun _ _ _ h => h) (Or.inl ⟨by rfl, ?_⟩) ?_ ?_
      rotate_left
      · intro w'
        go_simp
        with_reducible rfl
      rotate_left
      · simp only [Act.put, List.setIfInBounds_toArray, List.set_cons_zero, List.set_cons_succ, i64_w, i32_w]
        rfl
      refine pure_ (i := 3) (N := some 28) (v := ?_) (a' := ?_) #[true, false, false, true, false, false, false, false] rfl rfl (by kernel_rfl) (fun _ _ _ h => h) (Or.inl ⟨by rfl, ?_⟩) ?_ ?_
      rotate_left
      · intro w'
        go_simp
        with_reducible rfl
      rotate_left
      · simp only [Act.put, List.setIfInBounds_toArray, List.set_cons_zero, List.set_cons_succ, i64_w, i32_w]
        rfl
      refine take_ (i := 1) (N := some 26) (v := ?_) (a' := ?_) #[true, true, false, true, false, false, false, false] rfl rfl (by kernel_rfl) (fun _ _ _ h => h) (Or.inl ⟨by rfl, ?_⟩) hHeld ?_ ?_
      rotate_left
      · rintro w' ⟨s0, s1, s2, s3⟩
        go_simp
        with_reducible rfl
      rotate_left
      · simp only [Act.put, List.setIfInBounds_toArray, List.set_cons_zero, List.set_cons_succ, i64_w, i32_w]
        rfl
      refine take_ (i := 4) (N := some 29) (v := ?_) (a' := ?_) #[true, true, false, true, true, false, false, false] rfl rfl (by kernel_rfl) (fun _ _ _ h => h) (Or.inl ⟨by rfl, ?_⟩) hHeld ?_ ?_
      rotate_left
      · rintro w' ⟨s0, s1, s2, s3⟩
        go_simp
        with_reducible rfl
      rotate_left
      · simp only [Act.put, List.setIfInBounds_toArray, List.set_cons_zero, List.set_cons_succ, i64_w, i32_w]
        rfl
      refine one_ (i := 2) (N := some 27) #[true, true, true, true, true, false, false, false] rfl rfl (by kernel_rfl) (by decide) (fun K hK => ?_)
      refine goes_ Tryd.func26 (by kernel_rfl) rfl #[.string y.f0] (by rfl) rfl rfl (by simp only [List.map_toArray, List.map_cons, List.map_nil]; rfl) ?_
      with_reducible refine (wire_Text.calls y.f0 t0 _ (HT.out.below hHeld.2.2.2) HI0.out).mono ?_
      rintro e wa0 ⟨rfl, hba0⟩
      refine ⟨_, rfl, ?_⟩
      refine hK.out _ _ ⟨pw_cell_below hba0 hHeld.1, pw_cell_below hba0 hHeld.2.1, IsB.below hHeld.2.2.1 hba0, below_step hHeld.2.2.2 hba0⟩ (fun hHeld => ?_)
      clear hK K
      refine norm_ (a' := ?_) ?_ ?_
      rotate_left
      · show Act.put _ (some 27) _ = _
        simp only [Act.put, List.setIfInBounds_toArray, List.set_cons_zero, List.set_cons_succ, i64_w, i32_w]
        rfl
      refine one_ (i := 5) (N := some 30) #[true, true, true, true, true, true, false, false] rfl rfl (by kernel_rfl) (by decide) (fun K hK => ?_)
      refine goes_ Tryd.func27 (by kernel_rfl) rfl #[.int .i64 y.f1] (by rfl) rfl rfl (by simp only [List.map_toArray, List.map_cons, List.map_nil]; rfl) ?_
      with_reducible refine (wire_Int.calls y.f1 t1 _ (HT.out.below hHeld.2.2.2) HI1.out).mono ?_
      rintro e wa1 ⟨rfl, hba1⟩
      refine ⟨_, rfl, ?_⟩
      refine hK.out _ _ ⟨pw_cell_below hba1 hHeld.1, pw_cell_below hba1 hHeld.2.1, IsB.below hHeld.2.2.1 hba1, below_step hHeld.2.2.2 hba1⟩ (fun hHeld => ?_)
      clear hK K
      refine norm_ (a' := ?_) ?_ ?_
      rotate_left
      · show Act.put _ (some 30) _ = _
        simp only [Act.put, List.setIfInBounds_toArray, List.set_cons_zero, List.set_cons_succ, i64_w, i32_w]
        rfl
      refine pure_ (i := 6) (N := some 31) (v := ?_) (a' := ?_) #[true, true, true, true, true, true, true, false] rfl rfl (by kernel_rfl) (fun _ _ _ h => h) (Or.inl ⟨by rfl, ?_⟩) ?_ ?_
      rotate_left
      · intro w'
        go_simp
        with_reducible rfl
      rotate_left
      · simp only [Act.put, List.setIfInBounds_toArray, List.set_cons_zero, List.set_cons_succ, i64_w, i32_w]
        rfl
      refine last_ (i := 7) (N := some 32) #[true, true, true, true, true, true, true, true] rfl rfl (by kernel_rfl) (by decide) (fun K hK => ?_)
      refine goes_ Tryd.func24 (by kernel_rfl) rfl #[.pointer (some ⟨w.heap.size, 0, none⟩), .string (t0 ++ t1)] (by rfl) rfl rfl (by simp only [List.map_toArray, List.map_cons, List.map_nil]; rfl) ?_
      with_reducible refine (build_write w.heap.size w.heap.size pre (t0 ++ t1) _ hHeld.2.2.1 hws hHeld.2.2.2.size).mono ?_
      rintro e w6 ⟨rfl, hs6, hb6⟩
      have hBX := Lib.hid (hHeld.2.2.2.trans hb6)
      refine ⟨_, rfl, ?_⟩
      refine hK.out _ _ ?_
      clear hK K
      refine norm_ (a' := ?_) ?_ ?_
      rotate_left
      · show Act.put _ (some 32) _ = _
        simp only [Act.put, List.setIfInBounds_toArray, List.set_cons_zero, List.set_cons_succ, i64_w, i32_w]
        rfl
      refine done_ (by kernel_rfl) ?_
      have HS6 := Lib.hid hs6
      clear hs6 hb6 hbw hS6 hB6 q0 q1
      go_wp2
      go_roundg (l0.length - (kk + 1))
      case measure => omega
      case rel =>
        refine ⟨kk + 1, by omega, by omega, by go_num, hBX.out, (show IsB _ _ _ _ from ?_)⟩
        have := HS6.out
        rw [← HQ.out, ← HY0.out, ← HY1.out] at this
        rw [HN.out]
        simpa [kindB, ByteArray.data_append, List.append_assoc] using this
    · have hltz : ¬ (kk : Int) < (l0.length : Int) := by omega
      have hkk' : kk = l0.length := by omega
      have SW2 := SW.out
      rw [hkk', List.take_of_length_le (Nat.le_refl _)] at SW2 hpl
      have SX := Lib.hid SW2
      clear SW2 hkk' SW
      have hn := num_eq l1.length (by omega)
      have hnz : (bs (intB (l1.length : Int))).size ≤ 21 := by rw [bs_size]; exact intB_len _ (decide_eq_true (by omega))
      generalize hnb : bs (intB (l1.length : Int)) = tn at hn hnz
      have HNB := Lib.hid hnb
      have HNN := Lib.hid hn
      clear hn hnb
      have hlb : (intB (l0.length : Int) ++ l0.flatMap kindB).length + tn.size ≤ 140737488355328 := by have := hP1; simp only [List.length_append] at this ⊢; omega
      go_wp2_with (first | (go_at_call 25; refine (wire_Num.calls (l1.length : Int) tn _ (HT.out.below (BW.out)) HNN.out).mono ?_; rintro e wn ⟨rfl, hbn⟩; have BN := Lib.hid (below_step (BW.out) hbn); have SN := Lib.hid (IsB.below (SX.out) hbn); clear hbn) | (go_at_call 24; refine (build_write w.heap.size w.heap.size _ tn _ SN.out hlb BN.out.size).mono ?_; rintro e wm ⟨rfl, hsm, hbm⟩; have BM := Lib.hid (BN.out.trans hbm); have SM := Lib.hid hsm; clear hsm hbm BN SN))
      clear hlb
      go_loopg [40] l1.length (fun gg s_ wr => ∃ kk : Nat, kk ≤ l1.length ∧ l1.length - kk ≤ gg ∧ s_ = .int .i64 kk ∧ Aside (Below w.heap.size w wr) ∧ Aside (IsB w.heap.size w.heap.size (intB (l0.length : Int) ++ l0.flatMap kindB ++ intB (l1.length : Int) ++ (l1.take kk).flatMap lotB) wr))
      case atStart =>
        refine ⟨0, Nat.zero_le _, by omega, rfl, BM.out, (show IsB _ _ _ _ from ?_)⟩
        have := SM.out
        rw [← HNB.out] at this
        simpa [List.append_assoc] using this
      case round =>
        clear BM SM HNB HNN hnz
        obtain ⟨kk, hkk, hg, rfl, BW, SW⟩ := hrel
        have hpl := len_take (intB (l0.length : Int) ++ l0.flatMap kindB ++ intB (l1.length : Int)) l1 lotB kk 63 hP1 (fun x hx => lotB_len x (HA1.out x hx))
        by_cases hlt : kk < l1.length
        · have hltz : (kk : Int) < (l1.length : Int) := by omega
          obtain ⟨ad, e1, la0, la1, la2⟩ := at_T38 (Kd.C_below HR1.out BW.out) (kk : Int) (by omega) hltz
          subst e1
          have hsn := flat_snoc l1 lotB kk z38 hlt
          have hok := HA1.out (l1.getD kk z38) (getD_mem l1 kk z38 hlt)
          simp only [rd_T38, Int.toNat_natCast] at la0 la1 la2
          generalize l1.getD kk z38 = y at la0 la1 la2 hsn hok
          obtain ⟨y0, y1, y2⟩ := y
          cases y2 with
          | true =>
            have hzz := lotB_parts _ hok
            have hi0 : wire_Int.f y0 = some (bs (intB y0)) := int_eq y0 (hzz.1)
            have hz0 : (bs (intB y0)).size ≤ 21 := by rw [bs_size]; exact intB_len _ (hzz.1)
            generalize hb0 : bs (intB y0) = t0 at hi0 hz0
            have hi1 : wire_Int.f y1 = some (bs (intB y1)) := int_eq y1 (hzz.2)
            have hz1 : (bs (intB y1)).size ≤ 21 := by rw [bs_size]; exact intB_len _ (hzz.2)
            generalize hb1 : bs (intB y1) = t1 at hi1 hz1
            have hi2 : wire_Int.f 1 = some (bs (intB 1)) := int_eq 1 (by decide)
            have hz2 : (bs (intB 1)).size ≤ 21 := by rw [bs_size]; exact intB_len _ (by decide)
            generalize hb2 : bs (intB 1) = t2 at hi2 hz2
            generalize hq : intB (l0.length : Int) ++ l0.flatMap kindB ++ intB (l1.length : Int) ++ (l1.take kk).flatMap lotB = pre at SW hpl
            have HN := Lib.hid hsn
            have HQ := Lib.hid hq
            have HI0 := Lib.hid hi0
            have HY0 := Lib.hid hb0
            have HI1 := Lib.hid hi1
            have HY1 := Lib.hid hb1
            have HI2 := Lib.hid hi2
            have HY2 := Lib.hid hb2
            have hc1 : t0.size + t1.size ≤ 9223372036854775807 := by omega
            have hd1 := eq_true hc1
            have he1 : decide (t0.size + t1.size ≤ 9223372036854775807) = true := decide_eq_true hc1
            have hf1 : (9223372036854775807 < t0.size + t1.size) = False := eq_false (Nat.not_lt.2 hc1)
            clear hc1
            have hc2 : (t0 ++ t1).size + t2.size ≤ 9223372036854775807 := by simp only [ByteArray.size_append]; omega
            have hd2 := eq_true hc2
            have he2 : decide ((t0 ++ t1).size + t2.size ≤ 9223372036854775807) = true := decide_eq_true hc2
            have hf2 : (9223372036854775807 < (t0 ++ t1).size + t2.size) = False := eq_false (Nat.not_lt.2 hc2)
            have hh2 : (9223372036854775807 < t0.size + t1.size + t2.size) = False := eq_false (by omega)
            clear hc2
            have hws : pre.length + ((t0 ++ t1) ++ t2).size ≤ 140737488355328 := by simp only [ByteArray.size_append]; omega
            clear hsn hq hok hzz hi0 hb0 hz0 hi1 hb1 hz1 hi2 hb2 hz2
            go_wp2_with ((with_reducible refine gate_dst (N := 11) rfl ?_); refine box_event ?hg (N := 11) ?hd (cs := #[.int .i64 0, .int .i64 0, .bool false]) (t := 38) ?hr ?_; (case hd => rfl); (case hg => rfl); (case hr => first | (go_simp; done) | (go_simp; rfl)); intro gb hgb w8 hbox hb; have HB8 := Lib.hid hb; have BK := Lib.hid hbox; have GE := Lib.hid (show wr.heap.size ≤ gb by omega); have hcz0 : w8.cell? ⟨gb, 0, none⟩ = some (.int .i64 0) := (blk_cell hbox 0).trans rfl; have hfz0 := blk_frozen hbox 0; have hcz1 : w8.cell? ⟨gb, 1, none⟩ = some (.int .i64 0) := (blk_cell hbox 1).trans rfl; have hfz1 := blk_frozen hbox 1; have hcz2 : w8.cell? ⟨gb, 2, none⟩ = some (.bool false) := (blk_cell hbox 2).trans rfl; have hfz2 := blk_frozen hbox 2; clear hb hbox hgb)
            have hbw := (((HB8.out.setCell (p := ⟨gb, 0, none⟩) GE.out (.int .i64 y0)).setCell (p := ⟨gb, 1, none⟩) GE.out (.int .i64 y1)).setCell (p := ⟨gb, 2, none⟩) GE.out (.bool true))
            have q0 : (((w8.setCell ⟨gb, 0, none⟩ (.int .i64 y0)).setCell ⟨gb, 1, none⟩ (.int .i64 y1)).setCell ⟨gb, 2, none⟩ (.bool true)).cell? ⟨gb, 0, none⟩ = some (.int .i64 y0) := by simp [World.cell?, World.setCell, Array.getElem?_modify, BK.out]
            have q1 : (((w8.setCell ⟨gb, 0, none⟩ (.int .i64 y0)).setCell ⟨gb, 1, none⟩ (.int .i64 y1)).setCell ⟨gb, 2, none⟩ (.bool true)).cell? ⟨gb, 1, none⟩ = some (.int .i64 y1) := by simp [World.cell?, World.setCell, Array.getElem?_modify, BK.out]
            have hS6 : IsB w.heap.size w.heap.size pre (((w8.setCell ⟨gb, 0, none⟩ (.int .i64 y0)).setCell ⟨gb, 1, none⟩ (.int .i64 y1)).setCell ⟨gb, 2, none⟩ (.bool true)) := IsB.below SW.out hbw
            have hB6 := below_step BW.out hbw
            refine start_ (n := 11) (S := fun w' => w'.cell? ⟨gb, 0, none⟩ = some (.int .i64 y0) ∧ w'.cell? ⟨gb, 1, none⟩ = some (.int .i64 y1) ∧ IsB w.heap.size w.heap.size pre w' ∧ Below w.heap.size w w') (ds := [10]) #[false, false, false, false, false, false, false, false, false, false, false] (by kernel_rfl) rfl rfl ⟨q0, q1, hS6, below_drew1 hB6⟩ (fun hHeld => ?_)
            refine pure_ (i := 0) (N := some 46) (v := ?_) (a' := ?_) #[true, false, false, false, false, false, false, false, false, false, false] rfl rfl (by kernel_rfl) (fun _ _ _ h => h) (Or.inl ⟨by rfl, ?_⟩) ?_ ?_
            rotate_left
            · intro w'
              go_simp
              with_reducible rfl
            rotate_left
            · simp only [Act.put, List.setIfInBounds_toArray, List.set_cons_zero, List.set_cons_succ, i64_w, i32_w]
              rfl
            refine pure_ (i := 3) (N := some 49) (v := ?_) (a' := ?_) #[true, false, false, true, false, false, false, false, false, false, false] rfl rfl (by kernel_rfl) (fun _ _ _ h => h) (Or.inl ⟨by rfl, ?_⟩) ?_ ?_
            rotate_left
            · intro w'
              go_simp
              with_reducible rfl
            rotate_left
            · simp only [Act.put, List.setIfInBounds_toArray, List.set_cons_zero, List.set_cons_succ, i64_w, i32_w]
              rfl
            refine pure_ (i := 7) (N := some 53) (v := ?_) (a' := ?_) #[true, false, false, true, false, false, false, true, false, false, false] rfl rfl (by kernel_rfl) (fun _ _ _ h => h) (Or.inl ⟨by rfl, ?_⟩) ?_ ?_
            rotate_left
            · intro w'
              go_simp
              with_reducible rfl
            rotate_left
            · simp only [Act.put, List.setIfInBounds_toArray, List.set_cons_zero, List.set_cons_succ, i64_w, i32_w]
              rfl
            refine take_ (i := 1) (N := some 47) (v := ?_) (a' := ?_) #[true, true, false, true, false, false, false, true, false, false, false] rfl rfl (by kernel_rfl) (fun _ _ _ h => h) (Or.inl ⟨by rfl, ?_⟩) hHeld ?_ ?_
            rotate_left
            · rintro w' ⟨s0, s1, s2, s3⟩
              go_simp
              with_reducible rfl
            rotate_left
            · simp only [Act.put, List.setIfInBounds_toArray, List.set_cons_zero, List.set_cons_succ, i64_w, i32_w]
              rfl
            refine take_ (i := 4) (N := some 50) (v := ?_) (a' := ?_) #[true, true, false, true, true, false, false, true, false, false, false] rfl rfl (by kernel_rfl) (fun _ _ _ h => h) (Or.inl ⟨by rfl, ?_⟩) hHeld ?_ ?_
            rotate_left
            · rintro w' ⟨s0, s1, s2, s3⟩
              go_simp
              with_reducible rfl
            rotate_left
            · simp only [Act.put, List.setIfInBounds_toArray, List.set_cons_zero, List.set_cons_succ, i64_w, i32_w]
              rfl
            refine one_ (i := 2) (N := some 48) #[true, true, true, true, true, false, false, true, false, false, false] rfl rfl (by kernel_rfl) (by decide) (fun K hK => ?_)
            refine goes_ Tryd.func27 (by kernel_rfl) rfl #[.int .i64 y0] (by rfl) rfl rfl (by simp only [List.map_toArray, List.map_cons, List.map_nil]; rfl) ?_
            with_reducible refine (wire_Int.calls y0 t0 _ (HT.out.below hHeld.2.2.2) HI0.out).mono ?_
            rintro e wa0 ⟨rfl, hba0⟩
            refine ⟨_, rfl, ?_⟩
            refine hK.out _ _ ⟨pw_cell_below hba0 hHeld.1, pw_cell_below hba0 hHeld.2.1, IsB.below hHeld.2.2.1 hba0, below_step hHeld.2.2.2 hba0⟩ (fun hHeld => ?_)
            clear hK K
            refine norm_ (a' := ?_) ?_ ?_
            rotate_left
            · show Act.put _ (some 48) _ = _
              simp only [Act.put, List.setIfInBounds_toArray, List.set_cons_zero, List.set_cons_succ, i64_w, i32_w]
              rfl
            refine one_ (i := 5) (N := some 51) #[true, true, true, true, true, true, false, true, false, false, false] rfl rfl (by kernel_rfl) (by decide) (fun K hK => ?_)
            refine goes_ Tryd.func27 (by kernel_rfl) rfl #[.int .i64 y1] (by rfl) rfl rfl (by simp only [List.map_toArray, List.map_cons, List.map_nil]; rfl) ?_
            with_reducible refine (wire_Int.calls y1 t1 _ (HT.out.below hHeld.2.2.2) HI1.out).mono ?_
            rintro e wa1 ⟨rfl, hba1⟩
            refine ⟨_, rfl, ?_⟩
            refine hK.out _ _ ⟨pw_cell_below hba1 hHeld.1, pw_cell_below hba1 hHeld.2.1, IsB.below hHeld.2.2.1 hba1, below_step hHeld.2.2.2 hba1⟩ (fun hHeld => ?_)
            clear hK K
            refine norm_ (a' := ?_) ?_ ?_
            rotate_left
            · show Act.put _ (some 51) _ = _
              simp only [Act.put, List.setIfInBounds_toArray, List.set_cons_zero, List.set_cons_succ, i64_w, i32_w]
              rfl
            refine pure_ (i := 6) (N := some 52) (v := ?_) (a' := ?_) #[true, true, true, true, true, true, true, true, false, false, false] rfl rfl (by kernel_rfl) (fun _ _ _ h => h) (Or.inl ⟨by rfl, ?_⟩) ?_ ?_
            rotate_left
            · intro w'
              go_simp
              with_reducible rfl
            rotate_left
            · simp only [Act.put, List.setIfInBounds_toArray, List.set_cons_zero, List.set_cons_succ, i64_w, i32_w]
              rfl
            refine one_ (i := 8) (N := some 54) #[true, true, true, true, true, true, true, true, true, false, false] rfl rfl (by kernel_rfl) (by decide) (fun K hK => ?_)
            refine goes_ Tryd.func27 (by kernel_rfl) rfl #[.int .i64 1] (by rfl) rfl rfl (by simp only [List.map_toArray, List.map_cons, List.map_nil]; rfl) ?_
            with_reducible refine (wire_Int.calls 1 t2 _ (HT.out.below hHeld.2.2.2) HI2.out).mono ?_
            rintro e wa2 ⟨rfl, hba2⟩
            refine ⟨_, rfl, ?_⟩
            refine hK.out _ _ ⟨pw_cell_below hba2 hHeld.1, pw_cell_below hba2 hHeld.2.1, IsB.below hHeld.2.2.1 hba2, below_step hHeld.2.2.2 hba2⟩ (fun hHeld => ?_)
            clear hK K
            refine norm_ (a' := ?_) ?_ ?_
            rotate_left
            · show Act.put _ (some 54) _ = _
              simp only [Act.put, List.setIfInBounds_toArray, List.set_cons_zero, List.set_cons_succ, i64_w, i32_w]
              rfl
            refine pure_ (i := 9) (N := some 55) (v := ?_) (a' := ?_) #[true, true, true, true, true, true, true, true, true, true, false] rfl rfl (by kernel_rfl) (fun _ _ _ h => h) (Or.inl ⟨by rfl, ?_⟩) ?_ ?_
            rotate_left
            · intro w'
              go_simp
              with_reducible rfl
            rotate_left
            · simp only [Act.put, List.setIfInBounds_toArray, List.set_cons_zero, List.set_cons_succ, i64_w, i32_w]
              rfl
            refine last_ (i := 10) (N := some 56) #[true, true, true, true, true, true, true, true, true, true, true] rfl rfl (by kernel_rfl) (by decide) (fun K hK => ?_)
            refine goes_ Tryd.func24 (by kernel_rfl) rfl #[.pointer (some ⟨w.heap.size, 0, none⟩), .string ((t0 ++ t1) ++ t2)] (by rfl) rfl rfl (by simp only [List.map_toArray, List.map_cons, List.map_nil]; rfl) ?_
            with_reducible refine (build_write w.heap.size w.heap.size pre ((t0 ++ t1) ++ t2) _ hHeld.2.2.1 hws hHeld.2.2.2.size).mono ?_
            rintro e w6 ⟨rfl, hs6, hb6⟩
            have hBX := Lib.hid (hHeld.2.2.2.trans hb6)
            refine ⟨_, rfl, ?_⟩
            refine hK.out _ _ ?_
            clear hK K
            refine norm_ (a' := ?_) ?_ ?_
            rotate_left
            · show Act.put _ (some 56) _ = _
              simp only [Act.put, List.setIfInBounds_toArray, List.set_cons_zero, List.set_cons_succ, i64_w, i32_w]
              rfl
            refine done_ (by kernel_rfl) ?_
            have HS6 := Lib.hid hs6
            clear hs6 hb6 hbw hS6 hB6 q0 q1
            go_wp2
            go_roundg (l1.length - (kk + 1))
            case measure => omega
            case rel =>
              refine ⟨kk + 1, by omega, by omega, by go_num, hBX.out, (show IsB _ _ _ _ from ?_)⟩
              have := HS6.out
              rw [← HQ.out, ← HY0.out, ← HY1.out, ← HY2.out] at this
              rw [HN.out]
              simpa [lotB, ByteArray.data_append, List.append_assoc] using this
          | false =>
            have hzz := lotB_parts _ hok
            have hi0 : wire_Int.f y0 = some (bs (intB y0)) := int_eq y0 (hzz.1)
            have hz0 : (bs (intB y0)).size ≤ 21 := by rw [bs_size]; exact intB_len _ (hzz.1)
            generalize hb0 : bs (intB y0) = t0 at hi0 hz0
            have hi1 : wire_Int.f y1 = some (bs (intB y1)) := int_eq y1 (hzz.2)
            have hz1 : (bs (intB y1)).size ≤ 21 := by rw [bs_size]; exact intB_len _ (hzz.2)
            generalize hb1 : bs (intB y1) = t1 at hi1 hz1
            have hi2 : wire_Int.f 0 = some (bs (intB 0)) := int_eq 0 (by decide)
            have hz2 : (bs (intB 0)).size ≤ 21 := by rw [bs_size]; exact intB_len _ (by decide)
            generalize hb2 : bs (intB 0) = t2 at hi2 hz2
            generalize hq : intB (l0.length : Int) ++ l0.flatMap kindB ++ intB (l1.length : Int) ++ (l1.take kk).flatMap lotB = pre at SW hpl
            have HN := Lib.hid hsn
            have HQ := Lib.hid hq
            have HI0 := Lib.hid hi0
            have HY0 := Lib.hid hb0
            have HI1 := Lib.hid hi1
            have HY1 := Lib.hid hb1
            have HI2 := Lib.hid hi2
            have HY2 := Lib.hid hb2
            have hc1 : t0.size + t1.size ≤ 9223372036854775807 := by omega
            have hd1 := eq_true hc1
            have he1 : decide (t0.size + t1.size ≤ 9223372036854775807) = true := decide_eq_true hc1
            have hf1 : (9223372036854775807 < t0.size + t1.size) = False := eq_false (Nat.not_lt.2 hc1)
            clear hc1
            have hc2 : (t0 ++ t1).size + t2.size ≤ 9223372036854775807 := by simp only [ByteArray.size_append]; omega
            have hd2 := eq_true hc2
            have he2 : decide ((t0 ++ t1).size + t2.size ≤ 9223372036854775807) = true := decide_eq_true hc2
            have hf2 : (9223372036854775807 < (t0 ++ t1).size + t2.size) = False := eq_false (Nat.not_lt.2 hc2)
            have hh2 : (9223372036854775807 < t0.size + t1.size + t2.size) = False := eq_false (by omega)
            clear hc2
            have hws : pre.length + ((t0 ++ t1) ++ t2).size ≤ 140737488355328 := by simp only [ByteArray.size_append]; omega
            clear hsn hq hok hzz hi0 hb0 hz0 hi1 hb1 hz1 hi2 hb2 hz2
            go_wp2_with ((with_reducible refine gate_dst (N := 11) rfl ?_); refine box_event ?hg (N := 11) ?hd (cs := #[.int .i64 0, .int .i64 0, .bool false]) (t := 38) ?hr ?_; (case hd => rfl); (case hg => rfl); (case hr => first | (go_simp; done) | (go_simp; rfl)); intro gb hgb w8 hbox hb; have HB8 := Lib.hid hb; have BK := Lib.hid hbox; have GE := Lib.hid (show wr.heap.size ≤ gb by omega); have hcz0 : w8.cell? ⟨gb, 0, none⟩ = some (.int .i64 0) := (blk_cell hbox 0).trans rfl; have hfz0 := blk_frozen hbox 0; have hcz1 : w8.cell? ⟨gb, 1, none⟩ = some (.int .i64 0) := (blk_cell hbox 1).trans rfl; have hfz1 := blk_frozen hbox 1; have hcz2 : w8.cell? ⟨gb, 2, none⟩ = some (.bool false) := (blk_cell hbox 2).trans rfl; have hfz2 := blk_frozen hbox 2; clear hb hbox hgb)
            have hbw := (((HB8.out.setCell (p := ⟨gb, 0, none⟩) GE.out (.int .i64 y0)).setCell (p := ⟨gb, 1, none⟩) GE.out (.int .i64 y1)).setCell (p := ⟨gb, 2, none⟩) GE.out (.bool false))
            have q0 : (((w8.setCell ⟨gb, 0, none⟩ (.int .i64 y0)).setCell ⟨gb, 1, none⟩ (.int .i64 y1)).setCell ⟨gb, 2, none⟩ (.bool false)).cell? ⟨gb, 0, none⟩ = some (.int .i64 y0) := by simp [World.cell?, World.setCell, Array.getElem?_modify, BK.out]
            have q1 : (((w8.setCell ⟨gb, 0, none⟩ (.int .i64 y0)).setCell ⟨gb, 1, none⟩ (.int .i64 y1)).setCell ⟨gb, 2, none⟩ (.bool false)).cell? ⟨gb, 1, none⟩ = some (.int .i64 y1) := by simp [World.cell?, World.setCell, Array.getElem?_modify, BK.out]
            have hS6 : IsB w.heap.size w.heap.size pre (((w8.setCell ⟨gb, 0, none⟩ (.int .i64 y0)).setCell ⟨gb, 1, none⟩ (.int .i64 y1)).setCell ⟨gb, 2, none⟩ (.bool false)) := IsB.below SW.out hbw
            have hB6 := below_step BW.out hbw
            refine start_ (n := 11) (S := fun w' => w'.cell? ⟨gb, 0, none⟩ = some (.int .i64 y0) ∧ w'.cell? ⟨gb, 1, none⟩ = some (.int .i64 y1) ∧ IsB w.heap.size w.heap.size pre w' ∧ Below w.heap.size w w') (ds := [10]) #[false, false, false, false, false, false, false, false, false, false, false] (by kernel_rfl) rfl rfl ⟨q0, q1, hS6, below_drew1 hB6⟩ (fun hHeld => ?_)
            refine pure_ (i := 0) (N := some 46) (v := ?_) (a' := ?_) #[true, false, false, false, false, false, false, false, false, false, false] rfl rfl (by kernel_rfl) (fun _ _ _ h => h) (Or.inl ⟨by rfl, ?_⟩) ?_ ?_
            rotate_left
            · intro w'
              go_simp
              with_reducible rfl
            rotate_left
            · simp only [Act.put, List.setIfInBounds_toArray, List.set_cons_zero, List.set_cons_succ, i64_w, i32_w]
              rfl
            refine pure_ (i := 3) (N := some 49) (v := ?_) (a' := ?_) #[true, false, false, true, false, false, false, false, false, false, false] rfl rfl (by kernel_rfl) (fun _ _ _ h => h) (Or.inl ⟨by rfl, ?_⟩) ?_ ?_
            rotate_left
            · intro w'
              go_simp
              with_reducible rfl
            rotate_left
            · simp only [Act.put, List.setIfInBounds_toArray, List.set_cons_zero, List.set_cons_succ, i64_w, i32_w]
              rfl
            refine pure_ (i := 7) (N := some 53) (v := ?_) (a' := ?_) #[true, false, false, true, false, false, false, true, false, false, false] rfl rfl (by kernel_rfl) (fun _ _ _ h => h) (Or.inl ⟨by rfl, ?_⟩) ?_ ?_
            rotate_left
            · intro w'
              go_simp
              with_reducible rfl
            rotate_left
            · simp only [Act.put, List.setIfInBounds_toArray, List.set_cons_zero, List.set_cons_succ, i64_w, i32_w]
              rfl
            refine take_ (i := 1) (N := some 47) (v := ?_) (a' := ?_) #[true, true, false, true, false, false, false, true, false, false, false] rfl rfl (by kernel_rfl) (fun _ _ _ h => h) (Or.inl ⟨by rfl, ?_⟩) hHeld ?_ ?_
            rotate_left
            · rintro w' ⟨s0, s1, s2, s3⟩
              go_simp
              with_reducible rfl
            rotate_left
            · simp only [Act.put, List.setIfInBounds_toArray, List.set_cons_zero, List.set_cons_succ, i64_w, i32_w]
              rfl
            refine take_ (i := 4) (N := some 50) (v := ?_) (a' := ?_) #[true, true, false, true, true, false, false, true, false, false, false] rfl rfl (by kernel_rfl) (fun _ _ _ h => h) (Or.inl ⟨by rfl, ?_⟩) hHeld ?_ ?_
            rotate_left
            · rintro w' ⟨s0, s1, s2, s3⟩
              go_simp
              with_reducible rfl
            rotate_left
            · simp only [Act.put, List.setIfInBounds_toArray, List.set_cons_zero, List.set_cons_succ, i64_w, i32_w]
              rfl
            refine one_ (i := 2) (N := some 48) #[true, true, true, true, true, false, false, true, false, false, false] rfl rfl (by kernel_rfl) (by decide) (fun K hK => ?_)
            refine goes_ Tryd.func27 (by kernel_rfl) rfl #[.int .i64 y0] (by rfl) rfl rfl (by simp only [List.map_toArray, List.map_cons, List.map_nil]; rfl) ?_
            with_reducible refine (wire_Int.calls y0 t0 _ (HT.out.below hHeld.2.2.2) HI0.out).mono ?_
            rintro e wa0 ⟨rfl, hba0⟩
            refine ⟨_, rfl, ?_⟩
            refine hK.out _ _ ⟨pw_cell_below hba0 hHeld.1, pw_cell_below hba0 hHeld.2.1, IsB.below hHeld.2.2.1 hba0, below_step hHeld.2.2.2 hba0⟩ (fun hHeld => ?_)
            clear hK K
            refine norm_ (a' := ?_) ?_ ?_
            rotate_left
            · show Act.put _ (some 48) _ = _
              simp only [Act.put, List.setIfInBounds_toArray, List.set_cons_zero, List.set_cons_succ, i64_w, i32_w]
              rfl
            refine one_ (i := 5) (N := some 51) #[true, true, true, true, true, true, false, true, false, false, false] rfl rfl (by kernel_rfl) (by decide) (fun K hK => ?_)
            refine goes_ Tryd.func27 (by kernel_rfl) rfl #[.int .i64 y1] (by rfl) rfl rfl (by simp only [List.map_toArray, List.map_cons, List.map_nil]; rfl) ?_
            with_reducible refine (wire_Int.calls y1 t1 _ (HT.out.below hHeld.2.2.2) HI1.out).mono ?_
            rintro e wa1 ⟨rfl, hba1⟩
            refine ⟨_, rfl, ?_⟩
            refine hK.out _ _ ⟨pw_cell_below hba1 hHeld.1, pw_cell_below hba1 hHeld.2.1, IsB.below hHeld.2.2.1 hba1, below_step hHeld.2.2.2 hba1⟩ (fun hHeld => ?_)
            clear hK K
            refine norm_ (a' := ?_) ?_ ?_
            rotate_left
            · show Act.put _ (some 51) _ = _
              simp only [Act.put, List.setIfInBounds_toArray, List.set_cons_zero, List.set_cons_succ, i64_w, i32_w]
              rfl
            refine pure_ (i := 6) (N := some 52) (v := ?_) (a' := ?_) #[true, true, true, true, true, true, true, true, false, false, false] rfl rfl (by kernel_rfl) (fun _ _ _ h => h) (Or.inl ⟨by rfl, ?_⟩) ?_ ?_
            rotate_left
            · intro w'
              go_simp
              with_reducible rfl
            rotate_left
            · simp only [Act.put, List.setIfInBounds_toArray, List.set_cons_zero, List.set_cons_succ, i64_w, i32_w]
              rfl
            refine one_ (i := 8) (N := some 54) #[true, true, true, true, true, true, true, true, true, false, false] rfl rfl (by kernel_rfl) (by decide) (fun K hK => ?_)
            refine goes_ Tryd.func27 (by kernel_rfl) rfl #[.int .i64 0] (by rfl) rfl rfl (by simp only [List.map_toArray, List.map_cons, List.map_nil]; rfl) ?_
            with_reducible refine (wire_Int.calls 0 t2 _ (HT.out.below hHeld.2.2.2) HI2.out).mono ?_
            rintro e wa2 ⟨rfl, hba2⟩
            refine ⟨_, rfl, ?_⟩
            refine hK.out _ _ ⟨pw_cell_below hba2 hHeld.1, pw_cell_below hba2 hHeld.2.1, IsB.below hHeld.2.2.1 hba2, below_step hHeld.2.2.2 hba2⟩ (fun hHeld => ?_)
            clear hK K
            refine norm_ (a' := ?_) ?_ ?_
            rotate_left
            · show Act.put _ (some 54) _ = _
              simp only [Act.put, List.setIfInBounds_toArray, List.set_cons_zero, List.set_cons_succ, i64_w, i32_w]
              rfl
            refine pure_ (i := 9) (N := some 55) (v := ?_) (a' := ?_) #[true, true, true, true, true, true, true, true, true, true, false] rfl rfl (by kernel_rfl) (fun _ _ _ h => h) (Or.inl ⟨by rfl, ?_⟩) ?_ ?_
            rotate_left
            · intro w'
              go_simp
              with_reducible rfl
            rotate_left
            · simp only [Act.put, List.setIfInBounds_toArray, List.set_cons_zero, List.set_cons_succ, i64_w, i32_w]
              rfl
            refine last_ (i := 10) (N := some 56) #[true, true, true, true, true, true, true, true, true, true, true] rfl rfl (by kernel_rfl) (by decide) (fun K hK => ?_)
            refine goes_ Tryd.func24 (by kernel_rfl) rfl #[.pointer (some ⟨w.heap.size, 0, none⟩), .string ((t0 ++ t1) ++ t2)] (by rfl) rfl rfl (by simp only [List.map_toArray, List.map_cons, List.map_nil]; rfl) ?_
            with_reducible refine (build_write w.heap.size w.heap.size pre ((t0 ++ t1) ++ t2) _ hHeld.2.2.1 hws hHeld.2.2.2.size).mono ?_
            rintro e w6 ⟨rfl, hs6, hb6⟩
            have hBX := Lib.hid (hHeld.2.2.2.trans hb6)
            refine ⟨_, rfl, ?_⟩
            refine hK.out _ _ ?_
            clear hK K
            refine norm_ (a' := ?_) ?_ ?_
            rotate_left
            · show Act.put _ (some 56) _ = _
              simp only [Act.put, List.setIfInBounds_toArray, List.set_cons_zero, List.set_cons_succ, i64_w, i32_w]
              rfl
            refine done_ (by kernel_rfl) ?_
            have HS6 := Lib.hid hs6
            clear hs6 hb6 hbw hS6 hB6 q0 q1
            go_wp2
            go_roundg (l1.length - (kk + 1))
            case measure => omega
            case rel =>
              refine ⟨kk + 1, by omega, by omega, by go_num, hBX.out, (show IsB _ _ _ _ from ?_)⟩
              have := HS6.out
              rw [← HQ.out, ← HY0.out, ← HY1.out, ← HY2.out] at this
              rw [HN.out]
              simpa [lotB, ByteArray.data_append, List.append_assoc] using this
        · have hltz : ¬ (kk : Int) < (l1.length : Int) := by omega
          have hkk' : kk = l1.length := by omega
          have SW2 := SW.out
          rw [hkk', List.take_of_length_le (Nat.le_refl _)] at SW2 hpl
          have SX := Lib.hid SW2
          clear SW2 hkk' SW
          have hn := num_eq l2.length (by omega)
          have hnz : (bs (intB (l2.length : Int))).size ≤ 21 := by rw [bs_size]; exact intB_len _ (decide_eq_true (by omega))
          generalize hnb : bs (intB (l2.length : Int)) = tn at hn hnz
          have HNB := Lib.hid hnb
          have HNN := Lib.hid hn
          clear hn hnb
          have hlb : (intB (l0.length : Int) ++ l0.flatMap kindB ++ intB (l1.length : Int) ++ l1.flatMap lotB).length + tn.size ≤ 140737488355328 := by have := hP2; simp only [List.length_append] at this ⊢; omega
          go_wp2_with (first | (go_at_call 25; refine (wire_Num.calls (l2.length : Int) tn _ (HT.out.below (BW.out)) HNN.out).mono ?_; rintro e wn ⟨rfl, hbn⟩; have BN := Lib.hid (below_step (BW.out) hbn); have SN := Lib.hid (IsB.below (SX.out) hbn); clear hbn) | (go_at_call 24; refine (build_write w.heap.size w.heap.size _ tn _ SN.out hlb BN.out.size).mono ?_; rintro e wm ⟨rfl, hsm, hbm⟩; have BM := Lib.hid (BN.out.trans hbm); have SM := Lib.hid hsm; clear hsm hbm BN SN))
          clear hlb
          go_loopg [64] l2.length (fun gg s_ wr => ∃ kk : Nat, kk ≤ l2.length ∧ l2.length - kk ≤ gg ∧ s_ = .int .i64 kk ∧ Aside (Below w.heap.size w wr) ∧ Aside (IsB w.heap.size w.heap.size (intB (l0.length : Int) ++ l0.flatMap kindB ++ intB (l1.length : Int) ++ l1.flatMap lotB ++ intB (l2.length : Int) ++ (l2.take kk).flatMap boxB) wr))
          case atStart =>
            refine ⟨0, Nat.zero_le _, by omega, rfl, BM.out, (show IsB _ _ _ _ from ?_)⟩
            have := SM.out
            rw [← HNB.out] at this
            simpa [List.append_assoc] using this
          case round =>
            clear BM SM HNB HNN hnz
            obtain ⟨kk, hkk, hg, rfl, BW, SW⟩ := hrel
            have hpl := len_take (intB (l0.length : Int) ++ l0.flatMap kindB ++ intB (l1.length : Int) ++ l1.flatMap lotB ++ intB (l2.length : Int)) l2 boxB kk 63 hP2 (fun x hx => boxB_len x (HA2.out x hx))
            by_cases hlt : kk < l2.length
            · have hltz : (kk : Int) < (l2.length : Int) := by omega
              obtain ⟨ad, e1, la0, la1, la2⟩ := at_T40 (Kd.C_below HR2.out BW.out) (kk : Int) (by omega) hltz
              subst e1
              have hsn := flat_snoc l2 boxB kk z40 hlt
              have hok := HA2.out (l2.getD kk z40) (getD_mem l2 kk z40 hlt)
              simp only [rd_T40, Int.toNat_natCast] at la0 la1 la2
              generalize l2.getD kk z40 = y at la0 la1 la2 hsn hok
              have hzz := boxB_parts y hok
              have hi0 : wire_Int.f y.f0 = some (bs (intB y.f0)) := int_eq y.f0 (hzz.1)
              have hz0 : (bs (intB y.f0)).size ≤ 21 := by rw [bs_size]; exact intB_len _ (hzz.1)
              generalize hb0 : bs (intB y.f0) = t0 at hi0 hz0
              have hi1 : wire_Int.f y.f1 = some (bs (intB y.f1)) := int_eq y.f1 (hzz.2.1)
              have hz1 : (bs (intB y.f1)).size ≤ 21 := by rw [bs_size]; exact intB_len _ (hzz.2.1)
              generalize hb1 : bs (intB y.f1) = t1 at hi1 hz1
              have hi2 : wire_Int.f y.f2 = some (bs (intB y.f2)) := int_eq y.f2 (hzz.2.2)
              have hz2 : (bs (intB y.f2)).size ≤ 21 := by rw [bs_size]; exact intB_len _ (hzz.2.2)
              generalize hb2 : bs (intB y.f2) = t2 at hi2 hz2
              generalize hq : intB (l0.length : Int) ++ l0.flatMap kindB ++ intB (l1.length : Int) ++ l1.flatMap lotB ++ intB (l2.length : Int) ++ (l2.take kk).flatMap boxB = pre at SW hpl
              have HN := Lib.hid hsn
              have HQ := Lib.hid hq
              have HI0 := Lib.hid hi0
              have HY0 := Lib.hid hb0
              have HI1 := Lib.hid hi1
              have HY1 := Lib.hid hb1
              have HI2 := Lib.hid hi2
              have HY2 := Lib.hid hb2
              have hc1 : t0.size + t1.size ≤ 9223372036854775807 := by omega
              have hd1 := eq_true hc1
              have he1 : decide (t0.size + t1.size ≤ 9223372036854775807) = true := decide_eq_true hc1
              have hf1 : (9223372036854775807 < t0.size + t1.size) = False := eq_false (Nat.not_lt.2 hc1)
              clear hc1
              have hc2 : (t0 ++ t1).size + t2.size ≤ 9223372036854775807 := by simp only [ByteArray.size_append]; omega
              have hd2 := eq_true hc2
              have he2 : decide ((t0 ++ t1).size + t2.size ≤ 9223372036854775807) = true := decide_eq_true hc2
              have hf2 : (9223372036854775807 < (t0 ++ t1).size + t2.size) = False := eq_false (Nat.not_lt.2 hc2)
              have hh2 : (9223372036854775807 < t0.size + t1.size + t2.size) = False := eq_false (by omega)
              clear hc2
              have hws : pre.length + ((t0 ++ t1) ++ t2).size ≤ 140737488355328 := by simp only [ByteArray.size_append]; omega
              clear hsn hq hok hzz hi0 hb0 hz0 hi1 hb1 hz1 hi2 hb2 hz2
              go_wp2_with ((with_reducible refine gate_dst (N := 14) rfl ?_); refine box_event ?hg (N := 14) ?hd (cs := #[.int .i64 0, .int .i64 0, .int .i64 0]) (t := 40) ?hr ?_; (case hd => rfl); (case hg => rfl); (case hr => first | (go_simp; done) | (go_simp; rfl)); intro gb hgb w8 hbox hb; have HB8 := Lib.hid hb; have BK := Lib.hid hbox; have GE := Lib.hid (show wr.heap.size ≤ gb by omega); have hcz0 : w8.cell? ⟨gb, 0, none⟩ = some (.int .i64 0) := (blk_cell hbox 0).trans rfl; have hfz0 := blk_frozen hbox 0; have hcz1 : w8.cell? ⟨gb, 1, none⟩ = some (.int .i64 0) := (blk_cell hbox 1).trans rfl; have hfz1 := blk_frozen hbox 1; have hcz2 : w8.cell? ⟨gb, 2, none⟩ = some (.int .i64 0) := (blk_cell hbox 2).trans rfl; have hfz2 := blk_frozen hbox 2; clear hb hbox hgb)
              have hbw := (((HB8.out.setCell (p := ⟨gb, 0, none⟩) GE.out (.int .i64 y.f0)).setCell (p := ⟨gb, 1, none⟩) GE.out (.int .i64 y.f1)).setCell (p := ⟨gb, 2, none⟩) GE.out (.int .i64 y.f2))
              have q0 : (((w8.setCell ⟨gb, 0, none⟩ (.int .i64 y.f0)).setCell ⟨gb, 1, none⟩ (.int .i64 y.f1)).setCell ⟨gb, 2, none⟩ (.int .i64 y.f2)).cell? ⟨gb, 0, none⟩ = some (.int .i64 y.f0) := by simp [World.cell?, World.setCell, Array.getElem?_modify, BK.out]
              have q1 : (((w8.setCell ⟨gb, 0, none⟩ (.int .i64 y.f0)).setCell ⟨gb, 1, none⟩ (.int .i64 y.f1)).setCell ⟨gb, 2, none⟩ (.int .i64 y.f2)).cell? ⟨gb, 1, none⟩ = some (.int .i64 y.f1) := by simp [World.cell?, World.setCell, Array.getElem?_modify, BK.out]
              have q2 : (((w8.setCell ⟨gb, 0, none⟩ (.int .i64 y.f0)).setCell ⟨gb, 1, none⟩ (.int .i64 y.f1)).setCell ⟨gb, 2, none⟩ (.int .i64 y.f2)).cell? ⟨gb, 2, none⟩ = some (.int .i64 y.f2) := by simp [World.cell?, World.setCell, Array.getElem?_modify, BK.out]
              have hS6 : IsB w.heap.size w.heap.size pre (((w8.setCell ⟨gb, 0, none⟩ (.int .i64 y.f0)).setCell ⟨gb, 1, none⟩ (.int .i64 y.f1)).setCell ⟨gb, 2, none⟩ (.int .i64 y.f2)) := IsB.below SW.out hbw
              have hB6 := below_step BW.out hbw
              refine start_ (n := 12) (S := fun w' => w'.cell? ⟨gb, 0, none⟩ = some (.int .i64 y.f0) ∧ w'.cell? ⟨gb, 1, none⟩ = some (.int .i64 y.f1) ∧ w'.cell? ⟨gb, 2, none⟩ = some (.int .i64 y.f2) ∧ IsB w.heap.size w.heap.size pre w' ∧ Below w.heap.size w w') (ds := [11]) #[false, false, false, false, false, false, false, false, false, false, false, false] (by kernel_rfl) rfl rfl ⟨q0, q1, q2, hS6, below_drew1 hB6⟩ (fun hHeld => ?_)
              refine pure_ (i := 0) (N := some 68) (v := ?_) (a' := ?_) #[true, false, false, false, false, false, false, false, false, false, false, false] rfl rfl (by kernel_rfl) (fun _ _ _ h => h) (Or.inl ⟨by rfl, ?_⟩) ?_ ?_
              rotate_left
              · intro w'
                go_simp
                with_reducible rfl
              rotate_left
              · simp only [Act.put, List.setIfInBounds_toArray, List.set_cons_zero, List.set_cons_succ, i64_w, i32_w]
                rfl
              refine pure_ (i := 3) (N := some 71) (v := ?_) (a' := ?_) #[true, false, false, true, false, false, false, false, false, false, false, false] rfl rfl (by kernel_rfl) (fun _ _ _ h => h) (Or.inl ⟨by rfl, ?_⟩) ?_ ?_
              rotate_left
              · intro w'
                go_simp
                with_reducible rfl
              rotate_left
              · simp only [Act.put, List.setIfInBounds_toArray, List.set_cons_zero, List.set_cons_succ, i64_w, i32_w]
                rfl
              refine pure_ (i := 7) (N := some 75) (v := ?_) (a' := ?_) #[true, false, false, true, false, false, false, true, false, false, false, false] rfl rfl (by kernel_rfl) (fun _ _ _ h => h) (Or.inl ⟨by rfl, ?_⟩) ?_ ?_
              rotate_left
              · intro w'
                go_simp
                with_reducible rfl
              rotate_left
              · simp only [Act.put, List.setIfInBounds_toArray, List.set_cons_zero, List.set_cons_succ, i64_w, i32_w]
                rfl
              refine take_ (i := 1) (N := some 69) (v := ?_) (a' := ?_) #[true, true, false, true, false, false, false, true, false, false, false, false] rfl rfl (by kernel_rfl) (fun _ _ _ h => h) (Or.inl ⟨by rfl, ?_⟩) hHeld ?_ ?_
              rotate_left
              · rintro w' ⟨s0, s1, s2, s3, s4⟩
                go_simp
                with_reducible rfl
              rotate_left
              · simp only [Act.put, List.setIfInBounds_toArray, List.set_cons_zero, List.set_cons_succ, i64_w, i32_w]
                rfl
              refine take_ (i := 4) (N := some 72) (v := ?_) (a' := ?_) #[true, true, false, true, true, false, false, true, false, false, false, false] rfl rfl (by kernel_rfl) (fun _ _ _ h => h) (Or.inl ⟨by rfl, ?_⟩) hHeld ?_ ?_
              rotate_left
              · rintro w' ⟨s0, s1, s2, s3, s4⟩
                go_simp
                with_reducible rfl
              rotate_left
              · simp only [Act.put, List.setIfInBounds_toArray, List.set_cons_zero, List.set_cons_succ, i64_w, i32_w]
                rfl
              refine take_ (i := 8) (N := some 76) (v := ?_) (a' := ?_) #[true, true, false, true, true, false, false, true, true, false, false, false] rfl rfl (by kernel_rfl) (fun _ _ _ h => h) (Or.inl ⟨by rfl, ?_⟩) hHeld ?_ ?_
              rotate_left
              · rintro w' ⟨s0, s1, s2, s3, s4⟩
                go_simp
                with_reducible rfl
              rotate_left
              · simp only [Act.put, List.setIfInBounds_toArray, List.set_cons_zero, List.set_cons_succ, i64_w, i32_w]
                rfl
              refine one_ (i := 2) (N := some 70) #[true, true, true, true, true, false, false, true, true, false, false, false] rfl rfl (by kernel_rfl) (by decide) (fun K hK => ?_)
              refine goes_ Tryd.func27 (by kernel_rfl) rfl #[.int .i64 y.f0] (by rfl) rfl rfl (by simp only [List.map_toArray, List.map_cons, List.map_nil]; rfl) ?_
              with_reducible refine (wire_Int.calls y.f0 t0 _ (HT.out.below hHeld.2.2.2.2) HI0.out).mono ?_
              rintro e wa0 ⟨rfl, hba0⟩
              refine ⟨_, rfl, ?_⟩
              refine hK.out _ _ ⟨pw_cell_below hba0 hHeld.1, pw_cell_below hba0 hHeld.2.1, pw_cell_below hba0 hHeld.2.2.1, IsB.below hHeld.2.2.2.1 hba0, below_step hHeld.2.2.2.2 hba0⟩ (fun hHeld => ?_)
              clear hK K
              refine norm_ (a' := ?_) ?_ ?_
              rotate_left
              · show Act.put _ (some 70) _ = _
                simp only [Act.put, List.setIfInBounds_toArray, List.set_cons_zero, List.set_cons_succ, i64_w, i32_w]
                rfl
              refine one_ (i := 5) (N := some 73) #[true, true, true, true, true, true, false, true, true, false, false, false] rfl rfl (by kernel_rfl) (by decide) (fun K hK => ?_)
              refine goes_ Tryd.func27 (by kernel_rfl) rfl #[.int .i64 y.f1] (by rfl) rfl rfl (by simp only [List.map_toArray, List.map_cons, List.map_nil]; rfl) ?_
              with_reducible refine (wire_Int.calls y.f1 t1 _ (HT.out.below hHeld.2.2.2.2) HI1.out).mono ?_
              rintro e wa1 ⟨rfl, hba1⟩
              refine ⟨_, rfl, ?_⟩
              refine hK.out _ _ ⟨pw_cell_below hba1 hHeld.1, pw_cell_below hba1 hHeld.2.1, pw_cell_below hba1 hHeld.2.2.1, IsB.below hHeld.2.2.2.1 hba1, below_step hHeld.2.2.2.2 hba1⟩ (fun hHeld => ?_)
              clear hK K
              refine norm_ (a' := ?_) ?_ ?_
              rotate_left
              · show Act.put _ (some 73) _ = _
                simp only [Act.put, List.setIfInBounds_toArray, List.set_cons_zero, List.set_cons_succ, i64_w, i32_w]
                rfl
              refine pure_ (i := 6) (N := some 74) (v := ?_) (a' := ?_) #[true, true, true, true, true, true, true, true, true, false, false, false] rfl rfl (by kernel_rfl) (fun _ _ _ h => h) (Or.inl ⟨by rfl, ?_⟩) ?_ ?_
              rotate_left
              · intro w'
                go_simp
                with_reducible rfl
              rotate_left
              · simp only [Act.put, List.setIfInBounds_toArray, List.set_cons_zero, List.set_cons_succ, i64_w, i32_w]
                rfl
              refine one_ (i := 9) (N := some 77) #[true, true, true, true, true, true, true, true, true, true, false, false] rfl rfl (by kernel_rfl) (by decide) (fun K hK => ?_)
              refine goes_ Tryd.func27 (by kernel_rfl) rfl #[.int .i64 y.f2] (by rfl) rfl rfl (by simp only [List.map_toArray, List.map_cons, List.map_nil]; rfl) ?_
              with_reducible refine (wire_Int.calls y.f2 t2 _ (HT.out.below hHeld.2.2.2.2) HI2.out).mono ?_
              rintro e wa2 ⟨rfl, hba2⟩
              refine ⟨_, rfl, ?_⟩
              refine hK.out _ _ ⟨pw_cell_below hba2 hHeld.1, pw_cell_below hba2 hHeld.2.1, pw_cell_below hba2 hHeld.2.2.1, IsB.below hHeld.2.2.2.1 hba2, below_step hHeld.2.2.2.2 hba2⟩ (fun hHeld => ?_)
              clear hK K
              refine norm_ (a' := ?_) ?_ ?_
              rotate_left
              · show Act.put _ (some 77) _ = _
                simp only [Act.put, List.setIfInBounds_toArray, List.set_cons_zero, List.set_cons_succ, i64_w, i32_w]
                rfl
              refine pure_ (i := 10) (N := some 78) (v := ?_) (a' := ?_) #[true, true, true, true, true, true, true, true, true, true, true, false] rfl rfl (by kernel_rfl) (fun _ _ _ h => h) (Or.inl ⟨by rfl, ?_⟩) ?_ ?_
              rotate_left
              · intro w'
                go_simp
                with_reducible rfl
              rotate_left
              · simp only [Act.put, List.setIfInBounds_toArray, List.set_cons_zero, List.set_cons_succ, i64_w, i32_w]
                rfl
              refine last_ (i := 11) (N := some 79) #[true, true, true, true, true, true, true, true, true, true, true, true] rfl rfl (by kernel_rfl) (by decide) (fun K hK => ?_)
              refine goes_ Tryd.func24 (by kernel_rfl) rfl #[.pointer (some ⟨w.heap.size, 0, none⟩), .string ((t0 ++ t1) ++ t2)] (by rfl) rfl rfl (by simp only [List.map_toArray, List.map_cons, List.map_nil]; rfl) ?_
              with_reducible refine (build_write w.heap.size w.heap.size pre ((t0 ++ t1) ++ t2) _ hHeld.2.2.2.1 hws hHeld.2.2.2.2.size).mono ?_
              rintro e w6 ⟨rfl, hs6, hb6⟩
              have hBX := Lib.hid (hHeld.2.2.2.2.trans hb6)
              refine ⟨_, rfl, ?_⟩
              refine hK.out _ _ ?_
              clear hK K
              refine norm_ (a' := ?_) ?_ ?_
              rotate_left
              · show Act.put _ (some 79) _ = _
                simp only [Act.put, List.setIfInBounds_toArray, List.set_cons_zero, List.set_cons_succ, i64_w, i32_w]
                rfl
              refine done_ (by kernel_rfl) ?_
              have HS6 := Lib.hid hs6
              clear hs6 hb6 hbw hS6 hB6 q0 q1 q2
              go_wp2
              go_roundg (l2.length - (kk + 1))
              case measure => omega
              case rel =>
                refine ⟨kk + 1, by omega, by omega, by go_num, hBX.out, (show IsB _ _ _ _ from ?_)⟩
                have := HS6.out
                rw [← HQ.out, ← HY0.out, ← HY1.out, ← HY2.out] at this
                rw [HN.out]
                simpa [boxB, ByteArray.data_append, List.append_assoc] using this
            · have hltz : ¬ (kk : Int) < (l2.length : Int) := by omega
              have hkk' : kk = l2.length := by omega
              have SW2 := SW.out
              rw [hkk', List.take_of_length_le (Nat.le_refl _)] at SW2 hpl
              have SX := Lib.hid SW2
              clear SW2 hkk' SW
              have hstr := build_string w.heap.size w.heap.size _ wr SX.out BW.out.size
              have HX := Lib.hid hstr
              clear hstr
              go_wp2_with (go_at_call 28; refine HX.out.mono ?_; rintro e w5 ⟨rfl, hb5⟩)
              go_ret
              exact ⟨ret_str (by simp only [List.append_assoc]), BW.out.trans hb5⟩
theorem stock_Bytes.calls (A0 : Option Addr) (c0 : Nat) (l0 : List S36) (A1 : Option Addr) (c1 : Nat) (l1 : List S38) (A2 : Option Addr) (c2 : Nat) (l2 : List S40) (r : ByteArray) (w : World) (htab : Tab w) (hr0 : Kd.C k36 w A0 l0.length l0) (hc0 : l0.length ≤ c0) (hr1 : Kd.C k38 w A1 l1.length l1) (hc1 : l1.length ≤ c1) (hr2 : Kd.C k40 w A2 l2.length l2) (hc2 : l2.length ≤ c2) (h : stock_Bytes.f l0 l1 l2 = some r) :
    Calls Tryd.prog 7 #[.slice A0 l0.length c0, .slice A1 l1.length c1, .slice A2 l2.length c2] w fun e w' => e = .returned (.string r) ∧ Below w.heap.size w w' := by
  unfold stock_Bytes.f at h
  split at h
  · rename_i hg
    obtain rfl := Option.some.inj h
    exact bytes_calls A0 c0 l0 A1 c1 l1 A2 c2 l2 w htab hr0 hr1 hr2 hg.1.1 hg.1.2.1 hg.1.2.2 (List.all_eq_true.1 hg.2.1) (List.all_eq_true.1 hg.2.2.1) (List.all_eq_true.1 hg.2.2.2)
  · cases h
end Go.Proofs.YtemcplbldfldlaaDoor.P
