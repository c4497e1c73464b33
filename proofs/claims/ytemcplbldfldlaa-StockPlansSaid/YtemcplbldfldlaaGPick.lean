/- stock.Pick: takes units from boxes, one take after the other. For at most 1000 takes and 1000000 boxes. -/
import Derived.Test.YtemcplbldfldlaaGClone
import Derived.Test.YtemcplbldfldlaaGWants
import Derived.Test.YtemcplbldfldlaaPx4
import Derived.Deep.RegionHeld3
namespace Go.Proofs.Ytemcplbldfldlaa.P
open Go.RowKit Go.Proofs.YtemcplbldfldlaaW.PrintWords Go.Proofs.YtemcplbldfldlaaW.PrintLast Go.Proofs.YtemcplbldfldlaaW.PrintMore
set_option linter.unusedVariables false
set_option linter.unusedSimpArgs false
/-! ### A row of boxes, in its cells -/
def boxCells (b : S38) : List Value := [.int .i64 b.f0, .int .i64 b.f1, .int .i64 b.f2]
def boxRow (ys : List S38) (tail : List Value) : Array Value := (ys.flatMap boxCells ++ tail).toArray
theorem fm_len (ys : List S38) : (ys.flatMap boxCells).length = ys.length * 3 := by
  induction ys with
  | nil => rfl
  | cons y r ih => simp [ih, boxCells]; omega
theorem fm_get : ∀ (ys : List S38) (i j : Nat), j < 3 → i < ys.length → (ys.flatMap boxCells)[i * 3 + j]? = (boxCells (ys.getD i z38))[j]?
  | [], i, j, _, h => by simp at h
  | y :: r, 0, j, hj, _ => by
    simp only [List.flatMap_cons, List.getD_cons_zero, Nat.zero_mul, Nat.zero_add]
    rw [List.getElem?_append_left (by simpa [boxCells] using hj)]
  | y :: r, i + 1, j, hj, h => by
    simp only [List.flatMap_cons, List.getD_cons_succ]
    rw [List.getElem?_append_right (by simp [boxCells]; omega)]
    rw [show (i + 1) * 3 + j - (boxCells y).length = i * 3 + j by simp [boxCells]; omega]
    exact fm_get r i j hj (by simpa using h)
theorem fm_set : ∀ (ys : List S38) (i : Nat) (c : Int), i < ys.length → (ys.flatMap boxCells).set (i * 3 + 1) (.int .i64 c) = (ys.set i ⟨(ys.getD i z38).f0, c, (ys.getD i z38).f2⟩).flatMap boxCells
  | [], i, c, h => by simp at h
  | y :: r, 0, c, _ => by simp [boxCells]
  | y :: r, i + 1, c, h => by
    simp only [List.flatMap_cons, List.getD_cons_succ, List.set_cons_succ]
    rw [List.set_append_right _ _ (by simp [boxCells]; omega)]
    rw [show (i + 1) * 3 + 1 - (boxCells y).length = i * 3 + 1 by simp [boxCells]; omega, fm_set r i c (by simpa using h)]
theorem brow_cell {W : World} {g : Nat} {ys : List S38} {tail : List Value} {t : Nat} (h : W.heap[g]? = some (.cells (boxRow ys tail) t (0, 0))) (i j : Nat) (hj : j < 3) (hi : i < ys.length) : W.cell? ⟨g, i * 3 + j, none⟩ = (boxCells (ys.getD i z38))[j]? := by
  have hl := fm_len ys
  rw [blk_cell h]
  simp only [boxRow, List.getElem?_toArray]
  rw [List.getElem?_append_left (by omega), fm_get ys i j hj hi]
theorem brow_free {W : World} {g : Nat} {ys : List S38} {tail : List Value} {t : Nat} (h : W.heap[g]? = some (.cells (boxRow ys tail) t (0, 0))) (j : Nat) : W.frozen? ⟨g, j, none⟩ = false := by
  simp [World.frozen?, h]
theorem brow_set {W : World} {g : Nat} {ys : List S38} {tail : List Value} {t : Nat} (h : W.heap[g]? = some (.cells (boxRow ys tail) t (0, 0))) (i : Nat) (hi : i < ys.length) (c : Int) :
    (W.setCell ⟨g, i * 3 + 1, none⟩ (.int .i64 c)).heap[g]? = some (.cells (boxRow (ys.set i ⟨(ys.getD i z38).f0, c, (ys.getD i z38).f2⟩) tail) t (0, 0)) := by
  have hl := fm_len ys
  simp only [World.setCell, Array.getElem?_modify, h, boxRow, if_true, Option.map_some, List.setIfInBounds_toArray]
  rw [List.set_append_left _ _ (by omega), fm_set ys i c hi]
  rfl
theorem reps_flat {W : World} {base : Nat} {ok : Nat → Prop} : ∀ (ys : List S38) (inner : List Value), Reps (k38.M W base ok) 3 ys inner → inner = ys.flatMap boxCells
  | [], inner, h => by
    have := h.1
    simp at this
    simpa using this
  | y :: r, inner, h => by
    have h1 := h.2 0 y rfl
    simp only [Nat.zero_mul, List.drop_zero] at h1
    have h2 := k38_openM h1
    have hl := h.1
    simp only [List.length_cons] at hl
    have h3 : Reps (k38.M W base ok) 3 r (inner.drop 3) := ⟨by rw [List.length_drop]; omega, fun j p hj => by
      have := h.2 (j + 1) p (by simpa using hj)
      rw [List.drop_drop]
      rwa [show 3 + j * 3 = (j + 1) * 3 by omega]⟩
    have h4 := reps_flat r _ h3
    rw [List.flatMap_cons, ← h4, ← List.take_append_drop 3 inner, h2]
    simp [boxCells]
theorem boxRow_of {W : World} {base : Nat} {ok : Nat → Prop} {v : Value} {ys : List S38} (h : Kd.R k38 38 W base ok v ys) :
    (v = .slice none 0 0 ∧ ys = []) ∨ ∃ g cap tail, v = .slice (some ⟨g, 0, none⟩) ys.length cap ∧ base ≤ g ∧ W.heap[g]? = some (.cells (boxRow ys tail) 38 (0, 0)) ∧ ys.length ≤ cap ∧ cap ≤ maxLen ∧ ys.length * 3 + tail.length = cap * 3 ∧ ok g := by
  obtain ⟨hok, inner, hown, hr⟩ := h
  have hin := reps_flat ys inner hr
  rcases hown.2 with ⟨hv, hx⟩ | ⟨g, cap, cur, hv, hb, hh, hnc, hcm, hcs, htk⟩
  · exact .inl ⟨hv, List.eq_nil_of_length_eq_zero hx⟩
  · have hsz : k38.sz = 3 := rfl
    rw [hsz] at hcs htk
    have hcl : cur.toList.length = cur.size := by simp
    refine .inr ⟨g, cap, cur.toList.drop (ys.length * 3), hv, hb, ?_, hnc, hcm, ?_, hok g (by rw [hv]; rfl)⟩
    · rw [hh]
      congr 2
      apply Array.ext'
      simp only [boxRow]
      rw [← hin, ← htk, List.take_append_drop]
    · rw [List.length_drop]; omega
theorem R_of_boxRow {W : World} {base : Nat} {ok : Nat → Prop} {ys : List S38} {g cap : Nat} {tail : List Value} (hh : W.heap[g]? = some (.cells (boxRow ys tail) 38 (0, 0))) (hb : base ≤ g) (hc : cap ≤ maxLen) (ht : ys.length * 3 + tail.length = cap * 3) (hok : ok g) :
    Kd.R k38 38 W base ok (.slice (some ⟨g, 0, none⟩) ys.length cap) ys := by
  have hl := fm_len ys
  refine ⟨fun k hk => ?_, ys.flatMap boxCells, ⟨hl, .inr ⟨g, cap, _, rfl, hb, hh, by omega, hc, ?_, ?_⟩⟩, ⟨hl, fun j p hj => ?_⟩⟩
  · have : g = k := by simpa [Value.ownBlock] using hk
    exact this ▸ hok
  · show (boxRow ys tail).size = cap * 3
    simp [boxRow, hl, ht]
  · show (boxRow ys tail).toList.take (ys.length * 3) = _
    simp only [boxRow]
    rw [← hl, List.take_left']
    rfl
  · have hjl : j < ys.length := (List.getElem?_eq_some_iff.1 hj).1
    have e : ((ys.flatMap boxCells).drop (j * 3)).take 3 = boxCells p := by
      apply List.ext_getElem?
      intro q
      rw [List.getElem?_take, List.getElem?_drop]
      by_cases hq : q < 3
      · rw [if_pos hq, fm_get ys j q hq hjl]
        rw [List.getD_eq_getElem?_getD, hj]
        rfl
      · rw [if_neg hq, List.getElem?_eq_none (by simp [boxCells]; omega)]
    show k38.M _ _ _ _ (((ys.flatMap boxCells).drop (j * 3)).take 3)
    rw [e]
    exact k38_mkM _ _ _ _
/-! ### The model -/
def badBox (n : Nat) (t : S36) : Bool := !decide (0 ≤ t.f0 ∧ t.f0 ≤ wrap64 ((n : Int) - 1))
def badN (t : S36) : Bool := decide (t.f1 < 1)
def pickL : List S38 → List S36 → Option (List S38)
  | b, [] => some b
  | b, t :: r => if t.f1 > (b.getD t.f0.toNat z38).f1 then none else pickL (b.set t.f0.toNat ⟨(b.getD t.f0.toNat z38).f0, wrap64 ((b.getD t.f0.toNat z38).f1 - t.f1), (b.getD t.f0.toNat z38).f2⟩) r
def stock_Pick.f (l0 : List S38) (l1 : List S36) : Option (List S38 × Int) :=
  if l0.length ≤ 1000000 ∧ l1.length ≤ 1000 then
    if l1.any (badBox l0.length) then some ([], 4) else if l1.any badN then some ([], 1) else match pickL l0 l1 with
      | none => some ([], 22)
      | some b => some (b, 0)
  else none
/-! ### The tests -/
set_option maxHeartbeats 1000000 in
theorem pickTest1 (p : Nat) (A0 : Option Addr) (n c0 : Nat) (W : World) (x : S36) (hp : W.cell? ⟨p, 0, none⟩ = some (.slice A0 n c0)) (hlt : p < W.heap.size) : Calls Try.prog 32 #[.agg #[.int .i64 x.f0, .int .i64 x.f1], .pointer (some ⟨p, 0, none⟩)] W fun e w' => e = .returned (.bool (badBox n x)) ∧ Below W.heap.size W w' := by
  have HR := Lib.hid (show stock_between.f x.f0 0 (wrap64 ((n : Int) - 1)) = some (!badBox n x) by
    unfold stock_between.f badBox
    by_cases h : x.f0 ≥ 0
    · rw [if_pos h]; simp [show (0 : Int) ≤ x.f0 from h]
    · rw [if_neg h]; simp [show ¬ (0 : Int) ≤ x.f0 from h])
  generalize badBox n x = b at HR ⊢
  have hne : ¬ p = W.heap.size := by omega
  go_enter Try.func32, Try.ntmps32
  go_wp2_with (go_at_call 33; refine (stock_between.calls _ _ _ _ _ HR.out).mono ?_; rintro e w1 ⟨rfl, hB⟩; have HB := Lib.hid hB.below; clear hB)
  go_ret
  exact ⟨by simp, below_then (below_alloc (Below.refl _ _) _) (by simp) HB.out⟩
set_option maxHeartbeats 1000000 in
theorem pickTest2 (W : World) (x : S36) : Calls Try.prog 34 #[.agg #[.int .i64 x.f0, .int .i64 x.f1]] W fun e w' => e = .returned (.bool (badN x)) ∧ Below W.heap.size W w' := by
  unfold badN
  go_enter Try.func34, Try.ntmps34
  go_wp2
  go_ret
  exact ⟨by simp, below_alloc (Below.refl _ _) _⟩
set_option maxHeartbeats 2000000 in
/-- slices.IndexFunc of takes, with a test that lays nothing but blocks of its own. -/
theorem takeIndex (g : Nat) (lb : Array Value) (p : S36 → Bool) (eg : ∀ args w, (callFunc g args).run Try.prog w = .ok (.enter g args) w) (A0 : Option Addr) (c0 : Nat) (l0 : List S36) (w : World)
    (hp : ∀ (W : World) (x : S36), Below w.heap.size w W → Calls Try.prog g (#[.agg #[.int .i64 x.f0, .int .i64 x.f1]] ++ lb) W fun e w' => e = .returned (.bool (p x)) ∧ Below w.heap.size w w')
    (hr0 : Kd.C k36 w A0 l0.length l0) (hlen : l0.length ≤ 1000000) :
    Calls Try.prog 45 #[.slice A0 l0.length c0, .func (.func g) #[] lb] w fun e w' => e = .returned (.int .i64 (idxOf p 0 l0)) ∧ Below w.heap.size w w' := by
  have HR := Lib.hid hr0
  have HP := Lib.hid hp
  clear hr0 hp
  go_enter Try.func45, Try.ntmps45
  go_wp2
  go_loopg [5, 8] l0.length (fun gg _ s8 wr => ∃ kk : Nat, kk ≤ l0.length ∧ l0.length - kk ≤ gg ∧ s8 = .int .i64 kk ∧ Aside (Below w.heap.size w wr) ∧ Aside (∀ j, j < kk → p (l0.getD j z36) = false))
  case atStart => exact ⟨0, Nat.zero_le _, by omega, rfl, Below.refl _ w, fun j hj => absurd hj (Nat.not_lt_zero _)⟩
  case round =>
    obtain ⟨kk, hkk, hg, rfl, BW, AA⟩ := hrel
    by_cases hlt : kk < l0.length
    · have hltz : (kk : Int) < (l0.length : Int) := by omega
      have hc := HP.out wr (l0.getD kk z36) BW.out
      obtain ⟨ad, rfl, l2a, l2b⟩ := at_T36 (Kd.C_below HR.out BW.out) (kk : Int) (by omega) hltz
      simp only [rd_T36, Int.toNat_natCast] at l2a l2b
      generalize hy : l0.getD kk z36 = y at l2a l2b hc
      have B := Lib.hid hy
      clear hy
      cases hq : p y with
      | true =>
        rw [hq] at hc
        go_wp2_with (refine hc.mono ?_; rintro e w' ⟨rfl, hb'⟩)
        go_ret
        refine ⟨?_, hb'⟩
        rw [idxOf_hit p z36 0 kk l0 hlt AA.out (by rw [B.out]; exact hq)]
        simp
      | false =>
        rw [hq] at hc
        go_wp2_with (refine hc.mono ?_; rintro e w' ⟨rfl, hb'⟩)
        go_roundg (l0.length - (kk + 1))
        case measure => omega
        case rel =>
          refine ⟨kk + 1, by omega, by omega, by go_num, hb', (show Aside _ from fun j hj => ?_)⟩
          by_cases e : j = kk
          · subst e
            rw [B.out]; exact hq
          · exact AA.out j (by omega)
    · have hltz : ¬ (kk : Int) < (l0.length : Int) := by omega
      have hkk' : kk = l0.length := by omega
      go_wp2
      go_ret
      refine ⟨?_, BW.out⟩
      rw [idxOf_miss p z36 0 l0 (hkk' ▸ AA.out)]
      rfl

set_option maxHeartbeats 1000000 in
theorem takeContains (g : Nat) (lb : Array Value) (p : S36 → Bool) (eg : ∀ args w, (callFunc g args).run Try.prog w = .ok (.enter g args) w) (A0 : Option Addr) (c0 : Nat) (l0 : List S36) (w : World)
    (hp : ∀ (W : World) (x : S36), Below w.heap.size w W → Calls Try.prog g (#[.agg #[.int .i64 x.f0, .int .i64 x.f1]] ++ lb) W fun e w' => e = .returned (.bool (p x)) ∧ Below w.heap.size w w')
    (hr0 : Kd.C k36 w A0 l0.length l0) (hlen : l0.length ≤ 1000000) :
    Calls Try.prog 31 #[.slice A0 l0.length c0, .func (.func g) #[] lb] w fun e w' => e = .returned (.bool (l0.any p)) ∧ Below w.heap.size w w' := by
  have hc := takeIndex g lb p eg A0 c0 l0 w hp hr0 hlen
  rw [← idxOf_any p 0 l0]
  generalize idxOf p 0 l0 = n at hc ⊢
  clear hp hr0
  go_enter Try.func31, Try.ntmps31
  go_wp2_with (go_at_call 45; refine hc.mono ?_; rintro e w' ⟨rfl, hb'⟩)
  go_ret
  exact ⟨by simp, hb'⟩
set_option maxHeartbeats 2000000 in
set_option maxRecDepth 100000 in
theorem stock_Pick.calls (A0 : Option Addr) (c0 : Nat) (l0 : List S38) (A1 : Option Addr) (c1 : Nat) (l1 : List S36) (r1 : List S38) (r2 : Int) (w : World) (hr0 : Kd.C k38 w A0 l0.length l0) (hc0 : l0.length ≤ c0) (hr1 : Kd.C k36 w A1 l1.length l1) (hc1 : l1.length ≤ c1) (h : stock_Pick.f l0 l1 = some (r1, r2)) :
    Calls Try.prog 13 #[.slice A0 l0.length c0, .slice A1 l1.length c1] w fun e w' => ∃ v0_ : Value, e = .returned (.tuple #[v0_, .int .i64 r2]) ∧ Kd.R k38 38 w' w.heap.size (fun _ => True) v0_ r1 ∧ Below w.heap.size w w' := by
  unfold stock_Pick.f at h
  by_cases hg : l0.length ≤ 1000000 ∧ l1.length ≤ 1000
  case neg => rw [if_neg hg] at h; cases h
  rw [if_pos hg] at h
  obtain ⟨h0, h1⟩ := hg
  have HR0 := Lib.hid hr0
  have HR1 := Lib.hid hr1
  have HC0 := Lib.hid hc0
  clear hr0 hr1 hc0 hc1
  have hmf : ∀ (fn : Fn) (first cap : Array Value) (w : World), (Instr.makeFunc fn first cap).run Try.prog w = .ok (.func fn first cap) w := fun _ _ _ _ => rfl
  obtain ⟨w0, hw0⟩ : ∃ w0, w0 = w.alloc (.cells #[.slice A0 l0.length c0] 24) := ⟨_, rfl⟩
  have HW0 := Lib.hid hw0
  have HB0 := Lib.hid (show Below w.heap.size w w0 from hw0 ▸ below_alloc (Below.refl _ _) _)
  have HS0 := Lib.hid (show w0.heap.size = w.heap.size + 1 by rw [hw0]; simp)
  have HX0 := Lib.hid (show w0.heap[w.heap.size]? = some (.cells #[.slice A0 l0.length c0] 24 (0, 0)) from hw0 ▸ heap_alloc_new w _)
  have hc1 := takeContains 32 #[.pointer (some ⟨w.heap.size, 0, none⟩)] (badBox l0.length) (fun args w => Go.Proofs.enters_of Try.func32 (by kernel_rfl) rfl args w) A1 c1 l1 w0 (fun W x hb => (pickTest1 w.heap.size A0 l0.length c0 W x (blk_cell ((hb.block _ (by rw [HS0.out]; omega)).trans HX0.out) 0) (by have := hb.size; rw [HS0.out] at this; omega)).mono fun e w' ⟨he, hb'⟩ => ⟨he, below_then hb hb.size hb'⟩) (Kd.C_below HR1.out HB0.out) (by omega)
  rw [hw0] at hc1
  have HC1 := Lib.hid hc1
  clear hc1 hw0
  cases hb1 : l1.any (badBox l0.length) with
  | true =>
    rw [hb1] at h HC1
    rw [if_pos rfl] at h
    obtain ⟨rfl, rfl⟩ : [] = r1 ∧ 4 = r2 := by simpa using h
    go_enter Try.func13, Try.ntmps13
    go_wp2_with (go_at_call 31; refine HC1.out.mono ?_; rintro e w1 ⟨rfl, hb⟩; have HB1 := Lib.hid hb; clear hb)
    go_ret2
    exact ⟨_, rfl, Kd.R_nil _ _ _ _ _, below_then (below_alloc (Below.refl _ _) _) (by simp) HB1.out⟩
  | false =>
    rw [hb1] at h HC1
    rw [if_neg (by simp)] at h
    have CALL2 := fun w1 hb => takeContains 34 #[] badN (fun args w => Go.Proofs.enters_of Try.func34 (by kernel_rfl) rfl args w) A1 c1 l1 w1 (fun W x hb => (pickTest2 W x).mono fun e w' ⟨he, hb'⟩ => ⟨he, below_then hb hb.size hb'⟩) (Kd.C_below HR1.out (show Below w.heap.size w w1 from hb)) (by omega)
    cases hb2 : l1.any badN with
    | true =>
      rw [hb2] at h CALL2
      rw [if_pos rfl] at h
      obtain ⟨rfl, rfl⟩ : [] = r1 ∧ 1 = r2 := by simpa using h
      go_enter Try.func13, Try.ntmps13
      go_wp2_with (first
        | (go_at_call 31; with_reducible refine HC1.out.mono ?_; rintro e w1 ⟨rfl, hb⟩; have HB1 := Lib.hid (below_then (below_alloc (Below.refl w.heap.size w) _) (by simp) hb); clear hb)
        | (go_at_call 31; with_reducible refine (CALL2 w1 HB1.out).mono ?_; rintro e w2 ⟨rfl, hb⟩; have HB2 := Lib.hid (below_then HB1.out HB1.out.size hb); clear hb))
      go_ret2
      exact ⟨_, rfl, Kd.R_nil _ _ _ _ _, HB2.out⟩
    | false =>
      rw [hb2] at h CALL2
      rw [if_neg (by simp)] at h
      have HB1A := Lib.hid hb1
      have HB2A := Lib.hid hb2
      have HH := Lib.hid h
      clear h hb1 hb2
      go_enter Try.func13, Try.ntmps13
      go_wp2_with (first
        | (go_at_call 31; with_reducible refine HC1.out.mono ?_; rintro e w1 ⟨rfl, hb⟩; have HB1 := Lib.hid (below_then (below_alloc (Below.refl w.heap.size w) _) (by simp) hb); have HX1 := Lib.hid ((hb.block w.heap.size (by simp)).trans (heap_alloc_new w _)); clear hb)
        | (go_at_call 31; with_reducible refine (CALL2 w1 HB1.out).mono ?_; rintro e w2 ⟨rfl, hb⟩; have HB2 := Lib.hid (below_then HB1.out HB1.out.size hb); have hx2 := blk_cell ((hb.block w.heap.size (blk_lt HX1.out)).trans HX1.out) 0; have hz2 : w2.cell? ⟨w.heap.size, 0, none⟩ = some (.slice A0 l0.length c0) := hx2.trans rfl; clear hb hx2)
        | (go_at_call 35; refine (api_Box.calls A0 c0 l0 l0 _ (Kd.C_below HR0.out HB2.out) HC0.out (by unfold api_Box.f; rw [if_pos h0])).mono ?_; rintro e w3 ⟨v, rfl, ho, hb⟩; have HO3 := Lib.hid (Kd.R_lower ho HB2.out.size); have HB3 := Lib.hid (below_then HB2.out HB2.out.size hb); clear ho hb))
      clear hz2
      go_loopg [18] l1.length (fun gg s18 wr => ∃ (m : Nat) (ys : List S38), m ≤ l1.length ∧ l1.length - m ≤ gg ∧ s18 = .int .i64 m ∧ Aside (Kd.R k38 38 wr w.heap.size (fun _ => True) v ys) ∧ Aside (Below w.heap.size w wr) ∧ Aside (pickL l0 l1 = pickL ys (l1.drop m)) ∧ Aside (ys.length = l0.length))
      case atStart => exact ⟨0, l0, Nat.zero_le _, by omega, rfl, HO3.out, HB3.out, rfl, rfl⟩
      case round =>
        obtain ⟨m, ys, hm, hgm, rfl, RO, BW, PL, YL⟩ := hrel
        by_cases hlt : m < l1.length
        · have hltz : (m : Int) < (l1.length : Int) := by omega
          obtain ⟨ad, e1, la, lb⟩ := at_T36 (Kd.C_below HR1.out BW.out) (m : Int) (by omega) hltz
          subst e1
          have hb1' : badBox l0.length (l1.getD m z36) = false := by
            have := HB1A.out
            rw [List.any_eq_false] at this
            have h2 := this (l1.getD m z36) (by rw [List.getD_eq_getElem?_getD, List.getElem?_eq_getElem hlt]; exact List.getElem_mem hlt)
            simpa using h2
          have hstep : l1.drop m = l1.getD m z36 :: l1.drop (m + 1) := by
            rw [List.drop_eq_getElem_cons hlt]
            simp [List.getD_eq_getElem?_getD, hlt]
          have hpl := PL.out
          rw [hstep, pickL] at hpl
          simp only [rd_T36, Int.toNat_natCast] at la lb
          generalize l1.getD m z36 = y at la lb hb1' hpl hstep
          simp only [badBox, Bool.not_eq_false', decide_eq_true_eq] at hb1'
          obtain ⟨i, hi⟩ : ∃ i : Nat, y.f0 = (i : Int) := ⟨y.f0.toNat, by omega⟩
          have hil : i < ys.length := by
            have h3 := hb1'.2
            rw [YL.out]
            unfold wrap64 at h3
            omega
          rcases boxRow_of RO.out with ⟨_, hnil⟩ | ⟨g, cap, tail, rfl, hbg, hrow, hnc, hcm, htl, _⟩
          · rw [hnil] at hil; simp at hil
          have hcell := brow_cell hrow i 1 (by omega) hil
          have hcell' : wr.cell? ⟨g, i * 3 + 1, none⟩ = some (.int .i64 (ys.getD i z38).f1) := hcell
          rw [hi] at la hpl
          simp only [Int.toNat_natCast] at hpl
          generalize hq : (ys.getD i z38).f1 = q at hcell' hpl
          have HQ := Lib.hid hq
          have HI := Lib.hid hi
          have HPL := Lib.hid hpl
          have HIL := Lib.hid hil
          have HSZ := Lib.hid (show g < wr.heap.size from blk_lt hrow)
          have HROW := Lib.hid hrow
          have HFR := fun j => brow_free hrow j
          have i1 : (i : Int) < (ys.length : Int) := by omega
          have i2 : (0 : Int) ≤ (i : Int) := by omega
          have HTL := Lib.hid (show w.heap.size ≤ g ∧ cap ≤ maxLen ∧ ys.length * 3 + tail.length = cap * 3 from ⟨hbg, hcm, htl⟩)
          clear hq hpl hcell hb1' hi hrow hstep hbg hcm htl hnc hil
          by_cases hgt : y.f1 > q
          · have hh := HH.out
            rw [HPL.out, if_pos hgt] at hh
            obtain ⟨rfl, rfl⟩ : [] = r1 ∧ 22 = r2 := by simpa using hh
            clear hh HH
            go_wp2_with (first
              | ((with_reducible refine gate_dst (N := 8) rfl ?_); refine box_event ?hg (N := 8) ?hd (cs := #[.int .i64 0, .int .i64 0]) (t := 36) ?hr ?_; (case hd => rfl); (case hg => rfl); (case hr => first | (go_simp; done) | (go_simp; rfl)); intro gb hg w8 hbox hb; have HB8 := Lib.hid hb; have GE := Lib.hid (show wr.heap.size ≤ gb by omega); have hcz0 : w8.cell? ⟨gb, 0, none⟩ = some (.int .i64 0) := (blk_cell hbox 0).trans rfl; have hcz1 : w8.cell? ⟨gb, 1, none⟩ = some (.int .i64 0) := (blk_cell hbox 1).trans rfl; have hfz0 := blk_frozen hbox 0; have hfz1 := blk_frozen hbox 1; clear hb hbox hg; have hrow8 := (HB8.out.block g HSZ.out).trans HROW.out; have HROW8 := Lib.hid hrow8; have hne : ¬ g = gb := by { have := HSZ.out; have := GE.out; omega }; have hcell8 : w8.cell? ⟨g, i * 3 + 1, none⟩ = some (.int .i64 q) := (HB8.out.cell (p := ⟨g, i * 3 + 1, none⟩) HSZ.out).trans hcell'; have hfr8 := brow_free hrow8 (i * 3 + 1); clear hrow8))
            go_quiet (fail)
            go_wp2
            go_ret2
            exact ⟨_, rfl, Kd.R_nil _ _ _ _ _, below_then BW.out BW.out.size (by repeat (first | exact ((HB8.out.setCell (p := ⟨gb, 0, none⟩) GE.out (.int .i64 (i : Int))).setCell (p := ⟨gb, 1, none⟩) GE.out (.int .i64 y.f1)) | apply pw_below_drewN))⟩
          · go_wp2_with (first
              | ((with_reducible refine gate_dst (N := 8) rfl ?_); refine box_event ?hg (N := 8) ?hd (cs := #[.int .i64 0, .int .i64 0]) (t := 36) ?hr ?_; (case hd => rfl); (case hg => rfl); (case hr => first | (go_simp; done) | (go_simp; rfl)); intro gb hg w8 hbox hb; have HB8 := Lib.hid hb; have GE := Lib.hid (show wr.heap.size ≤ gb by omega); have hcz0 : w8.cell? ⟨gb, 0, none⟩ = some (.int .i64 0) := (blk_cell hbox 0).trans rfl; have hcz1 : w8.cell? ⟨gb, 1, none⟩ = some (.int .i64 0) := (blk_cell hbox 1).trans rfl; have hfz0 := blk_frozen hbox 0; have hfz1 := blk_frozen hbox 1; clear hb hbox hg; have hrow8 := (HB8.out.block g HSZ.out).trans HROW.out; have HROW8 := Lib.hid hrow8; have hne : ¬ g = gb := by { have := HSZ.out; have := GE.out; omega }; have hcell8 : w8.cell? ⟨g, i * 3 + 1, none⟩ = some (.int .i64 q) := (HB8.out.cell (p := ⟨g, i * 3 + 1, none⟩) HSZ.out).trans hcell'; have hfr8 := brow_free hrow8 (i * 3 + 1); clear hrow8))
            go_quiet (fail)
            go_wp2
            go_region
            go_wp2
            go_roundg (l1.length - (m + 1))
            case measure => omega
            case rel =>
              refine ⟨m + 1, ys.set i ⟨(ys.getD i z38).f0, wrap64 (q - y.f1), (ys.getD i z38).f2⟩, by omega, Nat.le_refl _, by go_num, ?_, ?_, ?_, ?_⟩
              · have h1 := R_of_boxRow (base := w.heap.size) (cap := cap) (ok := fun _ => True) (brow_set (W := (((w8.setCell ⟨gb, 0, none⟩ (.int .i64 (i : Int))).setCell ⟨gb, 1, none⟩ (.int .i64 y.f1)).drewN (nq + 1))) (blk_drewN (blk_far (blk_far HROW8.out hne _) hne _) _) i HIL.out (wrap64 (q - y.f1))) HTL.out.1 HTL.out.2.1 (by rw [List.length_set]; exact HTL.out.2.2) trivial
                rw [List.length_set] at h1
                exact h1
              · exact Below.setCell (below_then BW.out BW.out.size (by repeat (first | exact ((HB8.out.setCell (p := ⟨gb, 0, none⟩) GE.out (.int .i64 (i : Int))).setCell (p := ⟨gb, 1, none⟩) GE.out (.int .i64 y.f1)) | apply pw_below_drewN))) HTL.out.1 _
              · exact HPL.out.trans (if_neg (by omega))
              · rw [List.length_set]; exact YL.out
        · have hltz : ¬ (m : Int) < (l1.length : Int) := by omega
          obtain rfl : m = l1.length := by omega
          have hpl := PL.out
          rw [List.drop_length] at hpl
          have hh := HH.out
          rw [hpl] at hh
          obtain ⟨rfl, rfl⟩ : ys = r1 ∧ 0 = r2 := by simpa [pickL] using hh
          clear hh hpl
          have HRO := Lib.hid RO.out
          have HBW := Lib.hid BW.out
          clear RO BW PL YL
          go_wp2
          go_ret2
          exact ⟨_, rfl, HRO.out, HBW.out⟩
end Go.Proofs.Ytemcplbldfldlaa.P
