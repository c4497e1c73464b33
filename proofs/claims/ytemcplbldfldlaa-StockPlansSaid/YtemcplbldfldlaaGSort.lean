/- slices.SortStableFunc of at most 20 ints: insertion sort, by a test that compares keys. -/
import Derived.Test.YtemcplbldfldlaaGShort
import Derived.Lib.Hide
import Derived.BigRegion
import Derived.BigQuiet
import Derived.Shelf.Abstract
import Derived.Deep.RegionHeld3
import Derived.Deep.DeepCutAuto
import Derived.LoopN
namespace Go.Proofs.Ytemcplbldfldlaa.P
open Go.RowKit Go.Proofs.YtemcplbldfldlaaW.PrintWords Go.Proofs.YtemcplbldfldlaaW.PrintLast Go.Proofs.YtemcplbldfldlaaW.PrintMore
set_option linter.unusedVariables false
set_option linter.unusedSimpArgs false
/-- A row of ints, and what lies behind it in its block. -/
def intRow (xs : List Int) (tail : List Value) : Array Value := (xs.map (Value.int .i64) ++ tail).toArray
theorem irow_cell {W : World} {g : Nat} {xs : List Int} {tail : List Value} {t : Nat} (h : W.heap[g]? = some (.cells (intRow xs tail) t (0, 0))) (j : Nat) (hj : j < xs.length) : W.cell? ⟨g, j, none⟩ = some (.int .i64 (xs.getD j 0)) := by
  simp [World.cell?, h, intRow, hj, List.getElem?_append]
theorem irow_free {W : World} {g : Nat} {xs : List Int} {tail : List Value} {t : Nat} (h : W.heap[g]? = some (.cells (intRow xs tail) t (0, 0))) (j : Nat) : W.frozen? ⟨g, j, none⟩ = false := by
  simp [World.frozen?, h]
theorem irow_set {W : World} {g : Nat} {xs : List Int} {tail : List Value} {t : Nat} (h : W.heap[g]? = some (.cells (intRow xs tail) t (0, 0))) (j : Nat) (hj : j < xs.length) (v : Int) :
    (W.setCell ⟨g, j, none⟩ (.int .i64 v)).heap[g]? = some (.cells (intRow (xs.set j v) tail) t (0, 0)) := by
  simp [World.setCell, Array.getElem?_modify, h, intRow, List.map_set, List.set_append, hj]
/-- The last elements first: where x goes. -/
def insR (key : Int → Int) (x : Int) : List Int → List Int
  | [] => [x]
  | y :: r => if key x < key y then y :: insR key x r else x :: y :: r
/-- What the insertion sort makes. -/
def isort (key : Int → Int) (xs : List Int) : List Int := (xs.foldl (fun p x => insR key x p) []).reverse
theorem insR_len (key : Int → Int) (x : Int) : ∀ p, (insR key x p).length = p.length + 1
  | [] => rfl
  | y :: r => by unfold insR; split <;> simp [insR_len key x r]
theorem insR_mem (key : Int → Int) (x z : Int) : ∀ p, z ∈ insR key x p ↔ z = x ∨ z ∈ p
  | [] => by simp [insR]
  | y :: r => by
    unfold insR; split
    · simp only [List.mem_cons, insR_mem key x z r]
      constructor
      · rintro (h | h | h) <;> simp [h]
      · rintro (h | h | h) <;> simp [h]
    · simp
theorem vi {k : IntKind} {a b : Int} (h : a = b) : Value.int k a = Value.int k b := h ▸ rfl
def cmpI (a b : Int) : Int := if a < b then -1 else if a > b then 1 else 0
theorem cmpI_neg (a b : Int) : cmpI a b < 0 ↔ a < b := by
  unfold cmpI
  by_cases h : a < b
  · rw [if_pos h]; simp [h]
  · rw [if_neg h]
    by_cases h2 : a > b
    · rw [if_pos h2]; simp [h]
    · rw [if_neg h2]; simp [h]
/-- The first m, sorted, the last ones first. -/
def pre (key : Int → Int) (xs : List Int) (m : Nat) : List Int := (xs.take m).foldl (fun p x => insR key x p) []
theorem pre_succ (key : Int → Int) (xs : List Int) (m : Nat) (h : m < xs.length) : pre key xs (m + 1) = insR key (xs.getD m 0) (pre key xs m) := by
  unfold pre
  rw [List.take_succ_eq_append_getElem h, List.foldl_append]
  simp [List.getD_eq_getElem?_getD, h]
theorem foldIns_len (key : Int → Int) : ∀ (l p : List Int), (l.foldl (fun p x => insR key x p) p).length = l.length + p.length
  | [], p => by simp
  | x :: l, p => by rw [List.foldl_cons, foldIns_len key l, insR_len, List.length_cons]; omega
theorem pre_len (key : Int → Int) (xs : List Int) (m : Nat) (h : m ≤ xs.length) : (pre key xs m).length = m := by
  unfold pre; rw [foldIns_len, List.length_take]; simp; omega
theorem foldIns_mem (key : Int → Int) (z : Int) : ∀ (l p : List Int), z ∈ l.foldl (fun p x => insR key x p) p ↔ z ∈ l ∨ z ∈ p
  | [], p => by simp
  | x :: l, p => by
    rw [List.foldl_cons, foldIns_mem key z l, insR_mem]
    simp only [List.mem_cons]
    constructor
    · rintro (h | h | h) <;> simp [h]
    · rintro ((h | h) | h) <;> simp [h]
theorem pre_all (key : Int → Int) (xs : List Int) (m : Nat) (h : xs.length ≤ m) : (pre key xs m).reverse = isort key xs := by
  unfold pre isort; rw [List.take_of_length_le h]
theorem pre_one (key : Int → Int) (xs : List Int) : (pre key xs 1).reverse ++ xs.drop 1 = xs := by
  cases xs with
  | nil => rfl
  | cons x l => simp [pre, insR]
/-- The row while x sinks: p2 lies before it, qs (turned) behind it. -/
def sinkRow (p2 qs : List Int) (x : Int) (rest : List Int) : List Int := p2.reverse ++ x :: (qs.reverse ++ rest)
theorem sink_end (key : Int → Int) (p2 qs : List Int) (x : Int) (rest p : List Int) (h : p = qs ++ x :: p2) : sinkRow p2 qs x rest = p.reverse ++ rest := by
  subst h; simp [sinkRow]
theorem sink_len (p2 qs : List Int) (x : Int) (rest : List Int) : (sinkRow p2 qs x rest).length = p2.length + 1 + qs.length + rest.length := by simp [sinkRow]; omega
theorem sink_x (y : Int) (p3 qs : List Int) (x : Int) (rest : List Int) : (sinkRow (y :: p3) qs x rest).getD (p3.length + 1) 0 = x := by
  simp [sinkRow, List.getD_eq_getElem?_getD, List.getElem?_append]
theorem sink_y (y : Int) (p3 qs : List Int) (x : Int) (rest : List Int) : (sinkRow (y :: p3) qs x rest).getD p3.length 0 = y := by
  simp [sinkRow, List.getD_eq_getElem?_getD, List.getElem?_append]
theorem sink_swap (y : Int) (p3 qs : List Int) (x : Int) (rest : List Int) : ((sinkRow (y :: p3) qs x rest).set (p3.length + 1) y).set p3.length x = sinkRow p3 (qs ++ [y]) x rest := by
  have h1 : sinkRow (y :: p3) qs x rest = p3.reverse ++ (y :: x :: (qs.reverse ++ rest)) := by simp [sinkRow]
  rw [h1, List.set_append_right _ _ (by simp), List.set_append_right _ _ (by simp)]
  simp [sinkRow]
/-- Where the inner loop stands. -/
structure Sink (key : Int → Int) (xs : List Int) (tail : List Value) (b base m : Nat) (w : World) (p2 qs : List Int) (W : World) : Prop where
  row : W.heap[b]? = some (.cells (intRow (sinkRow p2 qs (xs.getD m 0) (xs.drop (m + 1))) tail) 3 (0, 0))
  below : Below base w W
  so : insR key (xs.getD m 0) (pre key xs m) = qs ++ insR key (xs.getD m 0) p2
  len : p2.length + qs.length = m
theorem Sink.mem {key : Int → Int} {xs : List Int} {tail : List Value} {b base m : Nat} {w : World} {p2 qs : List Int} {W : World} (h : Sink key xs tail b base m w p2 qs W) (hm : m < xs.length) (y : Int) (p3 : List Int) (e : p2 = y :: p3) : y ∈ xs ∧ xs.getD m 0 ∈ xs := by
  have hx : xs.getD m 0 ∈ xs := by
    rw [List.getD_eq_getElem?_getD, List.getElem?_eq_getElem hm]
    exact List.getElem_mem hm
  refine ⟨?_, hx⟩
  have h1 : y ∈ insR key (xs.getD m 0) (pre key xs m) := by
    rw [h.so, e]
    exact List.mem_append.2 (.inr ((insR_mem _ _ _ _).2 (.inr (by simp))))
  rcases (insR_mem _ _ _ _).1 h1 with h2 | h2
  · rw [h2]; exact hx
  · rcases (foldIns_mem key y (xs.take m) []).1 h2 with h3 | h3
    · exact List.mem_of_mem_take h3
    · cases h3
theorem Sink.start {key : Int → Int} {xs : List Int} {tail : List Value} {b base m : Nat} {w W : World} (hm : m < xs.length) (hr : W.heap[b]? = some (.cells (intRow ((pre key xs m).reverse ++ xs.drop m) tail) 3 (0, 0))) (hb : Below base w W) : Sink key xs tail b base m w (pre key xs m) [] W where
  row := by
    have : (pre key xs m).reverse ++ xs.drop m = sinkRow (pre key xs m) [] (xs.getD m 0) (xs.drop (m + 1)) := by
      rw [List.drop_eq_getElem_cons hm]
      simp [sinkRow, List.getD_eq_getElem?_getD, hm]
    rw [← this]; exact hr
  below := hb
  so := rfl
  len := by rw [pre_len _ _ _ (by omega)]; simp
theorem Sink.stop {key : Int → Int} {xs : List Int} {tail : List Value} {b base m : Nat} {w W : World} {p2 qs : List Int} (h : Sink key xs tail b base m w p2 qs W) (hm : m < xs.length) (hs : insR key (xs.getD m 0) p2 = xs.getD m 0 :: p2) :
    W.heap[b]? = some (.cells (intRow ((pre key xs (m + 1)).reverse ++ xs.drop (m + 1)) tail) 3 (0, 0)) := by
  have h1 := h.row
  rwa [sink_end key p2 qs (xs.getD m 0) (xs.drop (m + 1)) (pre key xs (m + 1)) (by rw [pre_succ _ _ _ hm, h.so, hs])] at h1
theorem Sink.swap {key : Int → Int} {xs : List Int} {tail : List Value} {b base m : Nat} {w W : World} {y : Int} {p3 qs : List Int} (h : Sink key xs tail b base m w (y :: p3) qs W) (hb : base ≤ b) (hlt : key (xs.getD m 0) < key y) (n : Nat) :
    Sink key xs tail b base m w p3 (qs ++ [y]) (((W.drewN n).setCell ⟨b, p3.length + 1, none⟩ (.int .i64 y)).setCell ⟨b, p3.length, none⟩ (.int .i64 (xs.getD m 0))) where
  row := by
    rw [← sink_swap]
    have hl := sink_len (y :: p3) qs (xs.getD m 0) (xs.drop (m + 1))
    simp only [List.length_cons] at hl
    refine irow_set (irow_set (blk_drewN h.row n) _ (by omega) _) _ ?_ _
    rw [List.length_set]; omega
  below := ((pw_below_drewN h.below n).setCell (p := ⟨b, p3.length + 1, none⟩) hb _).setCell (p := ⟨b, p3.length, none⟩) hb _
  so := by rw [h.so, insR, if_pos hlt, List.append_assoc]; rfl
  len := by have := h.len; simp only [List.length_cons, List.length_append, List.length_nil] at this ⊢; omega
set_option maxHeartbeats 4000000 in
set_option maxRecDepth 100000 in
theorem insertionSort_calls (g : Nat) (lb : Array Value) (key : Int → Int) (eg : ∀ args w, (callFunc g args).run Try.prog w = .ok (.enter g args) w) (b cap base : Nat) (xs : List Int) (tail : List Value) (w : World)
    (hb : base ≤ b) (hlen : xs.length ≤ 1000) (hbase : base ≤ w.heap.size) (hrow : w.heap[b]? = some (.cells (intRow xs tail) 3 (0, 0)))
    (hp : ∀ (W : World) (i j : Int), Below base w W → i ∈ xs → j ∈ xs → Calls Try.prog g (#[.int .i64 i, .int .i64 j] ++ lb) W fun e w' => e = .returned (.int .i64 (cmpI (key i) (key j))) ∧ ∃ q, w' = W.drewN q) :
    Calls Try.prog 48 #[.slice (some ⟨b, 0, none⟩) xs.length cap, .int .i64 0, .int .i64 xs.length, .func (.func g) #[] lb] w fun e w' => e = .returned (.tuple #[]) ∧ w'.heap[b]? = some (.cells (intRow (isort key xs) tail) 3 (0, 0)) ∧ Below base w w' := by
  have HP := Lib.hid hp
  have HR0 := Lib.hid hrow
  clear hp hrow
  go_enter Try.func48, Try.ntmps48
  go_wp2
  go_loopg [8, 9] xs.length (fun gg s8 _ wr => ∃ m : Nat, 1 ≤ m ∧ m ≤ xs.length + 1 ∧ xs.length - m ≤ gg ∧ s8 = .int .i64 m ∧ Aside (wr.heap[b]? = some (.cells (intRow ((pre key xs m).reverse ++ xs.drop m) tail) 3 (0, 0))) ∧ Aside (Below base w wr))
  case atStart => exact ⟨1, Nat.le_refl _, by omega, by omega, rfl, (by rw [pre_one]; exact HR0.out), Below.refl _ w⟩
  case round =>
    obtain ⟨m, hm1, hm2, hg, rfl, RW, BW⟩ := hrel
    by_cases hlt : m < xs.length
    · have hltz : (m : Int) < (xs.length : Int) := by omega
      have hS0 := Lib.hid (Sink.start hlt RW.out BW.out)
      have hpl := pre_len key xs m (by omega)
      generalize hp0 : pre key xs m = p0 at hS0 hpl
      have HP0 := Lib.hid hp0
      clear hp0 RW BW
      go_wp2
      go_loopg [9] m (fun g2 s9 wr2 => ∃ (j : Nat) (p2 qs : List Int), j = p2.length ∧ j ≤ g2 ∧ s9 = .int .i64 j ∧ Aside (Sink key xs tail b base m w p2 qs wr2))
      case atStart => exact ⟨m, p0, [], hpl.symm, Nat.le_refl _, rfl, hS0.out⟩
      case round =>
        obtain ⟨j, p2, qs, hj, hg2, rfl, SK⟩ := hrel
        cases p2 with
        | nil =>
          have hend := Lib.hid (SK.out.stop hlt rfl)
          have hbe := Lib.hid SK.out.below
          clear SK
          have hz : ¬ (j : Int) > 0 := by simp at hj; omega
          go_wp2
          go_quiet (fail)
          go_wp2
          go_roundg (xs.length - (m + 1))
          case measure => omega
          case rel => exact ⟨m + 1, by omega, by omega, by omega, by go_num, blk_drewN hend.out _, pw_below_drewN hbe.out _⟩
        | cons y p3 =>
          have hmem := SK.out.mem hlt y p3 rfl
          have hc : ∀ nq, _ := fun nq => HP.out (wr.drewN nq) (xs.getD m 0) y (pw_below_drewN SK.out.below nq) hmem.2 hmem.1
          have hlen2 := SK.out.len
          have hrl : (sinkRow (y :: p3) qs (xs.getD m 0) (xs.drop (m + 1))).length = xs.length := by rw [sink_len, List.length_drop]; omega
          simp only [List.length_cons] at hj hlen2
          have hcx := irow_cell SK.out.row j (by rw [hrl]; omega)
          have hcy := irow_cell SK.out.row (j - 1) (by rw [hrl]; omega)
          rw [hj, sink_x] at hcx
          rw [show j - 1 = p3.length from by omega, sink_y] at hcy
          rw [← hj] at hcx
          generalize hk : p3.length = k at hcy hj hlen2
          generalize hx : xs.getD m 0 = x at hcx hc
          have HX := Lib.hid hx
          have HK := Lib.hid hk
          clear hx hk hrl
          have j1 : (j : Int) > 0 := by omega
          have j1n : 0 < j := by omega
          have j3n : j < xs.length := by omega
          have j4n : k < xs.length := by omega
          have j2 : IntKind.i64.wrap ((j : Int) - 1) = (k : Int) := by rw [IntKind.wrap_i64]; omega
          have j3 : (j : Int) < (xs.length : Int) := by omega
          have HJ := Lib.hid hj
          have HL2 := Lib.hid hlen2
          have j0 : ¬ (j : Int) < 0 := by omega
          have k0 : (0 : Int) ≤ (k : Int) := by omega
          clear hj hlen2
          have j4 : (k : Int) < (xs.length : Int) := by have := HJ.out; omega
          by_cases hlt2 : key x < key y
          · have hneg := (cmpI_neg _ _).2 hlt2
            generalize cmpI (key x) (key y) = cc at hc hneg
            go_wp2
            go_quiet (exact Calls.quiet_of (hc _))
            have fx := irow_free SK.out.row j
            have fy := irow_free SK.out.row k
            have hjk : ¬ j = k := by have := HJ.out; omega
            have hkj : ¬ k = j := by have := HJ.out; omega
            go_wp2
            go_region
            go_wp2
            go_roundg k
            case measure => have := HJ.out; omega
            case rel =>
              refine ⟨k, p3, qs ++ [y], HK.out.symm, Nat.le_refl _, rfl, ?_⟩
              have h1 := SK.out.swap hb (by rw [HX.out]; exact hlt2) (nq + 1)
              rw [HK.out, HX.out, ← HJ.out] at h1
              exact h1
          · have hneg : ¬ cmpI (key x) (key y) < 0 := fun h => hlt2 ((cmpI_neg _ _).1 h)
            generalize cmpI (key x) (key y) = cc at hc hneg
            have hend := Lib.hid (SK.out.stop hlt (by rw [HX.out]; simp [insR, hlt2]))
            have hbe := Lib.hid SK.out.below
            clear SK
            go_wp2
            go_quiet (exact Calls.quiet_of (hc _))
            go_wp2
            go_roundg (xs.length - (m + 1))
            case measure => omega
            case rel => exact ⟨m + 1, by omega, by omega, by omega, by go_num, blk_drewN hend.out _, pw_below_drewN hbe.out _⟩
    · have hltz : ¬ (m : Int) < (xs.length : Int) := by omega
      go_wp2
      go_end0
      have hm3 : m = xs.length ∨ m = xs.length + 1 := by omega
      have h1 := RW.out
      rw [pre_all key xs m (by omega), List.drop_eq_nil_of_le (by omega), List.append_nil] at h1
      exact ⟨rfl, h1, BW.out⟩
set_option maxHeartbeats 1000000 in
theorem insertionSort_none (g : Nat) (lb : Array Value) (b cap : Nat) (w : World) :
    Calls Try.prog 48 #[.slice (some ⟨b, 0, none⟩) 20 cap, .int .i64 20, .int .i64 20, .func (.func g) #[] lb] w fun e w' => e = .returned (.tuple #[]) ∧ w' = w := by
  go_enter Try.func48, Try.ntmps48
  go_wp2
  refine wp_loop_rounds 1 ?_
  rw [rounds_succ]
  go_wp2
  go_end0
  exact ⟨rfl, rfl⟩
set_option maxHeartbeats 1000000 in
set_option maxRecDepth 100000 in
theorem stableSort_calls (g : Nat) (lb : Array Value) (key : Int → Int) (eg : ∀ args w, (callFunc g args).run Try.prog w = .ok (.enter g args) w) (b cap base : Nat) (xs : List Int) (tail : List Value) (w : World)
    (hb : base ≤ b) (hlen : xs.length ≤ 20) (hbase : base ≤ w.heap.size) (hrow : w.heap[b]? = some (.cells (intRow xs tail) 3 (0, 0)))
    (hp : ∀ (W : World) (i j : Int), Below base w W → i ∈ xs → j ∈ xs → Calls Try.prog g (#[.int .i64 i, .int .i64 j] ++ lb) W fun e w' => e = .returned (.int .i64 (cmpI (key i) (key j))) ∧ ∃ q, w' = W.drewN q) :
    Calls Try.prog 42 #[.slice (some ⟨b, 0, none⟩) xs.length cap, .func (.func g) #[] lb] w fun e w' => e = .returned (.tuple #[]) ∧ w'.heap[b]? = some (.cells (intRow (isort key xs) tail) 3 (0, 0)) ∧ Below base w w' := by
  have hc := insertionSort_calls g lb key eg b cap base xs tail w hb (by omega) hbase hrow hp
  have hst : Calls Try.prog 46 #[.slice (some ⟨b, 0, none⟩) xs.length cap, .int .i64 xs.length, .func (.func g) #[] lb] w fun e w' => e = .returned (.tuple #[]) ∧ w'.heap[b]? = some (.cells (intRow (isort key xs) tail) 3 (0, 0)) ∧ Below base w w' := by
    clear hp
    have HC := Lib.hid hc
    clear hc
    by_cases h20 : xs.length = 20
    · rw [h20] at HC ⊢
      have hnone := fun W => insertionSort_none g lb b cap W
      go_enter Try.func46, Try.ntmps46
      go_wp2
      refine wp_loop_rounds 2 ?_
      rw [rounds_succ]
      go_wp2_with (go_at_call 48; refine HC.out.mono ?_; rintro e w1 ⟨rfl, hr1, hb1⟩; have HR1 := Lib.hid hr1; have HB1 := Lib.hid hb1; clear hr1 hb1)
      rw [rounds_succ]
      go_wp2_with (go_at_call 48; refine (hnone w1).mono ?_; rintro e w2 ⟨rfl, rfl⟩)
      refine wp_loop_rounds 1 ?_
      rw [rounds_succ]
      go_wp2
      go_end0
      exact ⟨rfl, HR1.out, HB1.out⟩
    · have h1 : ¬ (20 : Int) ≤ (xs.length : Int) := by omega
      have h2 : ¬ (20 : Int) < (xs.length : Int) := by omega
      go_enter Try.func46, Try.ntmps46
      go_wp2
      refine wp_loop_rounds 1 ?_
      rw [rounds_succ]
      go_wp2_with (go_at_call 48; refine HC.out.mono ?_; rintro e w1 ⟨rfl, hr1, hb1⟩; have HR1 := Lib.hid hr1; have HB1 := Lib.hid hb1; clear hr1 hb1)
      refine wp_loop_rounds 1 ?_
      rw [rounds_succ]
      go_wp2
      go_end0
      exact ⟨rfl, HR1.out, HB1.out⟩
  clear hc hp
  go_enter Try.func42, Try.ntmps42
  go_wp2_with (go_at_call 46; refine hst.mono ?_; rintro e w1 ⟨rfl, hr1, hb1⟩)
  go_end0
  exact ⟨rfl, hr1, hb1⟩
set_option maxHeartbeats 1000000 in
/-- The same of nil. -/
theorem stableSort_nil (g : Nat) (lb : Array Value) (w : World) :
    Calls Try.prog 42 #[.slice none 0 0, .func (.func g) #[] lb] w fun e w' => e = .returned (.tuple #[]) ∧ w' = w := by
  have h1 : Calls Try.prog 48 #[.slice none 0 0, .int .i64 0, .int .i64 0, .func (.func g) #[] lb] w fun e w' => e = .returned (.tuple #[]) ∧ w' = w := by
    go_enter Try.func48, Try.ntmps48
    go_wp2
    refine wp_loop_rounds 1 ?_
    rw [rounds_succ]
    go_wp2
    go_end0
    exact ⟨rfl, rfl⟩
  have h2 : Calls Try.prog 46 #[.slice none 0 0, .int .i64 0, .func (.func g) #[] lb] w fun e w' => e = .returned (.tuple #[]) ∧ w' = w := by
    go_enter Try.func46, Try.ntmps46
    go_wp2
    refine wp_loop_rounds 1 ?_
    rw [rounds_succ]
    go_wp2_with (go_at_call 48; refine h1.mono ?_; rintro e w1 ⟨rfl, rfl⟩)
    refine wp_loop_rounds 1 ?_
    rw [rounds_succ]
    go_wp2
    go_end0
    exact ⟨rfl, rfl⟩
  go_enter Try.func42, Try.ntmps42
  go_wp2_with (go_at_call 46; refine h2.mono ?_; rintro e w1 ⟨rfl, rfl⟩)
  go_end0
  exact ⟨rfl, rfl⟩
theorem isort_len (key : Int → Int) (xs : List Int) : (isort key xs).length = xs.length := by
  unfold isort; rw [List.length_reverse, foldIns_len]; simp
theorem isort_mem (key : Int → Int) (xs : List Int) (z : Int) : z ∈ isort key xs ↔ z ∈ xs := by
  unfold isort; rw [List.mem_reverse, foldIns_mem]; simp
/-- A row of ints of one's own, in its cells. -/
theorem intRow_of {W : World} {base : Nat} {ok : Nat → Prop} {v : Value} {xs : List Int} (h : Kd.R (Kd.int .i64) 3 W base ok v xs) :
    (v = .slice none 0 0 ∧ xs = []) ∨ ∃ g cap tail, v = .slice (some ⟨g, 0, none⟩) xs.length cap ∧ base ≤ g ∧ W.heap[g]? = some (.cells (intRow xs tail) 3 (0, 0)) ∧ xs.length ≤ cap ∧ cap ≤ maxLen ∧ xs.length + tail.length = cap ∧ ok g := by
  have hown := Kd.own_of_R h
  rcases hown.2 with ⟨hv, hx⟩ | ⟨g, cap, cur, hv, hb, hh, hnc, hcm, hcs, htk⟩
  · exact .inl ⟨hv, List.eq_nil_of_length_eq_zero hx⟩
  · refine .inr ⟨g, cap, cur.toList.drop xs.length, hv, hb, ?_, hnc, hcm, ?_, h.1 g (by rw [hv]; rfl)⟩
    · rw [hh]
      congr 2
      apply Array.ext'
      rw [Nat.mul_one] at htk
      simp only [intRow]
      rw [show (xs.map (Value.int .i64)) = cur.toList.take xs.length from htk.symm, List.take_append_drop]
    · rw [List.length_drop]; have : cur.toList.length = cur.size := by simp
      omega
theorem R_of_intRow {W : World} {base : Nat} {ok : Nat → Prop} {xs : List Int} {g cap : Nat} {tail : List Value} (hh : W.heap[g]? = some (.cells (intRow xs tail) 3 (0, 0))) (hb : base ≤ g) (hc : cap ≤ maxLen) (ht : xs.length + tail.length = cap) (hok : ok g) :
    Kd.R (Kd.int .i64) 3 W base ok (.slice (some ⟨g, 0, none⟩) xs.length cap) xs := by
  refine Kd.R_of_own ⟨by simp [encs], .inr ⟨g, cap, _, rfl, hb, hh, by omega, hc, ?_, ?_⟩⟩ (fun k hk => ?_)
  · simp [intRow, ht]
  · simp [intRow, encs]
  · have : g = k := by simpa [Value.ownBlock] using hk
    exact this ▸ hok
end Go.Proofs.Ytemcplbldfldlaa.P
