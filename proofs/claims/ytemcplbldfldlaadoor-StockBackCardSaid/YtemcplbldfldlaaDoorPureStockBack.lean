/- StockBack: Read inverts Bytes, and what Read accepts is a right stock with this encoding. -/
import Derived.Test.YtemcplbldfldlaaDoorGTypes
import Derived.Test.YtemcplbldfldlaaDoorGTexts
import Derived.Test.YtemcplbldfldlaaDoorGBytes
import Derived.Test.YtemcplbldfldlaaDoorGStockB
import Derived.Test.YtemcplbldfldlaaDoorPx17
namespace Go.Proofs.YtemcplbldfldlaaDoor.P
open Go.RowKit Go.Proofs.YtemcplbldfldlaaDoorW.PrintWords Go.Proofs.YtemcplbldfldlaaDoorW.PrintLast Go.Proofs.YtemcplbldfldlaaDoorW.PrintMore
set_option linter.unusedVariables false
set_option linter.unusedSimpArgs false
theorem rdKind (l : List KindT) (i : Nat) : rd_T36 l (i : Int) = l.getD i z36 := by simp [rd_T36]
/-! ### A stock is like itself -/
theorem sameLots_l0 (l : List LotT) (hl : l.length ≤ 1000) (d : Nat) : ∀ i : Nat, l.length - i = d → i ≤ l.length → Ev (fun k => taquinref35_SameLots.l0 k l l (i : Int)) true := by
  induction d with
  | zero =>
    intro i hd hi
    refine .s ?_
    simp only [taquinref35_SameLots.l0]
    exact .n (by omega) (.r _)
  | succ d ih =>
    intro i hd hi
    refine .s ?_
    simp only [taquinref35_SameLots.l0]
    refine .p (by omega) (.p (by omega) (.p (by omega) (.n (by simp) ?_)))
    rw [w64 (by omega) (by omega)]
    exact ih (i + 1) (by omega) (by omega)
theorem sameBoxes_l0 (l : List BoxT) (hl : l.length ≤ 1000) (d : Nat) : ∀ i : Nat, l.length - i = d → i ≤ l.length → Ev (fun k => taquinref35_SameBoxes.l0 k l l (i : Int)) true := by
  induction d with
  | zero =>
    intro i hd hi
    refine .s ?_
    simp only [taquinref35_SameBoxes.l0]
    exact .n (by omega) (.r _)
  | succ d ih =>
    intro i hd hi
    refine .s ?_
    simp only [taquinref35_SameBoxes.l0]
    refine .p (by omega) (.p (by omega) (.p (by omega) (.n (by simp) ?_)))
    rw [w64 (by omega) (by omega)]
    exact ih (i + 1) (by omega) (by omega)
theorem same_l0 (l0 : List KindT) (l1 : List LotT) (l2 : List BoxT) (h0 : l0.length ≤ 1000) (h1 : l1.length ≤ 1000) (h2 : l2.length ≤ 1000) (d : Nat) : ∀ i : Nat, l0.length - i = d → i ≤ l0.length → Ev (fun k => taquinref35_Same.l0 k l0 l1 l2 l0 l1 l2 (i : Int)) true := by
  induction d with
  | zero =>
    intro i hd hi
    have e1 : Ev (fun k => taquinref35_SameLots.f k l1 l1) true := by
      simp only [taquinref35_SameLots.f]
      exact .p (by trivial) (sameLots_l0 l1 h1 l1.length 0 (by omega) (by omega))
    have e2 : Ev (fun k => taquinref35_SameBoxes.f k l2 l2) true := by
      simp only [taquinref35_SameBoxes.f]
      exact .p (by trivial) (sameBoxes_l0 l2 h2 l2.length 0 (by omega) (by omega))
    refine .s ?_
    simp only [taquinref35_Same.l0]
    exact .n (by omega) (.b e1 (.p (by trivial) (.b e2 (.r _))))
  | succ d ih =>
    intro i hd hi
    refine .s ?_
    simp only [taquinref35_Same.l0]
    refine .p (by omega) (.p (by omega) (.p (by omega) (.n (by simp) ?_)))
    rw [w64 (by omega) (by omega)]
    exact ih (i + 1) (by omega) (by omega)
theorem same_ev (l0 : List KindT) (l1 : List LotT) (l2 : List BoxT) (h0 : l0.length ≤ 1000) (h1 : l1.length ≤ 1000) (h2 : l2.length ≤ 1000) : Ev (fun k => taquinref35_Same.f k l0 l1 l2 l0 l1 l2) true := by
  simp only [taquinref35_Same.f]
  exact .p (by trivial) (same_l0 l0 l1 l2 h0 h1 h2 l0.length 0 (by omega) (by omega))
/-! ### A right stock has bytes -/
theorem kinds_ok : ∀ (l : List KindT) (seen : List (List UInt8)), kindsOk l seen = true → ∀ x ∈ l, kindOk x = true
  | [], _, _, x, hx => by simp at hx
  | k :: r, seen, h, x, hx => by
    simp only [kindsOk, Bool.and_eq_true] at h
    rcases List.mem_cons.1 hx with rfl | hx
    · exact h.1.1
    · exact kinds_ok r _ h.2 x hx
theorem in_R {n : Int} (h0 : -1000000000 ≤ n) (h1 : n ≤ 1000000000) : inR n = true := decide_eq_true (by omega)
theorem right_bytes {l0 : List KindT} {l1 : List LotT} {l2 : List BoxT} (h : RightS l0 l1 l2) (h0 : l0.length ≤ 450) (h1 : l1.length ≤ 450) : (∀ x ∈ l0, kindB_ok x = true) ∧ (∀ x ∈ l1, lotB_ok x = true) ∧ (∀ x ∈ l2, boxB_ok x = true) ∧ ∀ x ∈ l0, x.f0.size ≤ 20 := by
  have hk : ∀ x ∈ l0, x.f0.size ≤ 20 ∧ 1 ≤ x.f1 ∧ x.f1 ≤ 10000 := fun x hx => by
    have := of_decide_eq_true (kinds_ok _ _ h.kinds_ x hx)
    omega
  refine ⟨fun x hx => ?_, fun x hx => ?_, fun x hx => ?_, fun x hx => (hk x hx).1⟩
  · have := hk x hx
    unfold kindB_ok
    rw [decide_eq_true (by omega), in_R (by omega) (by omega)]; rfl
  · have := h.lots_ x hx
    unfold okLot at this
    unfold lotB_ok
    rw [in_R (n := x.f0) (by omega) (by omega), in_R (by omega) (by omega)]; rfl
  · have := h.boxes_ x hx
    unfold okBox at this
    unfold boxB_ok
    rw [in_R (n := x.f0) (by omega) (by omega), in_R (n := x.f1) (by omega) (by omega), in_R (by omega) (by omega)]; rfl
theorem bytes_eq {l0 : List KindT} {l1 : List LotT} {l2 : List BoxT} (h : RightS l0 l1 l2) (h0 : l0.length ≤ 450) (h1 : l1.length ≤ 450) (h2 : l2.length ≤ 450) : stock_Bytes.f l0 l1 l2 = some (bs (stockB l0 l1 l2)) := by
  obtain ⟨a, b, c, _⟩ := right_bytes h h0 h1
  exact if_pos ⟨⟨by omega, by omega, by omega⟩, List.all_eq_true.2 a, List.all_eq_true.2 b, List.all_eq_true.2 c⟩
/-! ### Whatever is read is right, and has these bytes -/
abbrev Res := List KindT × List LotT × List BoxT × Bool
def GoodR (s : ByteArray) (r : Res) : Prop := (r.2.2.2 = true → r.1.length ≤ 450 ∧ r.2.1.length ≤ 450 ∧ r.2.2.1.length ≤ 450 ∧ RightS r.1 r.2.1 r.2.2.1 ∧ stock_Bytes.f r.1 r.2.1 r.2.2.1 = some s) ∧ (r.2.2.2 = false → r.1 = [] ∧ r.2.1 = [] ∧ r.2.2.1 = [])
theorem good_no (s : ByteArray) : GoodR s ([], [], [], false) := ⟨(fun e => by cases e), fun _ => ⟨rfl, rfl, rfl⟩⟩
theorem any_end (s : ByteArray) (a : List KindT) (b : List LotT) (c : List BoxT) (ha : a.length ≤ 450) (hb : b.length ≤ 450) (hc : c.length ≤ 450) (n : Int) (t : ByteArray) (bad : Bool) :
    ∃ r, Ev (fun k => stock_Read.j5 k s a b c n false t bad) r ∧ GoodR s r := by
  have hno : Ev (fun k => stock_Read.j6 k a b c true) ([], [], [], false) := by
    refine .s ?_
    simp only [stock_Read.j6]
    exact .p (by trivial) (.r _)
  obtain ⟨dn, hd⟩ : ∃ dn : Bool, wire_Reader_Done.f t bad = some (dn, t, bad) := by
    unfold wire_Reader_Done.f
    split
    · exact ⟨_, rfl⟩
    · exact ⟨_, rfl⟩
  cases dn with
  | false =>
    refine ⟨_, .s ?_, good_no s⟩
    simp only [stock_Read.j5]
    exact .n (by simp) (.b (.c hd) (.n (by simp) hno))
  | true =>
    obtain ⟨r, hr, hok⟩ := right_ev a b c ha hb hc
    cases r with
    | false =>
      refine ⟨_, .s ?_, good_no s⟩
      simp only [stock_Read.j5]
      exact .n (by simp) (.b (.c hd) (.p (by trivial) (.b hr (.n (by simp) hno))))
    | true =>
      have hR := hok.1 rfl
      have hB := bytes_eq hR ha hb hc
      by_cases he : (bs (stockB a b c)).toList = s.toList
      · have hse := ba_eq he
        refine ⟨(a, b, c, true), .s ?_, fun _ => ⟨ha, hb, hc, hR, hse ▸ hB⟩, (fun e => by cases e)⟩
        simp only [stock_Read.j5]
        refine .n (by simp) (.b (.c hd) (.p (by trivial) (.b hr (.p (by trivial) (.b (.c hB) ?_)))))
        rw [show ((bs (stockB a b c)).toList != s.toList) = false by rw [he]; simp]
        refine .s ?_
        simp only [stock_Read.j6]
        exact .n (by simp) (.r _)
      · refine ⟨_, .s ?_, good_no s⟩
        simp only [stock_Read.j5]
        refine .n (by simp) (.b (.c hd) (.p (by trivial) (.b hr (.p (by trivial) (.b (.c hB) ?_)))))
        rw [show ((bs (stockB a b c)).toList != s.toList) = true from bne_iff_ne.mpr he]
        exact hno
theorem left_eq (t : ByteArray) (bad : Bool) : wire_Reader_Left.f t bad = some ((t.size : Int), t, bad) := rfl
theorem three {t : ByteArray} (bad : Bool) (ht : 0 < t.size) (hs : t.size ≤ 1000) : ∃ x y z t' b', (∀ {β : Type} (g : Int → Int → Int → ByteArray → Bool → Option β), ((wire_Reader_Int.f t bad).bind fun p => (wire_Reader_Int.f p.2.1 p.2.2).bind fun q => (wire_Reader_Int.f q.2.1 q.2.2).bind fun r => g p.1 q.1 r.1 r.2.1 r.2.2) = g x y z t' b') ∧ t'.size < t.size := by
  have h1 := numR_lt t bad 59 (-9223372036854775808) ht
  have e1 := int_call t bad (by omega)
  generalize numR t bad 59 (-9223372036854775808) = p at h1 e1
  have h2 := (numR_less p.2.1 p.2.2 59 (-9223372036854775808)).1
  have e2 := int_call p.2.1 p.2.2 (by omega)
  generalize numR p.2.1 p.2.2 59 (-9223372036854775808) = q at h2 e2
  have h3 := (numR_less q.2.1 q.2.2 59 (-9223372036854775808)).1
  have e3 := int_call q.2.1 q.2.2 (by omega)
  generalize numR q.2.1 q.2.2 59 (-9223372036854775808) = r at h3 e3
  refine ⟨p.1, q.1, r.1, r.2.1, r.2.2, fun g => ?_, by omega⟩
  rw [e1]
  simp only [Option.bind_some]
  rw [e2]
  simp only [Option.bind_some]
  rw [e3]
  rfl
theorem any_l2 (s : ByteArray) (a : List KindT) (b : List LotT) (ha : a.length ≤ 450) (hb : b.length ≤ 450) (d : Nat) : ∀ (t : ByteArray) (bad : Bool) (n : Int) (c : List BoxT), t.size = d → n ≤ 9223372036854775807 → c.length + t.size ≤ 400 →
    ∃ r, Ev (fun k => stock_Read.l2 k s a b c n t bad) r ∧ GoodR s r := by
  induction d using Nat.strongRecOn with
  | ind d ih =>
    intro t bad n c hd hn hc
    by_cases h0 : n > 0
    · by_cases h1 : 0 < t.size
      · obtain ⟨x, y, z, t', b', hg, hl⟩ := three bad h1 (by omega)
        obtain ⟨r, hr, hG⟩ := ih t'.size (by omega) t' b' (n - 1) (c ++ [⟨x, y, z⟩]) rfl (by omega) (by simp only [List.length_append, List.length_cons, List.length_nil]; omega)
        refine ⟨r, .s ?_, hG⟩
        simp only [stock_Read.l2, left_eq, Option.bind_some]
        refine .p h0 (.s ?_)
        simp only [stock_Read.j5]
        refine .p (by simp; omega) ?_
        obtain ⟨K, hK⟩ := hr
        refine ⟨K, fun k hk => ?_⟩
        have := hg (fun u v w t2 b2 => if c.length < 5864062014805 then stock_Read.l2 k s a b (c ++ [(⟨u, v, w⟩ : BoxT)]) (wrap64 (n - 1)) t2 b2 else none)
        refine this.trans ?_
        rw [if_pos (by omega), w64 (by omega) (by omega)]
        exact hK k hk
      · obtain ⟨r, hr, hG⟩ := any_end s a b c ha hb (by omega) n t bad
        refine ⟨r, .s ?_, hG⟩
        simp only [stock_Read.l2, left_eq, Option.bind_some]
        refine .p h0 ?_
        rw [show decide ((t.size : Int) > 0) = false from decide_eq_false (by omega)]
        exact hr
    · obtain ⟨r, hr, hG⟩ := any_end s a b c ha hb (by omega) n t bad
      refine ⟨r, .s ?_, hG⟩
      simp only [stock_Read.l2]
      exact .n h0 hr
theorem any_num2 (s : ByteArray) (a : List KindT) (b : List LotT) (ha : a.length ≤ 450) (hb : b.length ≤ 450) (t : ByteArray) (bad : Bool) (ht : t.size ≤ 400) (n : Int) : ∃ r, Ev (fun k => stock_Read.j3 k s a b [] n false t bad) r ∧ GoodR s r := by
  have h1 := (numR_less t bad 59 0).1
  have h2 := numR_range t bad 59 0
  obtain ⟨r, hr, hG⟩ := any_l2 s a b ha hb _ (numR t bad 59 0).2.1 (numR t bad 59 0).2.2 (numR t bad 59 0).1 [] rfl h2.2 (by simp; omega)
  refine ⟨r, .s ?_, hG⟩
  simp only [stock_Read.j3]
  exact .n (by simp) (.b (.c (num_tells t bad (by omega))) hr)
theorem any_l1 (s : ByteArray) (a : List KindT) (ha : a.length ≤ 450) (d : Nat) : ∀ (t : ByteArray) (bad : Bool) (n : Int) (b : List LotT), t.size = d → n ≤ 9223372036854775807 → b.length + t.size ≤ 400 →
    ∃ r, Ev (fun k => stock_Read.l1 k s a b [] n t bad) r ∧ GoodR s r := by
  induction d using Nat.strongRecOn with
  | ind d ih =>
    intro t bad n b hd hn hc
    by_cases h0 : n > 0
    · by_cases h1 : 0 < t.size
      · obtain ⟨x, y, z, t', b', hg, hl⟩ := three bad h1 (by omega)
        obtain ⟨r, hr, hG⟩ := ih t'.size (by omega) t' b' (n - 1) (b ++ [⟨x, y, (z == 1)⟩]) rfl (by omega) (by simp only [List.length_append, List.length_cons, List.length_nil]; omega)
        refine ⟨r, .s ?_, hG⟩
        simp only [stock_Read.l1, left_eq, Option.bind_some]
        refine .p h0 (.s ?_)
        simp only [stock_Read.j3]
        refine .p (by simp; omega) ?_
        obtain ⟨K, hK⟩ := hr
        refine ⟨K, fun k hk => ?_⟩
        have := hg (fun u v w t2 b2 => if b.length < 5864062014805 then stock_Read.l1 k s a (b ++ [(⟨u, v, (w == 1)⟩ : LotT)]) [] (wrap64 (n - 1)) t2 b2 else none)
        refine this.trans ?_
        rw [if_pos (by omega), w64 (by omega) (by omega)]
        exact hK k hk
      · obtain ⟨r, hr, hG⟩ := any_num2 s a b ha (by omega) t bad (by omega) n
        refine ⟨r, .s ?_, hG⟩
        simp only [stock_Read.l1, left_eq, Option.bind_some]
        refine .p h0 ?_
        rw [show decide ((t.size : Int) > 0) = false from decide_eq_false (by omega)]
        exact hr
    · obtain ⟨r, hr, hG⟩ := any_num2 s a b ha (by omega) t bad (by omega) n
      refine ⟨r, .s ?_, hG⟩
      simp only [stock_Read.l1]
      exact .n h0 hr
theorem any_num1 (s : ByteArray) (a : List KindT) (ha : a.length ≤ 450) (t : ByteArray) (bad : Bool) (ht : t.size ≤ 400) (n : Int) : ∃ r, Ev (fun k => stock_Read.j1 k s a [] [] n false t bad) r ∧ GoodR s r := by
  have h1 := (numR_less t bad 59 0).1
  have h2 := numR_range t bad 59 0
  obtain ⟨r, hr, hG⟩ := any_l1 s a ha _ (numR t bad 59 0).2.1 (numR t bad 59 0).2.2 (numR t bad 59 0).1 [] rfl h2.2 (by simp; omega)
  refine ⟨r, .s ?_, hG⟩
  simp only [stock_Read.j1]
  exact .n (by simp) (.b (.c (num_tells t bad (by omega))) hr)
theorem any_l0 (s : ByteArray) (d : Nat) : ∀ (t : ByteArray) (bad : Bool) (n : Int) (a : List KindT), t.size = d → n ≤ 9223372036854775807 → a.length + t.size ≤ 400 →
    ∃ r, Ev (fun k => stock_Read.l0 k s a n t bad) r ∧ GoodR s r := by
  induction d using Nat.strongRecOn with
  | ind d ih =>
    intro t bad n a hd hn hc
    by_cases h0 : n > 0
    · by_cases h1 : 0 < t.size
      · obtain ⟨x, t1, b1, ht, hl1⟩ := text_tells t bad (by omega)
        have hi := int_call t1 b1 (by omega)
        have hl2 : (numR t1 b1 59 (-9223372036854775808)).2.1.size < t.size := by
          rcases Nat.eq_zero_or_pos t1.size with h | h
          · have := (numR_less t1 b1 59 (-9223372036854775808)).1; omega
          · have := numR_lt t1 b1 59 (-9223372036854775808) h; omega
        obtain ⟨r, hr, hG⟩ := ih _ (by omega) (numR t1 b1 59 (-9223372036854775808)).2.1 (numR t1 b1 59 (-9223372036854775808)).2.2 (n - 1) (a ++ [⟨x, (numR t1 b1 59 (-9223372036854775808)).1⟩]) rfl (by omega) (by simp only [List.length_append, List.length_cons, List.length_nil]; omega)
        refine ⟨r, .s ?_, hG⟩
        simp only [stock_Read.l0, left_eq, Option.bind_some]
        refine .p h0 (.s ?_)
        simp only [stock_Read.j1]
        refine .p (by simp; omega) (.b (.c ht) (.b (.c hi) (.p (by omega) ?_)))
        rw [w64 (by omega) (by omega)]
        exact hr
      · obtain ⟨r, hr, hG⟩ := any_num1 s a (by omega) t bad (by omega) n
        refine ⟨r, .s ?_, hG⟩
        simp only [stock_Read.l0, left_eq, Option.bind_some]
        refine .p h0 ?_
        rw [show decide ((t.size : Int) > 0) = false from decide_eq_false (by omega)]
        exact hr
    · obtain ⟨r, hr, hG⟩ := any_num1 s a (by omega) t bad (by omega) n
      refine ⟨r, .s ?_, hG⟩
      simp only [stock_Read.l0]
      exact .n h0 hr
theorem read_any (s : ByteArray) (hs : s.size ≤ 400) : ∃ r, Ev (fun k => stock_Read.f k s) r ∧ GoodR s r := by
  have h1 := (numR_less s false 59 0).1
  have h2 := numR_range s false 59 0
  obtain ⟨r, hr, hG⟩ := any_l0 s _ (numR s false 59 0).2.1 (numR s false 59 0).2.2 (numR s false 59 0).1 [] rfl h2.2 (by simp; omega)
  refine ⟨r, ?_, hG⟩
  simp only [stock_Read.f]
  exact .b (.c (show wire_Open.f s = some (s, false) from rfl)) (.b (.c (num_tells s false (by omega))) hr)
/-! ### A right stock's bytes are read back -/
theorem ints_three (x y z : Int) (hx : inR x = true) (hy : inR y = true) (hz : inR z = true) (r : List UInt8) (hr : r.length ≤ 100000) {β : Type} (g : Int → Int → Int → ByteArray → Bool → Option β) :
    ((wire_Reader_Int.f (bs (intB x ++ (intB y ++ (intB z ++ r)))) false).bind fun p => (wire_Reader_Int.f p.2.1 p.2.2).bind fun q => (wire_Reader_Int.f q.2.1 q.2.2).bind fun r => g p.1 q.1 r.1 r.2.1 r.2.2) = g x y z (bs r) false := by
  have l1 := intB_len x hx
  have l2 := intB_len y hy
  have l3 := intB_len z hz
  rw [int_call _ _ (by rw [bs_size]; simp only [List.length_append]; omega), int_app x hx]
  simp only [Option.bind_some]
  rw [int_call _ _ (by rw [bs_size]; simp only [List.length_append]; omega), int_app y hy]
  simp only [Option.bind_some]
  rw [int_call _ _ (by rw [bs_size]; simp only [List.length_append]; omega), int_app z hz]
  rfl
theorem back_l2 (s : ByteArray) (v : Res) (a : List KindT) (b : List LotT) (tail : List UInt8) (htl : tail.length ≤ 10000) : ∀ (c done : List BoxT), (∀ x ∈ c, boxB_ok x = true) → done.length + c.length ≤ 1000 →
    Ev (fun k => stock_Read.j5 k s a b (done ++ c) 0 false (bs tail) false) v → Ev (fun k => stock_Read.l2 k s a b done (c.length : Int) (bs (c.flatMap boxB ++ tail)) false) v
  | [], done, _, _, h => by
    refine .s ?_
    simp only [stock_Read.l2]
    refine .n (by simp) ?_
    simpa using h
  | x :: c, done, hx, hl, h => by
    have hp := boxB_parts x (hx x (by simp))
    have hf := flat_le boxB 63 c (fun y hy => boxB_len y (hx y (by simp [hy])))
    rw [List.length_cons] at hl
    have e : (x :: c).flatMap boxB ++ tail = intB x.f0 ++ (intB x.f1 ++ (intB x.f2 ++ (c.flatMap boxB ++ tail))) := by simp [boxB]
    have hpos := intB_pos x.f0
    have ih := back_l2 s v a b tail htl c (done ++ [x]) (fun y hy => hx y (by simp [hy])) (by simp only [List.length_append, List.length_cons, List.length_nil]; omega) (by simpa using h)
    rw [e]
    refine .s ?_
    simp only [stock_Read.l2, left_eq, Option.bind_some]
    refine .p (by rw [List.length_cons]; omega) (.s ?_)
    simp only [stock_Read.j5]
    refine .p (by rw [bs_size, List.length_append]; simp; omega) ?_
    obtain ⟨K, hK⟩ := ih
    refine ⟨K, fun k hk => ?_⟩
    have := ints_three x.f0 x.f1 x.f2 hp.1 hp.2.1 hp.2.2 (c.flatMap boxB ++ tail) (by rw [List.length_append]; omega) (fun u v w t2 b2 => if done.length < 5864062014805 then stock_Read.l2 k s a b (done ++ [(⟨u, v, w⟩ : BoxT)]) (wrap64 (((x :: c).length : Int) - 1)) t2 b2 else none)
    refine this.trans ?_
    rw [if_pos (by omega), List.length_cons, w64 (by omega) (by omega), show ((c.length + 1 : Nat) : Int) - 1 = (c.length : Int) by omega]
    exact hK k hk
theorem back_l1 (s : ByteArray) (v : Res) (a : List KindT) (tail : List UInt8) (htl : tail.length ≤ 20000) : ∀ (c done : List LotT), (∀ x ∈ c, lotB_ok x = true) → done.length + c.length ≤ 1000 →
    Ev (fun k => stock_Read.j3 k s a (done ++ c) [] 0 false (bs tail) false) v → Ev (fun k => stock_Read.l1 k s a done [] (c.length : Int) (bs (c.flatMap lotB ++ tail)) false) v
  | [], done, _, _, h => by
    refine .s ?_
    simp only [stock_Read.l1]
    refine .n (by simp) ?_
    simpa using h
  | x :: c, done, hx, hl, h => by
    have hp := lotB_parts x (hx x (by simp))
    have hf := flat_le lotB 63 c (fun y hy => lotB_len y (hx y (by simp [hy])))
    rw [List.length_cons] at hl
    have e : (x :: c).flatMap lotB ++ tail = intB x.f0 ++ (intB x.f1 ++ (intB (if x.f2 = true then 1 else 0) ++ (c.flatMap lotB ++ tail))) := by simp [lotB]
    have hpos := intB_pos x.f0
    have hfz : ((if x.f2 = true then (1 : Int) else 0) == 1) = x.f2 := by cases x.f2 <;> rfl
    have ih := back_l1 s v a tail htl c (done ++ [x]) (fun y hy => hx y (by simp [hy])) (by simp only [List.length_append, List.length_cons, List.length_nil]; omega) (by simpa using h)
    rw [e]
    refine .s ?_
    simp only [stock_Read.l1, left_eq, Option.bind_some]
    refine .p (by rw [List.length_cons]; omega) (.s ?_)
    simp only [stock_Read.j3]
    refine .p (by rw [bs_size, List.length_append]; simp; omega) ?_
    obtain ⟨K, hK⟩ := ih
    refine ⟨K, fun k hk => ?_⟩
    have := ints_three x.f0 x.f1 (if x.f2 = true then 1 else 0) hp.1 hp.2 (by split <;> decide) (c.flatMap lotB ++ tail) (by rw [List.length_append]; omega) (fun u v w t2 b2 => if done.length < 5864062014805 then stock_Read.l1 k s a (done ++ [(⟨u, v, (w == 1)⟩ : LotT)]) [] (wrap64 (((x :: c).length : Int) - 1)) t2 b2 else none)
    refine this.trans ?_
    rw [if_pos (by omega), List.length_cons, w64 (by omega) (by omega), show ((c.length + 1 : Nat) : Int) - 1 = (c.length : Int) by omega, hfz]
    exact hK k hk
theorem back_l0 (s : ByteArray) (v : Res) (tail : List UInt8) (htl : tail.length ≤ 30000) : ∀ (c done : List KindT), (∀ x ∈ c, kindB_ok x = true) → (∀ x ∈ c, x.f0.size ≤ 20) → done.length + c.length ≤ 1000 → c.length ≤ 20 →
    Ev (fun k => stock_Read.j1 k s (done ++ c) [] [] 0 false (bs tail) false) v → Ev (fun k => stock_Read.l0 k s done (c.length : Int) (bs (c.flatMap kindB ++ tail)) false) v
  | [], done, _, _, _, _, h => by
    refine .s ?_
    simp only [stock_Read.l0]
    refine .n (by simp) ?_
    simpa using h
  | x :: c, done, hx, hn, hl, h20, h => by
    have hp := kindB_parts x (hx x (by simp))
    have hf := flat_le kindB 1043 c (fun y hy => kindB_len y (hx y (by simp [hy])))
    rw [List.length_cons] at hl h20
    have e : (x :: c).flatMap kindB ++ tail = textB x.f0.data.toList ++ (intB x.f1 ++ (c.flatMap kindB ++ tail)) := by simp [kindB]
    have l1 := intB_len x.f1 hp.2
    have hpos : 1 ≤ (textB x.f0.data.toList).length := by simp [textB]; omega
    have ih := back_l0 s v tail htl c (done ++ [x]) (fun y hy => hx y (by simp [hy])) (fun y hy => hn y (by simp [hy])) (by simp only [List.length_append, List.length_cons, List.length_nil]; omega) (by omega) (by simpa using h)
    have ht := text_app x.f0.data.toList (intB x.f1 ++ (c.flatMap kindB ++ tail)) (by rw [list_size]; exact hp.1) (by simp only [List.length_append]; omega)
    rw [bs_of] at ht
    have hi : wire_Reader_Int.f (bs (intB x.f1 ++ (c.flatMap kindB ++ tail))) false = some (x.f1, bs (c.flatMap kindB ++ tail), false) := by
      rw [int_call _ _ (by rw [bs_size]; simp only [List.length_append]; omega), int_app x.f1 hp.2]
    rw [e]
    refine .s ?_
    simp only [stock_Read.l0, left_eq, Option.bind_some]
    refine .p (by rw [List.length_cons]; omega) (.s ?_)
    simp only [stock_Read.j1]
    refine .p (by rw [bs_size, List.length_append]; simp; omega) (.b (.c ht) (.b (.c hi) (.p (by omega) ?_)))
    rw [List.length_cons, w64 (by omega) (by omega), show ((c.length + 1 : Nat) : Int) - 1 = (c.length : Int) by omega]
    exact ih
theorem read_bytes (l0 : List KindT) (l1 : List LotT) (l2 : List BoxT) (hR : RightS l0 l1 l2) (h0 : l0.length ≤ 20) (h1 : l1.length ≤ 20) (h2 : l2.length ≤ 20) : Ev (fun k => stock_Read.f k (bs (stockB l0 l1 l2))) (l0, l1, l2, true) := by
  obtain ⟨o0, o1, o2, on⟩ := right_bytes hR (by omega) (by omega)
  have k0 := intB_len (l0.length : Int) (decide_eq_true (by omega))
  have k1 := intB_len (l1.length : Int) (decide_eq_true (by omega))
  have k2 := intB_len (l2.length : Int) (decide_eq_true (by omega))
  have f0 := flat_le kindB 1043 l0 (fun x hx => kindB_len x (o0 x hx))
  have f1 := flat_le lotB 63 l1 (fun x hx => lotB_len x (o1 x hx))
  have f2 := flat_le boxB 63 l2 (fun x hx => boxB_len x (o2 x hx))
  have e : stockB l0 l1 l2 = intB (l0.length : Int) ++ (l0.flatMap kindB ++ (intB (l1.length : Int) ++ (l1.flatMap lotB ++ (intB (l2.length : Int) ++ (l2.flatMap boxB ++ []))))) := by simp [stockB]
  have num : ∀ (n : Nat) (r : List UInt8), n ≤ 20 → r.length ≤ 100000 → wire_Reader_Num.f (bs (intB (n : Int) ++ r)) false = some ((n : Int), bs r, false) := fun n r hn hr => by
    have := intB_len (n : Int) (decide_eq_true (by omega))
    rw [num_tells _ _ (by rw [bs_size, List.length_append]; omega), num_app (n : Int) (by omega) (by omega)]
  have hlast : Ev (fun k => stock_Read.j5 k (bs (stockB l0 l1 l2)) l0 l1 ([] ++ l2) 0 false (bs []) false) (l0, l1, l2, true) := by
    have hd : wire_Reader_Done.f (bs []) false = some (true, bs [], false) := by
      unfold wire_Reader_Done.f
      rw [if_neg (by simp), ba_list]
      rfl
    obtain ⟨r, hr, hok⟩ := right_ev l0 l1 l2 (by omega) (by omega) (by omega)
    have hrt : r = true := hok.2 hR
    subst hrt
    refine .s ?_
    simp only [stock_Read.j5, List.nil_append]
    refine .n (by simp) (.b (.c hd) (.p (by trivial) (.b hr (.p (by trivial) (.b (.c (bytes_eq hR (by omega) (by omega) (by omega))) ?_)))))
    rw [show ((bs (stockB l0 l1 l2)).toList != (bs (stockB l0 l1 l2)).toList) = false by simp]
    refine .s ?_
    simp only [stock_Read.j6]
    exact .n (by simp) (.r _)
  generalize hS : bs (stockB l0 l1 l2) = S at hlast
  have hS2 := hS
  rw [e] at hS2
  simp only [stock_Read.f]
  refine .b (.c (show wire_Open.f S = some (S, false) from rfl)) ?_
  rw [← hS2]
  refine .b (.c (num l0.length _ h0 (by simp only [List.length_append, List.length_nil]; omega))) ?_
  rw [hS2]
  refine back_l0 S _ _ (by simp only [List.length_append, List.length_nil]; omega) l0 [] o0 on (by simp; omega) h0 (.s ?_)
  simp only [stock_Read.j1, List.nil_append]
  refine .n (by simp) (.b (.c (num l1.length _ h1 (by simp only [List.length_append, List.length_nil]; omega))) ?_)
  refine back_l1 S _ l0 _ (by simp only [List.length_append, List.length_nil]; omega) l1 [] o1 (by simp; omega) (.s ?_)
  simp only [stock_Read.j3, List.nil_append]
  refine .n (by simp) (.b (.c (num l2.length _ h2 (by simp only [List.length_append, List.length_nil]; omega))) ?_)
  exact back_l2 S _ l0 l1 [] (by simp) l2 [] o2 (by simp; omega) hlast
theorem StockBack (x0 : S26) (a1 : ByteArray) (wf0 : wf26 x0) (y1 : a1.size ≤ maxLen) : ∃ k, taquinlaw35_StockBack.f k x0.f0 x0.f1 x0.f2 a1 = some true := by
  obtain ⟨l0, l1, l2⟩ := x0
  simp only
  refine Ev.ex (f := fun k => taquinlaw35_StockBack.f k l0 l1 l2 a1) ?_
  have hj : Ev (fun k => taquinlaw35_StockBack.j0 k true l0 l1 l2) true := by
    obtain ⟨r, hr, hg⟩ := given_ev l0 l1 l2
    refine .s ?_
    simp only [taquinlaw35_StockBack.j0]
    refine .b hr ?_
    cases r with
    | false => exact .n (by simp) (.r _)
    | true =>
      obtain ⟨h0, h1, h2, hR⟩ := hg rfl
      exact .p (by trivial) (.b (.c (bytes_eq hR (by omega) (by omega) (by omega))) (.b (read_bytes l0 l1 l2 hR h0 h1 h2) (.p (by trivial) (.p (by trivial) (.b (same_ev l0 l1 l2 (by omega) (by omega) (by omega)) (.r _))))))
  simp only [taquinlaw35_StockBack.f]
  refine .b small_ev ?_
  by_cases h4 : (a1.size : Int) > 400
  · exact .p h4 (.r _)
  refine .n h4 ?_
  obtain ⟨⟨a, b, c, ok⟩, hev, hy, hn⟩ := read_any a1 (by omega)
  refine .b hev ?_
  cases ok with
  | true =>
    obtain ⟨ha, hb, hc, hR, hB⟩ := hy rfl
    obtain ⟨r, hr, hok⟩ := right_ev a b c ha hb hc
    have hrt : r = true := hok.2 hR
    subst hrt
    exact .p (by trivial) (.b hr (.p (by trivial) (.b (.c hB) (.p (by trivial) hj))))
  | false =>
    obtain ⟨ea, eb, ec⟩ := hn rfl
    simp only at ea eb ec
    subst ea eb ec
    exact .n (by simp) (.n (by simp [wrap64]) hj)
end Go.Proofs.YtemcplbldfldlaaDoor.P
