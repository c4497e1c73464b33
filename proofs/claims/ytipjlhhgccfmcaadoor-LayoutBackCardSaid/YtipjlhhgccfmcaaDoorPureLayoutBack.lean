/- LayoutBack: Read inverts Bytes, and accepts a string only if it is the Bytes of a right layout. -/
import Derived.Test.YtipjlhhgccfmcaaDoorGTypes
import Derived.Test.YtipjlhhgccfmcaaDoorGCodec
import Derived.Test.YtipjlhhgccfmcaaDoorGEv
import Derived.Test.YtipjlhhgccfmcaaDoorPx10
namespace Go.Proofs.YtipjlhhgccfmcaaDoor.P
open Go.RowKit Go.Proofs.YtipjlhhgccfmcaaDoorW.PrintWords Go.Proofs.YtipjlhhgccfmcaaDoorW.PrintLast Go.Proofs.YtipjlhhgccfmcaaDoorW.PrintMore
set_option linter.unusedVariables false
set_option linter.unusedSimpArgs false
set_option maxRecDepth 100000 in
theorem small_ev : Ev (fun k => taquinlaw25_small.f k) true := Ev.of_mono (fun k => taquinlaw25_small.mono k) (k := 10) (by decide +kernel)
def rightB (l : List Bool) (t : Int) : Bool := decide (1 ≤ l.length ∧ l.length ≤ 24 ∧ 0 ≤ t ∧ t < (l.length : Int)) && l.getD t.toNat false
theorem right_eq (l : List Bool) (t : Int) : layout_Right.f l t = some (rightB l t) := by
  unfold layout_Right.f rightB
  by_cases h1 : (l.length : Int) ≥ 1
  · rw [if_pos h1]
    by_cases h2 : (l.length : Int) ≤ 24
    · rw [if_pos h2]
      by_cases h3 : t ≥ 0
      · rw [if_pos h3]
        by_cases h4 : t < (l.length : Int)
        · rw [if_pos h4, if_pos (show 0 ≤ t from h3), decide_eq_true (⟨by omega, by omega, h3, h4⟩ : 1 ≤ l.length ∧ l.length ≤ 24 ∧ 0 ≤ t ∧ t < (l.length : Int)), Bool.true_and]
          rfl
        · rw [if_neg h4, decide_eq_false (by omega), Bool.false_and]
      · rw [if_neg h3, decide_eq_false (by omega), Bool.false_and]
    · rw [if_neg h2, decide_eq_false (by omega), Bool.false_and]
  · rw [if_neg h1, decide_eq_false (by omega), Bool.false_and]
theorem right_parts {l : List Bool} {t : Int} (h : rightB l t = true) : 1 ≤ l.length ∧ l.length ≤ 24 ∧ 0 ≤ t ∧ t < (l.length : Int) ∧ l.getD t.toNat false = true := by
  unfold rightB at h
  rw [Bool.and_eq_true, decide_eq_true_eq] at h
  exact ⟨h.1.1, h.1.2.1, h.1.2.2.1, h.1.2.2.2, h.2⟩
theorem same_l0 (l : List Bool) (t : Int) (hl : l.length ≤ 1000) (d : Nat) : ∀ i : Nat, l.length - i = d → i ≤ l.length → Ev (fun k => taquinref25_Same.l0 k (i : Int) l t l t) true := by
  induction d with
  | zero =>
    intro i hd hi
    refine .s ?_
    simp only [taquinref25_Same.l0]
    exact .n (by omega) (.r _)
  | succ d ih =>
    intro i hd hi
    refine .s ?_
    simp only [taquinref25_Same.l0]
    refine .p (by omega) (.p (by omega) (.p (by omega) (.n (by simp) ?_)))
    rw [w64 (by omega) (by omega)]
    exact ih (i + 1) (by omega) (by omega)
theorem same_ev (l : List Bool) (t : Int) (hl : l.length ≤ 1000) : Ev (fun k => taquinref25_Same.f k l t l t) true := by
  simp only [taquinref25_Same.f]
  refine .p (by trivial) (.s ?_)
  simp only [taquinref25_Same.j0]
  exact .n (by simp) (same_l0 l t hl l.length 0 (by omega) (by omega))
/-- The places below i with a shelf. -/
def atU (l : List Bool) (i : Nat) : List Int := ((List.range i).filter (fun j => l.getD j false)).map (fun (j : Nat) => (j : Int))
theorem atU_succ (l : List Bool) (i : Nat) : atU l (i + 1) = atU l i ++ (if l.getD i false = true then [(i : Int)] else []) := by
  unfold atU
  rw [List.range_succ, List.filter_append, List.map_append]
  congr 1
  rw [List.filter_cons]
  by_cases h : l.getD i false = true
  · rw [if_pos h, if_pos h]; rfl
  · rw [if_neg h, if_neg h]; rfl
theorem atU_len (l : List Bool) (i : Nat) : (atU l i).length ≤ i := by
  unfold atU
  rw [List.length_map]
  exact Nat.le_trans (List.length_filter_le _ _) (by simp)
theorem atU_mem {l : List Bool} {i : Nat} {p : Int} : p ∈ atU l i ↔ 0 ≤ p ∧ p < (i : Int) ∧ l.getD p.toNat false = true := by
  unfold atU
  simp only [List.mem_map, List.mem_filter, List.mem_range]
  constructor
  · rintro ⟨q, ⟨h1, h2⟩, rfl⟩
    exact ⟨by omega, by omega, by simpa using h2⟩
  · rintro ⟨h1, h2, h3⟩
    exact ⟨p.toNat, ⟨by omega, h3⟩, by omega⟩
/-- A layout's bytes. -/
def bytesL (l : List Bool) (t : Int) : List UInt8 := intB (l.length : Int) ++ (numsB (atU l l.length) ++ intB t)
theorem at_inR (l : List Bool) (i : Nat) (hi : i ≤ 1000) : ∀ x ∈ atU l i, inR x = true := fun x hx => by
  have := atU_mem.1 hx
  unfold inR
  exact decide_eq_true (by omega)
theorem num_eq (n : Nat) (h : n ≤ 1000000) : wire_Num.f (n : Int) = some (bs (intB (n : Int))) := by
  unfold wire_Num.f
  rw [if_neg (by omega), int_eq _ (decide_eq_true (by omega))]
  rfl
theorem bytes_l0 (l : List Bool) (t : Int) (hl : l.length ≤ 24) (ht : inR t = true) (d : Nat) : ∀ i : Nat, l.length - i = d → i ≤ l.length → Ev (fun k => layout_Bytes.l0 k (atU l i) l (l.length : Int) (i : Int) l t) (bs (bytesL l t)) := by
  induction d with
  | zero =>
    intro i hd hi
    obtain rfl : i = l.length := by omega
    have h1 := intB_len (l.length : Int) (decide_eq_true (by omega))
    have h2 := atU_len l l.length
    have h3 := at_inR l l.length (by omega)
    have h4 := nums_len (atU l l.length) (by omega) h3
    have h5 := intB_len t ht
    refine .s ?_
    simp only [layout_Bytes.l0]
    refine .n (by omega) (.b (.c (num_eq _ (by omega))) (.b (.c (show wire_Nums.f _ = _ from if_pos ⟨by omega, List.all_eq_true.2 h3⟩)) (.p ?_ (.b (.c (int_eq t ht)) (.p ?_ ((Ev.r _).congr ?_))))))
    · rw [bs_size, show (⟨(numsB (atU l l.length)).toArray⟩ : ByteArray).size = _ from bs_size _]; omega
    · rw [ba_app, show (⟨(intB (l.length : Int) ++ numsB (atU l l.length)).toArray⟩ : ByteArray).size = _ from bs_size _, show (⟨(intB t).toArray⟩ : ByteArray).size = _ from bs_size _, List.length_append]; omega
    · rw [ba_app, ba_app]
      unfold bytesL
      rw [List.append_assoc]
  | succ d ih =>
    intro i hd hi
    have hil : i < l.length := by omega
    have hs := atU_succ l i
    have hla := atU_len l i
    refine .s ?_
    simp only [layout_Bytes.l0]
    refine .p (by omega) (.p (by omega) (.p (by omega) ?_))
    have e : rdOf false l (i : Int) = l.getD i false := by simp [rdOf]
    rw [e]
    by_cases hb : l.getD i false = true
    · rw [if_pos hb] at hs
      refine .p hb (.p (by omega) ?_)
      rw [w64 (by omega) (by omega), ← hs]
      exact ih (i + 1) (by omega) (by omega)
    · rw [if_neg hb, List.append_nil] at hs
      refine .n hb ?_
      rw [w64 (by omega) (by omega), ← hs]
      exact ih (i + 1) (by omega) (by omega)
theorem bytes_ev (l : List Bool) (t : Int) (hl : l.length ≤ 24) (ht : inR t = true) : Ev (fun k => layout_Bytes.f k l t) (bs (bytesL l t)) := by
  simp only [layout_Bytes.f]
  exact bytes_l0 l t hl ht l.length 0 (by omega) (by omega)
theorem bytes_len (l : List Bool) (t : Int) (hl : l.length ≤ 24) (ht : inR t = true) : (bytesL l t).length ≤ 600 := by
  have h1 := intB_len (l.length : Int) (decide_eq_true (by omega))
  have h2 := atU_len l l.length
  have h3 := at_inR l l.length (by omega)
  have h4 := nums_len (atU l l.length) (by omega) h3
  have h5 := intB_len t ht
  simp only [bytesL, List.length_append]
  omega
theorem read_end (s rest : ByteArray) (bad : Bool) (full : List Bool) (t : Int) (hf : full.length ≤ 24) (ht : inR t = true) (at_ : List Int) : ∃ f u ok, Ev (fun k => layout_Read.l0 k s at_ (at_.length : Int) (at_.length : Int) rest bad full t) (f, u, ok) ∧ (ok = true → rightB f u = true ∧ Ev (fun k => layout_Bytes.f k f u) s) ∧ (ok = false → f = [] ∧ u = 0) := by
  have hno : Ev (fun k => layout_Read.j1 k true full t) ([], 0, false) := by
    refine .s ?_
    simp only [layout_Read.j1]
    exact .p (by trivial) (.r _)
  have no : ∀ g : Nat → Option (List Bool × Int × Bool), Ev g ([], 0, false) → ∃ f u ok, Ev g (f, u, ok) ∧ (ok = true → rightB f u = true ∧ Ev (fun k => layout_Bytes.f k f u) s) ∧ (ok = false → f = [] ∧ u = 0) :=
    fun g h => ⟨_, _, _, h, (fun e => by cases e), fun _ => ⟨rfl, rfl⟩⟩
  obtain ⟨dn, hd⟩ : ∃ dn : Bool, wire_Reader_Done.f rest bad = some (dn, rest, bad) := by
    unfold wire_Reader_Done.f
    split
    · exact ⟨_, rfl⟩
    · exact ⟨_, rfl⟩
  cases dn with
  | false =>
    refine no _ (.s ?_)
    simp only [layout_Read.l0]
    exact .n (by omega) (.b (.c hd) (.n (by simp) hno))
  | true =>
    cases hr : rightB full t with
    | false =>
      refine no _ (.s ?_)
      simp only [layout_Read.l0]
      refine .n (by omega) (.b (.c hd) (.p (by trivial) (.b (.c (right_eq full t)) ?_)))
      rw [hr]
      exact .n (by simp) hno
    | true =>
      have hb := bytes_ev full t hf ht
      by_cases he : (bs (bytesL full t)).toList = s.toList
      · have hse := ba_eq he
        refine ⟨full, t, true, .s ?_, fun _ => ⟨hr, hse ▸ hb⟩, fun e => by cases e⟩
        simp only [layout_Read.l0]
        refine .n (by omega) (.b (.c hd) (.p (by trivial) (.b (.c (right_eq full t)) ?_)))
        rw [hr]
        refine .p (by trivial) (.b hb ?_)
        rw [he]
        refine .s ?_
        simp only [layout_Read.j1]
        exact .n (by simp) (.r _)
      · refine no _ (.s ?_)
        simp only [layout_Read.l0]
        refine .n (by omega) (.b (.c hd) (.p (by trivial) (.b (.c (right_eq full t)) ?_)))
        rw [hr]
        refine .p (by trivial) (.b hb ?_)
        rw [show ((bs (bytesL full t)).toList != s.toList) = true from bne_iff_ne.mpr he]
        exact hno
theorem read_l0 (s rest : ByteArray) (bad : Bool) (t : Int) (ht : inR t = true) (at_ : List Int) (hat : at_.length ≤ 2000000) (d : Nat) : ∀ (i : Nat) (full : List Bool), at_.length - i = d → i ≤ at_.length → full.length ≤ 24 →
    ∃ f u ok, Ev (fun k => layout_Read.l0 k s at_ (at_.length : Int) (i : Int) rest bad full t) (f, u, ok) ∧ (ok = true → rightB f u = true ∧ Ev (fun k => layout_Bytes.f k f u) s) ∧ (ok = false → f = [] ∧ u = 0) := by
  induction d with
  | zero =>
    intro i full hd hi hf
    obtain rfl : i = at_.length := by omega
    exact read_end s rest bad full t hf ht at_
  | succ d ih =>
    intro i full hd hi hf
    have e : rd at_ (i : Int) = at_.getD i 0 := by simp [rd]
    by_cases h1 : at_.getD i 0 < 0
    · refine ⟨[], 0, false, .s ?_, (fun e => by cases e), fun _ => ⟨rfl, rfl⟩⟩
      simp only [layout_Read.l0]
      refine .p (by omega) (.p (by omega) (.p (by omega) ?_))
      rw [e]
      exact .p h1 (.r _)
    · by_cases h2 : at_.getD i 0 ≥ (full.length : Int)
      · refine ⟨[], 0, false, .s ?_, (fun e => by cases e), fun _ => ⟨rfl, rfl⟩⟩
        simp only [layout_Read.l0]
        refine .p (by omega) (.p (by omega) (.p (by omega) ?_))
        rw [e]
        exact .n h1 (.p h2 (.r _))
      · obtain ⟨f, u, ok, hev, hr⟩ := ih (i + 1) (full.set (at_.getD i 0).toNat true) (by omega) (by omega) (by simpa using hf)
        refine ⟨f, u, ok, .s ?_, hr⟩
        simp only [layout_Read.l0]
        refine .p (by omega) (.p (by omega) (.p (by omega) ?_))
        rw [e]
        refine .n h1 (.n h2 (.p (by omega) (.p (by omega) ?_)))
        rw [w64 (by omega) (by omega)]
        exact hev
theorem mn_24 (n : Int) (h : 0 ≤ n) : 0 ≤ mn n 24 ∧ mn n 24 ≤ 24 := by
  unfold mn
  split <;> omega
/-- Whatever is read is right and has these bytes, or nothing is read. -/
theorem read_any (s : ByteArray) (hs : s.size ≤ 1000) : ∃ f u ok, Ev (fun k => layout_Read.f k s) (f, u, ok) ∧ (ok = true → rightB f u = true ∧ Ev (fun k => layout_Bytes.f k f u) s) ∧ (ok = false → f = [] ∧ u = 0) := by
  have h0 := numR_ge s false 59 0 (by omega)
  have h1 := (numR_less s false 59 0).1
  obtain ⟨a, r, b', hn, ha, hr⟩ := nums_tells (numR s false 59 0).2.1 (numR s false 59 0).2.2 (by omega)
  have hi := int_call r b' (by omega)
  have hrg := numR_range r b' 59 (-9223372036854775808)
  have hm := mn_24 _ h0
  obtain ⟨f, u, ok, hev, hh⟩ := read_l0 s (numR r b' 59 (-9223372036854775808)).2.1 (numR r b' 59 (-9223372036854775808)).2.2 (numR r b' 59 (-9223372036854775808)).1 (decide_eq_true hrg) a (by omega) a.length 0 (List.replicate (mn (numR s false 59 0).1 24 : Int).toNat false) (by omega) (by omega) (by simp; omega)
  refine ⟨f, u, ok, ?_, hh⟩
  simp only [layout_Read.f]
  refine .b (.c (show wire_Open.f s = some (s, false) from rfl)) (.b (.c (num_tells s false (by omega))) (.b (.c hn) (.p hm.1 (.p (by omega) (.b (.c hi) hev)))))
/-! ### A layout's bytes are read back -/
theorem getD_eq {l m : List Bool} (hl : l.length = m.length) (h : ∀ j, j < l.length → l.getD j false = m.getD j false) : l = m := by
  apply List.ext_getElem hl
  intro j h1 h2
  have := h j h1
  simpa [List.getD_eq_getElem?_getD, h1, h2] using this
theorem back_l0 (l : List Bool) (t : Int) (hr : rightB l t = true) (d : Nat) : ∀ (i : Nat) (full : List Bool), (atU l l.length).length - i = d → i ≤ (atU l l.length).length → full.length = l.length → (∀ j, j < l.length → full.getD j false = decide ((j : Int) ∈ (atU l l.length).take i)) →
    Ev (fun k => layout_Read.l0 k (bs (bytesL l t)) (atU l l.length) ((atU l l.length).length : Int) (i : Int) (bs []) false full t) (l, t, true) := by
  obtain ⟨p1, p2, p3, p4, p5⟩ := right_parts hr
  have hin : inR t = true := decide_eq_true (by omega)
  have hal := atU_len l l.length
  induction d with
  | zero =>
    intro i full hd hi hf hg
    obtain rfl : i = (atU l l.length).length := by omega
    have e : full = l := getD_eq hf (fun j hj => by
      rw [hg j (by omega), List.take_of_length_le (Nat.le_refl _)]
      apply Bool.eq_iff_iff.2
      rw [decide_eq_true_eq, atU_mem]
      exact ⟨fun h => by simpa using h.2.2, fun h => ⟨by omega, by omega, by simpa using h⟩⟩)
    subst e
    have hd : wire_Reader_Done.f (bs []) false = some (true, bs [], false) := by
      unfold wire_Reader_Done.f
      rw [if_neg (by simp), ba_list]
      rfl
    refine .s ?_
    simp only [layout_Read.l0]
    refine .n (by omega) (.b (.c hd) (.p (by trivial) (.b (.c (right_eq full t)) ?_)))
    rw [hr]
    refine .p (by trivial) (.b (bytes_ev full t p2 hin) ?_)
    rw [show ((bs (bytesL full t)).toList != (bs (bytesL full t)).toList) = false by simp]
    refine .s ?_
    simp only [layout_Read.j1]
    exact .n (by simp) (.r _)
  | succ d ih =>
    intro i full hd hi hf hg
    have hlt : i < (atU l l.length).length := by omega
    have hm := atU_mem.1 (getD_mem (atU l l.length) i 0 hlt)
    have e : rd (atU l l.length) (i : Int) = (atU l l.length).getD i 0 := by simp [rd]
    refine .s ?_
    simp only [layout_Read.l0]
    refine .p (by omega) (.p (by omega) (.p (by omega) ?_))
    rw [e]
    refine .n (by omega) (.n (by omega) (.p (by omega) (.p (by omega) ?_)))
    rw [w64 (by omega) (by omega)]
    refine ih (i + 1) _ (by omega) (by omega) (by simpa using hf) (fun j hj => ?_)
    rw [List.take_succ_eq_append_getElem hlt]
    have e2 : (atU l l.length)[i] = (atU l l.length).getD i 0 := by simp [List.getD_eq_getElem?_getD, hlt]
    rw [e2]
    have hg2 := hg j hj
    generalize (atU l l.length).getD i 0 = p at hm
    by_cases hjp : (j : Int) = p
    · subst hjp
      rw [Int.toNat_natCast, decide_eq_true (by simp)]
      simp [List.getD_eq_getElem?_getD, List.getElem?_set, show j < full.length by omega]
    · have e3 : (full.set p.toNat true).getD j false = full.getD j false := by
        simp only [List.getD_eq_getElem?_getD]
        rw [List.getElem?_set_ne (by omega)]
      rw [e3, hg2]
      congr 1
      simp [hjp]
theorem read_bytes (l : List Bool) (t : Int) (hr : rightB l t = true) : Ev (fun k => layout_Read.f k (bs (bytesL l t))) (l, t, true) := by
  obtain ⟨p1, p2, p3, p4, p5⟩ := right_parts hr
  have hin : inR t = true := decide_eq_true (by omega)
  have hal := atU_len l l.length
  have hlen := bytes_len l t p2 hin
  have h1 : numR (bs (bytesL l t)) false 59 0 = ((l.length : Int), bs (numsB (atU l l.length) ++ intB t), false) := num_app _ (by omega) (by omega) _ _
  have h2 : (numsB (atU l l.length) ++ intB t).length ≤ 1000000 := by
    unfold bytesL at hlen
    rw [List.length_append] at hlen
    omega
  have h3 := nums_app (atU l l.length) (by omega) (at_inR l _ (by omega)) (intB t) h2
  have h5 := intB_len t hin
  have h4 : wire_Reader_Int.f (bs (intB t)) false = some (t, bs [], false) := by
    rw [int_call _ _ (by rw [bs_size]; omega)]
    have := int_app t hin [] false
    rw [List.append_nil] at this
    rw [this]
  have hm : mn (l.length : Int) 24 = (l.length : Int) := by
    unfold mn
    split <;> omega
  simp only [layout_Read.f]
  refine .b (.c (show wire_Open.f _ = some (_, false) from rfl)) (.b (.c (num_tells _ false (by rw [bs_size]; omega))) ?_)
  rw [h1]
  refine .b (.c h3) ?_
  rw [hm]
  refine .p (by omega) (.p (by omega) (.b (.c h4) ?_))
  have := back_l0 l t hr (atU l l.length).length 0 (List.replicate l.length false) (by omega) (by omega) (by simp) (fun j hj => by simp [List.getD_eq_getElem?_getD, hj])
  simpa using this
theorem LayoutBack (x0 : S24) (a1 : ByteArray) (wf0 : wf24 x0) (y1 : a1.size ≤ maxLen) : ∃ k, taquinlaw25_LayoutBack.f k x0.f0 x0.f1 a1 = some true := by
  obtain ⟨l, t⟩ := x0
  simp only
  refine Ev.ex (f := fun k => taquinlaw25_LayoutBack.f k l t a1) ?_
  have hout : Ev (fun k => taquinlaw25_LayoutBack.j0 k a1 true true l t) true := by
    refine .s ?_
    simp only [taquinlaw25_LayoutBack.j0]
    exact .p (by trivial) (.r _)
  simp only [taquinlaw25_LayoutBack.f]
  refine .b small_ev ?_
  by_cases h24 : (l.length : Int) > 24
  · exact .p h24 hout
  refine .n h24 ?_
  by_cases h200 : (a1.size : Int) > 200
  · rw [decide_eq_true h200]
    exact hout
  rw [decide_eq_false h200]
  have hj1 : Ev (fun k => taquinlaw25_LayoutBack.j1 k a1 true) true := by
    obtain ⟨f, u, ok, hev, h1, h2⟩ := read_any a1 (by omega)
    refine .s ?_
    simp only [taquinlaw25_LayoutBack.j1]
    refine .b hev ?_
    cases ok with
    | true =>
      obtain ⟨hr, hb⟩ := h1 rfl
      refine .p (by trivial) (.p (by trivial) (.b (.c (right_eq f u)) ?_))
      rw [hr]
      exact .p (by trivial) (.b hb ((Ev.r _).congr (by simp)))
    | false =>
      obtain ⟨rfl, rfl⟩ := h2 rfl
      exact .n (by simp) (.p (by trivial) (.p (by trivial) ((Ev.r _).congr (by simp))))
  refine .s ?_
  simp only [taquinlaw25_LayoutBack.j0]
  refine .n (by simp) (.b (.c (right_eq l t)) ?_)
  cases hr : rightB l t with
  | false => exact .n (by simp) hj1
  | true =>
    obtain ⟨p1, p2, p3, p4, p5⟩ := right_parts hr
    exact .p (by trivial) (.b (bytes_ev l t p2 (decide_eq_true (by omega))) (.b (read_bytes l t hr) (.p (by trivial) (.b (same_ev l t (by omega)) (.p (by trivial) hj1)))))
end Go.Proofs.YtipjlhhgccfmcaaDoor.P
