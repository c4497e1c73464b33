/- From the reading of an argument (DataW.trod) to the print's kinds: integers, bools, strings, slices, structs. -/
import Derived.Test.YtipjlhhgccfmcaaDoorPx0
import Derived.ChangeSlices
import Derived.ChangeArms
import Derived.DataElems
import Derived.DataReads
import Derived.Deep.Slices
namespace Go.Proofs.YtipjlhhgccfmcaaDoor.P
open Go.RowKit Go.Proofs.YtipjlhhgccfmcaaDoorW.PrintWords Go.Proofs.YtipjlhhgccfmcaaDoorW.PrintLast
set_option linter.unusedVariables false
set_option linter.unusedSimpArgs false

/-- Whatever can be read at type t is of the kind d, and wf. -/
def Rd {α : Type} (P : Program) (d : Kd α) (wf : α → Prop) (t : TypeId) : Prop :=
  ∀ {H : Type} {enc : TypeId × Value → H} {w : World} {fuel : Nat} {cs : List Value} {x : DataW H × List MemPlace},
    DataW.trod enc P w 0 (fun _ => true) true fuel t cs = some x → ∃ a : α, d.K w a cs ∧ wf a
def wfI (k : IntKind) (n : Int) : Prop := (Lit.int k n).wf = true
def wfS (s : ByteArray) : Prop := s.size ≤ 9223372036854775807
def wfB (_ : Bool) : Prop := True
def wfL {α : Type} (wf : α → Prop) (l : List α) : Prop := (∀ x ∈ l, wf x) ∧ l.length ≤ 9223372036854775807
theorem wfI_i64 {n : Int} (h : wfI .i64 n) : -9223372036854775808 ≤ n ∧ n ≤ 9223372036854775807 := by
  simp [wfI, Lit.wf, IntKind.min, IntKind.max, IntKind.signed, IntKind.bits] at h
  omega
section
variable {P : Program} {t e : TypeId}
theorem Rd.int {k : IntKind} (ht : P.underlying t = some (.int k)) : Rd P (Kd.int k) (wfI k) t := by
  intro H enc w fuel cs x h
  obtain ⟨n, rfl, _, hw⟩ := DataW.trod_int ht h
  exact ⟨n, rfl, hw⟩
theorem Rd.bool (ht : P.underlying t = some .bool) : Rd P Kd.bool wfB t := by
  intro H enc w fuel cs x h
  obtain ⟨b, rfl, _⟩ := DataW.trod_bool ht h
  exact ⟨b, rfl, trivial⟩
theorem Rd.string (ht : P.underlying t = some .string) : Rd P Kd.string wfS t := by
  intro H enc w fuel cs x h
  obtain ⟨s, rfl, _, hs⟩ := DataW.trod_string ht h
  exact ⟨s, rfl, by simpa [wfS, maxLen] using hs⟩
theorem mapM_some {α β : Type} {f : α → Option β} : ∀ {l : List α} {ys : List β}, l.mapM f = some ys → ys.length = l.length ∧ ∀ (i : Nat) (a : α), l[i]? = some a → ∃ y, ys[i]? = some y ∧ f a = some y
  | [], ys, h => by simp at h; subst h; exact ⟨rfl, fun i a ha => by simp at ha⟩
  | a :: l, ys, h => by
    rw [List.mapM_cons] at h
    simp only [Option.bind_eq_bind, Option.bind_eq_some_iff, Option.pure_def, Option.some.injEq] at h
    obtain ⟨y, hy, zs, hz, rfl⟩ := h
    obtain ⟨h1, h2⟩ := mapM_some hz
    refine ⟨by simp [h1], fun i b hb => ?_⟩
    cases i with
    | zero => simp at hb; subst hb; exact ⟨y, by simp, hy⟩
    | succ i => simpa using h2 i b (by simpa using hb)
theorem cells_some {w : World} {a : Addr} {n : Nat} {cs : List Value} (h : w.cells? 0 a n = some cs) : cs.length = n ∧ ∀ (i : Nat) (u : Value), cs[i]? = some u → w.cell? (a.add i) = some u := by
  unfold World.cells? at h
  rw [if_pos (Nat.zero_le _)] at h
  obtain ⟨h1, h2⟩ := mapM_some h
  rw [List.length_range] at h1
  refine ⟨h1, fun i u hu => ?_⟩
  have hi : i < n := by rw [← h1]; exact (List.getElem?_eq_some_iff.1 hu).1
  obtain ⟨y, hy, hc⟩ := h2 i i (by simp [hi])
  rw [hy] at hu
  cases hu
  exact hc
theorem list_of {α : Type} {p : Nat → α → Prop} : ∀ (n : Nat), (∀ i, i < n → ∃ x, p i x) → ∃ xs : List α, xs.length = n ∧ ∀ i x, xs[i]? = some x → p i x
  | 0, _ => ⟨[], rfl, fun i x h => by simp at h⟩
  | n + 1, h => by
    obtain ⟨xs, hl, hx⟩ := list_of n (fun i hi => h i (by omega))
    obtain ⟨y, hy⟩ := h n (by omega)
    refine ⟨xs ++ [y], by simp [hl], fun i x hi => ?_⟩
    rcases Nat.lt_or_ge i xs.length with hlt | hge
    · rw [List.getElem?_append_left hlt] at hi; exact hx i x hi
    · rw [List.getElem?_append_right hge] at hi
      have : i - xs.length = 0 := by
        have := (List.getElem?_eq_some_iff.1 hi).1
        simp at this; omega
      rw [this] at hi
      simp at hi
      subst hi
      rw [show i = n from by omega]
      exact hy
theorem Rd.slice {α : Type} {d : Kd α} {wf : α → Prop} (ht : P.underlying t = some (.slice e)) (hc : P.cellsOf e = d.sz) (r : Rd P d wf e) : Rd P (Kd.slice e d) (wfL wf) t := by
  intro H enc w fuel cs x h
  rcases DataW.trod_slice ht h with ⟨rfl, _⟩ | ⟨a, len, cap, elems, rest, n, rfl, rfl, _, _, hlc, hcm, hel, hget, _⟩
  · exact ⟨[], ⟨none, 0, rfl, Nat.le_refl _, rfl, by simp, fun h0 => absurd h0 (by simp)⟩, ⟨fun x hx => by simp at hx, by simp⟩⟩
  · rw [hc] at hget
    obtain ⟨xs, hxl, hx⟩ := list_of (α := α) (p := fun i x => ∃ c, w.cells? 0 (a.add (i * d.sz)) d.sz = some c ∧ d.K w x c ∧ wf x) len (fun i hi => by
      have h1 := hget i hi
      rw [List.getElem?_eq_getElem (by omega)] at h1
      obtain ⟨c, hc1, hc2⟩ := Option.bind_eq_some_iff.1 h1
      obtain ⟨y, hy, hw⟩ := r hc2
      exact ⟨y, c, hc1, hy, hw⟩)
    subst hxl
    have hml : cap ≤ 9223372036854775807 := by simpa [maxLen] using hcm
    refine ⟨xs, ⟨some a, cap, rfl, hlc, rfl, by omega, fun _ => ⟨a, rfl, fun j p hp => ?_⟩⟩, fun x hxm => ?_, by omega⟩
    · obtain ⟨c, hc1, hc2, _⟩ := hx j p hp
      obtain ⟨h1, h2⟩ := cells_some hc1
      exact ⟨c, h1, hc2, fun i u hu => by rw [← Addr.add_add]; exact h2 i u hu⟩
    · obtain ⟨j, hj, rfl⟩ := List.mem_iff_getElem.1 hxm
      obtain ⟨_, _, _, hw⟩ := hx j _ (List.getElem?_eq_getElem hj)
      exact hw
theorem Rd.iso {α β : Type} {d : Kd α} {wf : α → Prop} (f : β → α) (g : α → β) (hfg : ∀ a, f (g a) = a) (r : Rd P d wf t) : Rd P (Kd.iso d f) (fun b => wf (f b)) t := by
  intro H enc w fuel cs x h
  obtain ⟨a, ha, hw⟩ := r h
  exact ⟨g a, by show d.K w (f (g a)) cs; rw [hfg]; exact ha, by show wf (f (g a)); rw [hfg]; exact hw⟩
theorem pairK {α β : Type} {a : Kd α} {b : Kd β} {w : World} {x : α} {y : β} {cs : List Value} (s : Nat) (h0 : a.K w x (cs.take s)) (h1 : b.K w y (cs.drop s)) : (Kd.pair a b).K w (x, y) cs :=
  ⟨_, _, (List.take_append_drop s cs).symm, h0, h1⟩

theorem Rd.struct2 {α0 α1 : Type} {d0 : Kd α0} {wf0 : α0 → Prop} {d1 : Kd α1} {wf1 : α1 → Prop} {f0 f1 : Field} (hs : P.underlying t = some (.struct #[f0, f1])) (o0 : f0.offset = 0) (c0 : P.cellsOf f0.type = d0.sz) (o1 : f1.offset = d0.sz) (c1 : P.cellsOf f1.type = d1.sz) (c : P.cellsOf t = d0.sz + d1.sz) (r0 : Rd P d0 wf0 f0.type) (r1 : Rd P d1 wf1 f1.type) :
    Rd P (Kd.pair d0 d1) (fun x => wf0 x.1 ∧ wf1 x.2) t := by
  intro H enc w fuel cs x h
  obtain ⟨xs, m, _, _, hcl, hxl, hf⟩ := DataW.trod_struct hs h
  rw [c] at hcl
  have hxl' : xs.length = 2 := hxl
  have h0 := hf 0 f0 rfl
  rw [List.getElem?_eq_getElem (by omega), o0, c0] at h0
  obtain ⟨a0, k0, w0⟩ := r0 h0
  have h1 := hf 1 f1 rfl
  rw [List.getElem?_eq_getElem (by omega), o1, c1] at h1
  obtain ⟨a1, k1, w1⟩ := r1 h1
  rw [List.take_of_length_le (by rw [List.length_drop]; omega)] at k1
  exact ⟨(a0, a1), pairK d0.sz (by simpa [List.drop_drop, Nat.add_assoc] using k0) (by simpa [List.drop_drop, Nat.add_assoc] using k1), ⟨w0, w1⟩⟩
theorem Rd.struct3 {α0 α1 α2 : Type} {d0 : Kd α0} {wf0 : α0 → Prop} {d1 : Kd α1} {wf1 : α1 → Prop} {d2 : Kd α2} {wf2 : α2 → Prop} {f0 f1 f2 : Field} (hs : P.underlying t = some (.struct #[f0, f1, f2])) (o0 : f0.offset = 0) (c0 : P.cellsOf f0.type = d0.sz) (o1 : f1.offset = d0.sz) (c1 : P.cellsOf f1.type = d1.sz) (o2 : f2.offset = d0.sz + d1.sz) (c2 : P.cellsOf f2.type = d2.sz) (c : P.cellsOf t = d0.sz + d1.sz + d2.sz) (r0 : Rd P d0 wf0 f0.type) (r1 : Rd P d1 wf1 f1.type) (r2 : Rd P d2 wf2 f2.type) :
    Rd P (Kd.pair d0 (Kd.pair d1 d2)) (fun x => wf0 x.1 ∧ wf1 x.2.1 ∧ wf2 x.2.2) t := by
  intro H enc w fuel cs x h
  obtain ⟨xs, m, _, _, hcl, hxl, hf⟩ := DataW.trod_struct hs h
  rw [c] at hcl
  have hxl' : xs.length = 3 := hxl
  have h0 := hf 0 f0 rfl
  rw [List.getElem?_eq_getElem (by omega), o0, c0] at h0
  obtain ⟨a0, k0, w0⟩ := r0 h0
  have h1 := hf 1 f1 rfl
  rw [List.getElem?_eq_getElem (by omega), o1, c1] at h1
  obtain ⟨a1, k1, w1⟩ := r1 h1
  have h2 := hf 2 f2 rfl
  rw [List.getElem?_eq_getElem (by omega), o2, c2] at h2
  obtain ⟨a2, k2, w2⟩ := r2 h2
  rw [List.take_of_length_le (by rw [List.length_drop]; omega)] at k2
  exact ⟨(a0, a1, a2), pairK d0.sz (by simpa [List.drop_drop, Nat.add_assoc] using k0) (pairK d1.sz (by simpa [List.drop_drop, Nat.add_assoc] using k1) (by simpa [List.drop_drop, Nat.add_assoc] using k2)), ⟨w0, w1, w2⟩⟩
theorem Rd.struct4 {α0 α1 α2 α3 : Type} {d0 : Kd α0} {wf0 : α0 → Prop} {d1 : Kd α1} {wf1 : α1 → Prop} {d2 : Kd α2} {wf2 : α2 → Prop} {d3 : Kd α3} {wf3 : α3 → Prop} {f0 f1 f2 f3 : Field} (hs : P.underlying t = some (.struct #[f0, f1, f2, f3])) (o0 : f0.offset = 0) (c0 : P.cellsOf f0.type = d0.sz) (o1 : f1.offset = d0.sz) (c1 : P.cellsOf f1.type = d1.sz) (o2 : f2.offset = d0.sz + d1.sz) (c2 : P.cellsOf f2.type = d2.sz) (o3 : f3.offset = d0.sz + d1.sz + d2.sz) (c3 : P.cellsOf f3.type = d3.sz) (c : P.cellsOf t = d0.sz + d1.sz + d2.sz + d3.sz) (r0 : Rd P d0 wf0 f0.type) (r1 : Rd P d1 wf1 f1.type) (r2 : Rd P d2 wf2 f2.type) (r3 : Rd P d3 wf3 f3.type) :
    Rd P (Kd.pair d0 (Kd.pair d1 (Kd.pair d2 d3))) (fun x => wf0 x.1 ∧ wf1 x.2.1 ∧ wf2 x.2.2.1 ∧ wf3 x.2.2.2) t := by
  intro H enc w fuel cs x h
  obtain ⟨xs, m, _, _, hcl, hxl, hf⟩ := DataW.trod_struct hs h
  rw [c] at hcl
  have hxl' : xs.length = 4 := hxl
  have h0 := hf 0 f0 rfl
  rw [List.getElem?_eq_getElem (by omega), o0, c0] at h0
  obtain ⟨a0, k0, w0⟩ := r0 h0
  have h1 := hf 1 f1 rfl
  rw [List.getElem?_eq_getElem (by omega), o1, c1] at h1
  obtain ⟨a1, k1, w1⟩ := r1 h1
  have h2 := hf 2 f2 rfl
  rw [List.getElem?_eq_getElem (by omega), o2, c2] at h2
  obtain ⟨a2, k2, w2⟩ := r2 h2
  have h3 := hf 3 f3 rfl
  rw [List.getElem?_eq_getElem (by omega), o3, c3] at h3
  obtain ⟨a3, k3, w3⟩ := r3 h3
  rw [List.take_of_length_le (by rw [List.length_drop]; omega)] at k3
  exact ⟨(a0, a1, a2, a3), pairK d0.sz (by simpa [List.drop_drop, Nat.add_assoc] using k0) (pairK d1.sz (by simpa [List.drop_drop, Nat.add_assoc] using k1) (pairK d2.sz (by simpa [List.drop_drop, Nat.add_assoc] using k2) (by simpa [List.drop_drop, Nat.add_assoc] using k3))), ⟨w0, w1, w2, w3⟩⟩
theorem Rd.struct5 {α0 α1 α2 α3 α4 : Type} {d0 : Kd α0} {wf0 : α0 → Prop} {d1 : Kd α1} {wf1 : α1 → Prop} {d2 : Kd α2} {wf2 : α2 → Prop} {d3 : Kd α3} {wf3 : α3 → Prop} {d4 : Kd α4} {wf4 : α4 → Prop} {f0 f1 f2 f3 f4 : Field} (hs : P.underlying t = some (.struct #[f0, f1, f2, f3, f4])) (o0 : f0.offset = 0) (c0 : P.cellsOf f0.type = d0.sz) (o1 : f1.offset = d0.sz) (c1 : P.cellsOf f1.type = d1.sz) (o2 : f2.offset = d0.sz + d1.sz) (c2 : P.cellsOf f2.type = d2.sz) (o3 : f3.offset = d0.sz + d1.sz + d2.sz) (c3 : P.cellsOf f3.type = d3.sz) (o4 : f4.offset = d0.sz + d1.sz + d2.sz + d3.sz) (c4 : P.cellsOf f4.type = d4.sz) (c : P.cellsOf t = d0.sz + d1.sz + d2.sz + d3.sz + d4.sz) (r0 : Rd P d0 wf0 f0.type) (r1 : Rd P d1 wf1 f1.type) (r2 : Rd P d2 wf2 f2.type) (r3 : Rd P d3 wf3 f3.type) (r4 : Rd P d4 wf4 f4.type) :
    Rd P (Kd.pair d0 (Kd.pair d1 (Kd.pair d2 (Kd.pair d3 d4)))) (fun x => wf0 x.1 ∧ wf1 x.2.1 ∧ wf2 x.2.2.1 ∧ wf3 x.2.2.2.1 ∧ wf4 x.2.2.2.2) t := by
  intro H enc w fuel cs x h
  obtain ⟨xs, m, _, _, hcl, hxl, hf⟩ := DataW.trod_struct hs h
  rw [c] at hcl
  have hxl' : xs.length = 5 := hxl
  have h0 := hf 0 f0 rfl
  rw [List.getElem?_eq_getElem (by omega), o0, c0] at h0
  obtain ⟨a0, k0, w0⟩ := r0 h0
  have h1 := hf 1 f1 rfl
  rw [List.getElem?_eq_getElem (by omega), o1, c1] at h1
  obtain ⟨a1, k1, w1⟩ := r1 h1
  have h2 := hf 2 f2 rfl
  rw [List.getElem?_eq_getElem (by omega), o2, c2] at h2
  obtain ⟨a2, k2, w2⟩ := r2 h2
  have h3 := hf 3 f3 rfl
  rw [List.getElem?_eq_getElem (by omega), o3, c3] at h3
  obtain ⟨a3, k3, w3⟩ := r3 h3
  have h4 := hf 4 f4 rfl
  rw [List.getElem?_eq_getElem (by omega), o4, c4] at h4
  obtain ⟨a4, k4, w4⟩ := r4 h4
  rw [List.take_of_length_le (by rw [List.length_drop]; omega)] at k4
  exact ⟨(a0, a1, a2, a3, a4), pairK d0.sz (by simpa [List.drop_drop, Nat.add_assoc] using k0) (pairK d1.sz (by simpa [List.drop_drop, Nat.add_assoc] using k1) (pairK d2.sz (by simpa [List.drop_drop, Nat.add_assoc] using k2) (pairK d3.sz (by simpa [List.drop_drop, Nat.add_assoc] using k3) (by simpa [List.drop_drop, Nat.add_assoc] using k4)))), ⟨w0, w1, w2, w3, w4⟩⟩
theorem Rd.struct6 {α0 α1 α2 α3 α4 α5 : Type} {d0 : Kd α0} {wf0 : α0 → Prop} {d1 : Kd α1} {wf1 : α1 → Prop} {d2 : Kd α2} {wf2 : α2 → Prop} {d3 : Kd α3} {wf3 : α3 → Prop} {d4 : Kd α4} {wf4 : α4 → Prop} {d5 : Kd α5} {wf5 : α5 → Prop} {f0 f1 f2 f3 f4 f5 : Field} (hs : P.underlying t = some (.struct #[f0, f1, f2, f3, f4, f5])) (o0 : f0.offset = 0) (c0 : P.cellsOf f0.type = d0.sz) (o1 : f1.offset = d0.sz) (c1 : P.cellsOf f1.type = d1.sz) (o2 : f2.offset = d0.sz + d1.sz) (c2 : P.cellsOf f2.type = d2.sz) (o3 : f3.offset = d0.sz + d1.sz + d2.sz) (c3 : P.cellsOf f3.type = d3.sz) (o4 : f4.offset = d0.sz + d1.sz + d2.sz + d3.sz) (c4 : P.cellsOf f4.type = d4.sz) (o5 : f5.offset = d0.sz + d1.sz + d2.sz + d3.sz + d4.sz) (c5 : P.cellsOf f5.type = d5.sz) (c : P.cellsOf t = d0.sz + d1.sz + d2.sz + d3.sz + d4.sz + d5.sz) (r0 : Rd P d0 wf0 f0.type) (r1 : Rd P d1 wf1 f1.type) (r2 : Rd P d2 wf2 f2.type) (r3 : Rd P d3 wf3 f3.type) (r4 : Rd P d4 wf4 f4.type) (r5 : Rd P d5 wf5 f5.type) :
    Rd P (Kd.pair d0 (Kd.pair d1 (Kd.pair d2 (Kd.pair d3 (Kd.pair d4 d5))))) (fun x => wf0 x.1 ∧ wf1 x.2.1 ∧ wf2 x.2.2.1 ∧ wf3 x.2.2.2.1 ∧ wf4 x.2.2.2.2.1 ∧ wf5 x.2.2.2.2.2) t := by
  intro H enc w fuel cs x h
  obtain ⟨xs, m, _, _, hcl, hxl, hf⟩ := DataW.trod_struct hs h
  rw [c] at hcl
  have hxl' : xs.length = 6 := hxl
  have h0 := hf 0 f0 rfl
  rw [List.getElem?_eq_getElem (by omega), o0, c0] at h0
  obtain ⟨a0, k0, w0⟩ := r0 h0
  have h1 := hf 1 f1 rfl
  rw [List.getElem?_eq_getElem (by omega), o1, c1] at h1
  obtain ⟨a1, k1, w1⟩ := r1 h1
  have h2 := hf 2 f2 rfl
  rw [List.getElem?_eq_getElem (by omega), o2, c2] at h2
  obtain ⟨a2, k2, w2⟩ := r2 h2
  have h3 := hf 3 f3 rfl
  rw [List.getElem?_eq_getElem (by omega), o3, c3] at h3
  obtain ⟨a3, k3, w3⟩ := r3 h3
  have h4 := hf 4 f4 rfl
  rw [List.getElem?_eq_getElem (by omega), o4, c4] at h4
  obtain ⟨a4, k4, w4⟩ := r4 h4
  have h5 := hf 5 f5 rfl
  rw [List.getElem?_eq_getElem (by omega), o5, c5] at h5
  obtain ⟨a5, k5, w5⟩ := r5 h5
  rw [List.take_of_length_le (by rw [List.length_drop]; omega)] at k5
  exact ⟨(a0, a1, a2, a3, a4, a5), pairK d0.sz (by simpa [List.drop_drop, Nat.add_assoc] using k0) (pairK d1.sz (by simpa [List.drop_drop, Nat.add_assoc] using k1) (pairK d2.sz (by simpa [List.drop_drop, Nat.add_assoc] using k2) (pairK d3.sz (by simpa [List.drop_drop, Nat.add_assoc] using k3) (pairK d4.sz (by simpa [List.drop_drop, Nat.add_assoc] using k4) (by simpa [List.drop_drop, Nat.add_assoc] using k5))))), ⟨w0, w1, w2, w3, w4, w5⟩⟩
theorem Rd.struct7 {α0 α1 α2 α3 α4 α5 α6 : Type} {d0 : Kd α0} {wf0 : α0 → Prop} {d1 : Kd α1} {wf1 : α1 → Prop} {d2 : Kd α2} {wf2 : α2 → Prop} {d3 : Kd α3} {wf3 : α3 → Prop} {d4 : Kd α4} {wf4 : α4 → Prop} {d5 : Kd α5} {wf5 : α5 → Prop} {d6 : Kd α6} {wf6 : α6 → Prop} {f0 f1 f2 f3 f4 f5 f6 : Field} (hs : P.underlying t = some (.struct #[f0, f1, f2, f3, f4, f5, f6])) (o0 : f0.offset = 0) (c0 : P.cellsOf f0.type = d0.sz) (o1 : f1.offset = d0.sz) (c1 : P.cellsOf f1.type = d1.sz) (o2 : f2.offset = d0.sz + d1.sz) (c2 : P.cellsOf f2.type = d2.sz) (o3 : f3.offset = d0.sz + d1.sz + d2.sz) (c3 : P.cellsOf f3.type = d3.sz) (o4 : f4.offset = d0.sz + d1.sz + d2.sz + d3.sz) (c4 : P.cellsOf f4.type = d4.sz) (o5 : f5.offset = d0.sz + d1.sz + d2.sz + d3.sz + d4.sz) (c5 : P.cellsOf f5.type = d5.sz) (o6 : f6.offset = d0.sz + d1.sz + d2.sz + d3.sz + d4.sz + d5.sz) (c6 : P.cellsOf f6.type = d6.sz) (c : P.cellsOf t = d0.sz + d1.sz + d2.sz + d3.sz + d4.sz + d5.sz + d6.sz) (r0 : Rd P d0 wf0 f0.type) (r1 : Rd P d1 wf1 f1.type) (r2 : Rd P d2 wf2 f2.type) (r3 : Rd P d3 wf3 f3.type) (r4 : Rd P d4 wf4 f4.type) (r5 : Rd P d5 wf5 f5.type) (r6 : Rd P d6 wf6 f6.type) :
    Rd P (Kd.pair d0 (Kd.pair d1 (Kd.pair d2 (Kd.pair d3 (Kd.pair d4 (Kd.pair d5 d6)))))) (fun x => wf0 x.1 ∧ wf1 x.2.1 ∧ wf2 x.2.2.1 ∧ wf3 x.2.2.2.1 ∧ wf4 x.2.2.2.2.1 ∧ wf5 x.2.2.2.2.2.1 ∧ wf6 x.2.2.2.2.2.2) t := by
  intro H enc w fuel cs x h
  obtain ⟨xs, m, _, _, hcl, hxl, hf⟩ := DataW.trod_struct hs h
  rw [c] at hcl
  have hxl' : xs.length = 7 := hxl
  have h0 := hf 0 f0 rfl
  rw [List.getElem?_eq_getElem (by omega), o0, c0] at h0
  obtain ⟨a0, k0, w0⟩ := r0 h0
  have h1 := hf 1 f1 rfl
  rw [List.getElem?_eq_getElem (by omega), o1, c1] at h1
  obtain ⟨a1, k1, w1⟩ := r1 h1
  have h2 := hf 2 f2 rfl
  rw [List.getElem?_eq_getElem (by omega), o2, c2] at h2
  obtain ⟨a2, k2, w2⟩ := r2 h2
  have h3 := hf 3 f3 rfl
  rw [List.getElem?_eq_getElem (by omega), o3, c3] at h3
  obtain ⟨a3, k3, w3⟩ := r3 h3
  have h4 := hf 4 f4 rfl
  rw [List.getElem?_eq_getElem (by omega), o4, c4] at h4
  obtain ⟨a4, k4, w4⟩ := r4 h4
  have h5 := hf 5 f5 rfl
  rw [List.getElem?_eq_getElem (by omega), o5, c5] at h5
  obtain ⟨a5, k5, w5⟩ := r5 h5
  have h6 := hf 6 f6 rfl
  rw [List.getElem?_eq_getElem (by omega), o6, c6] at h6
  obtain ⟨a6, k6, w6⟩ := r6 h6
  rw [List.take_of_length_le (by rw [List.length_drop]; omega)] at k6
  exact ⟨(a0, a1, a2, a3, a4, a5, a6), pairK d0.sz (by simpa [List.drop_drop, Nat.add_assoc] using k0) (pairK d1.sz (by simpa [List.drop_drop, Nat.add_assoc] using k1) (pairK d2.sz (by simpa [List.drop_drop, Nat.add_assoc] using k2) (pairK d3.sz (by simpa [List.drop_drop, Nat.add_assoc] using k3) (pairK d4.sz (by simpa [List.drop_drop, Nat.add_assoc] using k4) (pairK d5.sz (by simpa [List.drop_drop, Nat.add_assoc] using k5) (by simpa [List.drop_drop, Nat.add_assoc] using k6)))))), ⟨w0, w1, w2, w3, w4, w5, w6⟩⟩
end
end Go.Proofs.YtipjlhhgccfmcaaDoor.P
