/- What strconv reads of the package's variables; strconv.Itoa. -/
import Derived.Test.YtipjlhhgccfmcaaDoorGShelf
import Derived.Test.YtipjlhhgccfmcaaDoorGNum
import Derived.Test.YtipjlhhgccfmcaaDoorPx0
import Derived.Lib.AppendIntMem
import Derived.KernelRfl
namespace Go.Proofs.YtipjlhhgccfmcaaDoor.P
open Go.RowKit Go.Proofs.YtipjlhhgccfmcaaDoorW.PrintWords Go.Proofs.YtipjlhhgccfmcaaDoorW.PrintLast Go.Proofs.YtipjlhhgccfmcaaDoorW.PrintMore
set_option linter.unusedVariables false
set_option linter.unusedSimpArgs false
/-- What is read of the library's variables. -/
structure Tab (w : World) : Prop where
  pow : Lib.TabIs Tryd.prog w "internal/strconv.uint64pow10" .u64 Lib.pow10Tab
  syn : ∃ tp p, w.var? Tryd.prog "strconv.ErrSyntax" = some #[.iface tp p]
  rng : ∃ tp p, w.var? Tryd.prog "strconv.ErrRange" = some #[.iface tp p]
theorem var_at {P : Program} {w w1 : World} {name : String} {cs : Array Value} (h : w.var? P name = some cs) (hk : ∀ g, g < w.heap.size → (∃ t f, w.heap[g]? = some (.cells cs t f)) → w1.heap[g]? = w.heap[g]?) : w1.var? P name = some cs := by
  unfold World.var? at *
  cases hg : P.globalNamed name with
  | none => simp [hg] at h
  | some g =>
    simp only [hg, Option.bind_some] at h ⊢
    have hlt : g < w.heap.size := by
      rcases Nat.lt_or_ge g w.heap.size with h' | h'
      · exact h'
      · rw [Array.getElem?_eq_none h'] at h; simp at h
    have he : ∃ t f, w.heap[g]? = some (.cells cs t f) := by
      split at h
      · rename_i heq
        obtain rfl := Option.some.inj h
        exact ⟨_, _, heq⟩
      · cases h
    rw [hk g hlt he]
    exact h
theorem Tab.below {w w1 : World} (h : Tab w) (hb : Below w.heap.size w w1) : Tab w1 where
  pow := var_at h.pow (fun g hg _ => hb.block g hg)
  syn := by obtain ⟨a, b, c⟩ := h.syn; exact ⟨a, b, var_at c (fun g hg _ => hb.block g hg)⟩
  rng := by obtain ⟨a, b, c⟩ := h.rng; exact ⟨a, b, var_at c (fun g hg _ => hb.block g hg)⟩
/-- A write to a block that begins with a string turns none of them. -/
theorem Tab.keep {w w1 : World} (h : Tab w) {g : Nat} {s : ByteArray} {b : Bool} {t : TypeId} (hb : w.heap[g]? = some (.cells #[.string s, .bool b] t (0, 0))) (hk : KeepBut w w1 g none) : Tab w1 := by
  have hne : ∀ {cs : Array Value}, (∀ v ∈ cs, ∀ x, v ≠ .string x) → cs.size ≠ 0 → ∀ i, i < w.heap.size → (∃ t f, w.heap[i]? = some (.cells cs t f)) → w1.heap[i]? = w.heap[i]? := by
    intro cs h1 h0 i hi he
    refine hk.2 i hi (fun e => ?_) (by simp)
    obtain ⟨t', f', he⟩ := he
    rw [e, hb] at he
    injection he with he
    injection he with he
    subst he
    exact h1 (.string s) (by simp) s rfl
  refine ⟨var_at h.pow (hne ?_ (by simp [Lib.pow10Tab])), ?_, ?_⟩
  · intro v hv x e
    subst e
    simp at hv
  · obtain ⟨a, b, c⟩ := h.syn
    exact ⟨a, b, var_at c (hne (by intro v hv x e; subst e; simp at hv) (by simp))⟩
  · obtain ⟨a, b, c⟩ := h.rng
    exact ⟨a, b, var_at c (hne (by intro v hv x e; subst e; simp at hv) (by simp))⟩
def strconv_Itoa.f (a0 : Int) : Option (ByteArray) := if -9223372036854775808 ≤ a0 ∧ a0 ≤ 9223372036854775807 then some ⟨(Lib.itoa a0).toArray⟩ else none
theorem strconv_Itoa.calls (a0 : Int) (r : ByteArray) (w : World) (htab : Tab w) (h : strconv_Itoa.f a0 = some r) :
    Calls Tryd.prog 25 #[.int .i64 a0] w fun e w' => e = .returned (.string r) ∧ Below w.heap.size w w' := by
  unfold strconv_Itoa.f at h
  by_cases hg : -9223372036854775808 ≤ a0 ∧ a0 ≤ 9223372036854775807
  · rw [if_pos hg] at h
    obtain rfl := Option.some.inj h
    exact (Any.strconv_Itoa Tryd.laysItoa a0 hg.1 hg.2 w htab.pow).mono fun e w' ⟨he, k, os, hw⟩ => ⟨he, by rw [hw]; exact Lib.below_grow _ _ (Nat.le_refl _) _ _⟩
  · rw [if_neg hg] at h; cases h
end Go.Proofs.YtipjlhhgccfmcaaDoor.P
