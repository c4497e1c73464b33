/- What a function of rounds tells in the end: small rules to evaluate a printed model, step by step. -/
import Derived.Test.YtipjlhhgccfmcaaDoorPx0
namespace Go.Proofs.YtipjlhhgccfmcaaDoor.P
open Go.RowKit Go.Proofs.YtipjlhhgccfmcaaDoorW.PrintWords Go.Proofs.YtipjlhhgccfmcaaDoorW.PrintLast Go.Proofs.YtipjlhhgccfmcaaDoorW.PrintMore
set_option linter.unusedVariables false
set_option linter.unusedSimpArgs false
/-- From some number of rounds on, f tells v. -/
def Ev {α : Type} (f : Nat → Option α) (v : α) : Prop := ∃ K, ∀ k, K ≤ k → f k = some v
namespace Ev
variable {α β : Type}
theorem c {o : Option α} {v : α} (h : o = some v) : Ev (fun _ => o) v := ⟨0, fun _ _ => h⟩
theorem r (v : α) : Ev (fun _ => some v) v := ⟨0, fun _ _ => rfl⟩
theorem s {f : Nat → Option α} {v : α} (h : Ev (fun k => f (k + 1)) v) : Ev f v := by
  obtain ⟨K, h⟩ := h
  refine ⟨K + 1, fun k hk => ?_⟩
  obtain ⟨m, rfl⟩ : ∃ m, k = m + 1 := ⟨k - 1, by omega⟩
  exact h m (by omega)
theorem p {q : Prop} [Decidable q] {a b : Nat → Option α} {v : α} (hq : q) (h : Ev a v) : Ev (fun k => if q then a k else b k) v := by
  obtain ⟨K, h⟩ := h
  exact ⟨K, fun k hk => by simp only [if_pos hq]; exact h k hk⟩
theorem n {q : Prop} [Decidable q] {a b : Nat → Option α} {v : α} (hq : ¬ q) (h : Ev b v) : Ev (fun k => if q then a k else b k) v := by
  obtain ⟨K, h⟩ := h
  exact ⟨K, fun k hk => by simp only [if_neg hq]; exact h k hk⟩
theorem b {a : Nat → Option α} {g : Nat → α → Option β} {x : α} {v : β} (h1 : Ev a x) (h2 : Ev (fun k => g k x) v) : Ev (fun k => (a k).bind (g k)) v := by
  obtain ⟨K1, h1⟩ := h1
  obtain ⟨K2, h2⟩ := h2
  exact ⟨max K1 K2, fun k hk => by simp only [h1 k (by omega), Option.bind_some]; exact h2 k (by omega)⟩
theorem of_mono {f : Nat → Option α} {v : α} (hm : ∀ k, LeO (f k) (f (k + 1))) {k : Nat} (h : f k = some v) : Ev f v := by
  refine ⟨k, fun m hm' => ?_⟩
  obtain ⟨d, rfl⟩ : ∃ d, m = k + d := ⟨m - k, by omega⟩
  clear hm'
  induction d with
  | zero => exact h
  | succ d ih => exact hm (k + d) _ ih
theorem ex {f : Nat → Option α} {v : α} (h : Ev f v) : ∃ k, f k = some v := by
  obtain ⟨K, h⟩ := h
  exact ⟨K, h K (Nat.le_refl _)⟩
theorem congr {f : Nat → Option α} {v w : α} (h : Ev f v) (e : v = w) : Ev f w := e ▸ h
end Ev
theorem w64 {n : Int} (h0 : -9223372036854775808 ≤ n) (h1 : n ≤ 9223372036854775807) : wrap64 n = n := by unfold wrap64; omega
theorem drop_at {α : Type} (l : List α) (i : Nat) (z : α) (h : i < l.length) : l.drop i = l.getD i z :: l.drop (i + 1) := by
  rw [List.drop_eq_getElem_cons h]
  simp [List.getD_eq_getElem?_getD, h]
theorem getD_mem {α : Type} (l : List α) (i : Nat) (z : α) (h : i < l.length) : l.getD i z ∈ l := by
  rw [List.getD_eq_getElem?_getD, List.getElem?_eq_getElem h]
  exact List.getElem_mem h
end Go.Proofs.YtipjlhhgccfmcaaDoor.P
