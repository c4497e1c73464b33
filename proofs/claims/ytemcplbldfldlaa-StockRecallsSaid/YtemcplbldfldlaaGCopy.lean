/- copy onto a row of the call's own, of elements of any kind, all of it: the row is the source's then. Condition: both have one length. -/
import Derived.Test.YtemcplbldfldlaaGShort
import Derived.Laws.CopyRow
namespace Go.Proofs.Ytemcplbldfldlaa.P
open Go.RowKit Go.Proofs.YtemcplbldfldlaaW.PrintWords Go.Proofs.YtemcplbldfldlaaW.PrintLast Go.Proofs.YtemcplbldfldlaaW.PrintMore
set_option linter.unusedVariables false
section
variable {P : Program} {ops : Array Oper} {rest : List Oper} {o : Oper} {a : Act} {Q : Exit → Act → World → Prop} {α : Type} {W : World}
theorem run_copy_all (d : Kd α) (base : Nat) (t t' ty e : TypeId) (ht : P.underlying t = some (.slice e)) (hinfo : (P.info? e).map (·.size) = some d.sz) (hs0 : 0 < d.sz)
    (v : Value) (xs ys : List α) (A : Option Addr) (m c : Nat) (ok : Nat → Prop) (HO : d.R e W base ok v xs) (HR : d.C W A m ys) (hKM : ∀ x cs W' okp, d.K W x cs → d.M W' base okp x cs) (hm : m = xs.length) :
    ∃ w1, (Builtin.copy_ #[t, t'] ty #[v, .slice A m c]).run P W = .ok (goInt m) w1 ∧ d.R e w1 base ok v ys ∧ W.grownBy w1 v.ownBlock := by
  obtain ⟨i0, hi, hi0⟩ := Option.map_eq_some_iff.1 hinfo
  obtain ⟨hok, inner, hown, hr⟩ := HO
  have hl : ys.length = m := HR.1
  rcases Nat.eq_zero_or_pos m with h0 | hp
  · subst h0
    obtain rfl : ys = [] := List.eq_nil_of_length_eq_zero hl
    obtain rfl : xs = [] := List.eq_nil_of_length_eq_zero hm.symm
    have hld : ∀ (x : Addr), (loadCells x 0).run P W = .ok #[] W := fun x => by simpa using run_loadCells_list (P := P) W x [] (by simp)
    refine ⟨W, ?_, ⟨hok, inner, hown, hr⟩, World.grownBy.refl W _⟩
    rcases hown.2 with ⟨rfl, _⟩ | ⟨g, cap, cur, rfl, _⟩ <;> cases A <;> simp [Builtin.copy_, run_underlying ht, Builtin.lenOf, Builtin.firstCells, sizeOf, typeInfo, hi, storeCells, hld]
  · obtain ⟨ad, rfl, _⟩ := HR.2.2 hp
    obtain ⟨news, hnr, hnc⟩ := ReadsRow.inner_ HR
    have hnl : news.length = m * d.sz := by rw [hnr.1, hl]
    have hone : ∀ u ∈ news, u.oneCell' = true := by
      intro u hu
      obtain ⟨q, hq, rfl⟩ := List.mem_iff_getElem.1 hu
      have hql : q / d.sz < ys.length := by
        rw [Nat.div_lt_iff_lt_mul hs0, ← hnr.1]
        exact hq
      have hc := hnr.2 (q / d.sz) _ (List.getElem?_eq_getElem hql)
      refine d.K_one hc _ ?_
      rw [List.mem_iff_getElem?]
      refine ⟨q % d.sz, ?_⟩
      rw [List.getElem?_take, if_pos (Nat.mod_lt _ hs0), List.getElem?_drop, Nat.mul_comm, Nat.div_add_mod, List.getElem?_eq_getElem hq]
    rcases hown.2 with ⟨_, hx0⟩ | ⟨g, cap, cur, rfl, hb, hh, hnc', hcm, hcs, htake⟩
    · omega
    have hfit : m * d.sz ≤ cap * d.sz := Nat.mul_le_mul_right _ (hm ▸ hnc')
    have hload := run_loadCells_list (P := P) W ad news hnc
    have hst := run_storeCells_at P g 0 e news 0 cur W hh (by rw [hnl, hcs]; omega) hone
    have hrun : (Builtin.copy_ #[t, t'] ty #[.slice (some ⟨g, 0, none⟩) xs.length cap, .slice (some ad) m c]).run P W = .ok (goInt m) (W.setRow g (cur.toList.take (0 + 0) ++ news ++ cur.toList.drop (0 + 0 + news.length)).toArray) := by
      have hmin : Nat.min m xs.length = m := by rw [hm]; exact Nat.min_self _
      rw [hnl] at hload
      generalize W.setRow g (cur.toList.take (0 + 0) ++ news ++ cur.toList.drop (0 + 0 + news.length)).toArray = W2 at hst ⊢
      simp [Builtin.copy_, run_underlying ht, Builtin.lenOf, Builtin.firstCells, sizeOf, typeInfo, hi, hi0, hmin, hload, hst]
    have hh1 := setRow_heap W g cur (cur.toList.take (0 + 0) ++ news ++ cur.toList.drop (0 + 0 + news.length)).toArray e (0, 0) hh
    refine ⟨_, hrun, ⟨hok, news, ⟨by rw [hnl, hl], .inr ⟨g, cap, _, by rw [hl, hm], hb, hh1, by rw [hl, hm]; exact hnc', hcm, ?_, ?_⟩⟩, ⟨hnr.1, fun j p hj => hKM _ _ _ _ (hnr.2 j p hj)⟩⟩, ?_⟩
    · simp only [Nat.add_zero, List.take_zero, List.nil_append, Nat.zero_add, List.size_toArray, List.length_append, List.length_drop, Array.length_toList]
      omega
    · simp only [Nat.add_zero, List.take_zero, List.nil_append, Nat.zero_add]
      rw [List.take_left' (by rw [hnl, hl])]
    · exact ⟨rfl, rfl, rfl, by simp [World.setRow], fun k hk hk2 => setRow_other W g k _ (fun he => hk2 (by simp [Value.ownBlock, he]))⟩
theorem R_copy_all (d : Kd α) {w0 : World} (base : Nat) (hgd : o.guard = none) (s x : Operand) (t t' e : TypeId)
    (ho : o.op = .call { callee := .builtin .copy, args := #[s, x], argTypes := #[t, t'] }) (ht : P.underlying t = some (.slice e)) (hinfo : (P.info? e).map (·.size) = some d.sz) (hs0 : 0 < d.sz)
    (v : Value) (xs ys : List α) (A : Option Addr) (m c : Nat) (ok : Nat → Prop) (hs : a.eval s = v) (hx : a.eval x = .slice A m c)
    (HO : d.R e W base ok v xs) (HR : d.C W A m ys) (hKM : ∀ x cs W' okp, d.K W x cs → d.M W' base okp x cs) (hm : m = xs.length) (HB : Below base w0 W) (hbase : base ≤ W.heap.size)
    (h : ∀ w1, d.R e w1 base ok v ys → Below base w0 w1 → wpList P ops Q rest (a.put o.dst (.int .i64 (m : Int))) w1) : wpList P ops Q (o :: rest) a W := by
  obtain ⟨w1, hr, h1, hg⟩ := run_copy_all d base t t' o.type e ht hinfo hs0 v xs ys A m c ok HO HR hKM hm
  obtain ⟨_, inner, hown, _⟩ := HO
  refine wpList_plain hgd fun K hK => ?_
  unfold Oper.wp execOp
  simp only [ho, resolve, invoke, builtin, Sem.run_bind, Sem.run_pure, Result.andThen_ok, List.map_toArray, List.map_cons, List.map_nil, hs, hx, hr]
  exact hK _ _ (h w1 h1 (HB.grown hg hbase (own_base hown)))
end
end Go.Proofs.Ytemcplbldfldlaa.P
