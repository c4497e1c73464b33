import Derived.Lib.AtoiAllCases
import Derived.Lib.ItoaMem
import Derived.Test.YtemcplbldfldlaaDoorGShelf
import Derived.Test.YtemcplbldfldlaaDoorPx0
import Derived.Lib.AppendIntMem
import Derived.KernelRfl
import Derived.Shelf.Strings.Builder1
import Derived.BigRegion
import Derived.BigCall
import Derived.BigGuard
/- Decimal numerals as bytes: what Itoa writes, Atoi reads; they hold digits and a sign alone, and at most 20 bytes. -/
namespace Go.Proofs.YtemcplbldfldlaaDoor.P
open Go Go.Lib
set_option linter.unusedVariables false
set_option linter.unusedSimpArgs false
theorem dig_nat {d : Nat} (h : d < 10) : (UInt8.ofNat (48 + d)).toNat = 48 + d := by
  simp
  omega
theorem parse_app : ∀ (l r : List UInt8) (acc u : Nat), parseUint10 acc l = .ok u → parseUint10 acc (l ++ r) = parseUint10 u r
  | [], r, acc, u, h => by
    simp only [parseUint10] at h
    injection h with h
    subst h
    rfl
  | c :: l, r, acc, u, h => by
    simp only [parseUint10] at h
    simp only [List.cons_append, parseUint10]
    by_cases h1 : 48 ≤ c.toNat ∧ c.toNat ≤ 57
    · rw [if_pos h1] at h ⊢
      by_cases h2 : 1844674407370955162 ≤ acc
      · rw [if_pos h2] at h; cases h
      · rw [if_neg h2] at h ⊢
        by_cases h3 : 18446744073709551616 ≤ acc * 10 + (c.toNat - 48)
        · rw [if_pos h3] at h; cases h
        · rw [if_neg h3] at h ⊢
          exact parse_app l r _ u h
    · rw [if_neg h1] at h; cases h
theorem parse_digits (u : Nat) (h : u < 18446744073709551616) : parseUint10 0 (decDigits u) = .ok u := by
  induction u using Nat.strongRecOn with
  | ind u ih =>
    rw [decDigits]
    split
    · rename_i h10
      simp only [parseUint10]
      rw [dig_nat h10, if_pos (by omega), if_neg (by omega), if_neg (by omega)]
      congr 1; omega
    · rename_i h10
      rw [parse_app _ _ _ _ (ih (u / 10) (by omega) (by omega))]
      simp only [parseUint10]
      rw [dig_nat (show u % 10 < 10 by omega), if_pos (by omega), if_neg (by omega), if_neg (by omega)]
      congr 1; omega
theorem digits_ne (u : Nat) : decDigits u ≠ [] := by
  rw [decDigits]
  split <;> simp
theorem digits_mem (u : Nat) : ∀ c ∈ decDigits u, 48 ≤ c.toNat ∧ c.toNat ≤ 57 := by
  induction u using Nat.strongRecOn with
  | ind u ih =>
    intro c hc
    rw [decDigits] at hc
    split at hc
    · rename_i h10
      obtain rfl := List.mem_singleton.1 hc
      rw [dig_nat h10]; omega
    · rename_i h10
      rcases List.mem_append.1 hc with h | h
      · exact ih (u / 10) (by omega) c h
      · obtain rfl := List.mem_singleton.1 h
        rw [dig_nat (show u % 10 < 10 by omega)]; omega
theorem itoa_atoi (n : Int) (h0 : -9223372036854775808 ≤ n) (h1 : n ≤ 9223372036854775807) : atoiAll (itoa n) = .ok n := by
  unfold itoa
  by_cases hn : n < 0
  · rw [if_pos hn, atoiAll_minus]
    unfold parseMag
    rw [if_neg (digits_ne _), parse_digits _ (by omega)]
    unfold signed
    simp only
    rw [if_neg (by omega)]
    congr 1; omega
  · rw [if_neg hn]
    have hm := digits_mem n.toNat
    have hp := parse_digits n.toNat (by omega)
    have hne := digits_ne n.toNat
    generalize decDigits n.toNat = l at hm hp hne
    cases l with
    | nil => exact absurd rfl hne
    | cons c r =>
      have hc := hm c (by simp)
      rw [atoiAll_plain c r (by omega) (by omega)]
      unfold parseMag
      rw [if_neg (by simp), hp]
      unfold signless
      simp only
      rw [if_neg (by omega)]
      congr 1; omega
theorem nDig_le : ∀ (k u : Nat), u < 10 ^ (k + 1) → nDigits u ≤ k + 1
  | 0, u, h => by rw [nDigits_small (by simpa using h)]; omega
  | k + 1, u, h => by
    by_cases h10 : u < 10
    · rw [nDigits_small h10]; omega
    · rw [nDigits_big h10]
      have := nDig_le k (u / 10) (by rw [Nat.pow_succ] at h; omega)
      omega
theorem itoa_len (n : Int) (h0 : -9223372036854775808 ≤ n) (h1 : n ≤ 9223372036854775807) : (itoa n).length ≤ 20 := by
  unfold itoa
  split
  · have := nDig_le 18 n.natAbs (by omega)
    rw [List.length_cons, decDigits_length]; omega
  · have := nDig_le 18 n.toNat (by omega)
    rw [decDigits_length]; omega
theorem itoa_mem (n : Int) : ∀ c ∈ itoa n, c.toNat = 45 ∨ 48 ≤ c.toNat ∧ c.toNat ≤ 57 := by
  intro c hc
  unfold itoa at hc
  split at hc
  · rcases List.mem_cons.1 hc with rfl | h
    · exact .inl rfl
    · exact .inr (digits_mem _ c h)
  · exact .inr (digits_mem _ c hc)
theorem itoa_ne (n : Int) : itoa n ≠ [] := by
  unfold itoa
  split
  · simp
  · exact digits_ne _
end Go.Proofs.YtemcplbldfldlaaDoor.P
/- What strconv reads of the package's variables; strconv.Itoa. -/
namespace Go.Proofs.YtemcplbldfldlaaDoor.P
open Go.RowKit Go.Proofs.YtemcplbldfldlaaDoorW.PrintWords Go.Proofs.YtemcplbldfldlaaDoorW.PrintLast Go.Proofs.YtemcplbldfldlaaDoorW.PrintMore
set_option linter.unusedVariables false
set_option linter.unusedSimpArgs false
/-- What is read of the library's variables. -/
structure Tab (w : World) : Prop where
  pow : Lib.TabIs Tryd.prog w "internal/strconv.uint64pow10" .u64 Lib.pow10Tab
  syn : ∃ tp p, w.var? Tryd.prog "strconv.ErrSyntax" = some #[.iface tp p]
  rng : ∃ tp p, w.var? Tryd.prog "strconv.ErrRange" = some #[.iface tp p]
theorem var_at {P : Program} {w w1 : World} {name : String} {cs : Array Value} (h : w.var? P name = some cs) (hk : ∀ g, g < w.heap.size → (∃ t f, w.heap[g]? = some (.cells cs t f)) → w1.heap[g]? = w.heap[g]?) : w1.var? P name = some cs := by
  unfold World.var? at *
  cases hg : P.globalNamed name with
  | none => simp [hg] at h
  | some g =>
    simp only [hg, Option.bind_some] at h ⊢
    have hlt : g < w.heap.size := by
      rcases Nat.lt_or_ge g w.heap.size with h' | h'
      · exact h'
      · rw [Array.getElem?_eq_none h'] at h; simp at h
    have he : ∃ t f, w.heap[g]? = some (.cells cs t f) := by
      split at h
      · rename_i heq
        obtain rfl := Option.some.inj h
        exact ⟨_, _, heq⟩
      · cases h
    rw [hk g hlt he]
    exact h
theorem Tab.below {w w1 : World} (h : Tab w) (hb : Below w.heap.size w w1) : Tab w1 where
  pow := var_at h.pow (fun g hg _ => hb.block g hg)
  syn := by obtain ⟨a, b, c⟩ := h.syn; exact ⟨a, b, var_at c (fun g hg _ => hb.block g hg)⟩
  rng := by obtain ⟨a, b, c⟩ := h.rng; exact ⟨a, b, var_at c (fun g hg _ => hb.block g hg)⟩
/-- A write to a block that begins with a string turns none of them. -/
theorem Tab.keep {w w1 : World} (h : Tab w) {g : Nat} {s : ByteArray} {b : Bool} {t : TypeId} (hb : w.heap[g]? = some (.cells #[.string s, .bool b] t (0, 0))) (hk : KeepBut w w1 g none) : Tab w1 := by
  have hne : ∀ {cs : Array Value}, (∀ v ∈ cs, ∀ x, v ≠ .string x) → cs.size ≠ 0 → ∀ i, i < w.heap.size → (∃ t f, w.heap[i]? = some (.cells cs t f)) → w1.heap[i]? = w.heap[i]? := by
    intro cs h1 h0 i hi he
    refine hk.2 i hi (fun e => ?_) (by simp)
    obtain ⟨t', f', he⟩ := he
    rw [e, hb] at he
    injection he with he
    injection he with he
    subst he
    exact h1 (.string s) (by simp) s rfl
  refine ⟨var_at h.pow (hne ?_ (by simp [Lib.pow10Tab])), ?_, ?_⟩
  · intro v hv x e
    subst e
    simp at hv
  · obtain ⟨a, b, c⟩ := h.syn
    exact ⟨a, b, var_at c (hne (by intro v hv x e; subst e; simp at hv) (by simp))⟩
  · obtain ⟨a, b, c⟩ := h.rng
    exact ⟨a, b, var_at c (hne (by intro v hv x e; subst e; simp at hv) (by simp))⟩
def strconv_Itoa.f (a0 : Int) : Option (ByteArray) := if -9223372036854775808 ≤ a0 ∧ a0 ≤ 9223372036854775807 then some ⟨(Lib.itoa a0).toArray⟩ else none
theorem strconv_Itoa.calls (a0 : Int) (r : ByteArray) (w : World) (htab : Tab w) (h : strconv_Itoa.f a0 = some r) :
    Calls Tryd.prog 41 #[.int .i64 a0] w fun e w' => e = .returned (.string r) ∧ Below w.heap.size w w' := by
  unfold strconv_Itoa.f at h
  by_cases hg : -9223372036854775808 ≤ a0 ∧ a0 ≤ 9223372036854775807
  · rw [if_pos hg] at h
    obtain rfl := Option.some.inj h
    exact (Any.strconv_Itoa Tryd.laysItoa a0 hg.1 hg.2 w htab.pow).mono fun e w' ⟨he, k, os, hw⟩ => ⟨he, by rw [hw]; exact Lib.below_grow _ _ (Nat.le_refl _) _ _⟩
  · rw [if_neg hg] at h; cases h
end Go.Proofs.YtemcplbldfldlaaDoor.P
/- strings.Builder: WriteString and String, at this program. -/
namespace Go.Proofs.YtemcplbldfldlaaDoor.P
open Go.Shelf Go.RowKit Go.Proofs.YtemcplbldfldlaaDoorW.PrintWords Go.Proofs.YtemcplbldfldlaaDoorW.PrintLast Go.Proofs.YtemcplbldfldlaaDoorW.PrintMore
set_option linter.unusedVariables false
set_option linter.unusedSimpArgs false
set_option maxRecDepth 100000 in
theorem build_size : (Tryd.prog.info? 65).map (·.size) = some 2 := by kernel_rfl
set_option maxRecDepth 100000 in
theorem build_lies : liesAt Tryd.prog Tryd.prog.depth 65 (2 / Tryd.prog.cellsOf 65) 0 65 1 = true := by kernel_rfl
theorem byte_info : (Tryd.prog.info? 5).map (fun i => (i.zero, i.size, i.bytes)) = some (some (.int .u8 0), 1, 1) := by kernel_rfl
abbrev IsB (B b : Nat) (l : List UInt8) (w : World) : Prop := Lib.IsBuilder 65 5 B b (Lib.byteCells l) w
set_option maxHeartbeats 1000000 in
set_option maxRecDepth 100000 in
theorem copy_used (b : Nat) (w : World) (h0 : w.cell? ⟨b, 0, none⟩ = some (.pointer (some ⟨b, 0, none⟩))) :
    Calls Tryd.prog 40 #[.pointer (some ⟨b, 0, none⟩)] w fun e w' => e = .returned (.tuple #[]) ∧ w' = w := by
  obtain ⟨j, hj, _⟩ := Option.map_eq_some_iff.1 build_size
  go_enter Tryd.func40, Tryd.ntmps40
  go_wp2
  rw [Lib.run_neq_ptr_same w _ Tryd.underlying62 hj]
  go_wp2
  go_end0
  exact ⟨rfl, rfl⟩
set_option maxHeartbeats 1000000 in
set_option maxRecDepth 100000 in
theorem copy_fresh (b : Nat) (w : World) (h0 : w.cell? ⟨b, 0, none⟩ = some (.pointer none)) (hsh : w.shape? b = some (65, 2)) (hfz : w.frozen? ⟨b, 0, none⟩ = false) :
    Calls Tryd.prog 40 #[.pointer (some ⟨b, 0, none⟩)] w fun e w' => e = .returned (.tuple #[]) ∧ w' = w.setCell ⟨b, 0, none⟩ (.pointer (some ⟨b, 0, none⟩)) := by
  obtain ⟨j, hj, hjs⟩ := Option.map_eq_some_iff.1 build_size
  go_enter Tryd.func40, Tryd.ntmps40
  go_wp2
  rw [Lib.run_to_unsafe w ⟨b, 0, none⟩ Tryd.underlying62 Tryd.underlying93 hj (by rw [hjs]; decide) hsh (Nat.zero_lt_succ 1)]
  simp only [Result.andThen]
  rw [Oper.upon_value]
  go_wp2
  rw [run_callFunc_extern Tryd.func50 (by kernel_rfl) (by kernel_rfl) (by kernel_rfl) (e := Extern.AbiNoEscape.same) (by kernel_rfl)]
  rw [Lib.run_noEscape]
  simp only [Result.andThen]
  rw [Oper.upon_value]
  go_wp2
  rw [Lib.run_from_unsafe w ⟨b, 0, none⟩ Tryd.underlying93 Tryd.underlying62 hj hsh build_lies]
  simp only [Result.andThen]
  rw [Oper.upon_value]
  go_wp2
  go_end0
  exact ⟨rfl, rfl⟩
theorem copy_any (B b : Nat) (l : List UInt8) (w : World) (h : IsB B b l w) :
    Calls Tryd.prog 40 #[.pointer (some ⟨b, 0, none⟩)] w fun e w' => e = .returned (.tuple #[]) ∧ Lib.BuilderAt 65 5 B b (.pointer (some ⟨b, 0, none⟩)) (Lib.byteCells l) w' ∧ Below B w w' := by
  rcases h with h | h
  · exact (copy_fresh b w h.cell0 h.shape h.frozen0).mono fun e w' ⟨he, hw⟩ => ⟨he, hw ▸ h.used _, hw ▸ (Below.refl B w).setCell (p := ⟨b, 0, none⟩) h.1 _⟩
  · exact (copy_used b w h.cell0).mono fun e w' ⟨he, hw⟩ => ⟨he, hw ▸ h, hw ▸ Below.refl B _⟩
set_option maxHeartbeats 2000000 in
set_option maxRecDepth 100000 in
/-- Bytes are written behind those that a builder holds. -/
theorem build_write (B b : Nat) (l : List UInt8) (s : ByteArray) (w : World) (h : IsB B b l w) (hlen : l.length + s.size ≤ 140737488355328) (hBw : B ≤ w.heap.size) :
    Calls Tryd.prog 24 #[.pointer (some ⟨b, 0, none⟩), .string s] w fun e w' => e = .returned (.tuple #[.int .i64 s.size, .nilIface]) ∧ IsB B b (l ++ s.data.toList) w' ∧ Below B w w' := by
  obtain ⟨i0, hi, hz0, hz1, hz2⟩ := info_parts byte_info
  go_enter Tryd.func24, Tryd.ntmps24
  go_wp2_with (go_at_call 40; refine (copy_any B b l _ h).mono ?_)
  rintro e w1 ⟨rfl, h1, hb1⟩
  obtain ⟨hB, v, hbk, hown, hne⟩ := h1
  have c0 : w1.cell? ⟨b, 0, none⟩ = some (.pointer (some ⟨b, 0, none⟩)) := by rw [Lib.cell_of_heap hbk]; rfl
  have c1 : w1.cell? ⟨b, 1, none⟩ = some v := by rw [Lib.cell_of_heap hbk]; rfl
  go_wp2_with (at_builtin; refine Lib.wpList_append_own_string _ rfl _ _ 63 9 rfl B 5 i0 Tryd.underlying63 Tryd.underlying9 hi hz0 hz1 hz2 _ _ _ rfl hown s rfl ?c3 ?c4 ?c5 ?_)
  case c3 => simp only [Lib.byteCells, List.length_map]; unfold maxLen; omega
  case c4 => simp only [Lib.byteCells, List.length_map]; omega
  case c5 => have := hb1.size; omega
  intro v' w2 hown' hgrow _
  have hlt : b < w1.heap.size := by
    rcases Nat.lt_or_ge b w1.heap.size with h' | h'
    · exact h'
    · simp [Array.getElem?_eq_none h'] at hbk
  have hb2 : w2.heap[b]? = some (.cells #[.pointer (some ⟨b, 0, none⟩), v] 65 (0, 0)) := by
    rw [hgrow.block b hlt (fun e => hne e.symm)]
    exact hbk
  have d0 : w2.cell? ⟨b, 0, none⟩ = some (.pointer (some ⟨b, 0, none⟩)) := by rw [Lib.cell_of_heap hb2]; rfl
  have d1 : w2.cell? ⟨b, 1, none⟩ = some v := by rw [Lib.cell_of_heap hb2]; rfl
  have f1 : w2.frozen? ⟨b, 1, none⟩ = false := Lib.frozen_of_heap hb2 1
  obtain ⟨ao, n', cap, rfl⟩ : ∃ ao n' cap, v' = .slice ao n' cap := by
    rcases hown'.2 with ⟨hv, _⟩ | ⟨g, cap, cur, hv, _⟩
    · exact ⟨_, _, _, hv⟩
    · exact ⟨_, _, _, hv⟩
  go_wp2
  go_ret2
  have e2 : Lib.byteCells l ++ Lib.strCells s = Lib.byteCells (l ++ s.data.toList) := by simp [Lib.byteCells, Lib.strCells]
  refine ⟨rfl, .inr ?_, ?_⟩
  · rw [← e2]
    exact Lib.BuilderAt.put (T := 65) (e := 5) hB hb2 (bs' := Lib.byteCells l ++ Lib.strCells s) (by simpa [Lib.strCells_length] using hown') (by decide)
  · exact (hb1.grown hgrow (by have := hb1.size; omega) (fun k hk => (hown.lt k hk).1)).setCell (p := ⟨b, 1, none⟩) hB _
set_option maxRecDepth 100000 in
theorem build_extra : Builder.Extra Tryd.prog Tryd.laysStr_ren where
  sizeBuilder := build_size
  liesBuilder := build_lies
  t5 := Tryd.underlying5
  a5 := Tryd.isAgg5
  z5 := Tryd.sizeOf5
  v5 := Tryd.zeroValue5
  infoByte := byte_info
  cellsByte := by kernel_rfl
  sizeByte := by kernel_rfl
  neB5 := by decide
theorem build_string (B b : Nat) (l : List UInt8) (w : World) (h : IsB B b l w) (hBw : B ≤ w.heap.size) :
    Calls Tryd.prog 28 #[.pointer (some ⟨b, 0, none⟩)] w fun e w' => e = .returned (.string ⟨l.toArray⟩) ∧ Below B w w' :=
  Any.Builder_String_any Tryd.laysStr build_extra B b l w h hBw
end Go.Proofs.YtemcplbldfldlaaDoor.P
