/- stock.rightKinds: names of 1 to 20 bytes, weights of 1 to 10000, no name twice, at most 500. For at most 1000 kinds. -/
import Derived.Test.YtemcplbldfldlaaDoorPx1
import Derived.Test.YtemcplbldfldlaaDoorGShort
import Derived.Lib.Hide
import Derived.Maps.OwnOps
import Derived.Maps.OwnSet
import Derived.BigRegion
import Derived.BigQuiet
import Derived.LoopN
namespace Go.Proofs.YtemcplbldfldlaaDoor.P
open Go.RowKit Go.Proofs.YtemcplbldfldlaaDoorW.PrintWords Go.Proofs.YtemcplbldfldlaaDoorW.PrintLast Go.Proofs.YtemcplbldfldlaaDoorW.PrintMore
open Go.Maps Go.WideMaps
set_option linter.unusedVariables false
set_option linter.unusedSimpArgs false
def nameOf (k : S36) : List UInt8 := k.f0.data.toList
/-- A kind, but for the others' names. -/
def kindOk (k : S36) : Bool := decide (1 ≤ k.f0.size ∧ k.f0.size ≤ 20 ∧ 1 ≤ k.f1 ∧ k.f1 ≤ 10000)
def kindsOk : List S36 → List (List UInt8) → Bool
  | [], _ => true
  | k :: r, seen => kindOk k && !seen.contains (nameOf k) && kindsOk r (seen ++ [nameOf k])
def stock_rightKinds.f (l0 : List S36) : Option Bool := if l0.length ≤ 1000 then some (kindsOk l0 [] && decide (l0.length ≤ 500)) else none
abbrev Yes : DataW Unit := .lit (.bool true)
def seenMap (acc : List (List UInt8)) : DataW Unit := acc.foldl (fun m x => m.put (.string x) Yes) (.map [])
theorem seenMap_snoc (acc : List (List UInt8)) (n : List UInt8) : seenMap (acc ++ [n]) = (seenMap acc).put (.string n) Yes := by
  unfold seenMap; rw [List.foldl_append]; rfl
theorem fold_at (n : List UInt8) (z : DataW Unit) : ∀ (acc : List (List UInt8)) (M : DataW Unit), IsMap M → (acc.foldl (fun m x => m.put (.string x) Yes) M).atKey (.string n) z = if acc.contains n = true then Yes else M.atKey (.string n) z
  | [], M, _ => by simp
  | x :: r, M, hM => by
    rw [List.foldl_cons, fold_at n z r _ (hM.put _ _)]
    by_cases h : r.contains n = true
    · rw [if_pos h, if_pos (by simp only [List.contains_cons, h, Bool.or_true])]
    · rw [if_neg h]
      by_cases hx : x = n
      · subst hx
        rw [atKey_put_same hM (by simp [WideAt.IsKeyLit]), if_pos (by simp)]
      · rw [atKey_put_other (by intro e; exact hx (Lit.string.inj e).symm), if_neg]
        intro hc
        rw [List.contains_cons, Bool.or_eq_true] at hc
        rcases hc with hc | hc
        · exact hx (by simpa using hc : n = x).symm
        · exact h hc
theorem seenMap_at (acc : List (List UInt8)) (n : List UInt8) : (seenMap acc).atKey (.string n) (.lit (.bool false)) = .lit (.bool (acc.contains n)) := by
  unfold seenMap
  rw [fold_at n _ acc _ isMap_empty]
  cases h : acc.contains n <;> simp [DataW.atKey]
theorem own_on {P : Program} {k : TypeId} {R : Value → Option (DataW Unit × List MemPlace)} {w w' : World} {b n : Nat} {D : DataW Unit} (h : w.ownsMap P k R b n D) (hb : Below (b + 1) w w') : w'.ownsMap P k R b n D := by
  obtain ⟨es, clock, h1, h2⟩ := h
  exact ⟨es, clock, (hb.block b (by omega)).trans h1, h2⟩
theorem plainElem_bool_inv {P : Program} {e : TypeId} (he : P.underlying e = some .bool) {v : Value} {z : DataW Unit × List MemPlace} (h : plainElem P e v = some z) : ∃ x, v = .bool x ∧ z = (.lit (.bool x), []) := by
  unfold plainElem at h
  rw [he] at h
  cases v <;> simp at h
  exact ⟨_, rfl, h.symm⟩
theorem lookup_bool {P : Program} {k t e : TypeId} {w : World} {b n : Nat} {D : DataW Unit} (h : w.ownsMap P k (plainElem P e) b n D) (K : Keyed P k) (ht : P.underlying t = some (.map k e)) (he : P.underlying e = some .bool) (hz : (zeroValue e).run P w = .ok (.bool false) w)
    {key : Value} {kl : Lit} (hkey : keyOf P k key = some kl) (c : Bool) (hc : D.atKey kl (.lit (.bool false)) = .lit (.bool c)) : (Instr.lookup t (.map (some b)) key false).run P w = .ok (.bool c) w := by
  obtain ⟨v, ps, hrun, hv⟩ := h.lookup K ht hz (plainElem_bool he false) hkey
  obtain ⟨x, rfl, hx⟩ := plainElem_bool_inv he hv
  rw [hc] at hx
  simp only [Prod.mk.injEq] at hx
  have : c = x := by simpa using hx.1
  rw [this]; exact hrun
theorem wpList_lookup_bool {P : Program} (w : World) {ops : Array Oper} {rest : List Oper} {o : Oper} {a : Act} {Q : Exit → Act → World → Prop}
    (hg : o.guard = none) (m x : Operand) (t : TypeId) (hop : o.op = Op.lookup t m x false)
    (k e : TypeId) (K : Keyed P k) (ht : P.underlying t = some (.map k e)) (he : P.underlying e = some .bool) (hz : (zeroValue e).run P w = .ok (.bool false) w) (b n : Nat) (D : DataW Unit)
    (hm : a.eval m = .map (some b)) (hown : w.ownsMap P k (plainElem P e) b n D) (key : Value) (kl : Lit) (hx : a.eval x = key) (hkey : keyOf P k key = some kl) (c : Bool) (hc : D.atKey kl (.lit (.bool false)) = .lit (.bool c))
    (hK : wpList P ops Q rest (a.put o.dst (.bool c)) w) : wpList P ops Q (o :: rest) a w := by
  refine wpList_plain hg fun K' hK' => ?_
  have hrun := lookup_bool hown K ht he hz hkey c hc
  unfold Oper.wp
  simp [execOp, hop, hm, hx, hrun, Result.andThen]
  exact hK' _ _ hK
theorem kindsOk_drop (l : List S36) (m : Nat) (hm : m < l.length) (seen : List (List UInt8)) :
    kindsOk (l.drop m) seen = (kindOk (l.getD m z36) && !seen.contains (nameOf (l.getD m z36)) && kindsOk (l.drop (m + 1)) (seen ++ [nameOf (l.getD m z36)])) := by
  rw [List.drop_eq_getElem_cons hm, kindsOk]
  simp [List.getD_eq_getElem?_getD, hm]
theorem names_snoc (l : List S36) (m : Nat) (hm : m < l.length) : (l.take (m + 1)).map nameOf = (l.take m).map nameOf ++ [nameOf (l.getD m z36)] := by
  rw [List.take_succ_eq_append_getElem hm, List.map_append]
  simp [List.getD_eq_getElem?_getD, hm]
theorem between_eq (a b c : Int) : stock_between.f a b c = some (decide (b ≤ a ∧ a ≤ c)) := by
  unfold stock_between.f
  by_cases h : a ≥ b
  · rw [if_pos h]; simp [show b ≤ a from h]
  · rw [if_neg h]; simp [show ¬ b ≤ a from h]
theorem zeroB (w : World) : (zeroValue 4).run Tryd.prog w = .ok (.bool false) w := by kernel_rfl
set_option maxHeartbeats 1000000 in
set_option maxRecDepth 100000 in
theorem stock_rightKinds.calls (A0 : Option Addr) (c0 : Nat) (l0 : List S36) (r : Bool) (w : World) (hr0 : Kd.C k36 w A0 l0.length l0) (hc0 : l0.length ≤ c0) (h : stock_rightKinds.f l0 = some r) :
    Calls Tryd.prog 20 #[.slice A0 l0.length c0] w fun e w' => e = .returned (.bool r) ∧ Below w.heap.size w w' := by
  unfold stock_rightKinds.f at h
  by_cases hlen : l0.length ≤ 1000
  case neg => rw [if_neg hlen] at h; cases h
  rw [if_pos hlen] at h
  obtain rfl := Option.some.inj h
  clear h hc0
  have HR := Lib.hid hr0
  clear hr0
  have hmm := @run_makeMap Tryd.prog
  have law : Keyed Tryd.prog 9 := string_keyed Tryd.underlying9
  go_enter Tryd.func20, Tryd.ntmps20
  go_wp2
  go_loopg [9] l0.length (fun gg s9 wr => ∃ m : Nat, m ≤ l0.length ∧ l0.length - m ≤ gg ∧ s9 = .int .i64 m ∧ Aside (wr.ownsMap Tryd.prog 9 (plainElem Tryd.prog 4) w.heap.size m (seenMap ((l0.take m).map nameOf))) ∧ Aside (Below w.heap.size w wr) ∧ Aside (kindsOk l0 [] = kindsOk (l0.drop m) ((l0.take m).map nameOf)))
  case atStart => exact ⟨0, Nat.zero_le _, by omega, rfl, World.ownsMap_made _ _ _ _, (Below.refl _ _).alloc (Nat.le_refl _) _, rfl⟩
  case round =>
    obtain ⟨m, hm, hgm, rfl, OW, BW, KO⟩ := hrel
    by_cases hlt : m < l0.length
    · have hltz : (m : Int) < (l0.length : Int) := by omega
      obtain ⟨ad, e1, la, lb⟩ := at_T36 (Kd.C_below HR.out BW.out) (m : Int) (by omega) hltz
      subst e1
      have hdrop := kindsOk_drop l0 m hlt ((l0.take m).map nameOf)
      have hsn := names_snoc l0 m hlt
      simp only [rd_T36, Int.toNat_natCast] at la lb
      rw [← KO.out] at hdrop
      generalize l0.getD m z36 = y at la lb hdrop hsn
      have KD := Lib.hid hdrop
      have SN := Lib.hid hsn
      have SZ := Lib.hid (show w.heap.size + 1 ≤ wr.heap.size from OW.out.lt)
      clear hdrop hsn KO
      obtain ⟨b1, hb1⟩ : ∃ b, decide ((1 : Int) ≤ (y.f0.size : Int) ∧ (y.f0.size : Int) ≤ 20) = b := ⟨_, rfl⟩
      obtain ⟨b2, hb2⟩ : ∃ b, decide ((1 : Int) ≤ y.f1 ∧ y.f1 ≤ 10000) = b := ⟨_, rfl⟩
      have hk1 : kindOk y = (b1 && b2) := by
        rw [← hb1, ← hb2]
        unfold kindOk
        by_cases q1 : 1 ≤ y.f0.size <;> by_cases q2 : y.f0.size ≤ 20 <;> by_cases q3 : 1 ≤ y.f1 <;> by_cases q4 : y.f1 ≤ 10000 <;> simp [q1, q2, q3, q4, show ((1 : Int) ≤ (y.f0.size : Int)) ↔ 1 ≤ y.f0.size by omega, show ((y.f0.size : Int) ≤ 20) ↔ y.f0.size ≤ 20 by omega]
      have H1 := Lib.hid (show stock_between.f (y.f0.size : Int) 1 20 = some b1 by rw [between_eq, hb1])
      have H2 := Lib.hid (show stock_between.f y.f1 1 10000 = some b2 by rw [between_eq, hb2])
      have HQ := Lib.hid (show b1 = true → y.f0.size ≤ 20 by intro e; rw [e] at hb1; simp at hb1; omega)
      have HK1 := Lib.hid hk1
      clear hb1 hb2 hk1
      cases b1 with
      | false =>
        go_wp2_with (first
          | ((with_reducible refine gate_dst (N := 5) rfl ?_); refine box_event ?hg (N := 5) ?hd (cs := #[.string ⟨#[]⟩, .int .i64 0]) (t := 36) ?hr ?_; (case hd => rfl); (case hg => rfl); (case hr => first | (go_simp; done) | (go_simp; rfl)); intro gb hg w8 hbox hb; have HB8 := Lib.hid hb; have GE := Lib.hid (show wr.heap.size ≤ gb by omega); have hcz0 : w8.cell? ⟨gb, 0, none⟩ = some (.string ⟨#[]⟩) := (blk_cell hbox 0).trans rfl; have hcz1 : w8.cell? ⟨gb, 1, none⟩ = some (.int .i64 0) := (blk_cell hbox 1).trans rfl; have hfz0 := blk_frozen hbox 0; have hfz1 := blk_frozen hbox 1; clear hb hbox hg)
          | (go_at_call 21; with_reducible refine (stock_between.calls (y.f0.size : Int) 1 20 _ _ H1.out).mono ?_; rintro e w9 ⟨rfl, ⟨n9, rfl⟩⟩))
        go_ret
        refine ⟨?_, ?_⟩
        · rw [KD.out, HK1.out]; simp
        · exact below_then BW.out BW.out.size (by repeat (first | exact ((HB8.out.setCell (p := ⟨gb, 0, none⟩) GE.out (.string y.f0)).setCell (p := ⟨gb, 1, none⟩) GE.out (.int .i64 y.f1)) | apply pw_below_drewN))
      | true =>
        have HKEY := Lib.hid (keyOf_string_mk Tryd.underlying9 (s := y.f0) (by unfold maxLen; have := HQ.out rfl; omega))
        cases b2 with
        | false =>
          go_wp2_with (first
            | ((with_reducible refine gate_dst (N := 5) rfl ?_); refine box_event ?hg (N := 5) ?hd (cs := #[.string ⟨#[]⟩, .int .i64 0]) (t := 36) ?hr ?_; (case hd => rfl); (case hg => rfl); (case hr => first | (go_simp; done) | (go_simp; rfl)); intro gb hg w8 hbox hb; have HB8 := Lib.hid hb; have GE := Lib.hid (show wr.heap.size ≤ gb by omega); have hcz0 : w8.cell? ⟨gb, 0, none⟩ = some (.string ⟨#[]⟩) := (blk_cell hbox 0).trans rfl; have hcz1 : w8.cell? ⟨gb, 1, none⟩ = some (.int .i64 0) := (blk_cell hbox 1).trans rfl; have hfz0 := blk_frozen hbox 0; have hfz1 := blk_frozen hbox 1; clear hb hbox hg)
            | (go_at_call 21; with_reducible refine (stock_between.calls (y.f0.size : Int) 1 20 _ _ H1.out).mono ?_; rintro e w9 ⟨rfl, ⟨n9, rfl⟩⟩)
            | (go_at_call 21; with_reducible refine (stock_between.calls y.f1 1 10000 _ _ H2.out).mono ?_; rintro e w9 ⟨rfl, ⟨n9, rfl⟩⟩))
          go_ret
          refine ⟨?_, ?_⟩
          · rw [KD.out, HK1.out]; simp
          · exact below_then BW.out BW.out.size (by repeat (first | exact ((HB8.out.setCell (p := ⟨gb, 0, none⟩) GE.out (.string y.f0)).setCell (p := ⟨gb, 1, none⟩) GE.out (.int .i64 y.f1)) | apply pw_below_drewN))
        | true =>
          obtain ⟨b3, hb3⟩ : ∃ b, ((l0.take m).map nameOf).contains (nameOf y) = b := ⟨_, rfl⟩
          have HC := Lib.hid hb3
          clear hb3
          cases b3 with
          | true =>
            go_wp2_with (first
              | ((with_reducible refine gate_dst (N := 5) rfl ?_); refine box_event ?hg (N := 5) ?hd (cs := #[.string ⟨#[]⟩, .int .i64 0]) (t := 36) ?hr ?_; (case hd => rfl); (case hg => rfl); (case hr => first | (go_simp; done) | (go_simp; rfl)); intro gb hg w8 hbox hb; have HB8 := Lib.hid hb; have GE := Lib.hid (show wr.heap.size ≤ gb by omega); have hcz0 : w8.cell? ⟨gb, 0, none⟩ = some (.string ⟨#[]⟩) := (blk_cell hbox 0).trans rfl; have hcz1 : w8.cell? ⟨gb, 1, none⟩ = some (.int .i64 0) := (blk_cell hbox 1).trans rfl; have hfz0 := blk_frozen hbox 0; have hfz1 := blk_frozen hbox 1; clear hb hbox hg)
              | (go_at_call 21; with_reducible refine (stock_between.calls (y.f0.size : Int) 1 20 _ _ H1.out).mono ?_; rintro e w9 ⟨rfl, ⟨n9, rfl⟩⟩)
              | (go_at_call 21; with_reducible refine (stock_between.calls y.f1 1 10000 _ _ H2.out).mono ?_; rintro e w9 ⟨rfl, ⟨n9, rfl⟩⟩)
              | ((try (refine gate_guard (by rfl) ?_; dsimp only)); at_lookup; refine wpList_lookup_bool _ rfl _ _ 84 rfl 9 4 law Tryd.underlying84 Tryd.underlying4 (zeroB _) w.heap.size m _ rfl (own_on OW.out (by repeat (first | exact (((HB8.out.setCell (p := ⟨gb, 0, none⟩) GE.out (.string y.f0)).setCell (p := ⟨gb, 1, none⟩) GE.out (.int .i64 y.f1)).mono SZ.out) | apply pw_below_drewN))) _ _ rfl HKEY.out _ (seenMap_at _ _) ?_; rw [show ((l0.take m).map nameOf).contains y.f0.data.toList = true from HC.out]))
            go_ret
            refine ⟨?_, ?_⟩
            · rw [KD.out, HC.out]; simp
            · exact below_then BW.out BW.out.size (by repeat (first | exact ((HB8.out.setCell (p := ⟨gb, 0, none⟩) GE.out (.string y.f0)).setCell (p := ⟨gb, 1, none⟩) GE.out (.int .i64 y.f1)) | apply pw_below_drewN))
          | false =>
            go_wp2_with (first
              | ((with_reducible refine gate_dst (N := 5) rfl ?_); refine box_event ?hg (N := 5) ?hd (cs := #[.string ⟨#[]⟩, .int .i64 0]) (t := 36) ?hr ?_; (case hd => rfl); (case hg => rfl); (case hr => first | (go_simp; done) | (go_simp; rfl)); intro gb hg w8 hbox hb; have HB8 := Lib.hid hb; have GE := Lib.hid (show wr.heap.size ≤ gb by omega); have hcz0 : w8.cell? ⟨gb, 0, none⟩ = some (.string ⟨#[]⟩) := (blk_cell hbox 0).trans rfl; have hcz1 : w8.cell? ⟨gb, 1, none⟩ = some (.int .i64 0) := (blk_cell hbox 1).trans rfl; have hfz0 := blk_frozen hbox 0; have hfz1 := blk_frozen hbox 1; clear hb hbox hg)
              | (go_at_call 21; with_reducible refine (stock_between.calls (y.f0.size : Int) 1 20 _ _ H1.out).mono ?_; rintro e w9 ⟨rfl, ⟨n9, rfl⟩⟩)
              | (go_at_call 21; with_reducible refine (stock_between.calls y.f1 1 10000 _ _ H2.out).mono ?_; rintro e w9 ⟨rfl, ⟨n9, rfl⟩⟩)
              | ((try (refine gate_guard (by rfl) ?_; dsimp only)); at_lookup; refine wpList_lookup_bool _ rfl _ _ 84 rfl 9 4 law Tryd.underlying84 Tryd.underlying4 (zeroB _) w.heap.size m _ rfl (own_on OW.out (by repeat (first | exact (((HB8.out.setCell (p := ⟨gb, 0, none⟩) GE.out (.string y.f0)).setCell (p := ⟨gb, 1, none⟩) GE.out (.int .i64 y.f1)).mono SZ.out) | apply pw_below_drewN))) _ _ rfl HKEY.out _ (seenMap_at _ _) ?_; rw [show ((l0.take m).map nameOf).contains y.f0.data.toList = false from HC.out])
              | (at_mapUpdate; refine wpList_mapUpdate_own _ rfl _ _ _ 84 rfl 9 4 law Tryd.underlying84 _ w.heap.size m _ rfl (own_on OW.out (Below.mono (by repeat (first | exact ((HB8.out.setCell (p := ⟨gb, 0, none⟩) GE.out (.string y.f0)).setCell (p := ⟨gb, 1, none⟩) GE.out (.int .i64 y.f1)) | apply pw_below_drewN)) SZ.out)) (by unfold maxLen; omega) _ _ _ rfl rfl HKEY.out _ [] (plainElem_bool Tryd.underlying4 true) ?_; intro w10 hown1 hgrow1; have HO1 := Lib.hid hown1; have HW1 := Lib.hid (Below.grown (B := w.heap.size) (a := w) (below_then BW.out BW.out.size (by repeat (first | exact ((HB8.out.setCell (p := ⟨gb, 0, none⟩) GE.out (.string y.f0)).setCell (p := ⟨gb, 1, none⟩) GE.out (.int .i64 y.f1)) | apply pw_below_drewN))) hgrow1 (Nat.le_trans BW.out.size (Below.size (by repeat (first | exact ((HB8.out.setCell (p := ⟨gb, 0, none⟩) GE.out (.string y.f0)).setCell (p := ⟨gb, 1, none⟩) GE.out (.int .i64 y.f1)) | apply pw_below_drewN)))) (fun j hj => by cases hj; exact Nat.le_refl _)); clear hown1 hgrow1))
            go_roundg (l0.length - (m + 1))
            case measure => omega
            case rel => exact ⟨m + 1, by omega, Nat.le_refl _, by go_num, by rw [SN.out, seenMap_snoc]; exact HO1.out, HW1.out, by rw [KD.out, HK1.out, HC.out, SN.out]; rfl⟩
    · have hltz : ¬ (m : Int) < (l0.length : Int) := by omega
      obtain rfl : m = l0.length := by omega
      have HK := Lib.hid (show kindsOk l0 [] = true by rw [KO.out, List.drop_length]; rfl)
      have HB := Lib.hid BW.out
      clear OW BW KO
      go_wp2
      go_ret
      refine ⟨?_, HB.out⟩
      rw [HK.out]
      simp
      omega
end Go.Proofs.YtemcplbldfldlaaDoor.P
