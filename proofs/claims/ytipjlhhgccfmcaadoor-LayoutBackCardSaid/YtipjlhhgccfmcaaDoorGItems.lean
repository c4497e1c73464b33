/- wire's reader of a list of ints. -/
import Derived.Test.YtipjlhhgccfmcaaDoorPx6
import Derived.Test.YtipjlhhgccfmcaaDoorGNumber
import Derived.Test.YtipjlhhgccfmcaaDoorGClose
import Derived.Test.YtipjlhhgccfmcaaDoorGShort
import Derived.Lib.Hide
import Derived.BigQuiet
namespace Go.Proofs.YtipjlhhgccfmcaaDoor.P
open Go.RowKit Go.Proofs.YtipjlhhgccfmcaaDoorW.PrintWords Go.Proofs.YtipjlhhgccfmcaaDoorW.PrintLast Go.Proofs.YtipjlhhgccfmcaaDoorW.PrintMore
set_option linter.unusedVariables false
set_option linter.unusedSimpArgs false
theorem int_info : (Tryd.prog.info? 3).map (fun i => (i.zero, i.size, i.bytes)) = some (some (.int .i64 0), 1, 8) := by kernel_rfl
/-- What is read is less, or the reading failed. -/
theorem numR_less (s : ByteArray) (b : Bool) (e l : Int) : (numR s b e l).2.1.size ≤ s.size ∧ ((numR s b e l).2.2 = true ∨ (numR s b e l).2.1.size < s.size) := by
  have h0 : (⟨#[]⟩ : ByteArray).size = 0 := rfl
  unfold numR
  by_cases hat : atB s e < 0
  · rw [if_pos hat]; exact ⟨by rw [h0]; omega, .inl rfl⟩
  · rw [if_neg hat]
    obtain ⟨k, hk⟩ : ∃ k : Nat, atB s e = (k : Int) := ⟨(atB s e).toNat, by omega⟩
    have h1 := head_lt hk
    have h2 := head_le s
    split
    · split
      · simp only [ByteArray.size_extract, hk, Int.toNat_natCast]
        exact ⟨by omega, .inr (by omega)⟩
      · exact ⟨by rw [h0]; omega, .inl rfl⟩
    · exact ⟨by rw [h0]; omega, .inl rfl⟩
theorem numR_range (s : ByteArray) (b : Bool) (e l : Int) : -9223372036854775808 ≤ (numR s b e l).1 ∧ (numR s b e l).1 ≤ 9223372036854775807 := by
  unfold numR
  split
  · exact ⟨by simp, by simp⟩
  · split
    · rename_i n hn
      have := Lib.atoiAll_bounds hn
      split
      · exact this
      · exact ⟨by simp, by simp⟩
    · exact ⟨by simp, by simp⟩
/-- The items that are read, while there are some to come and none has failed. -/
def itemsR : Nat → Int → ByteArray → Bool → List Int → List Int × ByteArray × Bool
  | 0, _, s, b, out => (out, s, b)
  | k + 1, n, s, b, out => if n > 0 ∧ b = false then itemsR k (n - 1) (numR s b 59 (-9223372036854775808)).2.1 (numR s b 59 (-9223372036854775808)).2.2 (out ++ [(numR s b 59 (-9223372036854775808)).1]) else (out, s, b)
def itemsS (s : ByteArray) (b : Bool) : List Int × ByteArray × Bool := itemsR (s.size + 1) (numR s b 91 0).1 (numR s b 91 0).2.1 (numR s b 91 0).2.2 []
def wire_Reader_Nums.f (s0_0 : ByteArray) (s0_1 : Bool) : Option (List Int × ByteArray × Bool) :=
  if s0_0.size ≤ 1000000 then
    (wire_Reader_close.f (itemsS s0_0 s0_1).2.1 (itemsS s0_0 s0_1).2.2 ⟨#[93]⟩).bind fun z => some (if z.2 = true then [] else (itemsS s0_0 s0_1).1, z.1, z.2)
  else none
theorem int_call (s : ByteArray) (b : Bool) (h : s.size ≤ 1000000) : wire_Reader_Int.f s b = some (numR s b 59 (-9223372036854775808)) := by
  unfold wire_Reader_Int.f wire_Reader_number.f
  rw [if_pos (by omega)]
  rfl
set_option maxHeartbeats 4000000 in
set_option maxRecDepth 100000 in
theorem items_calls (g : Nat) (s : ByteArray) (b : Bool) (r1 : List Int) (r2 : ByteArray) (r3 : Bool) (w0 w : World) (htab : Tab w) (hI : IsS46 w0 w g s b) (hB : Below w0.heap.size w0 w) (h : wire_Reader_Nums.f s b = some (r1, r2, r3)) :
    Calls Tryd.prog 23 #[.pointer (some ⟨g, 0, none⟩), .func (.func 15) #[.pointer (some ⟨g, 0, none⟩)] #[]] w fun e w' => ∃ v0_ : Value, e = .returned (v0_) ∧ Kd.R (Kd.int .i64) 3 w' w.heap.size (fun _ => True) v0_ r1 ∧ IsS46 w0 w' g r2 r3 ∧ Below w0.heap.size w0 w' ∧ KeepBut w w' g none := by
  unfold wire_Reader_Nums.f at h
  by_cases hs : s.size ≤ 1000000
  · rw [if_pos hs] at h
    obtain ⟨⟨c1, c2⟩, hc, h⟩ := Option.bind_eq_some_iff.mp h
    simp only [Option.some.injEq, Prod.mk.injEq] at h
    have hnum : wire_Reader_number.f s b 91 0 = some (numR s b 91 0) := by unfold wire_Reader_number.f; rw [if_pos (by omega)]
    have hlt := hI.lt
    have hless := numR_less s b 91 0
    have hrng := numR_range s b 91 0
    unfold itemsS at hc h
    generalize numR s b 91 0 = p at hnum hless hrng hc h
    obtain ⟨n1, s1, b1⟩ := p
    simp only at hless hrng hc h
    generalize hF : s.size = F at hs hless hc h
    clear hF
    have HH := Lib.hid h
    have HC := Lib.hid hc
    have HN := Lib.hid hnum
    have HI := Lib.hid hI
    have HB := Lib.hid hB
    have HT := Lib.hid htab
    have HLT := Lib.hid hlt
    clear h hc hnum hI hB htab hlt
    go_enter Tryd.func23, Tryd.ntmps23
    go_wp2_with (go_at_call 22; refine (wire_Reader_number.calls g s b 91 0 n1 s1 b1 w0 _ HT.out HI.out HB.out HN.out).mono ?_; rintro e w1 ⟨rfl, hi1, hb1, hk1⟩)
    obtain ⟨hg1, hge⟩ := hi1
    have HG1 := Lib.hid hg1
    have HGE := Lib.hid hge
    have HB1 := Lib.hid hb1
    have HK1 := Lib.hid hk1
    clear hg1 hge hb1 hk1
    have KT : ∀ W, KeepBut w W g none → Tab W := fun W hk => HT.out.keep HI.out.1 hk
    have HKT := Lib.hid KT
    have hsz : 0 < ((⟨#[93]⟩ : ByteArray)).size := by decide
    clear KT
    go_loopg [5, 6] (F + 1) (fun gg s5 s6 wr => ∃ (n : Int) (sx : ByteArray) (bx : Bool) (out : List Int), s6 = .int .i64 n ∧ n ≤ 9223372036854775807 ∧ sx.size ≤ F ∧ (bx = true ∨ sx.size < gg) ∧ (bx = true ∨ out.length + sx.size ≤ F) ∧ out.length ≤ F + 1 ∧ Aside (itemsR gg n sx bx out = itemsR (F + 1) n1 s1 b1 []) ∧ Aside (Kd.R (Kd.int .i64) 3 wr w.heap.size (fun k => k ≠ g) s5 out) ∧ Aside (wr.heap[g]? = some (.cells #[.string sx, .bool bx] 46 (0, 0))) ∧ Aside (Below w0.heap.size w0 wr) ∧ Aside (KeepBut w wr g none))
    case atStart => exact ⟨n1, s1, b1, [], rfl, hrng.2, hless.1, by omega, by simp; omega, by simp, rfl, Kd.R_nil _ _ _ _ _, HG1.out, HB1.out, HK1.out⟩
    case round =>
      obtain ⟨n, sx, bx, out, rfl, hn, hsx, hgg, hlen, hlen2, EA, RA, GA, BA, KA⟩ := hrel
      have cx1 := cellS46_1 GA.out
      have IX := Lib.hid (show IsS46 w0 wr g sx bx from ⟨GA.out, HGE.out⟩)
      have hxr : ¬ (n > 0 ∧ bx = false) → itemsR gk n sx bx out = (out, sx, bx) := fun hx => by
        cases gk with
        | zero => rfl
        | succ q => simp only [itemsR]; rw [if_neg hx]
      have HXR := Lib.hid hxr
      clear hxr
      by_cases hgo : n > 0 ∧ bx = false
      · obtain ⟨hpos, rfl⟩ := hgo
        have hgl : sx.size < gk := by simpa using hgg
        obtain ⟨q, rfl⟩ : ∃ q, gk = q + 1 := ⟨gk - 1, by omega⟩
        have hout : out.length + sx.size ≤ F := by simpa using hlen
        have hint := int_call sx false (by omega)
        have hless2 := numR_less sx false 59 (-9223372036854775808)
        have EB := EA.out
        simp only [itemsR] at EB
        rw [if_pos ⟨hpos, trivial⟩] at EB
        generalize numR sx false 59 (-9223372036854775808) = p at hint hless2 EB
        obtain ⟨x, s2, b2⟩ := p
        simp only at hless2 EB
        have HINT := Lib.hid hint
        have HEB := Lib.hid EB
        clear hint EB EA hlen hgg HXR
        go_wp2_with (first
          | (go_at_call 15; refine (wire_Reader_Int.calls g sx false x s2 b2 w0 wr (HKT.out _ KA.out) IX.out BA.out HINT.out).mono ?_; rintro e w2 ⟨rfl, hi2, hb2, hk2⟩; have HR2 := Lib.hid (Kd.R_keep RA.out hk2 (fun _ h => h)); have HI2 := Lib.hid hi2.1; have HB2 := Lib.hid hb2; have HK2 := Lib.hid (KA.out.trans hk2 (.inl rfl)); clear hi2 hb2 hk2)
          | ((with_reducible refine gate_builtin (b := .append) (xs := #[.tmp 20, .tmp 23]) rfl ?_); at_builtin; refine Kd.R_append (Kd.int .i64) (w0 := w2) w.heap.size rfl (.tmp 20) (.tmp 23) 38 3 (.int .i64 0) 8 rfl Tryd.underlying38 int_info rfl (by decide) (by omega) u5 out x [.int .i64 x] (fun k => k ≠ g) (fun _ => False) rfl (by first | (go_simp; done) | (go_simp; rfl)) rfl (fun _ hk => hk.elim) (fun k hk => by have h1 := HLT.out; have h2 := HK2.out.1; omega) HR2.out (Below.refl _ _) HK2.out.1 (by omega) ?_; intro v10 w10 ho hb hg hat; have HO := Lib.hid ho; have HBX := Lib.hid hb; clear ho hb hg hat))
        go_roundg q
        case measure => omega
        case rel =>
          exact ⟨n - 1, s2, b2, out ++ [x], by go_num, by omega, by omega, hless2.2.imp id (fun h => by omega), hless2.2.imp id (fun h => by simp; omega), by simp; omega, HEB.out, HO.out, (HBX.out.block g HLT.out).trans HI2.out, HB2.out.trans (HBX.out.mono HB.out.size), ⟨Nat.le_trans HK2.out.1 HBX.out.size, fun i hi hg hr => (HBX.out.block i hi).trans (HK2.out.2 i hi hg hr)⟩⟩
      · have hx := HXR.out hgo
        have EB := EA.out
        rw [hx] at EB
        have HC2 := HC.out
        have HH2 := HH.out
        rw [← EB] at HC2 HH2
        simp only at HC2 HH2
        obtain ⟨rfl, rfl, rfl⟩ := HH2
        have HCX := Lib.hid HC2
        clear HC2 EB hx EA HXR
        have hR2 : ∀ W, KeepBut wr W g none → Kd.R (Kd.int .i64) 3 W w.heap.size (fun _ => True) u5 out := fun W hk => Kd.R_mono (Kd.R_keep RA.out hk (fun _ h => h)) (fun _ _ => trivial)
        have HR2 := Lib.hid hR2
        clear hR2 hgg hlen hless
        have hpn : (n > 0 ∧ bx = true) ∨ ¬ n > 0 := by
          rcases Classical.em (n > 0) with h1 | h1
          · cases bx with
            | true => exact .inl ⟨h1, rfl⟩
            | false => exact absurd ⟨h1, rfl⟩ hgo
          · exact .inr h1
        clear hgo
        rcases hpn with ⟨hpos, rfl⟩ | hpos
        all_goals
          cases c2 with
          | true =>
            go_wp2_with (go_at_call 29; refine (wire_Reader_close.calls g sx _ ⟨#[93]⟩ c1 true w0 wr IX.out BA.out HCX.out).mono ?_; rintro e w2 ⟨rfl, hi2, hb2, hk2⟩; have cz1 := cellS46_1 hi2.1; have HI2 := Lib.hid hi2; have HB2 := Lib.hid hb2; have HK2 := Lib.hid hk2; clear hi2 hb2 hk2)
            go_ret
            exact ⟨_, rfl, Kd.R_nil _ _ _ _ _, HI2.out, HB2.out, KA.out.trans HK2.out (.inl rfl)⟩
          | false =>
            go_wp2_with (go_at_call 29; refine (wire_Reader_close.calls g sx _ ⟨#[93]⟩ c1 false w0 wr IX.out BA.out HCX.out).mono ?_; rintro e w2 ⟨rfl, hi2, hb2, hk2⟩; have cz1 := cellS46_1 hi2.1; have HI2 := Lib.hid hi2; have HB2 := Lib.hid hb2; have HK2 := Lib.hid hk2; clear hi2 hb2 hk2)
            go_ret
            exact ⟨_, rfl, HR2.out _ HK2.out, HI2.out, HB2.out, KA.out.trans HK2.out (.inl rfl)⟩
  · rw [if_neg hs] at h; cases h
theorem wire_Reader_Nums.calls (g : Nat) (s0_0 : ByteArray) (s0_1 : Bool) (r1 : List Int) (r2 : ByteArray) (r3 : Bool) (w0 w : World) (htab : Tab w) (hI : IsS46 w0 w g s0_0 s0_1) (hB : Below w0.heap.size w0 w) (h : wire_Reader_Nums.f s0_0 s0_1 = some (r1, r2, r3)) :
    Calls Tryd.prog 14 #[.pointer (some ⟨g, 0, none⟩)] w fun e w' => ∃ v0_ : Value, e = .returned (v0_) ∧ Kd.R (Kd.int .i64) 3 w' w.heap.size (fun _ => True) v0_ r1 ∧ IsS46 w0 w' g r2 r3 ∧ Below w0.heap.size w0 w' ∧ KeepBut w w' g none := by
  have hi := items_calls g s0_0 s0_1 r1 r2 r3 w0 w htab hI hB h
  have hmf : ∀ (fn : Fn) (first cap : Array Value) (w : World), (Instr.makeFunc fn first cap).run Tryd.prog w = .ok (.func fn first cap) w := fun _ _ _ _ => rfl
  have c0 := cellS46_0 hI.1
  clear htab hI hB h
  go_enter Tryd.func14, Tryd.ntmps14
  go_wp2_with (go_at_call 23; refine hi.mono ?_; rintro e w1 ⟨v, rfl, hr, hi1, hb1, hk1⟩)
  go_ret
  exact ⟨_, rfl, hr, hi1, hb1, hk1⟩
end Go.Proofs.YtipjlhhgccfmcaaDoor.P
