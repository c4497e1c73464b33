/- wire.Nums: a list of ints, encoded. -/
import Derived.Test.YtipjlhhgccfmcaaDoorGBuild
import Derived.Test.YtipjlhhgccfmcaaDoorGShort
import Derived.Test.YtipjlhhgccfmcaaDoorGEv
import Derived.Test.YtipjlhhgccfmcaaDoorPx4
import Derived.Lib.Hide
import Derived.BigQuiet
import Derived.Deep.DeepCutAuto
namespace Go.Proofs.YtipjlhhgccfmcaaDoor.P
open Go.RowKit Go.Proofs.YtipjlhhgccfmcaaDoorW.PrintWords Go.Proofs.YtipjlhhgccfmcaaDoorW.PrintLast Go.Proofs.YtipjlhhgccfmcaaDoorW.PrintMore
set_option linter.unusedVariables false
set_option linter.unusedSimpArgs false
def inR (n : Int) : Bool := decide (-9223372036854775808 ≤ n ∧ n ≤ 9223372036854775807)
/-- An int's encoding; a list's. -/
def intB (n : Int) : List UInt8 := Lib.itoa n ++ [59]
def numsB (l : List Int) : List UInt8 := Lib.itoa (l.length : Int) ++ [91] ++ l.flatMap intB ++ [93]
theorem IsB.below {B b : Nat} {l : List UInt8} {w w1 : World} (h : IsB B b l w) (hb : Below w.heap.size w w1) : IsB B b l w1 := by
  have go : ∀ p, Lib.BuilderAt 61 5 B b p (Lib.byteCells l) w → Lib.BuilderAt 61 5 B b p (Lib.byteCells l) w1 := fun p h => by
    have hlt := h.lt
    obtain ⟨hB, v, hv, hown, hne⟩ := h
    exact ⟨hB, v, (hb.block b hlt).trans hv, hown.kept (row := none) (grown_of_below hb none) (Classical.em _), hne⟩
  exact h.elim (fun x => .inl (go _ x)) (fun x => .inr (go _ x))
theorem flat_snoc {α : Type} (l : List α) (f : α → List UInt8) (i : Nat) (z : α) (h : i < l.length) : (l.take (i + 1)).flatMap f = (l.take i).flatMap f ++ f (l.getD i z) := by
  rw [List.take_succ_eq_append_getElem h, List.flatMap_append]
  simp [List.getD_eq_getElem?_getD, h]
theorem intB_len (n : Int) (h : inR n = true) : (intB n).length ≤ 21 := by
  have h := of_decide_eq_true h
  have := itoa_len n h.1 h.2
  simp [intB]; omega
theorem flat_len (l : List Int) (h : ∀ x ∈ l, inR x = true) : (l.flatMap intB).length ≤ l.length * 21 := by
  induction l with
  | nil => simp
  | cons x r ih =>
    have h1 := intB_len x (h x (by simp))
    have h2 := ih (fun y hy => h y (by simp [hy]))
    rw [List.flatMap_cons, List.length_append, List.length_cons]
    omega
theorem itoa_size (n : Int) : (⟨(Lib.itoa n).toArray⟩ : ByteArray).size = (Lib.itoa n).length := by simp [ByteArray.size]
theorem int_eq (n : Int) (h : inR n = true) : wire_Int.f n = some ⟨(intB n).toArray⟩ := by
  have h := of_decide_eq_true h
  have hl := itoa_len n h.1 h.2
  unfold wire_Int.f strconv_Itoa.f
  rw [if_pos h]
  simp only [Option.bind_some]
  rw [if_pos (by rw [itoa_size]; omega)]
  congr 1
theorem ba_app (l m : List UInt8) : (⟨l.toArray⟩ : ByteArray) ++ (⟨m.toArray⟩ : ByteArray) = ⟨(l ++ m).toArray⟩ := by
  apply ByteArray.ext
  simp
theorem ret_str {a b : ByteArray} (h : a = b) : Ending.returned (.string a) = .returned (.string b) := by rw [h]
def wire_Nums.f (l0 : List Int) : Option (ByteArray) := if l0.length ≤ 1000000 ∧ l0.all inR = true then some ⟨(numsB l0).toArray⟩ else none
set_option maxHeartbeats 4000000 in
set_option maxRecDepth 100000 in
theorem list_calls (A0 : Option Addr) (c0 : Nat) (l0 : List Int) (w : World) (htab : Tab w) (hr0 : Kd.C (Kd.int .i64) w A0 l0.length l0) (hlen : l0.length ≤ 1000000) (hall : ∀ x ∈ l0, inR x = true) :
    Calls Tryd.prog 24 #[.slice A0 l0.length c0, .func (.func 19) #[] #[]] w fun e w' => e = .returned (.string ⟨(numsB l0).toArray⟩) ∧ Below w.heap.size w w' := by
  have HR := Lib.hid hr0
  have HT := Lib.hid htab
  have HA := Lib.hid hall
  have hf : strconv_Itoa.f (l0.length : Int) = some ⟨(Lib.itoa (l0.length : Int)).toArray⟩ := by unfold strconv_Itoa.f; rw [if_pos ⟨by omega, by omega⟩]
  have hil := itoa_len (l0.length : Int) (by omega) (by omega)
  have HF := Lib.hid hf
  have hfr : IsB w.heap.size w.heap.size [] (w.alloc (.cells #[.pointer none, .slice none 0 0] 61)) := Lib.fresh_isBuilder 61 5 w
  have HB := Lib.hid hfr
  clear hr0 htab hall hf hfr
  have hsz := itoa_size (l0.length : Int)
  generalize hbs : (⟨(Lib.itoa (l0.length : Int)).toArray⟩ : ByteArray) = bs at hsz HF
  have HS := Lib.hid hbs
  have hbl : bs.size ≤ 20 := by omega
  clear hbs hsz hil
  go_enter Tryd.func24, Tryd.ntmps24
  go_wp2_with (go_at_call 25; refine (strconv_Itoa.calls _ bs _ (HT.out.below (below_alloc (Below.refl _ _) _)) HF.out).mono ?_)
  rintro e w1 ⟨rfl, hb1⟩
  have B1 := Lib.hid (below_step (below_alloc (Below.refl w.heap.size w) _) hb1)
  have S1 := Lib.hid (IsB.below HB.out hb1)
  clear hb1
  go_wp2_with (go_at_call 30; refine (build_write w.heap.size w.heap.size [] _ _ S1.out ?c1 ?c2).mono ?_)
  case c1 => rw [ByteArray.size_append, show (⟨#[91]⟩ : ByteArray).size = 1 from rfl, List.length_nil]; omega
  case c2 => exact B1.out.size
  rintro e w2 ⟨rfl, hs2, hb2⟩
  have e2 : [] ++ (bs ++ (⟨#[91]⟩ : ByteArray)).data.toList = Lib.itoa (l0.length : Int) ++ [91] := by rw [← HS.out]; simp
  rw [e2] at hs2
  have B2 := Lib.hid (B1.out.trans hb2)
  have S2 := Lib.hid hs2
  clear hb2 hs2 B1 S1 e2
  go_wp2
  go_loopg [7, 15] l0.length (fun gg _ s15 wr => ∃ kk : Nat, kk ≤ l0.length ∧ l0.length - kk ≤ gg ∧ s15 = .int .i64 kk ∧ Aside (Below w.heap.size w wr) ∧ Aside (IsB w.heap.size w.heap.size (Lib.itoa (l0.length : Int) ++ [91] ++ (l0.take kk).flatMap intB) wr))
  case atStart => exact ⟨0, Nat.zero_le _, by omega, rfl, B2.out, (show IsB _ _ _ _ from by simpa using S2.out)⟩
  case round =>
    obtain ⟨kk, hkk, hg, rfl, BW, SW⟩ := hrel
    have hfl := flat_len (l0.take kk) (fun x hx => HA.out x (List.mem_of_mem_take hx))
    rw [List.length_take] at hfl
    have hil := itoa_len (l0.length : Int) (by omega) (by omega)
    by_cases hlt : kk < l0.length
    · have hltz : (kk : Int) < (l0.length : Int) := by omega
      obtain ⟨ad, rfl, l2⟩ := Kd.at_int (Kd.C_below HR.out BW.out) (kk : Int) (by omega) hltz
      have hsn := flat_snoc l0 intB kk 0 hlt
      have hin := HA.out (l0.getD kk 0) (getD_mem l0 kk 0 hlt)
      simp only [rd, Int.toNat_natCast] at l2
      generalize l0.getD kk 0 = y at l2 hsn hin
      have hsz : (⟨(intB y).toArray⟩ : ByteArray).size ≤ 21 := by have := intB_len y hin; simpa [ByteArray.size] using this
      have HN := Lib.hid hsn
      have HI := Lib.hid (int_eq y hin)
      generalize hbs : (⟨(intB y).toArray⟩ : ByteArray) = ys at hsz HI
      have HY := Lib.hid hbs
      clear hsn hin hbs
      go_wp2_with (go_at_call 19; refine (wire_Int.calls y ys _ (HT.out.below BW.out) HI.out).mono ?_)
      rintro e w3 ⟨rfl, hb3⟩
      have S3 := Lib.hid (IsB.below SW.out hb3)
      have B3 := Lib.hid (below_step BW.out hb3)
      clear hb3 SW BW
      go_wp2_with (go_at_call 30; refine (build_write w.heap.size w.heap.size _ _ _ S3.out ?c3 ?c4).mono ?_)
      case c3 => simp only [List.length_append, List.length_cons, List.length_nil]; omega
      case c4 => exact B3.out.size
      rintro e w4 ⟨rfl, hs4, hb4⟩
      have B4 := Lib.hid (B3.out.trans hb4)
      have S4 := Lib.hid hs4
      clear hb4 hs4 B3 S3
      go_wp2
      go_roundg (l0.length - (kk + 1))
      case measure => omega
      case rel =>
        refine ⟨kk + 1, by omega, by omega, by go_num, B4.out, ?_⟩
        show IsB _ _ _ _
        have := S4.out
        rw [← HY.out] at this
        rw [HN.out]
        simpa using this
    · have hltz : ¬ (kk : Int) < (l0.length : Int) := by omega
      have hkk' : kk = l0.length := by omega
      have SW2 := SW.out
      rw [hkk', List.take_of_length_le (Nat.le_refl _)] at SW2
      have hstr := build_string w.heap.size w.heap.size _ wr SW2 BW.out.size
      have hsz : (⟨(Lib.itoa (l0.length : Int) ++ [91] ++ l0.flatMap intB).toArray⟩ : ByteArray).size + 1 ≤ 9223372036854775807 := by
        have := flat_len l0 HA.out
        simp only [ByteArray.size, List.size_toArray, List.length_append, List.length_cons, List.length_nil]
        omega
      generalize hq : (⟨(Lib.itoa (l0.length : Int) ++ [91] ++ l0.flatMap intB).toArray⟩ : ByteArray) = str at hstr hsz
      have hsz1 := eq_true hsz
      have hsz2 : decide (str.size + 1 ≤ 9223372036854775807) = true := decide_eq_true hsz
      have HQ := Lib.hid hq
      clear SW2 hkk' hq SW hil hfl
      go_wp2_with (go_at_call 31; refine hstr.mono ?_; rintro e w5 ⟨rfl, hb5⟩)
      go_ret
      refine ⟨?_, BW.out.trans hb5⟩
      rw [← HQ.out]
      exact ret_str (ba_app _ [93])
theorem wire_Nums.calls (A0 : Option Addr) (c0 : Nat) (l0 : List Int) (r : ByteArray) (w : World) (htab : Tab w) (hr0 : Kd.C (Kd.int .i64) w A0 l0.length l0) (hc0 : l0.length ≤ c0) (h : wire_Nums.f l0 = some r) :
    Calls Tryd.prog 18 #[.slice A0 l0.length c0] w fun e w' => e = .returned (.string r) ∧ Below w.heap.size w w' := by
  unfold wire_Nums.f at h
  by_cases hg : l0.length ≤ 1000000 ∧ l0.all inR = true
  · rw [if_pos hg] at h
    obtain rfl := Option.some.inj h
    have hl := list_calls A0 c0 l0 w htab hr0 hg.1 (List.all_eq_true.1 hg.2)
    clear h hr0 htab hg
    generalize (⟨(numsB l0).toArray⟩ : ByteArray) = rr at hl ⊢
    go_enter Tryd.func18, Tryd.ntmps18
    go_wp2_with (go_at_call 24; refine hl.mono ?_; rintro e w1 ⟨rfl, hb1⟩)
    go_ret
    exact ⟨rfl, hb1⟩
  · rw [if_neg hg] at h; cases h
end Go.Proofs.YtipjlhhgccfmcaaDoor.P
