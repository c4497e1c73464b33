/- wire's reader of a decimal numeral and the byte behind it. -/
import Derived.Test.YtemcplbldfldlaaDoorGTab
import Derived.Test.YtemcplbldfldlaaDoorGShort
import Derived.Test.YtemcplbldfldlaaDoorPx12
import Derived.Lib.IndexLaws
import Derived.Lib.IndexBytes
import Derived.Lib.Hide
import Derived.BigRegion
import Derived.BigQuiet
import Derived.Deep.QuietTactic
import Derived.Deep.RegionHeld3
import Derived.Deep.DeepCutAuto
import Derived.WalkLawsBesides
import Derived.WalkSpells
namespace Go.Proofs.YtemcplbldfldlaaDoor.P
open Go.RowKit Go.Proofs.YtemcplbldfldlaaDoorW.PrintWords Go.Proofs.YtemcplbldfldlaaDoorW.PrintLast Go.Proofs.YtemcplbldfldlaaDoorW.PrintMore
set_option linter.unusedVariables false
set_option linter.unusedSimpArgs false
/-- The bytes among which the byte behind the numeral is sought. -/
def headB (s : ByteArray) : ByteArray := s.extract 0 (min (s.size : Int) 21).toNat
/-- Where it is, or -1. -/
def atB (s : ByteArray) (e : Int) : Int := Lib.indexByte (headB s).data.toList e.toNat.toUInt8
theorem head_le (s : ByteArray) : (headB s).size ≤ s.size := by
  unfold headB
  simp
  omega
theorem head_lt {s : ByteArray} {e : Int} {k : Nat} (h : atB s e = (k : Int)) : k < (headB s).size := by
  unfold atB at h
  obtain ⟨h1, _⟩ := Lib.indexByte_some h
  obtain ⟨h2, _⟩ := List.getElem?_eq_some_iff.1 h1
  simpa using h2
/-- What a reader of a numeral tells: the number, the rest, whether it failed. -/
def numR (s : ByteArray) (bad : Bool) (e least : Int) : Int × ByteArray × Bool :=
  if atB s e < 0 then (0, ⟨#[]⟩, true) else
  match Lib.atoiAll ((headB s).extract 0 (atB s e).toNat).data.toList with
  | .ok n => if Lib.itoa n = ((headB s).extract 0 (atB s e).toNat).data.toList ∧ least ≤ n then (n, s.extract ((atB s e).toNat + 1) s.size, bad) else (0, ⟨#[]⟩, true)
  | _ => (0, ⟨#[]⟩, true)
def wire_Reader_number.f (s0_0 : ByteArray) (s0_1 : Bool) (a1 : Int) (a2 : Int) : Option (Int × ByteArray × Bool) :=
  if s0_0.size ≤ 140737488351232 then some (numR s0_0 s0_1 a1 a2) else none
theorem ba_list (b : ByteArray) : b.toList = b.data.toList := by simp [ByteArray.toList_eq]
/-- x, where it is not q: what a walk is handed that knows it. -/
def otherB (x q : ByteArray) : ByteArray := if x.toList = q.toList then q.push 0 else x
theorem otherB_eq {x q : ByteArray} (h : x.toList ≠ q.toList) : otherB x q = x := if_neg h
theorem otherB_ne (x q : ByteArray) : ((otherB x q).toList == q.toList) = false := by
  rw [beq_eq_false_iff_ne]
  unfold otherB
  split
  · rw [ba_list, ba_list]
    simp
  · assumption
attribute [local go_sem] otherB_ne
section
variable (g : Nat) (s : ByteArray) (bad : Bool) (e least : Int) (w0 w : World)
set_option maxHeartbeats 2000000 in
set_option maxRecDepth 100000 in
theorem number_none (hs : s.size ≤ 140737488351232) (hI : IsS81 w0 w g s bad) (hB : Below w0.heap.size w0 w) (hat : atB s e < 0) :
    Calls Tryd.prog 37 #[.pointer (some ⟨g, 0, none⟩), .int .u8 e, .int .i64 least] w fun en w' => en = .returned (.int .i64 0) ∧ IsS81 w0 w' g ⟨#[]⟩ true ∧ Below w0.heap.size w0 w' ∧ KeepBut w w' g none := by
  have hix : ∀ W, Calls Tryd.prog 47 #[.string (headB s), .int .u8 e] W fun e' w' => e' = .returned (.int .i64 (atB s e)) ∧ w' = W := fun W => Any.strings_IndexByte Tryd.laysIdx (headB s) e W
  generalize atB s e = at_ at hat hix
  unfold headB at hix
  have hn : decide (at_ < 0) = true := decide_eq_true hat
  obtain ⟨hg, hge⟩ := hI
  have c0 := cellS81_0 hg
  have HG := Lib.hid hg
  have HGE := Lib.hid hge
  have HB := Lib.hid hB
  have HX := Lib.hid hix
  clear hg hge hB hix
  go_enter Tryd.func37, Tryd.ntmps37
  go_wp2
  go_quiet (fail)
  rename_i nq
  have hI1 : IsS81 w0 (w.drewN nq) g s bad := ⟨HG.out, HGE.out⟩
  have hB1 : Below w0.heap.size w0 (w.drewN nq) := pw_below_drewN HB.out nq
  have HI1 := Lib.hid hI1
  have HB1 := Lib.hid hB1
  have HK := Lib.hid (keep_drewN (KeepBut.refl w g none) nq)
  clear hI1 hB1
  go_wp2_with (first | (go_at_call 47; refine (HX.out _).mono ?_; rintro e w1 ⟨rfl, rfl⟩) | (go_at_call 38; refine (wire_Reader_fail.calls g s bad ⟨#[]⟩ true w0 _ HI1.out HB1.out rfl).mono ?_; rintro e w1 ⟨rfl, hi1, hb1, hk1⟩))
  go_ret
  exact ⟨rfl, hi1, hb1, HK.out.trans hk1 (.inl rfl)⟩
set_option maxHeartbeats 2000000 in
set_option maxRecDepth 100000 in
theorem number_ok (hs : s.size ≤ 140737488351232) (htab : Tab w) (hI : IsS81 w0 w g s bad) (hB : Below w0.heap.size w0 w) (k : Nat) (hat : atB s e = (k : Int)) (n : Int) (hok : Lib.atoiAll ((headB s).extract 0 k).data.toList = .ok n) (hit : Lib.itoa n = ((headB s).extract 0 k).data.toList) (hle : least ≤ n) :
    Calls Tryd.prog 37 #[.pointer (some ⟨g, 0, none⟩), .int .u8 e, .int .i64 least] w fun en w' => en = .returned (.int .i64 n) ∧ IsS81 w0 w' g (s.extract (k + 1) s.size) bad ∧ Below w0.heap.size w0 w' ∧ KeepBut w w' g none := by
  have hix : ∀ W, Calls Tryd.prog 47 #[.string (headB s), .int .u8 e] W fun e' w' => e' = .returned (.int .i64 (atB s e)) ∧ w' = W := fun W => Any.strings_IndexByte Tryd.laysIdx (headB s) e W
  rw [hat] at hix
  have hkl := head_lt hat
  have hks := head_le s
  have hqs : ((headB s).extract 0 k).size ≤ k := by rw [ByteArray.size_extract]; omega
  have hat2 : ∀ W, Calls Tryd.prog 48 #[.string ((headB s).extract 0 k)] W fun e' w' => e' = .returned (.tuple #[.int .i64 n, .nilIface]) ∧ Below W.heap.size W w' := fun W =>
    (Any.strconv_Atoi_ok Tryd.laysAtoi ((headB s).extract 0 k) (by omega) n hok W).mono fun e' w' ⟨he, hw⟩ => ⟨he, by
      rcases hw with rfl | ⟨t, rfl⟩
      · exact Below.refl _ _
      · exact Lib.bytesWorld_below _ _ _⟩
  obtain ⟨n0, n1⟩ := Lib.atoiAll_bounds hok
  have hit2 : ∀ W, Tab W → Calls Tryd.prog 41 #[.int .i64 n] W fun e' w' => e' = .returned (.string ((headB s).extract 0 k)) ∧ Below W.heap.size W w' := fun W hW => strconv_Itoa.calls n _ W hW (by unfold strconv_Itoa.f; rw [if_pos ⟨n0, n1⟩, hit])
  clear hqs
  unfold headB at hat2 hit2 hix hkl hks
  generalize hh : s.extract 0 (min (s.size : Int) 21).toNat = h at hat2 hit2 hix hkl hks
  obtain ⟨hg, hge⟩ := hI
  have c0 := cellS81_0 hg
  have k0 : (0 : Int) ≤ (k : Int) := by omega
  have k1 : (k : Int) ≤ (h.size : Int) := by omega
  have hle2 : decide (n < least) = false := decide_eq_false (by omega)
  have HG := Lib.hid hg
  have HGE := Lib.hid hge
  have HB := Lib.hid hB
  have HX := Lib.hid hix
  have HA := Lib.hid hat2
  have HI2 := Lib.hid hit2
  have HT := Lib.hid htab
  clear hg hge hB hix hat2 hit2 hok hit hat htab
  go_enter Tryd.func37, Tryd.ntmps37
  go_wp2
  go_quiet (fail)
  rename_i nq
  have HH2 := Lib.hid hh
  clear hh
  go_wp2_with (first | (go_at_call 47; refine (HX.out _).mono ?_; rintro e w1 ⟨rfl, rfl⟩) | fail)
  refine (HA.out _).mono ?_
  rintro e w1 ⟨rfl, hb1⟩
  have HT1 := Lib.hid ((HT.out.below (pw_below_drewN (Below.refl w.heap.size w) nq)).below hb1)
  have HB1 := Lib.hid hb1
  clear hb1
  go_wp2
  go_region_held3 (fun W => Tab W ∧ Below w1.heap.size w1 W) (first | exact ⟨HT1.out.below (below_drew1 (Below.refl _ _)), below_drew1 (Below.refl _ _)⟩ | exact ⟨hT_.below hb2, below_step hB_ hb2⟩ | assumption) ((go_at_call 41; obtain ⟨hT_, hB_⟩ := ‹Tab _ ∧ Below _ w1 _›; refine (HI2.out _ hT_).mono ?_; rintro e w2 ⟨rfl, hb2⟩))
  have hS := ‹Tab _ ∧ Below _ w1 _›
  have hbl := below_step HB1.out hS.2
  have hgx := (hbl.block g (by exact blk_lt (HG.out))).trans HG.out
  have cx0 := cellS81_0 hgx
  have cx1 := blk_frozen hgx 0
  have HGX := Lib.hid hgx
  have HBL := Lib.hid hbl
  clear hS hgx hbl
  go_wp2
  go_ret
  have hK2 := KeepBut.of_below HBL.out g none
  have hB2 := below_step (pw_below_drewN HB.out nq) HBL.out
  refine ⟨rfl, ?_, ?_, ?_⟩
  · exact IsS81.set_0 ⟨HGX.out, HGE.out⟩ _
  · exact below_set hB2 HGE.out
  · exact ((keep_drewN (KeepBut.refl w g none) nq).trans hK2 (.inl rfl)).set_ _ _
set_option maxHeartbeats 2000000 in
set_option maxRecDepth 100000 in
theorem number_err (hs : s.size ≤ 140737488351232) (htab : Tab w) (hI : IsS81 w0 w g s bad) (hB : Below w0.heap.size w0 w) (k : Nat) (hat : atB s e = (k : Int)) (hno : ∀ n, Lib.atoiAll ((headB s).extract 0 k).data.toList ≠ .ok n) :
    Calls Tryd.prog 37 #[.pointer (some ⟨g, 0, none⟩), .int .u8 e, .int .i64 least] w fun en w' => en = .returned (.int .i64 0) ∧ IsS81 w0 w' g ⟨#[]⟩ true ∧ Below w0.heap.size w0 w' ∧ KeepBut w w' g none := by
  have hix : ∀ W, Calls Tryd.prog 47 #[.string (headB s), .int .u8 e] W fun e' w' => e' = .returned (.int .i64 (atB s e)) ∧ w' = W := fun W => Any.strings_IndexByte Tryd.laysIdx (headB s) e W
  rw [hat] at hix
  have hkl := head_lt hat
  have hks := head_le s
  have hqs : ((headB s).extract 0 k).size ≤ k := by rw [ByteArray.size_extract]; omega
  have hat2 : ∀ W, Tab W → Calls Tryd.prog 48 #[.string ((headB s).extract 0 k)] W fun e' w' => (∃ v te N, e' = .returned (.tuple #[.int .i64 v, .iface te (.pointer (some ⟨N, 0, none⟩))])) ∧ Below W.heap.size W w' := fun W hW => by
    rcases hc : Lib.atoiAll ((headB s).extract 0 k).data.toList with n | _ | _
    · exact absurd hc (hno n)
    · obtain ⟨tp, p, hv⟩ := hW.syn
      exact (Any.strconv_Atoi_syntax_var Tryd.laysAtoi _ (by omega) hc tp p W hv).mono fun e' w' ⟨N, he, _, _, hb⟩ => ⟨⟨_, _, _, he⟩, hb⟩
    · obtain ⟨tp, p, hv⟩ := hW.rng
      exact (Any.strconv_Atoi_range_var Tryd.laysAtoi _ (by omega) hc tp p W hv).mono fun e' w' ⟨N, he, _, _, hb⟩ => ⟨⟨_, _, _, he⟩, hb⟩
  clear hqs
  unfold headB at hat2 hix hkl hks
  generalize hh : s.extract 0 (min (s.size : Int) 21).toNat = h at hat2 hix hkl hks
  obtain ⟨hg, hge⟩ := hI
  have c0 := cellS81_0 hg
  have k0 : (0 : Int) ≤ (k : Int) := by omega
  have k1 : (k : Int) ≤ (h.size : Int) := by omega
  have HG := Lib.hid hg
  have HGE := Lib.hid hge
  have HB := Lib.hid hB
  have HX := Lib.hid hix
  have HT := Lib.hid htab
  have HA := Lib.hid hat2
  clear hg hge hB hix hat htab hat2 hno
  go_enter Tryd.func37, Tryd.ntmps37
  go_wp2
  go_quiet (fail)
  rename_i nq
  have HH2 := Lib.hid hh
  clear hh
  go_wp2_with (first | (go_at_call 47; refine (HX.out _).mono ?_; rintro e w1 ⟨rfl, rfl⟩) | fail)
  have HT0 := Lib.hid (HT.out.below (pw_below_drewN (Below.refl w.heap.size w) nq))
  refine (HA.out _ HT0.out).mono ?_
  rintro e w1 ⟨⟨va, te, N, rfl⟩, hb1⟩
  have HT1 := Lib.hid (HT0.out.below hb1)
  have HB1 := Lib.hid hb1
  clear hb1
  go_wp2
  go_quiet (fail)
  have HGX := Lib.hid ((HB1.out.block g (by exact blk_lt (HG.out))).trans HG.out)
  have HB2 := Lib.hid (below_step (pw_below_drewN HB.out _) HB1.out)
  go_wp2_with (go_at_call 38; refine (wire_Reader_fail.calls g s bad ⟨#[]⟩ true w0 _ (IsS81.drewN ⟨HGX.out, HGE.out⟩ _) (pw_below_drewN HB2.out _) rfl).mono ?_; rintro e w1 ⟨rfl, hi1, hb1, hk1⟩)
  go_ret
  exact ⟨rfl, hi1, hb1, ((keep_drewN (KeepBut.refl w g none) _).trans (KeepBut.of_below (pw_below_drewN HB1.out _) g none) (.inl rfl)).trans hk1 (.inl rfl)⟩
set_option maxHeartbeats 2000000 in
set_option maxRecDepth 100000 in
theorem number_less (hs : s.size ≤ 140737488351232) (htab : Tab w) (hI : IsS81 w0 w g s bad) (hB : Below w0.heap.size w0 w) (k : Nat) (hat : atB s e = (k : Int)) (n : Int) (hok : Lib.atoiAll ((headB s).extract 0 k).data.toList = .ok n) (hit : Lib.itoa n = ((headB s).extract 0 k).data.toList) (hle : n < least) :
    Calls Tryd.prog 37 #[.pointer (some ⟨g, 0, none⟩), .int .u8 e, .int .i64 least] w fun en w' => en = .returned (.int .i64 0) ∧ IsS81 w0 w' g ⟨#[]⟩ true ∧ Below w0.heap.size w0 w' ∧ KeepBut w w' g none := by
  have hix : ∀ W, Calls Tryd.prog 47 #[.string (headB s), .int .u8 e] W fun e' w' => e' = .returned (.int .i64 (atB s e)) ∧ w' = W := fun W => Any.strings_IndexByte Tryd.laysIdx (headB s) e W
  rw [hat] at hix
  have hkl := head_lt hat
  have hks := head_le s
  have hqs : ((headB s).extract 0 k).size ≤ k := by rw [ByteArray.size_extract]; omega
  have hat2 : ∀ W, Calls Tryd.prog 48 #[.string ((headB s).extract 0 k)] W fun e' w' => e' = .returned (.tuple #[.int .i64 n, .nilIface]) ∧ Below W.heap.size W w' := fun W =>
    (Any.strconv_Atoi_ok Tryd.laysAtoi ((headB s).extract 0 k) (by omega) n hok W).mono fun e' w' ⟨he, hw⟩ => ⟨he, by
      rcases hw with rfl | ⟨t, rfl⟩
      · exact Below.refl _ _
      · exact Lib.bytesWorld_below _ _ _⟩
  obtain ⟨n0, n1⟩ := Lib.atoiAll_bounds hok
  have hit2 : ∀ W, Tab W → Calls Tryd.prog 41 #[.int .i64 n] W fun e' w' => e' = .returned (.string ((headB s).extract 0 k)) ∧ Below W.heap.size W w' := fun W hW => strconv_Itoa.calls n _ W hW (by unfold strconv_Itoa.f; rw [if_pos ⟨n0, n1⟩, hit])
  clear hqs
  unfold headB at hat2 hit2 hix hkl hks
  generalize hh : s.extract 0 (min (s.size : Int) 21).toNat = h at hat2 hit2 hix hkl hks
  obtain ⟨hg, hge⟩ := hI
  have c0 := cellS81_0 hg
  have k0 : (0 : Int) ≤ (k : Int) := by omega
  have k1 : (k : Int) ≤ (h.size : Int) := by omega
  have HG := Lib.hid hg
  have HGE := Lib.hid hge
  have HB := Lib.hid hB
  have HX := Lib.hid hix
  have HT := Lib.hid htab
  have HA := Lib.hid hat2
  have HI2 := Lib.hid hit2
  have hle2 : decide (n < least) = true := decide_eq_true hle
  clear hg hge hB hix hat htab hat2 hit2 hok hit
  go_enter Tryd.func37, Tryd.ntmps37
  go_wp2
  go_quiet (fail)
  rename_i nq
  have HH2 := Lib.hid hh
  clear hh
  go_wp2_with (first | (go_at_call 47; refine (HX.out _).mono ?_; rintro e w1 ⟨rfl, rfl⟩) | fail)
  have HT0 := Lib.hid (HT.out.below (pw_below_drewN (Below.refl w.heap.size w) nq))
  refine (HA.out _).mono ?_
  rintro e w1 ⟨rfl, hb1⟩
  have HT1 := Lib.hid (HT0.out.below hb1)
  have HB1 := Lib.hid hb1
  clear hb1
  go_wp2
  go_region_held3 (fun W => Tab W ∧ Below w1.heap.size w1 W) (first | exact ⟨HT1.out.below (below_drew1 (Below.refl _ _)), below_drew1 (Below.refl _ _)⟩ | exact ⟨hT_.below hb2, below_step hB_ hb2⟩ | assumption) ((go_at_call 41; obtain ⟨hT_, hB_⟩ := ‹Tab _ ∧ Below _ w1 _›; refine (HI2.out _ hT_).mono ?_; rintro e w2 ⟨rfl, hb2⟩))
  have hS := ‹Tab _ ∧ Below _ w1 _›
  have hbl := below_step HB1.out hS.2
  clear hS
  have hgx := (hbl.block g (by exact blk_lt (HG.out))).trans HG.out
  have HGX := Lib.hid hgx
  have HBL := Lib.hid hbl
  clear hgx hbl
  have HB2 := Lib.hid (below_step (pw_below_drewN HB.out nq) HBL.out)
  go_wp2_with (go_at_call 38; refine (wire_Reader_fail.calls g s bad ⟨#[]⟩ true w0 _ ⟨HGX.out, HGE.out⟩ HB2.out rfl).mono ?_; rintro e w1 ⟨rfl, hi1, hb1, hk1⟩)
  go_ret
  exact ⟨rfl, hi1, hb1, ((keep_drewN (KeepBut.refl w g none) nq).trans (KeepBut.of_below HBL.out g none) (.inl rfl)).trans hk1 (.inl rfl)⟩
set_option maxHeartbeats 2000000 in
set_option maxRecDepth 100000 in
theorem number_diff (hs : s.size ≤ 140737488351232) (htab : Tab w) (hI : IsS81 w0 w g s bad) (hB : Below w0.heap.size w0 w) (k : Nat) (hat : atB s e = (k : Int)) (n : Int) (hok : Lib.atoiAll ((headB s).extract 0 k).data.toList = .ok n) (hit : Lib.itoa n ≠ ((headB s).extract 0 k).data.toList) :
    Calls Tryd.prog 37 #[.pointer (some ⟨g, 0, none⟩), .int .u8 e, .int .i64 least] w fun en w' => en = .returned (.int .i64 0) ∧ IsS81 w0 w' g ⟨#[]⟩ true ∧ Below w0.heap.size w0 w' ∧ KeepBut w w' g none := by
  have hix : ∀ W, Calls Tryd.prog 47 #[.string (headB s), .int .u8 e] W fun e' w' => e' = .returned (.int .i64 (atB s e)) ∧ w' = W := fun W => Any.strings_IndexByte Tryd.laysIdx (headB s) e W
  rw [hat] at hix
  have hkl := head_lt hat
  have hks := head_le s
  have hqs : ((headB s).extract 0 k).size ≤ k := by rw [ByteArray.size_extract]; omega
  have hat2 : ∀ W, Calls Tryd.prog 48 #[.string ((headB s).extract 0 k)] W fun e' w' => e' = .returned (.tuple #[.int .i64 n, .nilIface]) ∧ Below W.heap.size W w' := fun W =>
    (Any.strconv_Atoi_ok Tryd.laysAtoi ((headB s).extract 0 k) (by omega) n hok W).mono fun e' w' ⟨he, hw⟩ => ⟨he, by
      rcases hw with rfl | ⟨t, rfl⟩
      · exact Below.refl _ _
      · exact Lib.bytesWorld_below _ _ _⟩
  obtain ⟨n0, n1⟩ := Lib.atoiAll_bounds hok
  have hit2 : ∀ W, Tab W → Calls Tryd.prog 41 #[.int .i64 n] W fun e' w' => e' = .returned (.string ⟨(Lib.itoa n).toArray⟩) ∧ Below W.heap.size W w' := fun W hW => strconv_Itoa.calls n _ W hW (by unfold strconv_Itoa.f; rw [if_pos ⟨n0, n1⟩])
  have hne : (⟨(Lib.itoa n).toArray⟩ : ByteArray).toList ≠ ((headB s).extract 0 k).toList := by
    intro e; apply hit
    rw [ba_list, ba_list] at e
    exact e
  rw [← otherB_eq hne] at hit2
  clear hne
  generalize (⟨(Lib.itoa n).toArray⟩ : ByteArray) = it at hit2
  clear hqs
  unfold headB at hat2 hit2 hix hkl hks
  generalize hh : s.extract 0 (min (s.size : Int) 21).toNat = h at hat2 hit2 hix hkl hks
  obtain ⟨hg, hge⟩ := hI
  have c0 := cellS81_0 hg
  have k0 : (0 : Int) ≤ (k : Int) := by omega
  have k1 : (k : Int) ≤ (h.size : Int) := by omega
  have HG := Lib.hid hg
  have HGE := Lib.hid hge
  have HB := Lib.hid hB
  have HX := Lib.hid hix
  have HT := Lib.hid htab
  have HA := Lib.hid hat2
  have HI2 := Lib.hid hit2
  clear hg hge hB hix hat htab hat2 hit2 hok hit
  go_enter Tryd.func37, Tryd.ntmps37
  go_wp2
  go_quiet (fail)
  rename_i nq
  have HH2 := Lib.hid hh
  clear hh
  go_wp2_with (first | (go_at_call 47; refine (HX.out _).mono ?_; rintro e w1 ⟨rfl, rfl⟩) | fail)
  have HT0 := Lib.hid (HT.out.below (pw_below_drewN (Below.refl w.heap.size w) nq))
  refine (HA.out _).mono ?_
  rintro e w1 ⟨rfl, hb1⟩
  have HT1 := Lib.hid (HT0.out.below hb1)
  have HB1 := Lib.hid hb1
  clear hb1
  go_wp2
  refine start_ (n := 15) (S := fun w' => Tab w' ∧ Below w1.heap.size w1 w') (ds := []) #[false, false, false, false, false, false, false, false, false, false, false, false, false, false, false] (by kernel_rfl) rfl rfl ⟨HT1.out.below (below_drew1 (Below.refl _ _)), below_drew1 (Below.refl _ _)⟩ (fun hHeld => ?_)
  refine pure_ (i := 0) (N := some 36) (v := ?_) (a' := ?_) #[true, false, false, false, false, false, false, false, false, false, false, false, false, false, false] rfl rfl (by kernel_rfl) (fun _ _ _ h => h) (Or.inl ⟨by rfl, ?_⟩) ?_ ?_
  rotate_left
  · intro w'
    go_simp
    with_reducible rfl
  rotate_left
  · simp only [Act.put, List.setIfInBounds_toArray, List.set_cons_zero, List.set_cons_succ, i64_w, i32_w]
    rfl
  refine pure_ (i := 1) (N := some 37) (v := ?_) (a' := ?_) #[true, true, false, false, false, false, false, false, false, false, false, false, false, false, false] rfl rfl (by kernel_rfl) (fun _ _ _ h => h) (Or.inl ⟨by rfl, ?_⟩) ?_ ?_
  rotate_left
  · intro w'
    go_simp
    with_reducible rfl
  rotate_left
  · simp only [Act.put, List.setIfInBounds_toArray, List.set_cons_zero, List.set_cons_succ, i64_w, i32_w]
    rfl
  refine pure_ (i := 2) (N := some 38) (v := ?_) (a' := ?_) #[true, true, true, false, false, false, false, false, false, false, false, false, false, false, false] rfl rfl (by kernel_rfl) (fun _ _ _ h => h) (Or.inl ⟨by rfl, ?_⟩) ?_ ?_
  rotate_left
  · intro w'
    go_simp
    with_reducible rfl
  rotate_left
  · simp only [Act.put, List.setIfInBounds_toArray, List.set_cons_zero, List.set_cons_succ, i64_w, i32_w]
    rfl
  refine pure_ (i := 3) (N := some 39) (v := ?_) (a' := ?_) #[true, true, true, true, false, false, false, false, false, false, false, false, false, false, false] rfl rfl (by kernel_rfl) (fun _ _ _ h => h) (Or.inl ⟨by rfl, ?_⟩) ?_ ?_
  rotate_left
  · intro w'
    go_simp
    with_reducible rfl
  rotate_left
  · simp only [Act.put, List.setIfInBounds_toArray, List.set_cons_zero, List.set_cons_succ, i64_w, i32_w]
    rfl
  refine pure_ (i := 5) (N := some 41) (v := ?_) (a' := ?_) #[true, true, true, true, false, true, false, false, false, false, false, false, false, false, false] rfl rfl (by kernel_rfl) (fun _ _ _ h => h) (Or.inl ⟨by rfl, ?_⟩) ?_ ?_
  rotate_left
  · intro w'
    go_simp
    with_reducible rfl
  rotate_left
  · simp only [Act.put, List.setIfInBounds_toArray, List.set_cons_zero, List.set_cons_succ, i64_w, i32_w]
    rfl
  refine pure_ (i := 6) (N := some 42) (v := ?_) (a' := ?_) #[true, true, true, true, false, true, true, false, false, false, false, false, false, false, false] rfl rfl (by kernel_rfl) (fun _ _ _ h => h) (Or.inl ⟨by rfl, ?_⟩) ?_ ?_
  rotate_left
  · intro w'
    go_simp
    with_reducible rfl
  rotate_left
  · simp only [Act.put, List.setIfInBounds_toArray, List.set_cons_zero, List.set_cons_succ, i64_w, i32_w]
    rfl
  refine pure_ (i := 7) (N := some 43) (v := ?_) (a' := ?_) #[true, true, true, true, false, true, true, true, false, false, false, false, false, false, false] rfl rfl (by kernel_rfl) (fun _ _ _ h => h) (Or.inl ⟨by rfl, ?_⟩) ?_ ?_
  rotate_left
  · intro w'
    go_simp
    with_reducible rfl
  rotate_left
  · simp only [Act.put, List.setIfInBounds_toArray, List.set_cons_zero, List.set_cons_succ, i64_w, i32_w]
    rfl
  refine one_ (i := 4) (N := some 40) #[true, true, true, true, true, true, true, true, false, false, false, false, false, false, false] rfl rfl (by kernel_rfl) (by decide) (fun K hK => ?_)
  refine goes_ Tryd.func41 (by kernel_rfl) rfl #[.int .i64 n] (by rfl) rfl rfl (by simp only [List.map_toArray, List.map_cons, List.map_nil]; rfl) ?_
  with_reducible refine (HI2.out _ hHeld.1).mono ?_
  rintro e w2 ⟨rfl, hb2⟩
  refine ⟨_, rfl, ?_⟩
  refine hK.out _ _ ⟨hHeld.1.below hb2, below_step hHeld.2 hb2⟩ (fun hHeld => ?_)
  clear hK K
  refine norm_ (a' := ?_) ?_ ?_
  rotate_left
  · show Act.put _ (some 40) _ = _
    simp only [Act.put, List.setIfInBounds_toArray, List.set_cons_zero, List.set_cons_succ, i64_w, i32_w]
    rfl
  refine pure_ (i := 8) (N := some 44) (v := ?_) (a' := ?_) #[true, true, true, true, true, true, true, true, true, false, false, false, false, false, false] rfl rfl (by kernel_rfl) (fun _ _ _ h => h) (Or.inl ⟨by rfl, ?_⟩) ?_ ?_
  rotate_left
  · intro w'
    go_simp
    with_reducible rfl
  rotate_left
  · simp only [Act.put, List.setIfInBounds_toArray, List.set_cons_zero, List.set_cons_succ, i64_w, i32_w]
    rfl
  refine pure_ (i := 9) (N := some 45) (v := ?_) (a' := ?_) #[true, true, true, true, true, true, true, true, true, true, false, false, false, false, false] rfl rfl (by kernel_rfl) (fun _ _ _ h => h) (Or.inl ⟨by rfl, ?_⟩) ?_ ?_
  rotate_left
  · intro w'
    go_simp
    with_reducible rfl
  rotate_left
  · simp only [Act.put, List.setIfInBounds_toArray, List.set_cons_zero, List.set_cons_succ, i64_w, i32_w]
    rfl
  refine pure_ (i := 10) (N := some 46) (v := ?_) (a' := ?_) #[true, true, true, true, true, true, true, true, true, true, true, false, false, false, false] rfl rfl (by kernel_rfl) (fun _ _ _ h => h) (Or.inl ⟨by rfl, ?_⟩) ?_ ?_
  rotate_left
  · intro w'
    go_simp
    with_reducible rfl
  rotate_left
  · simp only [Act.put, List.setIfInBounds_toArray, List.set_cons_zero, List.set_cons_succ, i64_w, i32_w]
    rfl
  refine pure_ (i := 11) (N := some 47) (v := undef) (a' := ?_) #[true, true, true, true, true, true, true, true, true, true, true, true, false, false, false] rfl rfl (by kernel_rfl) (fun _ _ _ h => h) (Or.inr ⟨by rfl, rfl⟩) ?_ ?_
  rotate_left
  · simp only [Act.put, List.setIfInBounds_toArray, List.set_cons_zero, List.set_cons_succ, i64_w, i32_w]
    rfl
  refine pure_ (i := 12) (N := some 48) (v := undef) (a' := ?_) #[true, true, true, true, true, true, true, true, true, true, true, true, true, false, false] rfl rfl (by kernel_rfl) (fun _ _ _ h => h) (Or.inr ⟨by rfl, rfl⟩) ?_ ?_
  rotate_left
  · simp only [Act.put, List.setIfInBounds_toArray, List.set_cons_zero, List.set_cons_succ, i64_w, i32_w]
    rfl
  refine pure_ (i := 13) (N := some 49) (v := undef) (a' := ?_) #[true, true, true, true, true, true, true, true, true, true, true, true, true, true, false] rfl rfl (by kernel_rfl) (fun _ _ _ h => h) (Or.inr ⟨by rfl, rfl⟩) ?_ ?_
  rotate_left
  · simp only [Act.put, List.setIfInBounds_toArray, List.set_cons_zero, List.set_cons_succ, i64_w, i32_w]
    rfl
  refine pure_ (i := 14) (N := some 50) (v := ?_) (a' := ?_) #[true, true, true, true, true, true, true, true, true, true, true, true, true, true, true] rfl rfl (by kernel_rfl) (fun _ _ _ h => h) (Or.inl ⟨by rfl, ?_⟩) ?_ ?_
  rotate_left
  · intro w'
    go_simp
    with_reducible rfl
  rotate_left
  · simp only [Act.put, List.setIfInBounds_toArray, List.set_cons_zero, List.set_cons_succ, i64_w, i32_w]
    rfl
  refine done_ (by kernel_rfl) ?_
  have hS := ‹Tab _ ∧ Below _ w1 _›
  have hbl := below_step HB1.out hS.2
  clear hS
  have hgx := (hbl.block g (by exact blk_lt (HG.out))).trans HG.out
  have HGX := Lib.hid hgx
  have HBL := Lib.hid hbl
  clear hgx hbl
  have HB2 := Lib.hid (below_step (pw_below_drewN HB.out nq) HBL.out)
  go_wp2_with (go_at_call 38; refine (wire_Reader_fail.calls g s bad ⟨#[]⟩ true w0 _ ⟨HGX.out, HGE.out⟩ HB2.out rfl).mono ?_; rintro e w1 ⟨rfl, hi1, hb1, hk1⟩)
  go_ret
  exact ⟨rfl, hi1, hb1, ((keep_drewN (KeepBut.refl w g none) nq).trans (KeepBut.of_below HBL.out g none) (.inl rfl)).trans hk1 (.inl rfl)⟩
end
theorem wire_Reader_number.calls (g : Nat) (s0_0 : ByteArray) (s0_1 : Bool) (a1 : Int) (a2 : Int) (r1 : Int) (r2 : ByteArray) (r3 : Bool) (w0 w : World) (htab : Tab w) (hI : IsS81 w0 w g s0_0 s0_1) (hB : Below w0.heap.size w0 w) (h : wire_Reader_number.f s0_0 s0_1 a1 a2 = some (r1, r2, r3)) :
    Calls Tryd.prog 37 #[.pointer (some ⟨g, 0, none⟩), .int .u8 a1, .int .i64 a2] w fun e w' => e = .returned (.int .i64 r1) ∧ IsS81 w0 w' g r2 r3 ∧ Below w0.heap.size w0 w' ∧ KeepBut w w' g none := by
  unfold wire_Reader_number.f at h
  by_cases hs : s0_0.size ≤ 140737488351232
  · rw [if_pos hs] at h
    replace h := Option.some.inj h
    unfold numR at h
    by_cases hat : atB s0_0 a1 < 0
    · rw [if_pos hat] at h
      simp only [Prod.mk.injEq] at h
      obtain ⟨rfl, rfl, rfl⟩ := h
      exact number_none g s0_0 s0_1 a1 a2 w0 w hs hI hB hat
    · rw [if_neg hat] at h
      obtain ⟨k, hk⟩ : ∃ k : Nat, atB s0_0 a1 = (k : Int) := ⟨(atB s0_0 a1).toNat, by omega⟩
      rw [hk, Int.toNat_natCast] at h
      rcases hc : Lib.atoiAll ((headB s0_0).extract 0 k).data.toList with n | _ | _
      · rw [hc] at h
        simp only at h
        by_cases hit : Lib.itoa n = ((headB s0_0).extract 0 k).data.toList
        · by_cases hle : a2 ≤ n
          · rw [if_pos ⟨hit, hle⟩] at h
            simp only [Prod.mk.injEq] at h
            obtain ⟨rfl, rfl, rfl⟩ := h
            exact number_ok g s0_0 s0_1 a1 a2 w0 w hs htab hI hB k hk n hc hit hle
          · rw [if_neg (fun e => hle e.2)] at h
            simp only [Prod.mk.injEq] at h
            obtain ⟨rfl, rfl, rfl⟩ := h
            exact number_less g s0_0 s0_1 a1 a2 w0 w hs htab hI hB k hk n hc hit (by omega)
        · rw [if_neg (fun e => hit e.1)] at h
          simp only [Prod.mk.injEq] at h
          obtain ⟨rfl, rfl, rfl⟩ := h
          exact number_diff g s0_0 s0_1 a1 a2 w0 w hs htab hI hB k hk n hc hit
      · rw [hc] at h
        simp only [Prod.mk.injEq] at h
        obtain ⟨rfl, rfl, rfl⟩ := h
        exact number_err g s0_0 s0_1 a1 a2 w0 w hs htab hI hB k hk (fun n e => by rw [hc] at e; cases e)
      · rw [hc] at h
        simp only [Prod.mk.injEq] at h
        obtain ⟨rfl, rfl, rfl⟩ := h
        exact number_err g s0_0 s0_1 a1 a2 w0 w hs htab hI hB k hk (fun n e => by rw [hc] at e; cases e)
  · rw [if_neg hs] at h; cases h
end Go.Proofs.YtemcplbldfldlaaDoor.P
