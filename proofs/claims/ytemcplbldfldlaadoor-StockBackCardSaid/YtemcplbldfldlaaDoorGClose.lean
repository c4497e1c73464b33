/- wire's reader of a closing byte. -/
import Derived.Test.YtemcplbldfldlaaDoorPx12
import Derived.Test.YtemcplbldfldlaaDoorPx13
import Derived.Test.YtemcplbldfldlaaDoorGShort
import Derived.Lib.Hide
import Derived.BigQuiet
namespace Go.Proofs.YtemcplbldfldlaaDoor.P
open Go.RowKit Go.Proofs.YtemcplbldfldlaaDoorW.PrintWords Go.Proofs.YtemcplbldfldlaaDoorW.PrintLast Go.Proofs.YtemcplbldfldlaaDoorW.PrintMore
set_option linter.unusedVariables false
set_option linter.unusedSimpArgs false
def wire_Reader_close.f (s0_0 : ByteArray) (s0_1 : Bool) (a1 : ByteArray) : Option (ByteArray × Bool) :=
  (strings_CutPrefix.f s0_0 a1).bind fun p => if p.2 = true then some (p.1, s0_1) else some (⟨#[]⟩, true)
set_option maxHeartbeats 2000000 in
set_option maxRecDepth 100000 in
theorem wire_Reader_close.calls (g : Nat) (s0_0 : ByteArray) (s0_1 : Bool) (a1 : ByteArray) (r1 : ByteArray) (r2 : Bool) (w0 w : World) (hI : IsS81 w0 w g s0_0 s0_1) (hB : Below w0.heap.size w0 w) (h : wire_Reader_close.f s0_0 s0_1 a1 = some (r1, r2)) :
    Calls Tryd.prog 39 #[.pointer (some ⟨g, 0, none⟩), .string a1] w fun e w' => e = .returned (.tuple #[]) ∧ IsS81 w0 w' g r1 r2 ∧ Below w0.heap.size w0 w' ∧ KeepBut w w' g none := by
  obtain ⟨⟨t, b⟩, hc, h⟩ := Option.bind_eq_some_iff.mp h
  have hcut := fun W => strings_CutPrefix.calls s0_0 a1 t b W hc
  obtain ⟨hg, hge⟩ := hI
  have c0 := cellS81_0 hg
  have c1 := cellS81_1 hg
  have f0 := blk_frozen hg 0
  have HG := Lib.hid hg
  have HGE := Lib.hid hge
  have HB := Lib.hid hB
  have HC := Lib.hid hcut
  clear hg hge hB hc hcut
  cases b with
  | true =>
    simp only [if_true, Option.some.injEq, Prod.mk.injEq] at h
    obtain ⟨rfl, rfl⟩ := h
    go_enter Tryd.func39, Tryd.ntmps39
    go_wp2_with (go_at_call 49; refine (HC.out _).mono ?_; rintro e w1 ⟨rfl, ⟨nd, rfl⟩⟩)
    go_end0
    refine ⟨rfl, IsS81.set_0 (IsS81.drewN ⟨HG.out, HGE.out⟩ nd) _, below_set (pw_below_drewN HB.out nd) HGE.out, (keep_drewN (KeepBut.refl w g none) nd).set_ _ _⟩
  | false =>
    simp only [Bool.false_eq_true, if_false, Option.some.injEq, Prod.mk.injEq] at h
    obtain ⟨rfl, rfl⟩ := h
    go_enter Tryd.func39, Tryd.ntmps39
    go_wp2_with (go_at_call 49; refine (HC.out _).mono ?_; rintro e w1 ⟨rfl, ⟨nd, rfl⟩⟩)
    have hI2 := Lib.hid (IsS81.set_0 (IsS81.drewN ⟨HG.out, HGE.out⟩ nd) t)
    have hB2 := Lib.hid (below_set (w := w0) (pw_below_drewN HB.out nd) HGE.out (j := 0) (v := .string t))
    refine (wire_Reader_fail.calls g t s0_1 ⟨#[]⟩ true w0 _ hI2.out hB2.out rfl).mono ?_
    rintro e w1 ⟨rfl, hi1, hb1, hk1⟩
    go_wp2
    go_end0
    exact ⟨rfl, hi1, hb1, ((keep_drewN (KeepBut.refl w g none) nd).set_ _ _).trans hk1 (.inl rfl)⟩
end Go.Proofs.YtemcplbldfldlaaDoor.P
