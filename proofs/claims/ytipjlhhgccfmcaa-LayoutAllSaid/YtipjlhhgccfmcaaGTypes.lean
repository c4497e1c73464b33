-- BY A PROGRAM OF A SESSION (gprint.py): how the laws' argument types read.
import Derived.Test.YtipjlhhgccfmcaaGRead
import Derived.KernelRfl
namespace Go.Proofs.Ytipjlhhgccfmcaa.P
open Go.RowKit Go.Proofs.YtipjlhhgccfmcaaW.PrintWords Go.Proofs.YtipjlhhgccfmcaaW.PrintLast
def wf24 (x : S24) : Prop := (wfL wfB) x.f0 ∧ (wfI .i64) x.f1
theorem rd24 : Rd Try.prog k24 wf24 24 :=
  Rd.iso (fun x : S24 => (x.f0, x.f1)) (fun a => ⟨a.1, a.2⟩) (fun _ => rfl)
    (Rd.struct2 Try.underlying24 (by kernel_rfl) (by kernel_rfl) (by kernel_rfl) (by kernel_rfl) (by kernel_rfl) (Rd.slice Try.underlying22 (by kernel_rfl) (Rd.bool Try.underlying4)) (Rd.int Try.underlying3))
end Go.Proofs.Ytipjlhhgccfmcaa.P
