-- BY A PROGRAM OF A SESSION (gprint.py): how the laws' argument types read.
import Derived.Test.YtipjlhhgccfmcaaDoorGRead
import Derived.KernelRfl
namespace Go.Proofs.YtipjlhhgccfmcaaDoor.P
open Go.RowKit Go.Proofs.YtipjlhhgccfmcaaDoorW.PrintWords Go.Proofs.YtipjlhhgccfmcaaDoorW.PrintLast
def wf24 (x : S24) : Prop := (wfL wfB) x.f0 ∧ (wfI .i64) x.f1
theorem rd24 : Rd Tryd.prog k24 wf24 24 :=
  Rd.iso (fun x : S24 => (x.f0, x.f1)) (fun a => ⟨a.1, a.2⟩) (fun _ => rfl)
    (Rd.struct2 Tryd.underlying24 (by kernel_rfl) (by kernel_rfl) (by kernel_rfl) (by kernel_rfl) (by kernel_rfl) (Rd.slice Tryd.underlying22 (by kernel_rfl) (Rd.bool Tryd.underlying4)) (Rd.int Tryd.underlying3))
end Go.Proofs.YtipjlhhgccfmcaaDoor.P
