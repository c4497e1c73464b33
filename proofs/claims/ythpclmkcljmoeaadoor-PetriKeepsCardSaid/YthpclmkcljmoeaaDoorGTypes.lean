-- BY A PROGRAM OF A SESSION (gprint.py): how the laws' argument types read.
import Derived.Test.YthpclmkcljmoeaaDoorGRead
import Derived.KernelRfl
namespace Go.Proofs.YthpclmkcljmoeaaDoor.P
open Go.RowKit Go.Proofs.YthpclmkcljmoeaaDoorW.PrintWords Go.Proofs.YthpclmkcljmoeaaDoorW.PrintLast
def wf29 (x : S29) : Prop := (wfL (wfI .i64)) x.f0 ∧ (wfL (wfI .i64)) x.f1
theorem rd29 : Rd Tryd.prog k29 wf29 29 :=
  Rd.iso (fun x : S29 => (x.f0, x.f1)) (fun a => ⟨a.1, a.2⟩) (fun _ => rfl)
    (Rd.struct2 Tryd.underlying29 (by kernel_rfl) (by kernel_rfl) (by kernel_rfl) (by kernel_rfl) (by kernel_rfl) (Rd.slice Tryd.underlying25 (by kernel_rfl) (Rd.int Tryd.underlying3)) (Rd.slice Tryd.underlying25 (by kernel_rfl) (Rd.int Tryd.underlying3)))
def wf24 (x : S24) : Prop := (wfI .i64) x.f0 ∧ (wfL wf29) x.f1
theorem rd24 : Rd Tryd.prog k24 wf24 24 :=
  Rd.iso (fun x : S24 => (x.f0, x.f1)) (fun a => ⟨a.1, a.2⟩) (fun _ => rfl)
    (Rd.struct2 Tryd.underlying24 (by kernel_rfl) (by kernel_rfl) (by kernel_rfl) (by kernel_rfl) (by kernel_rfl) (Rd.int Tryd.underlying3) (Rd.slice Tryd.underlying22 (by kernel_rfl) rd29))
theorem rdl_PetriKeeps_1 : Rd Tryd.prog (Kd.slice 3 (Kd.int .i64)) (wfL (wfI .i64)) 25 := (Rd.slice Tryd.underlying25 (by kernel_rfl) (Rd.int Tryd.underlying3))
theorem rdl_PetriKeeps_3 : Rd Tryd.prog (Kd.slice 3 (Kd.int .i64)) (wfL (wfI .i64)) 25 := (Rd.slice Tryd.underlying25 (by kernel_rfl) (Rd.int Tryd.underlying3))
end Go.Proofs.YthpclmkcljmoeaaDoor.P
