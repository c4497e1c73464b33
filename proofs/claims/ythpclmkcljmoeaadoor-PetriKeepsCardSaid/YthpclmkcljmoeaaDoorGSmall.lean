/- The documentation's examples hold. -/
import Derived.Test.YthpclmkcljmoeaaDoorGEv
import Derived.Test.YthpclmkcljmoeaaDoorPx5
namespace Go.Proofs.YthpclmkcljmoeaaDoor.P
set_option maxRecDepth 100000 in
theorem small_ev : Ev (fun k => taquinlaw18_small.f k) true := Ev.of_mono (fun k => taquinlaw18_small.mono k) (k := 40) (by decide +kernel)
end Go.Proofs.YthpclmkcljmoeaaDoor.P
