/- ProcessNone: the evaluator's run of the law's examples, first piece. -/
import Derived.Test.YtbingohaiippeabGreatDoorYT
import Derived.Test.YtbingohaiippeabGreatDoorYE
import Derived.Test.YtbingohaiippeabGreatDoorSA
namespace Go.Proofs.YtbingohaiippeabGreatDoor
open Go.Y
set_option maxRecDepth 1000000
theorem run_a : snap (evalQ gg 10000 (preC 5 fi16.body) .e m0) = some ⟨.nrm, sae, sam⟩ := by kernel_rfl
end Go.Proofs.YtbingohaiippeabGreatDoor
