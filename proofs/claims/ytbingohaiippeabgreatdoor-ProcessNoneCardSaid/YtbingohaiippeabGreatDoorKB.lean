/- ProcessNone: the evaluator's run of the law's examples, second piece. -/
import Derived.Test.YtbingohaiippeabGreatDoorYT
import Derived.Test.YtbingohaiippeabGreatDoorYE
import Derived.Test.YtbingohaiippeabGreatDoorSA
import Derived.Test.YtbingohaiippeabGreatDoorSB
namespace Go.Proofs.YtbingohaiippeabGreatDoor
open Go.Y
set_option maxRecDepth 1000000
theorem run_b : snap (evalQ gg 9995 (preC 1 (cutC 5 fi16.body)) sae sam) = some ⟨.nrm, sbe, sbm⟩ := by kernel_rfl
end Go.Proofs.YtbingohaiippeabGreatDoor
