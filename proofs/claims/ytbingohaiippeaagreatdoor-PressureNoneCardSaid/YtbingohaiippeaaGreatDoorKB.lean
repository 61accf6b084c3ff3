/- PressureNone: the evaluator's run of the law's examples, second piece. -/
import Derived.Test.YtbingohaiippeaaGreatDoorYT
import Derived.Test.YtbingohaiippeaaGreatDoorYE
import Derived.Test.YtbingohaiippeaaGreatDoorSA
import Derived.Test.YtbingohaiippeaaGreatDoorSB
namespace Go.Proofs.YtbingohaiippeaaGreatDoor
open Go.Y
set_option maxRecDepth 1000000
theorem run_b : snap (evalQ gg 9995 (preC 1 (cutC 5 fi16.body)) sae sam) = some ⟨.nrm, sbe, sbm⟩ := by kernel_rfl
end Go.Proofs.YtbingohaiippeaaGreatDoor
