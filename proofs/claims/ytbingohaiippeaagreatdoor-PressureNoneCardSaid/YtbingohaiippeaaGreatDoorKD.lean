/- PressureNone: the evaluator's run of the law's examples, fourth piece. -/
import Derived.Test.YtbingohaiippeaaGreatDoorYT
import Derived.Test.YtbingohaiippeaaGreatDoorYE
import Derived.Test.YtbingohaiippeaaGreatDoorSC
import Derived.Test.YtbingohaiippeaaGreatDoorSD
namespace Go.Proofs.YtbingohaiippeaaGreatDoor
open Go.Y
set_option maxRecDepth 1000000
theorem run_d : snap (evalQ gg 9992 (preC 1 (cutC 2 (cutC 1 (cutC 5 fi16.body)))) sce scm) = some ⟨.nrm, sde, sdm⟩ := by kernel_rfl
end Go.Proofs.YtbingohaiippeaaGreatDoor
