/- PressureNone: the evaluator's run of the law's examples, last piece. -/
import Derived.Test.YtbingohaiippeaaGreatDoorYT
import Derived.Test.YtbingohaiippeaaGreatDoorYE
import Derived.Test.YtbingohaiippeaaGreatDoorSD
namespace Go.Proofs.YtbingohaiippeaaGreatDoor
open Go.Y
set_option maxRecDepth 1000000
theorem run_e : endT gg fi16.res (evalQ gg 9991 (cutC 1 (cutC 2 (cutC 1 (cutC 5 fi16.body)))) sde sdm) = true := by kernel_rfl
end Go.Proofs.YtbingohaiippeaaGreatDoor
