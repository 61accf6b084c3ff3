/- ProcessNone: the evaluator's run of the law's examples, last piece. -/
import Derived.Test.YtbingohaiippeabGreatDoorYT
import Derived.Test.YtbingohaiippeabGreatDoorYE
import Derived.Test.YtbingohaiippeabGreatDoorSB
namespace Go.Proofs.YtbingohaiippeabGreatDoor
open Go.Y
set_option maxRecDepth 1000000
theorem run_c : endT gg fi16.res (evalQ gg 9994 (cutC 1 (cutC 5 fi16.body)) sbe sbm) = true := by kernel_rfl
end Go.Proofs.YtbingohaiippeabGreatDoor
