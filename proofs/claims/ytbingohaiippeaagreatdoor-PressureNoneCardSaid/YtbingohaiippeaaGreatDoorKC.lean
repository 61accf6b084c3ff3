/- PressureNone: the evaluator's run of the law's examples, third piece. -/
import Derived.Test.YtbingohaiippeaaGreatDoorYT
import Derived.Test.YtbingohaiippeaaGreatDoorYE
import Derived.Test.YtbingohaiippeaaGreatDoorSB
import Derived.Test.YtbingohaiippeaaGreatDoorSC
namespace Go.Proofs.YtbingohaiippeaaGreatDoor
open Go.Y
set_option maxRecDepth 1000000
theorem run_c : snap (evalQ gg 9994 (preC 2 (cutC 1 (cutC 5 fi16.body))) sbe sbm) = some ⟨.nrm, sce, scm⟩ := by kernel_rfl
end Go.Proofs.YtbingohaiippeaaGreatDoor
