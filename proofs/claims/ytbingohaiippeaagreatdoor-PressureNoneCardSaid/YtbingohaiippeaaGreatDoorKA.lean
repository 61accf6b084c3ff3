/- PressureNone: the evaluator's run of the law's examples, first piece. -/
import Derived.Test.YtbingohaiippeaaGreatDoorYT
import Derived.Test.YtbingohaiippeaaGreatDoorYE
import Derived.Test.YtbingohaiippeaaGreatDoorSA
namespace Go.Proofs.YtbingohaiippeaaGreatDoor
open Go.Y
set_option maxRecDepth 1000000
theorem run_a : snap (evalQ gg 10000 (preC 5 fi16.body) .e m0) = some ⟨.nrm, sae, sam⟩ := by kernel_rfl
theorem runs_small : isS (callF gg (evalQ gg 10000) 15 [] m0) = true := by kernel_rfl
end Go.Proofs.YtbingohaiippeaaGreatDoor
