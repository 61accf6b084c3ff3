/- LeakNone: the evaluator's run of the law's examples. -/
import Derived.Test.YtigibnnmceccfaaGreatDoorYT
import Derived.Test.YtigibnnmceccfaaGreatDoorYE
namespace Go.Proofs.YtigibnnmceccfaaGreatDoor
open Go.Y
set_option maxRecDepth 1000000
theorem runs_awake : isT (callF gg (eval gg 10000) 9 [] m0) = true := by kernel_rfl
end Go.Proofs.YtigibnnmceccfaaGreatDoor
