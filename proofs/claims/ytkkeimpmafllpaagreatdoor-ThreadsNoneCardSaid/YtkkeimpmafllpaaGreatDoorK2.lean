/- ThreadsNone: the evaluator's run of the law's examples. -/
import Derived.Test.YtkkeimpmafllpaaGreatDoorG2
import Derived.Test.YtkkeimpmafllpaaGreatDoorYE
namespace Go.Proofs.YtkkeimpmafllpaaGreatDoor
open Go.Y
set_option maxRecDepth 1000000
theorem runs_awake : isT (callF g2 (evalQ g2 10000) 17 [] m0) = true := by kernel_rfl
theorem runs_small : isS (callF g2 (evalQ g2 10000) 16 [] m0) = true := by kernel_rfl
end Go.Proofs.YtkkeimpmafllpaaGreatDoor

/- ThreadsNone: the examples hold, as contracts. -/
namespace Go.Proofs.YtkkeimpmafllpaaGreatDoor
open Go.Y Go.X
theorem awake_spec (w : World) (S : FP) (h : RO w S (glC gg 3)) : Trip Tryz.prog 17 #[] w S fun v L => v = .bool true ∧ L = [] := awake_of (g := g2) calls2_ok runs_awake w S h
theorem small_spec (w : World) (S : FP) (h : RO w S (glC gg 3)) : Trip Tryz.prog 16 #[] w S fun _ L => L = [] := ends_of (g := g2) calls2_ok runs_small w S h
end Go.Proofs.YtkkeimpmafllpaaGreatDoor
