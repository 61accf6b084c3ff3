/- LeakNone: the examples hold, as a contract. -/
import Derived.Test.YtigibnnmceccfaaGreatDoorK2
import Derived.Test.YtigibnnmceccfaaGreatDoorK15
import Derived.Test.YtigibnnmceccfaaGreatDoorYF
import Derived.Test.YtigibnnmceccfaaGreatDoorYG
namespace Go.Proofs.YtigibnnmceccfaaGreatDoor
open Go.Y Go.X
set_option maxRecDepth 100000
theorem gg_ok : GOk Tryz.prog tab gg := ⟨tab_ok, by kernel_rfl, tyT_ok⟩
theorem gg_inv : GInv Tryz.prog gg := ⟨trivial⟩
theorem gg_sp : T.All (SpR Tryz.prog gg) gg.sp := ⟨trivial, trivial, ⟨trivial, ⟨trivial, ⟨trivial, trivial, ⟨trivial, trivial, ⟨collect_sp collect_c, trivial, trivial⟩⟩⟩, ⟨trivial, trivial, ⟨trivial, ⟨sorted_sp sorted_c, trivial, trivial⟩, trivial⟩⟩⟩, trivial⟩⟩
theorem awake_spec (w : World) (S : FP) (h : RO w S (glC gg 3)) : Trip Tryz.prog 9 #[] w S fun v L => v = .bool true ∧ L = [] :=
  awake_of (callY_ok gg_ok gg_inv fnT_ok gg_sp 10000) runs_awake w S h
end Go.Proofs.YtigibnnmceccfaaGreatDoor
