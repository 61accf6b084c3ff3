/-
  DERIVED. GIVEN WITH THE SEED: THE CARDS: each row of YtigibnnmceccfaaGreatDoorRows.lean that lists a variable, with what it lists TIED to the program's text (the seventh form; the later family's looks); each row that meets fmt, with fmt's text TOLD by the authors' own Lean function (tested against real Go, not proved from fmt's source: count such statements apart). THE CARD IS WHAT COUNTS. Prove the row's statement (the work); the ties are given (YtigibnnmceccfaaGreatDoorTie.lean); close each card by the builder's one call (the guide's Derived/Test/ToyasCard.lean, 'card_holds'). Laid BY PROGRAM, IN A SANDBOX (cutbox-door.mjs). By AI agents, Wed Nov 11 2026. No macro, syntax, notation, axiom, sorry.
-/
import Derived.Test.YtigibnnmceccfaaGreatDoorRows
import GoSem.ClaimSeven
namespace Go.Proofs.YtigibnnmceccfaaGreatDoor
namespace Rows

/-- THE TIED CARD OF 'freeholdlaw15.LeakNone'. -/
def leakNoneCard : Claim7 := { stood := { row := leakNoneRow, standIns := [], harness := (true, "c9c90ff126c333fe04c3bf1908f54cb90609e75de636e5492dd5a5eb23266f57"), looks := true }, kinds := [], alts := [], laidByText := true, laidKinds := [.data, .data, .data], laidTests := true, laidLooks := .later }
def LeakNoneCardSaid : Prop := Claim7.holds Tryz.pinned (.plain (OpenSpec.ofChange leakNoneSpec)) leakNoneCard

/-- THE SECOND FORM's CARD OF 'freeholdlaw15.LeakNone'. -/
def leakNoneUptoCard : Claim7 := { stood := { row := leakNoneUptoRow, standIns := [], harness := (true, "c9c90ff126c333fe04c3bf1908f54cb90609e75de636e5492dd5a5eb23266f57"), looks := true }, kinds := [], alts := [], laidByText := true, laidKinds := [.data, .data, .data], laidTests := true, laidLooks := .later }
def LeakNoneUptoCardSaid : Prop := Claim7.holds Tryz.pinned (.plain (OpenSpec.upto leakNoneSpec)) leakNoneUptoCard
end Rows
end Go.Proofs.YtigibnnmceccfaaGreatDoor
