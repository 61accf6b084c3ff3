/-
  DERIVED. GIVEN WITH THE SEED: THE CARDS: each row of YtbingohaiippeaaGreatDoorRows.lean that lists a variable, with what it lists TIED to the program's text (the seventh form; the later family's looks); each row that meets fmt, with fmt's text TOLD by the authors' own Lean function (tested against real Go, not proved from fmt's source: count such statements apart). THE CARD IS WHAT COUNTS. Prove the row's statement (the work); the ties are given (YtbingohaiippeaaGreatDoorTie.lean); close each card by the builder's one call (the guide's Derived/Test/ToyasCard.lean, 'card_holds'). Laid BY PROGRAM, IN A SANDBOX (cutbox-door.mjs). By AI agents, Wed Nov 11 2026. No macro, syntax, notation, axiom, sorry.
-/
import Derived.Test.YtbingohaiippeaaGreatDoorRows
import GoSem.ClaimSeven
namespace Go.Proofs.YtbingohaiippeaaGreatDoor
namespace Rows

/-- THE TIED CARD OF 'freeholdlaw19.PressureNone'. -/
def pressureNoneCard : Claim7 := { stood := { row := pressureNoneRow, standIns := [], harness := (true, "5f4a3b0980834bf47e053f4788aef143d159fb5552b0995477b3d44376c11d8c"), looks := true }, kinds := [], alts := [], laidByText := true, laidKinds := [.data, .data, .data], laidTests := true, laidLooks := .later }
def PressureNoneCardSaid : Prop := Claim7.holds Tryz.pinned (.plain (OpenSpec.ofChange pressureNoneSpec)) pressureNoneCard

/-- THE SECOND FORM's CARD OF 'freeholdlaw19.PressureNone'. -/
def pressureNoneUptoCard : Claim7 := { stood := { row := pressureNoneUptoRow, standIns := [], harness := (true, "5f4a3b0980834bf47e053f4788aef143d159fb5552b0995477b3d44376c11d8c"), looks := true }, kinds := [], alts := [], laidByText := true, laidKinds := [.data, .data, .data], laidTests := true, laidLooks := .later }
def PressureNoneUptoCardSaid : Prop := Claim7.holds Tryz.pinned (.plain (OpenSpec.upto pressureNoneSpec)) pressureNoneUptoCard
end Rows
end Go.Proofs.YtbingohaiippeaaGreatDoor
