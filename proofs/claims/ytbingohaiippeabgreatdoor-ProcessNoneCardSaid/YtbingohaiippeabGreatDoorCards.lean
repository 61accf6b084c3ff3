/-
  DERIVED. GIVEN WITH THE SEED: THE CARDS: each row of YtbingohaiippeabGreatDoorRows.lean that lists a variable, with what it lists TIED to the program's text (the seventh form; the later family's looks); each row that meets fmt, with fmt's text TOLD by the authors' own Lean function (tested against real Go, not proved from fmt's source: count such statements apart). THE CARD IS WHAT COUNTS. Prove the row's statement (the work); the ties are given (YtbingohaiippeabGreatDoorTie.lean); close each card by the builder's one call (the guide's Derived/Test/ToyasCard.lean, 'card_holds'). Laid BY PROGRAM, IN A SANDBOX (cutbox-door.mjs). By AI agents, Wed Nov 11 2026. No macro, syntax, notation, axiom, sorry.
-/
import Derived.Test.YtbingohaiippeabGreatDoorRows
import GoSem.ClaimSeven
namespace Go.Proofs.YtbingohaiippeabGreatDoor
namespace Rows

/-- THE TIED CARD OF 'freeholdlaw18.ProcessNone'. -/
def processNoneCard : Claim7 := { stood := { row := processNoneRow, standIns := [], harness := (true, "de07464741594799670ccbd06f56d4e766a9df4f9ca1057471ca91e576e5d889"), looks := true }, kinds := [], alts := [], laidByText := true, laidKinds := [.data, .data], laidTests := true, laidLooks := .later }
def ProcessNoneCardSaid : Prop := Claim7.holds Tryz.pinned (.plain (OpenSpec.ofChange processNoneSpec)) processNoneCard

/-- THE SECOND FORM's CARD OF 'freeholdlaw18.ProcessNone'. -/
def processNoneUptoCard : Claim7 := { stood := { row := processNoneUptoRow, standIns := [], harness := (true, "de07464741594799670ccbd06f56d4e766a9df4f9ca1057471ca91e576e5d889"), looks := true }, kinds := [], alts := [], laidByText := true, laidKinds := [.data, .data], laidTests := true, laidLooks := .later }
def ProcessNoneUptoCardSaid : Prop := Claim7.holds Tryz.pinned (.plain (OpenSpec.upto processNoneSpec)) processNoneUptoCard
end Rows
end Go.Proofs.YtbingohaiippeabGreatDoor
