/-
  DERIVED. GIVEN WITH THE SEED: THE CARDS: each row of YtkkeimpmafllpaaGreatDoorRows.lean that lists a variable, with what it lists TIED to the program's text (the seventh form; the later family's looks); each row that meets fmt, with fmt's text TOLD by the authors' own Lean function (tested against real Go, not proved from fmt's source: count such statements apart). THE CARD IS WHAT COUNTS. Prove the row's statement (the work); the ties are given (YtkkeimpmafllpaaGreatDoorTie.lean); close each card by the builder's one call (the guide's Derived/Test/ToyasCard.lean, 'card_holds'). Laid BY PROGRAM, IN A SANDBOX (cutbox-door.mjs). By AI agents, Wed Nov 11 2026. No macro, syntax, notation, axiom, sorry.
-/
import Derived.Test.YtkkeimpmafllpaaGreatDoorRows
import GoSem.ClaimSeven
namespace Go.Proofs.YtkkeimpmafllpaaGreatDoor
namespace Rows

/-- THE TIED CARD OF 'freeholdlaw17.ThreadsNone'. -/
def threadsNoneCard : Claim7 := { stood := { row := threadsNoneRow, standIns := [], harness := (true, "d6baa3a1f8e1741353060eb525a0bc797d19adfa513dec96dab869a5bbaf8d57"), looks := true }, kinds := [], alts := [], laidByText := true, laidKinds := [.data, .data, .data], laidTests := true, laidLooks := .later }
def ThreadsNoneCardSaid : Prop := Claim7.holds Tryz.pinned (.plain (OpenSpec.ofChange threadsNoneSpec)) threadsNoneCard

/-- THE SECOND FORM's CARD OF 'freeholdlaw17.ThreadsNone'. -/
def threadsNoneUptoCard : Claim7 := { stood := { row := threadsNoneUptoRow, standIns := [], harness := (true, "d6baa3a1f8e1741353060eb525a0bc797d19adfa513dec96dab869a5bbaf8d57"), looks := true }, kinds := [], alts := [], laidByText := true, laidKinds := [.data, .data, .data], laidTests := true, laidLooks := .later }
def ThreadsNoneUptoCardSaid : Prop := Claim7.holds Tryz.pinned (.plain (OpenSpec.upto threadsNoneSpec)) threadsNoneUptoCard
end Rows
end Go.Proofs.YtkkeimpmafllpaaGreatDoor
