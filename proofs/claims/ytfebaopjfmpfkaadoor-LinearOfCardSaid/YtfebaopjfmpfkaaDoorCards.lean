/-
  DERIVED. GIVEN WITH THE SEED: THE CARDS: each row of YtfebaopjfmpfkaaDoorRows.lean that lists a variable, with what it lists TIED to the program's text (the seventh form; the later family's looks); each row that meets fmt, with fmt's text TOLD by the authors' own Lean function (tested against real Go, not proved from fmt's source: count such statements apart). THE CARD IS WHAT COUNTS. Prove the row's statement (the work); the ties are given (YtfebaopjfmpfkaaDoorTie.lean); close each card by the builder's one call (the guide's Derived/Test/ToyasCard.lean, 'card_holds'). Laid BY PROGRAM, IN A SANDBOX (cutbox-door.mjs). By AI agents, Wed Nov 11 2026. No macro, syntax, notation, axiom, sorry.
-/
import Derived.Test.YtfebaopjfmpfkaaDoorRows
import GoSem.ClaimSeven
namespace Go.Proofs.YtfebaopjfmpfkaaDoor
namespace Rows

/-- THE TIED CARD OF 'freeholdlaw21.LinearChecks'. -/
def linearChecksCard : Claim7 := { stood := { row := linearChecksRow, standIns := [], harness := (true, "d1ca5bb3e701d8b2b0ef5180e1b9982e11f76eed5fc930e7a2c9f3077943309c"), looks := false }, kinds := [], alts := [], laidByText := true, laidKinds := [.data, .data, .data], laidTests := true, laidLooks := .later }
def LinearChecksCardSaid : Prop := Claim7.holds Tryd.pinned (.plain (OpenSpec.ofChange linearChecksSpec)) linearChecksCard

/-- THE TIED CARD OF 'freeholdlaw21.LinearRights'. -/
def linearRightsCard : Claim7 := { stood := { row := linearRightsRow, standIns := [], harness := (true, "d1ca5bb3e701d8b2b0ef5180e1b9982e11f76eed5fc930e7a2c9f3077943309c"), looks := false }, kinds := [], alts := [], laidByText := true, laidKinds := [.data, .data, .data], laidTests := true, laidLooks := .later }
def LinearRightsCardSaid : Prop := Claim7.holds Tryd.pinned (.plain (OpenSpec.ofChange linearRightsSpec)) linearRightsCard

/-- THE TIED CARD OF 'freeholdlaw21.LinearFound'. -/
def linearFoundCard : Claim7 := { stood := { row := linearFoundRow, standIns := [], harness := (true, "d1ca5bb3e701d8b2b0ef5180e1b9982e11f76eed5fc930e7a2c9f3077943309c"), looks := false }, kinds := [], alts := [], laidByText := true, laidKinds := [.data, .data, .data], laidTests := true, laidLooks := .later }
def LinearFoundCardSaid : Prop := Claim7.holds Tryd.pinned (.plain (OpenSpec.ofChange linearFoundSpec)) linearFoundCard

/-- THE TIED CARD OF 'freeholdlaw21.LinearLeast'. -/
def linearLeastCard : Claim7 := { stood := { row := linearLeastRow, standIns := [], harness := (true, "d1ca5bb3e701d8b2b0ef5180e1b9982e11f76eed5fc930e7a2c9f3077943309c"), looks := false }, kinds := [], alts := [], laidByText := true, laidKinds := [.data, .data, .data], laidTests := true, laidLooks := .later }
def LinearLeastCardSaid : Prop := Claim7.holds Tryd.pinned (.plain (OpenSpec.ofChange linearLeastSpec)) linearLeastCard

/-- THE TIED CARD OF 'freeholdlaw21.LinearSooner'. -/
def linearSoonerCard : Claim7 := { stood := { row := linearSoonerRow, standIns := [], harness := (true, "d1ca5bb3e701d8b2b0ef5180e1b9982e11f76eed5fc930e7a2c9f3077943309c"), looks := false }, kinds := [], alts := [], laidByText := true, laidKinds := [.data, .data, .data], laidTests := true, laidLooks := .later }
def LinearSoonerCardSaid : Prop := Claim7.holds Tryd.pinned (.plain (OpenSpec.ofChange linearSoonerSpec)) linearSoonerCard

/-- THE TIED CARD OF 'freeholdlaw21.LinearParts'. -/
def linearPartsCard : Claim7 := { stood := { row := linearPartsRow, standIns := [], harness := (true, "d1ca5bb3e701d8b2b0ef5180e1b9982e11f76eed5fc930e7a2c9f3077943309c"), looks := false }, kinds := [], alts := [], laidByText := true, laidKinds := [.data, .data, .data], laidTests := true, laidLooks := .later }
def LinearPartsCardSaid : Prop := Claim7.holds Tryd.pinned (.plain (OpenSpec.ofChange linearPartsSpec)) linearPartsCard

/-- THE TIED CARD OF 'freeholdlaw21.LinearPrefix'. -/
def linearPrefixCard : Claim7 := { stood := { row := linearPrefixRow, standIns := [], harness := (true, "d1ca5bb3e701d8b2b0ef5180e1b9982e11f76eed5fc930e7a2c9f3077943309c"), looks := false }, kinds := [], alts := [], laidByText := true, laidKinds := [.data, .data, .data], laidTests := true, laidLooks := .later }
def LinearPrefixCardSaid : Prop := Claim7.holds Tryd.pinned (.plain (OpenSpec.ofChange linearPrefixSpec)) linearPrefixCard

/-- THE TIED CARD OF 'freeholdlaw21.LinearAlone'. -/
def linearAloneCard : Claim7 := { stood := { row := linearAloneRow, standIns := [], harness := (true, "d1ca5bb3e701d8b2b0ef5180e1b9982e11f76eed5fc930e7a2c9f3077943309c"), looks := false }, kinds := [], alts := [], laidByText := true, laidKinds := [.data, .data, .data], laidTests := true, laidLooks := .later }
def LinearAloneCardSaid : Prop := Claim7.holds Tryd.pinned (.plain (OpenSpec.ofChange linearAloneSpec)) linearAloneCard

/-- THE TIED CARD OF 'freeholdlaw21.LinearOf'. -/
def linearOfCard : Claim7 := { stood := { row := linearOfRow, standIns := [], harness := (true, "d1ca5bb3e701d8b2b0ef5180e1b9982e11f76eed5fc930e7a2c9f3077943309c"), looks := false }, kinds := [], alts := [], laidByText := true, laidKinds := [.data, .data, .data], laidTests := true, laidLooks := .later }
def LinearOfCardSaid : Prop := Claim7.holds Tryd.pinned (.plain (OpenSpec.ofChange linearOfSpec)) linearOfCard

/-- THE SECOND FORM's CARD OF 'freeholdlaw21.LinearChecks'. -/
def linearChecksUptoCard : Claim7 := { stood := { row := linearChecksUptoRow, standIns := [], harness := (true, "d1ca5bb3e701d8b2b0ef5180e1b9982e11f76eed5fc930e7a2c9f3077943309c"), looks := false }, kinds := [], alts := [], laidByText := true, laidKinds := [.data, .data, .data], laidTests := true, laidLooks := .later }
def LinearChecksUptoCardSaid : Prop := Claim7.holds Tryd.pinned (.plain (OpenSpec.upto linearChecksSpec)) linearChecksUptoCard

/-- THE SECOND FORM's CARD OF 'freeholdlaw21.LinearRights'. -/
def linearRightsUptoCard : Claim7 := { stood := { row := linearRightsUptoRow, standIns := [], harness := (true, "d1ca5bb3e701d8b2b0ef5180e1b9982e11f76eed5fc930e7a2c9f3077943309c"), looks := false }, kinds := [], alts := [], laidByText := true, laidKinds := [.data, .data, .data], laidTests := true, laidLooks := .later }
def LinearRightsUptoCardSaid : Prop := Claim7.holds Tryd.pinned (.plain (OpenSpec.upto linearRightsSpec)) linearRightsUptoCard

/-- THE SECOND FORM's CARD OF 'freeholdlaw21.LinearFound'. -/
def linearFoundUptoCard : Claim7 := { stood := { row := linearFoundUptoRow, standIns := [], harness := (true, "d1ca5bb3e701d8b2b0ef5180e1b9982e11f76eed5fc930e7a2c9f3077943309c"), looks := false }, kinds := [], alts := [], laidByText := true, laidKinds := [.data, .data, .data], laidTests := true, laidLooks := .later }
def LinearFoundUptoCardSaid : Prop := Claim7.holds Tryd.pinned (.plain (OpenSpec.upto linearFoundSpec)) linearFoundUptoCard

/-- THE SECOND FORM's CARD OF 'freeholdlaw21.LinearLeast'. -/
def linearLeastUptoCard : Claim7 := { stood := { row := linearLeastUptoRow, standIns := [], harness := (true, "d1ca5bb3e701d8b2b0ef5180e1b9982e11f76eed5fc930e7a2c9f3077943309c"), looks := false }, kinds := [], alts := [], laidByText := true, laidKinds := [.data, .data, .data], laidTests := true, laidLooks := .later }
def LinearLeastUptoCardSaid : Prop := Claim7.holds Tryd.pinned (.plain (OpenSpec.upto linearLeastSpec)) linearLeastUptoCard

/-- THE SECOND FORM's CARD OF 'freeholdlaw21.LinearSooner'. -/
def linearSoonerUptoCard : Claim7 := { stood := { row := linearSoonerUptoRow, standIns := [], harness := (true, "d1ca5bb3e701d8b2b0ef5180e1b9982e11f76eed5fc930e7a2c9f3077943309c"), looks := false }, kinds := [], alts := [], laidByText := true, laidKinds := [.data, .data, .data], laidTests := true, laidLooks := .later }
def LinearSoonerUptoCardSaid : Prop := Claim7.holds Tryd.pinned (.plain (OpenSpec.upto linearSoonerSpec)) linearSoonerUptoCard

/-- THE SECOND FORM's CARD OF 'freeholdlaw21.LinearParts'. -/
def linearPartsUptoCard : Claim7 := { stood := { row := linearPartsUptoRow, standIns := [], harness := (true, "d1ca5bb3e701d8b2b0ef5180e1b9982e11f76eed5fc930e7a2c9f3077943309c"), looks := false }, kinds := [], alts := [], laidByText := true, laidKinds := [.data, .data, .data], laidTests := true, laidLooks := .later }
def LinearPartsUptoCardSaid : Prop := Claim7.holds Tryd.pinned (.plain (OpenSpec.upto linearPartsSpec)) linearPartsUptoCard

/-- THE SECOND FORM's CARD OF 'freeholdlaw21.LinearPrefix'. -/
def linearPrefixUptoCard : Claim7 := { stood := { row := linearPrefixUptoRow, standIns := [], harness := (true, "d1ca5bb3e701d8b2b0ef5180e1b9982e11f76eed5fc930e7a2c9f3077943309c"), looks := false }, kinds := [], alts := [], laidByText := true, laidKinds := [.data, .data, .data], laidTests := true, laidLooks := .later }
def LinearPrefixUptoCardSaid : Prop := Claim7.holds Tryd.pinned (.plain (OpenSpec.upto linearPrefixSpec)) linearPrefixUptoCard

/-- THE SECOND FORM's CARD OF 'freeholdlaw21.LinearAlone'. -/
def linearAloneUptoCard : Claim7 := { stood := { row := linearAloneUptoRow, standIns := [], harness := (true, "d1ca5bb3e701d8b2b0ef5180e1b9982e11f76eed5fc930e7a2c9f3077943309c"), looks := false }, kinds := [], alts := [], laidByText := true, laidKinds := [.data, .data, .data], laidTests := true, laidLooks := .later }
def LinearAloneUptoCardSaid : Prop := Claim7.holds Tryd.pinned (.plain (OpenSpec.upto linearAloneSpec)) linearAloneUptoCard

/-- THE SECOND FORM's CARD OF 'freeholdlaw21.LinearOf'. -/
def linearOfUptoCard : Claim7 := { stood := { row := linearOfUptoRow, standIns := [], harness := (true, "d1ca5bb3e701d8b2b0ef5180e1b9982e11f76eed5fc930e7a2c9f3077943309c"), looks := false }, kinds := [], alts := [], laidByText := true, laidKinds := [.data, .data, .data], laidTests := true, laidLooks := .later }
def LinearOfUptoCardSaid : Prop := Claim7.holds Tryd.pinned (.plain (OpenSpec.upto linearOfSpec)) linearOfUptoCard
end Rows
end Go.Proofs.YtfebaopjfmpfkaaDoor
