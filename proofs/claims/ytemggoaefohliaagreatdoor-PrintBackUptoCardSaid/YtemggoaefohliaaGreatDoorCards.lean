/-
  DERIVED. GIVEN WITH THE SEED: THE CARDS: each row of YtemggoaefohliaaGreatDoorRows.lean that lists a variable, with what it lists TIED to the program's text (the seventh form; the later family's looks); each row that meets fmt, with fmt's text TOLD by the authors' own Lean function (tested against real Go, not proved from fmt's source: count such statements apart). THE CARD IS WHAT COUNTS. Prove the row's statement (the work); the ties are given (YtemggoaefohliaaGreatDoorTie.lean); close each card by the builder's one call (the guide's Derived/Test/ToyasCard.lean, 'card_holds'). Laid BY PROGRAM, IN A SANDBOX (cutbox-door.mjs). By AI agents, Wed Nov 11 2026. No macro, syntax, notation, axiom, sorry.
-/
import Derived.Test.YtemggoaefohliaaGreatDoorRows
import GoSem.ClaimSeven
namespace Go.Proofs.YtemggoaefohliaaGreatDoor
namespace Rows

/-- THE TIED CARD OF 'beadlelaw08.ParseTells'. -/
def parseTellsCard : Claim7 := { stood := { row := parseTellsRow, standIns := [], harness := (true, "914b0b419bd01ec4bb1ddf282bf5c5d78d3457b9de4cd75f53b1245494de24c3"), looks := true }, kinds := [], alts := [], laidByText := true, laidKinds := [.handle], laidTests := true, laidLooks := .later }
def ParseTellsCardSaid : Prop := Claim7.holds Tryz.pinned (.plain (OpenSpec.ofChange parseTellsSpec)) parseTellsCard

/-- THE TIED CARD OF 'beadlelaw08.ParseTakes'. -/
def parseTakesCard : Claim7 := { stood := { row := parseTakesRow, standIns := [], harness := (true, "914b0b419bd01ec4bb1ddf282bf5c5d78d3457b9de4cd75f53b1245494de24c3"), looks := true }, kinds := [], alts := [], laidByText := true, laidKinds := [.handle], laidTests := true, laidLooks := .later }
def ParseTakesCardSaid : Prop := Claim7.holds Tryz.pinned (.plain (OpenSpec.ofChange parseTakesSpec)) parseTakesCard

/-- THE TIED CARD OF 'beadlelaw09.PrintBack'. -/
def printBackCard : Claim7 := { stood := { row := printBackRow, standIns := [], harness := (true, "914b0b419bd01ec4bb1ddf282bf5c5d78d3457b9de4cd75f53b1245494de24c3"), looks := true }, kinds := [], alts := [], laidByText := true, laidKinds := [.handle], laidTests := true, laidLooks := .later }
def PrintBackCardSaid : Prop := Claim7.holds Tryz.pinned (.plain (OpenSpec.ofChange printBackSpec)) printBackCard

/-- THE SECOND FORM's CARD OF 'beadlelaw08.ParseTells'. -/
def parseTellsUptoCard : Claim7 := { stood := { row := parseTellsUptoRow, standIns := [], harness := (true, "914b0b419bd01ec4bb1ddf282bf5c5d78d3457b9de4cd75f53b1245494de24c3"), looks := true }, kinds := [], alts := [], laidByText := true, laidKinds := [.handle], laidTests := true, laidLooks := .later }
def ParseTellsUptoCardSaid : Prop := Claim7.holds Tryz.pinned (.plain (OpenSpec.upto parseTellsSpec)) parseTellsUptoCard

/-- THE SECOND FORM's CARD OF 'beadlelaw08.ParseTakes'. -/
def parseTakesUptoCard : Claim7 := { stood := { row := parseTakesUptoRow, standIns := [], harness := (true, "914b0b419bd01ec4bb1ddf282bf5c5d78d3457b9de4cd75f53b1245494de24c3"), looks := true }, kinds := [], alts := [], laidByText := true, laidKinds := [.handle], laidTests := true, laidLooks := .later }
def ParseTakesUptoCardSaid : Prop := Claim7.holds Tryz.pinned (.plain (OpenSpec.upto parseTakesSpec)) parseTakesUptoCard

/-- THE SECOND FORM's CARD OF 'beadlelaw09.PrintBack'. -/
def printBackUptoCard : Claim7 := { stood := { row := printBackUptoRow, standIns := [], harness := (true, "914b0b419bd01ec4bb1ddf282bf5c5d78d3457b9de4cd75f53b1245494de24c3"), looks := true }, kinds := [], alts := [], laidByText := true, laidKinds := [.handle], laidTests := true, laidLooks := .later }
def PrintBackUptoCardSaid : Prop := Claim7.holds Tryz.pinned (.plain (OpenSpec.upto printBackSpec)) printBackUptoCard
end Rows
end Go.Proofs.YtemggoaefohliaaGreatDoor
