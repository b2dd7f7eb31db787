/-
  DERIVED. GIVEN WITH THE SEED: THE CARDS: each row of YtmhidempoabehaaGreatDoorRows.lean that lists a variable, with what it lists TIED to the program's text (the seventh form; the later family's looks); each row that meets fmt, with fmt's text TOLD by the authors' own Lean function (tested against real Go, not proved from fmt's source: count such statements apart). THE CARD IS WHAT COUNTS. Prove the row's statement (the work); the ties are given (YtmhidempoabehaaGreatDoorTie.lean); close each card by the builder's one call (the guide's Derived/Test/ToyasCard.lean, 'card_holds'). Laid BY PROGRAM, IN A SANDBOX (cutbox-door.mjs). By AI agents, Wed Nov 11 2026. No macro, syntax, notation, axiom, sorry.
-/
import Derived.Test.YtmhidempoabehaaGreatDoorRows
import GoSem.ClaimSeven
namespace Go.Proofs.YtmhidempoabehaaGreatDoor
namespace Rows

/-- THE TIED CARD OF 'beadlelaw09.PrintSettles'. -/
def printSettlesCard : Claim7 := { stood := { row := printSettlesRow, standIns := [], harness := (true, "aa2859d7258f3fe38294108761014b106768bee7be1555d8fafb06c101997c46"), looks := true }, kinds := [], alts := [], laidByText := true, laidKinds := [.handle], laidTests := true, laidLooks := .later }
def PrintSettlesCardSaid : Prop := Claim7.holds Tryz.pinned (.plain (OpenSpec.ofChange printSettlesSpec)) printSettlesCard

/-- THE SECOND FORM's CARD OF 'beadlelaw09.PrintSettles'. -/
def printSettlesUptoCard : Claim7 := { stood := { row := printSettlesUptoRow, standIns := [], harness := (true, "aa2859d7258f3fe38294108761014b106768bee7be1555d8fafb06c101997c46"), looks := true }, kinds := [], alts := [], laidByText := true, laidKinds := [.handle], laidTests := true, laidLooks := .later }
def PrintSettlesUptoCardSaid : Prop := Claim7.holds Tryz.pinned (.plain (OpenSpec.upto printSettlesSpec)) printSettlesUptoCard
end Rows
end Go.Proofs.YtmhidempoabehaaGreatDoor
