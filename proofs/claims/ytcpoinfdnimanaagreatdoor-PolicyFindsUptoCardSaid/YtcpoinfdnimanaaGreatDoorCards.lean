/-
  DERIVED. GIVEN WITH THE SEED: THE CARDS: each row of YtcpoinfdnimanaaGreatDoorRows.lean that lists a variable, with what it lists TIED to the program's text (the seventh form; the later family's looks); each row that meets fmt, with fmt's text TOLD by the authors' own Lean function (tested against real Go, not proved from fmt's source: count such statements apart). THE CARD IS WHAT COUNTS. Prove the row's statement (the work); the ties are given (YtcpoinfdnimanaaGreatDoorTie.lean); close each card by the builder's one call (the guide's Derived/Test/ToyasCard.lean, 'card_holds'). Laid BY PROGRAM, IN A SANDBOX (cutbox-door.mjs). By AI agents, Wed Nov 11 2026. No macro, syntax, notation, axiom, sorry.
-/
import Derived.Test.YtcpoinfdnimanaaGreatDoorRows
import GoSem.ClaimSeven
namespace Go.Proofs.YtcpoinfdnimanaaGreatDoor
namespace Rows

/-- THE TIED CARD OF 'beadlelaw22.PolicyChecks'. -/
def policyChecksCard : Claim7 := { stood := { row := policyChecksRow, standIns := [], harness := (true, "b2da7f68e82f16387a487cf75ac5756ac18c5bcc1b2df9014972d01553386ce5"), looks := true }, kinds := [], alts := [], laidByText := true, laidKinds := [.handle], laidTests := true, laidLooks := .later }
def PolicyChecksCardSaid : Prop := Claim7.holds Tryz.pinned (.plain (OpenSpec.ofChange policyChecksSpec)) policyChecksCard

/-- THE TIED CARD OF 'beadlelaw22.PolicyFinds'. -/
def policyFindsCard : Claim7 := { stood := { row := policyFindsRow, standIns := [], harness := (true, "b2da7f68e82f16387a487cf75ac5756ac18c5bcc1b2df9014972d01553386ce5"), looks := true }, kinds := [], alts := [], laidByText := true, laidKinds := [.handle], laidTests := true, laidLooks := .later }
def PolicyFindsCardSaid : Prop := Claim7.holds Tryz.pinned (.plain (OpenSpec.ofChange policyFindsSpec)) policyFindsCard

/-- THE TIED CARD OF 'beadlelaw22.PolicyPrints'. -/
def policyPrintsCard : Claim7 := { stood := { row := policyPrintsRow, standIns := [], harness := (true, "b2da7f68e82f16387a487cf75ac5756ac18c5bcc1b2df9014972d01553386ce5"), looks := true }, kinds := [], alts := [], laidByText := true, laidKinds := [.handle], laidTests := true, laidLooks := .later }
def PolicyPrintsCardSaid : Prop := Claim7.holds Tryz.pinned (.plain (OpenSpec.ofChange policyPrintsSpec)) policyPrintsCard

/-- THE TIED CARD OF 'beadlelaw22.PolicyBack'. -/
def policyBackCard : Claim7 := { stood := { row := policyBackRow, standIns := [], harness := (true, "b2da7f68e82f16387a487cf75ac5756ac18c5bcc1b2df9014972d01553386ce5"), looks := true }, kinds := [], alts := [], laidByText := true, laidKinds := [.handle], laidTests := true, laidLooks := .later }
def PolicyBackCardSaid : Prop := Claim7.holds Tryz.pinned (.plain (OpenSpec.ofChange policyBackSpec)) policyBackCard

/-- THE TIED CARD OF 'beadlelaw22.PolicySettles'. -/
def policySettlesCard : Claim7 := { stood := { row := policySettlesRow, standIns := [], harness := (true, "b2da7f68e82f16387a487cf75ac5756ac18c5bcc1b2df9014972d01553386ce5"), looks := true }, kinds := [], alts := [], laidByText := true, laidKinds := [.handle], laidTests := true, laidLooks := .later }
def PolicySettlesCardSaid : Prop := Claim7.holds Tryz.pinned (.plain (OpenSpec.ofChange policySettlesSpec)) policySettlesCard

/-- THE SECOND FORM's CARD OF 'beadlelaw22.PolicyChecks'. -/
def policyChecksUptoCard : Claim7 := { stood := { row := policyChecksUptoRow, standIns := [], harness := (true, "b2da7f68e82f16387a487cf75ac5756ac18c5bcc1b2df9014972d01553386ce5"), looks := true }, kinds := [], alts := [], laidByText := true, laidKinds := [.handle], laidTests := true, laidLooks := .later }
def PolicyChecksUptoCardSaid : Prop := Claim7.holds Tryz.pinned (.plain (OpenSpec.upto policyChecksSpec)) policyChecksUptoCard

/-- THE SECOND FORM's CARD OF 'beadlelaw22.PolicyFinds'. -/
def policyFindsUptoCard : Claim7 := { stood := { row := policyFindsUptoRow, standIns := [], harness := (true, "b2da7f68e82f16387a487cf75ac5756ac18c5bcc1b2df9014972d01553386ce5"), looks := true }, kinds := [], alts := [], laidByText := true, laidKinds := [.handle], laidTests := true, laidLooks := .later }
def PolicyFindsUptoCardSaid : Prop := Claim7.holds Tryz.pinned (.plain (OpenSpec.upto policyFindsSpec)) policyFindsUptoCard

/-- THE SECOND FORM's CARD OF 'beadlelaw22.PolicyPrints'. -/
def policyPrintsUptoCard : Claim7 := { stood := { row := policyPrintsUptoRow, standIns := [], harness := (true, "b2da7f68e82f16387a487cf75ac5756ac18c5bcc1b2df9014972d01553386ce5"), looks := true }, kinds := [], alts := [], laidByText := true, laidKinds := [.handle], laidTests := true, laidLooks := .later }
def PolicyPrintsUptoCardSaid : Prop := Claim7.holds Tryz.pinned (.plain (OpenSpec.upto policyPrintsSpec)) policyPrintsUptoCard

/-- THE SECOND FORM's CARD OF 'beadlelaw22.PolicyBack'. -/
def policyBackUptoCard : Claim7 := { stood := { row := policyBackUptoRow, standIns := [], harness := (true, "b2da7f68e82f16387a487cf75ac5756ac18c5bcc1b2df9014972d01553386ce5"), looks := true }, kinds := [], alts := [], laidByText := true, laidKinds := [.handle], laidTests := true, laidLooks := .later }
def PolicyBackUptoCardSaid : Prop := Claim7.holds Tryz.pinned (.plain (OpenSpec.upto policyBackSpec)) policyBackUptoCard

/-- THE SECOND FORM's CARD OF 'beadlelaw22.PolicySettles'. -/
def policySettlesUptoCard : Claim7 := { stood := { row := policySettlesUptoRow, standIns := [], harness := (true, "b2da7f68e82f16387a487cf75ac5756ac18c5bcc1b2df9014972d01553386ce5"), looks := true }, kinds := [], alts := [], laidByText := true, laidKinds := [.handle], laidTests := true, laidLooks := .later }
def PolicySettlesUptoCardSaid : Prop := Claim7.holds Tryz.pinned (.plain (OpenSpec.upto policySettlesSpec)) policySettlesUptoCard
end Rows
end Go.Proofs.YtcpoinfdnimanaaGreatDoor
