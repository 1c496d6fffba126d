/-
  DERIVED. GIVEN WITH THE SEED: THE CARDS: each row of YtfckliidjmeeaaaDoorRows.lean that lists a variable, with what it lists TIED to the program's text (the seventh form; the later family's looks); each row that meets fmt, with fmt's text TOLD by the authors' own Lean function (tested against real Go, not proved from fmt's source: count such statements apart). THE CARD IS WHAT COUNTS. Prove the row's statement (the work); the ties are given (YtfckliidjmeeaaaDoorTie.lean); close each card by the builder's one call (the guide's Derived/Test/ToyasCard.lean, 'card_holds'). Laid BY PROGRAM, IN A SANDBOX (cutbox-door.mjs). By AI agents, Wed Nov 11 2026. No macro, syntax, notation, axiom, sorry.
-/
import Derived.Test.YtfckliidjmeeaaaDoorRows
import GoSem.ClaimSeven
namespace Go.Proofs.YtfckliidjmeeaaaDoor
namespace Rows

/-- THE TIED CARD OF 'backflushlaw42.DeltasReportSpec'. -/
def deltasReportSpecCard : Claim7 := { stood := { row := deltasReportSpecRow, standIns := [], harness := (true, "b3cd680e9656ccc33c23b5cf68efd3cd97e77cb181f8968ef49a97b8d2d231b2"), looks := true }, kinds := [], alts := [], laidByText := true, laidKinds := [.data, .data, .data], laidTests := true, laidLooks := .later }
def DeltasReportSpecCardSaid : Prop := Claim7.holds Tryd.pinned (.plain (OpenSpec.ofChange deltasReportSpecSpec)) deltasReportSpecCard

/-- THE TIED CARD OF 'backflushlaw42.DeltasSpec'. -/
def deltasSpecCard : Claim7 := { stood := { row := deltasSpecRow, standIns := [], harness := (true, "b3cd680e9656ccc33c23b5cf68efd3cd97e77cb181f8968ef49a97b8d2d231b2"), looks := true }, kinds := [], alts := [], laidByText := true, laidKinds := [.data, .data, .data], laidTests := true, laidLooks := .later }
def DeltasSpecCardSaid : Prop := Claim7.holds Tryd.pinned (.plain (OpenSpec.ofChange deltasSpecSpec)) deltasSpecCard

/-- THE TIED CARD OF 'backflushlaw42.DeltasExact'. -/
def deltasExactCard : Claim7 := { stood := { row := deltasExactRow, standIns := [], harness := (true, "b3cd680e9656ccc33c23b5cf68efd3cd97e77cb181f8968ef49a97b8d2d231b2"), looks := true }, kinds := [], alts := [], laidByText := true, laidKinds := [.data, .data, .data], laidTests := true, laidLooks := .later }
def DeltasExactCardSaid : Prop := Claim7.holds Tryd.pinned (.plain (OpenSpec.ofChange deltasExactSpec)) deltasExactCard

/-- THE TIED CARD OF 'backflushlaw42.DeltasJoined'. -/
def deltasJoinedCard : Claim7 := { stood := { row := deltasJoinedRow, standIns := [], harness := (true, "b3cd680e9656ccc33c23b5cf68efd3cd97e77cb181f8968ef49a97b8d2d231b2"), looks := true }, kinds := [], alts := [], laidByText := true, laidKinds := [.data, .data, .data], laidTests := true, laidLooks := .later }
def DeltasJoinedCardSaid : Prop := Claim7.holds Tryd.pinned (.plain (OpenSpec.ofChange deltasJoinedSpec)) deltasJoinedCard

/-- THE TIED CARD OF 'backflushlaw42.DeltasThree'. -/
def deltasThreeCard : Claim7 := { stood := { row := deltasThreeRow, standIns := [], harness := (true, "b3cd680e9656ccc33c23b5cf68efd3cd97e77cb181f8968ef49a97b8d2d231b2"), looks := true }, kinds := [], alts := [], laidByText := true, laidKinds := [.data, .data, .data], laidTests := true, laidLooks := .later }
def DeltasThreeCardSaid : Prop := Claim7.holds Tryd.pinned (.plain (OpenSpec.ofChange deltasThreeSpec)) deltasThreeCard

/-- THE TIED CARD OF 'backflushlaw42.DeltasAll'. -/
def deltasAllCard : Claim7 := { stood := { row := deltasAllRow, standIns := [], harness := (true, "b3cd680e9656ccc33c23b5cf68efd3cd97e77cb181f8968ef49a97b8d2d231b2"), looks := true }, kinds := [], alts := [], laidByText := true, laidKinds := [.data, .data, .data], laidTests := true, laidLooks := .later }
def DeltasAllCardSaid : Prop := Claim7.holds Tryd.pinned (.plain (OpenSpec.ofChange deltasAllSpec)) deltasAllCard

/-- THE SECOND FORM's CARD OF 'backflushlaw42.DeltasReportSpec'. -/
def deltasReportSpecUptoCard : Claim7 := { stood := { row := deltasReportSpecUptoRow, standIns := [], harness := (true, "b3cd680e9656ccc33c23b5cf68efd3cd97e77cb181f8968ef49a97b8d2d231b2"), looks := true }, kinds := [], alts := [], laidByText := true, laidKinds := [.data, .data, .data], laidTests := true, laidLooks := .later }
def DeltasReportSpecUptoCardSaid : Prop := Claim7.holds Tryd.pinned (.plain (OpenSpec.upto deltasReportSpecSpec)) deltasReportSpecUptoCard

/-- THE SECOND FORM's CARD OF 'backflushlaw42.DeltasSpec'. -/
def deltasSpecUptoCard : Claim7 := { stood := { row := deltasSpecUptoRow, standIns := [], harness := (true, "b3cd680e9656ccc33c23b5cf68efd3cd97e77cb181f8968ef49a97b8d2d231b2"), looks := true }, kinds := [], alts := [], laidByText := true, laidKinds := [.data, .data, .data], laidTests := true, laidLooks := .later }
def DeltasSpecUptoCardSaid : Prop := Claim7.holds Tryd.pinned (.plain (OpenSpec.upto deltasSpecSpec)) deltasSpecUptoCard

/-- THE SECOND FORM's CARD OF 'backflushlaw42.DeltasExact'. -/
def deltasExactUptoCard : Claim7 := { stood := { row := deltasExactUptoRow, standIns := [], harness := (true, "b3cd680e9656ccc33c23b5cf68efd3cd97e77cb181f8968ef49a97b8d2d231b2"), looks := true }, kinds := [], alts := [], laidByText := true, laidKinds := [.data, .data, .data], laidTests := true, laidLooks := .later }
def DeltasExactUptoCardSaid : Prop := Claim7.holds Tryd.pinned (.plain (OpenSpec.upto deltasExactSpec)) deltasExactUptoCard

/-- THE SECOND FORM's CARD OF 'backflushlaw42.DeltasJoined'. -/
def deltasJoinedUptoCard : Claim7 := { stood := { row := deltasJoinedUptoRow, standIns := [], harness := (true, "b3cd680e9656ccc33c23b5cf68efd3cd97e77cb181f8968ef49a97b8d2d231b2"), looks := true }, kinds := [], alts := [], laidByText := true, laidKinds := [.data, .data, .data], laidTests := true, laidLooks := .later }
def DeltasJoinedUptoCardSaid : Prop := Claim7.holds Tryd.pinned (.plain (OpenSpec.upto deltasJoinedSpec)) deltasJoinedUptoCard

/-- THE SECOND FORM's CARD OF 'backflushlaw42.DeltasThree'. -/
def deltasThreeUptoCard : Claim7 := { stood := { row := deltasThreeUptoRow, standIns := [], harness := (true, "b3cd680e9656ccc33c23b5cf68efd3cd97e77cb181f8968ef49a97b8d2d231b2"), looks := true }, kinds := [], alts := [], laidByText := true, laidKinds := [.data, .data, .data], laidTests := true, laidLooks := .later }
def DeltasThreeUptoCardSaid : Prop := Claim7.holds Tryd.pinned (.plain (OpenSpec.upto deltasThreeSpec)) deltasThreeUptoCard

/-- THE SECOND FORM's CARD OF 'backflushlaw42.DeltasAll'. -/
def deltasAllUptoCard : Claim7 := { stood := { row := deltasAllUptoRow, standIns := [], harness := (true, "b3cd680e9656ccc33c23b5cf68efd3cd97e77cb181f8968ef49a97b8d2d231b2"), looks := true }, kinds := [], alts := [], laidByText := true, laidKinds := [.data, .data, .data], laidTests := true, laidLooks := .later }
def DeltasAllUptoCardSaid : Prop := Claim7.holds Tryd.pinned (.plain (OpenSpec.upto deltasAllSpec)) deltasAllUptoCard
end Rows
end Go.Proofs.YtfckliidjmeeaaaDoor
