/-
  DERIVED. GIVEN WITH THE SEED: THE CARDS: each row of YtoliiomecffacaaDoorRows.lean that lists a variable, with what it lists TIED to the program's text (the seventh form; the later family's looks); each row that meets fmt, with fmt's text TOLD by the authors' own Lean function (tested against real Go, not proved from fmt's source: count such statements apart). THE CARD IS WHAT COUNTS. Prove the row's statement (the work); the ties are given (YtoliiomecffacaaDoorTie.lean); close each card by the builder's one call (the guide's Derived/Test/ToyasCard.lean, 'card_holds'). Laid BY PROGRAM, IN A SANDBOX (cutbox-door.mjs). By AI agents, Wed Nov 11 2026. No macro, syntax, notation, axiom, sorry.
-/
import Derived.Test.YtoliiomecffacaaDoorRows
import GoSem.ClaimSeven
namespace Go.Proofs.YtoliiomecffacaaDoor
namespace Rows

/-- THE TIED CARD OF 'backflushlaw40.QualityCertifySpec'. -/
def qualityCertifySpecCard : Claim7 := { stood := { row := qualityCertifySpecRow, standIns := [], harness := (true, "3857edb47c7d36df9a3f4d4cec1e52fd0a9d4a3f994bbbaa0b21b2b4f8dc1e73"), looks := false }, kinds := [], alts := [], laidByText := true, laidKinds := [.data], laidTests := true, laidLooks := .later }
def QualityCertifySpecCardSaid : Prop := Claim7.holds Tryd.pinned (.plain (OpenSpec.ofChange qualityCertifySpecSpec)) qualityCertifySpecCard

/-- THE TIED CARD OF 'backflushlaw40.QualityStateSpec'. -/
def qualityStateSpecCard : Claim7 := { stood := { row := qualityStateSpecRow, standIns := [], harness := (true, "3857edb47c7d36df9a3f4d4cec1e52fd0a9d4a3f994bbbaa0b21b2b4f8dc1e73"), looks := false }, kinds := [], alts := [], laidByText := true, laidKinds := [.data], laidTests := true, laidLooks := .later }
def QualityStateSpecCardSaid : Prop := Claim7.holds Tryd.pinned (.plain (OpenSpec.ofChange qualityStateSpecSpec)) qualityStateSpecCard

/-- THE TIED CARD OF 'backflushlaw40.QualityFree'. -/
def qualityFreeCard : Claim7 := { stood := { row := qualityFreeRow, standIns := [], harness := (true, "3857edb47c7d36df9a3f4d4cec1e52fd0a9d4a3f994bbbaa0b21b2b4f8dc1e73"), looks := false }, kinds := [], alts := [], laidByText := true, laidKinds := [.data], laidTests := true, laidLooks := .later }
def QualityFreeCardSaid : Prop := Claim7.holds Tryd.pinned (.plain (OpenSpec.ofChange qualityFreeSpec)) qualityFreeCard

/-- THE TIED CARD OF 'backflushlaw40.QualityMore'. -/
def qualityMoreCard : Claim7 := { stood := { row := qualityMoreRow, standIns := [], harness := (true, "3857edb47c7d36df9a3f4d4cec1e52fd0a9d4a3f994bbbaa0b21b2b4f8dc1e73"), looks := false }, kinds := [], alts := [], laidByText := true, laidKinds := [.data], laidTests := true, laidLooks := .later }
def QualityMoreCardSaid : Prop := Claim7.holds Tryd.pinned (.plain (OpenSpec.ofChange qualityMoreSpec)) qualityMoreCard

/-- THE TIED CARD OF 'backflushlaw40.QualityTrue'. -/
def qualityTrueCard : Claim7 := { stood := { row := qualityTrueRow, standIns := [], harness := (true, "3857edb47c7d36df9a3f4d4cec1e52fd0a9d4a3f994bbbaa0b21b2b4f8dc1e73"), looks := false }, kinds := [], alts := [], laidByText := true, laidKinds := [.data], laidTests := true, laidLooks := .later }
def QualityTrueCardSaid : Prop := Claim7.holds Tryd.pinned (.plain (OpenSpec.ofChange qualityTrueSpec)) qualityTrueCard

/-- THE TIED CARD OF 'backflushlaw40.QualityReads'. -/
def qualityReadsCard : Claim7 := { stood := { row := qualityReadsRow, standIns := [], harness := (true, "3857edb47c7d36df9a3f4d4cec1e52fd0a9d4a3f994bbbaa0b21b2b4f8dc1e73"), looks := false }, kinds := [], alts := [], laidByText := true, laidKinds := [.data], laidTests := true, laidLooks := .later }
def QualityReadsCardSaid : Prop := Claim7.holds Tryd.pinned (.plain (OpenSpec.ofChange qualityReadsSpec)) qualityReadsCard

/-- THE SECOND FORM's CARD OF 'backflushlaw40.QualityCertifySpec'. -/
def qualityCertifySpecUptoCard : Claim7 := { stood := { row := qualityCertifySpecUptoRow, standIns := [], harness := (true, "3857edb47c7d36df9a3f4d4cec1e52fd0a9d4a3f994bbbaa0b21b2b4f8dc1e73"), looks := false }, kinds := [], alts := [], laidByText := true, laidKinds := [.data], laidTests := true, laidLooks := .later }
def QualityCertifySpecUptoCardSaid : Prop := Claim7.holds Tryd.pinned (.plain (OpenSpec.upto qualityCertifySpecSpec)) qualityCertifySpecUptoCard

/-- THE SECOND FORM's CARD OF 'backflushlaw40.QualityStateSpec'. -/
def qualityStateSpecUptoCard : Claim7 := { stood := { row := qualityStateSpecUptoRow, standIns := [], harness := (true, "3857edb47c7d36df9a3f4d4cec1e52fd0a9d4a3f994bbbaa0b21b2b4f8dc1e73"), looks := false }, kinds := [], alts := [], laidByText := true, laidKinds := [.data], laidTests := true, laidLooks := .later }
def QualityStateSpecUptoCardSaid : Prop := Claim7.holds Tryd.pinned (.plain (OpenSpec.upto qualityStateSpecSpec)) qualityStateSpecUptoCard

/-- THE SECOND FORM's CARD OF 'backflushlaw40.QualityFree'. -/
def qualityFreeUptoCard : Claim7 := { stood := { row := qualityFreeUptoRow, standIns := [], harness := (true, "3857edb47c7d36df9a3f4d4cec1e52fd0a9d4a3f994bbbaa0b21b2b4f8dc1e73"), looks := false }, kinds := [], alts := [], laidByText := true, laidKinds := [.data], laidTests := true, laidLooks := .later }
def QualityFreeUptoCardSaid : Prop := Claim7.holds Tryd.pinned (.plain (OpenSpec.upto qualityFreeSpec)) qualityFreeUptoCard

/-- THE SECOND FORM's CARD OF 'backflushlaw40.QualityMore'. -/
def qualityMoreUptoCard : Claim7 := { stood := { row := qualityMoreUptoRow, standIns := [], harness := (true, "3857edb47c7d36df9a3f4d4cec1e52fd0a9d4a3f994bbbaa0b21b2b4f8dc1e73"), looks := false }, kinds := [], alts := [], laidByText := true, laidKinds := [.data], laidTests := true, laidLooks := .later }
def QualityMoreUptoCardSaid : Prop := Claim7.holds Tryd.pinned (.plain (OpenSpec.upto qualityMoreSpec)) qualityMoreUptoCard

/-- THE SECOND FORM's CARD OF 'backflushlaw40.QualityTrue'. -/
def qualityTrueUptoCard : Claim7 := { stood := { row := qualityTrueUptoRow, standIns := [], harness := (true, "3857edb47c7d36df9a3f4d4cec1e52fd0a9d4a3f994bbbaa0b21b2b4f8dc1e73"), looks := false }, kinds := [], alts := [], laidByText := true, laidKinds := [.data], laidTests := true, laidLooks := .later }
def QualityTrueUptoCardSaid : Prop := Claim7.holds Tryd.pinned (.plain (OpenSpec.upto qualityTrueSpec)) qualityTrueUptoCard

/-- THE SECOND FORM's CARD OF 'backflushlaw40.QualityReads'. -/
def qualityReadsUptoCard : Claim7 := { stood := { row := qualityReadsUptoRow, standIns := [], harness := (true, "3857edb47c7d36df9a3f4d4cec1e52fd0a9d4a3f994bbbaa0b21b2b4f8dc1e73"), looks := false }, kinds := [], alts := [], laidByText := true, laidKinds := [.data], laidTests := true, laidLooks := .later }
def QualityReadsUptoCardSaid : Prop := Claim7.holds Tryd.pinned (.plain (OpenSpec.upto qualityReadsSpec)) qualityReadsUptoCard
end Rows
end Go.Proofs.YtoliiomecffacaaDoor
