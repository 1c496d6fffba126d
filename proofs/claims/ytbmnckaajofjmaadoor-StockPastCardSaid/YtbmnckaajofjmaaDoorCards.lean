/-
  DERIVED. GIVEN WITH THE SEED: THE CARDS: each row of YtbmnckaajofjmaaDoorRows.lean that lists a variable, with what it lists TIED to the program's text (the seventh form; the later family's looks); each row that meets fmt, with fmt's text TOLD by the authors' own Lean function (tested against real Go, not proved from fmt's source: count such statements apart). THE CARD IS WHAT COUNTS. Prove the row's statement (the work); the ties are given (YtbmnckaajofjmaaDoorTie.lean); close each card by the builder's one call (the guide's Derived/Test/ToyasCard.lean, 'card_holds'). Laid BY PROGRAM, IN A SANDBOX (cutbox-door.mjs). By AI agents, Wed Nov 11 2026. No macro, syntax, notation, axiom, sorry.
-/
import Derived.Test.YtbmnckaajofjmaaDoorRows
import GoSem.ClaimSeven
namespace Go.Proofs.YtbmnckaajofjmaaDoor
namespace Rows

/-- THE TIED CARD OF 'backflushlaw18.StockLotSpec'. -/
def stockLotSpecCard : Claim7 := { stood := { row := stockLotSpecRow, standIns := [], harness := (true, "952187bd3e142125ef87e64c8f2475cad2e4edc430240e5b376d799b9b2f12c1"), looks := false }, kinds := [], alts := [], laidByText := true, laidKinds := [.data], laidTests := true, laidLooks := .later }
def StockLotSpecCardSaid : Prop := Claim7.holds Tryd.pinned (.plain (OpenSpec.ofChange stockLotSpecSpec)) stockLotSpecCard

/-- THE TIED CARD OF 'backflushlaw18.StockPutSpec'. -/
def stockPutSpecCard : Claim7 := { stood := { row := stockPutSpecRow, standIns := [], harness := (true, "952187bd3e142125ef87e64c8f2475cad2e4edc430240e5b376d799b9b2f12c1"), looks := false }, kinds := [], alts := [], laidByText := true, laidKinds := [.data], laidTests := true, laidLooks := .later }
def StockPutSpecCardSaid : Prop := Claim7.holds Tryd.pinned (.plain (OpenSpec.ofChange stockPutSpecSpec)) stockPutSpecCard

/-- THE TIED CARD OF 'backflushlaw18.StockBack'. -/
def stockBackCard : Claim7 := { stood := { row := stockBackRow, standIns := [], harness := (true, "952187bd3e142125ef87e64c8f2475cad2e4edc430240e5b376d799b9b2f12c1"), looks := false }, kinds := [], alts := [], laidByText := true, laidKinds := [.data], laidTests := true, laidLooks := .later }
def StockBackCardSaid : Prop := Claim7.holds Tryd.pinned (.plain (OpenSpec.ofChange stockBackSpec)) stockBackCard

/-- THE TIED CARD OF 'backflushlaw18.StockAll'. -/
def stockAllCard : Claim7 := { stood := { row := stockAllRow, standIns := [], harness := (true, "952187bd3e142125ef87e64c8f2475cad2e4edc430240e5b376d799b9b2f12c1"), looks := false }, kinds := [], alts := [], laidByText := true, laidKinds := [.data], laidTests := true, laidLooks := .later }
def StockAllCardSaid : Prop := Claim7.holds Tryd.pinned (.plain (OpenSpec.ofChange stockAllSpec)) stockAllCard

/-- THE TIED CARD OF 'backflushlaw18.StockUsable'. -/
def stockUsableCard : Claim7 := { stood := { row := stockUsableRow, standIns := [], harness := (true, "952187bd3e142125ef87e64c8f2475cad2e4edc430240e5b376d799b9b2f12c1"), looks := false }, kinds := [], alts := [], laidByText := true, laidKinds := [.data], laidTests := true, laidLooks := .later }
def StockUsableCardSaid : Prop := Claim7.holds Tryd.pinned (.plain (OpenSpec.ofChange stockUsableSpec)) stockUsableCard

/-- THE TIED CARD OF 'backflushlaw18.StockPast'. -/
def stockPastCard : Claim7 := { stood := { row := stockPastRow, standIns := [], harness := (true, "952187bd3e142125ef87e64c8f2475cad2e4edc430240e5b376d799b9b2f12c1"), looks := false }, kinds := [], alts := [], laidByText := true, laidKinds := [.data], laidTests := true, laidLooks := .later }
def StockPastCardSaid : Prop := Claim7.holds Tryd.pinned (.plain (OpenSpec.ofChange stockPastSpec)) stockPastCard

/-- THE TIED CARD OF 'backflushlaw18.StockReads'. -/
def stockReadsCard : Claim7 := { stood := { row := stockReadsRow, standIns := [], harness := (true, "952187bd3e142125ef87e64c8f2475cad2e4edc430240e5b376d799b9b2f12c1"), looks := false }, kinds := [], alts := [], laidByText := true, laidKinds := [.data], laidTests := true, laidLooks := .later }
def StockReadsCardSaid : Prop := Claim7.holds Tryd.pinned (.plain (OpenSpec.ofChange stockReadsSpec)) stockReadsCard

/-- THE SECOND FORM's CARD OF 'backflushlaw18.StockLotSpec'. -/
def stockLotSpecUptoCard : Claim7 := { stood := { row := stockLotSpecUptoRow, standIns := [], harness := (true, "952187bd3e142125ef87e64c8f2475cad2e4edc430240e5b376d799b9b2f12c1"), looks := false }, kinds := [], alts := [], laidByText := true, laidKinds := [.data], laidTests := true, laidLooks := .later }
def StockLotSpecUptoCardSaid : Prop := Claim7.holds Tryd.pinned (.plain (OpenSpec.upto stockLotSpecSpec)) stockLotSpecUptoCard

/-- THE SECOND FORM's CARD OF 'backflushlaw18.StockPutSpec'. -/
def stockPutSpecUptoCard : Claim7 := { stood := { row := stockPutSpecUptoRow, standIns := [], harness := (true, "952187bd3e142125ef87e64c8f2475cad2e4edc430240e5b376d799b9b2f12c1"), looks := false }, kinds := [], alts := [], laidByText := true, laidKinds := [.data], laidTests := true, laidLooks := .later }
def StockPutSpecUptoCardSaid : Prop := Claim7.holds Tryd.pinned (.plain (OpenSpec.upto stockPutSpecSpec)) stockPutSpecUptoCard

/-- THE SECOND FORM's CARD OF 'backflushlaw18.StockBack'. -/
def stockBackUptoCard : Claim7 := { stood := { row := stockBackUptoRow, standIns := [], harness := (true, "952187bd3e142125ef87e64c8f2475cad2e4edc430240e5b376d799b9b2f12c1"), looks := false }, kinds := [], alts := [], laidByText := true, laidKinds := [.data], laidTests := true, laidLooks := .later }
def StockBackUptoCardSaid : Prop := Claim7.holds Tryd.pinned (.plain (OpenSpec.upto stockBackSpec)) stockBackUptoCard

/-- THE SECOND FORM's CARD OF 'backflushlaw18.StockAll'. -/
def stockAllUptoCard : Claim7 := { stood := { row := stockAllUptoRow, standIns := [], harness := (true, "952187bd3e142125ef87e64c8f2475cad2e4edc430240e5b376d799b9b2f12c1"), looks := false }, kinds := [], alts := [], laidByText := true, laidKinds := [.data], laidTests := true, laidLooks := .later }
def StockAllUptoCardSaid : Prop := Claim7.holds Tryd.pinned (.plain (OpenSpec.upto stockAllSpec)) stockAllUptoCard

/-- THE SECOND FORM's CARD OF 'backflushlaw18.StockUsable'. -/
def stockUsableUptoCard : Claim7 := { stood := { row := stockUsableUptoRow, standIns := [], harness := (true, "952187bd3e142125ef87e64c8f2475cad2e4edc430240e5b376d799b9b2f12c1"), looks := false }, kinds := [], alts := [], laidByText := true, laidKinds := [.data], laidTests := true, laidLooks := .later }
def StockUsableUptoCardSaid : Prop := Claim7.holds Tryd.pinned (.plain (OpenSpec.upto stockUsableSpec)) stockUsableUptoCard

/-- THE SECOND FORM's CARD OF 'backflushlaw18.StockPast'. -/
def stockPastUptoCard : Claim7 := { stood := { row := stockPastUptoRow, standIns := [], harness := (true, "952187bd3e142125ef87e64c8f2475cad2e4edc430240e5b376d799b9b2f12c1"), looks := false }, kinds := [], alts := [], laidByText := true, laidKinds := [.data], laidTests := true, laidLooks := .later }
def StockPastUptoCardSaid : Prop := Claim7.holds Tryd.pinned (.plain (OpenSpec.upto stockPastSpec)) stockPastUptoCard

/-- THE SECOND FORM's CARD OF 'backflushlaw18.StockReads'. -/
def stockReadsUptoCard : Claim7 := { stood := { row := stockReadsUptoRow, standIns := [], harness := (true, "952187bd3e142125ef87e64c8f2475cad2e4edc430240e5b376d799b9b2f12c1"), looks := false }, kinds := [], alts := [], laidByText := true, laidKinds := [.data], laidTests := true, laidLooks := .later }
def StockReadsUptoCardSaid : Prop := Claim7.holds Tryd.pinned (.plain (OpenSpec.upto stockReadsSpec)) stockReadsUptoCard
end Rows
end Go.Proofs.YtbmnckaajofjmaaDoor
