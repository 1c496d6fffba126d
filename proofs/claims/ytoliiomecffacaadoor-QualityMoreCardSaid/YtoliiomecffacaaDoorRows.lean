/-
  NARROWER THAN 'FOR EVERY INPUT', by the rows' own cells (each row's printed sentence says how): QualityCertifySpec: laid · QualityStateSpec: laid · QualityFree: laid · QualityMore: laid · QualityTrue: laid · QualityReads: laid.
  DERIVED. THE GIVEN ROWS OF THIS SEAT. 6 by the template 'for every input the law returns true; each argument reads behind the call as it read before'; 0 by the template 'total and deterministic' (their statements: YtoliiomecffacaaDoorTotals.lean).
  GIVEN WITH THE SEED: the statements are not yours to turn. If you find one false, say at which input.
  Laid BY PROGRAM, IN A SANDBOX (cutbox-rows.mjs): the forced cells as the released guide's own fill.sh prints them over the translation d36bdcefbf4bd497… (all of the seat's roots in one cut). By AI agents, Wed Nov 11 2026. No macro, syntax, notation, axiom, sorry.
-/
import Derived.Test.YtoliiomecffacaaDoorChecked
import GoSem.Claim
import GoSem.ClaimJoined
import GoSem.ClaimMapViews
import Derived.JoinedTies
import Derived.KernelRfl
namespace Go.Proofs.YtoliiomecffacaaDoor
/- THE CELL 'sum', in the pinned program and in every row, IS THE sha256 OF THE DUMP (.gsa) THAT YtoliiomecffacaaDoorProg.lean LOADS. Nothing in Lean hashes anything: it is a label: what it is worth is what the hold of that sum in a sandbox is worth. -/
noncomputable def Tryd.pinned : Pinned := { name := "ytoliiomecffacaadoor", sum := "d36bdcefbf4bd4976ed7643feaf0ca778f07339a41ffec3e998388475e064ca7", checked := Tryd.checked }
namespace Rows
def none {H : Type} : Left H := { results := [], args := [] }

/- WHAT THE LISTED PACKAGE-LEVEL VARIABLES READ AS WHEN THE CALL BEGINS. Each datum BY PROGRAM (the guide's laid-datum.mjs) off the statement by which the dump's own 'gosem.cut.vars' lays the variable. In a bare row this is a premise. The card (YtoliiomecffacaaDoorCards.lean) ties it to the program's text. -/
def laid_backflush_stock_head {H : Type} : DataW H := .agg [.lit (.int .i64 0), .lit (.int .i64 0), .lit (.int .i64 0)]

/-- 'backflushlaw40.QualityCertifySpec': WHATEVER THE INPUT: true; the input reads as it did. -/
def qualityCertifySpecSpec : ChangeSpec := { name := "qualityCertifySpec", fn := fun _ => fun
  | [d1, d2, d3, d4, d5, d6] => { results := [.lit (.bool true)], args := [d1, d2, d3, d4, d5, d6] }
  | _ => none }
def qualityCertifySpecRow : OpenClaim := { program := "ytoliiomecffacaadoor", sum := "d36bdcefbf4bd4976ed7643feaf0ca778f07339a41ffec3e998388475e064ca7", func := "backflush/backflushlaw40.QualityCertifySpec", spec := "qualityCertifySpec", unfollowed := true, recurses := true, named := ["backflush/stock.head"], apart := false, laid := [("backflush/stock.head", laid_backflush_stock_head)] }
def QualityCertifySpecSaid : Prop := qualityCertifySpecRow.holds Tryd.pinned (OpenSpec.ofChange qualityCertifySpecSpec)

/-- ITS FALSE NEIGHBOUR: 'it returns false'. Refute it at one input. -/
def qualityCertifySpecWrong : ChangeSpec := { name := "qualityCertifySpec", fn := fun _ => fun
  | [d1, d2, d3, d4, d5, d6] => { results := [.lit (.bool false)], args := [d1, d2, d3, d4, d5, d6] }
  | _ => none }
def QualityCertifySpecWrongFalsely : Prop := qualityCertifySpecRow.holds Tryd.pinned (OpenSpec.ofChange qualityCertifySpecWrong)

/-- 'backflushlaw40.QualityStateSpec': WHATEVER THE INPUT: true; the input reads as it did. -/
def qualityStateSpecSpec : ChangeSpec := { name := "qualityStateSpec", fn := fun _ => fun
  | [d1, d2, d3, d4, d5, d6, d7] => { results := [.lit (.bool true)], args := [d1, d2, d3, d4, d5, d6, d7] }
  | _ => none }
def qualityStateSpecRow : OpenClaim := { program := "ytoliiomecffacaadoor", sum := "d36bdcefbf4bd4976ed7643feaf0ca778f07339a41ffec3e998388475e064ca7", func := "backflush/backflushlaw40.QualityStateSpec", spec := "qualityStateSpec", unfollowed := true, recurses := true, named := ["backflush/stock.head"], apart := false, laid := [("backflush/stock.head", laid_backflush_stock_head)] }
def QualityStateSpecSaid : Prop := qualityStateSpecRow.holds Tryd.pinned (OpenSpec.ofChange qualityStateSpecSpec)

/-- ITS FALSE NEIGHBOUR: 'it returns false'. Refute it at one input. -/
def qualityStateSpecWrong : ChangeSpec := { name := "qualityStateSpec", fn := fun _ => fun
  | [d1, d2, d3, d4, d5, d6, d7] => { results := [.lit (.bool false)], args := [d1, d2, d3, d4, d5, d6, d7] }
  | _ => none }
def QualityStateSpecWrongFalsely : Prop := qualityStateSpecRow.holds Tryd.pinned (OpenSpec.ofChange qualityStateSpecWrong)

/-- 'backflushlaw40.QualityFree': WHATEVER THE INPUT: true; the input reads as it did. -/
def qualityFreeSpec : ChangeSpec := { name := "qualityFree", fn := fun _ => fun
  | [d1, d2, d3, d4, d5, d6] => { results := [.lit (.bool true)], args := [d1, d2, d3, d4, d5, d6] }
  | _ => none }
def qualityFreeRow : OpenClaim := { program := "ytoliiomecffacaadoor", sum := "d36bdcefbf4bd4976ed7643feaf0ca778f07339a41ffec3e998388475e064ca7", func := "backflush/backflushlaw40.QualityFree", spec := "qualityFree", unfollowed := true, recurses := true, named := ["backflush/stock.head"], apart := false, laid := [("backflush/stock.head", laid_backflush_stock_head)] }
def QualityFreeSaid : Prop := qualityFreeRow.holds Tryd.pinned (OpenSpec.ofChange qualityFreeSpec)

/-- ITS FALSE NEIGHBOUR: 'it returns false'. Refute it at one input. -/
def qualityFreeWrong : ChangeSpec := { name := "qualityFree", fn := fun _ => fun
  | [d1, d2, d3, d4, d5, d6] => { results := [.lit (.bool false)], args := [d1, d2, d3, d4, d5, d6] }
  | _ => none }
def QualityFreeWrongFalsely : Prop := qualityFreeRow.holds Tryd.pinned (OpenSpec.ofChange qualityFreeWrong)

/-- 'backflushlaw40.QualityMore': WHATEVER THE INPUT: true; the input reads as it did. -/
def qualityMoreSpec : ChangeSpec := { name := "qualityMore", fn := fun _ => fun
  | [d1, d2, d3, d4, d5, d6, d7, d8] => { results := [.lit (.bool true)], args := [d1, d2, d3, d4, d5, d6, d7, d8] }
  | _ => none }
def qualityMoreRow : OpenClaim := { program := "ytoliiomecffacaadoor", sum := "d36bdcefbf4bd4976ed7643feaf0ca778f07339a41ffec3e998388475e064ca7", func := "backflush/backflushlaw40.QualityMore", spec := "qualityMore", unfollowed := true, recurses := true, named := ["backflush/stock.head"], apart := false, laid := [("backflush/stock.head", laid_backflush_stock_head)] }
def QualityMoreSaid : Prop := qualityMoreRow.holds Tryd.pinned (OpenSpec.ofChange qualityMoreSpec)

/-- ITS FALSE NEIGHBOUR: 'it returns false'. Refute it at one input. -/
def qualityMoreWrong : ChangeSpec := { name := "qualityMore", fn := fun _ => fun
  | [d1, d2, d3, d4, d5, d6, d7, d8] => { results := [.lit (.bool false)], args := [d1, d2, d3, d4, d5, d6, d7, d8] }
  | _ => none }
def QualityMoreWrongFalsely : Prop := qualityMoreRow.holds Tryd.pinned (OpenSpec.ofChange qualityMoreWrong)

/-- 'backflushlaw40.QualityTrue': WHATEVER THE INPUT: true; the input reads as it did. -/
def qualityTrueSpec : ChangeSpec := { name := "qualityTrue", fn := fun _ => fun
  | [d1, d2, d3, d4, d5] => { results := [.lit (.bool true)], args := [d1, d2, d3, d4, d5] }
  | _ => none }
def qualityTrueRow : OpenClaim := { program := "ytoliiomecffacaadoor", sum := "d36bdcefbf4bd4976ed7643feaf0ca778f07339a41ffec3e998388475e064ca7", func := "backflush/backflushlaw40.QualityTrue", spec := "qualityTrue", unfollowed := true, recurses := true, named := ["backflush/stock.head"], apart := false, laid := [("backflush/stock.head", laid_backflush_stock_head)] }
def QualityTrueSaid : Prop := qualityTrueRow.holds Tryd.pinned (OpenSpec.ofChange qualityTrueSpec)

/-- ITS FALSE NEIGHBOUR: 'it returns false'. Refute it at one input. -/
def qualityTrueWrong : ChangeSpec := { name := "qualityTrue", fn := fun _ => fun
  | [d1, d2, d3, d4, d5] => { results := [.lit (.bool false)], args := [d1, d2, d3, d4, d5] }
  | _ => none }
def QualityTrueWrongFalsely : Prop := qualityTrueRow.holds Tryd.pinned (OpenSpec.ofChange qualityTrueWrong)

/-- 'backflushlaw40.QualityReads': WHATEVER THE INPUT: true; the input reads as it did. -/
def qualityReadsSpec : ChangeSpec := { name := "qualityReads", fn := fun _ => fun
  | [d1, d2, d3, d4, d5, d6, d7] => { results := [.lit (.bool true)], args := [d1, d2, d3, d4, d5, d6, d7] }
  | _ => none }
def qualityReadsRow : OpenClaim := { program := "ytoliiomecffacaadoor", sum := "d36bdcefbf4bd4976ed7643feaf0ca778f07339a41ffec3e998388475e064ca7", func := "backflush/backflushlaw40.QualityReads", spec := "qualityReads", unfollowed := true, recurses := true, named := ["backflush/stock.head"], apart := false, laid := [("backflush/stock.head", laid_backflush_stock_head)] }
def QualityReadsSaid : Prop := qualityReadsRow.holds Tryd.pinned (OpenSpec.ofChange qualityReadsSpec)

/-- ITS FALSE NEIGHBOUR: 'it returns false'. Refute it at one input. -/
def qualityReadsWrong : ChangeSpec := { name := "qualityReads", fn := fun _ => fun
  | [d1, d2, d3, d4, d5, d6, d7] => { results := [.lit (.bool false)], args := [d1, d2, d3, d4, d5, d6, d7] }
  | _ => none }
def QualityReadsWrongFalsely : Prop := qualityReadsRow.holds Tryd.pinned (OpenSpec.ofChange qualityReadsWrong)

/- THE SECOND FORM. 'bulk': how many values and letters a reading holds, each counted each time it is reached (what is shared counts as often as it is met; a slice's spare places count too). A statement '..UptoSaid' is the law's where the arguments, and the package variables that the reading takes, are together of bulk at most 1048576: NARROWER than '..Said'. Prove '..Said' where nothing that the law and all that it calls make is longer than what came in: it says more and counts as full. Else prove '..UptoSaid'. A law counts once. -/
mutual
def uptoBulk {H : Type} : DataW H → Nat
  | .lit (.string bytes) => bytes.length + 1
  | .lit _ => 1
  | .nil => 1
  | .ptr d => uptoBulk d + 1
  | .slice elems spare => uptoBulkAll elems + uptoBulkAll spare + 1
  | .agg parts => uptoBulkAll parts + 1
  | .iface _ d => uptoBulk d + 1
  | .map entries => uptoBulkEntries entries + 1
  | .held _ => 1
def uptoBulkAll {H : Type} : List (DataW H) → Nat
  | [] => 0
  | d :: r => uptoBulk d + uptoBulkAll r
def uptoBulkEntries {H : Type} : List (Lit × DataW H) → Nat
  | [] => 0
  | x :: r => uptoBulkEntry x + uptoBulkEntries r
def uptoBulkEntry {H : Type} : Lit × DataW H → Nat
  | (.string bytes, d) => bytes.length + uptoBulk d + 1
  | (_, d) => uptoBulk d + 1
 end
def uptoSmall : (H : Type) → List (DataW H) → Bool := fun _ ds => decide (uptoBulkAll ds ≤ 1048576)
def OpenSpec.upto (s : _root_.Go.ChangeSpec) : _root_.Go.OpenSpec := { _root_.Go.OpenSpec.ofChange s with cond := some uptoSmall }

/-- 'backflushlaw40.QualityCertifySpec', WHERE WHAT IT READS IS OF BULK AT MOST 1048576: true; the input reads as it did. -/
def qualityCertifySpecUptoRow : OpenClaim := { program := "ytoliiomecffacaadoor", sum := "d36bdcefbf4bd4976ed7643feaf0ca778f07339a41ffec3e998388475e064ca7", func := "backflush/backflushlaw40.QualityCertifySpec", spec := "qualityCertifySpec", unfollowed := true, recurses := true, named := ["backflush/stock.head"], apart := false, laid := [("backflush/stock.head", laid_backflush_stock_head)], narrowed := true }
def QualityCertifySpecUptoSaid : Prop := qualityCertifySpecUptoRow.holds Tryd.pinned (OpenSpec.upto qualityCertifySpecSpec)

/-- 'backflushlaw40.QualityStateSpec', WHERE WHAT IT READS IS OF BULK AT MOST 1048576: true; the input reads as it did. -/
def qualityStateSpecUptoRow : OpenClaim := { program := "ytoliiomecffacaadoor", sum := "d36bdcefbf4bd4976ed7643feaf0ca778f07339a41ffec3e998388475e064ca7", func := "backflush/backflushlaw40.QualityStateSpec", spec := "qualityStateSpec", unfollowed := true, recurses := true, named := ["backflush/stock.head"], apart := false, laid := [("backflush/stock.head", laid_backflush_stock_head)], narrowed := true }
def QualityStateSpecUptoSaid : Prop := qualityStateSpecUptoRow.holds Tryd.pinned (OpenSpec.upto qualityStateSpecSpec)

/-- 'backflushlaw40.QualityFree', WHERE WHAT IT READS IS OF BULK AT MOST 1048576: true; the input reads as it did. -/
def qualityFreeUptoRow : OpenClaim := { program := "ytoliiomecffacaadoor", sum := "d36bdcefbf4bd4976ed7643feaf0ca778f07339a41ffec3e998388475e064ca7", func := "backflush/backflushlaw40.QualityFree", spec := "qualityFree", unfollowed := true, recurses := true, named := ["backflush/stock.head"], apart := false, laid := [("backflush/stock.head", laid_backflush_stock_head)], narrowed := true }
def QualityFreeUptoSaid : Prop := qualityFreeUptoRow.holds Tryd.pinned (OpenSpec.upto qualityFreeSpec)

/-- 'backflushlaw40.QualityMore', WHERE WHAT IT READS IS OF BULK AT MOST 1048576: true; the input reads as it did. -/
def qualityMoreUptoRow : OpenClaim := { program := "ytoliiomecffacaadoor", sum := "d36bdcefbf4bd4976ed7643feaf0ca778f07339a41ffec3e998388475e064ca7", func := "backflush/backflushlaw40.QualityMore", spec := "qualityMore", unfollowed := true, recurses := true, named := ["backflush/stock.head"], apart := false, laid := [("backflush/stock.head", laid_backflush_stock_head)], narrowed := true }
def QualityMoreUptoSaid : Prop := qualityMoreUptoRow.holds Tryd.pinned (OpenSpec.upto qualityMoreSpec)

/-- 'backflushlaw40.QualityTrue', WHERE WHAT IT READS IS OF BULK AT MOST 1048576: true; the input reads as it did. -/
def qualityTrueUptoRow : OpenClaim := { program := "ytoliiomecffacaadoor", sum := "d36bdcefbf4bd4976ed7643feaf0ca778f07339a41ffec3e998388475e064ca7", func := "backflush/backflushlaw40.QualityTrue", spec := "qualityTrue", unfollowed := true, recurses := true, named := ["backflush/stock.head"], apart := false, laid := [("backflush/stock.head", laid_backflush_stock_head)], narrowed := true }
def QualityTrueUptoSaid : Prop := qualityTrueUptoRow.holds Tryd.pinned (OpenSpec.upto qualityTrueSpec)

/-- 'backflushlaw40.QualityReads', WHERE WHAT IT READS IS OF BULK AT MOST 1048576: true; the input reads as it did. -/
def qualityReadsUptoRow : OpenClaim := { program := "ytoliiomecffacaadoor", sum := "d36bdcefbf4bd4976ed7643feaf0ca778f07339a41ffec3e998388475e064ca7", func := "backflush/backflushlaw40.QualityReads", spec := "qualityReads", unfollowed := true, recurses := true, named := ["backflush/stock.head"], apart := false, laid := [("backflush/stock.head", laid_backflush_stock_head)], narrowed := true }
def QualityReadsUptoSaid : Prop := qualityReadsUptoRow.holds Tryd.pinned (OpenSpec.upto qualityReadsSpec)

end Rows
end Go.Proofs.YtoliiomecffacaaDoor
