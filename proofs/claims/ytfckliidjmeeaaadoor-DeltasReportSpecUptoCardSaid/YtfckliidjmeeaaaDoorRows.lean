/-
  NARROWER THAN 'FOR EVERY INPUT', by the rows' own cells (each row's printed sentence says how): DeltasReportSpec: laid · DeltasSpec: laid · DeltasExact: laid · DeltasJoined: laid · DeltasThree: laid · DeltasAll: laid.
  DERIVED. THE GIVEN ROWS OF THIS SEAT. 6 by the template 'for every input the law returns true; each argument reads behind the call as it read before'; 0 by the template 'total and deterministic' (their statements: YtfckliidjmeeaaaDoorTotals.lean).
  GIVEN WITH THE SEED: the statements are not yours to turn. If you find one false, say at which input.
  Laid BY PROGRAM, IN A SANDBOX (cutbox-rows.mjs): the forced cells as the released guide's own fill.sh prints them over the translation 8d0ac2cb0be39010… (all of the seat's roots in one cut). By AI agents, Wed Nov 11 2026. No macro, syntax, notation, axiom, sorry.
-/
import Derived.Test.YtfckliidjmeeaaaDoorChecked
import GoSem.Claim
import GoSem.ClaimJoined
import GoSem.ClaimMapViews
import Derived.JoinedTies
import Derived.KernelRfl
namespace Go.Proofs.YtfckliidjmeeaaaDoor
/- THE CELL 'sum', in the pinned program and in every row, IS THE sha256 OF THE DUMP (.gsa) THAT YtfckliidjmeeaaaDoorProg.lean LOADS. Nothing in Lean hashes anything: it is a label: what it is worth is what the hold of that sum in a sandbox is worth. -/
noncomputable def Tryd.pinned : Pinned := { name := "ytfckliidjmeeaaadoor", sum := "8d0ac2cb0be39010f76db09abb45218bbfe3ef3250f19e45a76e7a3eb4489561", checked := Tryd.checked }
namespace Rows
def none {H : Type} : Left H := { results := [], args := [] }

/- WHAT THE LISTED PACKAGE-LEVEL VARIABLES READ AS WHEN THE CALL BEGINS. Each datum BY PROGRAM (the guide's laid-datum.mjs) off the statement by which the dump's own 'gosem.cut.vars' lays the variable. In a bare row this is a premise. The card (YtfckliidjmeeaaaDoorCards.lean) ties it to the program's text. -/
def laid_math_bits_deBruijn32tab {H : Type} : DataW H := .agg [.lit (.int .u8 0), .lit (.int .u8 1), .lit (.int .u8 28), .lit (.int .u8 2), .lit (.int .u8 29), .lit (.int .u8 14), .lit (.int .u8 24), .lit (.int .u8 3), .lit (.int .u8 30), .lit (.int .u8 22), .lit (.int .u8 20), .lit (.int .u8 15), .lit (.int .u8 25), .lit (.int .u8 17), .lit (.int .u8 4), .lit (.int .u8 8), .lit (.int .u8 31), .lit (.int .u8 27), .lit (.int .u8 13), .lit (.int .u8 23), .lit (.int .u8 21), .lit (.int .u8 19), .lit (.int .u8 16), .lit (.int .u8 7), .lit (.int .u8 26), .lit (.int .u8 12), .lit (.int .u8 18), .lit (.int .u8 6), .lit (.int .u8 11), .lit (.int .u8 5), .lit (.int .u8 10), .lit (.int .u8 9)]
def laid_math_bits_deBruijn64tab {H : Type} : DataW H := .agg [.lit (.int .u8 0), .lit (.int .u8 1), .lit (.int .u8 56), .lit (.int .u8 2), .lit (.int .u8 57), .lit (.int .u8 49), .lit (.int .u8 28), .lit (.int .u8 3), .lit (.int .u8 61), .lit (.int .u8 58), .lit (.int .u8 42), .lit (.int .u8 50), .lit (.int .u8 38), .lit (.int .u8 29), .lit (.int .u8 17), .lit (.int .u8 4), .lit (.int .u8 62), .lit (.int .u8 47), .lit (.int .u8 59), .lit (.int .u8 36), .lit (.int .u8 45), .lit (.int .u8 43), .lit (.int .u8 51), .lit (.int .u8 22), .lit (.int .u8 53), .lit (.int .u8 39), .lit (.int .u8 33), .lit (.int .u8 30), .lit (.int .u8 24), .lit (.int .u8 18), .lit (.int .u8 12), .lit (.int .u8 5), .lit (.int .u8 63), .lit (.int .u8 55), .lit (.int .u8 48), .lit (.int .u8 27), .lit (.int .u8 60), .lit (.int .u8 41), .lit (.int .u8 37), .lit (.int .u8 16), .lit (.int .u8 46), .lit (.int .u8 35), .lit (.int .u8 44), .lit (.int .u8 21), .lit (.int .u8 52), .lit (.int .u8 32), .lit (.int .u8 23), .lit (.int .u8 11), .lit (.int .u8 54), .lit (.int .u8 26), .lit (.int .u8 40), .lit (.int .u8 15), .lit (.int .u8 34), .lit (.int .u8 20), .lit (.int .u8 31), .lit (.int .u8 10), .lit (.int .u8 25), .lit (.int .u8 14), .lit (.int .u8 19), .lit (.int .u8 9), .lit (.int .u8 13), .lit (.int .u8 8), .lit (.int .u8 7), .lit (.int .u8 6)]
def laid_internal_strconv_uint64pow10 {H : Type} : DataW H := .agg [.lit (.int .u64 1), .lit (.int .u64 10), .lit (.int .u64 100), .lit (.int .u64 1000), .lit (.int .u64 10000), .lit (.int .u64 100000), .lit (.int .u64 1000000), .lit (.int .u64 10000000), .lit (.int .u64 100000000), .lit (.int .u64 1000000000), .lit (.int .u64 10000000000), .lit (.int .u64 100000000000), .lit (.int .u64 1000000000000), .lit (.int .u64 10000000000000), .lit (.int .u64 100000000000000), .lit (.int .u64 1000000000000000), .lit (.int .u64 10000000000000000), .lit (.int .u64 100000000000000000), .lit (.int .u64 1000000000000000000), .lit (.int .u64 10000000000000000000)]

/-- 'backflushlaw42.DeltasReportSpec': WHATEVER THE INPUT: true; the input reads as it did. -/
def deltasReportSpecSpec : ChangeSpec := { name := "deltasReportSpec", fn := fun _ => fun
  | [d1, d2, d3, d4] => { results := [.lit (.bool true)], args := [d1, d2, d3, d4] }
  | _ => none }
def deltasReportSpecRow : OpenClaim := { program := "ytfckliidjmeeaaadoor", sum := "8d0ac2cb0be39010f76db09abb45218bbfe3ef3250f19e45a76e7a3eb4489561", func := "backflush/backflushlaw42.DeltasReportSpec", spec := "deltasReportSpec", unfollowed := true, recurses := true, named := ["internal/strconv.uint64pow10", "math/bits.deBruijn32tab", "math/bits.deBruijn64tab"], plainKeys := false, apart := false, laid := [("math/bits.deBruijn32tab", laid_math_bits_deBruijn32tab), ("math/bits.deBruijn64tab", laid_math_bits_deBruijn64tab), ("internal/strconv.uint64pow10", laid_internal_strconv_uint64pow10)] }
def DeltasReportSpecSaid : Prop := deltasReportSpecRow.holds Tryd.pinned (OpenSpec.ofChange deltasReportSpecSpec)

/-- ITS FALSE NEIGHBOUR: 'it returns false'. Refute it at one input. -/
def deltasReportSpecWrong : ChangeSpec := { name := "deltasReportSpec", fn := fun _ => fun
  | [d1, d2, d3, d4] => { results := [.lit (.bool false)], args := [d1, d2, d3, d4] }
  | _ => none }
def DeltasReportSpecWrongFalsely : Prop := deltasReportSpecRow.holds Tryd.pinned (OpenSpec.ofChange deltasReportSpecWrong)

/-- 'backflushlaw42.DeltasSpec': WHATEVER THE INPUT: true; the input reads as it did. -/
def deltasSpecSpec : ChangeSpec := { name := "deltasSpec", fn := fun _ => fun
  | [d1, d2, d3, d4, d5] => { results := [.lit (.bool true)], args := [d1, d2, d3, d4, d5] }
  | _ => none }
def deltasSpecRow : OpenClaim := { program := "ytfckliidjmeeaaadoor", sum := "8d0ac2cb0be39010f76db09abb45218bbfe3ef3250f19e45a76e7a3eb4489561", func := "backflush/backflushlaw42.DeltasSpec", spec := "deltasSpec", unfollowed := true, recurses := true, named := ["internal/strconv.uint64pow10", "math/bits.deBruijn32tab", "math/bits.deBruijn64tab"], plainKeys := false, apart := false, laid := [("math/bits.deBruijn32tab", laid_math_bits_deBruijn32tab), ("math/bits.deBruijn64tab", laid_math_bits_deBruijn64tab), ("internal/strconv.uint64pow10", laid_internal_strconv_uint64pow10)] }
def DeltasSpecSaid : Prop := deltasSpecRow.holds Tryd.pinned (OpenSpec.ofChange deltasSpecSpec)

/-- ITS FALSE NEIGHBOUR: 'it returns false'. Refute it at one input. -/
def deltasSpecWrong : ChangeSpec := { name := "deltasSpec", fn := fun _ => fun
  | [d1, d2, d3, d4, d5] => { results := [.lit (.bool false)], args := [d1, d2, d3, d4, d5] }
  | _ => none }
def DeltasSpecWrongFalsely : Prop := deltasSpecRow.holds Tryd.pinned (OpenSpec.ofChange deltasSpecWrong)

/-- 'backflushlaw42.DeltasExact': WHATEVER THE INPUT: true; the input reads as it did. -/
def deltasExactSpec : ChangeSpec := { name := "deltasExact", fn := fun _ => fun
  | [d1, d2, d3] => { results := [.lit (.bool true)], args := [d1, d2, d3] }
  | _ => none }
def deltasExactRow : OpenClaim := { program := "ytfckliidjmeeaaadoor", sum := "8d0ac2cb0be39010f76db09abb45218bbfe3ef3250f19e45a76e7a3eb4489561", func := "backflush/backflushlaw42.DeltasExact", spec := "deltasExact", unfollowed := true, recurses := true, named := ["internal/strconv.uint64pow10", "math/bits.deBruijn32tab", "math/bits.deBruijn64tab"], plainKeys := false, apart := false, laid := [("math/bits.deBruijn32tab", laid_math_bits_deBruijn32tab), ("math/bits.deBruijn64tab", laid_math_bits_deBruijn64tab), ("internal/strconv.uint64pow10", laid_internal_strconv_uint64pow10)] }
def DeltasExactSaid : Prop := deltasExactRow.holds Tryd.pinned (OpenSpec.ofChange deltasExactSpec)

/-- ITS FALSE NEIGHBOUR: 'it returns false'. Refute it at one input. -/
def deltasExactWrong : ChangeSpec := { name := "deltasExact", fn := fun _ => fun
  | [d1, d2, d3] => { results := [.lit (.bool false)], args := [d1, d2, d3] }
  | _ => none }
def DeltasExactWrongFalsely : Prop := deltasExactRow.holds Tryd.pinned (OpenSpec.ofChange deltasExactWrong)

/-- 'backflushlaw42.DeltasJoined': WHATEVER THE INPUT: true; the input reads as it did. -/
def deltasJoinedSpec : ChangeSpec := { name := "deltasJoined", fn := fun _ => fun
  | [d1, d2, d3] => { results := [.lit (.bool true)], args := [d1, d2, d3] }
  | _ => none }
def deltasJoinedRow : OpenClaim := { program := "ytfckliidjmeeaaadoor", sum := "8d0ac2cb0be39010f76db09abb45218bbfe3ef3250f19e45a76e7a3eb4489561", func := "backflush/backflushlaw42.DeltasJoined", spec := "deltasJoined", unfollowed := true, recurses := true, named := ["internal/strconv.uint64pow10", "math/bits.deBruijn32tab", "math/bits.deBruijn64tab"], plainKeys := false, apart := false, laid := [("math/bits.deBruijn32tab", laid_math_bits_deBruijn32tab), ("math/bits.deBruijn64tab", laid_math_bits_deBruijn64tab), ("internal/strconv.uint64pow10", laid_internal_strconv_uint64pow10)] }
def DeltasJoinedSaid : Prop := deltasJoinedRow.holds Tryd.pinned (OpenSpec.ofChange deltasJoinedSpec)

/-- ITS FALSE NEIGHBOUR: 'it returns false'. Refute it at one input. -/
def deltasJoinedWrong : ChangeSpec := { name := "deltasJoined", fn := fun _ => fun
  | [d1, d2, d3] => { results := [.lit (.bool false)], args := [d1, d2, d3] }
  | _ => none }
def DeltasJoinedWrongFalsely : Prop := deltasJoinedRow.holds Tryd.pinned (OpenSpec.ofChange deltasJoinedWrong)

/-- 'backflushlaw42.DeltasThree': WHATEVER THE INPUT: true; the input reads as it did. -/
def deltasThreeSpec : ChangeSpec := { name := "deltasThree", fn := fun _ => fun
  | [d1, d2, d3] => { results := [.lit (.bool true)], args := [d1, d2, d3] }
  | _ => none }
def deltasThreeRow : OpenClaim := { program := "ytfckliidjmeeaaadoor", sum := "8d0ac2cb0be39010f76db09abb45218bbfe3ef3250f19e45a76e7a3eb4489561", func := "backflush/backflushlaw42.DeltasThree", spec := "deltasThree", unfollowed := true, recurses := true, named := ["internal/strconv.uint64pow10", "math/bits.deBruijn32tab", "math/bits.deBruijn64tab"], plainKeys := false, apart := false, laid := [("math/bits.deBruijn32tab", laid_math_bits_deBruijn32tab), ("math/bits.deBruijn64tab", laid_math_bits_deBruijn64tab), ("internal/strconv.uint64pow10", laid_internal_strconv_uint64pow10)] }
def DeltasThreeSaid : Prop := deltasThreeRow.holds Tryd.pinned (OpenSpec.ofChange deltasThreeSpec)

/-- ITS FALSE NEIGHBOUR: 'it returns false'. Refute it at one input. -/
def deltasThreeWrong : ChangeSpec := { name := "deltasThree", fn := fun _ => fun
  | [d1, d2, d3] => { results := [.lit (.bool false)], args := [d1, d2, d3] }
  | _ => none }
def DeltasThreeWrongFalsely : Prop := deltasThreeRow.holds Tryd.pinned (OpenSpec.ofChange deltasThreeWrong)

/-- 'backflushlaw42.DeltasAll': WHATEVER THE INPUT: true; the input reads as it did. -/
def deltasAllSpec : ChangeSpec := { name := "deltasAll", fn := fun _ => fun
  | [d1, d2, d3, d4, d5, d6, d7, d8] => { results := [.lit (.bool true)], args := [d1, d2, d3, d4, d5, d6, d7, d8] }
  | _ => none }
def deltasAllRow : OpenClaim := { program := "ytfckliidjmeeaaadoor", sum := "8d0ac2cb0be39010f76db09abb45218bbfe3ef3250f19e45a76e7a3eb4489561", func := "backflush/backflushlaw42.DeltasAll", spec := "deltasAll", unfollowed := true, recurses := true, named := ["internal/strconv.uint64pow10", "math/bits.deBruijn32tab", "math/bits.deBruijn64tab"], plainKeys := false, apart := false, laid := [("math/bits.deBruijn32tab", laid_math_bits_deBruijn32tab), ("math/bits.deBruijn64tab", laid_math_bits_deBruijn64tab), ("internal/strconv.uint64pow10", laid_internal_strconv_uint64pow10)] }
def DeltasAllSaid : Prop := deltasAllRow.holds Tryd.pinned (OpenSpec.ofChange deltasAllSpec)

/-- ITS FALSE NEIGHBOUR: 'it returns false'. Refute it at one input. -/
def deltasAllWrong : ChangeSpec := { name := "deltasAll", fn := fun _ => fun
  | [d1, d2, d3, d4, d5, d6, d7, d8] => { results := [.lit (.bool false)], args := [d1, d2, d3, d4, d5, d6, d7, d8] }
  | _ => none }
def DeltasAllWrongFalsely : Prop := deltasAllRow.holds Tryd.pinned (OpenSpec.ofChange deltasAllWrong)

/- THE SECOND FORM. 'bulk': how many values and letters a reading holds, each counted each time it is reached (what is shared counts as often as it is met; a slice's spare places count too). A statement '..UptoSaid' is the law's where the arguments, and the package variables that the reading takes, are together of bulk at most 1048576: NARROWER than '..Said'. Prove '..Said' where nothing that the law and all that it calls make is longer than what came in: it says more and counts as full. Else prove '..UptoSaid'. A law counts once. -/
mutual
def uptoBulk {H : Type} : DataW H → Nat
  | .lit (.string bytes) => bytes.length + 1
  | .lit _ => 1
  | .nil => 1
  | .ptr d => uptoBulk d + 1
  | .slice elems spare => uptoBulkAll elems + uptoBulkAll spare + 1
  | .agg parts => uptoBulkAll parts + 1
  | .iface _ d => uptoBulk d + 1
  | .map entries => uptoBulkEntries entries + 1
  | .held _ => 1
def uptoBulkAll {H : Type} : List (DataW H) → Nat
  | [] => 0
  | d :: r => uptoBulk d + uptoBulkAll r
def uptoBulkEntries {H : Type} : List (Lit × DataW H) → Nat
  | [] => 0
  | x :: r => uptoBulkEntry x + uptoBulkEntries r
def uptoBulkEntry {H : Type} : Lit × DataW H → Nat
  | (.string bytes, d) => bytes.length + uptoBulk d + 1
  | (_, d) => uptoBulk d + 1
 end
def uptoSmall : (H : Type) → List (DataW H) → Bool := fun _ ds => decide (uptoBulkAll ds ≤ 1048576)
def OpenSpec.upto (s : _root_.Go.ChangeSpec) : _root_.Go.OpenSpec := { _root_.Go.OpenSpec.ofChange s with cond := some uptoSmall }

/-- 'backflushlaw42.DeltasReportSpec', WHERE WHAT IT READS IS OF BULK AT MOST 1048576: true; the input reads as it did. -/
def deltasReportSpecUptoRow : OpenClaim := { program := "ytfckliidjmeeaaadoor", sum := "8d0ac2cb0be39010f76db09abb45218bbfe3ef3250f19e45a76e7a3eb4489561", func := "backflush/backflushlaw42.DeltasReportSpec", spec := "deltasReportSpec", unfollowed := true, recurses := true, named := ["internal/strconv.uint64pow10", "math/bits.deBruijn32tab", "math/bits.deBruijn64tab"], plainKeys := false, apart := false, laid := [("math/bits.deBruijn32tab", laid_math_bits_deBruijn32tab), ("math/bits.deBruijn64tab", laid_math_bits_deBruijn64tab), ("internal/strconv.uint64pow10", laid_internal_strconv_uint64pow10)], narrowed := true }
def DeltasReportSpecUptoSaid : Prop := deltasReportSpecUptoRow.holds Tryd.pinned (OpenSpec.upto deltasReportSpecSpec)

/-- 'backflushlaw42.DeltasSpec', WHERE WHAT IT READS IS OF BULK AT MOST 1048576: true; the input reads as it did. -/
def deltasSpecUptoRow : OpenClaim := { program := "ytfckliidjmeeaaadoor", sum := "8d0ac2cb0be39010f76db09abb45218bbfe3ef3250f19e45a76e7a3eb4489561", func := "backflush/backflushlaw42.DeltasSpec", spec := "deltasSpec", unfollowed := true, recurses := true, named := ["internal/strconv.uint64pow10", "math/bits.deBruijn32tab", "math/bits.deBruijn64tab"], plainKeys := false, apart := false, laid := [("math/bits.deBruijn32tab", laid_math_bits_deBruijn32tab), ("math/bits.deBruijn64tab", laid_math_bits_deBruijn64tab), ("internal/strconv.uint64pow10", laid_internal_strconv_uint64pow10)], narrowed := true }
def DeltasSpecUptoSaid : Prop := deltasSpecUptoRow.holds Tryd.pinned (OpenSpec.upto deltasSpecSpec)

/-- 'backflushlaw42.DeltasExact', WHERE WHAT IT READS IS OF BULK AT MOST 1048576: true; the input reads as it did. -/
def deltasExactUptoRow : OpenClaim := { program := "ytfckliidjmeeaaadoor", sum := "8d0ac2cb0be39010f76db09abb45218bbfe3ef3250f19e45a76e7a3eb4489561", func := "backflush/backflushlaw42.DeltasExact", spec := "deltasExact", unfollowed := true, recurses := true, named := ["internal/strconv.uint64pow10", "math/bits.deBruijn32tab", "math/bits.deBruijn64tab"], plainKeys := false, apart := false, laid := [("math/bits.deBruijn32tab", laid_math_bits_deBruijn32tab), ("math/bits.deBruijn64tab", laid_math_bits_deBruijn64tab), ("internal/strconv.uint64pow10", laid_internal_strconv_uint64pow10)], narrowed := true }
def DeltasExactUptoSaid : Prop := deltasExactUptoRow.holds Tryd.pinned (OpenSpec.upto deltasExactSpec)

/-- 'backflushlaw42.DeltasJoined', WHERE WHAT IT READS IS OF BULK AT MOST 1048576: true; the input reads as it did. -/
def deltasJoinedUptoRow : OpenClaim := { program := "ytfckliidjmeeaaadoor", sum := "8d0ac2cb0be39010f76db09abb45218bbfe3ef3250f19e45a76e7a3eb4489561", func := "backflush/backflushlaw42.DeltasJoined", spec := "deltasJoined", unfollowed := true, recurses := true, named := ["internal/strconv.uint64pow10", "math/bits.deBruijn32tab", "math/bits.deBruijn64tab"], plainKeys := false, apart := false, laid := [("math/bits.deBruijn32tab", laid_math_bits_deBruijn32tab), ("math/bits.deBruijn64tab", laid_math_bits_deBruijn64tab), ("internal/strconv.uint64pow10", laid_internal_strconv_uint64pow10)], narrowed := true }
def DeltasJoinedUptoSaid : Prop := deltasJoinedUptoRow.holds Tryd.pinned (OpenSpec.upto deltasJoinedSpec)

/-- 'backflushlaw42.DeltasThree', WHERE WHAT IT READS IS OF BULK AT MOST 1048576: true; the input reads as it did. -/
def deltasThreeUptoRow : OpenClaim := { program := "ytfckliidjmeeaaadoor", sum := "8d0ac2cb0be39010f76db09abb45218bbfe3ef3250f19e45a76e7a3eb4489561", func := "backflush/backflushlaw42.DeltasThree", spec := "deltasThree", unfollowed := true, recurses := true, named := ["internal/strconv.uint64pow10", "math/bits.deBruijn32tab", "math/bits.deBruijn64tab"], plainKeys := false, apart := false, laid := [("math/bits.deBruijn32tab", laid_math_bits_deBruijn32tab), ("math/bits.deBruijn64tab", laid_math_bits_deBruijn64tab), ("internal/strconv.uint64pow10", laid_internal_strconv_uint64pow10)], narrowed := true }
def DeltasThreeUptoSaid : Prop := deltasThreeUptoRow.holds Tryd.pinned (OpenSpec.upto deltasThreeSpec)

/-- 'backflushlaw42.DeltasAll', WHERE WHAT IT READS IS OF BULK AT MOST 1048576: true; the input reads as it did. -/
def deltasAllUptoRow : OpenClaim := { program := "ytfckliidjmeeaaadoor", sum := "8d0ac2cb0be39010f76db09abb45218bbfe3ef3250f19e45a76e7a3eb4489561", func := "backflush/backflushlaw42.DeltasAll", spec := "deltasAll", unfollowed := true, recurses := true, named := ["internal/strconv.uint64pow10", "math/bits.deBruijn32tab", "math/bits.deBruijn64tab"], plainKeys := false, apart := false, laid := [("math/bits.deBruijn32tab", laid_math_bits_deBruijn32tab), ("math/bits.deBruijn64tab", laid_math_bits_deBruijn64tab), ("internal/strconv.uint64pow10", laid_internal_strconv_uint64pow10)], narrowed := true }
def DeltasAllUptoSaid : Prop := deltasAllUptoRow.holds Tryd.pinned (OpenSpec.upto deltasAllSpec)

end Rows
end Go.Proofs.YtfckliidjmeeaaaDoor
