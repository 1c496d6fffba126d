/-
  No cell of these rows narrows 'for every input' (looked for: loops, veiled, ifaces, maps, wideKeys, modest, calm, conditions, laid).
  DERIVED. THE GIVEN ROWS OF THIS SEAT. 7 by the template 'for every input the law returns true; each argument reads behind the call as it read before'; 0 by the template 'total and deterministic' (their statements: YtbifaidepiejeaaTotals.lean).
  GIVEN WITH THE SEED: the statements are not yours to turn. If you find one false, say at which input.
  Laid BY PROGRAM, IN A SANDBOX (cutbox-rows.mjs): the forced cells as the released guide's own fill.sh prints them over the translation c31924014e0418e6… (all of the seat's roots in one cut). By AI agents, Wed Nov 11 2026. No macro, syntax, notation, axiom, sorry.
-/
import Derived.Test.YtbifaidepiejeaaChecked
import GoSem.Claim
import GoSem.ClaimJoined
import GoSem.ClaimMapViews
import Derived.JoinedTies
import Derived.KernelRfl
namespace Go.Proofs.Ytbifaidepiejeaa
/- THE CELL 'sum', in the pinned program and in every row, IS THE sha256 OF THE DUMP (.gsa) THAT YtbifaidepiejeaaProg.lean LOADS. Nothing in Lean hashes anything: it is a label: what it is worth is what the hold of that sum in a sandbox is worth. -/
noncomputable def Try.pinned : Pinned := { name := "ytbifaidepiejeaa", sum := "c31924014e0418e67db595f56287d6fb2e44acc5e31ffec214de7a337f79bfe3", checked := Try.checked }
namespace Rows
def none {H : Type} : Left H := { results := [], args := [] }

/-- 'backflushlaw29.ClassesTableSpec': WHATEVER THE INPUT: true; the input reads as it did. -/
def classesTableSpecSpec : ChangeSpec := { name := "classesTableSpec", fn := fun _ => fun
  | [d1, d2, d3, d4] => { results := [.lit (.bool true)], args := [d1, d2, d3, d4] }
  | _ => none }
def classesTableSpecRow : OpenClaim := { program := "ytbifaidepiejeaa", sum := "c31924014e0418e67db595f56287d6fb2e44acc5e31ffec214de7a337f79bfe3", func := "backflush/backflushlaw29.ClassesTableSpec", spec := "classesTableSpec", unfollowed := true, recurses := true, plainKeys := false, apart := false }
def ClassesTableSpecSaid : Prop := classesTableSpecRow.holds Try.pinned (OpenSpec.ofChange classesTableSpecSpec)

/-- ITS FALSE NEIGHBOUR: 'it returns false'. Refute it at one input. -/
def classesTableSpecWrong : ChangeSpec := { name := "classesTableSpec", fn := fun _ => fun
  | [d1, d2, d3, d4] => { results := [.lit (.bool false)], args := [d1, d2, d3, d4] }
  | _ => none }
def ClassesTableSpecWrongFalsely : Prop := classesTableSpecRow.holds Try.pinned (OpenSpec.ofChange classesTableSpecWrong)

/-- 'backflushlaw29.ClassesMergeSpec': WHATEVER THE INPUT: true; the input reads as it did. -/
def classesMergeSpecSpec : ChangeSpec := { name := "classesMergeSpec", fn := fun _ => fun
  | [d1, d2] => { results := [.lit (.bool true)], args := [d1, d2] }
  | _ => none }
def classesMergeSpecRow : OpenClaim := { program := "ytbifaidepiejeaa", sum := "c31924014e0418e67db595f56287d6fb2e44acc5e31ffec214de7a337f79bfe3", func := "backflush/backflushlaw29.ClassesMergeSpec", spec := "classesMergeSpec", unfollowed := true, recurses := true, plainKeys := false, apart := false }
def ClassesMergeSpecSaid : Prop := classesMergeSpecRow.holds Try.pinned (OpenSpec.ofChange classesMergeSpecSpec)

/-- ITS FALSE NEIGHBOUR: 'it returns false'. Refute it at one input. -/
def classesMergeSpecWrong : ChangeSpec := { name := "classesMergeSpec", fn := fun _ => fun
  | [d1, d2] => { results := [.lit (.bool false)], args := [d1, d2] }
  | _ => none }
def ClassesMergeSpecWrongFalsely : Prop := classesMergeSpecRow.holds Try.pinned (OpenSpec.ofChange classesMergeSpecWrong)

/-- 'backflushlaw29.ClassesTable': WHATEVER THE INPUT: true; the input reads as it did. -/
def classesTableSpec : ChangeSpec := { name := "classesTable", fn := fun _ => fun
  | [d1, d2, d3, d4] => { results := [.lit (.bool true)], args := [d1, d2, d3, d4] }
  | _ => none }
def classesTableRow : OpenClaim := { program := "ytbifaidepiejeaa", sum := "c31924014e0418e67db595f56287d6fb2e44acc5e31ffec214de7a337f79bfe3", func := "backflush/backflushlaw29.ClassesTable", spec := "classesTable", unfollowed := true, recurses := true, plainKeys := false, apart := false }
def ClassesTableSaid : Prop := classesTableRow.holds Try.pinned (OpenSpec.ofChange classesTableSpec)

/-- ITS FALSE NEIGHBOUR: 'it returns false'. Refute it at one input. -/
def classesTableWrong : ChangeSpec := { name := "classesTable", fn := fun _ => fun
  | [d1, d2, d3, d4] => { results := [.lit (.bool false)], args := [d1, d2, d3, d4] }
  | _ => none }
def ClassesTableWrongFalsely : Prop := classesTableRow.holds Try.pinned (OpenSpec.ofChange classesTableWrong)

/-- 'backflushlaw29.ClassesMore': WHATEVER THE INPUT: true; the input reads as it did. -/
def classesMoreSpec : ChangeSpec := { name := "classesMore", fn := fun _ => fun
  | [d1, d2, d3, d4, d5, d6, d7] => { results := [.lit (.bool true)], args := [d1, d2, d3, d4, d5, d6, d7] }
  | _ => none }
def classesMoreRow : OpenClaim := { program := "ytbifaidepiejeaa", sum := "c31924014e0418e67db595f56287d6fb2e44acc5e31ffec214de7a337f79bfe3", func := "backflush/backflushlaw29.ClassesMore", spec := "classesMore", unfollowed := true, recurses := true, plainKeys := false, apart := false }
def ClassesMoreSaid : Prop := classesMoreRow.holds Try.pinned (OpenSpec.ofChange classesMoreSpec)

/-- ITS FALSE NEIGHBOUR: 'it returns false'. Refute it at one input. -/
def classesMoreWrong : ChangeSpec := { name := "classesMore", fn := fun _ => fun
  | [d1, d2, d3, d4, d5, d6, d7] => { results := [.lit (.bool false)], args := [d1, d2, d3, d4, d5, d6, d7] }
  | _ => none }
def ClassesMoreWrongFalsely : Prop := classesMoreRow.holds Try.pinned (OpenSpec.ofChange classesMoreWrong)

/-- 'backflushlaw29.ClassesClasses': WHATEVER THE INPUT: true; the input reads as it did. -/
def classesClassesSpec : ChangeSpec := { name := "classesClasses", fn := fun _ => fun
  | [d1, d2] => { results := [.lit (.bool true)], args := [d1, d2] }
  | _ => none }
def classesClassesRow : OpenClaim := { program := "ytbifaidepiejeaa", sum := "c31924014e0418e67db595f56287d6fb2e44acc5e31ffec214de7a337f79bfe3", func := "backflush/backflushlaw29.ClassesClasses", spec := "classesClasses", unfollowed := true, recurses := true, plainKeys := false, apart := false }
def ClassesClassesSaid : Prop := classesClassesRow.holds Try.pinned (OpenSpec.ofChange classesClassesSpec)

/-- ITS FALSE NEIGHBOUR: 'it returns false'. Refute it at one input. -/
def classesClassesWrong : ChangeSpec := { name := "classesClasses", fn := fun _ => fun
  | [d1, d2] => { results := [.lit (.bool false)], args := [d1, d2] }
  | _ => none }
def ClassesClassesWrongFalsely : Prop := classesClassesRow.holds Try.pinned (OpenSpec.ofChange classesClassesWrong)

/-- 'backflushlaw29.ClassesPieces': WHATEVER THE INPUT: true; the input reads as it did. -/
def classesPiecesSpec : ChangeSpec := { name := "classesPieces", fn := fun _ => fun
  | [d1, d2, d3] => { results := [.lit (.bool true)], args := [d1, d2, d3] }
  | _ => none }
def classesPiecesRow : OpenClaim := { program := "ytbifaidepiejeaa", sum := "c31924014e0418e67db595f56287d6fb2e44acc5e31ffec214de7a337f79bfe3", func := "backflush/backflushlaw29.ClassesPieces", spec := "classesPieces", unfollowed := true, recurses := true, plainKeys := false, apart := false }
def ClassesPiecesSaid : Prop := classesPiecesRow.holds Try.pinned (OpenSpec.ofChange classesPiecesSpec)

/-- ITS FALSE NEIGHBOUR: 'it returns false'. Refute it at one input. -/
def classesPiecesWrong : ChangeSpec := { name := "classesPieces", fn := fun _ => fun
  | [d1, d2, d3] => { results := [.lit (.bool false)], args := [d1, d2, d3] }
  | _ => none }
def ClassesPiecesWrongFalsely : Prop := classesPiecesRow.holds Try.pinned (OpenSpec.ofChange classesPiecesWrong)

/-- 'backflushlaw29.ClassesReads': WHATEVER THE INPUT: true; the input reads as it did. -/
def classesReadsSpec : ChangeSpec := { name := "classesReads", fn := fun _ => fun
  | [d1, d2, d3, d4, d5] => { results := [.lit (.bool true)], args := [d1, d2, d3, d4, d5] }
  | _ => none }
def classesReadsRow : OpenClaim := { program := "ytbifaidepiejeaa", sum := "c31924014e0418e67db595f56287d6fb2e44acc5e31ffec214de7a337f79bfe3", func := "backflush/backflushlaw29.ClassesReads", spec := "classesReads", unfollowed := true, recurses := true, plainKeys := false, apart := false }
def ClassesReadsSaid : Prop := classesReadsRow.holds Try.pinned (OpenSpec.ofChange classesReadsSpec)

/-- ITS FALSE NEIGHBOUR: 'it returns false'. Refute it at one input. -/
def classesReadsWrong : ChangeSpec := { name := "classesReads", fn := fun _ => fun
  | [d1, d2, d3, d4, d5] => { results := [.lit (.bool false)], args := [d1, d2, d3, d4, d5] }
  | _ => none }
def ClassesReadsWrongFalsely : Prop := classesReadsRow.holds Try.pinned (OpenSpec.ofChange classesReadsWrong)

/- THE SECOND FORM. 'bulk': how many values and letters a reading holds, each counted each time it is reached (what is shared counts as often as it is met; a slice's spare places count too). A statement '..UptoSaid' is the law's where the arguments, and the package variables that the reading takes, are together of bulk at most 1048576: NARROWER than '..Said'. Prove '..Said' where nothing that the law and all that it calls make is longer than what came in: it says more and counts as full. Else prove '..UptoSaid'. A law counts once. -/
mutual
def uptoBulk {H : Type} : DataW H → Nat
  | .lit (.string bytes) => bytes.length + 1
  | .lit _ => 1
  | .nil => 1
  | .ptr d => uptoBulk d + 1
  | .slice elems spare => uptoBulkAll elems + uptoBulkAll spare + 1
  | .agg parts => uptoBulkAll parts + 1
  | .iface _ d => uptoBulk d + 1
  | .map entries => uptoBulkEntries entries + 1
  | .held _ => 1
def uptoBulkAll {H : Type} : List (DataW H) → Nat
  | [] => 0
  | d :: r => uptoBulk d + uptoBulkAll r
def uptoBulkEntries {H : Type} : List (Lit × DataW H) → Nat
  | [] => 0
  | x :: r => uptoBulkEntry x + uptoBulkEntries r
def uptoBulkEntry {H : Type} : Lit × DataW H → Nat
  | (.string bytes, d) => bytes.length + uptoBulk d + 1
  | (_, d) => uptoBulk d + 1
 end
def uptoSmall : (H : Type) → List (DataW H) → Bool := fun _ ds => decide (uptoBulkAll ds ≤ 1048576)
def OpenSpec.upto (s : _root_.Go.ChangeSpec) : _root_.Go.OpenSpec := { _root_.Go.OpenSpec.ofChange s with cond := some uptoSmall }

/-- 'backflushlaw29.ClassesTableSpec', WHERE WHAT IT READS IS OF BULK AT MOST 1048576: true; the input reads as it did. -/
def classesTableSpecUptoRow : OpenClaim := { program := "ytbifaidepiejeaa", sum := "c31924014e0418e67db595f56287d6fb2e44acc5e31ffec214de7a337f79bfe3", func := "backflush/backflushlaw29.ClassesTableSpec", spec := "classesTableSpec", unfollowed := true, recurses := true, plainKeys := false, apart := false, narrowed := true }
def ClassesTableSpecUptoSaid : Prop := classesTableSpecUptoRow.holds Try.pinned (OpenSpec.upto classesTableSpecSpec)

/-- 'backflushlaw29.ClassesMergeSpec', WHERE WHAT IT READS IS OF BULK AT MOST 1048576: true; the input reads as it did. -/
def classesMergeSpecUptoRow : OpenClaim := { program := "ytbifaidepiejeaa", sum := "c31924014e0418e67db595f56287d6fb2e44acc5e31ffec214de7a337f79bfe3", func := "backflush/backflushlaw29.ClassesMergeSpec", spec := "classesMergeSpec", unfollowed := true, recurses := true, plainKeys := false, apart := false, narrowed := true }
def ClassesMergeSpecUptoSaid : Prop := classesMergeSpecUptoRow.holds Try.pinned (OpenSpec.upto classesMergeSpecSpec)

/-- 'backflushlaw29.ClassesTable', WHERE WHAT IT READS IS OF BULK AT MOST 1048576: true; the input reads as it did. -/
def classesTableUptoRow : OpenClaim := { program := "ytbifaidepiejeaa", sum := "c31924014e0418e67db595f56287d6fb2e44acc5e31ffec214de7a337f79bfe3", func := "backflush/backflushlaw29.ClassesTable", spec := "classesTable", unfollowed := true, recurses := true, plainKeys := false, apart := false, narrowed := true }
def ClassesTableUptoSaid : Prop := classesTableUptoRow.holds Try.pinned (OpenSpec.upto classesTableSpec)

/-- 'backflushlaw29.ClassesMore', WHERE WHAT IT READS IS OF BULK AT MOST 1048576: true; the input reads as it did. -/
def classesMoreUptoRow : OpenClaim := { program := "ytbifaidepiejeaa", sum := "c31924014e0418e67db595f56287d6fb2e44acc5e31ffec214de7a337f79bfe3", func := "backflush/backflushlaw29.ClassesMore", spec := "classesMore", unfollowed := true, recurses := true, plainKeys := false, apart := false, narrowed := true }
def ClassesMoreUptoSaid : Prop := classesMoreUptoRow.holds Try.pinned (OpenSpec.upto classesMoreSpec)

/-- 'backflushlaw29.ClassesClasses', WHERE WHAT IT READS IS OF BULK AT MOST 1048576: true; the input reads as it did. -/
def classesClassesUptoRow : OpenClaim := { program := "ytbifaidepiejeaa", sum := "c31924014e0418e67db595f56287d6fb2e44acc5e31ffec214de7a337f79bfe3", func := "backflush/backflushlaw29.ClassesClasses", spec := "classesClasses", unfollowed := true, recurses := true, plainKeys := false, apart := false, narrowed := true }
def ClassesClassesUptoSaid : Prop := classesClassesUptoRow.holds Try.pinned (OpenSpec.upto classesClassesSpec)

/-- 'backflushlaw29.ClassesPieces', WHERE WHAT IT READS IS OF BULK AT MOST 1048576: true; the input reads as it did. -/
def classesPiecesUptoRow : OpenClaim := { program := "ytbifaidepiejeaa", sum := "c31924014e0418e67db595f56287d6fb2e44acc5e31ffec214de7a337f79bfe3", func := "backflush/backflushlaw29.ClassesPieces", spec := "classesPieces", unfollowed := true, recurses := true, plainKeys := false, apart := false, narrowed := true }
def ClassesPiecesUptoSaid : Prop := classesPiecesUptoRow.holds Try.pinned (OpenSpec.upto classesPiecesSpec)

/-- 'backflushlaw29.ClassesReads', WHERE WHAT IT READS IS OF BULK AT MOST 1048576: true; the input reads as it did. -/
def classesReadsUptoRow : OpenClaim := { program := "ytbifaidepiejeaa", sum := "c31924014e0418e67db595f56287d6fb2e44acc5e31ffec214de7a337f79bfe3", func := "backflush/backflushlaw29.ClassesReads", spec := "classesReads", unfollowed := true, recurses := true, plainKeys := false, apart := false, narrowed := true }
def ClassesReadsUptoSaid : Prop := classesReadsUptoRow.holds Try.pinned (OpenSpec.upto classesReadsSpec)

end Rows
end Go.Proofs.Ytbifaidepiejeaa
