/-
  No cell of these rows narrows 'for every input' (looked for: loops, veiled, ifaces, maps, wideKeys, modest, calm, conditions, laid).
  DERIVED. THE GIVEN ROWS OF THIS SEAT. 6 by the template 'for every input the law returns true; each argument reads behind the call as it read before'; 0 by the template 'total and deterministic' (their statements: YtgpgfcehcenejaaTotals.lean).
  GIVEN WITH THE SEED: the statements are not yours to turn. If you find one false, say at which input.
  Laid BY PROGRAM, IN A SANDBOX (cutbox-rows.mjs): the forced cells as the released guide's own fill.sh prints them over the translation e6f902e66477c7c8… (all of the seat's roots in one cut). By AI agents, Wed Nov 11 2026. No macro, syntax, notation, axiom, sorry.
-/
import Derived.Test.YtgpgfcehcenejaaChecked
import GoSem.Claim
import GoSem.ClaimJoined
import GoSem.ClaimMapViews
import Derived.JoinedTies
import Derived.KernelRfl
namespace Go.Proofs.Ytgpgfcehcenejaa
/- THE CELL 'sum', in the pinned program and in every row, IS THE sha256 OF THE DUMP (.gsa) THAT YtgpgfcehcenejaaProg.lean LOADS. Nothing in Lean hashes anything: it is a label: what it is worth is what the hold of that sum in a sandbox is worth. -/
noncomputable def Try.pinned : Pinned := { name := "ytgpgfcehcenejaa", sum := "e6f902e66477c7c80792388d7cff2cf4475ae2f3a04b2455d51f72b2babba069", checked := Try.checked }
namespace Rows
def none {H : Type} : Left H := { results := [], args := [] }

/-- 'backflushlaw34.FloorSpec': WHATEVER THE INPUT: true; the input reads as it did. -/
def floorSpecSpec : ChangeSpec := { name := "floorSpec", fn := fun _ => fun
  | [d] => { results := [.lit (.bool true)], args := [d] }
  | _ => none }
def floorSpecRow : OpenClaim := { program := "ytgpgfcehcenejaa", sum := "e6f902e66477c7c80792388d7cff2cf4475ae2f3a04b2455d51f72b2babba069", func := "backflush/backflushlaw34.FloorSpec", spec := "floorSpec", unfollowed := true, recurses := true, apart := false }
def FloorSpecSaid : Prop := floorSpecRow.holds Try.pinned (OpenSpec.ofChange floorSpecSpec)

/-- ITS FALSE NEIGHBOUR: 'it returns false'. Refute it at one input. -/
def floorSpecWrong : ChangeSpec := { name := "floorSpec", fn := fun _ => fun
  | [d] => { results := [.lit (.bool false)], args := [d] }
  | _ => none }
def FloorSpecWrongFalsely : Prop := floorSpecRow.holds Try.pinned (OpenSpec.ofChange floorSpecWrong)

/-- 'backflushlaw34.FloorMass': WHATEVER THE INPUT: true; the input reads as it did. -/
def floorMassSpec : ChangeSpec := { name := "floorMass", fn := fun _ => fun
  | [d] => { results := [.lit (.bool true)], args := [d] }
  | _ => none }
def floorMassRow : OpenClaim := { program := "ytgpgfcehcenejaa", sum := "e6f902e66477c7c80792388d7cff2cf4475ae2f3a04b2455d51f72b2babba069", func := "backflush/backflushlaw34.FloorMass", spec := "floorMass", unfollowed := true, recurses := true, apart := false }
def FloorMassSaid : Prop := floorMassRow.holds Try.pinned (OpenSpec.ofChange floorMassSpec)

/-- ITS FALSE NEIGHBOUR: 'it returns false'. Refute it at one input. -/
def floorMassWrong : ChangeSpec := { name := "floorMass", fn := fun _ => fun
  | [d] => { results := [.lit (.bool false)], args := [d] }
  | _ => none }
def FloorMassWrongFalsely : Prop := floorMassRow.holds Try.pinned (OpenSpec.ofChange floorMassWrong)

/-- 'backflushlaw34.FloorFed': WHATEVER THE INPUT: true; the input reads as it did. -/
def floorFedSpec : ChangeSpec := { name := "floorFed", fn := fun _ => fun
  | [d1, d2, d3] => { results := [.lit (.bool true)], args := [d1, d2, d3] }
  | _ => none }
def floorFedRow : OpenClaim := { program := "ytgpgfcehcenejaa", sum := "e6f902e66477c7c80792388d7cff2cf4475ae2f3a04b2455d51f72b2babba069", func := "backflush/backflushlaw34.FloorFed", spec := "floorFed", unfollowed := true, recurses := true, apart := false }
def FloorFedSaid : Prop := floorFedRow.holds Try.pinned (OpenSpec.ofChange floorFedSpec)

/-- ITS FALSE NEIGHBOUR: 'it returns false'. Refute it at one input. -/
def floorFedWrong : ChangeSpec := { name := "floorFed", fn := fun _ => fun
  | [d1, d2, d3] => { results := [.lit (.bool false)], args := [d1, d2, d3] }
  | _ => none }
def FloorFedWrongFalsely : Prop := floorFedRow.holds Try.pinned (OpenSpec.ofChange floorFedWrong)

/-- 'backflushlaw34.FloorOrder': WHATEVER THE INPUT: true; the input reads as it did. -/
def floorOrderSpec : ChangeSpec := { name := "floorOrder", fn := fun _ => fun
  | [d1, d2, d3] => { results := [.lit (.bool true)], args := [d1, d2, d3] }
  | _ => none }
def floorOrderRow : OpenClaim := { program := "ytgpgfcehcenejaa", sum := "e6f902e66477c7c80792388d7cff2cf4475ae2f3a04b2455d51f72b2babba069", func := "backflush/backflushlaw34.FloorOrder", spec := "floorOrder", unfollowed := true, recurses := true, apart := false }
def FloorOrderSaid : Prop := floorOrderRow.holds Try.pinned (OpenSpec.ofChange floorOrderSpec)

/-- ITS FALSE NEIGHBOUR: 'it returns false'. Refute it at one input. -/
def floorOrderWrong : ChangeSpec := { name := "floorOrder", fn := fun _ => fun
  | [d1, d2, d3] => { results := [.lit (.bool false)], args := [d1, d2, d3] }
  | _ => none }
def FloorOrderWrongFalsely : Prop := floorOrderRow.holds Try.pinned (OpenSpec.ofChange floorOrderWrong)

/-- 'backflushlaw34.FloorSplit': WHATEVER THE INPUT: true; the input reads as it did. -/
def floorSplitSpec : ChangeSpec := { name := "floorSplit", fn := fun _ => fun
  | [d1, d2, d3] => { results := [.lit (.bool true)], args := [d1, d2, d3] }
  | _ => none }
def floorSplitRow : OpenClaim := { program := "ytgpgfcehcenejaa", sum := "e6f902e66477c7c80792388d7cff2cf4475ae2f3a04b2455d51f72b2babba069", func := "backflush/backflushlaw34.FloorSplit", spec := "floorSplit", unfollowed := true, recurses := true, apart := false }
def FloorSplitSaid : Prop := floorSplitRow.holds Try.pinned (OpenSpec.ofChange floorSplitSpec)

/-- ITS FALSE NEIGHBOUR: 'it returns false'. Refute it at one input. -/
def floorSplitWrong : ChangeSpec := { name := "floorSplit", fn := fun _ => fun
  | [d1, d2, d3] => { results := [.lit (.bool false)], args := [d1, d2, d3] }
  | _ => none }
def FloorSplitWrongFalsely : Prop := floorSplitRow.holds Try.pinned (OpenSpec.ofChange floorSplitWrong)

/-- 'backflushlaw34.FloorFirst': WHATEVER THE INPUT: true; the input reads as it did. -/
def floorFirstSpec : ChangeSpec := { name := "floorFirst", fn := fun _ => fun
  | [d1, d2] => { results := [.lit (.bool true)], args := [d1, d2] }
  | _ => none }
def floorFirstRow : OpenClaim := { program := "ytgpgfcehcenejaa", sum := "e6f902e66477c7c80792388d7cff2cf4475ae2f3a04b2455d51f72b2babba069", func := "backflush/backflushlaw34.FloorFirst", spec := "floorFirst", unfollowed := true, recurses := true, apart := false }
def FloorFirstSaid : Prop := floorFirstRow.holds Try.pinned (OpenSpec.ofChange floorFirstSpec)

/-- ITS FALSE NEIGHBOUR: 'it returns false'. Refute it at one input. -/
def floorFirstWrong : ChangeSpec := { name := "floorFirst", fn := fun _ => fun
  | [d1, d2] => { results := [.lit (.bool false)], args := [d1, d2] }
  | _ => none }
def FloorFirstWrongFalsely : Prop := floorFirstRow.holds Try.pinned (OpenSpec.ofChange floorFirstWrong)

/- THE SECOND FORM. 'bulk': how many values and letters a reading holds, each counted each time it is reached (what is shared counts as often as it is met; a slice's spare places count too). A statement '..UptoSaid' is the law's where the arguments, and the package variables that the reading takes, are together of bulk at most 1048576: NARROWER than '..Said'. Prove '..Said' where nothing that the law and all that it calls make is longer than what came in: it says more and counts as full. Else prove '..UptoSaid'. A law counts once. -/
mutual
def uptoBulk {H : Type} : DataW H → Nat
  | .lit (.string bytes) => bytes.length + 1
  | .lit _ => 1
  | .nil => 1
  | .ptr d => uptoBulk d + 1
  | .slice elems spare => uptoBulkAll elems + uptoBulkAll spare + 1
  | .agg parts => uptoBulkAll parts + 1
  | .iface _ d => uptoBulk d + 1
  | .map entries => uptoBulkEntries entries + 1
  | .held _ => 1
def uptoBulkAll {H : Type} : List (DataW H) → Nat
  | [] => 0
  | d :: r => uptoBulk d + uptoBulkAll r
def uptoBulkEntries {H : Type} : List (Lit × DataW H) → Nat
  | [] => 0
  | x :: r => uptoBulkEntry x + uptoBulkEntries r
def uptoBulkEntry {H : Type} : Lit × DataW H → Nat
  | (.string bytes, d) => bytes.length + uptoBulk d + 1
  | (_, d) => uptoBulk d + 1
 end
def uptoSmall : (H : Type) → List (DataW H) → Bool := fun _ ds => decide (uptoBulkAll ds ≤ 1048576)
def OpenSpec.upto (s : _root_.Go.ChangeSpec) : _root_.Go.OpenSpec := { _root_.Go.OpenSpec.ofChange s with cond := some uptoSmall }

/-- 'backflushlaw34.FloorSpec', WHERE WHAT IT READS IS OF BULK AT MOST 1048576: true; the input reads as it did. -/
def floorSpecUptoRow : OpenClaim := { program := "ytgpgfcehcenejaa", sum := "e6f902e66477c7c80792388d7cff2cf4475ae2f3a04b2455d51f72b2babba069", func := "backflush/backflushlaw34.FloorSpec", spec := "floorSpec", unfollowed := true, recurses := true, apart := false, narrowed := true }
def FloorSpecUptoSaid : Prop := floorSpecUptoRow.holds Try.pinned (OpenSpec.upto floorSpecSpec)

/-- 'backflushlaw34.FloorMass', WHERE WHAT IT READS IS OF BULK AT MOST 1048576: true; the input reads as it did. -/
def floorMassUptoRow : OpenClaim := { program := "ytgpgfcehcenejaa", sum := "e6f902e66477c7c80792388d7cff2cf4475ae2f3a04b2455d51f72b2babba069", func := "backflush/backflushlaw34.FloorMass", spec := "floorMass", unfollowed := true, recurses := true, apart := false, narrowed := true }
def FloorMassUptoSaid : Prop := floorMassUptoRow.holds Try.pinned (OpenSpec.upto floorMassSpec)

/-- 'backflushlaw34.FloorFed', WHERE WHAT IT READS IS OF BULK AT MOST 1048576: true; the input reads as it did. -/
def floorFedUptoRow : OpenClaim := { program := "ytgpgfcehcenejaa", sum := "e6f902e66477c7c80792388d7cff2cf4475ae2f3a04b2455d51f72b2babba069", func := "backflush/backflushlaw34.FloorFed", spec := "floorFed", unfollowed := true, recurses := true, apart := false, narrowed := true }
def FloorFedUptoSaid : Prop := floorFedUptoRow.holds Try.pinned (OpenSpec.upto floorFedSpec)

/-- 'backflushlaw34.FloorOrder', WHERE WHAT IT READS IS OF BULK AT MOST 1048576: true; the input reads as it did. -/
def floorOrderUptoRow : OpenClaim := { program := "ytgpgfcehcenejaa", sum := "e6f902e66477c7c80792388d7cff2cf4475ae2f3a04b2455d51f72b2babba069", func := "backflush/backflushlaw34.FloorOrder", spec := "floorOrder", unfollowed := true, recurses := true, apart := false, narrowed := true }
def FloorOrderUptoSaid : Prop := floorOrderUptoRow.holds Try.pinned (OpenSpec.upto floorOrderSpec)

/-- 'backflushlaw34.FloorSplit', WHERE WHAT IT READS IS OF BULK AT MOST 1048576: true; the input reads as it did. -/
def floorSplitUptoRow : OpenClaim := { program := "ytgpgfcehcenejaa", sum := "e6f902e66477c7c80792388d7cff2cf4475ae2f3a04b2455d51f72b2babba069", func := "backflush/backflushlaw34.FloorSplit", spec := "floorSplit", unfollowed := true, recurses := true, apart := false, narrowed := true }
def FloorSplitUptoSaid : Prop := floorSplitUptoRow.holds Try.pinned (OpenSpec.upto floorSplitSpec)

/-- 'backflushlaw34.FloorFirst', WHERE WHAT IT READS IS OF BULK AT MOST 1048576: true; the input reads as it did. -/
def floorFirstUptoRow : OpenClaim := { program := "ytgpgfcehcenejaa", sum := "e6f902e66477c7c80792388d7cff2cf4475ae2f3a04b2455d51f72b2babba069", func := "backflush/backflushlaw34.FloorFirst", spec := "floorFirst", unfollowed := true, recurses := true, apart := false, narrowed := true }
def FloorFirstUptoSaid : Prop := floorFirstUptoRow.holds Try.pinned (OpenSpec.upto floorFirstSpec)

end Rows
end Go.Proofs.Ytgpgfcehcenejaa
