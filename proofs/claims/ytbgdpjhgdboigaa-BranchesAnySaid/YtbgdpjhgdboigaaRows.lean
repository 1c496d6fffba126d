/-
  No cell of these rows narrows 'for every input' (looked for: loops, veiled, ifaces, maps, wideKeys, modest, calm, conditions, laid).
  DERIVED. THE GIVEN ROWS OF THIS SEAT. 7 by the template 'for every input the law returns true; each argument reads behind the call as it read before'; 0 by the template 'total and deterministic' (their statements: YtbgdpjhgdboigaaTotals.lean).
  GIVEN WITH THE SEED: the statements are not yours to turn. If you find one false, say at which input.
  Laid BY PROGRAM, IN A SANDBOX (cutbox-rows.mjs): the forced cells as the released guide's own fill.sh prints them over the translation 2cdd90a93f442a6a… (all of the seat's roots in one cut). By AI agents, Wed Nov 11 2026. No macro, syntax, notation, axiom, sorry.
-/
import Derived.Test.YtbgdpjhgdboigaaChecked
import GoSem.Claim
import GoSem.ClaimJoined
import GoSem.ClaimMapViews
import Derived.JoinedTies
import Derived.KernelRfl
namespace Go.Proofs.Ytbgdpjhgdboigaa
/- THE CELL 'sum', in the pinned program and in every row, IS THE sha256 OF THE DUMP (.gsa) THAT YtbgdpjhgdboigaaProg.lean LOADS. Nothing in Lean hashes anything: it is a label: what it is worth is what the hold of that sum in a sandbox is worth. -/
noncomputable def Try.pinned : Pinned := { name := "ytbgdpjhgdboigaa", sum := "2cdd90a93f442a6a826e140e1dc1e8a3c86ccb051df290b5c1cdd7dc19d066a8", checked := Try.checked }
namespace Rows
def none {H : Type} : Left H := { results := [], args := [] }

/-- 'backflushlaw54.BranchesForkSpec': WHATEVER THE INPUT: true; the input reads as it did. -/
def branchesForkSpecSpec : ChangeSpec := { name := "branchesForkSpec", fn := fun _ => fun
  | [d1, d2, d3] => { results := [.lit (.bool true)], args := [d1, d2, d3] }
  | _ => none }
def branchesForkSpecRow : OpenClaim := { program := "ytbgdpjhgdboigaa", sum := "2cdd90a93f442a6a826e140e1dc1e8a3c86ccb051df290b5c1cdd7dc19d066a8", func := "backflush/backflushlaw54.BranchesForkSpec", spec := "branchesForkSpec", unfollowed := true, recurses := true, plainKeys := false, apart := false }
def BranchesForkSpecSaid : Prop := branchesForkSpecRow.holds Try.pinned (OpenSpec.ofChange branchesForkSpecSpec)

/-- ITS FALSE NEIGHBOUR: 'it returns false'. Refute it at one input. -/
def branchesForkSpecWrong : ChangeSpec := { name := "branchesForkSpec", fn := fun _ => fun
  | [d1, d2, d3] => { results := [.lit (.bool false)], args := [d1, d2, d3] }
  | _ => none }
def BranchesForkSpecWrongFalsely : Prop := branchesForkSpecRow.holds Try.pinned (OpenSpec.ofChange branchesForkSpecWrong)

/-- 'backflushlaw54.BranchesChangeSpec': WHATEVER THE INPUT: true; the input reads as it did. -/
def branchesChangeSpecSpec : ChangeSpec := { name := "branchesChangeSpec", fn := fun _ => fun
  | [d1, d2, d3] => { results := [.lit (.bool true)], args := [d1, d2, d3] }
  | _ => none }
def branchesChangeSpecRow : OpenClaim := { program := "ytbgdpjhgdboigaa", sum := "2cdd90a93f442a6a826e140e1dc1e8a3c86ccb051df290b5c1cdd7dc19d066a8", func := "backflush/backflushlaw54.BranchesChangeSpec", spec := "branchesChangeSpec", unfollowed := true, recurses := true, plainKeys := false, apart := false }
def BranchesChangeSpecSaid : Prop := branchesChangeSpecRow.holds Try.pinned (OpenSpec.ofChange branchesChangeSpecSpec)

/-- ITS FALSE NEIGHBOUR: 'it returns false'. Refute it at one input. -/
def branchesChangeSpecWrong : ChangeSpec := { name := "branchesChangeSpec", fn := fun _ => fun
  | [d1, d2, d3] => { results := [.lit (.bool false)], args := [d1, d2, d3] }
  | _ => none }
def BranchesChangeSpecWrongFalsely : Prop := branchesChangeSpecRow.holds Try.pinned (OpenSpec.ofChange branchesChangeSpecWrong)

/-- 'backflushlaw54.BranchesMergeSpec': WHATEVER THE INPUT: true; the input reads as it did. -/
def branchesMergeSpecSpec : ChangeSpec := { name := "branchesMergeSpec", fn := fun _ => fun
  | [d1, d2] => { results := [.lit (.bool true)], args := [d1, d2] }
  | _ => none }
def branchesMergeSpecRow : OpenClaim := { program := "ytbgdpjhgdboigaa", sum := "2cdd90a93f442a6a826e140e1dc1e8a3c86ccb051df290b5c1cdd7dc19d066a8", func := "backflush/backflushlaw54.BranchesMergeSpec", spec := "branchesMergeSpec", unfollowed := true, recurses := true, plainKeys := false, apart := false }
def BranchesMergeSpecSaid : Prop := branchesMergeSpecRow.holds Try.pinned (OpenSpec.ofChange branchesMergeSpecSpec)

/-- ITS FALSE NEIGHBOUR: 'it returns false'. Refute it at one input. -/
def branchesMergeSpecWrong : ChangeSpec := { name := "branchesMergeSpec", fn := fun _ => fun
  | [d1, d2] => { results := [.lit (.bool false)], args := [d1, d2] }
  | _ => none }
def BranchesMergeSpecWrongFalsely : Prop := branchesMergeSpecRow.holds Try.pinned (OpenSpec.ofChange branchesMergeSpecWrong)

/-- 'backflushlaw54.BranchesApart': WHATEVER THE INPUT: true; the input reads as it did. -/
def branchesApartSpec : ChangeSpec := { name := "branchesApart", fn := fun _ => fun
  | [d1, d2, d3] => { results := [.lit (.bool true)], args := [d1, d2, d3] }
  | _ => none }
def branchesApartRow : OpenClaim := { program := "ytbgdpjhgdboigaa", sum := "2cdd90a93f442a6a826e140e1dc1e8a3c86ccb051df290b5c1cdd7dc19d066a8", func := "backflush/backflushlaw54.BranchesApart", spec := "branchesApart", unfollowed := true, recurses := true, plainKeys := false, apart := false }
def BranchesApartSaid : Prop := branchesApartRow.holds Try.pinned (OpenSpec.ofChange branchesApartSpec)

/-- ITS FALSE NEIGHBOUR: 'it returns false'. Refute it at one input. -/
def branchesApartWrong : ChangeSpec := { name := "branchesApart", fn := fun _ => fun
  | [d1, d2, d3] => { results := [.lit (.bool false)], args := [d1, d2, d3] }
  | _ => none }
def BranchesApartWrongFalsely : Prop := branchesApartRow.holds Try.pinned (OpenSpec.ofChange branchesApartWrong)

/-- 'backflushlaw54.BranchesDropped': WHATEVER THE INPUT: true; the input reads as it did. -/
def branchesDroppedSpec : ChangeSpec := { name := "branchesDropped", fn := fun _ => fun
  | [d1, d2, d3, d4] => { results := [.lit (.bool true)], args := [d1, d2, d3, d4] }
  | _ => none }
def branchesDroppedRow : OpenClaim := { program := "ytbgdpjhgdboigaa", sum := "2cdd90a93f442a6a826e140e1dc1e8a3c86ccb051df290b5c1cdd7dc19d066a8", func := "backflush/backflushlaw54.BranchesDropped", spec := "branchesDropped", unfollowed := true, recurses := true, plainKeys := false, apart := false }
def BranchesDroppedSaid : Prop := branchesDroppedRow.holds Try.pinned (OpenSpec.ofChange branchesDroppedSpec)

/-- ITS FALSE NEIGHBOUR: 'it returns false'. Refute it at one input. -/
def branchesDroppedWrong : ChangeSpec := { name := "branchesDropped", fn := fun _ => fun
  | [d1, d2, d3, d4] => { results := [.lit (.bool false)], args := [d1, d2, d3, d4] }
  | _ => none }
def BranchesDroppedWrongFalsely : Prop := branchesDroppedRow.holds Try.pinned (OpenSpec.ofChange branchesDroppedWrong)

/-- 'backflushlaw54.BranchesMerged': WHATEVER THE INPUT: true; the input reads as it did. -/
def branchesMergedSpec : ChangeSpec := { name := "branchesMerged", fn := fun _ => fun
  | [d1, d2, d3] => { results := [.lit (.bool true)], args := [d1, d2, d3] }
  | _ => none }
def branchesMergedRow : OpenClaim := { program := "ytbgdpjhgdboigaa", sum := "2cdd90a93f442a6a826e140e1dc1e8a3c86ccb051df290b5c1cdd7dc19d066a8", func := "backflush/backflushlaw54.BranchesMerged", spec := "branchesMerged", unfollowed := true, recurses := true, plainKeys := false, apart := false }
def BranchesMergedSaid : Prop := branchesMergedRow.holds Try.pinned (OpenSpec.ofChange branchesMergedSpec)

/-- ITS FALSE NEIGHBOUR: 'it returns false'. Refute it at one input. -/
def branchesMergedWrong : ChangeSpec := { name := "branchesMerged", fn := fun _ => fun
  | [d1, d2, d3] => { results := [.lit (.bool false)], args := [d1, d2, d3] }
  | _ => none }
def BranchesMergedWrongFalsely : Prop := branchesMergedRow.holds Try.pinned (OpenSpec.ofChange branchesMergedWrong)

/-- 'backflushlaw54.BranchesAny': WHATEVER THE INPUT: true; the input reads as it did. -/
def branchesAnySpec : ChangeSpec := { name := "branchesAny", fn := fun _ => fun
  | [d1, d2, d3, d4] => { results := [.lit (.bool true)], args := [d1, d2, d3, d4] }
  | _ => none }
def branchesAnyRow : OpenClaim := { program := "ytbgdpjhgdboigaa", sum := "2cdd90a93f442a6a826e140e1dc1e8a3c86ccb051df290b5c1cdd7dc19d066a8", func := "backflush/backflushlaw54.BranchesAny", spec := "branchesAny", unfollowed := true, recurses := true, plainKeys := false, apart := false }
def BranchesAnySaid : Prop := branchesAnyRow.holds Try.pinned (OpenSpec.ofChange branchesAnySpec)

/-- ITS FALSE NEIGHBOUR: 'it returns false'. Refute it at one input. -/
def branchesAnyWrong : ChangeSpec := { name := "branchesAny", fn := fun _ => fun
  | [d1, d2, d3, d4] => { results := [.lit (.bool false)], args := [d1, d2, d3, d4] }
  | _ => none }
def BranchesAnyWrongFalsely : Prop := branchesAnyRow.holds Try.pinned (OpenSpec.ofChange branchesAnyWrong)

/- THE SECOND FORM. 'bulk': how many values and letters a reading holds, each counted each time it is reached (what is shared counts as often as it is met; a slice's spare places count too). A statement '..UptoSaid' is the law's where the arguments, and the package variables that the reading takes, are together of bulk at most 1048576: NARROWER than '..Said'. Prove '..Said' where nothing that the law and all that it calls make is longer than what came in: it says more and counts as full. Else prove '..UptoSaid'. A law counts once. -/
mutual
def uptoBulk {H : Type} : DataW H → Nat
  | .lit (.string bytes) => bytes.length + 1
  | .lit _ => 1
  | .nil => 1
  | .ptr d => uptoBulk d + 1
  | .slice elems spare => uptoBulkAll elems + uptoBulkAll spare + 1
  | .agg parts => uptoBulkAll parts + 1
  | .iface _ d => uptoBulk d + 1
  | .map entries => uptoBulkEntries entries + 1
  | .held _ => 1
def uptoBulkAll {H : Type} : List (DataW H) → Nat
  | [] => 0
  | d :: r => uptoBulk d + uptoBulkAll r
def uptoBulkEntries {H : Type} : List (Lit × DataW H) → Nat
  | [] => 0
  | x :: r => uptoBulkEntry x + uptoBulkEntries r
def uptoBulkEntry {H : Type} : Lit × DataW H → Nat
  | (.string bytes, d) => bytes.length + uptoBulk d + 1
  | (_, d) => uptoBulk d + 1
 end
def uptoSmall : (H : Type) → List (DataW H) → Bool := fun _ ds => decide (uptoBulkAll ds ≤ 1048576)
def OpenSpec.upto (s : _root_.Go.ChangeSpec) : _root_.Go.OpenSpec := { _root_.Go.OpenSpec.ofChange s with cond := some uptoSmall }

/-- 'backflushlaw54.BranchesForkSpec', WHERE WHAT IT READS IS OF BULK AT MOST 1048576: true; the input reads as it did. -/
def branchesForkSpecUptoRow : OpenClaim := { program := "ytbgdpjhgdboigaa", sum := "2cdd90a93f442a6a826e140e1dc1e8a3c86ccb051df290b5c1cdd7dc19d066a8", func := "backflush/backflushlaw54.BranchesForkSpec", spec := "branchesForkSpec", unfollowed := true, recurses := true, plainKeys := false, apart := false, narrowed := true }
def BranchesForkSpecUptoSaid : Prop := branchesForkSpecUptoRow.holds Try.pinned (OpenSpec.upto branchesForkSpecSpec)

/-- 'backflushlaw54.BranchesChangeSpec', WHERE WHAT IT READS IS OF BULK AT MOST 1048576: true; the input reads as it did. -/
def branchesChangeSpecUptoRow : OpenClaim := { program := "ytbgdpjhgdboigaa", sum := "2cdd90a93f442a6a826e140e1dc1e8a3c86ccb051df290b5c1cdd7dc19d066a8", func := "backflush/backflushlaw54.BranchesChangeSpec", spec := "branchesChangeSpec", unfollowed := true, recurses := true, plainKeys := false, apart := false, narrowed := true }
def BranchesChangeSpecUptoSaid : Prop := branchesChangeSpecUptoRow.holds Try.pinned (OpenSpec.upto branchesChangeSpecSpec)

/-- 'backflushlaw54.BranchesMergeSpec', WHERE WHAT IT READS IS OF BULK AT MOST 1048576: true; the input reads as it did. -/
def branchesMergeSpecUptoRow : OpenClaim := { program := "ytbgdpjhgdboigaa", sum := "2cdd90a93f442a6a826e140e1dc1e8a3c86ccb051df290b5c1cdd7dc19d066a8", func := "backflush/backflushlaw54.BranchesMergeSpec", spec := "branchesMergeSpec", unfollowed := true, recurses := true, plainKeys := false, apart := false, narrowed := true }
def BranchesMergeSpecUptoSaid : Prop := branchesMergeSpecUptoRow.holds Try.pinned (OpenSpec.upto branchesMergeSpecSpec)

/-- 'backflushlaw54.BranchesApart', WHERE WHAT IT READS IS OF BULK AT MOST 1048576: true; the input reads as it did. -/
def branchesApartUptoRow : OpenClaim := { program := "ytbgdpjhgdboigaa", sum := "2cdd90a93f442a6a826e140e1dc1e8a3c86ccb051df290b5c1cdd7dc19d066a8", func := "backflush/backflushlaw54.BranchesApart", spec := "branchesApart", unfollowed := true, recurses := true, plainKeys := false, apart := false, narrowed := true }
def BranchesApartUptoSaid : Prop := branchesApartUptoRow.holds Try.pinned (OpenSpec.upto branchesApartSpec)

/-- 'backflushlaw54.BranchesDropped', WHERE WHAT IT READS IS OF BULK AT MOST 1048576: true; the input reads as it did. -/
def branchesDroppedUptoRow : OpenClaim := { program := "ytbgdpjhgdboigaa", sum := "2cdd90a93f442a6a826e140e1dc1e8a3c86ccb051df290b5c1cdd7dc19d066a8", func := "backflush/backflushlaw54.BranchesDropped", spec := "branchesDropped", unfollowed := true, recurses := true, plainKeys := false, apart := false, narrowed := true }
def BranchesDroppedUptoSaid : Prop := branchesDroppedUptoRow.holds Try.pinned (OpenSpec.upto branchesDroppedSpec)

/-- 'backflushlaw54.BranchesMerged', WHERE WHAT IT READS IS OF BULK AT MOST 1048576: true; the input reads as it did. -/
def branchesMergedUptoRow : OpenClaim := { program := "ytbgdpjhgdboigaa", sum := "2cdd90a93f442a6a826e140e1dc1e8a3c86ccb051df290b5c1cdd7dc19d066a8", func := "backflush/backflushlaw54.BranchesMerged", spec := "branchesMerged", unfollowed := true, recurses := true, plainKeys := false, apart := false, narrowed := true }
def BranchesMergedUptoSaid : Prop := branchesMergedUptoRow.holds Try.pinned (OpenSpec.upto branchesMergedSpec)

/-- 'backflushlaw54.BranchesAny', WHERE WHAT IT READS IS OF BULK AT MOST 1048576: true; the input reads as it did. -/
def branchesAnyUptoRow : OpenClaim := { program := "ytbgdpjhgdboigaa", sum := "2cdd90a93f442a6a826e140e1dc1e8a3c86ccb051df290b5c1cdd7dc19d066a8", func := "backflush/backflushlaw54.BranchesAny", spec := "branchesAny", unfollowed := true, recurses := true, plainKeys := false, apart := false, narrowed := true }
def BranchesAnyUptoSaid : Prop := branchesAnyUptoRow.holds Try.pinned (OpenSpec.upto branchesAnySpec)

end Rows
end Go.Proofs.Ytbgdpjhgdboigaa
