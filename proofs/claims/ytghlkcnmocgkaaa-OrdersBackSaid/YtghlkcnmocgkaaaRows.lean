/-
  No cell of these rows narrows 'for every input' (looked for: loops, veiled, ifaces, maps, wideKeys, modest, calm, conditions, laid).
  DERIVED. THE GIVEN ROWS OF THIS SEAT. 6 by the template 'for every input the law returns true; each argument reads behind the call as it read before'; 0 by the template 'total and deterministic' (their statements: YtghlkcnmocgkaaaTotals.lean).
  GIVEN WITH THE SEED: the statements are not yours to turn. If you find one false, say at which input.
  Laid BY PROGRAM, IN A SANDBOX (cutbox-rows.mjs): the forced cells as the released guide's own fill.sh prints them over the translation e847869afe374cee… (all of the seat's roots in one cut). By AI agents, Wed Nov 11 2026. No macro, syntax, notation, axiom, sorry.
-/
import Derived.Test.YtghlkcnmocgkaaaChecked
import GoSem.Claim
import GoSem.ClaimJoined
import GoSem.ClaimMapViews
import Derived.JoinedTies
import Derived.KernelRfl
namespace Go.Proofs.Ytghlkcnmocgkaaa
/- THE CELL 'sum', in the pinned program and in every row, IS THE sha256 OF THE DUMP (.gsa) THAT YtghlkcnmocgkaaaProg.lean LOADS. Nothing in Lean hashes anything: it is a label: what it is worth is what the hold of that sum in a sandbox is worth. -/
noncomputable def Try.pinned : Pinned := { name := "ytghlkcnmocgkaaa", sum := "e847869afe374cee2b7574561db441b35854eafad8b83bbc0c07c4f16b6ea901", checked := Try.checked }
namespace Rows
def none {H : Type} : Left H := { results := [], args := [] }

/-- 'backflushlaw19.OrdersOrderSpec': WHATEVER THE INPUT: true; the input reads as it did. -/
def ordersOrderSpecSpec : ChangeSpec := { name := "ordersOrderSpec", fn := fun _ => fun
  | [d1, d2, d3, d4] => { results := [.lit (.bool true)], args := [d1, d2, d3, d4] }
  | _ => none }
def ordersOrderSpecRow : OpenClaim := { program := "ytghlkcnmocgkaaa", sum := "e847869afe374cee2b7574561db441b35854eafad8b83bbc0c07c4f16b6ea901", func := "backflush/backflushlaw19.OrdersOrderSpec", spec := "ordersOrderSpec", unfollowed := true, recurses := true, apart := false }
def OrdersOrderSpecSaid : Prop := ordersOrderSpecRow.holds Try.pinned (OpenSpec.ofChange ordersOrderSpecSpec)

/-- ITS FALSE NEIGHBOUR: 'it returns false'. Refute it at one input. -/
def ordersOrderSpecWrong : ChangeSpec := { name := "ordersOrderSpec", fn := fun _ => fun
  | [d1, d2, d3, d4] => { results := [.lit (.bool false)], args := [d1, d2, d3, d4] }
  | _ => none }
def OrdersOrderSpecWrongFalsely : Prop := ordersOrderSpecRow.holds Try.pinned (OpenSpec.ofChange ordersOrderSpecWrong)

/-- 'backflushlaw19.OrdersPutSpec': WHATEVER THE INPUT: true; the input reads as it did. -/
def ordersPutSpecSpec : ChangeSpec := { name := "ordersPutSpec", fn := fun _ => fun
  | [d1, d2, d3, d4] => { results := [.lit (.bool true)], args := [d1, d2, d3, d4] }
  | _ => none }
def ordersPutSpecRow : OpenClaim := { program := "ytghlkcnmocgkaaa", sum := "e847869afe374cee2b7574561db441b35854eafad8b83bbc0c07c4f16b6ea901", func := "backflush/backflushlaw19.OrdersPutSpec", spec := "ordersPutSpec", unfollowed := true, recurses := true, apart := false }
def OrdersPutSpecSaid : Prop := ordersPutSpecRow.holds Try.pinned (OpenSpec.ofChange ordersPutSpecSpec)

/-- ITS FALSE NEIGHBOUR: 'it returns false'. Refute it at one input. -/
def ordersPutSpecWrong : ChangeSpec := { name := "ordersPutSpec", fn := fun _ => fun
  | [d1, d2, d3, d4] => { results := [.lit (.bool false)], args := [d1, d2, d3, d4] }
  | _ => none }
def OrdersPutSpecWrongFalsely : Prop := ordersPutSpecRow.holds Try.pinned (OpenSpec.ofChange ordersPutSpecWrong)

/-- 'backflushlaw19.OrdersBack': WHATEVER THE INPUT: true; the input reads as it did. -/
def ordersBackSpec : ChangeSpec := { name := "ordersBack", fn := fun _ => fun
  | [d1, d2, d3, d4, d5, d6, d7] => { results := [.lit (.bool true)], args := [d1, d2, d3, d4, d5, d6, d7] }
  | _ => none }
def ordersBackRow : OpenClaim := { program := "ytghlkcnmocgkaaa", sum := "e847869afe374cee2b7574561db441b35854eafad8b83bbc0c07c4f16b6ea901", func := "backflush/backflushlaw19.OrdersBack", spec := "ordersBack", unfollowed := true, recurses := true, apart := false }
def OrdersBackSaid : Prop := ordersBackRow.holds Try.pinned (OpenSpec.ofChange ordersBackSpec)

/-- ITS FALSE NEIGHBOUR: 'it returns false'. Refute it at one input. -/
def ordersBackWrong : ChangeSpec := { name := "ordersBack", fn := fun _ => fun
  | [d1, d2, d3, d4, d5, d6, d7] => { results := [.lit (.bool false)], args := [d1, d2, d3, d4, d5, d6, d7] }
  | _ => none }
def OrdersBackWrongFalsely : Prop := ordersBackRow.holds Try.pinned (OpenSpec.ofChange ordersBackWrong)

/-- 'backflushlaw19.OrdersAll': WHATEVER THE INPUT: true; the input reads as it did. -/
def ordersAllSpec : ChangeSpec := { name := "ordersAll", fn := fun _ => fun
  | [d1, d2, d3] => { results := [.lit (.bool true)], args := [d1, d2, d3] }
  | _ => none }
def ordersAllRow : OpenClaim := { program := "ytghlkcnmocgkaaa", sum := "e847869afe374cee2b7574561db441b35854eafad8b83bbc0c07c4f16b6ea901", func := "backflush/backflushlaw19.OrdersAll", spec := "ordersAll", unfollowed := true, recurses := true, apart := false }
def OrdersAllSaid : Prop := ordersAllRow.holds Try.pinned (OpenSpec.ofChange ordersAllSpec)

/-- ITS FALSE NEIGHBOUR: 'it returns false'. Refute it at one input. -/
def ordersAllWrong : ChangeSpec := { name := "ordersAll", fn := fun _ => fun
  | [d1, d2, d3] => { results := [.lit (.bool false)], args := [d1, d2, d3] }
  | _ => none }
def OrdersAllWrongFalsely : Prop := ordersAllRow.holds Try.pinned (OpenSpec.ofChange ordersAllWrong)

/-- 'backflushlaw19.OrdersPast': WHATEVER THE INPUT: true; the input reads as it did. -/
def ordersPastSpec : ChangeSpec := { name := "ordersPast", fn := fun _ => fun
  | [d1, d2, d3, d4] => { results := [.lit (.bool true)], args := [d1, d2, d3, d4] }
  | _ => none }
def ordersPastRow : OpenClaim := { program := "ytghlkcnmocgkaaa", sum := "e847869afe374cee2b7574561db441b35854eafad8b83bbc0c07c4f16b6ea901", func := "backflush/backflushlaw19.OrdersPast", spec := "ordersPast", unfollowed := true, recurses := true, apart := false }
def OrdersPastSaid : Prop := ordersPastRow.holds Try.pinned (OpenSpec.ofChange ordersPastSpec)

/-- ITS FALSE NEIGHBOUR: 'it returns false'. Refute it at one input. -/
def ordersPastWrong : ChangeSpec := { name := "ordersPast", fn := fun _ => fun
  | [d1, d2, d3, d4] => { results := [.lit (.bool false)], args := [d1, d2, d3, d4] }
  | _ => none }
def OrdersPastWrongFalsely : Prop := ordersPastRow.holds Try.pinned (OpenSpec.ofChange ordersPastWrong)

/-- 'backflushlaw19.OrdersReads': WHATEVER THE INPUT: true; the input reads as it did. -/
def ordersReadsSpec : ChangeSpec := { name := "ordersReads", fn := fun _ => fun
  | [d1, d2, d3, d4, d5] => { results := [.lit (.bool true)], args := [d1, d2, d3, d4, d5] }
  | _ => none }
def ordersReadsRow : OpenClaim := { program := "ytghlkcnmocgkaaa", sum := "e847869afe374cee2b7574561db441b35854eafad8b83bbc0c07c4f16b6ea901", func := "backflush/backflushlaw19.OrdersReads", spec := "ordersReads", unfollowed := true, recurses := true, apart := false }
def OrdersReadsSaid : Prop := ordersReadsRow.holds Try.pinned (OpenSpec.ofChange ordersReadsSpec)

/-- ITS FALSE NEIGHBOUR: 'it returns false'. Refute it at one input. -/
def ordersReadsWrong : ChangeSpec := { name := "ordersReads", fn := fun _ => fun
  | [d1, d2, d3, d4, d5] => { results := [.lit (.bool false)], args := [d1, d2, d3, d4, d5] }
  | _ => none }
def OrdersReadsWrongFalsely : Prop := ordersReadsRow.holds Try.pinned (OpenSpec.ofChange ordersReadsWrong)

/- THE SECOND FORM. 'bulk': how many values and letters a reading holds, each counted each time it is reached (what is shared counts as often as it is met; a slice's spare places count too). A statement '..UptoSaid' is the law's where the arguments, and the package variables that the reading takes, are together of bulk at most 1048576: NARROWER than '..Said'. Prove '..Said' where nothing that the law and all that it calls make is longer than what came in: it says more and counts as full. Else prove '..UptoSaid'. A law counts once. -/
mutual
def uptoBulk {H : Type} : DataW H → Nat
  | .lit (.string bytes) => bytes.length + 1
  | .lit _ => 1
  | .nil => 1
  | .ptr d => uptoBulk d + 1
  | .slice elems spare => uptoBulkAll elems + uptoBulkAll spare + 1
  | .agg parts => uptoBulkAll parts + 1
  | .iface _ d => uptoBulk d + 1
  | .map entries => uptoBulkEntries entries + 1
  | .held _ => 1
def uptoBulkAll {H : Type} : List (DataW H) → Nat
  | [] => 0
  | d :: r => uptoBulk d + uptoBulkAll r
def uptoBulkEntries {H : Type} : List (Lit × DataW H) → Nat
  | [] => 0
  | x :: r => uptoBulkEntry x + uptoBulkEntries r
def uptoBulkEntry {H : Type} : Lit × DataW H → Nat
  | (.string bytes, d) => bytes.length + uptoBulk d + 1
  | (_, d) => uptoBulk d + 1
 end
def uptoSmall : (H : Type) → List (DataW H) → Bool := fun _ ds => decide (uptoBulkAll ds ≤ 1048576)
def OpenSpec.upto (s : _root_.Go.ChangeSpec) : _root_.Go.OpenSpec := { _root_.Go.OpenSpec.ofChange s with cond := some uptoSmall }

/-- 'backflushlaw19.OrdersOrderSpec', WHERE WHAT IT READS IS OF BULK AT MOST 1048576: true; the input reads as it did. -/
def ordersOrderSpecUptoRow : OpenClaim := { program := "ytghlkcnmocgkaaa", sum := "e847869afe374cee2b7574561db441b35854eafad8b83bbc0c07c4f16b6ea901", func := "backflush/backflushlaw19.OrdersOrderSpec", spec := "ordersOrderSpec", unfollowed := true, recurses := true, apart := false, narrowed := true }
def OrdersOrderSpecUptoSaid : Prop := ordersOrderSpecUptoRow.holds Try.pinned (OpenSpec.upto ordersOrderSpecSpec)

/-- 'backflushlaw19.OrdersPutSpec', WHERE WHAT IT READS IS OF BULK AT MOST 1048576: true; the input reads as it did. -/
def ordersPutSpecUptoRow : OpenClaim := { program := "ytghlkcnmocgkaaa", sum := "e847869afe374cee2b7574561db441b35854eafad8b83bbc0c07c4f16b6ea901", func := "backflush/backflushlaw19.OrdersPutSpec", spec := "ordersPutSpec", unfollowed := true, recurses := true, apart := false, narrowed := true }
def OrdersPutSpecUptoSaid : Prop := ordersPutSpecUptoRow.holds Try.pinned (OpenSpec.upto ordersPutSpecSpec)

/-- 'backflushlaw19.OrdersBack', WHERE WHAT IT READS IS OF BULK AT MOST 1048576: true; the input reads as it did. -/
def ordersBackUptoRow : OpenClaim := { program := "ytghlkcnmocgkaaa", sum := "e847869afe374cee2b7574561db441b35854eafad8b83bbc0c07c4f16b6ea901", func := "backflush/backflushlaw19.OrdersBack", spec := "ordersBack", unfollowed := true, recurses := true, apart := false, narrowed := true }
def OrdersBackUptoSaid : Prop := ordersBackUptoRow.holds Try.pinned (OpenSpec.upto ordersBackSpec)

/-- 'backflushlaw19.OrdersAll', WHERE WHAT IT READS IS OF BULK AT MOST 1048576: true; the input reads as it did. -/
def ordersAllUptoRow : OpenClaim := { program := "ytghlkcnmocgkaaa", sum := "e847869afe374cee2b7574561db441b35854eafad8b83bbc0c07c4f16b6ea901", func := "backflush/backflushlaw19.OrdersAll", spec := "ordersAll", unfollowed := true, recurses := true, apart := false, narrowed := true }
def OrdersAllUptoSaid : Prop := ordersAllUptoRow.holds Try.pinned (OpenSpec.upto ordersAllSpec)

/-- 'backflushlaw19.OrdersPast', WHERE WHAT IT READS IS OF BULK AT MOST 1048576: true; the input reads as it did. -/
def ordersPastUptoRow : OpenClaim := { program := "ytghlkcnmocgkaaa", sum := "e847869afe374cee2b7574561db441b35854eafad8b83bbc0c07c4f16b6ea901", func := "backflush/backflushlaw19.OrdersPast", spec := "ordersPast", unfollowed := true, recurses := true, apart := false, narrowed := true }
def OrdersPastUptoSaid : Prop := ordersPastUptoRow.holds Try.pinned (OpenSpec.upto ordersPastSpec)

/-- 'backflushlaw19.OrdersReads', WHERE WHAT IT READS IS OF BULK AT MOST 1048576: true; the input reads as it did. -/
def ordersReadsUptoRow : OpenClaim := { program := "ytghlkcnmocgkaaa", sum := "e847869afe374cee2b7574561db441b35854eafad8b83bbc0c07c4f16b6ea901", func := "backflush/backflushlaw19.OrdersReads", spec := "ordersReads", unfollowed := true, recurses := true, apart := false, narrowed := true }
def OrdersReadsUptoSaid : Prop := ordersReadsUptoRow.holds Try.pinned (OpenSpec.upto ordersReadsSpec)

end Rows
end Go.Proofs.Ytghlkcnmocgkaaa
