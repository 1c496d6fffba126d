/-
  NARROWER THAN 'FOR EVERY INPUT', by the rows' own cells (each row's printed sentence says how): StockLotSpec: laid · StockPutSpec: laid · StockBack: laid · StockAll: laid · StockUsable: laid · StockPast: laid · StockReads: laid.
  DERIVED. THE GIVEN ROWS OF THIS SEAT. 7 by the template 'for every input the law returns true; each argument reads behind the call as it read before'; 0 by the template 'total and deterministic' (their statements: YtbmnckaajofjmaaDoorTotals.lean).
  GIVEN WITH THE SEED: the statements are not yours to turn. If you find one false, say at which input.
  Laid BY PROGRAM, IN A SANDBOX (cutbox-rows.mjs): the forced cells as the released guide's own fill.sh prints them over the translation 4816efd508a91a5e… (all of the seat's roots in one cut). By AI agents, Wed Nov 11 2026. No macro, syntax, notation, axiom, sorry.
-/
import Derived.Test.YtbmnckaajofjmaaDoorChecked
import GoSem.Claim
import GoSem.ClaimJoined
import GoSem.ClaimMapViews
import Derived.JoinedTies
import Derived.KernelRfl
namespace Go.Proofs.YtbmnckaajofjmaaDoor
/- THE CELL 'sum', in the pinned program and in every row, IS THE sha256 OF THE DUMP (.gsa) THAT YtbmnckaajofjmaaDoorProg.lean LOADS. Nothing in Lean hashes anything: it is a label: what it is worth is what the hold of that sum in a sandbox is worth. -/
noncomputable def Tryd.pinned : Pinned := { name := "ytbmnckaajofjmaadoor", sum := "4816efd508a91a5e1d62b29b8bc7b392aea6626cd5b525b74d98e527aa5ec017", checked := Tryd.checked }
namespace Rows
def none {H : Type} : Left H := { results := [], args := [] }

/- WHAT THE LISTED PACKAGE-LEVEL VARIABLES READ AS WHEN THE CALL BEGINS. Each datum BY PROGRAM (the guide's laid-datum.mjs) off the statement by which the dump's own 'gosem.cut.vars' lays the variable. In a bare row this is a premise. The card (YtbmnckaajofjmaaDoorCards.lean) ties it to the program's text. -/
def laid_backflush_stock_head {H : Type} : DataW H := .agg [.lit (.int .i64 0), .lit (.int .i64 0), .lit (.int .i64 0)]

/-- 'backflushlaw18.StockLotSpec': WHATEVER THE INPUT: true; the input reads as it did. -/
def stockLotSpecSpec : ChangeSpec := { name := "stockLotSpec", fn := fun _ => fun
  | [d1, d2, d3, d4, d5] => { results := [.lit (.bool true)], args := [d1, d2, d3, d4, d5] }
  | _ => none }
def stockLotSpecRow : OpenClaim := { program := "ytbmnckaajofjmaadoor", sum := "4816efd508a91a5e1d62b29b8bc7b392aea6626cd5b525b74d98e527aa5ec017", func := "backflush/backflushlaw18.StockLotSpec", spec := "stockLotSpec", unfollowed := true, recurses := true, named := ["backflush/stock.head"], apart := false, laid := [("backflush/stock.head", laid_backflush_stock_head)] }
def StockLotSpecSaid : Prop := stockLotSpecRow.holds Tryd.pinned (OpenSpec.ofChange stockLotSpecSpec)

/-- ITS FALSE NEIGHBOUR: 'it returns false'. Refute it at one input. -/
def stockLotSpecWrong : ChangeSpec := { name := "stockLotSpec", fn := fun _ => fun
  | [d1, d2, d3, d4, d5] => { results := [.lit (.bool false)], args := [d1, d2, d3, d4, d5] }
  | _ => none }
def StockLotSpecWrongFalsely : Prop := stockLotSpecRow.holds Tryd.pinned (OpenSpec.ofChange stockLotSpecWrong)

/-- 'backflushlaw18.StockPutSpec': WHATEVER THE INPUT: true; the input reads as it did. -/
def stockPutSpecSpec : ChangeSpec := { name := "stockPutSpec", fn := fun _ => fun
  | [d1, d2, d3, d4] => { results := [.lit (.bool true)], args := [d1, d2, d3, d4] }
  | _ => none }
def stockPutSpecRow : OpenClaim := { program := "ytbmnckaajofjmaadoor", sum := "4816efd508a91a5e1d62b29b8bc7b392aea6626cd5b525b74d98e527aa5ec017", func := "backflush/backflushlaw18.StockPutSpec", spec := "stockPutSpec", unfollowed := true, recurses := true, named := ["backflush/stock.head"], apart := false, laid := [("backflush/stock.head", laid_backflush_stock_head)] }
def StockPutSpecSaid : Prop := stockPutSpecRow.holds Tryd.pinned (OpenSpec.ofChange stockPutSpecSpec)

/-- ITS FALSE NEIGHBOUR: 'it returns false'. Refute it at one input. -/
def stockPutSpecWrong : ChangeSpec := { name := "stockPutSpec", fn := fun _ => fun
  | [d1, d2, d3, d4] => { results := [.lit (.bool false)], args := [d1, d2, d3, d4] }
  | _ => none }
def StockPutSpecWrongFalsely : Prop := stockPutSpecRow.holds Tryd.pinned (OpenSpec.ofChange stockPutSpecWrong)

/-- 'backflushlaw18.StockBack': WHATEVER THE INPUT: true; the input reads as it did. -/
def stockBackSpec : ChangeSpec := { name := "stockBack", fn := fun _ => fun
  | [d1, d2, d3, d4, d5, d6, d7] => { results := [.lit (.bool true)], args := [d1, d2, d3, d4, d5, d6, d7] }
  | _ => none }
def stockBackRow : OpenClaim := { program := "ytbmnckaajofjmaadoor", sum := "4816efd508a91a5e1d62b29b8bc7b392aea6626cd5b525b74d98e527aa5ec017", func := "backflush/backflushlaw18.StockBack", spec := "stockBack", unfollowed := true, recurses := true, named := ["backflush/stock.head"], apart := false, laid := [("backflush/stock.head", laid_backflush_stock_head)] }
def StockBackSaid : Prop := stockBackRow.holds Tryd.pinned (OpenSpec.ofChange stockBackSpec)

/-- ITS FALSE NEIGHBOUR: 'it returns false'. Refute it at one input. -/
def stockBackWrong : ChangeSpec := { name := "stockBack", fn := fun _ => fun
  | [d1, d2, d3, d4, d5, d6, d7] => { results := [.lit (.bool false)], args := [d1, d2, d3, d4, d5, d6, d7] }
  | _ => none }
def StockBackWrongFalsely : Prop := stockBackRow.holds Tryd.pinned (OpenSpec.ofChange stockBackWrong)

/-- 'backflushlaw18.StockAll': WHATEVER THE INPUT: true; the input reads as it did. -/
def stockAllSpec : ChangeSpec := { name := "stockAll", fn := fun _ => fun
  | [d1, d2, d3] => { results := [.lit (.bool true)], args := [d1, d2, d3] }
  | _ => none }
def stockAllRow : OpenClaim := { program := "ytbmnckaajofjmaadoor", sum := "4816efd508a91a5e1d62b29b8bc7b392aea6626cd5b525b74d98e527aa5ec017", func := "backflush/backflushlaw18.StockAll", spec := "stockAll", unfollowed := true, recurses := true, named := ["backflush/stock.head"], apart := false, laid := [("backflush/stock.head", laid_backflush_stock_head)] }
def StockAllSaid : Prop := stockAllRow.holds Tryd.pinned (OpenSpec.ofChange stockAllSpec)

/-- ITS FALSE NEIGHBOUR: 'it returns false'. Refute it at one input. -/
def stockAllWrong : ChangeSpec := { name := "stockAll", fn := fun _ => fun
  | [d1, d2, d3] => { results := [.lit (.bool false)], args := [d1, d2, d3] }
  | _ => none }
def StockAllWrongFalsely : Prop := stockAllRow.holds Tryd.pinned (OpenSpec.ofChange stockAllWrong)

/-- 'backflushlaw18.StockUsable': WHATEVER THE INPUT: true; the input reads as it did. -/
def stockUsableSpec : ChangeSpec := { name := "stockUsable", fn := fun _ => fun
  | [d1, d2, d3, d4, d5] => { results := [.lit (.bool true)], args := [d1, d2, d3, d4, d5] }
  | _ => none }
def stockUsableRow : OpenClaim := { program := "ytbmnckaajofjmaadoor", sum := "4816efd508a91a5e1d62b29b8bc7b392aea6626cd5b525b74d98e527aa5ec017", func := "backflush/backflushlaw18.StockUsable", spec := "stockUsable", unfollowed := true, recurses := true, named := ["backflush/stock.head"], apart := false, laid := [("backflush/stock.head", laid_backflush_stock_head)] }
def StockUsableSaid : Prop := stockUsableRow.holds Tryd.pinned (OpenSpec.ofChange stockUsableSpec)

/-- ITS FALSE NEIGHBOUR: 'it returns false'. Refute it at one input. -/
def stockUsableWrong : ChangeSpec := { name := "stockUsable", fn := fun _ => fun
  | [d1, d2, d3, d4, d5] => { results := [.lit (.bool false)], args := [d1, d2, d3, d4, d5] }
  | _ => none }
def StockUsableWrongFalsely : Prop := stockUsableRow.holds Tryd.pinned (OpenSpec.ofChange stockUsableWrong)

/-- 'backflushlaw18.StockPast': WHATEVER THE INPUT: true; the input reads as it did. -/
def stockPastSpec : ChangeSpec := { name := "stockPast", fn := fun _ => fun
  | [d1, d2, d3, d4] => { results := [.lit (.bool true)], args := [d1, d2, d3, d4] }
  | _ => none }
def stockPastRow : OpenClaim := { program := "ytbmnckaajofjmaadoor", sum := "4816efd508a91a5e1d62b29b8bc7b392aea6626cd5b525b74d98e527aa5ec017", func := "backflush/backflushlaw18.StockPast", spec := "stockPast", unfollowed := true, recurses := true, named := ["backflush/stock.head"], apart := false, laid := [("backflush/stock.head", laid_backflush_stock_head)] }
def StockPastSaid : Prop := stockPastRow.holds Tryd.pinned (OpenSpec.ofChange stockPastSpec)

/-- ITS FALSE NEIGHBOUR: 'it returns false'. Refute it at one input. -/
def stockPastWrong : ChangeSpec := { name := "stockPast", fn := fun _ => fun
  | [d1, d2, d3, d4] => { results := [.lit (.bool false)], args := [d1, d2, d3, d4] }
  | _ => none }
def StockPastWrongFalsely : Prop := stockPastRow.holds Tryd.pinned (OpenSpec.ofChange stockPastWrong)

/-- 'backflushlaw18.StockReads': WHATEVER THE INPUT: true; the input reads as it did. -/
def stockReadsSpec : ChangeSpec := { name := "stockReads", fn := fun _ => fun
  | [d1, d2, d3, d4, d5, d6] => { results := [.lit (.bool true)], args := [d1, d2, d3, d4, d5, d6] }
  | _ => none }
def stockReadsRow : OpenClaim := { program := "ytbmnckaajofjmaadoor", sum := "4816efd508a91a5e1d62b29b8bc7b392aea6626cd5b525b74d98e527aa5ec017", func := "backflush/backflushlaw18.StockReads", spec := "stockReads", unfollowed := true, recurses := true, named := ["backflush/stock.head"], apart := false, laid := [("backflush/stock.head", laid_backflush_stock_head)] }
def StockReadsSaid : Prop := stockReadsRow.holds Tryd.pinned (OpenSpec.ofChange stockReadsSpec)

/-- ITS FALSE NEIGHBOUR: 'it returns false'. Refute it at one input. -/
def stockReadsWrong : ChangeSpec := { name := "stockReads", fn := fun _ => fun
  | [d1, d2, d3, d4, d5, d6] => { results := [.lit (.bool false)], args := [d1, d2, d3, d4, d5, d6] }
  | _ => none }
def StockReadsWrongFalsely : Prop := stockReadsRow.holds Tryd.pinned (OpenSpec.ofChange stockReadsWrong)

/- THE SECOND FORM. 'bulk': how many values and letters a reading holds, each counted each time it is reached (what is shared counts as often as it is met; a slice's spare places count too). A statement '..UptoSaid' is the law's where the arguments, and the package variables that the reading takes, are together of bulk at most 1048576: NARROWER than '..Said'. Prove '..Said' where nothing that the law and all that it calls make is longer than what came in: it says more and counts as full. Else prove '..UptoSaid'. A law counts once. -/
mutual
def uptoBulk {H : Type} : DataW H → Nat
  | .lit (.string bytes) => bytes.length + 1
  | .lit _ => 1
  | .nil => 1
  | .ptr d => uptoBulk d + 1
  | .slice elems spare => uptoBulkAll elems + uptoBulkAll spare + 1
  | .agg parts => uptoBulkAll parts + 1
  | .iface _ d => uptoBulk d + 1
  | .map entries => uptoBulkEntries entries + 1
  | .held _ => 1
def uptoBulkAll {H : Type} : List (DataW H) → Nat
  | [] => 0
  | d :: r => uptoBulk d + uptoBulkAll r
def uptoBulkEntries {H : Type} : List (Lit × DataW H) → Nat
  | [] => 0
  | x :: r => uptoBulkEntry x + uptoBulkEntries r
def uptoBulkEntry {H : Type} : Lit × DataW H → Nat
  | (.string bytes, d) => bytes.length + uptoBulk d + 1
  | (_, d) => uptoBulk d + 1
 end
def uptoSmall : (H : Type) → List (DataW H) → Bool := fun _ ds => decide (uptoBulkAll ds ≤ 1048576)
def OpenSpec.upto (s : _root_.Go.ChangeSpec) : _root_.Go.OpenSpec := { _root_.Go.OpenSpec.ofChange s with cond := some uptoSmall }

/-- 'backflushlaw18.StockLotSpec', WHERE WHAT IT READS IS OF BULK AT MOST 1048576: true; the input reads as it did. -/
def stockLotSpecUptoRow : OpenClaim := { program := "ytbmnckaajofjmaadoor", sum := "4816efd508a91a5e1d62b29b8bc7b392aea6626cd5b525b74d98e527aa5ec017", func := "backflush/backflushlaw18.StockLotSpec", spec := "stockLotSpec", unfollowed := true, recurses := true, named := ["backflush/stock.head"], apart := false, laid := [("backflush/stock.head", laid_backflush_stock_head)], narrowed := true }
def StockLotSpecUptoSaid : Prop := stockLotSpecUptoRow.holds Tryd.pinned (OpenSpec.upto stockLotSpecSpec)

/-- 'backflushlaw18.StockPutSpec', WHERE WHAT IT READS IS OF BULK AT MOST 1048576: true; the input reads as it did. -/
def stockPutSpecUptoRow : OpenClaim := { program := "ytbmnckaajofjmaadoor", sum := "4816efd508a91a5e1d62b29b8bc7b392aea6626cd5b525b74d98e527aa5ec017", func := "backflush/backflushlaw18.StockPutSpec", spec := "stockPutSpec", unfollowed := true, recurses := true, named := ["backflush/stock.head"], apart := false, laid := [("backflush/stock.head", laid_backflush_stock_head)], narrowed := true }
def StockPutSpecUptoSaid : Prop := stockPutSpecUptoRow.holds Tryd.pinned (OpenSpec.upto stockPutSpecSpec)

/-- 'backflushlaw18.StockBack', WHERE WHAT IT READS IS OF BULK AT MOST 1048576: true; the input reads as it did. -/
def stockBackUptoRow : OpenClaim := { program := "ytbmnckaajofjmaadoor", sum := "4816efd508a91a5e1d62b29b8bc7b392aea6626cd5b525b74d98e527aa5ec017", func := "backflush/backflushlaw18.StockBack", spec := "stockBack", unfollowed := true, recurses := true, named := ["backflush/stock.head"], apart := false, laid := [("backflush/stock.head", laid_backflush_stock_head)], narrowed := true }
def StockBackUptoSaid : Prop := stockBackUptoRow.holds Tryd.pinned (OpenSpec.upto stockBackSpec)

/-- 'backflushlaw18.StockAll', WHERE WHAT IT READS IS OF BULK AT MOST 1048576: true; the input reads as it did. -/
def stockAllUptoRow : OpenClaim := { program := "ytbmnckaajofjmaadoor", sum := "4816efd508a91a5e1d62b29b8bc7b392aea6626cd5b525b74d98e527aa5ec017", func := "backflush/backflushlaw18.StockAll", spec := "stockAll", unfollowed := true, recurses := true, named := ["backflush/stock.head"], apart := false, laid := [("backflush/stock.head", laid_backflush_stock_head)], narrowed := true }
def StockAllUptoSaid : Prop := stockAllUptoRow.holds Tryd.pinned (OpenSpec.upto stockAllSpec)

/-- 'backflushlaw18.StockUsable', WHERE WHAT IT READS IS OF BULK AT MOST 1048576: true; the input reads as it did. -/
def stockUsableUptoRow : OpenClaim := { program := "ytbmnckaajofjmaadoor", sum := "4816efd508a91a5e1d62b29b8bc7b392aea6626cd5b525b74d98e527aa5ec017", func := "backflush/backflushlaw18.StockUsable", spec := "stockUsable", unfollowed := true, recurses := true, named := ["backflush/stock.head"], apart := false, laid := [("backflush/stock.head", laid_backflush_stock_head)], narrowed := true }
def StockUsableUptoSaid : Prop := stockUsableUptoRow.holds Tryd.pinned (OpenSpec.upto stockUsableSpec)

/-- 'backflushlaw18.StockPast', WHERE WHAT IT READS IS OF BULK AT MOST 1048576: true; the input reads as it did. -/
def stockPastUptoRow : OpenClaim := { program := "ytbmnckaajofjmaadoor", sum := "4816efd508a91a5e1d62b29b8bc7b392aea6626cd5b525b74d98e527aa5ec017", func := "backflush/backflushlaw18.StockPast", spec := "stockPast", unfollowed := true, recurses := true, named := ["backflush/stock.head"], apart := false, laid := [("backflush/stock.head", laid_backflush_stock_head)], narrowed := true }
def StockPastUptoSaid : Prop := stockPastUptoRow.holds Tryd.pinned (OpenSpec.upto stockPastSpec)

/-- 'backflushlaw18.StockReads', WHERE WHAT IT READS IS OF BULK AT MOST 1048576: true; the input reads as it did. -/
def stockReadsUptoRow : OpenClaim := { program := "ytbmnckaajofjmaadoor", sum := "4816efd508a91a5e1d62b29b8bc7b392aea6626cd5b525b74d98e527aa5ec017", func := "backflush/backflushlaw18.StockReads", spec := "stockReads", unfollowed := true, recurses := true, named := ["backflush/stock.head"], apart := false, laid := [("backflush/stock.head", laid_backflush_stock_head)], narrowed := true }
def StockReadsUptoSaid : Prop := stockReadsUptoRow.holds Tryd.pinned (OpenSpec.upto stockReadsSpec)

end Rows
end Go.Proofs.YtbmnckaajofjmaaDoor
