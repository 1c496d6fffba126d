/- Deltas: the library's tables, as the rows list them; how much a reading holds. -/
import Derived.Test.YtfckliidjmeeaaaDoorBase42
import Derived.Test.YtfckliidjmeeaaaDoorPmReadtoPmBulk
import Derived.Test.YtfckliidjmeeaaaDoorRows
import Derived.Test.YtfckliidjmeeaaaDoorTie
import Derived.Test.YtfckliidjmeeaaaDoorCards
import Derived.SevenTiedAt
import Derived.JoinedOf
import Derived.ChangeVars
import Derived.ChangeSame
import Derived.Deep.DeepHandedRow
import Derived.Lib.LaidTab
namespace Go.Proofs.YtfckliidjmeeaaaDoor
open Go.ChangeShapes Go.WideShapes Go.ChangeAt Go.RowKit Go.PM
theorem own : ownKnob Tryd.prog.godebug = none := by kernel_rfl
theorem laidOut : laidOutB Tryd.prog = true := by kernel_rfl
theorem part_le {H : Type} {d : DataW H} {l : List (DataW H)} (h : d ∈ l) : Rows.uptoBulk d ≤ Rows.uptoBulkAll l := by
  induction l with
  | nil => cases h
  | cons x r ih =>
    simp only [Rows.uptoBulkAll]
    rcases List.mem_cons.1 h with e | e
    · subst e; omega
    · have := ih e; omega
theorem one_le {H : Type} (d : DataW H) : 1 ≤ Rows.uptoBulk d := by
  cases d with
  | lit l => cases l <;> simp [Rows.uptoBulk]
  | nil => simp [Rows.uptoBulk]
  | ptr d => simp [Rows.uptoBulk]
  | slice elems spare => simp [Rows.uptoBulk]
  | agg parts => simp [Rows.uptoBulk]
  | iface t d => simp [Rows.uptoBulk]
  | map entries => simp [Rows.uptoBulk]
  | held h => simp [Rows.uptoBulk]
theorem len_le {H : Type} (l : List (DataW H)) : l.length ≤ Rows.uptoBulkAll l := by
  induction l with
  | nil => simp
  | cons x r ih =>
    have := one_le x
    simp only [Rows.uptoBulkAll, List.length_cons]; omega
theorem bound {H : Type} {l : List (DataW H)} (hk : Rows.uptoSmall H l = true) : Rows.uptoBulkAll l ≤ 1048576 := of_decide_eq_true hk
theorem bulks {H : Type} : Bulk (H := H) Rows.uptoBulk where
  str := fun b => by simp [Rows.uptoBulk]
  sl := fun e s => by
    have := len_le e
    simp only [Rows.uptoBulk]; omega
  slE := fun e s x hx => by
    have := part_le hx
    simp only [Rows.uptoBulk]; omega
  ag := fun l x hx => by
    have := part_le hx
    simp only [Rows.uptoBulk]; omega
def tab0 : List Int := [1, 10, 100, 1000, 10000, 100000, 1000000, 10000000, 100000000, 1000000000, 10000000000, 100000000000, 1000000000000, 10000000000000, 100000000000000, 1000000000000000, 10000000000000000, 100000000000000000, 1000000000000000000, 10000000000000000000]
def tab1 : List Int := [0, 1, 28, 2, 29, 14, 24, 3, 30, 22, 20, 15, 25, 17, 4, 8, 31, 27, 13, 23, 21, 19, 16, 7, 26, 12, 18, 6, 11, 5, 10, 9]
def tab2 : List Int := [0, 1, 56, 2, 57, 49, 28, 3, 61, 58, 42, 50, 38, 29, 17, 4, 62, 47, 59, 36, 45, 43, 51, 22, 53, 39, 33, 30, 24, 18, 12, 5, 63, 55, 48, 27, 60, 41, 37, 16, 46, 35, 44, 21, 52, 32, 23, 11, 54, 26, 40, 15, 34, 20, 31, 10, 25, 14, 19, 9, 13, 8, 7, 6]
theorem gNo0 : Tryd.prog.globalNamed "internal/strconv.uint64pow10" = some 0 := by kernel_rfl
theorem gNo1 : Tryd.prog.globalNamed "math/bits.deBruijn32tab" = some 1 := by kernel_rfl
theorem gNo2 : Tryd.prog.globalNamed "math/bits.deBruijn64tab" = some 2 := by kernel_rfl
theorem tab_head {P : Program} {W : World} {name : String} {k : IntKind} {zs : List Int} {rest : List (String × DataW Unit)} {ps : List MemPlace} {g : Nat} {t e : TypeId} {n : Nat}
    (hg : P.globalNamed name = some g) (hty : (P.globals[g]?).map (·.type) = some t) (ht : P.underlying t = some (.array n e)) (he : P.underlying e = some (.int k)) (hce : P.cellsOf e = 1) (hct : P.cellsOf t = n)
    (h : DataW.LaidVars P W ((name, Lib.tabData k zs) :: rest) ps) : Lib.TabIs P W name k zs ∧ ∃ qs, DataW.LaidVars P W rest qs := by
  obtain ⟨g', t', cs, fuel, p, q, hg', ht', hvar, hd, hr, _⟩ := h
  obtain rfl := Option.some.inj (hg.symm.trans hg')
  obtain rfl := Option.some.inj (hty.symm.trans ht')
  refine ⟨?_, q, hr⟩
  unfold Lib.TabIs
  rw [hvar, ← Lib.cells_of_tab ht he hce hct hd]
theorem tab_cells {P : Program} {W : World} {name : String} {k : IntKind} {zs : List Int} {g : Nat} (h : Lib.TabIs P W name k zs) (hg : P.globalNamed name = some g) :
    (∀ (j : Nat) (c : D), (zs.map (D.i k))[j]? = some c → c.flat = true ∧ ∃ u, W.cell? ⟨g, j, none⟩ = some u ∧ DR W (AllS W) c u ∧ AllS W g j) ∧ ∃ cs e f, W.heap[g]? = some (.cells cs e f) ∧ cs.size = (zs.map (D.i k)).length := by
  constructor
  · intro j c hj
    have hl : j < zs.length := by have := (List.getElem?_eq_some_iff.1 hj).1; simpa using this
    have hc : c = .i k zs[j] := by rw [List.getElem?_map, List.getElem?_eq_getElem hl] at hj; simpa using hj.symm
    subst hc
    have h1 : W.cell? ⟨g, j, none⟩ = some (.int k zs[j]) := by
      have := World.var?_cell hg h j
      simpa [hl] using this
    exact ⟨rfl, _, h1, .i _ _, (addr_of_cell h1).2⟩
  · unfold Lib.TabIs World.var? at h
    rw [hg] at h
    simp only [Option.bind_some] at h
    split at h
    · rename_i cs e f hh
      exact ⟨cs, e, f, hh, by rw [Option.some.inj h]; simp⟩
    · cases h
def laid : List (String × DataW Unit) := [("math/bits.deBruijn32tab", Lib.tabData .u8 tab1), ("math/bits.deBruijn64tab", Lib.tabData .u8 tab2), ("internal/strconv.uint64pow10", Lib.tabData .u64 tab0)]
theorem glob_of_laid {W : World} (h : laidMetH Tryd.prog laid W) : GlobOk W (AllS W) := by
  obtain ⟨ps, hv, _⟩ := (show laidMet Tryd.prog laid W from h)
  obtain ⟨t1, _, hv⟩ := tab_head (t := 187) (e := 5) (n := 32) gNo1 (by kernel_rfl) (by kernel_rfl) (by kernel_rfl) (by kernel_rfl) (by kernel_rfl) hv
  obtain ⟨t2, _, hv⟩ := tab_head (t := 188) (e := 5) (n := 64) gNo2 (by kernel_rfl) (by kernel_rfl) (by kernel_rfl) (by kernel_rfl) (by kernel_rfl) hv
  obtain ⟨t0, _, _⟩ := tab_head (t := 184) (e := 163) (n := 20) gNo0 (by kernel_rfl) (by kernel_rfl) (by kernel_rfl) (by kernel_rfl) (by kernel_rfl) hv
  have c0 := tab_cells t0 gNo0
  have c1 := tab_cells t1 gNo1
  have c2 := tab_cells t2 gNo2
  have hp : ∀ p ∈ Glob.cells, p = (0, tab0.map (D.i .u64)) ∨ p = (1, tab1.map (D.i .u8)) ∨ p = (2, tab2.map (D.i .u8)) := fun p hp => by
    have hp : p ∈ [(0, tab0.map (D.i .u64)), (1, tab1.map (D.i .u8)), (2, tab2.map (D.i .u8))] := hp
    simpa using hp
  constructor
  · intro p h
    rcases hp p h with rfl | rfl | rfl
    · exact c0.1
    · exact c1.1
    · exact c2.1
  · intro p h
    rcases hp p h with rfl | rfl | rfl
    · exact c0.2
    · exact c1.2
    · exact c2.2
def tabObj (cs : Array Value) : Obj → Obj
  | .cells _ t f => .cells cs t f
  | o => o
def tabHeap (h : Array Obj) : Array Obj :=
  ((h.modify 0 (tabObj (tab0.map (Value.int .u64)).toArray)).modify 1 (tabObj (tab1.map (Value.int .u8)).toArray)).modify 2 (tabObj (tab2.map (Value.int .u8)).toArray)
noncomputable def laidWorld (os : Os) : World :=
  { World.holding Tryd.prog os ⟨#[], #[], []⟩ with heap := tabHeap (World.holding Tryd.prog os ⟨#[], #[], []⟩).heap }
end Go.Proofs.YtfckliidjmeeaaaDoor
