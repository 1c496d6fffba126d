/- The package variable head, as the rows list it. -/
import Derived.Test.YtbmnckaajofjmaaDoorRead18
import Derived.Test.YtbmnckaajofjmaaDoorRows
import Derived.Test.YtbmnckaajofjmaaDoorTie
import Derived.Test.YtbmnckaajofjmaaDoorCards
import Derived.SevenTiedAt
import Derived.JoinedOf
import Derived.ChangeVars
import Derived.ChangeSame
namespace Go.Proofs.YtbmnckaajofjmaaDoor
open Go.ChangeShapes Go.WideShapes Go.ChangeAt Go.RowKit Go.PM
theorem own : ownKnob Tryd.prog.godebug = none := by kernel_rfl
theorem laidOut : laidOutB Tryd.prog = true := by kernel_rfl
theorem headNo : Tryd.prog.globalNamed "backflush/stock.head" = some 0 := by kernel_rfl
theorem headType : (Tryd.prog.globals[0]?).map (·.type) = some 73 := by kernel_rfl
def headCells : Array Value := #[.int .i64 0, .int .i64 0, .int .i64 0]
theorem int_of_trod {H : Type} {enc : TypeId × Value → H} {P : Program} {w : World} {base : Nat} {sp : Nat → Bool} {held : Bool} {fuel : Nat} {t : TypeId} {k : IntKind} {c : Value} {y : DataW H × List MemPlace}
    (ht : P.underlying t = some (.int k)) (h : DataW.trod enc P w base sp held fuel t [c] = some y) : ∃ n, c = .int k n ∧ y = (.lit (.int k n), []) := by
  cases fuel with
  | zero => simp [DataW.trod] at h
  | succ fuel =>
    cases c <;> simp [DataW.trod, ht] at h
    rename_i k' n
    obtain ⟨⟨rfl, _⟩, rfl⟩ := h
    exact ⟨n, rfl, rfl⟩
def fieldsOf : TypeDesc → List (Nat × Nat)
  | .struct fs => fs.toList.map fun f => (f.type, f.offset)
  | _ => []
theorem keyUnder0 : (Tryd.prog.underlying 73).map fieldsOf = some [(3, 0), (3, 1), (3, 2)] := by kernel_rfl
theorem keyUnder : ∃ f1 f2 f3 : Field, Tryd.prog.underlying 73 = some (.struct #[f1, f2, f3]) ∧ (f1.type = 3 ∧ f1.offset = 0) ∧ (f2.type = 3 ∧ f2.offset = 1) ∧ f3.type = 3 ∧ f3.offset = 2 := by
  have h := keyUnder0
  generalize Tryd.prog.underlying 73 = u at h
  cases u with
  | none => cases h
  | some u =>
    replace h := Option.some.inj h
    cases u <;> simp only [fieldsOf, reduceCtorEq] at h
    rename_i fs
    obtain ⟨l⟩ := fs
    have hl : l.length = 3 := by simpa using congrArg List.length h
    match l, hl, h with
    | [f1, f2, f3], _, h =>
      simp at h
      exact ⟨f1, f2, f3, rfl, h.1, h.2.1, h.2.2⟩
theorem intUnder : Tryd.prog.underlying 3 = some (.int .i64) := by kernel_rfl
theorem keyCells : Tryd.prog.cellsOf 73 = 3 := by kernel_rfl
theorem intCells : Tryd.prog.cellsOf 3 = 1 := by kernel_rfl
theorem trod3 {H : Type} {enc : TypeId × Value → H} {P : Program} {w : World} {base : Nat} {sp : Nat → Bool} {held : Bool} {fuel : Nat} {t ti : TypeId} {l : List Value} {y : DataW H × List MemPlace} {f1 f2 f3 : Field}
    (hu : P.underlying t = some (.struct #[f1, f2, f3])) (hc : P.cellsOf t = 3) (hci : P.cellsOf ti = 1) (hi : P.underlying ti = some (.int .i64)) (h1 : f1.type = ti ∧ f1.offset = 0) (h2 : f2.type = ti ∧ f2.offset = 1) (h3 : f3.type = ti ∧ f3.offset = 2)
    (hd : DataW.trod enc P w base sp held fuel t l = some y) : ∃ a b c, l = [.int .i64 a, .int .i64 b, .int .i64 c] ∧ y.1 = .agg [.lit (.int .i64 a), .lit (.int .i64 b), .lit (.int .i64 c)] := by
  obtain ⟨a1, b1⟩ := h1
  obtain ⟨a2, b2⟩ := h2
  obtain ⟨a3, b3⟩ := h3
  cases fuel with
  | zero => simp [DataW.trod] at hd
  | succ fuel =>
    simp only [DataW.trod, hu, hc] at hd
    split at hd
    · rename_i hl
      obtain ⟨c0, c1, c2, rfl⟩ : ∃ c0 c1 c2, l = [c0, c1, c2] := by
        match l, hl with
        | [a, b, c], _ => exact ⟨a, b, c, rfl⟩
      simp only [List.mapM_cons, List.mapM_nil, a1, b1, a2, b2, a3, b3, hci, Option.map_eq_some_iff, Option.bind_eq_bind, Option.bind_eq_some_iff, Option.pure_def, Option.some.injEq, List.drop_zero, List.drop_succ_cons, List.take_succ_cons, List.take_zero] at hd
      obtain ⟨xs, ⟨y0, h0, _, ⟨y1, h1, _, ⟨y2, h2, _, rfl, rfl⟩, rfl⟩, rfl⟩, rfl⟩ := hd
      obtain ⟨n0, rfl, rfl⟩ := int_of_trod hi h0
      obtain ⟨n1, rfl, rfl⟩ := int_of_trod hi h1
      obtain ⟨n2, rfl, rfl⟩ := int_of_trod hi h2
      exact ⟨n0, n1, n2, rfl, rfl⟩
    · cases hd
theorem head_of_laid {W : World} (h : laidMet Tryd.prog [("backflush/stock.head", Rows.laid_backflush_stock_head)] W) : W.var? Tryd.prog "backflush/stock.head" = some headCells := by
  obtain ⟨ps, ⟨g, t, cs, fuel, p, q, hg, ht, hvar, hd, _, _⟩, _⟩ := h
  obtain rfl := Option.some.inj (headNo.symm.trans hg)
  obtain rfl := Option.some.inj (headType.symm.trans ht)
  rw [hvar]
  congr 1
  obtain ⟨f1, f2, f3, hu, h1, h2, h3⟩ := keyUnder
  obtain ⟨a, b, c, e1, e2⟩ := trod3 hu keyCells intCells intUnder h1 h2 h3 hd
  obtain ⟨l⟩ := cs
  simp only at e1
  subst e1
  simp only [Rows.laid_backflush_stock_head] at e2
  cases e2
  rfl
set_option maxRecDepth 100000 in
theorem laid_zero (os : Os) (args : Array Value) : laidMetH Tryd.prog [("backflush/stock.head", Rows.laid_backflush_stock_head)] ((World.holding Tryd.prog os ⟨#[], #[], []⟩).forCall (fun _ _ => 0) ⟨#[], args, []⟩).memory := by
  have hrow : ((World.holding Tryd.prog os ⟨#[], #[], []⟩).forCall (fun _ _ => 0) ⟨#[], args, []⟩).memory.heap[0]? = some (.cells headCells 73 (0, 0)) := by kernel_rfl
  refine ⟨_, ⟨0, 73, headCells, 8, [], [], by kernel_rfl, by kernel_rfl, by kernel_rfl, by kernel_rfl, rfl, rfl⟩, by decide, fun b off h => ?_⟩
  have h' : MemPlace.cell b off ∈ [MemPlace.cell 0 0, .cell 0 1, .cell 0 2] := h
  have hb : b = 0 := by
    simp at h'
    omega
  subst hb
  refine ⟨⟨_, _, hrow⟩, fun u v hc => ?_⟩
  simp only [World.cell?, hrow] at hc
  simp at h'
  rcases h' with rfl | rfl | rfl <;> simp [headCells] at hc
theorem glob_of_laid {W : World} (h : laidMetH Tryd.prog [("backflush/stock.head", Rows.laid_backflush_stock_head)] W) : GlobOk W (AllS W) := by
  have hv := head_of_laid (show laidMet _ _ _ from h)
  have hc := fun i => World.var?_cell headNo hv i
  intro p hp j c hj
  have hp : p = (0, [I 0, I 0, I 0]) := by simpa using (show p ∈ [(0, [I 0, I 0, I 0])] from hp)
  subst hp
  have key : ∀ j, j < 3 → W.cell? ⟨0, j, none⟩ = some (.int .i64 0) := fun j hj => by
    have := hc j
    match j, hj with
    | 0, _ => exact this
    | 1, _ => exact this
    | 2, _ => exact this
  have hj3 : j < 3 := (List.getElem?_eq_some_iff.1 hj).1
  have hcj : c = I 0 := by
    match j, hj3, hj with
    | 0, _, hj => exact (Option.some.inj hj).symm
    | 1, _, hj => exact (Option.some.inj hj).symm
    | 2, _, hj => exact (Option.some.inj hj).symm
  subst hcj
  exact ⟨rfl, _, key j hj3, .i _ _, (addr_of_cell (key j hj3)).2⟩
end Go.Proofs.YtbmnckaajofjmaaDoor

