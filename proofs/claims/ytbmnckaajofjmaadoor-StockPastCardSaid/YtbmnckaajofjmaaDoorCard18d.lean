/- StockPast: for every input the law returns true, and its arguments read behind the call as they read before; where the package variable head is as its own text lays it. -/
import Derived.Test.YtbmnckaajofjmaaDoorL18b
import Derived.Test.YtbmnckaajofjmaaDoorCard18
namespace Go.Proofs.YtbmnckaajofjmaaDoor
open Go.ChangeShapes Go.WideShapes Go.ChangeAt Go.RowKit Go.PM
theorem stockPast_pure {xs : List D} (h : ArgsTy tt 12 Tryd.f8.params.toList xs) : CallP Tryd.prog 8 (xs.map .d) (retD [.b true]) := by
  obtain ⟨_, _, rfl, ⟨_, hw, rfl⟩, ⟨_, _, rfl, ⟨_, hline, rfl⟩, ⟨_, _, rfl, ⟨_, ⟨day, rfl, hday⟩, ⟨⟩⟩, ⟨_, _, rfl, ⟨_, ⟨known, rfl, hknown⟩, ⟨⟩⟩, rfl⟩⟩⟩⟩ := h
  obtain ⟨w, hw, hww, hwl, hwu⟩ := world_of (n := 1) hw
  obtain ⟨line, hline', _⟩ := line_of (n := 5) hline
  refine CallP.le ?_ (law18_Past w line day known hwl)
  exact ⟨VLe.d hw, VLe.d (by rw [hline']; exact DLe.refl _), VLe.refl _, VLe.refl _, rfl⟩

set_option maxRecDepth 100000 in
theorem stockPast_lifted (os : Os) (started : os.Started) (H : Type) (enc : TypeId × Value → H) :
    ReturnsInHanded {} Tryd.checked os 8 .any (fun w args => (Rows.stockPastSpec.pre enc Tryd.prog Tryd.f8 [] false w args ∧ laidMetH Tryd.prog [("backflush/stock.head", Rows.laid_backflush_stock_head)] w) ∧ sizedMet enc Tryd.prog Tryd.f8 (OpenSpec.ofChange Rows.stockPastSpec) false w args)
      (Rows.stockPastSpec.post enc Tryd.prog Tryd.f8 false true false false) := by
  refine returnsInHanded_of_change_and (C := Tryd.checked) (X := fun w _ => laidMetH Tryd.prog [("backflush/stock.head", Rows.laid_backflush_stock_head)] w) (fun _ _ _ hh h => h.of_heap hh) own started (by kernel_rfl) Tryd.func8
    (ChangeSpec.witness_at (enc := enc) (C := Tryd.checked) (os := os) (X := fun w _ => laidMetH Tryd.prog [("backflush/stock.head", Rows.laid_backflush_stock_head)] w) false (World.holding Tryd.prog os ⟨#[], #[], []⟩) #[(.agg #[.slice none 0 0, .slice none 0 0, .slice none 0 0, .slice none 0 0, .slice none 0 0, .slice none 0 0, .slice none 0 0, .slice none 0 0, .slice none 0 0, .slice none 0 0, .slice none 0 0]), (.agg #[.int .i64 0, .int .i64 0, .int .i64 0]), (.int .i64 0), (.int .i64 0)] 8 rfl (by kernel_rfl) (by kernel_rfl) (by kernel_rfl) (by kernel_rfl) (by kernel_rfl) (laid_zero os _)) ?_
  intro W base args ds gs before hval0 hW _ _ hL _
  exact law_contract (C := Tryd.checked) (T := tt) ttok (n := 12) Tryd.func8 rfl rfl (by kernel_rfl) laidOut (by kernel_rfl) rfl (tb := 4) (by kernel_rfl) rfl (m := 4) rfl
    (fun ds h => by match ds, h with | [a0, a1, a2, a3], _ => rfl) (fun xs hx => stockPast_pure hx) W (glob_of_laid hL) base args ds gs before hval0 hW
theorem stockPast_said : Rows.StockPastSaid :=
  OpenClaim.holds_of_wide 8 Tryd.f8 rfl rfl rfl rfl rfl rfl rfl ⟨rfl, rfl, rfl, rfl, rfl⟩ rfl rfl rfl rfl rfl (by kernel_rfl) Tryd.func8 (by kernel_rfl)
    (of_decide_eq_true (by kernel_rfl)) (by unfold Func.isWrapper; first | (rw [if_pos (by decide +kernel)]; kernel_rfl) | (rw [if_neg (by decide +kernel)]; exact ⟨rfl, rfl⟩))
    (fun os started H enc _ => stockPast_lifted os started H enc)
theorem stockPast_holds : Rows.StockPastCardSaid :=
  Claim7.holds_tied_plain_at .later [] [.data] true (true, "952187bd3e142125ef87e64c8f2475cad2e4edc430240e5b376d799b9b2f12c1") false
    stockPast_said (fun _ h => by cases h) (by kernel_rfl) (fun _ h => by cases h) stockPast_row_tie rfl ⟨rfl, rfl⟩ (by kernel_rfl) rfl
    (fun f fn hf hfn => by
      obtain rfl : f = 8 := Option.some.inj ((show Tryd.prog.funcNamed "backflush/backflushlaw18.StockPast" = some 8 by kernel_rfl).symm.trans hf) |>.symm
      obtain rfl : fn = Tryd.f8 := (Option.some.inj (Tryd.func8.symm.trans hfn)).symm
      refine ⟨by kernel_rfl, fun j t ht => ?_⟩
      have hall : (Tryd.f8.params.toList.all fun t => !Tryd.prog.wantsStandIn t) = true := by kernel_rfl
      have := List.all_eq_true.1 hall t (List.mem_of_getElem? (by simpa using ht))
      have e : Tryd.prog.wantsStandIn t = false := by simpa using this
      exact e)
    (by kernel_rfl)

end Go.Proofs.YtbmnckaajofjmaaDoor

