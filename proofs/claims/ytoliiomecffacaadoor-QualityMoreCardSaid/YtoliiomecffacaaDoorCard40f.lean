/- QualityMore: for every input the law returns true, and its arguments read behind the call as they read before; where the package variable head is as its own text lays it. -/
import Derived.Test.YtoliiomecffacaaDoorL40e
import Derived.Test.YtoliiomecffacaaDoorCard40
namespace Go.Proofs.YtoliiomecffacaaDoor
open Go.ChangeShapes Go.WideShapes Go.ChangeAt Go.RowKit Go.PM
theorem u8_of {n : Int} (h : HasI .u8 n) : 0 ≤ n ∧ n ≤ 255 := by
  simp [HasI, Lit.wf, IntKind.min, IntKind.max, IntKind.bits, IntKind.signed] at h
  omega
theorem qualityMore_pure {xs : List D} (h : ArgsTy tt 12 Tryd.f6.params.toList xs) : CallP Tryd.prog 6 (xs.map .d) (retD [.b true]) := by
  obtain ⟨_, _, rfl, ⟨_, hw, rfl⟩, ⟨_, _, rfl, ⟨_, ⟨lot, rfl, hlot⟩, ⟨⟩⟩, ⟨_, _, rfl, ⟨_, ⟨day, rfl, hday⟩, ⟨⟩⟩, ⟨_, _, rfl, ⟨_, ⟨known, rfl, hknown⟩, ⟨⟩⟩, ⟨_, _, rfl, ⟨_, ⟨fl, l, rfl, ll, hl⟩, ⟨⟩⟩, ⟨_, _, rfl, ⟨_, ⟨fheld, held, rfl, lheld, hheld⟩, ⟨⟩⟩, ⟨_, _, rfl, ⟨_, ⟨at_, rfl, hat_⟩, ⟨⟩⟩, ⟨_, _, rfl, ⟨_, ⟨by_, rfl, hby_⟩, ⟨⟩⟩, rfl⟩⟩⟩⟩⟩⟩⟩⟩ := h
  obtain ⟨w, hw, _⟩ := world_of (n := 1) hw
  obtain ⟨l, rfl, _⟩ := spec_ofs (n := 4) hl
  obtain ⟨held, rfl, _⟩ := ints_of (n := 4) hheld
  refine CallP.le ?_ (law40_More w lot day known l held at_ by_ (u8_of hat_))
  exact ⟨VLe.d hw, VLe.refl _, VLe.refl _, VLe.refl _, VLe.d (DLe.full _ _ _), VLe.d (DLe.full _ _ _), VLe.refl _, VLe.refl _, rfl⟩

set_option maxRecDepth 100000 in
theorem qualityMore_lifted (os : Os) (started : os.Started) (H : Type) (enc : TypeId × Value → H) :
    ReturnsInHanded {} Tryd.checked os 6 .any (fun w args => (Rows.qualityMoreSpec.pre enc Tryd.prog Tryd.f6 [] false w args ∧ laidMetH Tryd.prog [("backflush/stock.head", Rows.laid_backflush_stock_head)] w) ∧ sizedMet enc Tryd.prog Tryd.f6 (OpenSpec.ofChange Rows.qualityMoreSpec) false w args)
      (Rows.qualityMoreSpec.post enc Tryd.prog Tryd.f6 false true false false) := by
  refine returnsInHanded_of_change_and (C := Tryd.checked) (X := fun w _ => laidMetH Tryd.prog [("backflush/stock.head", Rows.laid_backflush_stock_head)] w) (fun _ _ _ hh h => h.of_heap hh) own started (by kernel_rfl) Tryd.func6
    (ChangeSpec.witness_at (enc := enc) (C := Tryd.checked) (os := os) (X := fun w _ => laidMetH Tryd.prog [("backflush/stock.head", Rows.laid_backflush_stock_head)] w) false (World.holding Tryd.prog os ⟨#[], #[], []⟩) #[(.agg #[.slice none 0 0, .slice none 0 0, .slice none 0 0, .slice none 0 0, .slice none 0 0, .slice none 0 0, .slice none 0 0, .slice none 0 0, .slice none 0 0, .slice none 0 0, .slice none 0 0]), (.int .i64 0), (.int .i64 0), (.int .i64 0), (.slice none 0 0), (.slice none 0 0), (.int .u8 0), (.int .i64 0)] 8 rfl (by kernel_rfl) (by kernel_rfl) (by kernel_rfl) (by kernel_rfl) (by kernel_rfl) (laid_zero os _)) ?_
  intro W base args ds gs before hval0 hW _ _ hL _
  exact law_contract (C := Tryd.checked) (T := tt) ttok (n := 12) Tryd.func6 rfl rfl (by kernel_rfl) laidOut (by kernel_rfl) rfl (tb := 4) (by kernel_rfl) rfl (m := 8) rfl
    (fun ds h => by match ds, h with | [a0, a1, a2, a3, a4, a5, a6, a7], _ => rfl) (fun xs hx => qualityMore_pure hx) W (glob_of_laid hL) base args ds gs before hval0 hW
theorem qualityMore_said : Rows.QualityMoreSaid :=
  OpenClaim.holds_of_wide 6 Tryd.f6 rfl rfl rfl rfl rfl rfl rfl ⟨rfl, rfl, rfl, rfl, rfl⟩ rfl rfl rfl rfl rfl (by kernel_rfl) Tryd.func6 (by kernel_rfl)
    (of_decide_eq_true (by kernel_rfl)) (by unfold Func.isWrapper; first | (rw [if_pos (by decide +kernel)]; kernel_rfl) | (rw [if_neg (by decide +kernel)]; exact ⟨rfl, rfl⟩))
    (fun os started H enc _ => qualityMore_lifted os started H enc)
theorem qualityMore_holds : Rows.QualityMoreCardSaid :=
  Claim7.holds_tied_plain_at .later [] [.data] true (true, "3857edb47c7d36df9a3f4d4cec1e52fd0a9d4a3f994bbbaa0b21b2b4f8dc1e73") false
    qualityMore_said (fun _ h => by cases h) (by kernel_rfl) (fun _ h => by cases h) qualityMore_row_tie rfl ⟨rfl, rfl⟩ (by kernel_rfl) rfl
    (fun f fn hf hfn => by
      obtain rfl : f = 6 := Option.some.inj ((show Tryd.prog.funcNamed "backflush/backflushlaw40.QualityMore" = some 6 by kernel_rfl).symm.trans hf) |>.symm
      obtain rfl : fn = Tryd.f6 := (Option.some.inj (Tryd.func6.symm.trans hfn)).symm
      refine ⟨by kernel_rfl, fun j t ht => ?_⟩
      have hall : (Tryd.f6.params.toList.all fun t => !Tryd.prog.wantsStandIn t) = true := by kernel_rfl
      have := List.all_eq_true.1 hall t (List.mem_of_getElem? (by simpa using ht))
      have e : Tryd.prog.wantsStandIn t = false := by simpa using this
      exact e)
    (by kernel_rfl)

end Go.Proofs.YtoliiomecffacaaDoor

