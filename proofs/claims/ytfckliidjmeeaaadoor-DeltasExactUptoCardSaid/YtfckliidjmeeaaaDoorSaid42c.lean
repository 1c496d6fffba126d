/- DeltasExact: for every input whose values and letters are together at most 1048576, the law returns true, and its arguments read behind the call as they read before; where the library's tables are as their own text lays them. -/
import Derived.Test.YtfckliidjmeeaaaDoorRead42
import Derived.Test.YtfckliidjmeeaaaDoorL42h
import Derived.Test.YtfckliidjmeeaaaDoorCard42
namespace Go.Proofs.YtfckliidjmeeaaaDoor
open Go.ChangeShapes Go.WideShapes Go.ChangeAt Go.RowKit Go.PM
theorem deltasExact_pure {xs : List D} (h : ArgsTyB tt 1048576 12 Tryd.f5.params.toList xs) : CallP Tryd.prog 5 (xs.map .d) (retD [.b true]) := by
  obtain ⟨_, _, rfl, ⟨_, ⟨fa, a, rfl, la, ha⟩, ⟨⟩⟩, ⟨_, _, rfl, ⟨_, ⟨fb, b, rfl, lb, hb⟩, ⟨⟩⟩, ⟨_, _, rfl, ⟨_, hd, rfl⟩, rfl⟩⟩⟩ := h
  obtain ⟨a', a1, a2⟩ := sl_of (f := Ent.d) (sz := 2) fa la (els_of (fun _ h => ent_of (n := 6) h) ha)
  obtain ⟨b', b1, b2⟩ := sl_of (f := Ent.d) (sz := 2) fb lb (els_of (fun _ h => ent_of (n := 6) h) hb)
  obtain ⟨d', d1, d2⟩ := dlt_of (n := 2) hd
  exact callAs (law42_Exact a' b' d' (Nat.lt_of_le_of_lt a2.1 (by decide)) (Nat.lt_of_le_of_lt b2.1 (by decide)) d2) ⟨VLe.d a1, VLe.d b1, VLe.d d1, rfl⟩

theorem deltasExact_reads (os : Os) {H : Type} (enc : TypeId × Value → H) : ∃ places, DataW.whole enc Tryd.prog ((laidWorld os).forCall (fun _ _ => 0) ⟨#[], #[(.slice none 0 0), (.slice none 0 0), (.agg #[.slice none 0 0, .slice none 0 0, .slice none 0 0])], []⟩).memory Tryd.f5.params.toList Rows.deltasExactSpec.vars false #[(.slice none 0 0), (.slice none 0 0), (.agg #[.slice none 0 0, .slice none 0 0, .slice none 0 0])].toList 8 = some ([.nil, .nil, .agg [.nil, .nil, .nil]], [], places) := ⟨[], by kernel_rfl⟩
theorem deltasExact_met (os : Os) : laidMet Tryd.prog Rows.deltasExactUptoRow.laid ((laidWorld os).forCall (fun _ _ => 0) ⟨#[], #[(.slice none 0 0), (.slice none 0 0), (.agg #[.slice none 0 0, .slice none 0 0, .slice none 0 0])], []⟩).memory := laidMet_of_run' 8 (by kernel_rfl) (by kernel_rfl)
set_option maxRecDepth 100000 in
theorem deltasExact_lifted (os : Os) (started : os.Started) (H : Type) (enc : TypeId × Value → H) (F : Stop.Interp) :
    ReturnsInHanded {} Tryd.checked os 5 .any ((Rows.OpenSpec.upto Rows.deltasExactSpec).preRow enc Tryd.prog Tryd.f5 Rows.deltasExactUptoRow.domain false Rows.deltasExactUptoRow.laid) (((Rows.OpenSpec.upto Rows.deltasExactSpec).at F).post enc Tryd.prog Tryd.f5 false true false false) := by
  obtain ⟨places, hx⟩ := deltasExact_reads os enc
  refine returnsInHanded_of_row (C := Tryd.checked) (s := Rows.OpenSpec.upto Rows.deltasExactSpec) own started (by kernel_rfl) Tryd.func5
    (witness_row_at (enc := enc) (C := Tryd.checked) false (laidWorld os) #[(.slice none 0 0), (.slice none 0 0), (.agg #[.slice none 0 0, .slice none 0 0, .slice none 0 0])] rfl (by kernel_rfl) (by kernel_rfl) (by kernel_rfl)
      (OpenSpec.preRow_of_cond 8 hx (by kernel_rfl) (fun k hk => by cases hk; kernel_rfl) (by kernel_rfl) (deltasExact_met os))) ?_
  intro W base args ds gs before hval hW _ hcond _ hL _ _
  exact law_contractB (C := Tryd.checked) (T := tt) (bk := Rows.uptoBulk) (B := 1048576) bulks ttok (n := 12) Tryd.func5 rfl rfl (by kernel_rfl) laidOut (by kernel_rfl) rfl (tb := 4) (by kernel_rfl) rfl (m := 3) rfl
    (fun ds h => by match ds, h with | [a0, a1, a2], _ => rfl) (fun xs hx => deltasExact_pure hx) W (glob_of_laid hL) base args ds gs before hval hW (fun d hd => Nat.le_trans (part_le hd) (bound (hcond _ rfl)))
theorem deltasExact_said : Rows.DeltasExactUptoSaid :=
  OpenClaim.holds_of_cond 5 Tryd.f5 rfl rfl rfl rfl rfl rfl rfl ⟨rfl, rfl, rfl, rfl, rfl⟩ rfl rfl rfl rfl rfl (by kernel_rfl) Tryd.func5 (by kernel_rfl)
    (of_decide_eq_true (by kernel_rfl)) (by unfold Func.isWrapper; first | (rw [if_pos (by decide +kernel)]; kernel_rfl) | (rw [if_neg (by decide +kernel)]; exact ⟨rfl, rfl⟩))
    (fun os started H enc _ F => by rw [OpenClaim.pre_eq_preRow]; exact deltasExact_lifted os started H enc F)
theorem deltasExactUpto_holds : Rows.DeltasExactUptoCardSaid :=
  Claim7.holds_tied_plain_at .later [] _ _ _ _ deltasExact_said (fun _ h => by cases h) (by kernel_rfl) (fun _ h => by cases h) deltasExactUpto_row_tie rfl ⟨rfl, rfl⟩ (by kernel_rfl) rfl
    (fun f fn hf hfn => by
      obtain rfl : f = 5 := Option.some.inj ((show Tryd.prog.funcNamed "backflush/backflushlaw42.DeltasExact" = some 5 by kernel_rfl).symm.trans hf) |>.symm
      obtain rfl : fn = Tryd.f5 := (Option.some.inj (Tryd.func5.symm.trans hfn)).symm
      refine ⟨by kernel_rfl, fun j t ht => ?_⟩
      have hall : (Tryd.f5.params.toList.all fun t => !Tryd.prog.wantsStandIn t) = true := by kernel_rfl
      have := List.all_eq_true.1 hall t (List.mem_of_getElem? (by simpa using ht))
      have e : Tryd.prog.wantsStandIn t = false := by simpa using this
      exact e)
    (by kernel_rfl)

end Go.Proofs.YtfckliidjmeeaaaDoor

