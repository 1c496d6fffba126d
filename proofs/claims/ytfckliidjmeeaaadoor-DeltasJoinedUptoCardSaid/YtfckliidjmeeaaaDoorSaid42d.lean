/- DeltasJoined: for every input whose values and letters are together at most 1048576, the law returns true, and its arguments read behind the call as they read before; where the library's tables are as their own text lays them. -/
import Derived.Test.YtfckliidjmeeaaaDoorRead42
import Derived.Test.YtfckliidjmeeaaaDoorL42f
import Derived.Test.YtfckliidjmeeaaaDoorCard42
namespace Go.Proofs.YtfckliidjmeeaaaDoor
open Go.ChangeShapes Go.WideShapes Go.ChangeAt Go.RowKit Go.PM
theorem deltasJoined_pure {xs : List D} (h : ArgsTyB tt 1048576 12 Tryd.f6.params.toList xs) : CallP Tryd.prog 6 (xs.map .d) (retD [.b true]) := by
  obtain ⟨_, _, rfl, ⟨_, ⟨fa, a, rfl, la, ha⟩, ⟨⟩⟩, ⟨_, _, rfl, ⟨_, hd, rfl⟩, ⟨_, _, rfl, ⟨_, he, rfl⟩, rfl⟩⟩⟩ := h
  obtain ⟨a', a1, a2⟩ := sl_of (f := Ent.d) (sz := 2) fa la (els_of (fun _ h => ent_of (n := 6) h) ha)
  obtain ⟨d', d1, d2⟩ := dlt_of (n := 2) hd
  obtain ⟨e', e1, e2⟩ := dlt_of (n := 2) he
  exact callAs (law42_Joined a' d' e' (Nat.lt_of_le_of_lt a2.1 (by decide)) d2 e2) ⟨VLe.d a1, VLe.d d1, VLe.d e1, rfl⟩

theorem deltasJoined_reads (os : Os) {H : Type} (enc : TypeId × Value → H) : ∃ places, DataW.whole enc Tryd.prog ((laidWorld os).forCall (fun _ _ => 0) ⟨#[], #[(.slice none 0 0), (.agg #[.slice none 0 0, .slice none 0 0, .slice none 0 0]), (.agg #[.slice none 0 0, .slice none 0 0, .slice none 0 0])], []⟩).memory Tryd.f6.params.toList Rows.deltasJoinedSpec.vars false #[(.slice none 0 0), (.agg #[.slice none 0 0, .slice none 0 0, .slice none 0 0]), (.agg #[.slice none 0 0, .slice none 0 0, .slice none 0 0])].toList 8 = some ([.nil, .agg [.nil, .nil, .nil], .agg [.nil, .nil, .nil]], [], places) := ⟨[], by kernel_rfl⟩
theorem deltasJoined_met (os : Os) : laidMet Tryd.prog Rows.deltasJoinedUptoRow.laid ((laidWorld os).forCall (fun _ _ => 0) ⟨#[], #[(.slice none 0 0), (.agg #[.slice none 0 0, .slice none 0 0, .slice none 0 0]), (.agg #[.slice none 0 0, .slice none 0 0, .slice none 0 0])], []⟩).memory := laidMet_of_run' 8 (by kernel_rfl) (by kernel_rfl)
set_option maxRecDepth 100000 in
theorem deltasJoined_lifted (os : Os) (started : os.Started) (H : Type) (enc : TypeId × Value → H) (F : Stop.Interp) :
    ReturnsInHanded {} Tryd.checked os 6 .any ((Rows.OpenSpec.upto Rows.deltasJoinedSpec).preRow enc Tryd.prog Tryd.f6 Rows.deltasJoinedUptoRow.domain false Rows.deltasJoinedUptoRow.laid) (((Rows.OpenSpec.upto Rows.deltasJoinedSpec).at F).post enc Tryd.prog Tryd.f6 false true false false) := by
  obtain ⟨places, hx⟩ := deltasJoined_reads os enc
  refine returnsInHanded_of_row (C := Tryd.checked) (s := Rows.OpenSpec.upto Rows.deltasJoinedSpec) own started (by kernel_rfl) Tryd.func6
    (witness_row_at (enc := enc) (C := Tryd.checked) false (laidWorld os) #[(.slice none 0 0), (.agg #[.slice none 0 0, .slice none 0 0, .slice none 0 0]), (.agg #[.slice none 0 0, .slice none 0 0, .slice none 0 0])] rfl (by kernel_rfl) (by kernel_rfl) (by kernel_rfl)
      (OpenSpec.preRow_of_cond 8 hx (by kernel_rfl) (fun k hk => by cases hk; kernel_rfl) (by kernel_rfl) (deltasJoined_met os))) ?_
  intro W base args ds gs before hval hW _ hcond _ hL _ _
  exact law_contractB (C := Tryd.checked) (T := tt) (bk := Rows.uptoBulk) (B := 1048576) bulks ttok (n := 12) Tryd.func6 rfl rfl (by kernel_rfl) laidOut (by kernel_rfl) rfl (tb := 4) (by kernel_rfl) rfl (m := 3) rfl
    (fun ds h => by match ds, h with | [a0, a1, a2], _ => rfl) (fun xs hx => deltasJoined_pure hx) W (glob_of_laid hL) base args ds gs before hval hW (fun d hd => Nat.le_trans (part_le hd) (bound (hcond _ rfl)))
theorem deltasJoined_said : Rows.DeltasJoinedUptoSaid :=
  OpenClaim.holds_of_cond 6 Tryd.f6 rfl rfl rfl rfl rfl rfl rfl ⟨rfl, rfl, rfl, rfl, rfl⟩ rfl rfl rfl rfl rfl (by kernel_rfl) Tryd.func6 (by kernel_rfl)
    (of_decide_eq_true (by kernel_rfl)) (by unfold Func.isWrapper; first | (rw [if_pos (by decide +kernel)]; kernel_rfl) | (rw [if_neg (by decide +kernel)]; exact ⟨rfl, rfl⟩))
    (fun os started H enc _ F => by rw [OpenClaim.pre_eq_preRow]; exact deltasJoined_lifted os started H enc F)
theorem deltasJoinedUpto_holds : Rows.DeltasJoinedUptoCardSaid :=
  Claim7.holds_tied_plain_at .later [] _ _ _ _ deltasJoined_said (fun _ h => by cases h) (by kernel_rfl) (fun _ h => by cases h) deltasJoinedUpto_row_tie rfl ⟨rfl, rfl⟩ (by kernel_rfl) rfl
    (fun f fn hf hfn => by
      obtain rfl : f = 6 := Option.some.inj ((show Tryd.prog.funcNamed "backflush/backflushlaw42.DeltasJoined" = some 6 by kernel_rfl).symm.trans hf) |>.symm
      obtain rfl : fn = Tryd.f6 := (Option.some.inj (Tryd.func6.symm.trans hfn)).symm
      refine ⟨by kernel_rfl, fun j t ht => ?_⟩
      have hall : (Tryd.f6.params.toList.all fun t => !Tryd.prog.wantsStandIn t) = true := by kernel_rfl
      have := List.all_eq_true.1 hall t (List.mem_of_getElem? (by simpa using ht))
      have e : Tryd.prog.wantsStandIn t = false := by simpa using this
      exact e)
    (by kernel_rfl)

end Go.Proofs.YtfckliidjmeeaaaDoor

