/- DeltasReportSpec: for every input whose values and letters are together at most 1048576, the law returns true, and its arguments read behind the call as they read before; where the library's tables are as their own text lays them. -/
import Derived.Test.YtfckliidjmeeaaaDoorRead42
import Derived.Test.YtfckliidjmeeaaaDoorL42e
import Derived.Test.YtfckliidjmeeaaaDoorCard42
namespace Go.Proofs.YtfckliidjmeeaaaDoor
open Go.ChangeShapes Go.WideShapes Go.ChangeAt Go.RowKit Go.PM
theorem deltasReportSpec_pure {xs : List D} (h : ArgsTyB tt 1048576 12 Tryd.f3.params.toList xs) : CallP Tryd.prog 3 (xs.map .d) (retD [.b true]) := by
  obtain ⟨_, _, rfl, ⟨_, hp, rfl⟩, ⟨_, _, rfl, ⟨_, ⟨fc, c, rfl, lc, hc⟩, ⟨⟩⟩, ⟨_, _, rfl, ⟨_, ⟨fv, v, rfl, lv, hv⟩, ⟨⟩⟩, ⟨_, _, rfl, ⟨_, ⟨fa, a, rfl, la, ha⟩, ⟨⟩⟩, rfl⟩⟩⟩⟩ := h
  obtain ⟨p', p1, p2⟩ := pla_of (n := 4) hp
  obtain ⟨c', c1, c2⟩ := sl_of (f := Rat.cells) (sz := 3) fc lc (els_of (fun _ h => rat_of (n := 6) h) hc)
  obtain ⟨v', v1, v2⟩ := sl_of' (f := Ver.d) (sz := 4) fv lv (els_of' (fun _ h => ver_of (n := 3) h) hv)
  obtain ⟨a', a1, a2⟩ := sl_of' (f := Ans.d) (sz := 4) fa la (els_of' (fun _ h => ans_of (n := 3) h) ha)
  exact callAs (law42_ReportSpec ⟨p', c', v', a'⟩ ⟨p2, c2, v2, a2⟩) ⟨VLe.d p1, VLe.d c1, VLe.d v1, VLe.d a1, rfl⟩
theorem deltasReportSpec_reads (os : Os) {H : Type} (enc : TypeId × Value → H) : ∃ places, DataW.whole enc Tryd.prog ((laidWorld os).forCall (fun _ _ => 0) ⟨#[], #[(.agg #[.int .i64 0, .int .i64 0, .slice none 0 0, .slice none 0 0, .slice none 0 0, .slice none 0 0, .slice none 0 0, .slice none 0 0, .slice none 0 0]), (.slice none 0 0), (.slice none 0 0), (.slice none 0 0)], []⟩).memory Tryd.f3.params.toList Rows.deltasReportSpecSpec.vars false #[(.agg #[.int .i64 0, .int .i64 0, .slice none 0 0, .slice none 0 0, .slice none 0 0, .slice none 0 0, .slice none 0 0, .slice none 0 0, .slice none 0 0]), (.slice none 0 0), (.slice none 0 0), (.slice none 0 0)].toList 8 = some ([.agg [.lit (.int .i64 0), .lit (.int .i64 0), .nil, .nil, .nil, .nil, .nil, .nil, .nil], .nil, .nil, .nil], [], places) := ⟨[], by kernel_rfl⟩
theorem deltasReportSpec_met (os : Os) : laidMet Tryd.prog Rows.deltasReportSpecUptoRow.laid ((laidWorld os).forCall (fun _ _ => 0) ⟨#[], #[(.agg #[.int .i64 0, .int .i64 0, .slice none 0 0, .slice none 0 0, .slice none 0 0, .slice none 0 0, .slice none 0 0, .slice none 0 0, .slice none 0 0]), (.slice none 0 0), (.slice none 0 0), (.slice none 0 0)], []⟩).memory := laidMet_of_run' 8 (by kernel_rfl) (by kernel_rfl)
set_option maxRecDepth 100000 in
theorem deltasReportSpec_lifted (os : Os) (started : os.Started) (H : Type) (enc : TypeId × Value → H) (F : Stop.Interp) :
    ReturnsInHanded {} Tryd.checked os 3 .any ((Rows.OpenSpec.upto Rows.deltasReportSpecSpec).preRow enc Tryd.prog Tryd.f3 Rows.deltasReportSpecUptoRow.domain false Rows.deltasReportSpecUptoRow.laid) (((Rows.OpenSpec.upto Rows.deltasReportSpecSpec).at F).post enc Tryd.prog Tryd.f3 false true false false) := by
  obtain ⟨places, hx⟩ := deltasReportSpec_reads os enc
  refine returnsInHanded_of_row (C := Tryd.checked) (s := Rows.OpenSpec.upto Rows.deltasReportSpecSpec) own started (by kernel_rfl) Tryd.func3
    (witness_row_at (enc := enc) (C := Tryd.checked) false (laidWorld os) #[(.agg #[.int .i64 0, .int .i64 0, .slice none 0 0, .slice none 0 0, .slice none 0 0, .slice none 0 0, .slice none 0 0, .slice none 0 0, .slice none 0 0]), (.slice none 0 0), (.slice none 0 0), (.slice none 0 0)] rfl (by kernel_rfl) (by kernel_rfl) (by kernel_rfl)
      (OpenSpec.preRow_of_cond 8 hx (by kernel_rfl) (fun k hk => by cases hk; kernel_rfl) (by kernel_rfl) (deltasReportSpec_met os))) ?_
  intro W base args ds gs before hval hW _ hcond _ hL _ _
  exact law_contractB (C := Tryd.checked) (T := tt) (bk := Rows.uptoBulk) (B := 1048576) bulks ttok (n := 12) Tryd.func3 rfl rfl (by kernel_rfl) laidOut (by kernel_rfl) rfl (tb := 4) (by kernel_rfl) rfl (m := 4) rfl
    (fun ds h => by match ds, h with | [a0, a1, a2, a3], _ => rfl) (fun xs hx => deltasReportSpec_pure hx) W (glob_of_laid hL) base args ds gs before hval hW (fun d hd => Nat.le_trans (part_le hd) (bound (hcond _ rfl)))
theorem deltasReportSpec_said : Rows.DeltasReportSpecUptoSaid :=
  OpenClaim.holds_of_cond 3 Tryd.f3 rfl rfl rfl rfl rfl rfl rfl ⟨rfl, rfl, rfl, rfl, rfl⟩ rfl rfl rfl rfl rfl (by kernel_rfl) Tryd.func3 (by kernel_rfl)
    (of_decide_eq_true (by kernel_rfl)) (by unfold Func.isWrapper; first | (rw [if_pos (by decide +kernel)]; kernel_rfl) | (rw [if_neg (by decide +kernel)]; exact ⟨rfl, rfl⟩))
    (fun os started H enc _ F => by rw [OpenClaim.pre_eq_preRow]; exact deltasReportSpec_lifted os started H enc F)
theorem deltasReportSpecUpto_holds : Rows.DeltasReportSpecUptoCardSaid :=
  Claim7.holds_tied_plain_at .later [] _ _ _ _ deltasReportSpec_said (fun _ h => by cases h) (by kernel_rfl) (fun _ h => by cases h) deltasReportSpecUpto_row_tie rfl ⟨rfl, rfl⟩ (by kernel_rfl) rfl
    (fun f fn hf hfn => by
      obtain rfl : f = 3 := Option.some.inj ((show Tryd.prog.funcNamed "backflush/backflushlaw42.DeltasReportSpec" = some 3 by kernel_rfl).symm.trans hf) |>.symm
      obtain rfl : fn = Tryd.f3 := (Option.some.inj (Tryd.func3.symm.trans hfn)).symm
      refine ⟨by kernel_rfl, fun j t ht => ?_⟩
      have hall : (Tryd.f3.params.toList.all fun t => !Tryd.prog.wantsStandIn t) = true := by kernel_rfl
      have := List.all_eq_true.1 hall t (List.mem_of_getElem? (by simpa using ht))
      have e : Tryd.prog.wantsStandIn t = false := by simpa using this
      exact e)
    (by kernel_rfl)
end Go.Proofs.YtfckliidjmeeaaaDoor
