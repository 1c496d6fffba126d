/- DeltasAll: for every input whose values and letters are together at most 1048576, the law returns true, and its arguments read behind the call as they read before; where the library's tables are as their own text lays them. -/
import Derived.Test.YtfckliidjmeeaaaDoorRead42
import Derived.Test.YtfckliidjmeeaaaDoorL42g
import Derived.Test.YtfckliidjmeeaaaDoorCard42
namespace Go.Proofs.YtfckliidjmeeaaaDoor
open Go.ChangeShapes Go.WideShapes Go.ChangeAt Go.RowKit Go.PM
theorem deltasAll_pure {xs : List D} (h : ArgsTyB tt 1048576 12 Tryd.f8.params.toList xs) : CallP Tryd.prog 8 (xs.map .d) (retD [.b true]) := by
  obtain ⟨_, _, rfl, ⟨_, hp, rfl⟩, ⟨_, _, rfl, ⟨_, hq, rfl⟩, ⟨_, _, rfl, ⟨_, ⟨fc, c, rfl, lc, hc⟩, ⟨⟩⟩, ⟨_, _, rfl, ⟨_, ⟨fd, d, rfl, ld, hd⟩, ⟨⟩⟩, ⟨_, _, rfl, ⟨_, ⟨fv, v, rfl, lv, hv⟩, ⟨⟩⟩, ⟨_, _, rfl, ⟨_, ⟨fu, u, rfl, lu, hu⟩, ⟨⟩⟩, ⟨_, _, rfl, ⟨_, ⟨fa, a, rfl, la, ha⟩, ⟨⟩⟩, ⟨_, _, rfl, ⟨_, ⟨fb, b, rfl, lb, hb⟩, ⟨⟩⟩, rfl⟩⟩⟩⟩⟩⟩⟩⟩ := h
  obtain ⟨p', p1, p2⟩ := pla_of (n := 4) hp
  obtain ⟨q', q1, q2⟩ := pla_of (n := 4) hq
  obtain ⟨c', c1, c2⟩ := sl_of (f := Rat.cells) (sz := 3) fc lc (els_of (fun _ h => rat_of (n := 6) h) hc)
  obtain ⟨d', d1, d2⟩ := sl_of (f := Rat.cells) (sz := 3) fd ld (els_of (fun _ h => rat_of (n := 6) h) hd)
  obtain ⟨v', v1, v2⟩ := sl_of' (f := Ver.d) (sz := 4) fv lv (els_of' (fun _ h => ver_of (n := 3) h) hv)
  obtain ⟨u', u1, u2⟩ := sl_of' (f := Ver.d) (sz := 4) fu lu (els_of' (fun _ h => ver_of (n := 3) h) hu)
  obtain ⟨a', a1, a2⟩ := sl_of' (f := Ans.d) (sz := 4) fa la (els_of' (fun _ h => ans_of (n := 3) h) ha)
  obtain ⟨b', b1, b2⟩ := sl_of' (f := Ans.d) (sz := 4) fb lb (els_of' (fun _ h => ans_of (n := 3) h) hb)
  exact callAs (law42_All ⟨p', c', v', a'⟩ ⟨q', d', u', b'⟩ ⟨p2, c2, v2, a2⟩ ⟨q2, d2, u2, b2⟩) ⟨VLe.d p1, VLe.d q1, VLe.d c1, VLe.d d1, VLe.d v1, VLe.d u1, VLe.d a1, VLe.d b1, rfl⟩

theorem deltasAll_reads (os : Os) {H : Type} (enc : TypeId × Value → H) : ∃ places, DataW.whole enc Tryd.prog ((laidWorld os).forCall (fun _ _ => 0) ⟨#[], #[(.agg #[.int .i64 0, .int .i64 0, .slice none 0 0, .slice none 0 0, .slice none 0 0, .slice none 0 0, .slice none 0 0, .slice none 0 0, .slice none 0 0]), (.agg #[.int .i64 0, .int .i64 0, .slice none 0 0, .slice none 0 0, .slice none 0 0, .slice none 0 0, .slice none 0 0, .slice none 0 0, .slice none 0 0]), (.slice none 0 0), (.slice none 0 0), (.slice none 0 0), (.slice none 0 0), (.slice none 0 0), (.slice none 0 0)], []⟩).memory Tryd.f8.params.toList Rows.deltasAllSpec.vars false #[(.agg #[.int .i64 0, .int .i64 0, .slice none 0 0, .slice none 0 0, .slice none 0 0, .slice none 0 0, .slice none 0 0, .slice none 0 0, .slice none 0 0]), (.agg #[.int .i64 0, .int .i64 0, .slice none 0 0, .slice none 0 0, .slice none 0 0, .slice none 0 0, .slice none 0 0, .slice none 0 0, .slice none 0 0]), (.slice none 0 0), (.slice none 0 0), (.slice none 0 0), (.slice none 0 0), (.slice none 0 0), (.slice none 0 0)].toList 8 = some ([.agg [.lit (.int .i64 0), .lit (.int .i64 0), .nil, .nil, .nil, .nil, .nil, .nil, .nil], .agg [.lit (.int .i64 0), .lit (.int .i64 0), .nil, .nil, .nil, .nil, .nil, .nil, .nil], .nil, .nil, .nil, .nil, .nil, .nil], [], places) := ⟨[], by kernel_rfl⟩
theorem deltasAll_met (os : Os) : laidMet Tryd.prog Rows.deltasAllUptoRow.laid ((laidWorld os).forCall (fun _ _ => 0) ⟨#[], #[(.agg #[.int .i64 0, .int .i64 0, .slice none 0 0, .slice none 0 0, .slice none 0 0, .slice none 0 0, .slice none 0 0, .slice none 0 0, .slice none 0 0]), (.agg #[.int .i64 0, .int .i64 0, .slice none 0 0, .slice none 0 0, .slice none 0 0, .slice none 0 0, .slice none 0 0, .slice none 0 0, .slice none 0 0]), (.slice none 0 0), (.slice none 0 0), (.slice none 0 0), (.slice none 0 0), (.slice none 0 0), (.slice none 0 0)], []⟩).memory := laidMet_of_run' 8 (by kernel_rfl) (by kernel_rfl)
set_option maxRecDepth 100000 in
theorem deltasAll_lifted (os : Os) (started : os.Started) (H : Type) (enc : TypeId × Value → H) (F : Stop.Interp) :
    ReturnsInHanded {} Tryd.checked os 8 .any ((Rows.OpenSpec.upto Rows.deltasAllSpec).preRow enc Tryd.prog Tryd.f8 Rows.deltasAllUptoRow.domain false Rows.deltasAllUptoRow.laid) (((Rows.OpenSpec.upto Rows.deltasAllSpec).at F).post enc Tryd.prog Tryd.f8 false true false false) := by
  obtain ⟨places, hx⟩ := deltasAll_reads os enc
  refine returnsInHanded_of_row (C := Tryd.checked) (s := Rows.OpenSpec.upto Rows.deltasAllSpec) own started (by kernel_rfl) Tryd.func8
    (witness_row_at (enc := enc) (C := Tryd.checked) false (laidWorld os) #[(.agg #[.int .i64 0, .int .i64 0, .slice none 0 0, .slice none 0 0, .slice none 0 0, .slice none 0 0, .slice none 0 0, .slice none 0 0, .slice none 0 0]), (.agg #[.int .i64 0, .int .i64 0, .slice none 0 0, .slice none 0 0, .slice none 0 0, .slice none 0 0, .slice none 0 0, .slice none 0 0, .slice none 0 0]), (.slice none 0 0), (.slice none 0 0), (.slice none 0 0), (.slice none 0 0), (.slice none 0 0), (.slice none 0 0)] rfl (by kernel_rfl) (by kernel_rfl) (by kernel_rfl)
      (OpenSpec.preRow_of_cond 8 hx (by kernel_rfl) (fun k hk => by cases hk; kernel_rfl) (by kernel_rfl) (deltasAll_met os))) ?_
  intro W base args ds gs before hval hW _ hcond _ hL _ _
  exact law_contractB (C := Tryd.checked) (T := tt) (bk := Rows.uptoBulk) (B := 1048576) bulks ttok (n := 12) Tryd.func8 rfl rfl (by kernel_rfl) laidOut (by kernel_rfl) rfl (tb := 4) (by kernel_rfl) rfl (m := 8) rfl
    (fun ds h => by match ds, h with | [a0, a1, a2, a3, a4, a5, a6, a7], _ => rfl) (fun xs hx => deltasAll_pure hx) W (glob_of_laid hL) base args ds gs before hval hW (fun d hd => Nat.le_trans (part_le hd) (bound (hcond _ rfl)))
theorem deltasAll_said : Rows.DeltasAllUptoSaid :=
  OpenClaim.holds_of_cond 8 Tryd.f8 rfl rfl rfl rfl rfl rfl rfl ⟨rfl, rfl, rfl, rfl, rfl⟩ rfl rfl rfl rfl rfl (by kernel_rfl) Tryd.func8 (by kernel_rfl)
    (of_decide_eq_true (by kernel_rfl)) (by unfold Func.isWrapper; first | (rw [if_pos (by decide +kernel)]; kernel_rfl) | (rw [if_neg (by decide +kernel)]; exact ⟨rfl, rfl⟩))
    (fun os started H enc _ F => by rw [OpenClaim.pre_eq_preRow]; exact deltasAll_lifted os started H enc F)
theorem deltasAllUpto_holds : Rows.DeltasAllUptoCardSaid :=
  Claim7.holds_tied_plain_at .later [] _ _ _ _ deltasAll_said (fun _ h => by cases h) (by kernel_rfl) (fun _ h => by cases h) deltasAllUpto_row_tie rfl ⟨rfl, rfl⟩ (by kernel_rfl) rfl
    (fun f fn hf hfn => by
      obtain rfl : f = 8 := Option.some.inj ((show Tryd.prog.funcNamed "backflush/backflushlaw42.DeltasAll" = some 8 by kernel_rfl).symm.trans hf) |>.symm
      obtain rfl : fn = Tryd.f8 := (Option.some.inj (Tryd.func8.symm.trans hfn)).symm
      refine ⟨by kernel_rfl, fun j t ht => ?_⟩
      have hall : (Tryd.f8.params.toList.all fun t => !Tryd.prog.wantsStandIn t) = true := by kernel_rfl
      have := List.all_eq_true.1 hall t (List.mem_of_getElem? (by simpa using ht))
      have e : Tryd.prog.wantsStandIn t = false := by simpa using this
      exact e)
    (by kernel_rfl)

end Go.Proofs.YtfckliidjmeeaaaDoor

