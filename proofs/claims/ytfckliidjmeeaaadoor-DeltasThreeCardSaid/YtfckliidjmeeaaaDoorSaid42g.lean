/- DeltasThree: for every input the law returns true, and its arguments read behind the call as they read before; where the library's tables are as their own text lays them. -/
import Derived.Test.YtfckliidjmeeaaaDoorL42f
import Derived.Test.YtfckliidjmeeaaaDoorCard42
namespace Go.Proofs.YtfckliidjmeeaaaDoor
open Go.ChangeShapes Go.WideShapes Go.ChangeAt Go.RowKit Go.PM
theorem ents_of {n : Nat} (fl : Bool) {ys : List D} (hl : ys.length ≤ maxLen) (h : ∀ y ∈ ys, ∃ zs, DTy tt (n + 5) 52 zs ∧ y = .agg zs) : ∃ l : List Ent, DLe (.sl 2 fl ys) (SL 2 (l.map Ent.d)) ∧ l.length < 2 ^ 63 := by
  have key : ∀ ys : List D, (∀ y ∈ ys, ∃ zs, DTy tt (n + 5) 52 zs ∧ y = .agg zs) → ∃ l : List Ent, ys = l.map Ent.d := by
    intro ys
    induction ys with
    | nil => exact fun _ => ⟨[], rfl⟩
    | cons y ys ih =>
      intro h
      obtain ⟨zs, hz, rfl⟩ := h y (.head _)
      obtain ⟨_, _, rfl, ⟨a, rfl⟩, ⟨_, _, rfl, ⟨b, rfl⟩, rfl⟩⟩ := hz
      obtain ⟨l, rfl⟩ := ih fun y hy => h y (.tail _ hy)
      exact ⟨⟨a, b⟩ :: l, rfl⟩
  obtain ⟨l, rfl⟩ := key ys h
  refine ⟨l, DLe.full _ _ _, ?_⟩
  rw [List.length_map] at hl
  exact Nat.lt_of_le_of_lt hl (by decide)
theorem deltasThree_pure {xs : List D} (h : ArgsTy tt 12 Tryd.f7.params.toList xs) : CallP Tryd.prog 7 (xs.map .d) (retD [.b true]) := by
  obtain ⟨_, _, rfl, ⟨_, ⟨fa, a, rfl, la, ha⟩, ⟨⟩⟩, ⟨_, _, rfl, ⟨_, ⟨fb, b, rfl, lb, hb⟩, ⟨⟩⟩, ⟨_, _, rfl, ⟨_, ⟨fc, c, rfl, lc, hc⟩, ⟨⟩⟩, rfl⟩⟩⟩ := h
  obtain ⟨a', a1, a2⟩ := ents_of (n := 6) fa la ha
  obtain ⟨b', b1, b2⟩ := ents_of (n := 6) fb lb hb
  obtain ⟨c', c1, c2⟩ := ents_of (n := 6) fc lc hc
  exact callAs (law42_Three a' b' c' a2 b2 c2) ⟨VLe.d a1, VLe.d b1, VLe.d c1, rfl⟩

theorem deltasThree_reads (os : Os) {H : Type} (enc : TypeId × Value → H) : ∃ places, DataW.whole enc Tryd.prog ((laidWorld os).forCall (fun _ _ => 0) ⟨#[], #[(.slice none 0 0), (.slice none 0 0), (.slice none 0 0)], []⟩).memory Tryd.f7.params.toList Rows.deltasThreeSpec.vars false #[(.slice none 0 0), (.slice none 0 0), (.slice none 0 0)].toList 8 = some ([.nil, .nil, .nil], [], places) := ⟨[], by kernel_rfl⟩
theorem deltasThree_met (os : Os) : laidMet Tryd.prog Rows.deltasThreeRow.laid ((laidWorld os).forCall (fun _ _ => 0) ⟨#[], #[(.slice none 0 0), (.slice none 0 0), (.slice none 0 0)], []⟩).memory := laidMet_of_run' 8 (by kernel_rfl) (by kernel_rfl)
set_option maxRecDepth 100000 in
theorem deltasThree_lifted (os : Os) (started : os.Started) (H : Type) (enc : TypeId × Value → H) (F : Stop.Interp) :
    ReturnsInHanded {} Tryd.checked os 7 .any ((OpenSpec.ofChange Rows.deltasThreeSpec).preRow enc Tryd.prog Tryd.f7 Rows.deltasThreeRow.domain false Rows.deltasThreeRow.laid) (((OpenSpec.ofChange Rows.deltasThreeSpec).at F).post enc Tryd.prog Tryd.f7 false true false false) := by
  obtain ⟨places, hx⟩ := deltasThree_reads os enc
  refine returnsInHanded_of_row (C := Tryd.checked) (s := OpenSpec.ofChange Rows.deltasThreeSpec) own started (by kernel_rfl) Tryd.func7
    (witness_row_at (enc := enc) (C := Tryd.checked) false (laidWorld os) #[(.slice none 0 0), (.slice none 0 0), (.slice none 0 0)] rfl (by kernel_rfl) (by kernel_rfl) (by kernel_rfl)
      (OpenSpec.preRow_of_cond 8 hx (by kernel_rfl) (fun k hk => by cases hk) (by kernel_rfl) (deltasThree_met os))) ?_
  intro W base args ds gs before hval hW _ hcond _ hL _ _
  exact law_contract (C := Tryd.checked) (T := tt) ttok (n := 12) Tryd.func7 rfl rfl (by kernel_rfl) laidOut (by kernel_rfl) rfl (tb := 4) (by kernel_rfl) rfl (m := 3) rfl
    (fun ds h => by match ds, h with | [a0, a1, a2], _ => rfl) (fun xs hx => deltasThree_pure hx) W (glob_of_laid hL) base args ds gs before hval hW
theorem deltasThree_said : Rows.DeltasThreeSaid :=
  OpenClaim.holds_of_cond 7 Tryd.f7 rfl rfl rfl rfl rfl rfl rfl ⟨rfl, rfl, rfl, rfl, rfl⟩ rfl rfl rfl rfl rfl (by kernel_rfl) Tryd.func7 (by kernel_rfl)
    (of_decide_eq_true (by kernel_rfl)) (by unfold Func.isWrapper; first | (rw [if_pos (by decide +kernel)]; kernel_rfl) | (rw [if_neg (by decide +kernel)]; exact ⟨rfl, rfl⟩))
    (fun os started H enc _ F => by rw [OpenClaim.pre_eq_preRow]; exact deltasThree_lifted os started H enc F)
theorem deltasThree_holds : Rows.DeltasThreeCardSaid :=
  Claim7.holds_tied_plain_at .later [] _ _ _ _ deltasThree_said (fun _ h => by cases h) (by kernel_rfl) (fun _ h => by cases h) deltasThree_row_tie rfl ⟨rfl, rfl⟩ (by kernel_rfl) rfl
    (fun f fn hf hfn => by
      obtain rfl : f = 7 := Option.some.inj ((show Tryd.prog.funcNamed "backflush/backflushlaw42.DeltasThree" = some 7 by kernel_rfl).symm.trans hf) |>.symm
      obtain rfl : fn = Tryd.f7 := (Option.some.inj (Tryd.func7.symm.trans hfn)).symm
      refine ⟨by kernel_rfl, fun j t ht => ?_⟩
      have hall : (Tryd.f7.params.toList.all fun t => !Tryd.prog.wantsStandIn t) = true := by kernel_rfl
      have := List.all_eq_true.1 hall t (List.mem_of_getElem? (by simpa using ht))
      have e : Tryd.prog.wantsStandIn t = false := by simpa using this
      exact e)
    (by kernel_rfl)

end Go.Proofs.YtfckliidjmeeaaaDoor

