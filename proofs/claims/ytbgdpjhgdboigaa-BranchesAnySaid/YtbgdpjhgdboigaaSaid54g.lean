/- BranchesAny: for every input the law returns true, and its arguments read behind the call as they read before. No condition. -/
import Derived.Test.YtbgdpjhgdboigaaL54btoL54h
import Derived.Test.YtbgdpjhgdboigaaRead54
import Derived.Test.YtbgdpjhgdboigaaRows
namespace Go.Proofs.Ytbgdpjhgdboigaa
open Go.ChangeShapes Go.WideShapes Go.ChangeAt Go.RowKit Go.PM
theorem own : ownKnob Try.prog.godebug = none := by kernel_rfl
theorem laidOut : laidOutB Try.prog = true := by kernel_rfl

theorem branchesAny_pure {xs : List D} (h : ArgsTy tt 12 Try.f9.params.toList xs) : CallP Try.prog 9 (xs.map .d) (retD [.b true]) := by
  obtain ⟨_, _, rfl, ⟨_, hb, rfl⟩, ⟨_, _, rfl, ⟨_, ⟨i, rfl, hi⟩, ⟨⟩⟩, ⟨_, _, rfl, ⟨_, ⟨k, rfl, hk⟩, ⟨⟩⟩, ⟨_, _, rfl, ⟨_, ho, rfl⟩, rfl⟩⟩⟩⟩ := h
  obtain ⟨y, ly, hy⟩ := brn_of (n := 1) hb
  obtain ⟨z, hz, _⟩ := key_of (n := 5) ho
  rw [hz]
  refine CallP.le ?_ (law54_Any y i k z hy)
  exact ⟨VLe.d ly, VLe.refl _, VLe.refl _, VLe.refl _, rfl⟩

set_option maxRecDepth 100000 in
theorem branchesAny_lifted (os : Os) (started : os.Started) (H : Type) (enc : TypeId × Value → H) :
    ReturnsInHanded {} Try.checked os 9 .any (Rows.branchesAnySpec.pre6 enc Try.prog Try.f9 Rows.branchesAnyRow.domain false) (Rows.branchesAnySpec.post enc Try.prog Try.f9 false true false false) := by
  refine returnsInHanded_of_change (C := Try.checked) own started (by kernel_rfl) Try.func9
    (ChangeSpec.witness6 (enc := enc) (C := Try.checked) false ⟨#[], #[(.agg #[.slice none 0 0, .slice none 0 0, .slice none 0 0, .slice none 0 0, .slice none 0 0]), (.int .i64 0), (.int .i64 0), (.agg #[.int .i64 0, .int .i64 0, .int .i64 0])], []⟩ 8 (by kernel_rfl) (by kernel_rfl) (by kernel_rfl) (by kernel_rfl)) ?_
  intro W base args ds gs before hval0 hW hcnd _
  exact law_contract (C := Try.checked) (T := tt) ttok (n := 12) Try.func9 rfl rfl (by kernel_rfl) laidOut (by kernel_rfl) rfl (tb := 4) (by kernel_rfl) rfl (m := 4) rfl
    (fun ds h => by match ds, h with | [a0, a1, a2, a3], _ => rfl) (fun xs hx => branchesAny_pure hx) W (by intro p hp; cases hp) base args ds gs before hval0 hW
theorem branchesAny_holds : Rows.BranchesAnySaid :=
  OpenClaim.holds_of_wide 9 Try.f9 rfl rfl rfl rfl rfl rfl rfl ⟨rfl, rfl, rfl, rfl, rfl⟩ rfl rfl rfl rfl rfl (by kernel_rfl) Try.func9 (by kernel_rfl)
    (of_decide_eq_true (by kernel_rfl)) (by unfold Func.isWrapper; first | (rw [if_pos (by decide +kernel)]; kernel_rfl) | (rw [if_neg (by decide +kernel)]; exact ⟨rfl, rfl⟩))
    (fun os started H enc _ => branchesAny_lifted os started H enc)

end Go.Proofs.Ytbgdpjhgdboigaa

