/- BranchesForkSpec: for every input the law returns true, and its arguments read behind the call as they read before. No condition. -/
import Derived.Test.YtbgdpjhgdboigaaL54a
import Derived.Test.YtbgdpjhgdboigaaRead54
import Derived.Test.YtbgdpjhgdboigaaRows
namespace Go.Proofs.Ytbgdpjhgdboigaa
open Go.ChangeShapes Go.WideShapes Go.ChangeAt Go.RowKit Go.PM
theorem own : ownKnob Try.prog.godebug = none := by kernel_rfl
theorem laidOut : laidOutB Try.prog = true := by kernel_rfl

theorem branchesForkSpec_pure {xs : List D} (h : ArgsTy tt 12 Try.f3.params.toList xs) : CallP Try.prog 3 (xs.map .d) (retD [.b true]) := by
  obtain ⟨_, _, rfl, ⟨_, ⟨fl, l, rfl, ll, hl⟩, ⟨⟩⟩, ⟨_, _, rfl, ⟨_, hb, rfl⟩, ⟨_, _, rfl, ⟨_, ⟨p, rfl, hp⟩, ⟨⟩⟩, rfl⟩⟩⟩ := h
  obtain ⟨x, rfl, _⟩ := fact_ofs hl
  obtain ⟨y, ly, hy⟩ := brn_of (n := 1) hb
  rw [List.length_map] at ll
  refine CallP.le ?_ (law54_ForkSpec x y p (max2 ll) hy)
  exact ⟨VLe.d (DLe.full _ _ _), VLe.d ly, VLe.refl _, rfl⟩

set_option maxRecDepth 100000 in
theorem branchesForkSpec_lifted (os : Os) (started : os.Started) (H : Type) (enc : TypeId × Value → H) :
    ReturnsInHanded {} Try.checked os 3 .any (Rows.branchesForkSpecSpec.pre6 enc Try.prog Try.f3 Rows.branchesForkSpecRow.domain false) (Rows.branchesForkSpecSpec.post enc Try.prog Try.f3 false true false false) := by
  refine returnsInHanded_of_change (C := Try.checked) own started (by kernel_rfl) Try.func3
    (ChangeSpec.witness6 (enc := enc) (C := Try.checked) false ⟨#[], #[(.slice none 0 0), (.agg #[.slice none 0 0, .slice none 0 0, .slice none 0 0, .slice none 0 0, .slice none 0 0]), (.int .i64 0)], []⟩ 8 (by kernel_rfl) (by kernel_rfl) (by kernel_rfl) (by kernel_rfl)) ?_
  intro W base args ds gs before hval0 hW hcnd _
  exact law_contract (C := Try.checked) (T := tt) ttok (n := 12) Try.func3 rfl rfl (by kernel_rfl) laidOut (by kernel_rfl) rfl (tb := 4) (by kernel_rfl) rfl (m := 3) rfl
    (fun ds h => by match ds, h with | [a0, a1, a2], _ => rfl) (fun xs hx => branchesForkSpec_pure hx) W (by intro p hp; cases hp) base args ds gs before hval0 hW
theorem branchesForkSpec_holds : Rows.BranchesForkSpecSaid :=
  OpenClaim.holds_of_wide 3 Try.f3 rfl rfl rfl rfl rfl rfl rfl ⟨rfl, rfl, rfl, rfl, rfl⟩ rfl rfl rfl rfl rfl (by kernel_rfl) Try.func3 (by kernel_rfl)
    (of_decide_eq_true (by kernel_rfl)) (by unfold Func.isWrapper; first | (rw [if_pos (by decide +kernel)]; kernel_rfl) | (rw [if_neg (by decide +kernel)]; exact ⟨rfl, rfl⟩))
    (fun os started H enc _ => branchesForkSpec_lifted os started H enc)

end Go.Proofs.Ytbgdpjhgdboigaa

