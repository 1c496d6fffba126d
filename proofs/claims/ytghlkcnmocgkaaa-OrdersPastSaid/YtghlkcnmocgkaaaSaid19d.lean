/- OrdersPast: for every input the law returns true, and its arguments read behind the call as they read before. No condition. -/
import Derived.Test.YtghlkcnmocgkaaaL19b
import Derived.Test.YtghlkcnmocgkaaaRead19
import Derived.Test.YtghlkcnmocgkaaaRows
namespace Go.Proofs.Ytghlkcnmocgkaaa
open Go.ChangeShapes Go.WideShapes Go.ChangeAt Go.RowKit Go.PM
theorem own : ownKnob Try.prog.godebug = none := by kernel_rfl
theorem laidOut : laidOutB Try.prog = true := by kernel_rfl

theorem ordersPast_pure {xs : List D} (h : ArgsTy tt 12 Try.f7.params.toList xs) : CallP Try.prog 7 (xs.map .d) (retD [.b true]) := by
  obtain ⟨_, _, rfl, ⟨_, hw, rfl⟩, ⟨_, _, rfl, ⟨_, ⟨no, rfl, hno⟩, ⟨⟩⟩, ⟨_, _, rfl, ⟨_, ⟨day, rfl, hday⟩, ⟨⟩⟩, ⟨_, _, rfl, ⟨_, ⟨kn, rfl, hkn⟩, ⟨⟩⟩, rfl⟩⟩⟩⟩ := h
  obtain ⟨w, lw, hR⟩ := world_of (n := 1) hw
  refine CallP.le ?_ (law19_Past w no day kn ⟨hR.sw, hR.fw, hR.fl, hR.ol, hR.bl⟩)
  exact ⟨VLe.d lw, VLe.refl _, VLe.refl _, VLe.refl _, rfl⟩

set_option maxRecDepth 100000 in
theorem ordersPast_lifted (os : Os) (started : os.Started) (H : Type) (enc : TypeId × Value → H) :
    ReturnsInHanded {} Try.checked os 7 .any (Rows.ordersPastSpec.pre6 enc Try.prog Try.f7 Rows.ordersPastRow.domain false) (Rows.ordersPastSpec.post enc Try.prog Try.f7 false true false false) := by
  refine returnsInHanded_of_change (C := Try.checked) own started (by kernel_rfl) Try.func7
    (ChangeSpec.witness6 (enc := enc) (C := Try.checked) false ⟨#[], #[(.agg #[.slice none 0 0, .slice none 0 0, .slice none 0 0, .slice none 0 0, .slice none 0 0, .slice none 0 0, .slice none 0 0, .slice none 0 0, .slice none 0 0, .slice none 0 0, .slice none 0 0]), (.int .i64 0), (.int .i64 0), (.int .i64 0)], []⟩ 8 (by kernel_rfl) (by kernel_rfl) (by kernel_rfl) (by kernel_rfl)) ?_
  intro W base args ds gs before hval0 hW hcnd _
  exact law_contract (C := Try.checked) (T := tt) ttok (n := 12) Try.func7 rfl rfl (by kernel_rfl) laidOut (by kernel_rfl) rfl (tb := 4) (by kernel_rfl) rfl (m := 4) rfl
    (fun ds h => by match ds, h with | [a0, a1, a2, a3], _ => rfl) (fun xs hx => ordersPast_pure hx) W (by intro p hp; cases hp) base args ds gs before hval0 hW
theorem ordersPast_holds : Rows.OrdersPastSaid :=
  OpenClaim.holds_of_wide 7 Try.f7 rfl rfl rfl rfl rfl rfl rfl ⟨rfl, rfl, rfl, rfl, rfl⟩ rfl rfl rfl rfl rfl (by kernel_rfl) Try.func7 (by kernel_rfl)
    (of_decide_eq_true (by kernel_rfl)) (by unfold Func.isWrapper; first | (rw [if_pos (by decide +kernel)]; kernel_rfl) | (rw [if_neg (by decide +kernel)]; exact ⟨rfl, rfl⟩))
    (fun os started H enc _ => ordersPast_lifted os started H enc)

end Go.Proofs.Ytghlkcnmocgkaaa

