/- CorrectionsParts: for every input the law returns true, and its arguments read behind the call as they read before. No condition. -/
import Derived.Test.YtfbngjofngmbdaaL41c
import Derived.Test.YtfbngjofngmbdaaRead41
import Derived.Test.YtfbngjofngmbdaaRows
namespace Go.Proofs.Ytfbngjofngmbdaa
open Go.ChangeShapes Go.WideShapes Go.ChangeAt Go.RowKit Go.PM
theorem own : ownKnob Try.prog.godebug = none := by kernel_rfl
theorem laidOut : laidOutB Try.prog = true := by kernel_rfl

theorem correctionsParts_pure {xs : List D} (h : ArgsTy tt 12 Try.f5.params.toList xs) : CallP Try.prog 5 (xs.map .d) (retD [.b true]) := by
  obtain ⟨_, _, rfl, ⟨_, hw, rfl⟩, ⟨_, _, rfl, ⟨_, ⟨fcs, cs, rfl, lcs, hcs⟩, ⟨⟩⟩, ⟨_, _, rfl, ⟨_, ⟨kn, rfl, hkn⟩, ⟨⟩⟩, ⟨_, _, rfl, ⟨_, ⟨p, rfl, hp⟩, ⟨⟩⟩, rfl⟩⟩⟩⟩ := h
  obtain ⟨w, lw, hw⟩ := world_of (n := 1) hw
  obtain ⟨cs, rfl, _⟩ := corr_ofs hcs
  refine CallP.le ?_ (law41_Parts w cs kn p hw (by rw [List.length_map] at lcs; exact max2 lcs) (u8_of hp))
  exact ⟨VLe.d lw, VLe.d (DLe.full _ _ _), VLe.refl _, VLe.refl _, rfl⟩

set_option maxRecDepth 100000 in
theorem correctionsParts_lifted (os : Os) (started : os.Started) (H : Type) (enc : TypeId × Value → H) :
    ReturnsInHanded {} Try.checked os 5 .any (Rows.correctionsPartsSpec.pre6 enc Try.prog Try.f5 Rows.correctionsPartsRow.domain false) (Rows.correctionsPartsSpec.post enc Try.prog Try.f5 false true false false) := by
  refine returnsInHanded_of_change (C := Try.checked) own started (by kernel_rfl) Try.func5
    (ChangeSpec.witness6 (enc := enc) (C := Try.checked) false ⟨#[], #[(.agg #[.slice none 0 0, .slice none 0 0, .slice none 0 0, .slice none 0 0, .slice none 0 0, .slice none 0 0, .slice none 0 0, .slice none 0 0, .slice none 0 0, .slice none 0 0, .slice none 0 0]), (.slice none 0 0), (.int .i64 0), (.int .u8 0)], []⟩ 8 (by kernel_rfl) (by kernel_rfl) (by kernel_rfl) (by kernel_rfl)) ?_
  intro W base args ds gs before hval0 hW hcnd _
  exact law_contract (C := Try.checked) (T := tt) ttok (n := 12) Try.func5 rfl rfl (by kernel_rfl) laidOut (by kernel_rfl) rfl (tb := 4) (by kernel_rfl) rfl (m := 4) rfl
    (fun ds h => by match ds, h with | [a0, a1, a2, a3], _ => rfl) (fun xs hx => correctionsParts_pure hx) W (by intro p hp; cases hp) base args ds gs before hval0 hW
theorem correctionsParts_holds : Rows.CorrectionsPartsSaid :=
  OpenClaim.holds_of_wide 5 Try.f5 rfl rfl rfl rfl rfl rfl rfl ⟨rfl, rfl, rfl, rfl, rfl⟩ rfl rfl rfl rfl rfl (by kernel_rfl) Try.func5 (by kernel_rfl)
    (of_decide_eq_true (by kernel_rfl)) (by unfold Func.isWrapper; first | (rw [if_pos (by decide +kernel)]; kernel_rfl) | (rw [if_neg (by decide +kernel)]; exact ⟨rfl, rfl⟩))
    (fun os started H enc _ => correctionsParts_lifted os started H enc)

end Go.Proofs.Ytfbngjofngmbdaa

