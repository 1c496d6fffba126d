/- NetworkAll: for every input the law returns true, and its arguments read behind the call as they read before. No condition. -/
import Derived.Test.YtoadefidkdmheaaL46d
import Derived.Test.YtoadefidkdmheaaRead46
import Derived.Test.YtoadefidkdmheaaRows
namespace Go.Proofs.Ytoadefidkdmheaa
open Go.ChangeShapes Go.WideShapes Go.ChangeAt Go.RowKit Go.PM
theorem own : ownKnob Try.prog.godebug = none := by kernel_rfl
theorem laidOut : laidOutB Try.prog = true := by kernel_rfl

theorem networkAll_pure {xs : List D} (h : ArgsTy tt 12 Try.f4.params.toList xs) : CallP Try.prog 4 (xs.map .d) (retD [.b true]) := by
  obtain ⟨_, _, rfl, ⟨_, ⟨fl, l, rfl, ll, hl⟩, ⟨⟩⟩, ⟨_, _, rfl, ⟨_, ⟨fo, o, rfl, lo, ho⟩, ⟨⟩⟩, rfl⟩⟩ := h
  obtain ⟨l, h1, h2⟩ := pkts_of (n := 4) (sz := 3) (full := fl) hl
  obtain ⟨o, rfl⟩ := bytes_of (n := 10) ho
  refine CallP.le ?_ (law46_All l o (by rw [h1] at ll; exact max2 ll) (by rw [List.length_map] at lo; exact max2 lo))
  exact ⟨VLe.d h2, VLe.d (DLe.full _ _ _), rfl⟩

set_option maxRecDepth 100000 in
theorem networkAll_lifted (os : Os) (started : os.Started) (H : Type) (enc : TypeId × Value → H) :
    ReturnsInHanded {} Try.checked os 4 .any (Rows.networkAllSpec.pre6 enc Try.prog Try.f4 Rows.networkAllRow.domain false) (Rows.networkAllSpec.post enc Try.prog Try.f4 false true false false) := by
  refine returnsInHanded_of_change (C := Try.checked) own started (by kernel_rfl) Try.func4
    (ChangeSpec.witness6 (enc := enc) (C := Try.checked) false ⟨#[], #[(.slice none 0 0), (.slice none 0 0)], []⟩ 8 (by kernel_rfl) (by kernel_rfl) (by kernel_rfl) (by kernel_rfl)) ?_
  intro W base args ds gs before hval0 hW hcnd _
  exact law_contract (C := Try.checked) (T := tt) ttok (n := 12) Try.func4 rfl rfl (by kernel_rfl) laidOut (by kernel_rfl) rfl (tb := 4) (by kernel_rfl) rfl (m := 2) rfl
    (fun ds h => by match ds, h with | [a0, a1], _ => rfl) (fun xs hx => networkAll_pure hx) W (by intro p hp; cases hp) base args ds gs before hval0 hW
theorem networkAll_holds : Rows.NetworkAllSaid :=
  OpenClaim.holds_of_wide 4 Try.f4 rfl rfl rfl rfl rfl rfl rfl ⟨rfl, rfl, rfl, rfl, rfl⟩ rfl rfl rfl rfl rfl (by kernel_rfl) Try.func4 (by kernel_rfl)
    (of_decide_eq_true (by kernel_rfl)) (by unfold Func.isWrapper; first | (rw [if_pos (by decide +kernel)]; kernel_rfl) | (rw [if_neg (by decide +kernel)]; exact ⟨rfl, rfl⟩))
    (fun os started H enc _ => networkAll_lifted os started H enc)

end Go.Proofs.Ytoadefidkdmheaa

