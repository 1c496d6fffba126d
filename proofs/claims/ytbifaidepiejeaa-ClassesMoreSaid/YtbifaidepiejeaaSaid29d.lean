/- ClassesMore: for every input the law returns true, and its arguments read behind the call as they read before. No condition. -/
import Derived.Test.YtbifaidepiejeaaL29d
import Derived.Test.YtbifaidepiejeaaRows
namespace Go.Proofs.Ytbifaidepiejeaa
open Go.ChangeShapes Go.WideShapes Go.ChangeAt Go.RowKit Go.PM
theorem own : ownKnob Try.prog.godebug = none := by kernel_rfl
theorem laidOut : laidOutB Try.prog = true := by kernel_rfl

theorem u8_of {n : Int} (h : HasI .u8 n) : 0 ≤ n ∧ n < 256 := by
  simp [HasI, Lit.wf, IntKind.min, IntKind.max, IntKind.bits, IntKind.signed] at h
  omega
theorem classesMore_pure {xs : List D} (h : ArgsTy tt 12 Try.f6.params.toList xs) : CallP Try.prog 6 (xs.map .d) (retD [.b true]) := by
  obtain ⟨_, _, rfl, ⟨_, hw, rfl⟩, ⟨_, _, rfl, ⟨_, hs, rfl⟩, ⟨_, _, rfl, ⟨_, hr, rfl⟩, ⟨_, _, rfl, ⟨_, ⟨known, rfl, hknown⟩, ⟨⟩⟩, ⟨_, _, rfl, ⟨_, hx, rfl⟩, ⟨_, _, rfl, ⟨_, ⟨a, rfl, ha⟩, ⟨⟩⟩, ⟨_, _, rfl, ⟨_, ⟨b, rfl, hb⟩, ⟨⟩⟩, rfl⟩⟩⟩⟩⟩⟩⟩ := h
  obtain ⟨w, hw, hu⟩ := world_of (n := 1) hw
  obtain ⟨s, hs, _⟩ := supply_of (n := 5) hs
  obtain ⟨r, hr, _⟩ := request_of (n := 5) hr
  obtain ⟨x, hx, _⟩ := swap_of (n := 5) hx
  rw [hs, hr, hx]
  refine CallP.le ?_ (law29_More w s r known x a b (u8_of ha) (u8_of hb) hu)
  exact ⟨VLe.d hw, VLe.refl _, VLe.refl _, VLe.refl _, VLe.refl _, VLe.refl _, VLe.refl _, rfl⟩

set_option maxRecDepth 100000 in
theorem classesMore_lifted (os : Os) (started : os.Started) (H : Type) (enc : TypeId × Value → H) :
    ReturnsInHanded {} Try.checked os 6 .any (Rows.classesMoreSpec.pre6 enc Try.prog Try.f6 Rows.classesMoreRow.domain false) (Rows.classesMoreSpec.post enc Try.prog Try.f6 false true false false) := by
  refine returnsInHanded_of_change (C := Try.checked) own started (by kernel_rfl) Try.func6
    (ChangeSpec.witness6 (enc := enc) (C := Try.checked) false ⟨#[], #[(.agg #[.slice none 0 0, .slice none 0 0, .slice none 0 0, .slice none 0 0, .slice none 0 0, .slice none 0 0, .slice none 0 0, .slice none 0 0, .slice none 0 0, .slice none 0 0, .slice none 0 0]), (.agg #[.int .i64 0, .int .i64 0, .int .i64 0, .int .i64 0, .int .i64 0, .int .i64 0]), (.agg #[.int .i64 0, .int .i64 0, .int .i64 0, .int .i64 0, .int .i64 0, .int .i64 0]), (.int .i64 0), (.agg #[.string ⟨#[]⟩, .string ⟨#[]⟩, .int .i64 0, .int .i64 0]), (.int .u8 0), (.int .u8 0)], []⟩ 8 (by kernel_rfl) (by kernel_rfl) (by kernel_rfl) (by kernel_rfl)) ?_
  intro W base args ds gs before hval0 hW hcnd _
  exact law_contract (C := Try.checked) (T := tt) ttok (n := 12) Try.func6 rfl rfl (by kernel_rfl) laidOut (by kernel_rfl) rfl (tb := 4) (by kernel_rfl) rfl (m := 7) rfl
    (fun ds h => by match ds, h with | [a0, a1, a2, a3, a4, a5, a6], _ => rfl) (fun xs hx => classesMore_pure hx) W base args ds gs before hval0 hW
theorem classesMore_holds : Rows.ClassesMoreSaid :=
  OpenClaim.holds_of_wide 6 Try.f6 rfl rfl rfl rfl rfl rfl rfl ⟨rfl, rfl, rfl, rfl, rfl⟩ rfl rfl rfl rfl rfl (by kernel_rfl) Try.func6 (by kernel_rfl)
    (of_decide_eq_true (by kernel_rfl)) (by unfold Func.isWrapper; first | (rw [if_pos (by decide +kernel)]; kernel_rfl) | (rw [if_neg (by decide +kernel)]; exact ⟨rfl, rfl⟩))
    (fun os started H enc _ => classesMore_lifted os started H enc)

end Go.Proofs.Ytbifaidepiejeaa

