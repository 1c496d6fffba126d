/- OrdersPutSpec: for every input the law returns true, and its arguments read behind the call as they read before. No condition. -/
import Derived.Test.YtghlkcnmocgkaaaL19a
import Derived.Test.YtghlkcnmocgkaaaRead19
import Derived.Test.YtghlkcnmocgkaaaRows
namespace Go.Proofs.Ytghlkcnmocgkaaa
open Go.ChangeShapes Go.WideShapes Go.ChangeAt Go.RowKit Go.PM
theorem own : ownKnob Try.prog.godebug = none := by kernel_rfl
theorem laidOut : laidOutB Try.prog = true := by kernel_rfl

theorem ordersPutSpec_pure {xs : List D} (h : ArgsTy tt 12 Try.f4.params.toList xs) : CallP Try.prog 4 (xs.map .d) (retD [.b true]) := by
  obtain ⟨_, _, rfl, ⟨_, hw, rfl⟩, ⟨_, _, rfl, ⟨_, hx, rfl⟩, ⟨_, _, rfl, ⟨_, hsp, rfl⟩, ⟨_, _, rfl, ⟨_, ⟨kn, rfl, hkn⟩, ⟨⟩⟩, rfl⟩⟩⟩⟩ := h
  obtain ⟨w, lw, hR⟩ := world_of (n := 1) hw
  obtain ⟨x, hx', hxi⟩ := ord_of (n := 5) hx
  obtain ⟨a, b, hsp'⟩ := span_of (n := 5) hsp
  refine CallP.le ?_ (law19_PutSpec w x a b kn ⟨hR.sw, hR.fw, hR.fl, hR.ol, hR.bl⟩ ?_)
  · exact ⟨VLe.d lw, VLe.d (by rw [hx']; exact DLe.refl _), VLe.d (by rw [hsp']; exact DLe.refl _), VLe.refl _, rfl⟩
  · have := i64_of hxi.2.2.2.1
    omega

set_option maxRecDepth 100000 in
theorem ordersPutSpec_lifted (os : Os) (started : os.Started) (H : Type) (enc : TypeId × Value → H) :
    ReturnsInHanded {} Try.checked os 4 .any (Rows.ordersPutSpecSpec.pre6 enc Try.prog Try.f4 Rows.ordersPutSpecRow.domain false) (Rows.ordersPutSpecSpec.post enc Try.prog Try.f4 false true false false) := by
  refine returnsInHanded_of_change (C := Try.checked) own started (by kernel_rfl) Try.func4
    (ChangeSpec.witness6 (enc := enc) (C := Try.checked) false ⟨#[], #[(.agg #[.slice none 0 0, .slice none 0 0, .slice none 0 0, .slice none 0 0, .slice none 0 0, .slice none 0 0, .slice none 0 0, .slice none 0 0, .slice none 0 0, .slice none 0 0, .slice none 0 0]), (.agg #[.int .i64 0, .int .i64 0, .int .i64 0, .int .i64 0, .int .i64 0, .int .i64 0, .int .i64 0, .int .i64 0]), (.agg #[.int .i64 0, .int .i64 0]), (.int .i64 0)], []⟩ 8 (by kernel_rfl) (by kernel_rfl) (by kernel_rfl) (by kernel_rfl)) ?_
  intro W base args ds gs before hval0 hW hcnd _
  exact law_contract (C := Try.checked) (T := tt) ttok (n := 12) Try.func4 rfl rfl (by kernel_rfl) laidOut (by kernel_rfl) rfl (tb := 4) (by kernel_rfl) rfl (m := 4) rfl
    (fun ds h => by match ds, h with | [a0, a1, a2, a3], _ => rfl) (fun xs hx => ordersPutSpec_pure hx) W (by intro p hp; cases hp) base args ds gs before hval0 hW
theorem ordersPutSpec_holds : Rows.OrdersPutSpecSaid :=
  OpenClaim.holds_of_wide 4 Try.f4 rfl rfl rfl rfl rfl rfl rfl ⟨rfl, rfl, rfl, rfl, rfl⟩ rfl rfl rfl rfl rfl (by kernel_rfl) Try.func4 (by kernel_rfl)
    (of_decide_eq_true (by kernel_rfl)) (by unfold Func.isWrapper; first | (rw [if_pos (by decide +kernel)]; kernel_rfl) | (rw [if_neg (by decide +kernel)]; exact ⟨rfl, rfl⟩))
    (fun os started H enc _ => ordersPutSpec_lifted os started H enc)

end Go.Proofs.Ytghlkcnmocgkaaa

