/- OrdersBack: for every input the law returns true, and its arguments read behind the call as they read before. No condition. -/
import Derived.Test.YtghlkcnmocgkaaaL19d
import Derived.Test.YtghlkcnmocgkaaaRead19
import Derived.Test.YtghlkcnmocgkaaaRows
namespace Go.Proofs.Ytghlkcnmocgkaaa
open Go.ChangeShapes Go.WideShapes Go.ChangeAt Go.RowKit Go.PM
theorem own : ownKnob Try.prog.godebug = none := by kernel_rfl
theorem laidOut : laidOutB Try.prog = true := by kernel_rfl

theorem ordersBack_pure {xs : List D} (h : ArgsTy tt 12 Try.f5.params.toList xs) : CallP Try.prog 5 (xs.map .d) (retD [.b true]) := by
  obtain ⟨_, _, rfl, ⟨_, hw, rfl⟩, ⟨_, _, rfl, ⟨_, hx, rfl⟩, ⟨_, _, rfl, ⟨_, hsp, rfl⟩, ⟨_, _, rfl, ⟨_, ⟨kn, rfl, hkn⟩, ⟨⟩⟩, ⟨_, _, rfl, ⟨_, ⟨no, rfl, hno⟩, ⟨⟩⟩, ⟨_, _, rfl, ⟨_, ⟨day, rfl, hday⟩, ⟨⟩⟩, ⟨_, _, rfl, ⟨_, ⟨lat, rfl, hlat⟩, ⟨⟩⟩, rfl⟩⟩⟩⟩⟩⟩⟩ := h
  obtain ⟨w, lw, hR⟩ := world_of (n := 1) hw
  obtain ⟨x, hx', hxi⟩ := ord_of (n := 5) hx
  obtain ⟨a, b, hsp'⟩ := span_of (n := 5) hsp
  refine CallP.le ?_ (law19_Back w x a b kn no day lat ⟨hR.sw, hR.fw, hR.fl, hR.ol, hR.bl⟩ ?_)
  · exact ⟨VLe.d lw, VLe.d (by rw [hx']; exact DLe.refl _), VLe.d (by rw [hsp']; exact DLe.refl _), VLe.refl _, VLe.refl _, VLe.refl _, VLe.refl _, rfl⟩
  · have := i64_of hxi.2.2.2.1
    omega

set_option maxRecDepth 100000 in
theorem ordersBack_lifted (os : Os) (started : os.Started) (H : Type) (enc : TypeId × Value → H) :
    ReturnsInHanded {} Try.checked os 5 .any (Rows.ordersBackSpec.pre6 enc Try.prog Try.f5 Rows.ordersBackRow.domain false) (Rows.ordersBackSpec.post enc Try.prog Try.f5 false true false false) := by
  refine returnsInHanded_of_change (C := Try.checked) own started (by kernel_rfl) Try.func5
    (ChangeSpec.witness6 (enc := enc) (C := Try.checked) false ⟨#[], #[(.agg #[.slice none 0 0, .slice none 0 0, .slice none 0 0, .slice none 0 0, .slice none 0 0, .slice none 0 0, .slice none 0 0, .slice none 0 0, .slice none 0 0, .slice none 0 0, .slice none 0 0]), (.agg #[.int .i64 0, .int .i64 0, .int .i64 0, .int .i64 0, .int .i64 0, .int .i64 0, .int .i64 0, .int .i64 0]), (.agg #[.int .i64 0, .int .i64 0]), (.int .i64 0), (.int .i64 0), (.int .i64 0), (.int .i64 0)], []⟩ 8 (by kernel_rfl) (by kernel_rfl) (by kernel_rfl) (by kernel_rfl)) ?_
  intro W base args ds gs before hval0 hW hcnd _
  exact law_contract (C := Try.checked) (T := tt) ttok (n := 12) Try.func5 rfl rfl (by kernel_rfl) laidOut (by kernel_rfl) rfl (tb := 4) (by kernel_rfl) rfl (m := 7) rfl
    (fun ds h => by match ds, h with | [a0, a1, a2, a3, a4, a5, a6], _ => rfl) (fun xs hx => ordersBack_pure hx) W (by intro p hp; cases hp) base args ds gs before hval0 hW
theorem ordersBack_holds : Rows.OrdersBackSaid :=
  OpenClaim.holds_of_wide 5 Try.f5 rfl rfl rfl rfl rfl rfl rfl ⟨rfl, rfl, rfl, rfl, rfl⟩ rfl rfl rfl rfl rfl (by kernel_rfl) Try.func5 (by kernel_rfl)
    (of_decide_eq_true (by kernel_rfl)) (by unfold Func.isWrapper; first | (rw [if_pos (by decide +kernel)]; kernel_rfl) | (rw [if_neg (by decide +kernel)]; exact ⟨rfl, rfl⟩))
    (fun os started H enc _ => ordersBack_lifted os started H enc)

end Go.Proofs.Ytghlkcnmocgkaaa

