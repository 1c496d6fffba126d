/- NetworkOnlySent: for every input the law returns true, and its arguments read behind the call as they read before. No condition. -/
import Derived.Test.YtoadefidkdmheaaL46e
import Derived.Test.YtoadefidkdmheaaRead46
import Derived.Test.YtoadefidkdmheaaRows
namespace Go.Proofs.Ytoadefidkdmheaa
open Go.ChangeShapes Go.WideShapes Go.ChangeAt Go.RowKit Go.PM
theorem own : ownKnob Try.prog.godebug = none := by kernel_rfl
theorem laidOut : laidOutB Try.prog = true := by kernel_rfl

theorem mv_of {n : Nat} {zs : List D} (h : DTy tt (n + 7) 52 zs) : ∃ m : Mv, D.agg zs = m.d := by
  obtain ⟨_, _, rfl, ⟨k, rfl, hk⟩, ⟨_, _, rfl, ⟨t, rfl, ht⟩, ⟨_, _, rfl, ⟨a, rfl, ha⟩, ⟨_, _, rfl, ⟨b, rfl, hb⟩, ⟨_, _, rfl, ⟨d, rfl, hd⟩, rfl⟩⟩⟩⟩⟩ := h
  refine ⟨⟨UInt8.ofNat k.toNat, UInt8.ofNat t.toNat, UInt8.ofNat a.toNat, UInt8.ofNat b.toNat, UInt8.ofNat d.toNat⟩, ?_⟩
  unfold Mv.d
  rw [← U8_of (u8_of hk), ← U8_of (u8_of ht), ← U8_of (u8_of ha), ← U8_of (u8_of hb), ← U8_of (u8_of hd)]
  rfl
theorem networkOnlySent_pure {xs : List D} (h : ArgsTy tt 12 Try.f7.params.toList xs) : CallP Try.prog 7 (xs.map .d) (retD [.b true]) := by
  obtain ⟨_, _, rfl, ⟨_, ⟨fl, l, rfl, ll, hl⟩, ⟨⟩⟩, rfl⟩ := h
  obtain ⟨l, rfl, _⟩ := maps_of (f := Mv.d) (p := fun _ => True) (ys := l) fun y hy => by
    obtain ⟨zs, h1, rfl⟩ := hl y hy
    obtain ⟨m, hm⟩ := mv_of (n := 4) h1
    exact ⟨m, hm, trivial⟩
  refine CallP.le ?_ (law46_OnlySent l (by rw [List.length_map] at ll; exact max2 ll))
  exact ⟨VLe.d (DLe.full _ _ _), rfl⟩

set_option maxRecDepth 100000 in
theorem networkOnlySent_lifted (os : Os) (started : os.Started) (H : Type) (enc : TypeId × Value → H) :
    ReturnsInHanded {} Try.checked os 7 .any (Rows.networkOnlySentSpec.pre6 enc Try.prog Try.f7 Rows.networkOnlySentRow.domain false) (Rows.networkOnlySentSpec.post enc Try.prog Try.f7 false true false false) := by
  refine returnsInHanded_of_change (C := Try.checked) own started (by kernel_rfl) Try.func7
    (ChangeSpec.witness6 (enc := enc) (C := Try.checked) false ⟨#[], #[(.slice none 0 0)], []⟩ 8 (by kernel_rfl) (by kernel_rfl) (by kernel_rfl) (by kernel_rfl)) ?_
  intro W base args ds gs before hval0 hW hcnd _
  exact law_contract (C := Try.checked) (T := tt) ttok (n := 12) Try.func7 rfl rfl (by kernel_rfl) laidOut (by kernel_rfl) rfl (tb := 4) (by kernel_rfl) rfl (m := 1) rfl
    (fun ds h => by match ds, h with | [a0], _ => rfl) (fun xs hx => networkOnlySent_pure hx) W (by intro p hp; cases hp) base args ds gs before hval0 hW
theorem networkOnlySent_holds : Rows.NetworkOnlySentSaid :=
  OpenClaim.holds_of_wide 7 Try.f7 rfl rfl rfl rfl rfl rfl rfl ⟨rfl, rfl, rfl, rfl, rfl⟩ rfl rfl rfl rfl rfl (by kernel_rfl) Try.func7 (by kernel_rfl)
    (of_decide_eq_true (by kernel_rfl)) (by unfold Func.isWrapper; first | (rw [if_pos (by decide +kernel)]; kernel_rfl) | (rw [if_neg (by decide +kernel)]; exact ⟨rfl, rfl⟩))
    (fun os started H enc _ => networkOnlySent_lifted os started H enc)

end Go.Proofs.Ytoadefidkdmheaa

