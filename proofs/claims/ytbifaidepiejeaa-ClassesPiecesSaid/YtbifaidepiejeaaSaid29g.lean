/- ClassesPieces: for every input the law returns true, and its arguments read behind the call as they read before. No condition. -/
import Derived.Test.YtbifaidepiejeaaL29g
import Derived.Test.YtbifaidepiejeaaRead29
import Derived.Test.YtbifaidepiejeaaRows
namespace Go.Proofs.Ytbifaidepiejeaa
open Go.ChangeShapes Go.WideShapes Go.ChangeAt Go.RowKit Go.PM
theorem own : ownKnob Try.prog.godebug = none := by kernel_rfl
theorem laidOut : laidOutB Try.prog = true := by kernel_rfl

theorem classesPieces_pure {xs : List D} (h : ArgsTy tt 12 Try.f8.params.toList xs) : CallP Try.prog 8 (xs.map .d) (retD [.b true]) := by
  obtain ⟨_, _, rfl, ⟨_, ⟨fs, s, rfl, ls, hs⟩, ⟨⟩⟩, ⟨_, _, rfl, ⟨_, ⟨ffits, fits, rfl, lfits, hfits⟩, ⟨⟩⟩, ⟨_, _, rfl, ⟨_, ⟨fwant, want, rfl, lwant, hwant⟩, ⟨⟩⟩, rfl⟩⟩⟩ := h
  obtain ⟨s, rfl, _⟩ := supply_ofs (n := 4) hs
  obtain ⟨t, ht, hle⟩ := rows_of (n := 8) hfits
  obtain ⟨w, rfl, hwb⟩ := maps_of (f := D.i .u8) (p := fun v => 0 ≤ v ∧ v ≤ 255) (ys := want) fun x hx => by
    obtain ⟨_, ⟨b, rfl, hb⟩, ⟨⟩⟩ := hwant x hx
    exact ⟨b, rfl, by simp [HasI, Lit.wf, IntKind.min, IntKind.max, IntKind.bits, IntKind.signed] at hb; omega⟩
  refine CallP.le ?_ (law29_Pieces s t w (by simp only [maxLen] at lfits; omega) hwb)
  exact ⟨VLe.d (DLe.full _ _ _), VLe.d ((hle _).trans (DLe.full _ _ _)), VLe.d (DLe.full _ _ _), rfl⟩

set_option maxRecDepth 100000 in
theorem classesPieces_lifted (os : Os) (started : os.Started) (H : Type) (enc : TypeId × Value → H) :
    ReturnsInHanded {} Try.checked os 8 .any (Rows.classesPiecesSpec.pre6 enc Try.prog Try.f8 Rows.classesPiecesRow.domain false) (Rows.classesPiecesSpec.post enc Try.prog Try.f8 false true false false) := by
  refine returnsInHanded_of_change (C := Try.checked) own started (by kernel_rfl) Try.func8
    (ChangeSpec.witness6 (enc := enc) (C := Try.checked) false ⟨#[], #[(.slice none 0 0), (.slice none 0 0), (.slice none 0 0)], []⟩ 8 (by kernel_rfl) (by kernel_rfl) (by kernel_rfl) (by kernel_rfl)) ?_
  intro W base args ds gs before hval0 hW hcnd _
  exact law_contract (C := Try.checked) (T := tt) ttok (n := 12) Try.func8 rfl rfl (by kernel_rfl) laidOut (by kernel_rfl) rfl (tb := 4) (by kernel_rfl) rfl (m := 3) rfl
    (fun ds h => by match ds, h with | [a0, a1, a2], _ => rfl) (fun xs hx => classesPieces_pure hx) W (by intro p hp; cases hp) base args ds gs before hval0 hW
theorem classesPieces_holds : Rows.ClassesPiecesSaid :=
  OpenClaim.holds_of_wide 8 Try.f8 rfl rfl rfl rfl rfl rfl rfl ⟨rfl, rfl, rfl, rfl, rfl⟩ rfl rfl rfl rfl rfl (by kernel_rfl) Try.func8 (by kernel_rfl)
    (of_decide_eq_true (by kernel_rfl)) (by unfold Func.isWrapper; first | (rw [if_pos (by decide +kernel)]; kernel_rfl) | (rw [if_neg (by decide +kernel)]; exact ⟨rfl, rfl⟩))
    (fun os started H enc _ => classesPieces_lifted os started H enc)

end Go.Proofs.Ytbifaidepiejeaa

