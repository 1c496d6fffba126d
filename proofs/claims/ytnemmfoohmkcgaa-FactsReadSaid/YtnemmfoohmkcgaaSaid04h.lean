/- FactsRead: for every input the law returns true, and its arguments read behind the call as they read before. No condition. -/
import Derived.Test.YtnemmfoohmkcgaaL04g
import Derived.Test.YtnemmfoohmkcgaaRead04
import Derived.Test.YtnemmfoohmkcgaaRows
namespace Go.Proofs.Ytnemmfoohmkcgaa
open Go.ChangeShapes Go.WideShapes Go.ChangeAt Go.RowKit Go.PM
theorem own : ownKnob Try.prog.godebug = none := by kernel_rfl
theorem laidOut : laidOutB Try.prog = true := by kernel_rfl

theorem factsRead_pure {xs : List D} (h : ArgsTy tt 12 Try.f9.params.toList xs) : CallP Try.prog 9 (xs.map .d) (retD [.b true]) := by
  obtain ⟨_, _, rfl, ⟨_, ⟨fl, l, rfl, ll, hl⟩, ⟨⟩⟩, ⟨_, _, rfl, ⟨_, hk, rfl⟩, ⟨_, _, rfl, ⟨_, ⟨a, rfl, ha⟩, ⟨⟩⟩, ⟨_, _, rfl, ⟨_, ⟨b, rfl, hb⟩, ⟨⟩⟩, rfl⟩⟩⟩⟩ := h
  obtain ⟨l, rfl, _⟩ := fact_ofs (n := 4) hl
  simp only [maxLen, List.length_map] at ll
  obtain ⟨k, hk', _⟩ := read_of (n := 5) hk
  refine CallP.le ?_ (law04_Read l k a b (by omega))
  exact ⟨VLe.d (DLe.full _ _ _), VLe.d (by rw [hk']; exact DLe.refl _), VLe.refl _, VLe.refl _, rfl⟩

set_option maxRecDepth 100000 in
theorem factsRead_lifted (os : Os) (started : os.Started) (H : Type) (enc : TypeId × Value → H) :
    ReturnsInHanded {} Try.checked os 9 .any (Rows.factsReadSpec.pre6 enc Try.prog Try.f9 Rows.factsReadRow.domain false) (Rows.factsReadSpec.post enc Try.prog Try.f9 false true false false) := by
  refine returnsInHanded_of_change (C := Try.checked) own started (by kernel_rfl) Try.func9
    (ChangeSpec.witness6 (enc := enc) (C := Try.checked) false ⟨#[], #[(.slice none 0 0), (.agg #[.int .i64 0, .int .i64 0, .int .i64 0, .int .i64 0, .int .i64 0]), (.int .i64 0), (.int .i64 0)], []⟩ 8 (by kernel_rfl) (by kernel_rfl) (by kernel_rfl) (by kernel_rfl)) ?_
  intro W base args ds gs before hval0 hW hcnd _
  exact law_contract (C := Try.checked) (T := tt) ttok (n := 12) Try.func9 rfl rfl (by kernel_rfl) laidOut (by kernel_rfl) rfl (tb := 4) (by kernel_rfl) rfl (m := 4) rfl
    (fun ds h => by match ds, h with | [a0, a1, a2, a3], _ => rfl) (fun xs hx => factsRead_pure hx) W (by intro p hp; cases hp) base args ds gs before hval0 hW
theorem factsRead_holds : Rows.FactsReadSaid :=
  OpenClaim.holds_of_wide 9 Try.f9 rfl rfl rfl rfl rfl rfl rfl ⟨rfl, rfl, rfl, rfl, rfl⟩ rfl rfl rfl rfl rfl (by kernel_rfl) Try.func9 (by kernel_rfl)
    (of_decide_eq_true (by kernel_rfl)) (by unfold Func.isWrapper; first | (rw [if_pos (by decide +kernel)]; kernel_rfl) | (rw [if_neg (by decide +kernel)]; exact ⟨rfl, rfl⟩))
    (fun os started H enc _ => factsRead_lifted os started H enc)

end Go.Proofs.Ytnemmfoohmkcgaa

