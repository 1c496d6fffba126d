/- FloorSplit: for every input the law returns true, and its arguments read behind the call as they read before. No condition. -/
import Derived.Test.YtgpgfcehcenejaaL34g
import Derived.Test.YtgpgfcehcenejaaRead34
import Derived.Test.YtgpgfcehcenejaaRows
namespace Go.PM
theorem hist_ofA {n : Nat} {zs : List D} (h : DTy tt (n + 11) 25 zs) : ∃ x : Hist, DLe (.agg zs) x.d ∧ WidH x ∧ ∀ f ∈ x.fl, f.amt ≤ 9223372036854775807 := by
  obtain ⟨_, _, rfl, ⟨fop, op, rfl, lop, hop⟩, ⟨_, _, rfl, ⟨per, rfl, hper⟩, ⟨_, _, rfl, ⟨ffl, fl, rfl, lfl, hfl⟩, rfl⟩⟩⟩ := h
  obtain ⟨o, rfl, ho⟩ := ints_of (n := n + 8) hop
  obtain ⟨f, rfl, hf⟩ := flow_ofs hfl
  rw [List.length_map] at lop lfl
  exact ⟨⟨o, per, f⟩, DLe.agg ⟨DLe.full _ _ _, DLe.refl _, DLe.full _ _ _, rfl⟩, ⟨max2 lop, max2 lfl⟩, fun g hg => (i64_of (hf g hg).2.2.2.2.1).2⟩
end Go.PM
namespace Go.Proofs.Ytgpgfcehcenejaa
open Go.ChangeShapes Go.WideShapes Go.ChangeAt Go.RowKit Go.PM
theorem own : ownKnob Try.prog.godebug = none := by kernel_rfl
theorem laidOut : laidOutB Try.prog = true := by kernel_rfl

theorem floorSplit_pure {xs : List D} (h : ArgsTy tt 12 Try.f7.params.toList xs) : CallP Try.prog 7 (xs.map .d) (retD [.b true]) := by
  obtain ⟨_, _, rfl, ⟨_, hh, rfl⟩, ⟨_, _, rfl, ⟨_, ⟨i, rfl, hi⟩, ⟨⟩⟩, ⟨_, _, rfl, ⟨_, ⟨p, rfl, hp⟩, ⟨⟩⟩, rfl⟩⟩⟩ := h
  obtain ⟨x, lx, hx, hamt⟩ := hist_ofA (n := 1) hh
  refine CallP.le ?_ (law34_Split x i p hx (u8_of hi) hamt)
  exact ⟨VLe.d lx, VLe.refl _, VLe.refl _, rfl⟩

set_option maxRecDepth 100000 in
theorem floorSplit_lifted (os : Os) (started : os.Started) (H : Type) (enc : TypeId × Value → H) :
    ReturnsInHanded {} Try.checked os 7 .any (Rows.floorSplitSpec.pre6 enc Try.prog Try.f7 Rows.floorSplitRow.domain false) (Rows.floorSplitSpec.post enc Try.prog Try.f7 false true false false) := by
  refine returnsInHanded_of_change (C := Try.checked) own started (by kernel_rfl) Try.func7
    (ChangeSpec.witness6 (enc := enc) (C := Try.checked) false ⟨#[], #[(.agg #[.slice none 0 0, .int .i64 0, .slice none 0 0]), (.int .u8 0), (.int .i64 0)], []⟩ 8 (by kernel_rfl) (by kernel_rfl) (by kernel_rfl) (by kernel_rfl)) ?_
  intro W base args ds gs before hval0 hW hcnd _
  exact law_contract (C := Try.checked) (T := tt) ttok (n := 12) Try.func7 rfl rfl (by kernel_rfl) laidOut (by kernel_rfl) rfl (tb := 4) (by kernel_rfl) rfl (m := 3) rfl
    (fun ds h => by match ds, h with | [a0, a1, a2], _ => rfl) (fun xs hx => floorSplit_pure hx) W (by intro p hp; cases hp) base args ds gs before hval0 hW
theorem floorSplit_holds : Rows.FloorSplitSaid :=
  OpenClaim.holds_of_wide 7 Try.f7 rfl rfl rfl rfl rfl rfl rfl ⟨rfl, rfl, rfl, rfl, rfl⟩ rfl rfl rfl rfl rfl (by kernel_rfl) Try.func7 (by kernel_rfl)
    (of_decide_eq_true (by kernel_rfl)) (by unfold Func.isWrapper; first | (rw [if_pos (by decide +kernel)]; kernel_rfl) | (rw [if_neg (by decide +kernel)]; exact ⟨rfl, rfl⟩))
    (fun os started H enc _ => floorSplit_lifted os started H enc)

end Go.Proofs.Ytgpgfcehcenejaa

