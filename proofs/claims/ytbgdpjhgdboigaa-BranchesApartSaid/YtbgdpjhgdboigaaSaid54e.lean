/- BranchesApart: for every input the law returns true, and its arguments read behind the call as they read before. No condition. -/
import Derived.Test.YtbgdpjhgdboigaaL54btoL54d
import Derived.Test.YtbgdpjhgdboigaaRead54
import Derived.Test.YtbgdpjhgdboigaaRows
namespace Go.Proofs.Ytbgdpjhgdboigaa
open Go.ChangeShapes Go.WideShapes Go.ChangeAt Go.RowKit Go.PM
theorem own : ownKnob Try.prog.godebug = none := by kernel_rfl
theorem laidOut : laidOutB Try.prog = true := by kernel_rfl

theorem mv_of {n : Nat} {zs : List D} (h : DTy tt (n + 9) 56 zs) : ∃ s : Mv, D.agg zs = s.d := by
  obtain ⟨_, _, rfl, ⟨kind, rfl, hkind⟩, ⟨_, _, rfl, ⟨no, rfl, hno⟩, ⟨_, _, rfl, ⟨_, _, rfl, ⟨_, _, rfl, ⟨ck, rfl, hck⟩, ⟨_, _, rfl, ⟨cs, rfl, hcs⟩, ⟨_, _, rfl, ⟨co, rfl, hco⟩, rfl⟩⟩⟩, ⟨_, _, rfl, ⟨cv, rfl, hcv⟩, ⟨_, _, rfl, ⟨_, _, rfl, ⟨cf, rfl, hcf⟩, ⟨_, _, rfl, ⟨ct, rfl, hct⟩, rfl⟩⟩, rfl⟩⟩⟩, rfl⟩⟩⟩ := h
  exact ⟨⟨kind, no, ⟨ck, cs, co, cv, cf, ct⟩⟩, rfl⟩
theorem mvs_of {n : Nat} {ys : List D} (h : ∀ y ∈ ys, ∃ zs, DTy tt (n + 9) 56 zs ∧ y = .agg zs) : ∃ l : List Mv, ys = l.map Mv.d ∧ ∀ s ∈ l, True :=
  maps_of fun y hy => by
    obtain ⟨zs, h1, rfl⟩ := h y hy
    obtain ⟨s, hs⟩ := mv_of h1
    exact ⟨s, hs, trivial⟩
theorem branchesApart_pure {xs : List D} (h : ArgsTy tt 12 Try.f6.params.toList xs) : CallP Try.prog 6 (xs.map .d) (retD [.b true]) := by
  obtain ⟨_, _, rfl, ⟨_, hb, rfl⟩, ⟨_, _, rfl, ⟨_, ⟨n, rfl, hn⟩, ⟨⟩⟩, ⟨_, _, rfl, ⟨_, ⟨fl, l, rfl, ll, hl⟩, ⟨⟩⟩, rfl⟩⟩⟩ := h
  obtain ⟨y, ly, hy⟩ := brn_of (n := 1) hb
  obtain ⟨ms, rfl, _⟩ := mvs_of (n := 2) hl
  rw [List.length_map] at ll
  refine CallP.le ?_ (law54_Apart y n ms hy (max2 ll))
  exact ⟨VLe.d ly, VLe.refl _, VLe.d (DLe.full _ _ _), rfl⟩

set_option maxRecDepth 100000 in
theorem branchesApart_lifted (os : Os) (started : os.Started) (H : Type) (enc : TypeId × Value → H) :
    ReturnsInHanded {} Try.checked os 6 .any (Rows.branchesApartSpec.pre6 enc Try.prog Try.f6 Rows.branchesApartRow.domain false) (Rows.branchesApartSpec.post enc Try.prog Try.f6 false true false false) := by
  refine returnsInHanded_of_change (C := Try.checked) own started (by kernel_rfl) Try.func6
    (ChangeSpec.witness6 (enc := enc) (C := Try.checked) false ⟨#[], #[(.agg #[.slice none 0 0, .slice none 0 0, .slice none 0 0, .slice none 0 0, .slice none 0 0]), (.int .i64 0), (.slice none 0 0)], []⟩ 8 (by kernel_rfl) (by kernel_rfl) (by kernel_rfl) (by kernel_rfl)) ?_
  intro W base args ds gs before hval0 hW hcnd _
  exact law_contract (C := Try.checked) (T := tt) ttok (n := 12) Try.func6 rfl rfl (by kernel_rfl) laidOut (by kernel_rfl) rfl (tb := 4) (by kernel_rfl) rfl (m := 3) rfl
    (fun ds h => by match ds, h with | [a0, a1, a2], _ => rfl) (fun xs hx => branchesApart_pure hx) W (by intro p hp; cases hp) base args ds gs before hval0 hW
theorem branchesApart_holds : Rows.BranchesApartSaid :=
  OpenClaim.holds_of_wide 6 Try.f6 rfl rfl rfl rfl rfl rfl rfl ⟨rfl, rfl, rfl, rfl, rfl⟩ rfl rfl rfl rfl rfl (by kernel_rfl) Try.func6 (by kernel_rfl)
    (of_decide_eq_true (by kernel_rfl)) (by unfold Func.isWrapper; first | (rw [if_pos (by decide +kernel)]; kernel_rfl) | (rw [if_neg (by decide +kernel)]; exact ⟨rfl, rfl⟩))
    (fun os started H enc _ => branchesApart_lifted os started H enc)

end Go.Proofs.Ytbgdpjhgdboigaa

