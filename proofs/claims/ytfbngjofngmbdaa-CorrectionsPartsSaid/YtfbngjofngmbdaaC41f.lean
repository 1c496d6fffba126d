/- The statements of layer 41: sane. -/
import Derived.Test.YtfbngjofngmbdaaC41e
namespace Go.PM
open Go.Proofs
set_option maxRecDepth 10000
set_option maxHeartbeats 8000000

def xF : List Fact := [⟨1, 3, 2, 9, 2, 6, 5, 7⟩, ⟨5, 1, 2, 4, 0, 3, 5, 8⟩, ⟨1, 3, 2, 8, 1, 4, 5, 9⟩]
def yF : List Fact := xF ++ [⟨5, 1, 2, -1, 0, 3, 6, 0⟩, ⟨1, 3, 2, -1, 1, 2, 6, 1⟩, ⟨1, 3, 2, 9, 2, 4, 6, 2⟩]
def xW : CWorld := { CWorld.zero with facts := xF }
def yW : CWorld := { CWorld.zero with facts := yF }
theorem leW : DLe (.agg [.sl 0 true [], .sl 0 true [], .sl 0 true [], .sl 0 true [], .sl 0 true [], .sl 0 true [], .sl 0 true [], .sl 0 true [], .sl 0 true [], .sl 0 true [], .sl 8 true [.agg [I 1, I 3, I 2, I 9, I 2, I 6, I 5, I 7]]]) w1.d :=
  DLe.agg ⟨DLe.refl _, DLe.refl _, DLe.refl _, DLe.refl _, DLe.refl _, DLe.refl _, DLe.refl _, DLe.refl _, DLe.refl _, DLe.refl _, DLe.full _ _ _, rfl⟩
theorem law41_sane : CallP Try.prog 6 [] (retD [.b true]) := by
  have c1 : CallP Try.prog 8 [.d w1.d, .d (SL 6 (l1.map Corr.d)), .d (I 5)] (retD [xW.d, I 0]) := by
    have h := corr_Apply w1 l1 5 (by decide) (by decide)
    rw [show applyM w1.facts l1 5 = (xF, 0) by decide +kernel] at h; exact h
  have cb := corr_Back1
  have cb0 := corr_Back0
  have c2 : CallP Try.prog 8 [.d xW.d, .d (SL 6 (back1.map Corr.d)), .d (I 6)] (retD [yW.d, I 0]) := by
    have h := corr_Apply xW back1 6 (by decide) (by decide)
    rw [show applyM xW.facts back1 6 = (yF, 0) by decide +kernel] at h; exact h
  have c3 : CallP Try.prog 15 [.d xW.d, .d (I 4), .d (I 5)] (retD [SL 4 ([(⟨⟨1, 3, 2⟩, [⟨1, 6⟩]⟩ : Dif), ⟨⟨5, 1, 2⟩, [⟨0, 3⟩]⟩].map Dif.d)]) := by
    have h := corr_Effect xW 4 5 (by decide)
    rw [show changedM xW.facts 4 5 = [(⟨⟨1, 3, 2⟩, [⟨1, 6⟩]⟩ : Dif), ⟨⟨5, 1, 2⟩, [⟨0, 3⟩]⟩] by decide +kernel] at h; exact h
  have c4 := facts_At xW.facts kA 3 5 (by decide)
  rw [show atM xW.facts kA 3 5 = some 8 by decide +kernel] at c4
  have c5 := facts_At yW.facts kA 3 6 (by decide)
  rw [show atM yW.facts kA 3 6 = some 9 by decide +kernel] at c5
  have c6 : CallP Try.prog 8 [.d w1.d, .d (SL 6 (l1.map Corr.d)), .d (I 4)] (retD [CWorld.zero.d, I 410]) := by
    have h := corr_Apply w1 l1 4 (by decide) (by decide)
    rw [show applyM w1.facts l1 4 = ([], 410) by decide +kernel] at h; exact h
  have c7 : CallP Try.prog 8 [.d CWorld.zero.d, .d (SL 6 (([] : List Corr).map Corr.d)), .d (I 0)] (retD [CWorld.zero.d, I 410]) := by
    have h := corr_Apply CWorld.zero [] 0 (by decide) (by decide)
    rw [show applyM CWorld.zero.facts [] 0 = ([], 410) by decide +kernel] at h; exact h
  have c8 : CallP Try.prog 8 [.d CWorld.zero.d, .d (SL 6 (([] : List Corr).map Corr.d)), .d (I 1)] (retD [CWorld.zero.d, I 0]) := by
    have h := corr_Apply CWorld.zero [] 1 (by decide) (by decide)
    rw [show applyM CWorld.zero.facts [] 1 = ([], 0) by decide +kernel] at h; exact h
  have c9 : CallP Try.prog 8 [.d CWorld.zero.d, .d (SL 6 ([(⟨0, 0, 0, 0, 3, 3⟩ : Corr)].map Corr.d)), .d (I 1)] (retD [CWorld.zero.d, I 410]) := by
    have h := corr_Apply CWorld.zero [⟨0, 0, 0, 0, 3, 3⟩] 1 (by decide) (by decide)
    rw [show applyM CWorld.zero.facts [⟨0, 0, 0, 0, 3, 3⟩] 1 = ([], 410) by decide +kernel] at h; exact h
  have c10 := ref41_Same back1 back1 (by decide)
  rw [decide_eq_true rfl] at c10
  have c11 : CallP Try.prog 15 [.d yW.d, .d (I 5), .d (I 5)] (retD [SL 4 (([] : List Dif).map Dif.d)]) := by
    have h := corr_Effect yW 5 5 (by decide)
    rw [show changedM yW.facts 5 5 = [] by decide +kernel] at h; exact h
  have p1 := corr_Physical kA
  rw [show decide (phys kA) = true by decide] at p1
  have p2 := corr_Physical kP
  rw [show decide (phys kP) = false by decide] at p2
  simp only [Option.getD_some, Option.isSome_some] at c4 c5
  refine exPure_sound (E := envOf Try.prog tt Try.f6.ntmps) (envOf_ok ttok mixed) Try.func6 (by rfl) rfl rfl (Nat.le_of_ble_eq_true rfl) ?_
  repeat' ((conv => whnf); first | refine Dec.t (of_decide_eq_true (Eq.refl true)) ?_ | refine Dec.f (of_decide_eq_false (Eq.refl false)) ?_ | with_reducible refine Dec.t (show true = true from rfl) ?_ | with_reducible refine Dec.t (show false = false from rfl) ?_ | with_reducible refine Dec.f (show ¬ (true = false) by decide) ?_ | with_reducible refine Dec.f (show ¬ (false = true) by decide) ?_ | refine Dec.t (by omega) ?_ | refine Dec.f (by omega) ?_ | refine Dec.split (fun _ => ?_) (fun _ => ?_) | refine Wr.id (by omega) ?_ | refine Chk.mk (by first | omega | exact rfl | (simp only [List.length_map]; omega) | (simp [room]; done) | (simp [room]; omega) | (simp [dropL, room]; done) | (simp [dropL, room]; omega)) ?_ | refine Nam.mk (List.length_map _) ?_ | refine Prep.skip ?_ | refine Eith.l ?_ | refine chk_t (x := D.flat _) (by assumption) ?_ | refine br_mk (fun _ => ?_) (fun _ => ?_) | refine Nam.mk (y := 1) rfl ?_ | refine Nam.mk (y := 2) rfl ?_ | refine Nam.mk (y := 3) rfl ?_ | refine Nam.mk (y := true) rfl ?_ | refine Nam.mk (y := false) rfl ?_ | (refine ACall.le ?_ c1 ?_; exact ⟨VLe.d leW, VLe.d (DLe.full _ _ _), VLe.refl _, rfl⟩) | (refine APCall.le ?_ c1 ?_; exact ⟨VLe.d leW, VLe.d (DLe.full _ _ _), VLe.refl _, rfl⟩) | (refine ACall.le ?_ c1 ?_; exact ⟨VLe.d leW, VLe.refl _, VLe.refl _, rfl⟩) | (refine APCall.le ?_ c1 ?_; exact ⟨VLe.d leW, VLe.refl _, VLe.refl _, rfl⟩) | (refine ACall.le ?_ cb ?_; exact ⟨VLe.d leW, VLe.d (DLe.full _ _ _), rfl⟩) | (refine APCall.le ?_ cb ?_; exact ⟨VLe.d leW, VLe.d (DLe.full _ _ _), rfl⟩) | (refine ACall.le ?_ cb ?_; exact ⟨VLe.d leW, VLe.refl _, rfl⟩) | (refine APCall.le ?_ cb ?_; exact ⟨VLe.d leW, VLe.refl _, rfl⟩) | (refine ACall.le ?_ c2 ?_; exact ⟨VLe.refl _, VLe.refl _, VLe.refl _, rfl⟩) | (refine APCall.le ?_ c2 ?_; exact ⟨VLe.refl _, VLe.refl _, VLe.refl _, rfl⟩) | (refine ACall.le ?_ c3 ?_; exact ⟨VLe.refl _, VLe.refl _, VLe.refl _, rfl⟩) | (refine APCall.le ?_ c3 ?_; exact ⟨VLe.refl _, VLe.refl _, VLe.refl _, rfl⟩) | (refine ACall.le ?_ c4 ?_; exact ⟨VLe.refl _, VLe.refl _, VLe.refl _, VLe.refl _, rfl⟩) | (refine APCall.le ?_ c4 ?_; exact ⟨VLe.refl _, VLe.refl _, VLe.refl _, VLe.refl _, rfl⟩) | (refine ACall.le ?_ c5 ?_; exact ⟨VLe.refl _, VLe.refl _, VLe.refl _, VLe.refl _, rfl⟩) | (refine APCall.le ?_ c5 ?_; exact ⟨VLe.refl _, VLe.refl _, VLe.refl _, VLe.refl _, rfl⟩) | (refine ACall.le ?_ c6 ?_; exact ⟨VLe.d leW, VLe.d (DLe.full _ _ _), VLe.refl _, rfl⟩) | (refine APCall.le ?_ c6 ?_; exact ⟨VLe.d leW, VLe.d (DLe.full _ _ _), VLe.refl _, rfl⟩) | (refine ACall.le ?_ c6 ?_; exact ⟨VLe.d leW, VLe.refl _, VLe.refl _, rfl⟩) | (refine APCall.le ?_ c6 ?_; exact ⟨VLe.d leW, VLe.refl _, VLe.refl _, rfl⟩) | (refine ACall.le ?_ c7 ?_; exact ⟨VLe.d zeroC_le, VLe.d (DLe.nil _ _ _), VLe.refl _, rfl⟩) | (refine APCall.le ?_ c7 ?_; exact ⟨VLe.d zeroC_le, VLe.d (DLe.nil _ _ _), VLe.refl _, rfl⟩) | (refine ACall.le ?_ c8 ?_; exact ⟨VLe.d zeroC_le, VLe.d (DLe.nil _ _ _), VLe.refl _, rfl⟩) | (refine APCall.le ?_ c8 ?_; exact ⟨VLe.d zeroC_le, VLe.d (DLe.nil _ _ _), VLe.refl _, rfl⟩) | (refine ACall.le ?_ c9 ?_; exact ⟨VLe.d zeroC_le, VLe.d (DLe.full _ _ _), VLe.refl _, rfl⟩) | (refine APCall.le ?_ c9 ?_; exact ⟨VLe.d zeroC_le, VLe.d (DLe.full _ _ _), VLe.refl _, rfl⟩) | (refine ACall.le ?_ c10 ?_; exact ⟨VLe.refl _, VLe.d (DLe.full _ _ _), rfl⟩) | (refine APCall.le ?_ c10 ?_; exact ⟨VLe.refl _, VLe.d (DLe.full _ _ _), rfl⟩) | (refine ACall.le ?_ c11 ?_; exact ⟨VLe.refl _, VLe.refl _, VLe.refl _, rfl⟩) | (refine APCall.le ?_ c11 ?_; exact ⟨VLe.refl _, VLe.refl _, VLe.refl _, rfl⟩) | (refine ACall.le ?_ cb0 ?_; exact ⟨VLe.d leW, VLe.d (DLe.nil _ _ _), rfl⟩) | (refine APCall.le ?_ cb0 ?_; exact ⟨VLe.d leW, VLe.d (DLe.nil _ _ _), rfl⟩) | (refine ACall.le ?_ cb0 ?_; exact ⟨VLe.d leW, VLe.refl _, rfl⟩) | (refine APCall.le ?_ cb0 ?_; exact ⟨VLe.d leW, VLe.refl _, rfl⟩) | (refine ACall.le ?_ p1 ?_; exact ⟨VLe.refl _, rfl⟩) | (refine APCall.le ?_ p1 ?_; exact ⟨VLe.refl _, rfl⟩) | (refine ACall.le ?_ p2 ?_; exact ⟨VLe.refl _, rfl⟩) | (refine APCall.le ?_ p2 ?_; exact ⟨VLe.refl _, rfl⟩) | fail)
  all_goals (conv => whnf)
  exact DLe.refl _
end Go.PM

