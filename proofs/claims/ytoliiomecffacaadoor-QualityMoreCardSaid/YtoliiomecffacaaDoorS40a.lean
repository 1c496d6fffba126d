/- The examples of law 40. -/
import Derived.Test.YtoliiomecffacaaDoorR40c
namespace Go.PM
open Go.Proofs
set_option maxRecDepth 10000
set_option maxHeartbeats 4000000

def nilD : D := .sl 0 true []
def exF : List Fact := [⟨0, 0, 0, 1, 0, 1024, 1, 0⟩, ⟨1, 0, 0, 0, 0, 1024, 1, 1⟩, ⟨1, 0, 1, 0, 0, 1024, 1, 2⟩, ⟨1, 0, 2, 5, 0, 1024, 1, 3⟩, ⟨1, 0, 3, 9, 0, 1024, 1, 4⟩, ⟨1, 0, 4, 0, 0, 1024, 1, 5⟩, ⟨8, 0, 2, 7, 0, 1024, 1, 6⟩]
def exW : AWorld := ⟨nilD, nilD, nilD, nilD, nilD, nilD, nilD, [], nilD, nilD, exF⟩
def zeroW : AWorld := ⟨nilD, nilD, nilD, nilD, nilD, nilD, nilD, [], nilD, nilD, []⟩
theorem law40_example : CallP Tryd.prog 24 [] (retD [exW.d]) := by
  refine exPure_sound (E := envOf Tryd.prog tt Tryd.f24.ntmps) (envOf_ok ttok mixed) Tryd.func24 (by rfl) rfl rfl (Nat.le_of_ble_eq_true rfl) ?_
  repeat' ((conv => whnf); first | with_reducible refine Dec.t (show true = true from rfl) ?_ | with_reducible refine Dec.t (show false = false from rfl) ?_ | with_reducible refine Dec.f (show ¬ (true = false) by decide) ?_ | with_reducible refine Dec.f (show ¬ (false = true) by decide) ?_ | refine Dec.t (by omega) ?_ | refine Dec.f (by omega) ?_ | refine Dec.split (fun _ => ?_) (fun _ => ?_) | refine Wr.id (by omega) ?_ | refine Chk.mk (by first | omega | exact rfl | (simp only [List.length_map]; omega) | (simp [room]; done) | (simp [room]; omega) | (simp [dropL, room]; done) | (simp [dropL, room]; omega)) ?_ | refine Nam.mk (List.length_map _) ?_ | refine Prep.skip ?_ | refine chk_t (x := D.flat _) (by assumption) ?_ | refine br_mk (fun _ => ?_) (fun _ => ?_) | refine ACall.body (E := envOf Tryd.prog tt Tryd.f45.ntmps) (envOf_ok ttok mixed) Tryd.func45 (by rfl) rfl (Nat.le_of_ble_eq_true rfl) ?_ | refine Nam.mk (y := 5) rfl ?_ | refine ALoop.rounds 6 ?_ | refine ALoopN.step (E := (envOf Tryd.prog tt Tryd.f24.ntmps)) (envOf_ok ttok mixed) ?_ | refine Nam.mk (y := 0) rfl ?_ | refine Nam.mk (y := exF.map Fact.d) rfl ?_ | fail)
  all_goals (conv => whnf)
  refine DLe.agg ?_
  exact (by repeat (first | exact trivial | exact rfl | exact DLe.refl _ | exact DLe.full _ _ _ | exact DLe.nil _ _ _ | exact VLe.refl _ | refine And.intro ?_ ?_ | refine VLe.d ?_ | refine DLe.agg ?_))
def goodL : List Spec := [⟨2, 7, 8⟩]
def badL : List Spec := [⟨2, 8, 9⟩]
def moreL : List Spec := [⟨2, 7, 7⟩, ⟨3, 0, 9⟩]
def lotRds : List Read := [⟨0, 0, 0, 4, 5⟩, ⟨1, 0, 0, 4, 5⟩, ⟨1, 0, 1, 4, 5⟩, ⟨1, 0, 2, 4, 5⟩, ⟨1, 0, 3, 4, 5⟩, ⟨1, 0, 4, 4, 5⟩]
theorem q1 : resultM zeroW 0 0 0 1 = (0, [⟨8, 0, 0, 0, 1⟩], false) := by decide
theorem q2 : resultM exW 0 2 4 1 = (7, [⟨8, 0, 2, 4, 5⟩], true) := by decide
theorem q3 : certifyM zeroW 0 0 1 [] = ⟨.agg [I 0, SL 2 [], .b false], [], 400⟩ := by
  unfold certifyM; rw [if_neg (by decide)]
theorem q4 : certifyM exW 0 4 1 moreL = ⟨certD 0 ⟨[⟨2, 7⟩], false, []⟩, lotRds ++ [⟨8, 0, 2, 4, 5⟩, ⟨8, 0, 3, 4, 5⟩], 0⟩ := by
  unfold certifyM; rw [if_pos (by decide)]; rfl
theorem q5 : certifyM exW 0 4 1 goodL = ⟨certD 0 ⟨[⟨2, 7⟩], true, []⟩, lotRds ++ [⟨8, 0, 2, 4, 5⟩], 0⟩ := by
  unfold certifyM; rw [if_pos (by decide)]; rfl
theorem q6 : checkCM exW ⟨0, [⟨2, 7⟩], false⟩ 4 1 moreL = (true, 0) := by decide
theorem q7 : checkCM exW ⟨0, [⟨2, 7⟩], true⟩ 4 1 moreL = (false, 0) := by decide
theorem q8 : (stateM exW 0 4 1 goodL []).1 = 0 ∧ (stateM exW 0 4 1 goodL []).2.2 = 0 := by decide
theorem q9 : (stateM exW 0 4 1 badL []).1 = 1 ∧ (stateM exW 0 4 1 badL []).2.2 = 0 := by decide
theorem q10 : (stateM exW 0 4 1 badL [0, 5]).1 = 2 ∧ (stateM exW 0 4 1 badL [0, 5]).2.2 = 0 := by decide
theorem q11 : (stateM exW 0 9 1 goodL []).1 = 1 ∧ (stateM exW 0 9 1 goodL []).2.2 = 0 := by decide
theorem q12 : (stateM exW 0 8 1 [] [1]).1 = 0 ∧ (stateM exW 0 8 1 [] [1]).2.2 = 0 := by decide
theorem q13 : (stateM zeroW 0 0 1 [] []).1 = 3 ∧ (stateM zeroW 0 0 1 [] []).2.2 = 0 := by decide
theorem q14 : (stateM zeroW 0 0 1 [] [2, 2]).2.2 = 400 := by decide
theorem law40_sane : CallP Tryd.prog 9 [] (retD [.b true]) := by
  have zle : VLe (.d (.agg [nilD, nilD, nilD, nilD, nilD, nilD, nilD, nilD, nilD, nilD, nilD])) (.d zeroW.d) :=
    VLe.d (DLe.agg ⟨DLe.refl _, DLe.refl _, DLe.refl _, DLe.refl _, DLe.refl _, DLe.refl _, DLe.refl _, DLe.nil _ _ _, DLe.refl _, DLe.refl _, DLe.nil _ _ _, rfl⟩)
  have c1 := quality_Result zeroW 0 0 0 1 (by decide)
  have c2 := quality_Result exW 0 2 4 1 (by decide)
  have c3 := quality_Certify zeroW 0 0 1 [] (by decide) (by decide)
  have c4 := quality_Certify exW 0 4 1 moreL (by decide) (by decide)
  have c5 := quality_Certify exW 0 4 1 goodL (by decide) (by decide)
  have c6 := quality_Check exW ⟨0, [⟨2, 7⟩], false⟩ 4 1 moreL (by decide) (by decide)
  have c7 := quality_Check exW ⟨0, [⟨2, 7⟩], true⟩ 4 1 moreL (by decide) (by decide)
  have c8 := quality_State exW 0 4 1 goodL [] (by decide) (by decide) (by decide)
  have c9 := quality_State exW 0 4 1 badL [] (by decide) (by decide) (by decide)
  have c10 := quality_State exW 0 4 1 badL [0, 5] (by decide) (by decide) (by decide)
  have c11 := quality_State exW 0 9 1 goodL [] (by decide) (by decide) (by decide)
  have c12 := quality_State exW 0 8 1 [] [1] (by decide) (by decide) (by decide)
  have c13 := quality_State zeroW 0 0 1 [] [] (by decide) (by decide) (by decide)
  have c14 := quality_State zeroW 0 0 1 [] [2, 2] (by decide) (by decide) (by decide)
  rw [q1] at c1
  rw [q2] at c2
  rw [q3] at c3
  rw [q4] at c4
  rw [q5] at c5
  rw [q6] at c6
  rw [q7] at c7
  rw [q8.1, q8.2] at c8
  rw [q9.1, q9.2] at c9
  rw [q10.1, q10.2] at c10
  rw [q11.1, q11.2] at c11
  rw [q12.1, q12.2] at c12
  rw [q13.1, q13.2] at c13
  rw [q14] at c14
  simp only [resD, List.map_cons, List.map_nil] at c1 c2
  simp only [CertM.d, certD, List.map_cons, List.map_nil, readsD, lotRds, List.cons_append, List.nil_append] at c3 c4 c5
  refine exPure_sound (E := envOf Tryd.prog tt Tryd.f9.ntmps) (envOf_ok ttok mixed) Tryd.func9 (by rfl) rfl rfl (Nat.le_of_ble_eq_true rfl) ?_
  repeat' ((conv => whnf); first | with_reducible refine Dec.t (show true = true from rfl) ?_ | with_reducible refine Dec.t (show false = false from rfl) ?_ | with_reducible refine Dec.f (show ¬ (true = false) by decide) ?_ | with_reducible refine Dec.f (show ¬ (false = true) by decide) ?_ | refine Dec.t (by omega) ?_ | refine Dec.f (by omega) ?_ | refine Dec.split (fun _ => ?_) (fun _ => ?_) | refine Wr.id (by omega) ?_ | refine Chk.mk (by first | omega | exact rfl | (simp only [List.length_map]; omega) | (simp [room]; done) | (simp [room]; omega) | (simp [dropL, room]; done) | (simp [dropL, room]; omega)) ?_ | refine Nam.mk (List.length_map _) ?_ | refine Prep.skip ?_ | refine chk_t (x := D.flat _) (by assumption) ?_ | refine br_mk (fun _ => ?_) (fun _ => ?_) | refine ACall.of (law40_example) ?_ | refine APCall.of (law40_example) ?_ | fail)
  conv => whnf
  refine ACall.le ?_ c1 ?_
  · exact ⟨zle, VLe.refl _, VLe.refl _, VLe.refl _, VLe.refl _, rfl⟩
  conv => whnf
  refine ACall.of c2 ?_
  conv => whnf
  refine ACall.le ?_ c3 ?_
  · exact ⟨zle, VLe.refl _, VLe.refl _, VLe.refl _, VLe.d (DLe.nil _ _ _), rfl⟩
  conv => whnf
  refine ACall.le ?_ c4 ?_
  · exact ⟨VLe.refl _, VLe.refl _, VLe.refl _, VLe.refl _, VLe.d (DLe.full _ _ _), rfl⟩
  conv => whnf
  refine ACall.le ?_ c5 ?_
  · exact ⟨VLe.refl _, VLe.refl _, VLe.refl _, VLe.refl _, VLe.d (DLe.full _ _ _), rfl⟩
  conv => whnf
  refine ACall.le ?_ c6 ?_
  · exact ⟨VLe.refl _, VLe.refl _, VLe.refl _, VLe.refl _, VLe.d (DLe.full _ _ _), rfl⟩
  conv => whnf
  refine ACall.le ?_ c7 ?_
  · exact ⟨VLe.refl _, VLe.refl _, VLe.refl _, VLe.refl _, VLe.d (DLe.full _ _ _), rfl⟩
  repeat' ((conv => whnf); first | refine Nam.mk (y := 1) rfl ?_ | refine Nam.mk (y := 2) rfl ?_ | refine Nam.mk (y := 8) rfl ?_ | refine Nam.mk (y := 5) rfl ?_ | refine Nam.mk (y := true) rfl ?_ | refine Nam.mk (y := false) rfl ?_ | refine Dec.t rfl ?_ | refine Dec.f (by decide) ?_ | refine Chk.mk (by decide) ?_ | refine Prep.skip ?_ | refine Wr.id (by decide) ?_ | fail)
  all_goals (conv => whnf)
  refine ALoop.rounds 6 ?_
  repeat' ((conv => whnf); first | with_reducible refine Dec.t (show true = true from rfl) ?_ | with_reducible refine Dec.t (show false = false from rfl) ?_ | with_reducible refine Dec.f (show ¬ (true = false) by decide) ?_ | with_reducible refine Dec.f (show ¬ (false = true) by decide) ?_ | refine Dec.t (by omega) ?_ | refine Dec.f (by omega) ?_ | refine Dec.split (fun _ => ?_) (fun _ => ?_) | refine Wr.id (by omega) ?_ | refine Chk.mk (by first | omega | exact rfl | (simp only [List.length_map]; omega) | (simp [room]; done) | (simp [room]; omega) | (simp [dropL, room]; done) | (simp [dropL, room]; omega)) ?_ | refine Nam.mk (List.length_map _) ?_ | refine Prep.skip ?_ | refine chk_t (x := D.flat _) (by assumption) ?_ | refine br_mk (fun _ => ?_) (fun _ => ?_) | refine ALoopN.step (E := (envOf Tryd.prog tt Tryd.f9.ntmps)) (envOf_ok ttok mixed) ?_ | refine Nam.mk (y := 5) rfl ?_ | (refine ACall.le ?_ c8 ?_; exact ⟨VLe.refl _, VLe.refl _, VLe.refl _, VLe.refl _, VLe.d (DLe.full _ _ _), VLe.d (DLe.nil _ _ _), rfl⟩) | (refine ACall.le ?_ c9 ?_; exact ⟨VLe.refl _, VLe.refl _, VLe.refl _, VLe.refl _, VLe.d (DLe.full _ _ _), VLe.d (DLe.nil _ _ _), rfl⟩) | (refine ACall.le ?_ c10 ?_; exact ⟨VLe.refl _, VLe.refl _, VLe.refl _, VLe.refl _, VLe.d (DLe.full _ _ _), VLe.d (DLe.full _ _ _), rfl⟩) | (refine ACall.le ?_ c11 ?_; exact ⟨VLe.refl _, VLe.refl _, VLe.refl _, VLe.refl _, VLe.d (DLe.full _ _ _), VLe.d (DLe.nil _ _ _), rfl⟩) | (refine ACall.le ?_ c12 ?_; exact ⟨VLe.refl _, VLe.refl _, VLe.refl _, VLe.refl _, VLe.d (DLe.nil _ _ _), VLe.d (DLe.full _ _ _), rfl⟩) | fail)
  conv => whnf
  refine ACall.le ?_ c13 ?_
  · exact ⟨zle, VLe.refl _, VLe.refl _, VLe.refl _, VLe.d (DLe.nil _ _ _), VLe.d (DLe.nil _ _ _), rfl⟩
  conv => whnf
  refine ACall.le ?_ c14 ?_
  · exact ⟨zle, VLe.refl _, VLe.refl _, VLe.refl _, VLe.d (DLe.nil _ _ _), VLe.d (DLe.full _ _ _), rfl⟩
  repeat' ((conv => whnf); first | refine Nam.mk (y := true) rfl ?_ | refine Nam.mk (y := false) rfl ?_ | refine Dec.t rfl ?_ | refine Dec.f (by decide) ?_ | refine Chk.mk (by decide) ?_ | refine Prep.skip ?_ | refine Wr.id (by decide) ?_ | fail)
  all_goals (conv => whnf)
  all_goals exact (by repeat (first | exact trivial | exact rfl | exact DLe.refl _ | exact DLe.full _ _ _ | exact DLe.nil _ _ _ | exact VLe.refl _ | refine And.intro ?_ ?_ | refine VLe.d ?_ | refine DLe.agg ?_))
end Go.PM

