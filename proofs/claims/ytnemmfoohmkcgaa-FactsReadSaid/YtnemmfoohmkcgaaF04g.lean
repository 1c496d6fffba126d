/- The statements of layer 4: sane. -/
import Derived.Test.YtnemmfoohmkcgaaF04f
namespace Go.PM
open Go.Proofs
set_option maxRecDepth 10000
set_option maxHeartbeats 4000000

def kG : Key := ⟨3, 4, 9⟩
def gradeF (v a b t n : Int) : Fact := ⟨3, 4, 9, v, a, b, t, n⟩
theorem law04_grade (v a b t n : Int) : CallP Try.prog 31 [.d (I v), .d (I a), .d (I b), .d (I t), .d (I n)] (retD [(gradeF v a b t n).d]) := by
  refine exPure_sound (E := envOf Try.prog tt Try.f31.ntmps) (envOf_ok ttok mixed) Try.func31 (by rfl) rfl rfl (Nat.le_of_ble_eq_true rfl) ?_
  repeat' ((conv => whnf); first | with_reducible refine Dec.t (show true = true from rfl) ?_ | with_reducible refine Dec.t (show false = false from rfl) ?_ | with_reducible refine Dec.f (show ¬ (true = false) by decide) ?_ | with_reducible refine Dec.f (show ¬ (false = true) by decide) ?_ | refine Dec.t (by omega) ?_ | refine Dec.f (by omega) ?_ | refine Dec.split (fun _ => ?_) (fun _ => ?_) | refine Wr.id (by omega) ?_ | refine Chk.mk (by first | omega | exact rfl | (simp only [List.length_map]; omega) | (simp [room]; done) | (simp [room]; omega) | (simp [dropL, room]; done) | (simp [dropL, room]; omega)) ?_ | refine Nam.mk (List.length_map _) ?_ | refine Prep.skip ?_ | refine Eith.l ?_ | refine chk_t (x := D.flat _) (by assumption) ?_ | refine br_mk (fun _ => ?_) (fun _ => ?_) | fail)
  all_goals (conv => whnf)
  exact DLe.refl _
def g1 : Fact := gradeF 7 2 6 10 0
def g2 : Fact := gradeF (-1) 3 4 20 0
def gL : List Fact := [g1, g2]
theorem le2 : DLe (.sl 8 true [g1.d, g2.d]) (SL 8 (gL.map Fact.d)) := DLe.full _ _ _
theorem same_facts04 (r : List Fact) (h : r.length < 2 ^ 40) : CallP Try.prog 17 [.d (SL 8 (r.map Fact.d)), .d (SL 8 (r.map Fact.d))] (retD [.b true]) := by
  have h := ref04_Same r r h
  rwa [decide_eq_true rfl] at h
theorem leDif : DLe (.sl 4 true [.agg [I 3, I 4, I 9, .sl 2 true [.agg [I 3, I 4]]]]) (SL 4 ([(⟨kG, [⟨3, 4⟩]⟩ : Dif)].map Dif.d)) :=
  (show DLe (.sl 4 true [.agg [I 3, I 4, I 9, .sl 2 true [.agg [I 3, I 4]]]]) (.sl 4 true ([(⟨kG, [⟨3, 4⟩]⟩ : Dif)].map Dif.d)) from DLe.sl ⟨rfl, fun j x y hx hy => by
    match j, hx, hy with
    | 0, hx, hy => cases hx; cases hy; exact ⟨DLe.refl _, DLe.refl _, DLe.refl _, DLe.full _ _ _, rfl⟩⟩).trans (DLe.full _ _ _)
theorem law04_sane : CallP Try.prog 11 [] (retD [.b true]) := by
  have c1 := facts_At gL kG 3 15 (by decide)
  rw [show atM gL kG 3 15 = some 7 by decide +kernel] at c1
  have c2 := facts_At gL kG 3 20 (by decide)
  rw [show atM gL kG 3 20 = none by decide +kernel] at c2
  have c3 := facts_At gL kG 2 20 (by decide)
  rw [show atM gL kG 2 20 = some 7 by decide +kernel] at c3
  have c4 := facts_At [] kG 0 0 (by decide)
  rw [show atM [] kG 0 0 = none by decide +kernel] at c4
  have c5 := facts_Add [g1] g2 (by decide)
  rw [show addM [g1] g2 = (gL, 0) by decide +kernel] at c5
  have c6 := facts_Add gL (gradeF 7 2 6 20 0) (by decide)
  rw [show addM gL (gradeF 7 2 6 20 0) = ([], 41) by decide +kernel] at c6
  have c7 := facts_Changed gL 15 20 (by decide)
  rw [show changedM gL 15 20 = [⟨kG, [⟨3, 4⟩]⟩] by decide +kernel] at c7
  have c8 := facts_Check [Fact.zero] (by decide)
  rw [show checkM [Fact.zero] = 40 by decide +kernel] at c8
  have c9 := facts_Check gL (by decide)
  rw [show checkM gL = 0 by decide +kernel] at c9
  have c10 := facts_Points gL kG 5 5 20 (by decide)
  rw [show pointsM gL kG 5 5 20 = [] by decide +kernel] at c10
  have c11 := same_facts04 gL (by decide)
  have c12 := ref04_SameDiffers [⟨kG, [⟨3, 4⟩]⟩] [⟨kG, [⟨3, 4⟩]⟩] (by decide) (by intro x hx; simp at hx; subst hx; decide)
  rw [decide_eq_true rfl] at c12
  have c13 := facts_Alike gL [] 1 2 (by decide) (by decide)
  rw [show decide (alikeM gL [] 1 2) = true by decide +kernel] at c13
  have c14 := facts_Alike gL [⟨3, 4, 9, 0, 9⟩] 15 20 (by decide) (by decide)
  rw [show decide (alikeM gL [⟨3, 4, 9, 0, 9⟩] 15 20) = false by decide +kernel] at c14
  have c15 := facts_Points gL kG 0 9 20 (by decide)
  have n15 : (pointsM gL kG 0 9 20).length = 3 := by decide +kernel
  generalize pointsM gL kG 0 9 20 = P at c15 n15
  have c16 := facts_Upto gL 19 (by decide)
  rw [show (gL.filter fun f => decide (f.known ≤ 19)) = [g1] by decide +kernel] at c16
  have c17 := same_facts04 [g1] (by decide)
  simp only [Option.getD_some, Option.isSome_some, Option.getD_none, Option.isSome_none] at c1 c2 c3 c4
  refine exPure_sound (E := envOf Try.prog tt Try.f11.ntmps) (envOf_ok ttok mixed) Try.func11 (by rfl) rfl rfl (Nat.le_of_ble_eq_true rfl) ?_
  repeat' ((conv => whnf); first | with_reducible refine Dec.t (show true = true from rfl) ?_ | with_reducible refine Dec.t (show false = false from rfl) ?_ | with_reducible refine Dec.f (show ¬ (true = false) by decide) ?_ | with_reducible refine Dec.f (show ¬ (false = true) by decide) ?_ | refine Dec.t (by omega) ?_ | refine Dec.f (by omega) ?_ | refine Dec.split (fun _ => ?_) (fun _ => ?_) | refine Wr.id (by omega) ?_ | refine Chk.mk (by first | omega | exact rfl | (simp only [List.length_map]; omega) | (simp [room]; done) | (simp [room]; omega) | (simp [dropL, room]; done) | (simp [dropL, room]; omega)) ?_ | refine Nam.mk (List.length_map _) ?_ | refine Prep.skip ?_ | refine Eith.l ?_ | refine chk_t (x := D.flat _) (by assumption) ?_ | refine br_mk (fun _ => ?_) (fun _ => ?_) | refine Nam.mk ((List.length_map _).trans n15) ?_ | refine Nam.mk (y := 0) rfl ?_ | refine Nam.mk (y := 1) rfl ?_ | refine ACall.of (law04_grade _ _ _ _ _) ?_ | refine APCall.of (law04_grade _ _ _ _ _) ?_ | (refine ACall.le ?_ c1 ?_; exact ⟨VLe.d le2, VLe.refl _, VLe.refl _, VLe.refl _, rfl⟩) | (refine APCall.le ?_ c1 ?_; exact ⟨VLe.d le2, VLe.refl _, VLe.refl _, VLe.refl _, rfl⟩) | (refine ACall.le ?_ c2 ?_; exact ⟨VLe.d le2, VLe.refl _, VLe.refl _, VLe.refl _, rfl⟩) | (refine APCall.le ?_ c2 ?_; exact ⟨VLe.d le2, VLe.refl _, VLe.refl _, VLe.refl _, rfl⟩) | (refine ACall.le ?_ c3 ?_; exact ⟨VLe.d le2, VLe.refl _, VLe.refl _, VLe.refl _, rfl⟩) | (refine APCall.le ?_ c3 ?_; exact ⟨VLe.d le2, VLe.refl _, VLe.refl _, VLe.refl _, rfl⟩) | (refine ACall.le ?_ c4 ?_; exact ⟨VLe.d (DLe.nil _ _ _), VLe.refl _, VLe.refl _, VLe.refl _, rfl⟩) | (refine APCall.le ?_ c4 ?_; exact ⟨VLe.d (DLe.nil _ _ _), VLe.refl _, VLe.refl _, VLe.refl _, rfl⟩) | (refine ACall.le ?_ c5 ?_; exact ⟨VLe.refl _, VLe.refl _, rfl⟩) | (refine APCall.le ?_ c5 ?_; exact ⟨VLe.refl _, VLe.refl _, rfl⟩) | (refine ACall.le ?_ c6 ?_; exact ⟨VLe.d le2, VLe.refl _, rfl⟩) | (refine APCall.le ?_ c6 ?_; exact ⟨VLe.d le2, VLe.refl _, rfl⟩) | (refine ACall.le ?_ c7 ?_; exact ⟨VLe.d le2, VLe.refl _, VLe.refl _, rfl⟩) | (refine APCall.le ?_ c7 ?_; exact ⟨VLe.d le2, VLe.refl _, VLe.refl _, rfl⟩) | (refine ACall.le ?_ c8 ?_; exact ⟨VLe.d (DLe.full _ _ _), rfl⟩) | (refine APCall.le ?_ c8 ?_; exact ⟨VLe.d (DLe.full _ _ _), rfl⟩) | (refine ACall.le ?_ c9 ?_; exact ⟨VLe.d le2, rfl⟩) | (refine APCall.le ?_ c9 ?_; exact ⟨VLe.d le2, rfl⟩) | (refine ACall.le ?_ c10 ?_; exact ⟨VLe.d le2, VLe.refl _, VLe.refl _, VLe.refl _, VLe.refl _, rfl⟩) | (refine APCall.le ?_ c10 ?_; exact ⟨VLe.d le2, VLe.refl _, VLe.refl _, VLe.refl _, VLe.refl _, rfl⟩) | (refine ACall.le ?_ c11 ?_; exact ⟨VLe.refl _, VLe.d le2, rfl⟩) | (refine APCall.le ?_ c11 ?_; exact ⟨VLe.refl _, VLe.d le2, rfl⟩) | (refine ACall.le ?_ c12 ?_; exact ⟨VLe.refl _, VLe.d leDif, rfl⟩) | (refine APCall.le ?_ c12 ?_; exact ⟨VLe.refl _, VLe.d leDif, rfl⟩) | (refine ACall.le ?_ c13 ?_; exact ⟨VLe.d le2, VLe.d (DLe.nil _ _ _), VLe.refl _, VLe.refl _, rfl⟩) | (refine APCall.le ?_ c13 ?_; exact ⟨VLe.d le2, VLe.d (DLe.nil _ _ _), VLe.refl _, VLe.refl _, rfl⟩) | (refine ACall.le ?_ c14 ?_; exact ⟨VLe.d le2, VLe.d (DLe.full _ _ _), VLe.refl _, VLe.refl _, rfl⟩) | (refine APCall.le ?_ c14 ?_; exact ⟨VLe.d le2, VLe.d (DLe.full _ _ _), VLe.refl _, VLe.refl _, rfl⟩) | (refine ACall.le ?_ c15 ?_; exact ⟨VLe.d le2, VLe.refl _, VLe.refl _, VLe.refl _, VLe.refl _, rfl⟩) | (refine APCall.le ?_ c15 ?_; exact ⟨VLe.d le2, VLe.refl _, VLe.refl _, VLe.refl _, VLe.refl _, rfl⟩) | (refine ACall.le ?_ c16 ?_; exact ⟨VLe.d le2, VLe.refl _, rfl⟩) | (refine APCall.le ?_ c16 ?_; exact ⟨VLe.d le2, VLe.refl _, rfl⟩) | (refine ACall.le ?_ c17 ?_; exact ⟨VLe.refl _, VLe.refl _, rfl⟩) | (refine APCall.le ?_ c17 ?_; exact ⟨VLe.refl _, VLe.refl _, rfl⟩) | fail)
  all_goals (conv => whnf)
  all_goals first | exact DLe.refl _ | exact absurd rfl (by assumption) | (exfalso; rename_i h; exact h rfl) | (exfalso; rename_i h; exact absurd h (by decide)) | trace_state
end Go.PM

