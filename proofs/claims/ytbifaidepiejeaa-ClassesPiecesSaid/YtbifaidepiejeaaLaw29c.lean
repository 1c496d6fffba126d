/- The chapter's examples. -/
import Derived.Test.YtbifaidepiejeaaLaw29b
import Derived.Test.YtbifaidepiejeaaTable
namespace Go.PM
open Go.Proofs
set_option maxRecDepth 10000

def lateR : Request := ⟨0, 1, 3, 7, 4, 5⟩
def otherR : Request := ⟨0, 0, 3, 6, 4, 5⟩
def rd0 : Read := ⟨7, 3, 0, 6, 7⟩
def rd1 : Read := ⟨7, 3, 1, 6, 7⟩
theorem sane1 : fitsM sampleW aS rR 9 = (true, [rd0]) := by decide
theorem sane2 : fitsM sampleW aS rR 10 = (false, [rd0]) := by decide
theorem sane3 : fitsM sampleW aS lateR 9 = (false, []) := by decide
theorem sane4 : (fitsM sampleW bS otherR 9).1 = false := by decide
theorem sane5 : (tableM sampleW [aS, bS, aS] [rR, otherR] 10) = ⟨[[false, false], [true, false], [false, false]], [rd0, rd1], 0⟩ := by
  have h1 : tableOk [aS, bS, aS] [rR, otherR] := by decide
  unfold tableM
  rw [if_pos h1]
  congr 1
theorem sane6 : tableM zeroW [] [] 0 = ⟨[], [], 0⟩ := by
  unfold tableM; rw [if_pos (by decide)]; rfl
theorem sane7 : (fitsM zeroW ⟨0, 0, 0, 0, 0, 0⟩ ⟨0, 0, 0, 0, 0, 0⟩ 0).1 = true := by decide
theorem sane8 : mergeM [aS, bS, aS] [[false, false], [true, false], [false, false]] = (⟨[⟨0, 0, 0, 2, 10, 8⟩, bS], [[false, false], [true, false]], [0, 1, 0]⟩, 0) := by
  unfold mergeM; rw [if_pos (by decide)]; rfl
theorem sane9 : mergeM [] [[]] = (⟨[], [], []⟩, 290) := by
  unfold mergeM; rw [if_neg (by decide)]
theorem sane10 : tableM sampleW [⟨0, 0, 0, 0, 0, -1⟩] [] 0 = ⟨[], [], 290⟩ := by
  unfold tableM; rw [if_neg (by decide)]

theorem rows_le (b : List (List Bool)) : DLe (.sl 1 true (b.map fun r => .sl 1 true (r.map B))) (SL 1 (b.map rowD)) := by
  refine (DLe.sl (ys := b.map rowD) ⟨by simp, fun j x y hx hy => ?_⟩).trans (DLe.full _ _ _)
  rw [List.getElem?_map] at hx hy
  cases hb : b[j]? with
  | none => rw [hb] at hx; cases hx
  | some r => rw [hb] at hx hy; cases hx; cases hy; exact ⟨DLe.full _ _ _, rfl⟩
set_option maxHeartbeats 2000000 in
theorem law29_sane : CallP Try.prog 10 [] (retD [.b true]) := by
  have c1 := classes_Fits sampleW aS rR 9 (by decide) (by decide)
  have c2 := classes_Fits sampleW aS rR 10 (by decide) (by decide)
  have c3 := classes_Fits sampleW aS lateR 9 (by decide) (by decide)
  have c4 := classes_Fits sampleW bS otherR 9 (by decide) (by decide)
  have c5 := classes_Table sampleW [aS, bS, aS] [rR, otherR] 10 (by decide) (by decide) (by decide) (by decide)
  have c6 := classes_Table zeroW [] [] 0 (by decide) (by decide) (by decide) (by decide)
  have c7 := classes_Fits zeroW ⟨0, 0, 0, 0, 0, 0⟩ ⟨0, 0, 0, 0, 0, 0⟩ 0 (by decide) (by decide)
  have c8 := classes_Merge [aS, bS, aS] [[false, false], [true, false], [false, false]] (by decide) (by decide) (by decide)
  have c9 := classes_Merge [] [[]] (by decide) (by decide) (by decide)
  have c10 := classes_Table sampleW [⟨0, 0, 0, 0, 0, -1⟩] [] 0 (by decide) (by decide) (by decide) (by decide)
  rw [sane1] at c1
  rw [sane2] at c2
  rw [sane3] at c3
  rw [sane4] at c4
  rw [sane5] at c5
  rw [sane6] at c6
  rw [sane7] at c7
  rw [sane8] at c8
  rw [sane9] at c9
  rw [sane10] at c10
  refine exPure_sound (E := envOf Try.prog tt Try.f10.ntmps) (envOf_ok ttok mixed) Try.func10 (by rfl) rfl rfl (Nat.le_of_ble_eq_true rfl) ?_
  conv => whnf
  refine ACall.of law29_sample ?_
  conv => whnf
  refine ACall.of c1 ?_
  conv => whnf
  refine ACall.of c2 ?_
  conv => whnf
  refine ACall.of c3 ?_
  conv => whnf
  refine ACall.of c4 ?_
  conv => whnf
  refine ACall.le ?_ c5 ?_
  · exact ⟨VLe.refl _, VLe.d (DLe.full _ _ _), VLe.d (DLe.full _ _ _), VLe.refl _, rfl⟩
  conv => whnf
  refine ACall.le ?_ c6 ?_
  · exact ⟨VLe.d (DLe.agg ⟨DLe.refl _, DLe.refl _, DLe.refl _, DLe.refl _, DLe.refl _, DLe.refl _, DLe.refl _, DLe.nil _ _ _, DLe.refl _, DLe.refl _, DLe.nil _ _ _, rfl⟩), VLe.d (DLe.nil _ _ _), VLe.d (DLe.nil _ _ _), VLe.refl _, rfl⟩
  conv => whnf
  refine ACall.le ?_ c7 ?_
  · exact ⟨VLe.d (DLe.agg ⟨DLe.refl _, DLe.refl _, DLe.refl _, DLe.refl _, DLe.refl _, DLe.refl _, DLe.refl _, DLe.nil _ _ _, DLe.refl _, DLe.refl _, DLe.nil _ _ _, rfl⟩), VLe.refl _, VLe.refl _, VLe.refl _, rfl⟩
  conv => whnf
  refine ACall.le ?_ c8 ?_
  · exact ⟨VLe.d (DLe.full _ _ _), VLe.refl _, rfl⟩
  conv => whnf
  refine ACall.le ?_ c9 ?_
  · exact ⟨VLe.d (DLe.nil _ _ _), VLe.d ((DLe.sl (sz := 1) (full := true) (xs := [.sl 0 true []]) (ys := [SL 1 []]) ⟨rfl, fun j x y hx hy => by cases j with | zero => (cases hx; cases hy; exact ⟨DLe.nil _ _ _, rfl⟩) | succ j => cases hx⟩).trans (DLe.full _ _ _)), rfl⟩
  conv => whnf
  refine ACall.le ?_ c10 ?_
  · exact ⟨VLe.refl _, VLe.d (DLe.full _ _ _), VLe.d (DLe.nil _ _ _), VLe.refl _, rfl⟩
  repeat' ((conv => whnf); first | refine Dec.t rfl ?_ | refine Dec.f (show ¬ ((290 : Int) = 0) by decide) ?_ | refine Dec.t (show (0 : Int) = 0 from rfl) ?_ | refine Chk.mk (by decide) ?_ | refine Nam.mk rfl ?_ | refine Prep.skip ?_)
  conv => whnf
  refine ACall.leB ?_ (ref29_SameTable [[false, false], [true, false], [false, false]] [[false, false], [true, false], [false, false]] (by decide) (by decide)) (fun _ => ?_) (fun h => absurd h (by decide))
  · exact ⟨VLe.refl _, VLe.d (rows_le [[false, false], [true, false], [false, false]]), rfl⟩
  conv => whnf
  refine ACall.leB ?_ (ref29_SameSupplies [⟨0, 0, 0, 2, 10, 8⟩, bS] [⟨0, 0, 0, 2, 10, 8⟩, bS] (by decide)) (fun _ => ?_) (fun h => absurd h (by decide))
  · exact ⟨VLe.refl _, VLe.d (DLe.full _ _ _), rfl⟩
  conv => whnf
  refine Chk.mk (by decide) ?_
  conv => whnf
  refine ACall.leB ?_ (ref29_SameTable [[false, false], [true, false]] [[false, false], [true, false]] (by decide) (by decide)) (fun _ => ?_) (fun h => absurd h (by decide))
  · exact ⟨VLe.refl _, VLe.refl _, rfl⟩
  conv => whnf
  refine ACall.leB ?_ (ref29_SameInts [0, 1, 0] [0, 1, 0] (by decide)) (fun _ => ?_) (fun h => absurd h (by decide))
  · exact ⟨VLe.refl _, VLe.d (DLe.full _ _ _), rfl⟩
  conv => whnf
  exact (by repeat (first | exact trivial | exact rfl | exact DLe.refl _ | exact DLe.full _ _ _ | exact DLe.nil _ _ _ | exact VLe.refl _ | refine And.intro ?_ ?_ | refine VLe.d ?_ | refine DLe.agg ?_))
end Go.PM
