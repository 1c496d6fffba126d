/- The statements of floors: Spec. -/
import Derived.Test.YtgpgfcehcenejaaW34s
namespace Go.PM
open Go.Proofs
set_option maxRecDepth 10000
set_option maxHeartbeats 8000000

theorem runM_rows {fl : List Flow} : ∀ {n : Nat} {p : Int} {now : List Int} {t : List (List Int)}, runM fl n p now = some t → t.length = n ∧ ∀ r ∈ t, r.length = now.length
  | 0, p, now, t, h => by simp [runM] at h; subst h; simp
  | n + 1, p, now, t, h => by
    by_cases hc : canP fl p now
    · rw [runM_some hc] at h
      obtain ⟨t', h1, rfl⟩ := Option.map_eq_some_iff.1 h
      obtain ⟨a, b⟩ := runM_rows h1
      refine ⟨by simp [a], fun r hr => ?_⟩
      cases hr with
      | head => exact afterM_len _ _ _
      | tail _ hr => rw [b r hr, afterM_len]
    · rw [runM_none hc] at h; cases h
theorem amtsT_rows (h : Hist) : (amtsT h).length ≤ 16 ∧ ∀ r ∈ amtsT h, r.length ≤ 16 := by
  by_cases he : amtsE h = 0
  · obtain ⟨t, h1, h2⟩ := amtsE_some he
    have hok := amtsE_ok he
    have := hok.np
    have := hok.nv
    rw [h2]
    obtain ⟨a, b⟩ := runM_rows h1
    exact ⟨by omega, fun r hr => by rw [b r hr]; omega⟩
  · rw [amtsT_nil he]; simp
theorem ship_len (h : Hist) : (shipL h).length ≤ 64 ∧ (shipA h).length ≤ 64 := by
  unfold shipL shipA
  by_cases he : amtsE h = 0
  · have hok := amtsE_ok he
    have := hok.nf
    have h1 : (sentL h.fl).length ≤ 64 := by
      have h2 := (foldF_spec (h.fl.filter isOut) [] List.Pairwise.nil hok.labs (by simp)).2.length_eq
      have h3 := List.length_filter_le isOut h.fl
      unfold sentL
      rw [h2]
      simp only [List.nil_append]
      omega
    simp [he, h1]
  · simp [he]
theorem law34_Spec (h : Hist) (hw : WidH h) : CallP Try.prog 3 [.d h.d] (retD [.b true]) := by
  have a1 := floor_Amounts h hw
  have a2 := ref34_Amounts h hw
  have b1 := floor_Shipped h hw
  have b2 := ref34_Shipped h hw
  have d1 := floor_Check h hw
  have d2 := ref34_Check h hw
  have hF := ref34_Few h hw
  obtain ⟨t1, t2⟩ := amtsT_rows h
  obtain ⟨l1, l2⟩ := ship_len h
  have s1 := ref34_SameAmounts (amtsT h) (amtsT h) (by omega) (by omega) (fun x hx => by have := t2 x hx; omega) (fun x hx => by have := t2 x hx; omega)
  rw [decide_eq_true rfl] at s1
  have s2 := ref34_SameInts (shipL h) (shipL h) (by omega) (by omega)
  rw [decide_eq_true rfl] at s2
  have s3 := ref34_SameInts (shipA h) (shipA h) (by omega) (by omega)
  rw [decide_eq_true rfl] at s3
  refine exPure_sound (E := envOf Try.prog tt Try.f3.ntmps) (envOf_ok ttok mixed) Try.func3 (by rfl) rfl rfl (Nat.le_of_ble_eq_true rfl) ?_
  by_cases hf : h.op.length ≤ 20 ∧ h.fl.length ≤ 70
  · rw [decide_eq_true hf] at hF
    repeat' ((conv => whnf); first | with_reducible refine Dec.t (show true = true from rfl) ?_ | with_reducible refine Dec.t (show false = false from rfl) ?_ | with_reducible refine Dec.f (show ¬ (true = false) by decide) ?_ | with_reducible refine Dec.f (show ¬ (false = true) by decide) ?_ | refine Dec.t (by omega) ?_ | refine Dec.f (by omega) ?_ | refine Dec.split (fun _ => ?_) (fun _ => ?_) | refine Wr.id (by omega) ?_ | refine Chk.mk (by first | omega | exact rfl | (simp only [List.length_map]; omega) | (simp [room]; done) | (simp [room]; omega) | (simp [dropL, room]; done) | (simp [dropL, room]; omega)) ?_ | refine Nam.mk (List.length_map _) ?_ | refine Prep.skip ?_ | refine Eith.l ?_ | refine chk_t (x := D.flat _) (by assumption) ?_ | refine br_mk (fun _ => ?_) (fun _ => ?_) | refine ACall.of (law34_sane) ?_ | refine APCall.of (law34_sane) ?_ | refine ACall.of (hF) ?_ | refine APCall.of (hF) ?_ | refine ACall.of (a1) ?_ | refine APCall.of (a1) ?_ | refine ACall.of (a2) ?_ | refine APCall.of (a2) ?_ | refine ACall.of (b1) ?_ | refine APCall.of (b1) ?_ | refine ACall.of (b2) ?_ | refine APCall.of (b2) ?_ | refine ACall.of (d1) ?_ | refine APCall.of (d1) ?_ | refine ACall.of (d2) ?_ | refine APCall.of (d2) ?_ | refine ACall.of (s1) ?_ | refine APCall.of (s1) ?_ | refine ACall.of (s2) ?_ | refine APCall.of (s2) ?_ | refine ACall.of (s3) ?_ | refine APCall.of (s3) ?_ | fail)
    all_goals first | (exfalso; omega) | skip
    all_goals (conv => whnf)
    all_goals first | exact DLe.refl _
  · rw [decide_eq_false hf] at hF
    repeat' ((conv => whnf); first | with_reducible refine Dec.t (show true = true from rfl) ?_ | with_reducible refine Dec.t (show false = false from rfl) ?_ | with_reducible refine Dec.f (show ¬ (true = false) by decide) ?_ | with_reducible refine Dec.f (show ¬ (false = true) by decide) ?_ | refine Dec.t (by omega) ?_ | refine Dec.f (by omega) ?_ | refine Dec.split (fun _ => ?_) (fun _ => ?_) | refine Wr.id (by omega) ?_ | refine Chk.mk (by first | omega | exact rfl | (simp only [List.length_map]; omega) | (simp [room]; done) | (simp [room]; omega) | (simp [dropL, room]; done) | (simp [dropL, room]; omega)) ?_ | refine Nam.mk (List.length_map _) ?_ | refine Prep.skip ?_ | refine Eith.l ?_ | refine chk_t (x := D.flat _) (by assumption) ?_ | refine br_mk (fun _ => ?_) (fun _ => ?_) | refine ACall.of (law34_sane) ?_ | refine APCall.of (law34_sane) ?_ | refine ACall.of (hF) ?_ | refine APCall.of (hF) ?_ | fail)
    all_goals (conv => whnf)
    all_goals first | exact DLe.refl _
end Go.PM

