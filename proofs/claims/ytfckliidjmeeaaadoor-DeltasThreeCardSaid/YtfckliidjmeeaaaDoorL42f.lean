/- Deltas, law 42: Spec, Joined, Three. -/
import Derived.Test.YtfckliidjmeeaaaDoorL42ctoL42x
namespace Go.PM
open Go.Proofs
set_option maxRecDepth 10000
set_option maxHeartbeats 2000000

abbrev enD (l : List Ent) : V := .d (SL 2 (l.map Ent.d))
abbrev whD (l : List Why) : V := .d (SL 4 (l.map Why.d))
theorem smE_of {l : List Ent} (h : l.length ≤ 60) : SmE l := by unfold SmE; omega
/-- What can be compared. -/
structure CmpD (d : Dl) : Prop where
  g : d.gone.length < 2 ^ 40
  n : d.new.length < 2 ^ 40
  w : d.why.length < 2 ^ 40
  dd : ∀ w ∈ d.why, w.days.length < 2 ^ 40
theorem same_self {d : Dl} (h : CmpD d) : CallP Tryd.prog 21 [.d d.d, .d d.d] (retD [.b true]) := same_yes rfl (ref42_Same d d h.g h.n h.w h.dd)
theorem cmp_diff {a b : List Ent} {r : List Why} (ha : a.length ≤ 60) (hb : b.length ≤ 60) (hr : r.length < 2 ^ 40) (hd : ∀ w ∈ r, w.days.length < 2 ^ 40) : CmpD (diffM a b r).1 := by
  unfold diffM
  split
  · exact ⟨Nat.lt_of_le_of_lt (less_le a b) (by omega), Nat.lt_of_le_of_lt (less_le b a) (by omega), hr, hd⟩
  · exact ⟨by simp, by simp, by simp, by simp⟩
/-- Differences of small lists. -/
theorem diff_yes {a b : List Ent} (r : List Why) (h : vE a ∧ vE b) : diffM a b r = (⟨lessE a b, lessE b a, r⟩, 0) := by unfold diffM; rw [if_pos h]
theorem diff_no {a b : List Ent} (r : List Why) (h : ¬ (vE a ∧ vE b)) : diffM a b r = (⟨[], [], []⟩, 420) := by unfold diffM; rw [if_neg h]
theorem diff_nil (a b : List Ent) (ha : a.length ≤ 60) (hb : b.length ≤ 60) : CallP Tryd.prog 15 [enD a, enD b, .d nD] (retD [(diffM a b nilW).1.d, I (diffM a b nilW).2]) :=
  callAs (deltas_Diff a b [] (smE_of ha) (smE_of hb) (by simp)) ⟨VLe.refl _, VLe.refl _, VLe.d (vN _), rfl⟩
theorem law42_Three (a b c : List Ent) (ha : a.length < 2 ^ 63) (hb : b.length < 2 ^ 63) (hc : c.length < 2 ^ 63) : CallP Tryd.prog 7 [enD a, enD b, enD c] (retD [.b true]) := by
  have f1 := ref42_Few a ha
  have f2 := ref42_Few b hb
  have f3 := ref42_Few c hc
  by_cases hs : a.length ≤ 60 ∧ b.length ≤ 60 ∧ c.length ≤ 60
  · obtain ⟨s1, s2, s3⟩ := hs
    rw [decide_eq_true s1] at f1
    rw [decide_eq_true s2] at f2
    rw [decide_eq_true s3] at f3
    have k1 := diff_nil a b s1 s2
    have k2 := diff_nil b c s2 s3
    have k3 := diff_nil a c s1 s3
    by_cases h1 : vE a ∧ vE b
    · rw [diff_yes nilW h1] at k1
      by_cases h2 : vE b ∧ vE c
      · rw [diff_yes nilW h2] at k2
        rw [diff_yes nilW ⟨h1.1, h2.2⟩] at k3
        have k4 := diff_nil b a s2 s1
        rw [diff_yes nilW ⟨h1.2, h1.1⟩] at k4
        dsimp only at k1 k2 k3 k4
        have sm : ∀ (a b : List Ent), a.length ≤ 60 → b.length ≤ 60 → SmD (⟨lessE a b, lessE b a, []⟩ : Dl) := fun a b h1 h2 =>
          ⟨smE_of (Nat.le_trans (less_le a b) h1), smE_of (Nat.le_trans (less_le b a) h2), by simp⟩
        have k5 := deltas_Join ⟨lessE a b, lessE b a, []⟩ ⟨lessE b c, lessE c b, []⟩ (sm a b s1 s2) (sm b c s2 s3)
        rw [three_ok h1.1 h1.2 h2.2] at k5
        have k6 := deltas_Join ⟨lessE a b, lessE b a, []⟩ ⟨lessE b a, lessE a b, []⟩ (sm a b s1 s2) (sm b a s2 s1)
        rw [three_ok h1.1 h1.2 h1.1] at k6
        have haa : lessE a a = [] := List.filter_eq_nil_iff.2 fun x hx => by simpa using hx
        rw [haa] at k6
        have cc := cmp_diff (a := a) (b := c) (r := nilW) s1 s3 (by simp) (by simp)
        rw [diff_yes nilW ⟨h1.1, h2.2⟩] at cc
        have e1 := same_self cc
        have e2 := same_yes rfl (ref42_Same ⟨[], [], []⟩ ⟨[], [], []⟩ (by decide) (by decide) (by decide) (by simp))
        have e2 := callAs (args := [.d (Dlt.d (⟨[], [], []⟩ : Dl)), .d (.agg [nD, nD, nD])]) e2 ⟨VLe.refl _, VLe.d (DLe.agg ⟨vN _, vN _, vN _, rfl⟩), rfl⟩
        dsimp only at k5 k6 e1
        refine exPure_sound (E := envOf Tryd.prog tt Tryd.f7.ntmps) (envOf_ok ttok mixed) Tryd.func7 (by rfl) rfl rfl (Nat.le_of_ble_eq_true rfl) ?_
        repeat' ((conv => whnf); first | (with_reducible first | refine dT ?_ | refine dU ?_ | refine dF ?_ | refine dG ?_) | refine aT ?_ | refine aF ?_ | refine dS (fun _ => ?_) fun _ => ?_ | refine aW ?_ | refine aC ?_ | refine aL ?_ | refine Prep.skip ?_ | refine Eith.l ?_ | refine aD ?_ | refine aB (fun _ => ?_) fun _ => ?_ | refine ACall.of (law42_sane) ?_ | refine APCall.of (law42_sane) ?_ | refine ACall.of (f1) ?_ | refine APCall.of (f1) ?_ | refine ACall.of (f2) ?_ | refine APCall.of (f2) ?_ | refine ACall.of (f3) ?_ | refine APCall.of (f3) ?_ | refine ACall.of (k1) ?_ | refine APCall.of (k1) ?_ | refine ACall.of (k2) ?_ | refine APCall.of (k2) ?_ | refine ACall.of (k3) ?_ | refine APCall.of (k3) ?_ | refine ACall.of (k4) ?_ | refine APCall.of (k4) ?_ | refine ACall.of (k5) ?_ | refine APCall.of (k5) ?_ | refine ACall.of (k6) ?_ | refine APCall.of (k6) ?_ | refine ACall.of (e1) ?_ | refine APCall.of (e1) ?_ | refine ACall.of (e2) ?_ | refine APCall.of (e2) ?_ | fail)
        all_goals (conv => whnf)
        all_goals first | exact DLe.refl _ | (exfalso; omega)
      · rw [diff_no nilW h2] at k2
        dsimp only at k1 k2
        refine exPure_sound (E := envOf Tryd.prog tt Tryd.f7.ntmps) (envOf_ok ttok mixed) Tryd.func7 (by rfl) rfl rfl (Nat.le_of_ble_eq_true rfl) ?_
        repeat' ((conv => whnf); first | (with_reducible first | refine dT ?_ | refine dU ?_ | refine dF ?_ | refine dG ?_) | refine aT ?_ | refine aF ?_ | refine dS (fun _ => ?_) fun _ => ?_ | refine aW ?_ | refine aC ?_ | refine aL ?_ | refine Prep.skip ?_ | refine Eith.l ?_ | refine aD ?_ | refine aB (fun _ => ?_) fun _ => ?_ | refine ACall.of (law42_sane) ?_ | refine APCall.of (law42_sane) ?_ | refine ACall.of (f1) ?_ | refine APCall.of (f1) ?_ | refine ACall.of (f2) ?_ | refine APCall.of (f2) ?_ | refine ACall.of (f3) ?_ | refine APCall.of (f3) ?_ | refine ACall.of (k1) ?_ | refine APCall.of (k1) ?_ | refine ACall.of (k2) ?_ | refine APCall.of (k2) ?_ | refine ACall.of (k3) ?_ | refine APCall.of (k3) ?_ | fail)
        all_goals (conv => whnf)
        all_goals first | exact DLe.refl _ | (exfalso; omega)
    · rw [diff_no nilW h1] at k1
      dsimp only at k1
      refine exPure_sound (E := envOf Tryd.prog tt Tryd.f7.ntmps) (envOf_ok ttok mixed) Tryd.func7 (by rfl) rfl rfl (Nat.le_of_ble_eq_true rfl) ?_
      repeat' ((conv => whnf); first | (with_reducible first | refine dT ?_ | refine dU ?_ | refine dF ?_ | refine dG ?_) | refine aT ?_ | refine aF ?_ | refine dS (fun _ => ?_) fun _ => ?_ | refine aW ?_ | refine aC ?_ | refine aL ?_ | refine Prep.skip ?_ | refine Eith.l ?_ | refine aD ?_ | refine aB (fun _ => ?_) fun _ => ?_ | refine ACall.of (law42_sane) ?_ | refine APCall.of (law42_sane) ?_ | refine ACall.of (f1) ?_ | refine APCall.of (f1) ?_ | refine ACall.of (f2) ?_ | refine APCall.of (f2) ?_ | refine ACall.of (f3) ?_ | refine APCall.of (f3) ?_ | refine ACall.of (k1) ?_ | refine APCall.of (k1) ?_ | refine ACall.of (k2) ?_ | refine APCall.of (k2) ?_ | refine ACall.of (k3) ?_ | refine APCall.of (k3) ?_ | fail)
      all_goals (conv => whnf)
      all_goals first | exact DLe.refl _ | (exfalso; omega)
  · refine exPure_sound (E := envOf Tryd.prog tt Tryd.f7.ntmps) (envOf_ok ttok mixed) Tryd.func7 (by rfl) rfl rfl (Nat.le_of_ble_eq_true rfl) ?_
    repeat' ((conv => whnf); first | (with_reducible first | refine dT ?_ | refine dU ?_ | refine dF ?_ | refine dG ?_) | refine aT ?_ | refine aF ?_ | refine dS (fun _ => ?_) fun _ => ?_ | refine aW ?_ | refine aC ?_ | refine aL ?_ | refine Prep.skip ?_ | refine Eith.l ?_ | refine aD ?_ | refine aB (fun _ => ?_) fun _ => ?_ | refine ACall.of (law42_sane) ?_ | refine APCall.of (law42_sane) ?_ | refine ACall.ofB (f1) (fun _ => ?_) (fun _ => ?_) | refine APCall.ofB (f1) (fun _ => ?_) (fun _ => ?_) | refine ACall.ofB (f2) (fun _ => ?_) (fun _ => ?_) | refine APCall.ofB (f2) (fun _ => ?_) (fun _ => ?_) | refine ACall.ofB (f3) (fun _ => ?_) (fun _ => ?_) | refine APCall.ofB (f3) (fun _ => ?_) (fun _ => ?_) | exact absurd ⟨of_decide_eq_true (by assumption), of_decide_eq_true (by assumption), of_decide_eq_true (by assumption)⟩ hs | fail)
    all_goals (conv => whnf)
    all_goals first | exact DLe.refl _
end Go.PM

