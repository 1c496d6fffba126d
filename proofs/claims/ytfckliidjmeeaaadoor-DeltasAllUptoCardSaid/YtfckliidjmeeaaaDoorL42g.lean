/- Deltas, law 42: All. -/
import Derived.Test.YtfckliidjmeeaaaDoorL42f
import Derived.Test.YtfckliidjmeeaaaDoorL42d
namespace Go.PM
open Go.Proofs
set_option maxRecDepth 10000
set_option maxHeartbeats 2000000

theorem law42_All (x y : Rep) (hx : x.w) (hy : y.w) : CallP Tryd.prog 8 [.d x.p.d, .d y.p.d, .d (SL 3 (x.c.map Rat.cells)), .d (SL 3 (y.c.map Rat.cells)), .d (SL 4 (x.v.map Ver.d)), .d (SL 4 (y.v.map Ver.d)), .d (SL 4 (x.a.map Ans.d)), .d (SL 4 (y.a.map Ans.d))] (retD [.b true]) := by
  have f1 := law42_fewW x hx
  have f2 := law42_fewW y hy
  by_cases hs : x.n ≤ 300 ∧ y.n ≤ 300
  · obtain ⟨s1, s2⟩ := hs
    rw [decide_eq_true s1] at f1
    rw [decide_eq_true s2] at f2
    have okx := Rep.ok_of hx s1
    have oky := Rep.ok_of hy s2
    have k1 := deltas_Report x okx (report_d x)
    have k2 := deltas_Report y oky (report_d y)
    have rl : ∀ z : Rep, z.n ≤ 300 → (ordE (reportM z)).length ≤ 301 := fun z hz => by
      rw [ordE_len, report_len]
      unfold Rep.n Rep.n4 Rep.n3 Rep.n2 Rep.n1 at hz; omega
    have l1 := rl x s1
    have l2 := rl y s2
    have v1 := ordE_v (report_d x)
    have v2 := ordE_v (report_d y)
    have k3 : CallP Tryd.prog 15 [enD (ordE (reportM x)), enD (ordE (reportM y)), .d nD] _ :=
      callAs (deltas_Diff (ordE (reportM x)) (ordE (reportM y)) [] (by unfold SmE; omega) (by unfold SmE; omega) (by simp)) ⟨VLe.refl _, VLe.refl _, VLe.d (vN _), rfl⟩
    rw [diff_yes _ ⟨v1, v2⟩] at k3
    dsimp only at k3
    have k4 := ref42_SameEntries (ordE (reportM x)) (ordE (reportM y)) (by omega)
    have ll : ∀ {α : Type} {p : α → Prop} {l : List α}, LW p l → l.length < 2 ^ 40 := fun h => by have := h.1; omega
    have e1 := law42_samePlan x.p y.p (ll hx.p.lines) (ll hx.p.needs) (ll hx.p.lots) (ll hx.p.costs) (ll hx.p.jobs) (ll hx.p.pegs) (ll hx.p.late)
    have e2 := equal_Rat x.c y.c (ll hx.c)
    have e3 := law42_verdicts x.v y.v (ll hx.v) fun z hz => ⟨ll (hx.v.2 z hz).wth, ll (hx.v.2 z hz).wo, ll (hx.v.2 z hz).leaves, fun l hl => ll ((hx.v.2 z hz).leaves.2 l hl).1⟩
    have e4 := law42_answers x.a y.a (ll hx.a) fun z hz => ⟨ll (hx.a.2 z hz).conf, ll (hx.a.2 z hz).reads, ll (hx.a.2 z hz).amts, fun l hl => ll ((hx.a.2 z hz).amts.2 l hl)⟩
    by_cases he : x = y
    · subst he
      rw [decide_eq_true rfl] at k4 e1 e2 e3 e4
      refine exPure_sound (E := envOf Tryd.prog tt Tryd.f8.ntmps) (envOf_ok ttok mixed) Tryd.func8 (by rfl) rfl rfl (Nat.le_of_ble_eq_true rfl) ?_
      repeat' ((conv => whnf); first | (with_reducible first | refine dT ?_ | refine dU ?_ | refine dF ?_ | refine dG ?_) | refine aT ?_ | refine aF ?_ | refine dS (fun _ => ?_) fun _ => ?_ | refine aW ?_ | refine aC ?_ | refine aL ?_ | refine Prep.skip ?_ | refine Eith.l ?_ | refine aD ?_ | refine aB (fun _ => ?_) fun _ => ?_ | refine ACall.of (law42_sane) ?_ | refine APCall.of (law42_sane) ?_ | refine ACall.of (f1) ?_ | refine APCall.of (f1) ?_ | refine ACall.of (f2) ?_ | refine APCall.of (f2) ?_ | refine ACall.of (k1) ?_ | refine APCall.of (k1) ?_ | refine ACall.of (k2) ?_ | refine APCall.of (k2) ?_ | refine ACall.of (k3) ?_ | refine APCall.of (k3) ?_ | refine ACall.of (k4) ?_ | refine APCall.of (k4) ?_ | refine ACall.of (e1) ?_ | refine APCall.of (e1) ?_ | refine ACall.of (e2) ?_ | refine APCall.of (e2) ?_ | refine ACall.of (e3) ?_ | refine APCall.of (e3) ?_ | refine ACall.of (e4) ?_ | refine APCall.of (e4) ?_ | fail)
      all_goals (conv => whnf)
      all_goals first | exact DLe.refl _ | (exfalso; omega)
    · rw [decide_eq_false (fun h => he (report_inj h))] at k4
      have hne : ¬ (x.p = y.p ∧ x.c = y.c ∧ x.v = y.v ∧ x.a = y.a) := fun h => he (by cases x; cases y; simp_all)
      refine exPure_sound (E := envOf Tryd.prog tt Tryd.f8.ntmps) (envOf_ok ttok mixed) Tryd.func8 (by rfl) rfl rfl (Nat.le_of_ble_eq_true rfl) ?_
      repeat' ((conv => whnf); first | (with_reducible first | refine dT ?_ | refine dU ?_ | refine dF ?_ | refine dG ?_) | refine aT ?_ | refine aF ?_ | refine dS (fun _ => ?_) fun _ => ?_ | refine aW ?_ | refine aC ?_ | refine aL ?_ | refine Prep.skip ?_ | refine Eith.l ?_ | refine aD ?_ | refine aB (fun _ => ?_) fun _ => ?_ | refine ACall.of (law42_sane) ?_ | refine APCall.of (law42_sane) ?_ | refine ACall.of (f1) ?_ | refine APCall.of (f1) ?_ | refine ACall.of (f2) ?_ | refine APCall.of (f2) ?_ | refine ACall.of (k1) ?_ | refine APCall.of (k1) ?_ | refine ACall.of (k2) ?_ | refine APCall.of (k2) ?_ | refine ACall.of (k3) ?_ | refine APCall.of (k3) ?_ | refine ACall.of (k4) ?_ | refine APCall.of (k4) ?_ | refine ACall.ofB (e1) (fun _ => ?_) (fun _ => ?_) | refine APCall.ofB (e1) (fun _ => ?_) (fun _ => ?_) | refine ACall.ofB (e2) (fun _ => ?_) (fun _ => ?_) | refine APCall.ofB (e2) (fun _ => ?_) (fun _ => ?_) | refine ACall.ofB (e3) (fun _ => ?_) (fun _ => ?_) | refine APCall.ofB (e3) (fun _ => ?_) (fun _ => ?_) | refine ACall.ofB (e4) (fun _ => ?_) (fun _ => ?_) | refine APCall.ofB (e4) (fun _ => ?_) (fun _ => ?_) | exact absurd ⟨of_decide_eq_true (by assumption), of_decide_eq_true (by assumption), of_decide_eq_true (by assumption), of_decide_eq_true (by assumption)⟩ hne | fail)
      all_goals (conv => whnf)
      all_goals first | exact DLe.refl _ | (exfalso; omega)
  · refine exPure_sound (E := envOf Tryd.prog tt Tryd.f8.ntmps) (envOf_ok ttok mixed) Tryd.func8 (by rfl) rfl rfl (Nat.le_of_ble_eq_true rfl) ?_
    repeat' ((conv => whnf); first | (with_reducible first | refine dT ?_ | refine dU ?_ | refine dF ?_ | refine dG ?_) | refine aT ?_ | refine aF ?_ | refine dS (fun _ => ?_) fun _ => ?_ | refine aW ?_ | refine aC ?_ | refine aL ?_ | refine Prep.skip ?_ | refine Eith.l ?_ | refine aD ?_ | refine aB (fun _ => ?_) fun _ => ?_ | refine ACall.of (law42_sane) ?_ | refine APCall.of (law42_sane) ?_ | refine ACall.ofB (f1) (fun _ => ?_) (fun _ => ?_) | refine APCall.ofB (f1) (fun _ => ?_) (fun _ => ?_) | refine ACall.ofB (f2) (fun _ => ?_) (fun _ => ?_) | refine APCall.ofB (f2) (fun _ => ?_) (fun _ => ?_) | exact absurd ⟨of_decide_eq_true (by assumption), of_decide_eq_true (by assumption)⟩ hs | fail)
    all_goals (conv => whnf)
    all_goals first | exact DLe.refl _
end Go.PM

