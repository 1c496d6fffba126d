/- Deltas, law 42: ReportSpec. -/
import Derived.Test.YtfckliidjmeeaaaDoorL42ctoL42x
import Derived.Test.YtfckliidjmeeaaaDoorD42z
namespace Go.PM
open Go.Proofs
set_option maxRecDepth 10000
set_option maxHeartbeats 2000000
theorem law42_ReportSpec (x : Rep) (h : x.w) : CallP Tryd.prog 3 (argsR x) (retD [.b true]) := by
  have hf := law42_fewW x h
  by_cases hn : x.n ≤ 300
  · rw [decide_eq_true hn] at hf
    have ok := Rep.ok_of h hn
    have k1 := deltas_Report x ok (report_d x)
    have k2 := ref42_Report x ok (report_d x) (fun y hy => okR_ver (h.v.2 y hy) (Rep.n_v hn y hy)) (fun y hy => okR_ans (h.a.2 y hy) (Rep.n_a hn y hy))
    have k3 := same_yes rfl (ref42_SameEntries (ordE (reportM x)) (ordE (reportM x)) (by
      rw [ordE_len, report_len]
      have := hn
      unfold Rep.n Rep.n4 Rep.n3 Rep.n2 Rep.n1 at this; omega))
    refine exPure_sound (E := envOf Tryd.prog tt Tryd.f3.ntmps) (envOf_ok ttok mixed) Tryd.func3 (by rfl) rfl rfl (Nat.le_of_ble_eq_true rfl) ?_
    repeat' ((conv => whnf); first | (with_reducible first | refine dT ?_ | refine dU ?_ | refine dF ?_ | refine dG ?_) | refine aT ?_ | refine aF ?_ | refine dS (fun _ => ?_) fun _ => ?_ | refine aW ?_ | refine aC ?_ | refine aL ?_ | refine Prep.skip ?_ | refine Eith.l ?_ | refine aD ?_ | refine aB (fun _ => ?_) fun _ => ?_ | refine ACall.of (law42_sane) ?_ | refine APCall.of (law42_sane) ?_ | refine ACall.of (hf) ?_ | refine APCall.of (hf) ?_ | refine ACall.of (k1) ?_ | refine APCall.of (k1) ?_ | refine ACall.of (k2) ?_ | refine APCall.of (k2) ?_ | refine ACall.of (k3) ?_ | refine APCall.of (k3) ?_ | fail)
    all_goals (conv => whnf)
    all_goals first | exact DLe.refl _
  · rw [decide_eq_false hn] at hf
    refine exPure_sound (E := envOf Tryd.prog tt Tryd.f3.ntmps) (envOf_ok ttok mixed) Tryd.func3 (by rfl) rfl rfl (Nat.le_of_ble_eq_true rfl) ?_
    repeat' ((conv => whnf); first | (with_reducible first | refine dT ?_ | refine dU ?_ | refine dF ?_ | refine dG ?_) | refine aT ?_ | refine aF ?_ | refine dS (fun _ => ?_) fun _ => ?_ | refine aW ?_ | refine aC ?_ | refine aL ?_ | refine Prep.skip ?_ | refine Eith.l ?_ | refine aD ?_ | refine aB (fun _ => ?_) fun _ => ?_ | refine ACall.of (law42_sane) ?_ | refine APCall.of (law42_sane) ?_ | refine ACall.of (hf) ?_ | refine APCall.of (hf) ?_ | fail)
    all_goals (conv => whnf)
    all_goals first | exact DLe.refl _
end Go.PM
