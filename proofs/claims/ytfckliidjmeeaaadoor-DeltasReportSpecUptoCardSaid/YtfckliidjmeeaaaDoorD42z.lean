/- Deltas, reference: Report, variants. -/
import Derived.Test.YtfckliidjmeeaaaDoorD42v
import Derived.Test.YtfckliidjmeeaaaDoorD42w
import Derived.Test.YtfckliidjmeeaaaDoorD42y
namespace Go.PM
open Go.Proofs
set_option maxRecDepth 10000
set_option maxHeartbeats 2000000
theorem ref42_Report10 (x : Rep) (hx : x.ok) (hd : dE (reportM x)) (hV : ∀ y ∈ x.v, y.okR) (hA : ∀ y ∈ x.a, y.okR) (h0 : x.p.lines.length = 0) (h1 : x.p.needs.length = 0) (h2 : x.p.lots.length = 0) (h3 : x.p.costs.length = 0) (h4 : x.p.jobs.length = 0) (h5 : x.p.pegs.length = 0) (h6 : x.p.late.length = 0) (h7 : x.c.length = 0) (h8 : x.v.length = 0) (h9 : x.a.length = 0) : CallP Tryd.prog 13 [.d x.p.d, .d (SL 3 (x.c.map Rat.cells)), .d (SL 4 (x.v.map Ver.d)), .d (SL 4 (x.a.map Ans.d))] (retD [SL 2 ((ordE (reportM x)).map Ent.d)]) := by
  have hN := ref42_numbers [x.p.start, x.p.days] true (by simp) (by
    intro n hn
    simp only [List.mem_cons, List.not_mem_nil, or_false] at hn
    have := hx.p.head.ok
    rcases hn with rfl | rfl
    · exact this (.int x.p.start) (by simp)
    · exact this (.int x.p.days) (by simp))
  refine exPure_sound (E := envOf Tryd.prog tt Tryd.f13.ntmps) (envOf_ok ttok mixed) Tryd.func13 (by rfl) rfl rfl (Nat.le_of_ble_eq_true rfl) ?_
  repeat' ((conv => whnf); first | (with_reducible first | refine dT ?_ | refine dU ?_ | refine dF ?_ | refine dG ?_) | refine aT ?_ | refine aF ?_ | refine dS (fun _ => ?_) fun _ => ?_ | refine aW ?_ | refine aC ?_ | refine aL ?_ | refine Prep.skip ?_ | refine Eith.l ?_ | refine aD ?_ | refine aB (fun _ => ?_) fun _ => ?_ | refine ACall.of hN ?_ | refine APCall.of hN ?_ | refine Nam.mk (List.length_map _) ?_ | fail)
  all_goals (conv => whnf)
  refine ALoop.only [(10, .d (I 0)), (9, .d (.sl 2 true [(headM x.p).d])), (0, .d x.p.d), (1, .d (SL 3 (x.c.map Rat.cells))), (2, .d (SL 4 (x.v.map Ver.d))), (3, .d (SL 4 (x.a.map Ans.d))), (4, .ptr 0 0 0 0)] (by repeat (first | exact trivial | refine And.intro rfl ?_)) ?_
  refine ALoop.rounds 1 ?_
  refine ALoopN.step (E := (envOf Tryd.prog tt Tryd.f13.ntmps)) (envOf_ok ttok mixed) ?_
  repeat' ((conv => whnf); first | (with_reducible first | refine dT ?_ | refine dU ?_ | refine dF ?_ | refine dG ?_) | refine aT ?_ | refine aF ?_ | refine dS (fun _ => ?_) fun _ => ?_ | refine aW ?_ | refine aC ?_ | refine aL ?_ | refine Prep.skip ?_ | refine Eith.l ?_ | refine aD ?_ | refine aB (fun _ => ?_) fun _ => ?_ | refine Nam.mk (List.length_map _) ?_ | fail)
  all_goals (conv => whnf)
  refine ALoop.only [(11, .d (I 0)), (9, .d (.sl 2 true [(headM x.p).d])), (0, .d x.p.d), (1, .d (SL 3 (x.c.map Rat.cells))), (2, .d (SL 4 (x.v.map Ver.d))), (3, .d (SL 4 (x.a.map Ans.d))), (4, .ptr 0 0 0 0)] (by repeat (first | exact trivial | refine And.intro rfl ?_)) ?_
  refine ALoop.rounds 1 ?_
  refine ALoopN.step (E := (envOf Tryd.prog tt Tryd.f13.ntmps)) (envOf_ok ttok mixed) ?_
  repeat' ((conv => whnf); first | (with_reducible first | refine dT ?_ | refine dU ?_ | refine dF ?_ | refine dG ?_) | refine aT ?_ | refine aF ?_ | refine dS (fun _ => ?_) fun _ => ?_ | refine aW ?_ | refine aC ?_ | refine aL ?_ | refine Prep.skip ?_ | refine Eith.l ?_ | refine aD ?_ | refine aB (fun _ => ?_) fun _ => ?_ | refine Nam.mk (List.length_map _) ?_ | fail)
  all_goals (conv => whnf)
  refine ALoop.only [(13, .d (I 0)), (9, .d (.sl 2 true [(headM x.p).d])), (0, .d x.p.d), (1, .d (SL 3 (x.c.map Rat.cells))), (2, .d (SL 4 (x.v.map Ver.d))), (3, .d (SL 4 (x.a.map Ans.d))), (4, .ptr 0 0 0 0)] (by repeat (first | exact trivial | refine And.intro rfl ?_)) ?_
  refine ALoop.rounds 1 ?_
  refine ALoopN.step (E := (envOf Tryd.prog tt Tryd.f13.ntmps)) (envOf_ok ttok mixed) ?_
  repeat' ((conv => whnf); first | (with_reducible first | refine dT ?_ | refine dU ?_ | refine dF ?_ | refine dG ?_) | refine aT ?_ | refine aF ?_ | refine dS (fun _ => ?_) fun _ => ?_ | refine aW ?_ | refine aC ?_ | refine aL ?_ | refine Prep.skip ?_ | refine Eith.l ?_ | refine aD ?_ | refine aB (fun _ => ?_) fun _ => ?_ | refine Nam.mk (List.length_map _) ?_ | fail)
  all_goals (conv => whnf)
  refine ALoop.only [(15, .d (I 0)), (9, .d (.sl 2 true [(headM x.p).d])), (0, .d x.p.d), (1, .d (SL 3 (x.c.map Rat.cells))), (2, .d (SL 4 (x.v.map Ver.d))), (3, .d (SL 4 (x.a.map Ans.d))), (4, .ptr 0 0 0 0)] (by repeat (first | exact trivial | refine And.intro rfl ?_)) ?_
  refine ALoop.rounds 1 ?_
  refine ALoopN.step (E := (envOf Tryd.prog tt Tryd.f13.ntmps)) (envOf_ok ttok mixed) ?_
  repeat' ((conv => whnf); first | (with_reducible first | refine dT ?_ | refine dU ?_ | refine dF ?_ | refine dG ?_) | refine aT ?_ | refine aF ?_ | refine dS (fun _ => ?_) fun _ => ?_ | refine aW ?_ | refine aC ?_ | refine aL ?_ | refine Prep.skip ?_ | refine Eith.l ?_ | refine aD ?_ | refine aB (fun _ => ?_) fun _ => ?_ | refine Nam.mk (List.length_map _) ?_ | fail)
  all_goals (conv => whnf)
  refine ALoop.only [(16, .d (I 0)), (9, .d (.sl 2 true [(headM x.p).d])), (0, .d x.p.d), (1, .d (SL 3 (x.c.map Rat.cells))), (2, .d (SL 4 (x.v.map Ver.d))), (3, .d (SL 4 (x.a.map Ans.d))), (4, .ptr 0 0 0 0)] (by repeat (first | exact trivial | refine And.intro rfl ?_)) ?_
  refine ALoop.rounds 1 ?_
  refine ALoopN.step (E := (envOf Tryd.prog tt Tryd.f13.ntmps)) (envOf_ok ttok mixed) ?_
  repeat' ((conv => whnf); first | (with_reducible first | refine dT ?_ | refine dU ?_ | refine dF ?_ | refine dG ?_) | refine aT ?_ | refine aF ?_ | refine dS (fun _ => ?_) fun _ => ?_ | refine aW ?_ | refine aC ?_ | refine aL ?_ | refine Prep.skip ?_ | refine Eith.l ?_ | refine aD ?_ | refine aB (fun _ => ?_) fun _ => ?_ | refine Nam.mk (List.length_map _) ?_ | fail)
  all_goals (conv => whnf)
  refine ALoop.only [(18, .d (I 0)), (9, .d (.sl 2 true [(headM x.p).d])), (0, .d x.p.d), (1, .d (SL 3 (x.c.map Rat.cells))), (2, .d (SL 4 (x.v.map Ver.d))), (3, .d (SL 4 (x.a.map Ans.d))), (4, .ptr 0 0 0 0)] (by repeat (first | exact trivial | refine And.intro rfl ?_)) ?_
  refine ALoop.rounds 1 ?_
  refine ALoopN.step (E := (envOf Tryd.prog tt Tryd.f13.ntmps)) (envOf_ok ttok mixed) ?_
  repeat' ((conv => whnf); first | (with_reducible first | refine dT ?_ | refine dU ?_ | refine dF ?_ | refine dG ?_) | refine aT ?_ | refine aF ?_ | refine dS (fun _ => ?_) fun _ => ?_ | refine aW ?_ | refine aC ?_ | refine aL ?_ | refine Prep.skip ?_ | refine Eith.l ?_ | refine aD ?_ | refine aB (fun _ => ?_) fun _ => ?_ | refine Nam.mk (List.length_map _) ?_ | fail)
  all_goals (conv => whnf)
  refine ALoop.only [(20, .d (I 0)), (9, .d (.sl 2 true [(headM x.p).d])), (0, .d x.p.d), (1, .d (SL 3 (x.c.map Rat.cells))), (2, .d (SL 4 (x.v.map Ver.d))), (3, .d (SL 4 (x.a.map Ans.d))), (4, .ptr 0 0 0 0)] (by repeat (first | exact trivial | refine And.intro rfl ?_)) ?_
  refine ALoop.rounds 1 ?_
  refine ALoopN.step (E := (envOf Tryd.prog tt Tryd.f13.ntmps)) (envOf_ok ttok mixed) ?_
  repeat' ((conv => whnf); first | (with_reducible first | refine dT ?_ | refine dU ?_ | refine dF ?_ | refine dG ?_) | refine aT ?_ | refine aF ?_ | refine dS (fun _ => ?_) fun _ => ?_ | refine aW ?_ | refine aC ?_ | refine aL ?_ | refine Prep.skip ?_ | refine Eith.l ?_ | refine aD ?_ | refine aB (fun _ => ?_) fun _ => ?_ | refine Nam.mk (List.length_map _) ?_ | fail)
  all_goals (conv => whnf)
  refine ALoop.only [(21, .d (I 0)), (9, .d (.sl 2 true [(headM x.p).d])), (0, .d x.p.d), (1, .d (SL 3 (x.c.map Rat.cells))), (2, .d (SL 4 (x.v.map Ver.d))), (3, .d (SL 4 (x.a.map Ans.d))), (4, .ptr 0 0 0 0)] (by repeat (first | exact trivial | refine And.intro rfl ?_)) ?_
  refine ALoop.rounds 1 ?_
  refine ALoopN.step (E := (envOf Tryd.prog tt Tryd.f13.ntmps)) (envOf_ok ttok mixed) ?_
  repeat' ((conv => whnf); first | (with_reducible first | refine dT ?_ | refine dU ?_ | refine dF ?_ | refine dG ?_) | refine aT ?_ | refine aF ?_ | refine dS (fun _ => ?_) fun _ => ?_ | refine aW ?_ | refine aC ?_ | refine aL ?_ | refine Prep.skip ?_ | refine Eith.l ?_ | refine aD ?_ | refine aB (fun _ => ?_) fun _ => ?_ | refine Nam.mk (List.length_map _) ?_ | fail)
  all_goals (conv => whnf)
  refine ALoop.only [(22, .d (I 0)), (9, .d (.sl 2 true [(headM x.p).d])), (0, .d x.p.d), (1, .d (SL 3 (x.c.map Rat.cells))), (2, .d (SL 4 (x.v.map Ver.d))), (3, .d (SL 4 (x.a.map Ans.d))), (4, .ptr 0 0 0 0)] (by repeat (first | exact trivial | refine And.intro rfl ?_)) ?_
  refine ALoop.rounds 1 ?_
  refine ALoopN.step (E := (envOf Tryd.prog tt Tryd.f13.ntmps)) (envOf_ok ttok mixed) ?_
  repeat' ((conv => whnf); first | (with_reducible first | refine dT ?_ | refine dU ?_ | refine dF ?_ | refine dG ?_) | refine aT ?_ | refine aF ?_ | refine dS (fun _ => ?_) fun _ => ?_ | refine aW ?_ | refine aC ?_ | refine aL ?_ | refine Prep.skip ?_ | refine Eith.l ?_ | refine aD ?_ | refine aB (fun _ => ?_) fun _ => ?_ | refine Nam.mk (List.length_map _) ?_ | fail)
  all_goals (conv => whnf)
  refine ALoop.only [(23, .d (I 0)), (9, .d (.sl 2 true [(headM x.p).d])), (0, .d x.p.d), (1, .d (SL 3 (x.c.map Rat.cells))), (2, .d (SL 4 (x.v.map Ver.d))), (3, .d (SL 4 (x.a.map Ans.d))), (4, .ptr 0 0 0 0)] (by repeat (first | exact trivial | refine And.intro rfl ?_)) ?_
  refine ALoop.rounds 1 ?_
  refine ALoopN.step (E := (envOf Tryd.prog tt Tryd.f13.ntmps)) (envOf_ok ttok mixed) ?_
  repeat' ((conv => whnf); first | (with_reducible first | refine dT ?_ | refine dU ?_ | refine dF ?_ | refine dG ?_) | refine aT ?_ | refine aF ?_ | refine dS (fun _ => ?_) fun _ => ?_ | refine aW ?_ | refine aC ?_ | refine aL ?_ | refine Prep.skip ?_ | refine Eith.l ?_ | refine aD ?_ | refine aB (fun _ => ?_) fun _ => ?_ | refine Nam.mk (List.length_map _) ?_ | fail)
  all_goals (conv => whnf)
  have z0 : entsM wLine (oneP Lin.part) x.p.lines = [] := by rw [List.eq_nil_of_length_eq_zero h0]; rfl
  have z1 : entsM wNeed Nee.parts x.p.needs = [] := by rw [List.eq_nil_of_length_eq_zero h1]; rfl
  have z2 : entsM wLot Lo.parts x.p.lots = [] := by rw [List.eq_nil_of_length_eq_zero h2]; rfl
  have z3 : entsM wCost (oneP .int) x.p.costs = [] := by rw [List.eq_nil_of_length_eq_zero h3]; rfl
  have z4 : entsM wJob Jo.parts x.p.jobs = [] := by rw [List.eq_nil_of_length_eq_zero h4]; rfl
  have z5 : entsM wPeg Pe.parts x.p.pegs = [] := by rw [List.eq_nil_of_length_eq_zero h5]; rfl
  have z6 : entsM wLate (oneP .int) x.p.late = [] := by rw [List.eq_nil_of_length_eq_zero h6]; rfl
  have z7 : entsM wPrice (oneP .ratio) x.c = [] := by rw [List.eq_nil_of_length_eq_zero h7]; rfl
  have z8 : entsM wVerdict Ver.parts x.v = [] := by rw [List.eq_nil_of_length_eq_zero h8]; rfl
  have z9 : entsM wAnswer Ans.parts x.a = [] := by rw [List.eq_nil_of_length_eq_zero h9]; rfl
  have he : [headM x.p] = reportM x := by unfold reportM planM; simp only [List.append_assoc, List.nil_append, List.append_nil, z0, z1, z2, z3, z4, z5, z6, z7, z8, z9]
  have hO := ref42_ordered [headM x.p] (by simp)
  have hO' := CallP.le (args := [.d (.sl 2 true [(headM x.p).d])]) (args' := [.d (SL 2 ([headM x.p].map Ent.d))]) ⟨DLe.full _ _ _, rfl⟩ hO
  rw [he] at hO'
  repeat' ((conv => whnf); first | (with_reducible first | refine dT ?_ | refine dU ?_ | refine dF ?_ | refine dG ?_) | refine aT ?_ | refine aF ?_ | refine dS (fun _ => ?_) fun _ => ?_ | refine aW ?_ | refine aC ?_ | refine aL ?_ | refine Prep.skip ?_ | refine Eith.l ?_ | refine aD ?_ | refine aB (fun _ => ?_) fun _ => ?_ | refine ACall.of hO' ?_ | fail)
  all_goals (conv => whnf)
  exact DLe.refl _
theorem ref42_Report (x : Rep) (hx : x.ok) (hd : dE (reportM x)) (hV : ∀ y ∈ x.v, y.okR) (hA : ∀ y ∈ x.a, y.okR) : CallP Tryd.prog 13 [.d x.p.d, .d (SL 3 (x.c.map Rat.cells)), .d (SL 4 (x.v.map Ver.d)), .d (SL 4 (x.a.map Ans.d))] (retD [SL 2 ((ordE (reportM x)).map Ent.d)]) := by
  by_cases h0 : 0 < x.p.lines.length
  · exact ref42_Report0 x hx hd hV hA h0
  by_cases h1 : 0 < x.p.needs.length
  · exact ref42_Report1 x hx hd hV hA (by omega) h1
  by_cases h2 : 0 < x.p.lots.length
  · exact ref42_Report2 x hx hd hV hA (by omega) (by omega) h2
  by_cases h3 : 0 < x.p.costs.length
  · exact ref42_Report3 x hx hd hV hA (by omega) (by omega) (by omega) h3
  by_cases h4 : 0 < x.p.jobs.length
  · exact ref42_Report4 x hx hd hV hA (by omega) (by omega) (by omega) (by omega) h4
  by_cases h5 : 0 < x.p.pegs.length
  · exact ref42_Report5 x hx hd hV hA (by omega) (by omega) (by omega) (by omega) (by omega) h5
  by_cases h6 : 0 < x.p.late.length
  · exact ref42_Report6 x hx hd hV hA (by omega) (by omega) (by omega) (by omega) (by omega) (by omega) h6
  by_cases h7 : 0 < x.c.length
  · exact ref42_Report7 x hx hd hV hA (by omega) (by omega) (by omega) (by omega) (by omega) (by omega) (by omega) h7
  by_cases h8 : 0 < x.v.length
  · exact ref42_Report8 x hx hd hV hA (by omega) (by omega) (by omega) (by omega) (by omega) (by omega) (by omega) (by omega) h8
  by_cases h9 : 0 < x.a.length
  · exact ref42_Report9 x hx hd hV hA (by omega) (by omega) (by omega) (by omega) (by omega) (by omega) (by omega) (by omega) (by omega) h9
  exact ref42_Report10 x hx hd hV hA (by omega) (by omega) (by omega) (by omega) (by omega) (by omega) (by omega) (by omega) (by omega) (by omega)
end Go.PM
