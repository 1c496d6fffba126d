/- Deltas, reference: Report, variants. -/
import Derived.Test.YtfckliidjmeeaaaDoorD42ptoD42u
namespace Go.PM
open Go.Proofs
set_option maxRecDepth 10000
set_option maxHeartbeats 2000000
theorem ref42_Report2 (x : Rep) (hx : x.ok) (hd : dE (reportM x)) (hV : ∀ y ∈ x.v, y.okR) (hA : ∀ y ∈ x.a, y.okR) (h0 : x.p.lines.length = 0) (h1 : x.p.needs.length = 0) (hlt : 0 < x.p.lots.length) : CallP Tryd.prog 13 [.d x.p.d, .d (SL 3 (x.c.map Rat.cells)), .d (SL 4 (x.v.map Ver.d)), .d (SL 4 (x.a.map Ans.d))] (retD [SL 2 ((ordE (reportM x)).map Ent.d)]) := by
  have hN := ref42_numbers [x.p.start, x.p.days] true (by simp) (by
    intro n hn
    simp only [List.mem_cons, List.not_mem_nil, or_false] at hn
    have := hx.p.head.ok
    rcases hn with rfl | rfl
    · exact this (.int x.p.start) (by simp)
    · exact this (.int x.p.days) (by simp))
  refine exPure_sound (E := envOf Tryd.prog tt Tryd.f13.ntmps) (envOf_ok ttok mixed) Tryd.func13 (by rfl) rfl rfl (Nat.le_of_ble_eq_true rfl) ?_
  repeat' ((conv => whnf); first | (with_reducible first | refine dT ?_ | refine dU ?_ | refine dF ?_ | refine dG ?_) | refine aT ?_ | refine aF ?_ | refine dS (fun _ => ?_) fun _ => ?_ | refine aW ?_ | refine aC ?_ | refine aL ?_ | refine Prep.skip ?_ | refine Eith.l ?_ | refine aD ?_ | refine aB (fun _ => ?_) fun _ => ?_ | refine ACall.of hN ?_ | refine APCall.of hN ?_ | refine Nam.mk (List.length_map _) ?_ | fail)
  all_goals (conv => whnf)
  refine ALoop.only [(10, .d (I 0)), (9, .d (.sl 2 true [(headM x.p).d])), (0, .d x.p.d), (1, .d (SL 3 (x.c.map Rat.cells))), (2, .d (SL 4 (x.v.map Ver.d))), (3, .d (SL 4 (x.a.map Ans.d))), (4, .ptr 0 0 0 0)] (by repeat (first | exact trivial | refine And.intro rfl ?_)) ?_
  refine ALoop.rounds 1 ?_
  refine ALoopN.step (E := (envOf Tryd.prog tt Tryd.f13.ntmps)) (envOf_ok ttok mixed) ?_
  repeat' ((conv => whnf); first | (with_reducible first | refine dT ?_ | refine dU ?_ | refine dF ?_ | refine dG ?_) | refine aT ?_ | refine aF ?_ | refine dS (fun _ => ?_) fun _ => ?_ | refine aW ?_ | refine aC ?_ | refine aL ?_ | refine Prep.skip ?_ | refine Eith.l ?_ | refine aD ?_ | refine aB (fun _ => ?_) fun _ => ?_ | refine Nam.mk (List.length_map _) ?_ | fail)
  all_goals (conv => whnf)
  refine ALoop.only [(11, .d (I 0)), (9, .d (.sl 2 true [(headM x.p).d])), (0, .d x.p.d), (1, .d (SL 3 (x.c.map Rat.cells))), (2, .d (SL 4 (x.v.map Ver.d))), (3, .d (SL 4 (x.a.map Ans.d))), (4, .ptr 0 0 0 0)] (by repeat (first | exact trivial | refine And.intro rfl ?_)) ?_
  refine ALoop.rounds 1 ?_
  refine ALoopN.step (E := (envOf Tryd.prog tt Tryd.f13.ntmps)) (envOf_ok ttok mixed) ?_
  repeat' ((conv => whnf); first | (with_reducible first | refine dT ?_ | refine dU ?_ | refine dF ?_ | refine dG ?_) | refine aT ?_ | refine aF ?_ | refine dS (fun _ => ?_) fun _ => ?_ | refine aW ?_ | refine aC ?_ | refine aL ?_ | refine Prep.skip ?_ | refine Eith.l ?_ | refine aD ?_ | refine aB (fun _ => ?_) fun _ => ?_ | refine Nam.mk (List.length_map _) ?_ | fail)
  all_goals (conv => whnf)
  refine ALoop.only [(13, .d (I 0)), (9, .d (.sl 2 true [(headM x.p).d])), (0, .d x.p.d), (1, .d (SL 3 (x.c.map Rat.cells))), (2, .d (SL 4 (x.v.map Ver.d))), (3, .d (SL 4 (x.a.map Ans.d))), (4, .ptr 0 0 0 0)] (by repeat (first | exact trivial | refine And.intro rfl ?_)) ?_
  refine ALoop.peel (E := (envOf Tryd.prog tt Tryd.f13.ntmps)) (envOf_ok ttok mixed) ?_
  obtain ⟨z, hz, _⟩ := drop_get hlt
  have hzm : z ∈ x.p.lots := List.mem_of_getElem? hz
  have hzp : okP (Lo.parts z) := hx.p.lots.2 z hzm
  have hm := hx.p.lots.1
  obtain ⟨hz1, hz2, hz3⟩ := (show (Part.line z.l.a z.l.b z.l.c).ok from hzp.ok _ (by simp [Lo.parts, Lin.part]))
  have hz4 : okI z.day := hzp.ok (.int z.day) (by simp [Lo.parts])
  have hz5 : okI z.amt := hzp.ok (.int z.amt) (by simp [Lo.parts])
  have hN1 := ref42_numbers [z.l.a, z.l.b, z.l.c, z.day, z.amt] true (by simp) (by intro n hn; simp only [List.mem_cons, List.not_mem_nil, or_false] at hn; rcases hn with rfl | rfl | rfl | rfl | rfl <;> assumption)
  have hE := ref42_entry wLot (by decide) ((0 : Nat) : Int) ⟨by omega, by omega⟩ (txt (Lo.parts z)) (outT [] (wordsI [z.l.a, z.l.b, z.l.c, z.day, z.amt])) rfl
  repeat' ((conv => whnf); first | refine cA ?_ | refine nA ?_ | refine cB ?_ | refine nB ?_ | refine aL ?_ | (with_reducible first | refine dT ?_ | refine dU ?_ | refine dF ?_ | refine dG ?_) | refine aT ?_ | refine aF ?_ | refine dS (fun _ => ?_) fun _ => ?_ | refine aW ?_ | refine aC ?_ | refine aL ?_ | refine Prep.skip ?_ | refine Eith.l ?_ | refine aD ?_ | refine aB (fun _ => ?_) fun _ => ?_ | refine nthK_mk (map_get (f := Lo.d) hz) ?_ | refine ACall.of hN1 ?_ | refine APCall.of hN1 ?_ | refine ACall.of hE ?_ | refine APCall.of hE ?_ | fail)
  all_goals (conv => whnf)
  refine ALoop.only [(13, .d (I 1)), (9, .sref 2 0 0 2 false), (0, .d x.p.d), (1, .d (SL 3 (x.c.map Rat.cells))), (2, .d (SL 4 (x.v.map Ver.d))), (3, .d (SL 4 (x.a.map Ans.d))), (4, .ptr 0 0 0 0)] (by repeat (first | exact trivial | refine And.intro rfl ?_)) ?_
  obtain ⟨e2, he2⟩ : ∃ e2, e2 = [headM x.p] := ⟨_, rfl⟩
  have hl2 : e2.length < 2 + 2 * 2 ^ 24 := by rw [he2]; simp
  refine ALoop.at (E := envOf Tryd.prog tt Tryd.f13.ntmps) (envOf_ok ttok mixed) (X := XR) (fun q => [(13, .d (I q.i)), (9, .sref 2 q.v 0 q.n false)]) (fun q => [(2, .row q.v 2 false q.rs)])
    (fun q => q.i ≤ x.p.lots.length ∧ q.n = (e2 ++ entsM wLot Lo.parts (x.p.lots.take q.i)).length ∧ q.rs = (e2 ++ entsM wLot Lo.parts (x.p.lots.take q.i)).map Ent.d) (fun q => x.p.lots.length - q.i) ⟨1, 0, 2, [(headM x.p).d, (entM wLot (0 : Nat) (Lo.parts z)).d]⟩ sam rfl ⟨hlt, by rw [List.length_append, entsM_len, List.length_take, he2]; simp; omega, by rw [entsM_next wLot Lo.parts hz, he2]; rfl⟩ ?_
  clear hE
  clear hz hzp hzm
  rintro ⟨i2, v2, n2, r2⟩ ⟨hi2, hn2', hr2'⟩
  dsimp only at hi2 hn2' hr2'
  dsimp only
  have hrl2 : r2.length = n2 := by rw [hr2', hn2', List.length_map]
  by_cases hlt : i2 < x.p.lots.length
  · obtain ⟨z, hz, _⟩ := drop_get hlt
    have hzm : z ∈ x.p.lots := List.mem_of_getElem? hz
    have hzp : okP (Lo.parts z) := hx.p.lots.2 z hzm
    have hm := hx.p.lots.1
    obtain ⟨hz1, hz2, hz3⟩ := (show (Part.line z.l.a z.l.b z.l.c).ok from hzp.ok _ (by simp [Lo.parts, Lin.part]))
    have hz4 : okI z.day := hzp.ok (.int z.day) (by simp [Lo.parts])
    have hz5 : okI z.amt := hzp.ok (.int z.amt) (by simp [Lo.parts])
    have hN1 := ref42_numbers [z.l.a, z.l.b, z.l.c, z.day, z.amt] true (by simp) (by intro n hn; simp only [List.mem_cons, List.not_mem_nil, or_false] at hn; rcases hn with rfl | rfl | rfl | rfl | rfl <;> assumption)
    have hE := ref42_entry wLot (by decide) ((i2 : Nat) : Int) ⟨by omega, by omega⟩ (txt (Lo.parts z)) (outT [] (wordsI [z.l.a, z.l.b, z.l.c, z.day, z.amt])) rfl
    have hnb : n2 < 2 ^ 28 := by rw [hn2', List.length_append, entsM_len, List.length_take]; omega
    repeat' ((conv => whnf); first | refine cA ?_ | refine nA ?_ | refine cB ?_ | refine nB ?_ | refine aL ?_ | (with_reducible first | refine dT ?_ | refine dU ?_ | refine dF ?_ | refine dG ?_) | refine aT ?_ | refine aF ?_ | refine dS (fun _ => ?_) fun _ => ?_ | refine aW ?_ | refine aC ?_ | refine aL ?_ | refine Prep.skip ?_ | refine Eith.l ?_ | refine aD ?_ | refine aB (fun _ => ?_) fun _ => ?_ | refine nthK_mk (map_get (f := Lo.d) hz) ?_ | refine ACall.of hN1 ?_ | refine APCall.of hN1 ?_ | refine ACall.of hE ?_ | refine APCall.of hE ?_ | refine Chk.mk ⟨rfl, by omega, by simp [room]; omega⟩ ?_ | fail)
    all_goals (conv => whnf)
    all_goals first | (exfalso; omega) | skip
    refine ⟨⟨i2 + 1, v2 + 1, n2 + 1, r2 ++ [(entM wLot (i2 : Nat) (Lo.parts z)).d]⟩, Wm.end sam rfl rfl rfl, ⟨hlt, ?_, ?_⟩, by show x.p.lots.length - (i2 + 1) < x.p.lots.length - i2; omega⟩
    · show n2 + 1 = (e2 ++ entsM wLot Lo.parts (x.p.lots.take (i2 + 1))).length
      rw [entsM_next wLot Lo.parts hz, ← List.append_assoc, hn2']; simp only [List.length_append, List.length_cons, List.length_nil] <;> omega
    · show r2 ++ _ = (e2 ++ entsM wLot Lo.parts (x.p.lots.take (i2 + 1))).map Ent.d
      rw [entsM_next wLot Lo.parts hz, ← List.append_assoc, hr2']; simp
  have hie : i2 = x.p.lots.length := by omega
  subst hie
  rw [List.take_length] at hn2' hr2'
  clear hlt
  obtain ⟨e3, he3⟩ : ∃ e3, e3 = e2 ++ entsM wLot Lo.parts x.p.lots := ⟨_, rfl⟩
  rw [← he3] at hn2' hr2'
  have hl3 : e3.length < 2 + 3 * 2 ^ 24 := by
    have := hx.p.lots.1
    rw [he3, List.length_append, entsM_len]; omega
  repeat' ((conv => whnf); first | (with_reducible first | refine dT ?_ | refine dU ?_ | refine dF ?_ | refine dG ?_) | refine aT ?_ | refine aF ?_ | refine dS (fun _ => ?_) fun _ => ?_ | refine aW ?_ | refine aC ?_ | refine aL ?_ | refine Prep.skip ?_ | refine Eith.l ?_ | refine aD ?_ | refine aB (fun _ => ?_) fun _ => ?_ | refine Nam.mk (List.length_map _) ?_ | fail)
  all_goals (conv => whnf)
  all_goals first | (exfalso; omega) | skip
  refine ALoop.only [(15, .d (I 0)), (9, .sref 2 v2 0 n2 false), (0, .d x.p.d), (1, .d (SL 3 (x.c.map Rat.cells))), (2, .d (SL 4 (x.v.map Ver.d))), (3, .d (SL 4 (x.a.map Ans.d))), (4, .ptr 0 0 0 0)] (by repeat (first | exact trivial | refine And.intro rfl ?_)) ?_
  refine ALoop.at (E := envOf Tryd.prog tt Tryd.f13.ntmps) (envOf_ok ttok mixed) (X := XR) (fun q => [(15, .d (I q.i)), (9, .sref 2 q.v 0 q.n false)]) (fun q => [(2, .row q.v 2 false q.rs)])
    (fun q => q.i ≤ x.p.costs.length ∧ q.n = (e3 ++ entsM wCost (oneP .int) (x.p.costs.take q.i)).length ∧ q.rs = (e3 ++ entsM wCost (oneP .int) (x.p.costs.take q.i)).map Ent.d) (fun q => x.p.costs.length - q.i) ⟨0, v2, n2, r2⟩ sam rfl ⟨Nat.zero_le _, by rw [List.take_zero, entsM_nil, List.append_nil]; exact hn2', by rw [List.take_zero, entsM_nil, List.append_nil]; exact hr2'⟩ ?_
  rintro ⟨i3, v3, n3, r3⟩ ⟨hi3, hn3', hr3'⟩
  dsimp only at hi3 hn3' hr3'
  dsimp only
  have hrl3 : r3.length = n3 := by rw [hr3', hn3', List.length_map]
  by_cases hlt : i3 < x.p.costs.length
  · obtain ⟨z, hz, _⟩ := drop_get hlt
    have hzm : z ∈ x.p.costs := List.mem_of_getElem? hz
    have hzp : okP ((oneP .int) z) := hx.p.costs.2 z hzm
    have hm := hx.p.costs.1
    have hz1 : okI z := hzp.ok (.int z) (List.mem_singleton.2 rfl)
    have hN1 := ref42_Number z hz1
    have hE := ref42_entry wCost (by decide) ((i3 : Nat) : Int) ⟨by omega, by omega⟩ (txt ((oneP .int) z)) (itoa z) rfl
    have hnb : n3 < 2 ^ 28 := by rw [hn3', List.length_append, entsM_len, List.length_take]; omega
    repeat' ((conv => whnf); first | refine cA ?_ | refine nA ?_ | refine cB ?_ | refine nB ?_ | refine aL ?_ | (with_reducible first | refine dT ?_ | refine dU ?_ | refine dF ?_ | refine dG ?_) | refine aT ?_ | refine aF ?_ | refine dS (fun _ => ?_) fun _ => ?_ | refine aW ?_ | refine aC ?_ | refine aL ?_ | refine Prep.skip ?_ | refine Eith.l ?_ | refine aD ?_ | refine aB (fun _ => ?_) fun _ => ?_ | refine nthK_mk (map_get (f := I) hz) ?_ | refine ACall.of hN1 ?_ | refine APCall.of hN1 ?_ | refine ACall.of hE ?_ | refine APCall.of hE ?_ | refine Chk.mk ⟨rfl, by omega, by simp [room]; omega⟩ ?_ | fail)
    all_goals (conv => whnf)
    all_goals first | (exfalso; omega) | skip
    refine ⟨⟨i3 + 1, v3 + 1, n3 + 1, r3 ++ [(entM wCost (i3 : Nat) ((oneP .int) z)).d]⟩, Wm.end sam rfl rfl rfl, ⟨hlt, ?_, ?_⟩, by show x.p.costs.length - (i3 + 1) < x.p.costs.length - i3; omega⟩
    · show n3 + 1 = (e3 ++ entsM wCost (oneP .int) (x.p.costs.take (i3 + 1))).length
      rw [entsM_next wCost (oneP .int) hz, ← List.append_assoc, hn3']; simp only [List.length_append, List.length_cons, List.length_nil] <;> omega
    · show r3 ++ _ = (e3 ++ entsM wCost (oneP .int) (x.p.costs.take (i3 + 1))).map Ent.d
      rw [entsM_next wCost (oneP .int) hz, ← List.append_assoc, hr3']; simp
  have hie : i3 = x.p.costs.length := by omega
  subst hie
  rw [List.take_length] at hn3' hr3'
  clear hlt
  obtain ⟨e4, he4⟩ : ∃ e4, e4 = e3 ++ entsM wCost (oneP .int) x.p.costs := ⟨_, rfl⟩
  rw [← he4] at hn3' hr3'
  have hl4 : e4.length < 2 + 4 * 2 ^ 24 := by
    have := hx.p.costs.1
    rw [he4, List.length_append, entsM_len]; omega
  repeat' ((conv => whnf); first | (with_reducible first | refine dT ?_ | refine dU ?_ | refine dF ?_ | refine dG ?_) | refine aT ?_ | refine aF ?_ | refine dS (fun _ => ?_) fun _ => ?_ | refine aW ?_ | refine aC ?_ | refine aL ?_ | refine Prep.skip ?_ | refine Eith.l ?_ | refine aD ?_ | refine aB (fun _ => ?_) fun _ => ?_ | refine Nam.mk (List.length_map _) ?_ | fail)
  all_goals (conv => whnf)
  all_goals first | (exfalso; omega) | skip
  refine ALoop.only [(16, .d (I 0)), (9, .sref 2 v3 0 n3 false), (0, .d x.p.d), (1, .d (SL 3 (x.c.map Rat.cells))), (2, .d (SL 4 (x.v.map Ver.d))), (3, .d (SL 4 (x.a.map Ans.d))), (4, .ptr 0 0 0 0)] (by repeat (first | exact trivial | refine And.intro rfl ?_)) ?_
  refine ALoop.at (E := envOf Tryd.prog tt Tryd.f13.ntmps) (envOf_ok ttok mixed) (X := XR) (fun q => [(16, .d (I q.i)), (9, .sref 2 q.v 0 q.n false)]) (fun q => [(2, .row q.v 2 false q.rs)])
    (fun q => q.i ≤ x.p.jobs.length ∧ q.n = (e4 ++ entsM wJob Jo.parts (x.p.jobs.take q.i)).length ∧ q.rs = (e4 ++ entsM wJob Jo.parts (x.p.jobs.take q.i)).map Ent.d) (fun q => x.p.jobs.length - q.i) ⟨0, v3, n3, r3⟩ sam rfl ⟨Nat.zero_le _, by rw [List.take_zero, entsM_nil, List.append_nil]; exact hn3', by rw [List.take_zero, entsM_nil, List.append_nil]; exact hr3'⟩ ?_
  rintro ⟨i4, v4, n4, r4⟩ ⟨hi4, hn4', hr4'⟩
  dsimp only at hi4 hn4' hr4'
  dsimp only
  have hrl4 : r4.length = n4 := by rw [hr4', hn4', List.length_map]
  by_cases hlt : i4 < x.p.jobs.length
  · obtain ⟨z, hz, _⟩ := drop_get hlt
    have hzm : z ∈ x.p.jobs := List.mem_of_getElem? hz
    have hzp : okP (Jo.parts z) := hx.p.jobs.2 z hzm
    have hm := hx.p.jobs.1
    have hz1 : okI z.a := hzp.ok (.int z.a) (by simp [Jo.parts])
    have hz2 : okI z.b := hzp.ok (.int z.b) (by simp [Jo.parts])
    have hz3 : okI z.c := hzp.ok (.int z.c) (by simp [Jo.parts])
    have hz4 : okI z.s := hzp.ok (.int z.s) (by simp [Jo.parts])
    have hz5 : okI z.e := hzp.ok (.int z.e) (by simp [Jo.parts])
    have hz6 : okI z.f := hzp.ok (.int z.f) (by simp [Jo.parts])
    have hN1 := ref42_numbers [z.a, z.b, z.c, z.s, z.e, z.f] true (by simp) (by intro n hn; simp only [List.mem_cons, List.not_mem_nil, or_false] at hn; rcases hn with rfl | rfl | rfl | rfl | rfl | rfl <;> assumption)
    have hE := ref42_entry wJob (by decide) ((i4 : Nat) : Int) ⟨by omega, by omega⟩ (txt (Jo.parts z)) (outT [] (wordsI [z.a, z.b, z.c, z.s, z.e, z.f])) rfl
    have hnb : n4 < 2 ^ 28 := by rw [hn4', List.length_append, entsM_len, List.length_take]; omega
    repeat' ((conv => whnf); first | refine cA ?_ | refine nA ?_ | refine cB ?_ | refine nB ?_ | refine aL ?_ | (with_reducible first | refine dT ?_ | refine dU ?_ | refine dF ?_ | refine dG ?_) | refine aT ?_ | refine aF ?_ | refine dS (fun _ => ?_) fun _ => ?_ | refine aW ?_ | refine aC ?_ | refine aL ?_ | refine Prep.skip ?_ | refine Eith.l ?_ | refine aD ?_ | refine aB (fun _ => ?_) fun _ => ?_ | refine nthK_mk (map_get (f := Jo.d) hz) ?_ | refine ACall.of hN1 ?_ | refine APCall.of hN1 ?_ | refine ACall.of hE ?_ | refine APCall.of hE ?_ | refine Chk.mk ⟨rfl, by omega, by simp [room]; omega⟩ ?_ | fail)
    all_goals (conv => whnf)
    all_goals first | (exfalso; omega) | skip
    refine ⟨⟨i4 + 1, v4 + 1, n4 + 1, r4 ++ [(entM wJob (i4 : Nat) (Jo.parts z)).d]⟩, Wm.end sam rfl rfl rfl, ⟨hlt, ?_, ?_⟩, by show x.p.jobs.length - (i4 + 1) < x.p.jobs.length - i4; omega⟩
    · show n4 + 1 = (e4 ++ entsM wJob Jo.parts (x.p.jobs.take (i4 + 1))).length
      rw [entsM_next wJob Jo.parts hz, ← List.append_assoc, hn4']; simp only [List.length_append, List.length_cons, List.length_nil] <;> omega
    · show r4 ++ _ = (e4 ++ entsM wJob Jo.parts (x.p.jobs.take (i4 + 1))).map Ent.d
      rw [entsM_next wJob Jo.parts hz, ← List.append_assoc, hr4']; simp
  have hie : i4 = x.p.jobs.length := by omega
  subst hie
  rw [List.take_length] at hn4' hr4'
  clear hlt
  obtain ⟨e5, he5⟩ : ∃ e5, e5 = e4 ++ entsM wJob Jo.parts x.p.jobs := ⟨_, rfl⟩
  rw [← he5] at hn4' hr4'
  have hl5 : e5.length < 2 + 5 * 2 ^ 24 := by
    have := hx.p.jobs.1
    rw [he5, List.length_append, entsM_len]; omega
  repeat' ((conv => whnf); first | (with_reducible first | refine dT ?_ | refine dU ?_ | refine dF ?_ | refine dG ?_) | refine aT ?_ | refine aF ?_ | refine dS (fun _ => ?_) fun _ => ?_ | refine aW ?_ | refine aC ?_ | refine aL ?_ | refine Prep.skip ?_ | refine Eith.l ?_ | refine aD ?_ | refine aB (fun _ => ?_) fun _ => ?_ | refine Nam.mk (List.length_map _) ?_ | fail)
  all_goals (conv => whnf)
  all_goals first | (exfalso; omega) | skip
  refine ALoop.only [(18, .d (I 0)), (9, .sref 2 v4 0 n4 false), (0, .d x.p.d), (1, .d (SL 3 (x.c.map Rat.cells))), (2, .d (SL 4 (x.v.map Ver.d))), (3, .d (SL 4 (x.a.map Ans.d))), (4, .ptr 0 0 0 0)] (by repeat (first | exact trivial | refine And.intro rfl ?_)) ?_
  refine ALoop.at (E := envOf Tryd.prog tt Tryd.f13.ntmps) (envOf_ok ttok mixed) (X := XR) (fun q => [(18, .d (I q.i)), (9, .sref 2 q.v 0 q.n false)]) (fun q => [(2, .row q.v 2 false q.rs)])
    (fun q => q.i ≤ x.p.pegs.length ∧ q.n = (e5 ++ entsM wPeg Pe.parts (x.p.pegs.take q.i)).length ∧ q.rs = (e5 ++ entsM wPeg Pe.parts (x.p.pegs.take q.i)).map Ent.d) (fun q => x.p.pegs.length - q.i) ⟨0, v4, n4, r4⟩ sam rfl ⟨Nat.zero_le _, by rw [List.take_zero, entsM_nil, List.append_nil]; exact hn4', by rw [List.take_zero, entsM_nil, List.append_nil]; exact hr4'⟩ ?_
  rintro ⟨i5, v5, n5, r5⟩ ⟨hi5, hn5', hr5'⟩
  dsimp only at hi5 hn5' hr5'
  dsimp only
  have hrl5 : r5.length = n5 := by rw [hr5', hn5', List.length_map]
  by_cases hlt : i5 < x.p.pegs.length
  · obtain ⟨z, hz, _⟩ := drop_get hlt
    have hzm : z ∈ x.p.pegs := List.mem_of_getElem? hz
    have hzp : okP (Pe.parts z) := hx.p.pegs.2 z hzm
    have hm := hx.p.pegs.1
    have hz1 : okI z.kind := hzp.ok (.int z.kind) (by simp [Pe.parts])
    have hz2 : okI z.no := hzp.ok (.int z.no) (by simp [Pe.parts])
    have hz3 : okI z.need := hzp.ok (.int z.need) (by simp [Pe.parts])
    obtain ⟨hr1, hr2⟩ := (show (Part.ratio z.amt).ok from hzp.ok _ (by simp [Pe.parts]))
    have hN1 := ref42_numbers [z.kind, z.no, z.need] true (by simp) (by intro n hn; simp only [List.mem_cons, List.not_mem_nil, or_false] at hn; rcases hn with rfl | rfl | rfl <;> assumption)
    have hR := ref42_Ratio z.amt hr1 hr2
    have hzt := hzp.txt
    rw [show txt (Pe.parts z) = outT [] (wordsI [z.kind, z.no, z.need]) ++ [32] ++ ratM z.amt from (tx_peg z)] at hzt
    simp only [List.length_append, List.length_cons, List.length_nil] at hzt
    have hE := ref42_entry wPeg (by decide) ((i5 : Nat) : Int) ⟨by omega, by omega⟩ (txt (Pe.parts z)) (outT [] (wordsI [z.kind, z.no, z.need]) ++ [32] ++ ratM z.amt) (tx_peg z).symm
    have hnb : n5 < 2 ^ 28 := by rw [hn5', List.length_append, entsM_len, List.length_take]; omega
    repeat' ((conv => whnf); first | refine cA ?_ | refine nA ?_ | refine cB ?_ | refine nB ?_ | refine aL ?_ | (with_reducible first | refine dT ?_ | refine dU ?_ | refine dF ?_ | refine dG ?_) | refine aT ?_ | refine aF ?_ | refine dS (fun _ => ?_) fun _ => ?_ | refine aW ?_ | refine aC ?_ | refine aL ?_ | refine Prep.skip ?_ | refine Eith.l ?_ | refine aD ?_ | refine aB (fun _ => ?_) fun _ => ?_ | refine nthK_mk (map_get (f := Pe.d) hz) ?_ | refine ACall.of hN1 ?_ | refine APCall.of hN1 ?_ | refine ACall.of hR ?_ | refine APCall.of hR ?_ | refine ACall.of hE ?_ | refine APCall.of hE ?_ | refine Chk.mk ⟨rfl, by omega, by simp [room]; omega⟩ ?_ | fail)
    all_goals (conv => whnf)
    all_goals first | (exfalso; omega) | skip
    refine ⟨⟨i5 + 1, v5 + 1, n5 + 1, r5 ++ [(entM wPeg (i5 : Nat) (Pe.parts z)).d]⟩, Wm.end sam rfl rfl rfl, ⟨hlt, ?_, ?_⟩, by show x.p.pegs.length - (i5 + 1) < x.p.pegs.length - i5; omega⟩
    · show n5 + 1 = (e5 ++ entsM wPeg Pe.parts (x.p.pegs.take (i5 + 1))).length
      rw [entsM_next wPeg Pe.parts hz, ← List.append_assoc, hn5']; simp only [List.length_append, List.length_cons, List.length_nil] <;> omega
    · show r5 ++ _ = (e5 ++ entsM wPeg Pe.parts (x.p.pegs.take (i5 + 1))).map Ent.d
      rw [entsM_next wPeg Pe.parts hz, ← List.append_assoc, hr5']; simp
  have hie : i5 = x.p.pegs.length := by omega
  subst hie
  rw [List.take_length] at hn5' hr5'
  clear hlt
  obtain ⟨e6, he6⟩ : ∃ e6, e6 = e5 ++ entsM wPeg Pe.parts x.p.pegs := ⟨_, rfl⟩
  rw [← he6] at hn5' hr5'
  have hl6 : e6.length < 2 + 6 * 2 ^ 24 := by
    have := hx.p.pegs.1
    rw [he6, List.length_append, entsM_len]; omega
  repeat' ((conv => whnf); first | (with_reducible first | refine dT ?_ | refine dU ?_ | refine dF ?_ | refine dG ?_) | refine aT ?_ | refine aF ?_ | refine dS (fun _ => ?_) fun _ => ?_ | refine aW ?_ | refine aC ?_ | refine aL ?_ | refine Prep.skip ?_ | refine Eith.l ?_ | refine aD ?_ | refine aB (fun _ => ?_) fun _ => ?_ | refine Nam.mk (List.length_map _) ?_ | fail)
  all_goals (conv => whnf)
  all_goals first | (exfalso; omega) | skip
  refine ALoop.only [(20, .d (I 0)), (9, .sref 2 v5 0 n5 false), (0, .d x.p.d), (1, .d (SL 3 (x.c.map Rat.cells))), (2, .d (SL 4 (x.v.map Ver.d))), (3, .d (SL 4 (x.a.map Ans.d))), (4, .ptr 0 0 0 0)] (by repeat (first | exact trivial | refine And.intro rfl ?_)) ?_
  refine ALoop.at (E := envOf Tryd.prog tt Tryd.f13.ntmps) (envOf_ok ttok mixed) (X := XR) (fun q => [(20, .d (I q.i)), (9, .sref 2 q.v 0 q.n false)]) (fun q => [(2, .row q.v 2 false q.rs)])
    (fun q => q.i ≤ x.p.late.length ∧ q.n = (e6 ++ entsM wLate (oneP .int) (x.p.late.take q.i)).length ∧ q.rs = (e6 ++ entsM wLate (oneP .int) (x.p.late.take q.i)).map Ent.d) (fun q => x.p.late.length - q.i) ⟨0, v5, n5, r5⟩ sam rfl ⟨Nat.zero_le _, by rw [List.take_zero, entsM_nil, List.append_nil]; exact hn5', by rw [List.take_zero, entsM_nil, List.append_nil]; exact hr5'⟩ ?_
  rintro ⟨i6, v6, n6, r6⟩ ⟨hi6, hn6', hr6'⟩
  dsimp only at hi6 hn6' hr6'
  dsimp only
  have hrl6 : r6.length = n6 := by rw [hr6', hn6', List.length_map]
  by_cases hlt : i6 < x.p.late.length
  · obtain ⟨z, hz, _⟩ := drop_get hlt
    have hzm : z ∈ x.p.late := List.mem_of_getElem? hz
    have hzp : okP ((oneP .int) z) := hx.p.late.2 z hzm
    have hm := hx.p.late.1
    have hz1 : okI z := hzp.ok (.int z) (List.mem_singleton.2 rfl)
    have hN1 := ref42_Number z hz1
    have hE := ref42_entry wLate (by decide) ((i6 : Nat) : Int) ⟨by omega, by omega⟩ (txt ((oneP .int) z)) (itoa z) rfl
    have hnb : n6 < 2 ^ 28 := by rw [hn6', List.length_append, entsM_len, List.length_take]; omega
    repeat' ((conv => whnf); first | refine cA ?_ | refine nA ?_ | refine cB ?_ | refine nB ?_ | refine aL ?_ | (with_reducible first | refine dT ?_ | refine dU ?_ | refine dF ?_ | refine dG ?_) | refine aT ?_ | refine aF ?_ | refine dS (fun _ => ?_) fun _ => ?_ | refine aW ?_ | refine aC ?_ | refine aL ?_ | refine Prep.skip ?_ | refine Eith.l ?_ | refine aD ?_ | refine aB (fun _ => ?_) fun _ => ?_ | refine nthK_mk (map_get (f := I) hz) ?_ | refine ACall.of hN1 ?_ | refine APCall.of hN1 ?_ | refine ACall.of hE ?_ | refine APCall.of hE ?_ | refine Chk.mk ⟨rfl, by omega, by simp [room]; omega⟩ ?_ | fail)
    all_goals (conv => whnf)
    all_goals first | (exfalso; omega) | skip
    refine ⟨⟨i6 + 1, v6 + 1, n6 + 1, r6 ++ [(entM wLate (i6 : Nat) ((oneP .int) z)).d]⟩, Wm.end sam rfl rfl rfl, ⟨hlt, ?_, ?_⟩, by show x.p.late.length - (i6 + 1) < x.p.late.length - i6; omega⟩
    · show n6 + 1 = (e6 ++ entsM wLate (oneP .int) (x.p.late.take (i6 + 1))).length
      rw [entsM_next wLate (oneP .int) hz, ← List.append_assoc, hn6']; simp only [List.length_append, List.length_cons, List.length_nil] <;> omega
    · show r6 ++ _ = (e6 ++ entsM wLate (oneP .int) (x.p.late.take (i6 + 1))).map Ent.d
      rw [entsM_next wLate (oneP .int) hz, ← List.append_assoc, hr6']; simp
  have hie : i6 = x.p.late.length := by omega
  subst hie
  rw [List.take_length] at hn6' hr6'
  clear hlt
  obtain ⟨e7, he7⟩ : ∃ e7, e7 = e6 ++ entsM wLate (oneP .int) x.p.late := ⟨_, rfl⟩
  rw [← he7] at hn6' hr6'
  have hl7 : e7.length < 2 + 7 * 2 ^ 24 := by
    have := hx.p.late.1
    rw [he7, List.length_append, entsM_len]; omega
  repeat' ((conv => whnf); first | (with_reducible first | refine dT ?_ | refine dU ?_ | refine dF ?_ | refine dG ?_) | refine aT ?_ | refine aF ?_ | refine dS (fun _ => ?_) fun _ => ?_ | refine aW ?_ | refine aC ?_ | refine aL ?_ | refine Prep.skip ?_ | refine Eith.l ?_ | refine aD ?_ | refine aB (fun _ => ?_) fun _ => ?_ | refine Nam.mk (List.length_map _) ?_ | fail)
  all_goals (conv => whnf)
  all_goals first | (exfalso; omega) | skip
  refine ALoop.only [(21, .d (I 0)), (9, .sref 2 v6 0 n6 false), (0, .d x.p.d), (1, .d (SL 3 (x.c.map Rat.cells))), (2, .d (SL 4 (x.v.map Ver.d))), (3, .d (SL 4 (x.a.map Ans.d))), (4, .ptr 0 0 0 0)] (by repeat (first | exact trivial | refine And.intro rfl ?_)) ?_
  refine ALoop.at (E := envOf Tryd.prog tt Tryd.f13.ntmps) (envOf_ok ttok mixed) (X := XR) (fun q => [(21, .d (I q.i)), (9, .sref 2 q.v 0 q.n false)]) (fun q => [(2, .row q.v 2 false q.rs)])
    (fun q => q.i ≤ x.c.length ∧ q.n = (e7 ++ entsM wPrice (oneP .ratio) (x.c.take q.i)).length ∧ q.rs = (e7 ++ entsM wPrice (oneP .ratio) (x.c.take q.i)).map Ent.d) (fun q => x.c.length - q.i) ⟨0, v6, n6, r6⟩ sam rfl ⟨Nat.zero_le _, by rw [List.take_zero, entsM_nil, List.append_nil]; exact hn6', by rw [List.take_zero, entsM_nil, List.append_nil]; exact hr6'⟩ ?_
  rintro ⟨i7, v7, n7, r7⟩ ⟨hi7, hn7', hr7'⟩
  dsimp only at hi7 hn7' hr7'
  dsimp only
  have hrl7 : r7.length = n7 := by rw [hr7', hn7', List.length_map]
  by_cases hlt : i7 < x.c.length
  · obtain ⟨z, hz, _⟩ := drop_get hlt
    have hzm : z ∈ x.c := List.mem_of_getElem? hz
    have hzp : okP ((oneP .ratio) z) := hx.c.2 z hzm
    have hm := hx.c.1
    obtain ⟨hr1, hr2⟩ := (show (Part.ratio z).ok from hzp.ok _ (List.mem_singleton.2 rfl))
    have hN1 := ref42_Ratio z hr1 hr2
    have hE := ref42_entry wPrice (by decide) ((i7 : Nat) : Int) ⟨by omega, by omega⟩ (txt ((oneP .ratio) z)) (ratM z) rfl
    have hnb : n7 < 2 ^ 28 := by rw [hn7', List.length_append, entsM_len, List.length_take]; omega
    repeat' ((conv => whnf); first | refine cA ?_ | refine nA ?_ | refine cB ?_ | refine nB ?_ | refine aL ?_ | (with_reducible first | refine dT ?_ | refine dU ?_ | refine dF ?_ | refine dG ?_) | refine aT ?_ | refine aF ?_ | refine dS (fun _ => ?_) fun _ => ?_ | refine aW ?_ | refine aC ?_ | refine aL ?_ | refine Prep.skip ?_ | refine Eith.l ?_ | refine aD ?_ | refine aB (fun _ => ?_) fun _ => ?_ | refine nthK_mk (map_get (f := Rat.cells) hz) ?_ | refine ACall.of hN1 ?_ | refine APCall.of hN1 ?_ | refine ACall.of hE ?_ | refine APCall.of hE ?_ | refine Chk.mk ⟨rfl, by omega, by simp [room]; omega⟩ ?_ | fail)
    all_goals (conv => whnf)
    all_goals first | (exfalso; omega) | skip
    refine ⟨⟨i7 + 1, v7 + 1, n7 + 1, r7 ++ [(entM wPrice (i7 : Nat) ((oneP .ratio) z)).d]⟩, Wm.end sam rfl rfl rfl, ⟨hlt, ?_, ?_⟩, by show x.c.length - (i7 + 1) < x.c.length - i7; omega⟩
    · show n7 + 1 = (e7 ++ entsM wPrice (oneP .ratio) (x.c.take (i7 + 1))).length
      rw [entsM_next wPrice (oneP .ratio) hz, ← List.append_assoc, hn7']; simp only [List.length_append, List.length_cons, List.length_nil] <;> omega
    · show r7 ++ _ = (e7 ++ entsM wPrice (oneP .ratio) (x.c.take (i7 + 1))).map Ent.d
      rw [entsM_next wPrice (oneP .ratio) hz, ← List.append_assoc, hr7']; simp
  have hie : i7 = x.c.length := by omega
  subst hie
  rw [List.take_length] at hn7' hr7'
  clear hlt
  obtain ⟨e8, he8⟩ : ∃ e8, e8 = e7 ++ entsM wPrice (oneP .ratio) x.c := ⟨_, rfl⟩
  rw [← he8] at hn7' hr7'
  have hl8 : e8.length < 2 + 8 * 2 ^ 24 := by
    have := hx.c.1
    rw [he8, List.length_append, entsM_len]; omega
  repeat' ((conv => whnf); first | (with_reducible first | refine dT ?_ | refine dU ?_ | refine dF ?_ | refine dG ?_) | refine aT ?_ | refine aF ?_ | refine dS (fun _ => ?_) fun _ => ?_ | refine aW ?_ | refine aC ?_ | refine aL ?_ | refine Prep.skip ?_ | refine Eith.l ?_ | refine aD ?_ | refine aB (fun _ => ?_) fun _ => ?_ | refine Nam.mk (List.length_map _) ?_ | fail)
  all_goals (conv => whnf)
  all_goals first | (exfalso; omega) | skip
  refine ALoop.only [(22, .d (I 0)), (9, .sref 2 v7 0 n7 false), (0, .d x.p.d), (1, .d (SL 3 (x.c.map Rat.cells))), (2, .d (SL 4 (x.v.map Ver.d))), (3, .d (SL 4 (x.a.map Ans.d))), (4, .ptr 0 0 0 0)] (by repeat (first | exact trivial | refine And.intro rfl ?_)) ?_
  refine ALoop.at (E := envOf Tryd.prog tt Tryd.f13.ntmps) (envOf_ok ttok mixed) (X := XR) (fun q => [(22, .d (I q.i)), (9, .sref 2 q.v 0 q.n false)]) (fun q => [(2, .row q.v 2 false q.rs)])
    (fun q => q.i ≤ x.v.length ∧ q.n = (e8 ++ entsM wVerdict Ver.parts (x.v.take q.i)).length ∧ q.rs = (e8 ++ entsM wVerdict Ver.parts (x.v.take q.i)).map Ent.d) (fun q => x.v.length - q.i) ⟨0, v7, n7, r7⟩ sam rfl ⟨Nat.zero_le _, by rw [List.take_zero, entsM_nil, List.append_nil]; exact hn7', by rw [List.take_zero, entsM_nil, List.append_nil]; exact hr7'⟩ ?_
  rintro ⟨i8, v8, n8, r8⟩ ⟨hi8, hn8', hr8'⟩
  dsimp only at hi8 hn8' hr8'
  dsimp only
  have hrl8 : r8.length = n8 := by rw [hr8', hn8', List.length_map]
  by_cases hlt : i8 < x.v.length
  · obtain ⟨z, hz, _⟩ := drop_get hlt
    have hzm : z ∈ x.v := List.mem_of_getElem? hz
    have hzp : okP (Ver.parts z) := hx.v.2 z hzm
    have hm := hx.v.1
    have hN1 := ref42_verdict z (hV z hzm)
    have hE := ref42_entry wVerdict (by decide) ((i8 : Nat) : Int) ⟨by omega, by omega⟩ (txt (Ver.parts z)) (txt z.parts) rfl
    have hnb : n8 < 2 ^ 28 := by rw [hn8', List.length_append, entsM_len, List.length_take]; omega
    repeat' ((conv => whnf); first | refine cA ?_ | refine nA ?_ | refine cB ?_ | refine nB ?_ | refine aL ?_ | (with_reducible first | refine dT ?_ | refine dU ?_ | refine dF ?_ | refine dG ?_) | refine aT ?_ | refine aF ?_ | refine dS (fun _ => ?_) fun _ => ?_ | refine aW ?_ | refine aC ?_ | refine aL ?_ | refine Prep.skip ?_ | refine Eith.l ?_ | refine aD ?_ | refine aB (fun _ => ?_) fun _ => ?_ | refine nthK_mk (map_get (f := Ver.d) hz) ?_ | refine ACall.of hN1 ?_ | refine APCall.of hN1 ?_ | refine ACall.of hE ?_ | refine APCall.of hE ?_ | refine Chk.mk ⟨rfl, by omega, by simp [room]; omega⟩ ?_ | fail)
    all_goals (conv => whnf)
    all_goals first | (exfalso; omega) | skip
    refine ⟨⟨i8 + 1, v8 + 1, n8 + 1, r8 ++ [(entM wVerdict (i8 : Nat) (Ver.parts z)).d]⟩, Wm.end sam rfl rfl rfl, ⟨hlt, ?_, ?_⟩, by show x.v.length - (i8 + 1) < x.v.length - i8; omega⟩
    · show n8 + 1 = (e8 ++ entsM wVerdict Ver.parts (x.v.take (i8 + 1))).length
      rw [entsM_next wVerdict Ver.parts hz, ← List.append_assoc, hn8']; simp only [List.length_append, List.length_cons, List.length_nil] <;> omega
    · show r8 ++ _ = (e8 ++ entsM wVerdict Ver.parts (x.v.take (i8 + 1))).map Ent.d
      rw [entsM_next wVerdict Ver.parts hz, ← List.append_assoc, hr8']; simp
  have hie : i8 = x.v.length := by omega
  subst hie
  rw [List.take_length] at hn8' hr8'
  clear hlt
  obtain ⟨e9, he9⟩ : ∃ e9, e9 = e8 ++ entsM wVerdict Ver.parts x.v := ⟨_, rfl⟩
  rw [← he9] at hn8' hr8'
  have hl9 : e9.length < 2 + 9 * 2 ^ 24 := by
    have := hx.v.1
    rw [he9, List.length_append, entsM_len]; omega
  repeat' ((conv => whnf); first | (with_reducible first | refine dT ?_ | refine dU ?_ | refine dF ?_ | refine dG ?_) | refine aT ?_ | refine aF ?_ | refine dS (fun _ => ?_) fun _ => ?_ | refine aW ?_ | refine aC ?_ | refine aL ?_ | refine Prep.skip ?_ | refine Eith.l ?_ | refine aD ?_ | refine aB (fun _ => ?_) fun _ => ?_ | refine Nam.mk (List.length_map _) ?_ | fail)
  all_goals (conv => whnf)
  all_goals first | (exfalso; omega) | skip
  refine ALoop.only [(23, .d (I 0)), (9, .sref 2 v8 0 n8 false), (0, .d x.p.d), (1, .d (SL 3 (x.c.map Rat.cells))), (2, .d (SL 4 (x.v.map Ver.d))), (3, .d (SL 4 (x.a.map Ans.d))), (4, .ptr 0 0 0 0)] (by repeat (first | exact trivial | refine And.intro rfl ?_)) ?_
  refine ALoop.at (E := envOf Tryd.prog tt Tryd.f13.ntmps) (envOf_ok ttok mixed) (X := XR) (fun q => [(23, .d (I q.i)), (9, .sref 2 q.v 0 q.n false)]) (fun q => [(2, .row q.v 2 false q.rs)])
    (fun q => q.i ≤ x.a.length ∧ q.n = (e9 ++ entsM wAnswer Ans.parts (x.a.take q.i)).length ∧ q.rs = (e9 ++ entsM wAnswer Ans.parts (x.a.take q.i)).map Ent.d) (fun q => x.a.length - q.i) ⟨0, v8, n8, r8⟩ sam rfl ⟨Nat.zero_le _, by rw [List.take_zero, entsM_nil, List.append_nil]; exact hn8', by rw [List.take_zero, entsM_nil, List.append_nil]; exact hr8'⟩ ?_
  rintro ⟨i9, v9, n9, r9⟩ ⟨hi9, hn9', hr9'⟩
  dsimp only at hi9 hn9' hr9'
  dsimp only
  have hrl9 : r9.length = n9 := by rw [hr9', hn9', List.length_map]
  by_cases hlt : i9 < x.a.length
  · obtain ⟨z, hz, _⟩ := drop_get hlt
    have hzm : z ∈ x.a := List.mem_of_getElem? hz
    have hzp : okP (Ans.parts z) := hx.a.2 z hzm
    have hm := hx.a.1
    have hN1 := ref42_answer z (hA z hzm)
    have hE := ref42_entry wAnswer (by decide) ((i9 : Nat) : Int) ⟨by omega, by omega⟩ (txt (Ans.parts z)) (txt z.parts) rfl
    have hnb : n9 < 2 ^ 28 := by rw [hn9', List.length_append, entsM_len, List.length_take]; omega
    repeat' ((conv => whnf); first | refine cA ?_ | refine nA ?_ | refine cB ?_ | refine nB ?_ | refine aL ?_ | (with_reducible first | refine dT ?_ | refine dU ?_ | refine dF ?_ | refine dG ?_) | refine aT ?_ | refine aF ?_ | refine dS (fun _ => ?_) fun _ => ?_ | refine aW ?_ | refine aC ?_ | refine aL ?_ | refine Prep.skip ?_ | refine Eith.l ?_ | refine aD ?_ | refine aB (fun _ => ?_) fun _ => ?_ | refine nthK_mk (map_get (f := Ans.d) hz) ?_ | refine ACall.of hN1 ?_ | refine APCall.of hN1 ?_ | refine ACall.of hE ?_ | refine APCall.of hE ?_ | refine Chk.mk ⟨rfl, by omega, by simp [room]; omega⟩ ?_ | fail)
    all_goals (conv => whnf)
    all_goals first | (exfalso; omega) | skip
    refine ⟨⟨i9 + 1, v9 + 1, n9 + 1, r9 ++ [(entM wAnswer (i9 : Nat) (Ans.parts z)).d]⟩, Wm.end sam rfl rfl rfl, ⟨hlt, ?_, ?_⟩, by show x.a.length - (i9 + 1) < x.a.length - i9; omega⟩
    · show n9 + 1 = (e9 ++ entsM wAnswer Ans.parts (x.a.take (i9 + 1))).length
      rw [entsM_next wAnswer Ans.parts hz, ← List.append_assoc, hn9']; simp only [List.length_append, List.length_cons, List.length_nil] <;> omega
    · show r9 ++ _ = (e9 ++ entsM wAnswer Ans.parts (x.a.take (i9 + 1))).map Ent.d
      rw [entsM_next wAnswer Ans.parts hz, ← List.append_assoc, hr9']; simp
  have hie : i9 = x.a.length := by omega
  subst hie
  rw [List.take_length] at hn9' hr9'
  clear hlt
  obtain ⟨e10, he10⟩ : ∃ e10, e10 = e9 ++ entsM wAnswer Ans.parts x.a := ⟨_, rfl⟩
  rw [← he10] at hn9' hr9'
  have hl10 : e10.length < 2 + 10 * 2 ^ 24 := by
    have := hx.a.1
    rw [he10, List.length_append, entsM_len]; omega
  repeat' ((conv => whnf); first | (with_reducible first | refine dT ?_ | refine dU ?_ | refine dF ?_ | refine dG ?_) | refine aT ?_ | refine aF ?_ | refine dS (fun _ => ?_) fun _ => ?_ | refine aW ?_ | refine aC ?_ | refine aL ?_ | refine Prep.skip ?_ | refine Eith.l ?_ | refine aD ?_ | refine aB (fun _ => ?_) fun _ => ?_ | refine Nam.mk (List.length_map _) ?_ | fail)
  all_goals (conv => whnf)
  all_goals first | (exfalso; omega) | skip
  have z0 : entsM wLine (oneP Lin.part) x.p.lines = [] := by rw [List.eq_nil_of_length_eq_zero h0]; rfl
  have z1 : entsM wNeed Nee.parts x.p.needs = [] := by rw [List.eq_nil_of_length_eq_zero h1]; rfl
  have he : e10 = reportM x := by rw [he10, he9, he8, he7, he6, he5, he4, he3, he2]; unfold reportM planM; simp only [List.append_assoc, List.nil_append, z0, z1]
  subst hn9'; subst hr9'; subst he
  have hO := ref42_ordered (reportM x) (by omega)
  repeat' ((conv => whnf); first | refine Nam.mk (y := (reportM x).map Ent.d) (whole (List.length_map _).symm) ?_ | refine Nam.mk (y := (reportM x).map Ent.d) (whole (List.length_map _)) ?_ | (with_reducible first | refine dT ?_ | refine dU ?_ | refine dF ?_ | refine dG ?_) | refine aT ?_ | refine aF ?_ | refine dS (fun _ => ?_) fun _ => ?_ | refine aW ?_ | refine aC ?_ | refine aL ?_ | refine Prep.skip ?_ | refine Eith.l ?_ | refine aD ?_ | refine aB (fun _ => ?_) fun _ => ?_ | refine ACall.of hO ?_ | refine ACall.lift ?_ | fail)
  all_goals (conv => whnf)
  exact DLe.refl _
theorem ref42_Report3 (x : Rep) (hx : x.ok) (hd : dE (reportM x)) (hV : ∀ y ∈ x.v, y.okR) (hA : ∀ y ∈ x.a, y.okR) (h0 : x.p.lines.length = 0) (h1 : x.p.needs.length = 0) (h2 : x.p.lots.length = 0) (hlt : 0 < x.p.costs.length) : CallP Tryd.prog 13 [.d x.p.d, .d (SL 3 (x.c.map Rat.cells)), .d (SL 4 (x.v.map Ver.d)), .d (SL 4 (x.a.map Ans.d))] (retD [SL 2 ((ordE (reportM x)).map Ent.d)]) := by
  have hN := ref42_numbers [x.p.start, x.p.days] true (by simp) (by
    intro n hn
    simp only [List.mem_cons, List.not_mem_nil, or_false] at hn
    have := hx.p.head.ok
    rcases hn with rfl | rfl
    · exact this (.int x.p.start) (by simp)
    · exact this (.int x.p.days) (by simp))
  refine exPure_sound (E := envOf Tryd.prog tt Tryd.f13.ntmps) (envOf_ok ttok mixed) Tryd.func13 (by rfl) rfl rfl (Nat.le_of_ble_eq_true rfl) ?_
  repeat' ((conv => whnf); first | (with_reducible first | refine dT ?_ | refine dU ?_ | refine dF ?_ | refine dG ?_) | refine aT ?_ | refine aF ?_ | refine dS (fun _ => ?_) fun _ => ?_ | refine aW ?_ | refine aC ?_ | refine aL ?_ | refine Prep.skip ?_ | refine Eith.l ?_ | refine aD ?_ | refine aB (fun _ => ?_) fun _ => ?_ | refine ACall.of hN ?_ | refine APCall.of hN ?_ | refine Nam.mk (List.length_map _) ?_ | fail)
  all_goals (conv => whnf)
  refine ALoop.only [(10, .d (I 0)), (9, .d (.sl 2 true [(headM x.p).d])), (0, .d x.p.d), (1, .d (SL 3 (x.c.map Rat.cells))), (2, .d (SL 4 (x.v.map Ver.d))), (3, .d (SL 4 (x.a.map Ans.d))), (4, .ptr 0 0 0 0)] (by repeat (first | exact trivial | refine And.intro rfl ?_)) ?_
  refine ALoop.rounds 1 ?_
  refine ALoopN.step (E := (envOf Tryd.prog tt Tryd.f13.ntmps)) (envOf_ok ttok mixed) ?_
  repeat' ((conv => whnf); first | (with_reducible first | refine dT ?_ | refine dU ?_ | refine dF ?_ | refine dG ?_) | refine aT ?_ | refine aF ?_ | refine dS (fun _ => ?_) fun _ => ?_ | refine aW ?_ | refine aC ?_ | refine aL ?_ | refine Prep.skip ?_ | refine Eith.l ?_ | refine aD ?_ | refine aB (fun _ => ?_) fun _ => ?_ | refine Nam.mk (List.length_map _) ?_ | fail)
  all_goals (conv => whnf)
  refine ALoop.only [(11, .d (I 0)), (9, .d (.sl 2 true [(headM x.p).d])), (0, .d x.p.d), (1, .d (SL 3 (x.c.map Rat.cells))), (2, .d (SL 4 (x.v.map Ver.d))), (3, .d (SL 4 (x.a.map Ans.d))), (4, .ptr 0 0 0 0)] (by repeat (first | exact trivial | refine And.intro rfl ?_)) ?_
  refine ALoop.rounds 1 ?_
  refine ALoopN.step (E := (envOf Tryd.prog tt Tryd.f13.ntmps)) (envOf_ok ttok mixed) ?_
  repeat' ((conv => whnf); first | (with_reducible first | refine dT ?_ | refine dU ?_ | refine dF ?_ | refine dG ?_) | refine aT ?_ | refine aF ?_ | refine dS (fun _ => ?_) fun _ => ?_ | refine aW ?_ | refine aC ?_ | refine aL ?_ | refine Prep.skip ?_ | refine Eith.l ?_ | refine aD ?_ | refine aB (fun _ => ?_) fun _ => ?_ | refine Nam.mk (List.length_map _) ?_ | fail)
  all_goals (conv => whnf)
  refine ALoop.only [(13, .d (I 0)), (9, .d (.sl 2 true [(headM x.p).d])), (0, .d x.p.d), (1, .d (SL 3 (x.c.map Rat.cells))), (2, .d (SL 4 (x.v.map Ver.d))), (3, .d (SL 4 (x.a.map Ans.d))), (4, .ptr 0 0 0 0)] (by repeat (first | exact trivial | refine And.intro rfl ?_)) ?_
  refine ALoop.rounds 1 ?_
  refine ALoopN.step (E := (envOf Tryd.prog tt Tryd.f13.ntmps)) (envOf_ok ttok mixed) ?_
  repeat' ((conv => whnf); first | (with_reducible first | refine dT ?_ | refine dU ?_ | refine dF ?_ | refine dG ?_) | refine aT ?_ | refine aF ?_ | refine dS (fun _ => ?_) fun _ => ?_ | refine aW ?_ | refine aC ?_ | refine aL ?_ | refine Prep.skip ?_ | refine Eith.l ?_ | refine aD ?_ | refine aB (fun _ => ?_) fun _ => ?_ | refine Nam.mk (List.length_map _) ?_ | fail)
  all_goals (conv => whnf)
  refine ALoop.only [(15, .d (I 0)), (9, .d (.sl 2 true [(headM x.p).d])), (0, .d x.p.d), (1, .d (SL 3 (x.c.map Rat.cells))), (2, .d (SL 4 (x.v.map Ver.d))), (3, .d (SL 4 (x.a.map Ans.d))), (4, .ptr 0 0 0 0)] (by repeat (first | exact trivial | refine And.intro rfl ?_)) ?_
  refine ALoop.peel (E := (envOf Tryd.prog tt Tryd.f13.ntmps)) (envOf_ok ttok mixed) ?_
  obtain ⟨z, hz, _⟩ := drop_get hlt
  have hzm : z ∈ x.p.costs := List.mem_of_getElem? hz
  have hzp : okP ((oneP .int) z) := hx.p.costs.2 z hzm
  have hm := hx.p.costs.1
  have hz1 : okI z := hzp.ok (.int z) (List.mem_singleton.2 rfl)
  have hN1 := ref42_Number z hz1
  have hE := ref42_entry wCost (by decide) ((0 : Nat) : Int) ⟨by omega, by omega⟩ (txt ((oneP .int) z)) (itoa z) rfl
  repeat' ((conv => whnf); first | refine cA ?_ | refine nA ?_ | refine cB ?_ | refine nB ?_ | refine aL ?_ | (with_reducible first | refine dT ?_ | refine dU ?_ | refine dF ?_ | refine dG ?_) | refine aT ?_ | refine aF ?_ | refine dS (fun _ => ?_) fun _ => ?_ | refine aW ?_ | refine aC ?_ | refine aL ?_ | refine Prep.skip ?_ | refine Eith.l ?_ | refine aD ?_ | refine aB (fun _ => ?_) fun _ => ?_ | refine nthK_mk (map_get (f := I) hz) ?_ | refine ACall.of hN1 ?_ | refine APCall.of hN1 ?_ | refine ACall.of hE ?_ | refine APCall.of hE ?_ | fail)
  all_goals (conv => whnf)
  refine ALoop.only [(15, .d (I 1)), (9, .sref 1 0 0 2 false), (0, .d x.p.d), (1, .d (SL 3 (x.c.map Rat.cells))), (2, .d (SL 4 (x.v.map Ver.d))), (3, .d (SL 4 (x.a.map Ans.d))), (4, .ptr 0 0 0 0)] (by repeat (first | exact trivial | refine And.intro rfl ?_)) ?_
  obtain ⟨e3, he3⟩ : ∃ e3, e3 = [headM x.p] := ⟨_, rfl⟩
  have hl3 : e3.length < 2 + 3 * 2 ^ 24 := by rw [he3]; simp
  refine ALoop.at (E := envOf Tryd.prog tt Tryd.f13.ntmps) (envOf_ok ttok mixed) (X := XR) (fun q => [(15, .d (I q.i)), (9, .sref 1 q.v 0 q.n false)]) (fun q => [(1, .row q.v 2 false q.rs)])
    (fun q => q.i ≤ x.p.costs.length ∧ q.n = (e3 ++ entsM wCost (oneP .int) (x.p.costs.take q.i)).length ∧ q.rs = (e3 ++ entsM wCost (oneP .int) (x.p.costs.take q.i)).map Ent.d) (fun q => x.p.costs.length - q.i) ⟨1, 0, 2, [(headM x.p).d, (entM wCost (0 : Nat) ((oneP .int) z)).d]⟩ sam rfl ⟨hlt, by rw [List.length_append, entsM_len, List.length_take, he3]; simp; omega, by rw [entsM_next wCost (oneP .int) hz, he3]; rfl⟩ ?_
  clear hE
  clear hz hzp hzm
  rintro ⟨i3, v3, n3, r3⟩ ⟨hi3, hn3', hr3'⟩
  dsimp only at hi3 hn3' hr3'
  dsimp only
  have hrl3 : r3.length = n3 := by rw [hr3', hn3', List.length_map]
  by_cases hlt : i3 < x.p.costs.length
  · obtain ⟨z, hz, _⟩ := drop_get hlt
    have hzm : z ∈ x.p.costs := List.mem_of_getElem? hz
    have hzp : okP ((oneP .int) z) := hx.p.costs.2 z hzm
    have hm := hx.p.costs.1
    have hz1 : okI z := hzp.ok (.int z) (List.mem_singleton.2 rfl)
    have hN1 := ref42_Number z hz1
    have hE := ref42_entry wCost (by decide) ((i3 : Nat) : Int) ⟨by omega, by omega⟩ (txt ((oneP .int) z)) (itoa z) rfl
    have hnb : n3 < 2 ^ 28 := by rw [hn3', List.length_append, entsM_len, List.length_take]; omega
    repeat' ((conv => whnf); first | refine cA ?_ | refine nA ?_ | refine cB ?_ | refine nB ?_ | refine aL ?_ | (with_reducible first | refine dT ?_ | refine dU ?_ | refine dF ?_ | refine dG ?_) | refine aT ?_ | refine aF ?_ | refine dS (fun _ => ?_) fun _ => ?_ | refine aW ?_ | refine aC ?_ | refine aL ?_ | refine Prep.skip ?_ | refine Eith.l ?_ | refine aD ?_ | refine aB (fun _ => ?_) fun _ => ?_ | refine nthK_mk (map_get (f := I) hz) ?_ | refine ACall.of hN1 ?_ | refine APCall.of hN1 ?_ | refine ACall.of hE ?_ | refine APCall.of hE ?_ | refine Chk.mk ⟨rfl, by omega, by simp [room]; omega⟩ ?_ | fail)
    all_goals (conv => whnf)
    all_goals first | (exfalso; omega) | skip
    refine ⟨⟨i3 + 1, v3 + 1, n3 + 1, r3 ++ [(entM wCost (i3 : Nat) ((oneP .int) z)).d]⟩, Wm.end sam rfl rfl rfl, ⟨hlt, ?_, ?_⟩, by show x.p.costs.length - (i3 + 1) < x.p.costs.length - i3; omega⟩
    · show n3 + 1 = (e3 ++ entsM wCost (oneP .int) (x.p.costs.take (i3 + 1))).length
      rw [entsM_next wCost (oneP .int) hz, ← List.append_assoc, hn3']; simp only [List.length_append, List.length_cons, List.length_nil] <;> omega
    · show r3 ++ _ = (e3 ++ entsM wCost (oneP .int) (x.p.costs.take (i3 + 1))).map Ent.d
      rw [entsM_next wCost (oneP .int) hz, ← List.append_assoc, hr3']; simp
  have hie : i3 = x.p.costs.length := by omega
  subst hie
  rw [List.take_length] at hn3' hr3'
  clear hlt
  obtain ⟨e4, he4⟩ : ∃ e4, e4 = e3 ++ entsM wCost (oneP .int) x.p.costs := ⟨_, rfl⟩
  rw [← he4] at hn3' hr3'
  have hl4 : e4.length < 2 + 4 * 2 ^ 24 := by
    have := hx.p.costs.1
    rw [he4, List.length_append, entsM_len]; omega
  repeat' ((conv => whnf); first | (with_reducible first | refine dT ?_ | refine dU ?_ | refine dF ?_ | refine dG ?_) | refine aT ?_ | refine aF ?_ | refine dS (fun _ => ?_) fun _ => ?_ | refine aW ?_ | refine aC ?_ | refine aL ?_ | refine Prep.skip ?_ | refine Eith.l ?_ | refine aD ?_ | refine aB (fun _ => ?_) fun _ => ?_ | refine Nam.mk (List.length_map _) ?_ | fail)
  all_goals (conv => whnf)
  all_goals first | (exfalso; omega) | skip
  refine ALoop.only [(16, .d (I 0)), (9, .sref 1 v3 0 n3 false), (0, .d x.p.d), (1, .d (SL 3 (x.c.map Rat.cells))), (2, .d (SL 4 (x.v.map Ver.d))), (3, .d (SL 4 (x.a.map Ans.d))), (4, .ptr 0 0 0 0)] (by repeat (first | exact trivial | refine And.intro rfl ?_)) ?_
  refine ALoop.at (E := envOf Tryd.prog tt Tryd.f13.ntmps) (envOf_ok ttok mixed) (X := XR) (fun q => [(16, .d (I q.i)), (9, .sref 1 q.v 0 q.n false)]) (fun q => [(1, .row q.v 2 false q.rs)])
    (fun q => q.i ≤ x.p.jobs.length ∧ q.n = (e4 ++ entsM wJob Jo.parts (x.p.jobs.take q.i)).length ∧ q.rs = (e4 ++ entsM wJob Jo.parts (x.p.jobs.take q.i)).map Ent.d) (fun q => x.p.jobs.length - q.i) ⟨0, v3, n3, r3⟩ sam rfl ⟨Nat.zero_le _, by rw [List.take_zero, entsM_nil, List.append_nil]; exact hn3', by rw [List.take_zero, entsM_nil, List.append_nil]; exact hr3'⟩ ?_
  rintro ⟨i4, v4, n4, r4⟩ ⟨hi4, hn4', hr4'⟩
  dsimp only at hi4 hn4' hr4'
  dsimp only
  have hrl4 : r4.length = n4 := by rw [hr4', hn4', List.length_map]
  by_cases hlt : i4 < x.p.jobs.length
  · obtain ⟨z, hz, _⟩ := drop_get hlt
    have hzm : z ∈ x.p.jobs := List.mem_of_getElem? hz
    have hzp : okP (Jo.parts z) := hx.p.jobs.2 z hzm
    have hm := hx.p.jobs.1
    have hz1 : okI z.a := hzp.ok (.int z.a) (by simp [Jo.parts])
    have hz2 : okI z.b := hzp.ok (.int z.b) (by simp [Jo.parts])
    have hz3 : okI z.c := hzp.ok (.int z.c) (by simp [Jo.parts])
    have hz4 : okI z.s := hzp.ok (.int z.s) (by simp [Jo.parts])
    have hz5 : okI z.e := hzp.ok (.int z.e) (by simp [Jo.parts])
    have hz6 : okI z.f := hzp.ok (.int z.f) (by simp [Jo.parts])
    have hN1 := ref42_numbers [z.a, z.b, z.c, z.s, z.e, z.f] true (by simp) (by intro n hn; simp only [List.mem_cons, List.not_mem_nil, or_false] at hn; rcases hn with rfl | rfl | rfl | rfl | rfl | rfl <;> assumption)
    have hE := ref42_entry wJob (by decide) ((i4 : Nat) : Int) ⟨by omega, by omega⟩ (txt (Jo.parts z)) (outT [] (wordsI [z.a, z.b, z.c, z.s, z.e, z.f])) rfl
    have hnb : n4 < 2 ^ 28 := by rw [hn4', List.length_append, entsM_len, List.length_take]; omega
    repeat' ((conv => whnf); first | refine cA ?_ | refine nA ?_ | refine cB ?_ | refine nB ?_ | refine aL ?_ | (with_reducible first | refine dT ?_ | refine dU ?_ | refine dF ?_ | refine dG ?_) | refine aT ?_ | refine aF ?_ | refine dS (fun _ => ?_) fun _ => ?_ | refine aW ?_ | refine aC ?_ | refine aL ?_ | refine Prep.skip ?_ | refine Eith.l ?_ | refine aD ?_ | refine aB (fun _ => ?_) fun _ => ?_ | refine nthK_mk (map_get (f := Jo.d) hz) ?_ | refine ACall.of hN1 ?_ | refine APCall.of hN1 ?_ | refine ACall.of hE ?_ | refine APCall.of hE ?_ | refine Chk.mk ⟨rfl, by omega, by simp [room]; omega⟩ ?_ | fail)
    all_goals (conv => whnf)
    all_goals first | (exfalso; omega) | skip
    refine ⟨⟨i4 + 1, v4 + 1, n4 + 1, r4 ++ [(entM wJob (i4 : Nat) (Jo.parts z)).d]⟩, Wm.end sam rfl rfl rfl, ⟨hlt, ?_, ?_⟩, by show x.p.jobs.length - (i4 + 1) < x.p.jobs.length - i4; omega⟩
    · show n4 + 1 = (e4 ++ entsM wJob Jo.parts (x.p.jobs.take (i4 + 1))).length
      rw [entsM_next wJob Jo.parts hz, ← List.append_assoc, hn4']; simp only [List.length_append, List.length_cons, List.length_nil] <;> omega
    · show r4 ++ _ = (e4 ++ entsM wJob Jo.parts (x.p.jobs.take (i4 + 1))).map Ent.d
      rw [entsM_next wJob Jo.parts hz, ← List.append_assoc, hr4']; simp
  have hie : i4 = x.p.jobs.length := by omega
  subst hie
  rw [List.take_length] at hn4' hr4'
  clear hlt
  obtain ⟨e5, he5⟩ : ∃ e5, e5 = e4 ++ entsM wJob Jo.parts x.p.jobs := ⟨_, rfl⟩
  rw [← he5] at hn4' hr4'
  have hl5 : e5.length < 2 + 5 * 2 ^ 24 := by
    have := hx.p.jobs.1
    rw [he5, List.length_append, entsM_len]; omega
  repeat' ((conv => whnf); first | (with_reducible first | refine dT ?_ | refine dU ?_ | refine dF ?_ | refine dG ?_) | refine aT ?_ | refine aF ?_ | refine dS (fun _ => ?_) fun _ => ?_ | refine aW ?_ | refine aC ?_ | refine aL ?_ | refine Prep.skip ?_ | refine Eith.l ?_ | refine aD ?_ | refine aB (fun _ => ?_) fun _ => ?_ | refine Nam.mk (List.length_map _) ?_ | fail)
  all_goals (conv => whnf)
  all_goals first | (exfalso; omega) | skip
  refine ALoop.only [(18, .d (I 0)), (9, .sref 1 v4 0 n4 false), (0, .d x.p.d), (1, .d (SL 3 (x.c.map Rat.cells))), (2, .d (SL 4 (x.v.map Ver.d))), (3, .d (SL 4 (x.a.map Ans.d))), (4, .ptr 0 0 0 0)] (by repeat (first | exact trivial | refine And.intro rfl ?_)) ?_
  refine ALoop.at (E := envOf Tryd.prog tt Tryd.f13.ntmps) (envOf_ok ttok mixed) (X := XR) (fun q => [(18, .d (I q.i)), (9, .sref 1 q.v 0 q.n false)]) (fun q => [(1, .row q.v 2 false q.rs)])
    (fun q => q.i ≤ x.p.pegs.length ∧ q.n = (e5 ++ entsM wPeg Pe.parts (x.p.pegs.take q.i)).length ∧ q.rs = (e5 ++ entsM wPeg Pe.parts (x.p.pegs.take q.i)).map Ent.d) (fun q => x.p.pegs.length - q.i) ⟨0, v4, n4, r4⟩ sam rfl ⟨Nat.zero_le _, by rw [List.take_zero, entsM_nil, List.append_nil]; exact hn4', by rw [List.take_zero, entsM_nil, List.append_nil]; exact hr4'⟩ ?_
  rintro ⟨i5, v5, n5, r5⟩ ⟨hi5, hn5', hr5'⟩
  dsimp only at hi5 hn5' hr5'
  dsimp only
  have hrl5 : r5.length = n5 := by rw [hr5', hn5', List.length_map]
  by_cases hlt : i5 < x.p.pegs.length
  · obtain ⟨z, hz, _⟩ := drop_get hlt
    have hzm : z ∈ x.p.pegs := List.mem_of_getElem? hz
    have hzp : okP (Pe.parts z) := hx.p.pegs.2 z hzm
    have hm := hx.p.pegs.1
    have hz1 : okI z.kind := hzp.ok (.int z.kind) (by simp [Pe.parts])
    have hz2 : okI z.no := hzp.ok (.int z.no) (by simp [Pe.parts])
    have hz3 : okI z.need := hzp.ok (.int z.need) (by simp [Pe.parts])
    obtain ⟨hr1, hr2⟩ := (show (Part.ratio z.amt).ok from hzp.ok _ (by simp [Pe.parts]))
    have hN1 := ref42_numbers [z.kind, z.no, z.need] true (by simp) (by intro n hn; simp only [List.mem_cons, List.not_mem_nil, or_false] at hn; rcases hn with rfl | rfl | rfl <;> assumption)
    have hR := ref42_Ratio z.amt hr1 hr2
    have hzt := hzp.txt
    rw [show txt (Pe.parts z) = outT [] (wordsI [z.kind, z.no, z.need]) ++ [32] ++ ratM z.amt from (tx_peg z)] at hzt
    simp only [List.length_append, List.length_cons, List.length_nil] at hzt
    have hE := ref42_entry wPeg (by decide) ((i5 : Nat) : Int) ⟨by omega, by omega⟩ (txt (Pe.parts z)) (outT [] (wordsI [z.kind, z.no, z.need]) ++ [32] ++ ratM z.amt) (tx_peg z).symm
    have hnb : n5 < 2 ^ 28 := by rw [hn5', List.length_append, entsM_len, List.length_take]; omega
    repeat' ((conv => whnf); first | refine cA ?_ | refine nA ?_ | refine cB ?_ | refine nB ?_ | refine aL ?_ | (with_reducible first | refine dT ?_ | refine dU ?_ | refine dF ?_ | refine dG ?_) | refine aT ?_ | refine aF ?_ | refine dS (fun _ => ?_) fun _ => ?_ | refine aW ?_ | refine aC ?_ | refine aL ?_ | refine Prep.skip ?_ | refine Eith.l ?_ | refine aD ?_ | refine aB (fun _ => ?_) fun _ => ?_ | refine nthK_mk (map_get (f := Pe.d) hz) ?_ | refine ACall.of hN1 ?_ | refine APCall.of hN1 ?_ | refine ACall.of hR ?_ | refine APCall.of hR ?_ | refine ACall.of hE ?_ | refine APCall.of hE ?_ | refine Chk.mk ⟨rfl, by omega, by simp [room]; omega⟩ ?_ | fail)
    all_goals (conv => whnf)
    all_goals first | (exfalso; omega) | skip
    refine ⟨⟨i5 + 1, v5 + 1, n5 + 1, r5 ++ [(entM wPeg (i5 : Nat) (Pe.parts z)).d]⟩, Wm.end sam rfl rfl rfl, ⟨hlt, ?_, ?_⟩, by show x.p.pegs.length - (i5 + 1) < x.p.pegs.length - i5; omega⟩
    · show n5 + 1 = (e5 ++ entsM wPeg Pe.parts (x.p.pegs.take (i5 + 1))).length
      rw [entsM_next wPeg Pe.parts hz, ← List.append_assoc, hn5']; simp only [List.length_append, List.length_cons, List.length_nil] <;> omega
    · show r5 ++ _ = (e5 ++ entsM wPeg Pe.parts (x.p.pegs.take (i5 + 1))).map Ent.d
      rw [entsM_next wPeg Pe.parts hz, ← List.append_assoc, hr5']; simp
  have hie : i5 = x.p.pegs.length := by omega
  subst hie
  rw [List.take_length] at hn5' hr5'
  clear hlt
  obtain ⟨e6, he6⟩ : ∃ e6, e6 = e5 ++ entsM wPeg Pe.parts x.p.pegs := ⟨_, rfl⟩
  rw [← he6] at hn5' hr5'
  have hl6 : e6.length < 2 + 6 * 2 ^ 24 := by
    have := hx.p.pegs.1
    rw [he6, List.length_append, entsM_len]; omega
  repeat' ((conv => whnf); first | (with_reducible first | refine dT ?_ | refine dU ?_ | refine dF ?_ | refine dG ?_) | refine aT ?_ | refine aF ?_ | refine dS (fun _ => ?_) fun _ => ?_ | refine aW ?_ | refine aC ?_ | refine aL ?_ | refine Prep.skip ?_ | refine Eith.l ?_ | refine aD ?_ | refine aB (fun _ => ?_) fun _ => ?_ | refine Nam.mk (List.length_map _) ?_ | fail)
  all_goals (conv => whnf)
  all_goals first | (exfalso; omega) | skip
  refine ALoop.only [(20, .d (I 0)), (9, .sref 1 v5 0 n5 false), (0, .d x.p.d), (1, .d (SL 3 (x.c.map Rat.cells))), (2, .d (SL 4 (x.v.map Ver.d))), (3, .d (SL 4 (x.a.map Ans.d))), (4, .ptr 0 0 0 0)] (by repeat (first | exact trivial | refine And.intro rfl ?_)) ?_
  refine ALoop.at (E := envOf Tryd.prog tt Tryd.f13.ntmps) (envOf_ok ttok mixed) (X := XR) (fun q => [(20, .d (I q.i)), (9, .sref 1 q.v 0 q.n false)]) (fun q => [(1, .row q.v 2 false q.rs)])
    (fun q => q.i ≤ x.p.late.length ∧ q.n = (e6 ++ entsM wLate (oneP .int) (x.p.late.take q.i)).length ∧ q.rs = (e6 ++ entsM wLate (oneP .int) (x.p.late.take q.i)).map Ent.d) (fun q => x.p.late.length - q.i) ⟨0, v5, n5, r5⟩ sam rfl ⟨Nat.zero_le _, by rw [List.take_zero, entsM_nil, List.append_nil]; exact hn5', by rw [List.take_zero, entsM_nil, List.append_nil]; exact hr5'⟩ ?_
  rintro ⟨i6, v6, n6, r6⟩ ⟨hi6, hn6', hr6'⟩
  dsimp only at hi6 hn6' hr6'
  dsimp only
  have hrl6 : r6.length = n6 := by rw [hr6', hn6', List.length_map]
  by_cases hlt : i6 < x.p.late.length
  · obtain ⟨z, hz, _⟩ := drop_get hlt
    have hzm : z ∈ x.p.late := List.mem_of_getElem? hz
    have hzp : okP ((oneP .int) z) := hx.p.late.2 z hzm
    have hm := hx.p.late.1
    have hz1 : okI z := hzp.ok (.int z) (List.mem_singleton.2 rfl)
    have hN1 := ref42_Number z hz1
    have hE := ref42_entry wLate (by decide) ((i6 : Nat) : Int) ⟨by omega, by omega⟩ (txt ((oneP .int) z)) (itoa z) rfl
    have hnb : n6 < 2 ^ 28 := by rw [hn6', List.length_append, entsM_len, List.length_take]; omega
    repeat' ((conv => whnf); first | refine cA ?_ | refine nA ?_ | refine cB ?_ | refine nB ?_ | refine aL ?_ | (with_reducible first | refine dT ?_ | refine dU ?_ | refine dF ?_ | refine dG ?_) | refine aT ?_ | refine aF ?_ | refine dS (fun _ => ?_) fun _ => ?_ | refine aW ?_ | refine aC ?_ | refine aL ?_ | refine Prep.skip ?_ | refine Eith.l ?_ | refine aD ?_ | refine aB (fun _ => ?_) fun _ => ?_ | refine nthK_mk (map_get (f := I) hz) ?_ | refine ACall.of hN1 ?_ | refine APCall.of hN1 ?_ | refine ACall.of hE ?_ | refine APCall.of hE ?_ | refine Chk.mk ⟨rfl, by omega, by simp [room]; omega⟩ ?_ | fail)
    all_goals (conv => whnf)
    all_goals first | (exfalso; omega) | skip
    refine ⟨⟨i6 + 1, v6 + 1, n6 + 1, r6 ++ [(entM wLate (i6 : Nat) ((oneP .int) z)).d]⟩, Wm.end sam rfl rfl rfl, ⟨hlt, ?_, ?_⟩, by show x.p.late.length - (i6 + 1) < x.p.late.length - i6; omega⟩
    · show n6 + 1 = (e6 ++ entsM wLate (oneP .int) (x.p.late.take (i6 + 1))).length
      rw [entsM_next wLate (oneP .int) hz, ← List.append_assoc, hn6']; simp only [List.length_append, List.length_cons, List.length_nil] <;> omega
    · show r6 ++ _ = (e6 ++ entsM wLate (oneP .int) (x.p.late.take (i6 + 1))).map Ent.d
      rw [entsM_next wLate (oneP .int) hz, ← List.append_assoc, hr6']; simp
  have hie : i6 = x.p.late.length := by omega
  subst hie
  rw [List.take_length] at hn6' hr6'
  clear hlt
  obtain ⟨e7, he7⟩ : ∃ e7, e7 = e6 ++ entsM wLate (oneP .int) x.p.late := ⟨_, rfl⟩
  rw [← he7] at hn6' hr6'
  have hl7 : e7.length < 2 + 7 * 2 ^ 24 := by
    have := hx.p.late.1
    rw [he7, List.length_append, entsM_len]; omega
  repeat' ((conv => whnf); first | (with_reducible first | refine dT ?_ | refine dU ?_ | refine dF ?_ | refine dG ?_) | refine aT ?_ | refine aF ?_ | refine dS (fun _ => ?_) fun _ => ?_ | refine aW ?_ | refine aC ?_ | refine aL ?_ | refine Prep.skip ?_ | refine Eith.l ?_ | refine aD ?_ | refine aB (fun _ => ?_) fun _ => ?_ | refine Nam.mk (List.length_map _) ?_ | fail)
  all_goals (conv => whnf)
  all_goals first | (exfalso; omega) | skip
  refine ALoop.only [(21, .d (I 0)), (9, .sref 1 v6 0 n6 false), (0, .d x.p.d), (1, .d (SL 3 (x.c.map Rat.cells))), (2, .d (SL 4 (x.v.map Ver.d))), (3, .d (SL 4 (x.a.map Ans.d))), (4, .ptr 0 0 0 0)] (by repeat (first | exact trivial | refine And.intro rfl ?_)) ?_
  refine ALoop.at (E := envOf Tryd.prog tt Tryd.f13.ntmps) (envOf_ok ttok mixed) (X := XR) (fun q => [(21, .d (I q.i)), (9, .sref 1 q.v 0 q.n false)]) (fun q => [(1, .row q.v 2 false q.rs)])
    (fun q => q.i ≤ x.c.length ∧ q.n = (e7 ++ entsM wPrice (oneP .ratio) (x.c.take q.i)).length ∧ q.rs = (e7 ++ entsM wPrice (oneP .ratio) (x.c.take q.i)).map Ent.d) (fun q => x.c.length - q.i) ⟨0, v6, n6, r6⟩ sam rfl ⟨Nat.zero_le _, by rw [List.take_zero, entsM_nil, List.append_nil]; exact hn6', by rw [List.take_zero, entsM_nil, List.append_nil]; exact hr6'⟩ ?_
  rintro ⟨i7, v7, n7, r7⟩ ⟨hi7, hn7', hr7'⟩
  dsimp only at hi7 hn7' hr7'
  dsimp only
  have hrl7 : r7.length = n7 := by rw [hr7', hn7', List.length_map]
  by_cases hlt : i7 < x.c.length
  · obtain ⟨z, hz, _⟩ := drop_get hlt
    have hzm : z ∈ x.c := List.mem_of_getElem? hz
    have hzp : okP ((oneP .ratio) z) := hx.c.2 z hzm
    have hm := hx.c.1
    obtain ⟨hr1, hr2⟩ := (show (Part.ratio z).ok from hzp.ok _ (List.mem_singleton.2 rfl))
    have hN1 := ref42_Ratio z hr1 hr2
    have hE := ref42_entry wPrice (by decide) ((i7 : Nat) : Int) ⟨by omega, by omega⟩ (txt ((oneP .ratio) z)) (ratM z) rfl
    have hnb : n7 < 2 ^ 28 := by rw [hn7', List.length_append, entsM_len, List.length_take]; omega
    repeat' ((conv => whnf); first | refine cA ?_ | refine nA ?_ | refine cB ?_ | refine nB ?_ | refine aL ?_ | (with_reducible first | refine dT ?_ | refine dU ?_ | refine dF ?_ | refine dG ?_) | refine aT ?_ | refine aF ?_ | refine dS (fun _ => ?_) fun _ => ?_ | refine aW ?_ | refine aC ?_ | refine aL ?_ | refine Prep.skip ?_ | refine Eith.l ?_ | refine aD ?_ | refine aB (fun _ => ?_) fun _ => ?_ | refine nthK_mk (map_get (f := Rat.cells) hz) ?_ | refine ACall.of hN1 ?_ | refine APCall.of hN1 ?_ | refine ACall.of hE ?_ | refine APCall.of hE ?_ | refine Chk.mk ⟨rfl, by omega, by simp [room]; omega⟩ ?_ | fail)
    all_goals (conv => whnf)
    all_goals first | (exfalso; omega) | skip
    refine ⟨⟨i7 + 1, v7 + 1, n7 + 1, r7 ++ [(entM wPrice (i7 : Nat) ((oneP .ratio) z)).d]⟩, Wm.end sam rfl rfl rfl, ⟨hlt, ?_, ?_⟩, by show x.c.length - (i7 + 1) < x.c.length - i7; omega⟩
    · show n7 + 1 = (e7 ++ entsM wPrice (oneP .ratio) (x.c.take (i7 + 1))).length
      rw [entsM_next wPrice (oneP .ratio) hz, ← List.append_assoc, hn7']; simp only [List.length_append, List.length_cons, List.length_nil] <;> omega
    · show r7 ++ _ = (e7 ++ entsM wPrice (oneP .ratio) (x.c.take (i7 + 1))).map Ent.d
      rw [entsM_next wPrice (oneP .ratio) hz, ← List.append_assoc, hr7']; simp
  have hie : i7 = x.c.length := by omega
  subst hie
  rw [List.take_length] at hn7' hr7'
  clear hlt
  obtain ⟨e8, he8⟩ : ∃ e8, e8 = e7 ++ entsM wPrice (oneP .ratio) x.c := ⟨_, rfl⟩
  rw [← he8] at hn7' hr7'
  have hl8 : e8.length < 2 + 8 * 2 ^ 24 := by
    have := hx.c.1
    rw [he8, List.length_append, entsM_len]; omega
  repeat' ((conv => whnf); first | (with_reducible first | refine dT ?_ | refine dU ?_ | refine dF ?_ | refine dG ?_) | refine aT ?_ | refine aF ?_ | refine dS (fun _ => ?_) fun _ => ?_ | refine aW ?_ | refine aC ?_ | refine aL ?_ | refine Prep.skip ?_ | refine Eith.l ?_ | refine aD ?_ | refine aB (fun _ => ?_) fun _ => ?_ | refine Nam.mk (List.length_map _) ?_ | fail)
  all_goals (conv => whnf)
  all_goals first | (exfalso; omega) | skip
  refine ALoop.only [(22, .d (I 0)), (9, .sref 1 v7 0 n7 false), (0, .d x.p.d), (1, .d (SL 3 (x.c.map Rat.cells))), (2, .d (SL 4 (x.v.map Ver.d))), (3, .d (SL 4 (x.a.map Ans.d))), (4, .ptr 0 0 0 0)] (by repeat (first | exact trivial | refine And.intro rfl ?_)) ?_
  refine ALoop.at (E := envOf Tryd.prog tt Tryd.f13.ntmps) (envOf_ok ttok mixed) (X := XR) (fun q => [(22, .d (I q.i)), (9, .sref 1 q.v 0 q.n false)]) (fun q => [(1, .row q.v 2 false q.rs)])
    (fun q => q.i ≤ x.v.length ∧ q.n = (e8 ++ entsM wVerdict Ver.parts (x.v.take q.i)).length ∧ q.rs = (e8 ++ entsM wVerdict Ver.parts (x.v.take q.i)).map Ent.d) (fun q => x.v.length - q.i) ⟨0, v7, n7, r7⟩ sam rfl ⟨Nat.zero_le _, by rw [List.take_zero, entsM_nil, List.append_nil]; exact hn7', by rw [List.take_zero, entsM_nil, List.append_nil]; exact hr7'⟩ ?_
  rintro ⟨i8, v8, n8, r8⟩ ⟨hi8, hn8', hr8'⟩
  dsimp only at hi8 hn8' hr8'
  dsimp only
  have hrl8 : r8.length = n8 := by rw [hr8', hn8', List.length_map]
  by_cases hlt : i8 < x.v.length
  · obtain ⟨z, hz, _⟩ := drop_get hlt
    have hzm : z ∈ x.v := List.mem_of_getElem? hz
    have hzp : okP (Ver.parts z) := hx.v.2 z hzm
    have hm := hx.v.1
    have hN1 := ref42_verdict z (hV z hzm)
    have hE := ref42_entry wVerdict (by decide) ((i8 : Nat) : Int) ⟨by omega, by omega⟩ (txt (Ver.parts z)) (txt z.parts) rfl
    have hnb : n8 < 2 ^ 28 := by rw [hn8', List.length_append, entsM_len, List.length_take]; omega
    repeat' ((conv => whnf); first | refine cA ?_ | refine nA ?_ | refine cB ?_ | refine nB ?_ | refine aL ?_ | (with_reducible first | refine dT ?_ | refine dU ?_ | refine dF ?_ | refine dG ?_) | refine aT ?_ | refine aF ?_ | refine dS (fun _ => ?_) fun _ => ?_ | refine aW ?_ | refine aC ?_ | refine aL ?_ | refine Prep.skip ?_ | refine Eith.l ?_ | refine aD ?_ | refine aB (fun _ => ?_) fun _ => ?_ | refine nthK_mk (map_get (f := Ver.d) hz) ?_ | refine ACall.of hN1 ?_ | refine APCall.of hN1 ?_ | refine ACall.of hE ?_ | refine APCall.of hE ?_ | refine Chk.mk ⟨rfl, by omega, by simp [room]; omega⟩ ?_ | fail)
    all_goals (conv => whnf)
    all_goals first | (exfalso; omega) | skip
    refine ⟨⟨i8 + 1, v8 + 1, n8 + 1, r8 ++ [(entM wVerdict (i8 : Nat) (Ver.parts z)).d]⟩, Wm.end sam rfl rfl rfl, ⟨hlt, ?_, ?_⟩, by show x.v.length - (i8 + 1) < x.v.length - i8; omega⟩
    · show n8 + 1 = (e8 ++ entsM wVerdict Ver.parts (x.v.take (i8 + 1))).length
      rw [entsM_next wVerdict Ver.parts hz, ← List.append_assoc, hn8']; simp only [List.length_append, List.length_cons, List.length_nil] <;> omega
    · show r8 ++ _ = (e8 ++ entsM wVerdict Ver.parts (x.v.take (i8 + 1))).map Ent.d
      rw [entsM_next wVerdict Ver.parts hz, ← List.append_assoc, hr8']; simp
  have hie : i8 = x.v.length := by omega
  subst hie
  rw [List.take_length] at hn8' hr8'
  clear hlt
  obtain ⟨e9, he9⟩ : ∃ e9, e9 = e8 ++ entsM wVerdict Ver.parts x.v := ⟨_, rfl⟩
  rw [← he9] at hn8' hr8'
  have hl9 : e9.length < 2 + 9 * 2 ^ 24 := by
    have := hx.v.1
    rw [he9, List.length_append, entsM_len]; omega
  repeat' ((conv => whnf); first | (with_reducible first | refine dT ?_ | refine dU ?_ | refine dF ?_ | refine dG ?_) | refine aT ?_ | refine aF ?_ | refine dS (fun _ => ?_) fun _ => ?_ | refine aW ?_ | refine aC ?_ | refine aL ?_ | refine Prep.skip ?_ | refine Eith.l ?_ | refine aD ?_ | refine aB (fun _ => ?_) fun _ => ?_ | refine Nam.mk (List.length_map _) ?_ | fail)
  all_goals (conv => whnf)
  all_goals first | (exfalso; omega) | skip
  refine ALoop.only [(23, .d (I 0)), (9, .sref 1 v8 0 n8 false), (0, .d x.p.d), (1, .d (SL 3 (x.c.map Rat.cells))), (2, .d (SL 4 (x.v.map Ver.d))), (3, .d (SL 4 (x.a.map Ans.d))), (4, .ptr 0 0 0 0)] (by repeat (first | exact trivial | refine And.intro rfl ?_)) ?_
  refine ALoop.at (E := envOf Tryd.prog tt Tryd.f13.ntmps) (envOf_ok ttok mixed) (X := XR) (fun q => [(23, .d (I q.i)), (9, .sref 1 q.v 0 q.n false)]) (fun q => [(1, .row q.v 2 false q.rs)])
    (fun q => q.i ≤ x.a.length ∧ q.n = (e9 ++ entsM wAnswer Ans.parts (x.a.take q.i)).length ∧ q.rs = (e9 ++ entsM wAnswer Ans.parts (x.a.take q.i)).map Ent.d) (fun q => x.a.length - q.i) ⟨0, v8, n8, r8⟩ sam rfl ⟨Nat.zero_le _, by rw [List.take_zero, entsM_nil, List.append_nil]; exact hn8', by rw [List.take_zero, entsM_nil, List.append_nil]; exact hr8'⟩ ?_
  rintro ⟨i9, v9, n9, r9⟩ ⟨hi9, hn9', hr9'⟩
  dsimp only at hi9 hn9' hr9'
  dsimp only
  have hrl9 : r9.length = n9 := by rw [hr9', hn9', List.length_map]
  by_cases hlt : i9 < x.a.length
  · obtain ⟨z, hz, _⟩ := drop_get hlt
    have hzm : z ∈ x.a := List.mem_of_getElem? hz
    have hzp : okP (Ans.parts z) := hx.a.2 z hzm
    have hm := hx.a.1
    have hN1 := ref42_answer z (hA z hzm)
    have hE := ref42_entry wAnswer (by decide) ((i9 : Nat) : Int) ⟨by omega, by omega⟩ (txt (Ans.parts z)) (txt z.parts) rfl
    have hnb : n9 < 2 ^ 28 := by rw [hn9', List.length_append, entsM_len, List.length_take]; omega
    repeat' ((conv => whnf); first | refine cA ?_ | refine nA ?_ | refine cB ?_ | refine nB ?_ | refine aL ?_ | (with_reducible first | refine dT ?_ | refine dU ?_ | refine dF ?_ | refine dG ?_) | refine aT ?_ | refine aF ?_ | refine dS (fun _ => ?_) fun _ => ?_ | refine aW ?_ | refine aC ?_ | refine aL ?_ | refine Prep.skip ?_ | refine Eith.l ?_ | refine aD ?_ | refine aB (fun _ => ?_) fun _ => ?_ | refine nthK_mk (map_get (f := Ans.d) hz) ?_ | refine ACall.of hN1 ?_ | refine APCall.of hN1 ?_ | refine ACall.of hE ?_ | refine APCall.of hE ?_ | refine Chk.mk ⟨rfl, by omega, by simp [room]; omega⟩ ?_ | fail)
    all_goals (conv => whnf)
    all_goals first | (exfalso; omega) | skip
    refine ⟨⟨i9 + 1, v9 + 1, n9 + 1, r9 ++ [(entM wAnswer (i9 : Nat) (Ans.parts z)).d]⟩, Wm.end sam rfl rfl rfl, ⟨hlt, ?_, ?_⟩, by show x.a.length - (i9 + 1) < x.a.length - i9; omega⟩
    · show n9 + 1 = (e9 ++ entsM wAnswer Ans.parts (x.a.take (i9 + 1))).length
      rw [entsM_next wAnswer Ans.parts hz, ← List.append_assoc, hn9']; simp only [List.length_append, List.length_cons, List.length_nil] <;> omega
    · show r9 ++ _ = (e9 ++ entsM wAnswer Ans.parts (x.a.take (i9 + 1))).map Ent.d
      rw [entsM_next wAnswer Ans.parts hz, ← List.append_assoc, hr9']; simp
  have hie : i9 = x.a.length := by omega
  subst hie
  rw [List.take_length] at hn9' hr9'
  clear hlt
  obtain ⟨e10, he10⟩ : ∃ e10, e10 = e9 ++ entsM wAnswer Ans.parts x.a := ⟨_, rfl⟩
  rw [← he10] at hn9' hr9'
  have hl10 : e10.length < 2 + 10 * 2 ^ 24 := by
    have := hx.a.1
    rw [he10, List.length_append, entsM_len]; omega
  repeat' ((conv => whnf); first | (with_reducible first | refine dT ?_ | refine dU ?_ | refine dF ?_ | refine dG ?_) | refine aT ?_ | refine aF ?_ | refine dS (fun _ => ?_) fun _ => ?_ | refine aW ?_ | refine aC ?_ | refine aL ?_ | refine Prep.skip ?_ | refine Eith.l ?_ | refine aD ?_ | refine aB (fun _ => ?_) fun _ => ?_ | refine Nam.mk (List.length_map _) ?_ | fail)
  all_goals (conv => whnf)
  all_goals first | (exfalso; omega) | skip
  have z0 : entsM wLine (oneP Lin.part) x.p.lines = [] := by rw [List.eq_nil_of_length_eq_zero h0]; rfl
  have z1 : entsM wNeed Nee.parts x.p.needs = [] := by rw [List.eq_nil_of_length_eq_zero h1]; rfl
  have z2 : entsM wLot Lo.parts x.p.lots = [] := by rw [List.eq_nil_of_length_eq_zero h2]; rfl
  have he : e10 = reportM x := by rw [he10, he9, he8, he7, he6, he5, he4, he3]; unfold reportM planM; simp only [List.append_assoc, List.nil_append, z0, z1, z2]
  subst hn9'; subst hr9'; subst he
  have hO := ref42_ordered (reportM x) (by omega)
  repeat' ((conv => whnf); first | refine Nam.mk (y := (reportM x).map Ent.d) (whole (List.length_map _).symm) ?_ | refine Nam.mk (y := (reportM x).map Ent.d) (whole (List.length_map _)) ?_ | (with_reducible first | refine dT ?_ | refine dU ?_ | refine dF ?_ | refine dG ?_) | refine aT ?_ | refine aF ?_ | refine dS (fun _ => ?_) fun _ => ?_ | refine aW ?_ | refine aC ?_ | refine aL ?_ | refine Prep.skip ?_ | refine Eith.l ?_ | refine aD ?_ | refine aB (fun _ => ?_) fun _ => ?_ | refine ACall.of hO ?_ | refine ACall.lift ?_ | fail)
  all_goals (conv => whnf)
  exact DLe.refl _
theorem ref42_Report4 (x : Rep) (hx : x.ok) (hd : dE (reportM x)) (hV : ∀ y ∈ x.v, y.okR) (hA : ∀ y ∈ x.a, y.okR) (h0 : x.p.lines.length = 0) (h1 : x.p.needs.length = 0) (h2 : x.p.lots.length = 0) (h3 : x.p.costs.length = 0) (hlt : 0 < x.p.jobs.length) : CallP Tryd.prog 13 [.d x.p.d, .d (SL 3 (x.c.map Rat.cells)), .d (SL 4 (x.v.map Ver.d)), .d (SL 4 (x.a.map Ans.d))] (retD [SL 2 ((ordE (reportM x)).map Ent.d)]) := by
  have hN := ref42_numbers [x.p.start, x.p.days] true (by simp) (by
    intro n hn
    simp only [List.mem_cons, List.not_mem_nil, or_false] at hn
    have := hx.p.head.ok
    rcases hn with rfl | rfl
    · exact this (.int x.p.start) (by simp)
    · exact this (.int x.p.days) (by simp))
  refine exPure_sound (E := envOf Tryd.prog tt Tryd.f13.ntmps) (envOf_ok ttok mixed) Tryd.func13 (by rfl) rfl rfl (Nat.le_of_ble_eq_true rfl) ?_
  repeat' ((conv => whnf); first | (with_reducible first | refine dT ?_ | refine dU ?_ | refine dF ?_ | refine dG ?_) | refine aT ?_ | refine aF ?_ | refine dS (fun _ => ?_) fun _ => ?_ | refine aW ?_ | refine aC ?_ | refine aL ?_ | refine Prep.skip ?_ | refine Eith.l ?_ | refine aD ?_ | refine aB (fun _ => ?_) fun _ => ?_ | refine ACall.of hN ?_ | refine APCall.of hN ?_ | refine Nam.mk (List.length_map _) ?_ | fail)
  all_goals (conv => whnf)
  refine ALoop.only [(10, .d (I 0)), (9, .d (.sl 2 true [(headM x.p).d])), (0, .d x.p.d), (1, .d (SL 3 (x.c.map Rat.cells))), (2, .d (SL 4 (x.v.map Ver.d))), (3, .d (SL 4 (x.a.map Ans.d))), (4, .ptr 0 0 0 0)] (by repeat (first | exact trivial | refine And.intro rfl ?_)) ?_
  refine ALoop.rounds 1 ?_
  refine ALoopN.step (E := (envOf Tryd.prog tt Tryd.f13.ntmps)) (envOf_ok ttok mixed) ?_
  repeat' ((conv => whnf); first | (with_reducible first | refine dT ?_ | refine dU ?_ | refine dF ?_ | refine dG ?_) | refine aT ?_ | refine aF ?_ | refine dS (fun _ => ?_) fun _ => ?_ | refine aW ?_ | refine aC ?_ | refine aL ?_ | refine Prep.skip ?_ | refine Eith.l ?_ | refine aD ?_ | refine aB (fun _ => ?_) fun _ => ?_ | refine Nam.mk (List.length_map _) ?_ | fail)
  all_goals (conv => whnf)
  refine ALoop.only [(11, .d (I 0)), (9, .d (.sl 2 true [(headM x.p).d])), (0, .d x.p.d), (1, .d (SL 3 (x.c.map Rat.cells))), (2, .d (SL 4 (x.v.map Ver.d))), (3, .d (SL 4 (x.a.map Ans.d))), (4, .ptr 0 0 0 0)] (by repeat (first | exact trivial | refine And.intro rfl ?_)) ?_
  refine ALoop.rounds 1 ?_
  refine ALoopN.step (E := (envOf Tryd.prog tt Tryd.f13.ntmps)) (envOf_ok ttok mixed) ?_
  repeat' ((conv => whnf); first | (with_reducible first | refine dT ?_ | refine dU ?_ | refine dF ?_ | refine dG ?_) | refine aT ?_ | refine aF ?_ | refine dS (fun _ => ?_) fun _ => ?_ | refine aW ?_ | refine aC ?_ | refine aL ?_ | refine Prep.skip ?_ | refine Eith.l ?_ | refine aD ?_ | refine aB (fun _ => ?_) fun _ => ?_ | refine Nam.mk (List.length_map _) ?_ | fail)
  all_goals (conv => whnf)
  refine ALoop.only [(13, .d (I 0)), (9, .d (.sl 2 true [(headM x.p).d])), (0, .d x.p.d), (1, .d (SL 3 (x.c.map Rat.cells))), (2, .d (SL 4 (x.v.map Ver.d))), (3, .d (SL 4 (x.a.map Ans.d))), (4, .ptr 0 0 0 0)] (by repeat (first | exact trivial | refine And.intro rfl ?_)) ?_
  refine ALoop.rounds 1 ?_
  refine ALoopN.step (E := (envOf Tryd.prog tt Tryd.f13.ntmps)) (envOf_ok ttok mixed) ?_
  repeat' ((conv => whnf); first | (with_reducible first | refine dT ?_ | refine dU ?_ | refine dF ?_ | refine dG ?_) | refine aT ?_ | refine aF ?_ | refine dS (fun _ => ?_) fun _ => ?_ | refine aW ?_ | refine aC ?_ | refine aL ?_ | refine Prep.skip ?_ | refine Eith.l ?_ | refine aD ?_ | refine aB (fun _ => ?_) fun _ => ?_ | refine Nam.mk (List.length_map _) ?_ | fail)
  all_goals (conv => whnf)
  refine ALoop.only [(15, .d (I 0)), (9, .d (.sl 2 true [(headM x.p).d])), (0, .d x.p.d), (1, .d (SL 3 (x.c.map Rat.cells))), (2, .d (SL 4 (x.v.map Ver.d))), (3, .d (SL 4 (x.a.map Ans.d))), (4, .ptr 0 0 0 0)] (by repeat (first | exact trivial | refine And.intro rfl ?_)) ?_
  refine ALoop.rounds 1 ?_
  refine ALoopN.step (E := (envOf Tryd.prog tt Tryd.f13.ntmps)) (envOf_ok ttok mixed) ?_
  repeat' ((conv => whnf); first | (with_reducible first | refine dT ?_ | refine dU ?_ | refine dF ?_ | refine dG ?_) | refine aT ?_ | refine aF ?_ | refine dS (fun _ => ?_) fun _ => ?_ | refine aW ?_ | refine aC ?_ | refine aL ?_ | refine Prep.skip ?_ | refine Eith.l ?_ | refine aD ?_ | refine aB (fun _ => ?_) fun _ => ?_ | refine Nam.mk (List.length_map _) ?_ | fail)
  all_goals (conv => whnf)
  refine ALoop.only [(16, .d (I 0)), (9, .d (.sl 2 true [(headM x.p).d])), (0, .d x.p.d), (1, .d (SL 3 (x.c.map Rat.cells))), (2, .d (SL 4 (x.v.map Ver.d))), (3, .d (SL 4 (x.a.map Ans.d))), (4, .ptr 0 0 0 0)] (by repeat (first | exact trivial | refine And.intro rfl ?_)) ?_
  refine ALoop.peel (E := (envOf Tryd.prog tt Tryd.f13.ntmps)) (envOf_ok ttok mixed) ?_
  obtain ⟨z, hz, _⟩ := drop_get hlt
  have hzm : z ∈ x.p.jobs := List.mem_of_getElem? hz
  have hzp : okP (Jo.parts z) := hx.p.jobs.2 z hzm
  have hm := hx.p.jobs.1
  have hz1 : okI z.a := hzp.ok (.int z.a) (by simp [Jo.parts])
  have hz2 : okI z.b := hzp.ok (.int z.b) (by simp [Jo.parts])
  have hz3 : okI z.c := hzp.ok (.int z.c) (by simp [Jo.parts])
  have hz4 : okI z.s := hzp.ok (.int z.s) (by simp [Jo.parts])
  have hz5 : okI z.e := hzp.ok (.int z.e) (by simp [Jo.parts])
  have hz6 : okI z.f := hzp.ok (.int z.f) (by simp [Jo.parts])
  have hN1 := ref42_numbers [z.a, z.b, z.c, z.s, z.e, z.f] true (by simp) (by intro n hn; simp only [List.mem_cons, List.not_mem_nil, or_false] at hn; rcases hn with rfl | rfl | rfl | rfl | rfl | rfl <;> assumption)
  have hE := ref42_entry wJob (by decide) ((0 : Nat) : Int) ⟨by omega, by omega⟩ (txt (Jo.parts z)) (outT [] (wordsI [z.a, z.b, z.c, z.s, z.e, z.f])) rfl
  repeat' ((conv => whnf); first | refine cA ?_ | refine nA ?_ | refine cB ?_ | refine nB ?_ | refine aL ?_ | (with_reducible first | refine dT ?_ | refine dU ?_ | refine dF ?_ | refine dG ?_) | refine aT ?_ | refine aF ?_ | refine dS (fun _ => ?_) fun _ => ?_ | refine aW ?_ | refine aC ?_ | refine aL ?_ | refine Prep.skip ?_ | refine Eith.l ?_ | refine aD ?_ | refine aB (fun _ => ?_) fun _ => ?_ | refine nthK_mk (map_get (f := Jo.d) hz) ?_ | refine ACall.of hN1 ?_ | refine APCall.of hN1 ?_ | refine ACall.of hE ?_ | refine APCall.of hE ?_ | fail)
  all_goals (conv => whnf)
  refine ALoop.only [(16, .d (I 1)), (9, .sref 2 0 0 2 false), (0, .d x.p.d), (1, .d (SL 3 (x.c.map Rat.cells))), (2, .d (SL 4 (x.v.map Ver.d))), (3, .d (SL 4 (x.a.map Ans.d))), (4, .ptr 0 0 0 0)] (by repeat (first | exact trivial | refine And.intro rfl ?_)) ?_
  obtain ⟨e4, he4⟩ : ∃ e4, e4 = [headM x.p] := ⟨_, rfl⟩
  have hl4 : e4.length < 2 + 4 * 2 ^ 24 := by rw [he4]; simp
  refine ALoop.at (E := envOf Tryd.prog tt Tryd.f13.ntmps) (envOf_ok ttok mixed) (X := XR) (fun q => [(16, .d (I q.i)), (9, .sref 2 q.v 0 q.n false)]) (fun q => [(2, .row q.v 2 false q.rs)])
    (fun q => q.i ≤ x.p.jobs.length ∧ q.n = (e4 ++ entsM wJob Jo.parts (x.p.jobs.take q.i)).length ∧ q.rs = (e4 ++ entsM wJob Jo.parts (x.p.jobs.take q.i)).map Ent.d) (fun q => x.p.jobs.length - q.i) ⟨1, 0, 2, [(headM x.p).d, (entM wJob (0 : Nat) (Jo.parts z)).d]⟩ sam rfl ⟨hlt, by rw [List.length_append, entsM_len, List.length_take, he4]; simp; omega, by rw [entsM_next wJob Jo.parts hz, he4]; rfl⟩ ?_
  clear hE
  clear hz hzp hzm
  rintro ⟨i4, v4, n4, r4⟩ ⟨hi4, hn4', hr4'⟩
  dsimp only at hi4 hn4' hr4'
  dsimp only
  have hrl4 : r4.length = n4 := by rw [hr4', hn4', List.length_map]
  by_cases hlt : i4 < x.p.jobs.length
  · obtain ⟨z, hz, _⟩ := drop_get hlt
    have hzm : z ∈ x.p.jobs := List.mem_of_getElem? hz
    have hzp : okP (Jo.parts z) := hx.p.jobs.2 z hzm
    have hm := hx.p.jobs.1
    have hz1 : okI z.a := hzp.ok (.int z.a) (by simp [Jo.parts])
    have hz2 : okI z.b := hzp.ok (.int z.b) (by simp [Jo.parts])
    have hz3 : okI z.c := hzp.ok (.int z.c) (by simp [Jo.parts])
    have hz4 : okI z.s := hzp.ok (.int z.s) (by simp [Jo.parts])
    have hz5 : okI z.e := hzp.ok (.int z.e) (by simp [Jo.parts])
    have hz6 : okI z.f := hzp.ok (.int z.f) (by simp [Jo.parts])
    have hN1 := ref42_numbers [z.a, z.b, z.c, z.s, z.e, z.f] true (by simp) (by intro n hn; simp only [List.mem_cons, List.not_mem_nil, or_false] at hn; rcases hn with rfl | rfl | rfl | rfl | rfl | rfl <;> assumption)
    have hE := ref42_entry wJob (by decide) ((i4 : Nat) : Int) ⟨by omega, by omega⟩ (txt (Jo.parts z)) (outT [] (wordsI [z.a, z.b, z.c, z.s, z.e, z.f])) rfl
    have hnb : n4 < 2 ^ 28 := by rw [hn4', List.length_append, entsM_len, List.length_take]; omega
    repeat' ((conv => whnf); first | refine cA ?_ | refine nA ?_ | refine cB ?_ | refine nB ?_ | refine aL ?_ | (with_reducible first | refine dT ?_ | refine dU ?_ | refine dF ?_ | refine dG ?_) | refine aT ?_ | refine aF ?_ | refine dS (fun _ => ?_) fun _ => ?_ | refine aW ?_ | refine aC ?_ | refine aL ?_ | refine Prep.skip ?_ | refine Eith.l ?_ | refine aD ?_ | refine aB (fun _ => ?_) fun _ => ?_ | refine nthK_mk (map_get (f := Jo.d) hz) ?_ | refine ACall.of hN1 ?_ | refine APCall.of hN1 ?_ | refine ACall.of hE ?_ | refine APCall.of hE ?_ | refine Chk.mk ⟨rfl, by omega, by simp [room]; omega⟩ ?_ | fail)
    all_goals (conv => whnf)
    all_goals first | (exfalso; omega) | skip
    refine ⟨⟨i4 + 1, v4 + 1, n4 + 1, r4 ++ [(entM wJob (i4 : Nat) (Jo.parts z)).d]⟩, Wm.end sam rfl rfl rfl, ⟨hlt, ?_, ?_⟩, by show x.p.jobs.length - (i4 + 1) < x.p.jobs.length - i4; omega⟩
    · show n4 + 1 = (e4 ++ entsM wJob Jo.parts (x.p.jobs.take (i4 + 1))).length
      rw [entsM_next wJob Jo.parts hz, ← List.append_assoc, hn4']; simp only [List.length_append, List.length_cons, List.length_nil] <;> omega
    · show r4 ++ _ = (e4 ++ entsM wJob Jo.parts (x.p.jobs.take (i4 + 1))).map Ent.d
      rw [entsM_next wJob Jo.parts hz, ← List.append_assoc, hr4']; simp
  have hie : i4 = x.p.jobs.length := by omega
  subst hie
  rw [List.take_length] at hn4' hr4'
  clear hlt
  obtain ⟨e5, he5⟩ : ∃ e5, e5 = e4 ++ entsM wJob Jo.parts x.p.jobs := ⟨_, rfl⟩
  rw [← he5] at hn4' hr4'
  have hl5 : e5.length < 2 + 5 * 2 ^ 24 := by
    have := hx.p.jobs.1
    rw [he5, List.length_append, entsM_len]; omega
  repeat' ((conv => whnf); first | (with_reducible first | refine dT ?_ | refine dU ?_ | refine dF ?_ | refine dG ?_) | refine aT ?_ | refine aF ?_ | refine dS (fun _ => ?_) fun _ => ?_ | refine aW ?_ | refine aC ?_ | refine aL ?_ | refine Prep.skip ?_ | refine Eith.l ?_ | refine aD ?_ | refine aB (fun _ => ?_) fun _ => ?_ | refine Nam.mk (List.length_map _) ?_ | fail)
  all_goals (conv => whnf)
  all_goals first | (exfalso; omega) | skip
  refine ALoop.only [(18, .d (I 0)), (9, .sref 2 v4 0 n4 false), (0, .d x.p.d), (1, .d (SL 3 (x.c.map Rat.cells))), (2, .d (SL 4 (x.v.map Ver.d))), (3, .d (SL 4 (x.a.map Ans.d))), (4, .ptr 0 0 0 0)] (by repeat (first | exact trivial | refine And.intro rfl ?_)) ?_
  refine ALoop.at (E := envOf Tryd.prog tt Tryd.f13.ntmps) (envOf_ok ttok mixed) (X := XR) (fun q => [(18, .d (I q.i)), (9, .sref 2 q.v 0 q.n false)]) (fun q => [(2, .row q.v 2 false q.rs)])
    (fun q => q.i ≤ x.p.pegs.length ∧ q.n = (e5 ++ entsM wPeg Pe.parts (x.p.pegs.take q.i)).length ∧ q.rs = (e5 ++ entsM wPeg Pe.parts (x.p.pegs.take q.i)).map Ent.d) (fun q => x.p.pegs.length - q.i) ⟨0, v4, n4, r4⟩ sam rfl ⟨Nat.zero_le _, by rw [List.take_zero, entsM_nil, List.append_nil]; exact hn4', by rw [List.take_zero, entsM_nil, List.append_nil]; exact hr4'⟩ ?_
  rintro ⟨i5, v5, n5, r5⟩ ⟨hi5, hn5', hr5'⟩
  dsimp only at hi5 hn5' hr5'
  dsimp only
  have hrl5 : r5.length = n5 := by rw [hr5', hn5', List.length_map]
  by_cases hlt : i5 < x.p.pegs.length
  · obtain ⟨z, hz, _⟩ := drop_get hlt
    have hzm : z ∈ x.p.pegs := List.mem_of_getElem? hz
    have hzp : okP (Pe.parts z) := hx.p.pegs.2 z hzm
    have hm := hx.p.pegs.1
    have hz1 : okI z.kind := hzp.ok (.int z.kind) (by simp [Pe.parts])
    have hz2 : okI z.no := hzp.ok (.int z.no) (by simp [Pe.parts])
    have hz3 : okI z.need := hzp.ok (.int z.need) (by simp [Pe.parts])
    obtain ⟨hr1, hr2⟩ := (show (Part.ratio z.amt).ok from hzp.ok _ (by simp [Pe.parts]))
    have hN1 := ref42_numbers [z.kind, z.no, z.need] true (by simp) (by intro n hn; simp only [List.mem_cons, List.not_mem_nil, or_false] at hn; rcases hn with rfl | rfl | rfl <;> assumption)
    have hR := ref42_Ratio z.amt hr1 hr2
    have hzt := hzp.txt
    rw [show txt (Pe.parts z) = outT [] (wordsI [z.kind, z.no, z.need]) ++ [32] ++ ratM z.amt from (tx_peg z)] at hzt
    simp only [List.length_append, List.length_cons, List.length_nil] at hzt
    have hE := ref42_entry wPeg (by decide) ((i5 : Nat) : Int) ⟨by omega, by omega⟩ (txt (Pe.parts z)) (outT [] (wordsI [z.kind, z.no, z.need]) ++ [32] ++ ratM z.amt) (tx_peg z).symm
    have hnb : n5 < 2 ^ 28 := by rw [hn5', List.length_append, entsM_len, List.length_take]; omega
    repeat' ((conv => whnf); first | refine cA ?_ | refine nA ?_ | refine cB ?_ | refine nB ?_ | refine aL ?_ | (with_reducible first | refine dT ?_ | refine dU ?_ | refine dF ?_ | refine dG ?_) | refine aT ?_ | refine aF ?_ | refine dS (fun _ => ?_) fun _ => ?_ | refine aW ?_ | refine aC ?_ | refine aL ?_ | refine Prep.skip ?_ | refine Eith.l ?_ | refine aD ?_ | refine aB (fun _ => ?_) fun _ => ?_ | refine nthK_mk (map_get (f := Pe.d) hz) ?_ | refine ACall.of hN1 ?_ | refine APCall.of hN1 ?_ | refine ACall.of hR ?_ | refine APCall.of hR ?_ | refine ACall.of hE ?_ | refine APCall.of hE ?_ | refine Chk.mk ⟨rfl, by omega, by simp [room]; omega⟩ ?_ | fail)
    all_goals (conv => whnf)
    all_goals first | (exfalso; omega) | skip
    refine ⟨⟨i5 + 1, v5 + 1, n5 + 1, r5 ++ [(entM wPeg (i5 : Nat) (Pe.parts z)).d]⟩, Wm.end sam rfl rfl rfl, ⟨hlt, ?_, ?_⟩, by show x.p.pegs.length - (i5 + 1) < x.p.pegs.length - i5; omega⟩
    · show n5 + 1 = (e5 ++ entsM wPeg Pe.parts (x.p.pegs.take (i5 + 1))).length
      rw [entsM_next wPeg Pe.parts hz, ← List.append_assoc, hn5']; simp only [List.length_append, List.length_cons, List.length_nil] <;> omega
    · show r5 ++ _ = (e5 ++ entsM wPeg Pe.parts (x.p.pegs.take (i5 + 1))).map Ent.d
      rw [entsM_next wPeg Pe.parts hz, ← List.append_assoc, hr5']; simp
  have hie : i5 = x.p.pegs.length := by omega
  subst hie
  rw [List.take_length] at hn5' hr5'
  clear hlt
  obtain ⟨e6, he6⟩ : ∃ e6, e6 = e5 ++ entsM wPeg Pe.parts x.p.pegs := ⟨_, rfl⟩
  rw [← he6] at hn5' hr5'
  have hl6 : e6.length < 2 + 6 * 2 ^ 24 := by
    have := hx.p.pegs.1
    rw [he6, List.length_append, entsM_len]; omega
  repeat' ((conv => whnf); first | (with_reducible first | refine dT ?_ | refine dU ?_ | refine dF ?_ | refine dG ?_) | refine aT ?_ | refine aF ?_ | refine dS (fun _ => ?_) fun _ => ?_ | refine aW ?_ | refine aC ?_ | refine aL ?_ | refine Prep.skip ?_ | refine Eith.l ?_ | refine aD ?_ | refine aB (fun _ => ?_) fun _ => ?_ | refine Nam.mk (List.length_map _) ?_ | fail)
  all_goals (conv => whnf)
  all_goals first | (exfalso; omega) | skip
  refine ALoop.only [(20, .d (I 0)), (9, .sref 2 v5 0 n5 false), (0, .d x.p.d), (1, .d (SL 3 (x.c.map Rat.cells))), (2, .d (SL 4 (x.v.map Ver.d))), (3, .d (SL 4 (x.a.map Ans.d))), (4, .ptr 0 0 0 0)] (by repeat (first | exact trivial | refine And.intro rfl ?_)) ?_
  refine ALoop.at (E := envOf Tryd.prog tt Tryd.f13.ntmps) (envOf_ok ttok mixed) (X := XR) (fun q => [(20, .d (I q.i)), (9, .sref 2 q.v 0 q.n false)]) (fun q => [(2, .row q.v 2 false q.rs)])
    (fun q => q.i ≤ x.p.late.length ∧ q.n = (e6 ++ entsM wLate (oneP .int) (x.p.late.take q.i)).length ∧ q.rs = (e6 ++ entsM wLate (oneP .int) (x.p.late.take q.i)).map Ent.d) (fun q => x.p.late.length - q.i) ⟨0, v5, n5, r5⟩ sam rfl ⟨Nat.zero_le _, by rw [List.take_zero, entsM_nil, List.append_nil]; exact hn5', by rw [List.take_zero, entsM_nil, List.append_nil]; exact hr5'⟩ ?_
  rintro ⟨i6, v6, n6, r6⟩ ⟨hi6, hn6', hr6'⟩
  dsimp only at hi6 hn6' hr6'
  dsimp only
  have hrl6 : r6.length = n6 := by rw [hr6', hn6', List.length_map]
  by_cases hlt : i6 < x.p.late.length
  · obtain ⟨z, hz, _⟩ := drop_get hlt
    have hzm : z ∈ x.p.late := List.mem_of_getElem? hz
    have hzp : okP ((oneP .int) z) := hx.p.late.2 z hzm
    have hm := hx.p.late.1
    have hz1 : okI z := hzp.ok (.int z) (List.mem_singleton.2 rfl)
    have hN1 := ref42_Number z hz1
    have hE := ref42_entry wLate (by decide) ((i6 : Nat) : Int) ⟨by omega, by omega⟩ (txt ((oneP .int) z)) (itoa z) rfl
    have hnb : n6 < 2 ^ 28 := by rw [hn6', List.length_append, entsM_len, List.length_take]; omega
    repeat' ((conv => whnf); first | refine cA ?_ | refine nA ?_ | refine cB ?_ | refine nB ?_ | refine aL ?_ | (with_reducible first | refine dT ?_ | refine dU ?_ | refine dF ?_ | refine dG ?_) | refine aT ?_ | refine aF ?_ | refine dS (fun _ => ?_) fun _ => ?_ | refine aW ?_ | refine aC ?_ | refine aL ?_ | refine Prep.skip ?_ | refine Eith.l ?_ | refine aD ?_ | refine aB (fun _ => ?_) fun _ => ?_ | refine nthK_mk (map_get (f := I) hz) ?_ | refine ACall.of hN1 ?_ | refine APCall.of hN1 ?_ | refine ACall.of hE ?_ | refine APCall.of hE ?_ | refine Chk.mk ⟨rfl, by omega, by simp [room]; omega⟩ ?_ | fail)
    all_goals (conv => whnf)
    all_goals first | (exfalso; omega) | skip
    refine ⟨⟨i6 + 1, v6 + 1, n6 + 1, r6 ++ [(entM wLate (i6 : Nat) ((oneP .int) z)).d]⟩, Wm.end sam rfl rfl rfl, ⟨hlt, ?_, ?_⟩, by show x.p.late.length - (i6 + 1) < x.p.late.length - i6; omega⟩
    · show n6 + 1 = (e6 ++ entsM wLate (oneP .int) (x.p.late.take (i6 + 1))).length
      rw [entsM_next wLate (oneP .int) hz, ← List.append_assoc, hn6']; simp only [List.length_append, List.length_cons, List.length_nil] <;> omega
    · show r6 ++ _ = (e6 ++ entsM wLate (oneP .int) (x.p.late.take (i6 + 1))).map Ent.d
      rw [entsM_next wLate (oneP .int) hz, ← List.append_assoc, hr6']; simp
  have hie : i6 = x.p.late.length := by omega
  subst hie
  rw [List.take_length] at hn6' hr6'
  clear hlt
  obtain ⟨e7, he7⟩ : ∃ e7, e7 = e6 ++ entsM wLate (oneP .int) x.p.late := ⟨_, rfl⟩
  rw [← he7] at hn6' hr6'
  have hl7 : e7.length < 2 + 7 * 2 ^ 24 := by
    have := hx.p.late.1
    rw [he7, List.length_append, entsM_len]; omega
  repeat' ((conv => whnf); first | (with_reducible first | refine dT ?_ | refine dU ?_ | refine dF ?_ | refine dG ?_) | refine aT ?_ | refine aF ?_ | refine dS (fun _ => ?_) fun _ => ?_ | refine aW ?_ | refine aC ?_ | refine aL ?_ | refine Prep.skip ?_ | refine Eith.l ?_ | refine aD ?_ | refine aB (fun _ => ?_) fun _ => ?_ | refine Nam.mk (List.length_map _) ?_ | fail)
  all_goals (conv => whnf)
  all_goals first | (exfalso; omega) | skip
  refine ALoop.only [(21, .d (I 0)), (9, .sref 2 v6 0 n6 false), (0, .d x.p.d), (1, .d (SL 3 (x.c.map Rat.cells))), (2, .d (SL 4 (x.v.map Ver.d))), (3, .d (SL 4 (x.a.map Ans.d))), (4, .ptr 0 0 0 0)] (by repeat (first | exact trivial | refine And.intro rfl ?_)) ?_
  refine ALoop.at (E := envOf Tryd.prog tt Tryd.f13.ntmps) (envOf_ok ttok mixed) (X := XR) (fun q => [(21, .d (I q.i)), (9, .sref 2 q.v 0 q.n false)]) (fun q => [(2, .row q.v 2 false q.rs)])
    (fun q => q.i ≤ x.c.length ∧ q.n = (e7 ++ entsM wPrice (oneP .ratio) (x.c.take q.i)).length ∧ q.rs = (e7 ++ entsM wPrice (oneP .ratio) (x.c.take q.i)).map Ent.d) (fun q => x.c.length - q.i) ⟨0, v6, n6, r6⟩ sam rfl ⟨Nat.zero_le _, by rw [List.take_zero, entsM_nil, List.append_nil]; exact hn6', by rw [List.take_zero, entsM_nil, List.append_nil]; exact hr6'⟩ ?_
  rintro ⟨i7, v7, n7, r7⟩ ⟨hi7, hn7', hr7'⟩
  dsimp only at hi7 hn7' hr7'
  dsimp only
  have hrl7 : r7.length = n7 := by rw [hr7', hn7', List.length_map]
  by_cases hlt : i7 < x.c.length
  · obtain ⟨z, hz, _⟩ := drop_get hlt
    have hzm : z ∈ x.c := List.mem_of_getElem? hz
    have hzp : okP ((oneP .ratio) z) := hx.c.2 z hzm
    have hm := hx.c.1
    obtain ⟨hr1, hr2⟩ := (show (Part.ratio z).ok from hzp.ok _ (List.mem_singleton.2 rfl))
    have hN1 := ref42_Ratio z hr1 hr2
    have hE := ref42_entry wPrice (by decide) ((i7 : Nat) : Int) ⟨by omega, by omega⟩ (txt ((oneP .ratio) z)) (ratM z) rfl
    have hnb : n7 < 2 ^ 28 := by rw [hn7', List.length_append, entsM_len, List.length_take]; omega
    repeat' ((conv => whnf); first | refine cA ?_ | refine nA ?_ | refine cB ?_ | refine nB ?_ | refine aL ?_ | (with_reducible first | refine dT ?_ | refine dU ?_ | refine dF ?_ | refine dG ?_) | refine aT ?_ | refine aF ?_ | refine dS (fun _ => ?_) fun _ => ?_ | refine aW ?_ | refine aC ?_ | refine aL ?_ | refine Prep.skip ?_ | refine Eith.l ?_ | refine aD ?_ | refine aB (fun _ => ?_) fun _ => ?_ | refine nthK_mk (map_get (f := Rat.cells) hz) ?_ | refine ACall.of hN1 ?_ | refine APCall.of hN1 ?_ | refine ACall.of hE ?_ | refine APCall.of hE ?_ | refine Chk.mk ⟨rfl, by omega, by simp [room]; omega⟩ ?_ | fail)
    all_goals (conv => whnf)
    all_goals first | (exfalso; omega) | skip
    refine ⟨⟨i7 + 1, v7 + 1, n7 + 1, r7 ++ [(entM wPrice (i7 : Nat) ((oneP .ratio) z)).d]⟩, Wm.end sam rfl rfl rfl, ⟨hlt, ?_, ?_⟩, by show x.c.length - (i7 + 1) < x.c.length - i7; omega⟩
    · show n7 + 1 = (e7 ++ entsM wPrice (oneP .ratio) (x.c.take (i7 + 1))).length
      rw [entsM_next wPrice (oneP .ratio) hz, ← List.append_assoc, hn7']; simp only [List.length_append, List.length_cons, List.length_nil] <;> omega
    · show r7 ++ _ = (e7 ++ entsM wPrice (oneP .ratio) (x.c.take (i7 + 1))).map Ent.d
      rw [entsM_next wPrice (oneP .ratio) hz, ← List.append_assoc, hr7']; simp
  have hie : i7 = x.c.length := by omega
  subst hie
  rw [List.take_length] at hn7' hr7'
  clear hlt
  obtain ⟨e8, he8⟩ : ∃ e8, e8 = e7 ++ entsM wPrice (oneP .ratio) x.c := ⟨_, rfl⟩
  rw [← he8] at hn7' hr7'
  have hl8 : e8.length < 2 + 8 * 2 ^ 24 := by
    have := hx.c.1
    rw [he8, List.length_append, entsM_len]; omega
  repeat' ((conv => whnf); first | (with_reducible first | refine dT ?_ | refine dU ?_ | refine dF ?_ | refine dG ?_) | refine aT ?_ | refine aF ?_ | refine dS (fun _ => ?_) fun _ => ?_ | refine aW ?_ | refine aC ?_ | refine aL ?_ | refine Prep.skip ?_ | refine Eith.l ?_ | refine aD ?_ | refine aB (fun _ => ?_) fun _ => ?_ | refine Nam.mk (List.length_map _) ?_ | fail)
  all_goals (conv => whnf)
  all_goals first | (exfalso; omega) | skip
  refine ALoop.only [(22, .d (I 0)), (9, .sref 2 v7 0 n7 false), (0, .d x.p.d), (1, .d (SL 3 (x.c.map Rat.cells))), (2, .d (SL 4 (x.v.map Ver.d))), (3, .d (SL 4 (x.a.map Ans.d))), (4, .ptr 0 0 0 0)] (by repeat (first | exact trivial | refine And.intro rfl ?_)) ?_
  refine ALoop.at (E := envOf Tryd.prog tt Tryd.f13.ntmps) (envOf_ok ttok mixed) (X := XR) (fun q => [(22, .d (I q.i)), (9, .sref 2 q.v 0 q.n false)]) (fun q => [(2, .row q.v 2 false q.rs)])
    (fun q => q.i ≤ x.v.length ∧ q.n = (e8 ++ entsM wVerdict Ver.parts (x.v.take q.i)).length ∧ q.rs = (e8 ++ entsM wVerdict Ver.parts (x.v.take q.i)).map Ent.d) (fun q => x.v.length - q.i) ⟨0, v7, n7, r7⟩ sam rfl ⟨Nat.zero_le _, by rw [List.take_zero, entsM_nil, List.append_nil]; exact hn7', by rw [List.take_zero, entsM_nil, List.append_nil]; exact hr7'⟩ ?_
  rintro ⟨i8, v8, n8, r8⟩ ⟨hi8, hn8', hr8'⟩
  dsimp only at hi8 hn8' hr8'
  dsimp only
  have hrl8 : r8.length = n8 := by rw [hr8', hn8', List.length_map]
  by_cases hlt : i8 < x.v.length
  · obtain ⟨z, hz, _⟩ := drop_get hlt
    have hzm : z ∈ x.v := List.mem_of_getElem? hz
    have hzp : okP (Ver.parts z) := hx.v.2 z hzm
    have hm := hx.v.1
    have hN1 := ref42_verdict z (hV z hzm)
    have hE := ref42_entry wVerdict (by decide) ((i8 : Nat) : Int) ⟨by omega, by omega⟩ (txt (Ver.parts z)) (txt z.parts) rfl
    have hnb : n8 < 2 ^ 28 := by rw [hn8', List.length_append, entsM_len, List.length_take]; omega
    repeat' ((conv => whnf); first | refine cA ?_ | refine nA ?_ | refine cB ?_ | refine nB ?_ | refine aL ?_ | (with_reducible first | refine dT ?_ | refine dU ?_ | refine dF ?_ | refine dG ?_) | refine aT ?_ | refine aF ?_ | refine dS (fun _ => ?_) fun _ => ?_ | refine aW ?_ | refine aC ?_ | refine aL ?_ | refine Prep.skip ?_ | refine Eith.l ?_ | refine aD ?_ | refine aB (fun _ => ?_) fun _ => ?_ | refine nthK_mk (map_get (f := Ver.d) hz) ?_ | refine ACall.of hN1 ?_ | refine APCall.of hN1 ?_ | refine ACall.of hE ?_ | refine APCall.of hE ?_ | refine Chk.mk ⟨rfl, by omega, by simp [room]; omega⟩ ?_ | fail)
    all_goals (conv => whnf)
    all_goals first | (exfalso; omega) | skip
    refine ⟨⟨i8 + 1, v8 + 1, n8 + 1, r8 ++ [(entM wVerdict (i8 : Nat) (Ver.parts z)).d]⟩, Wm.end sam rfl rfl rfl, ⟨hlt, ?_, ?_⟩, by show x.v.length - (i8 + 1) < x.v.length - i8; omega⟩
    · show n8 + 1 = (e8 ++ entsM wVerdict Ver.parts (x.v.take (i8 + 1))).length
      rw [entsM_next wVerdict Ver.parts hz, ← List.append_assoc, hn8']; simp only [List.length_append, List.length_cons, List.length_nil] <;> omega
    · show r8 ++ _ = (e8 ++ entsM wVerdict Ver.parts (x.v.take (i8 + 1))).map Ent.d
      rw [entsM_next wVerdict Ver.parts hz, ← List.append_assoc, hr8']; simp
  have hie : i8 = x.v.length := by omega
  subst hie
  rw [List.take_length] at hn8' hr8'
  clear hlt
  obtain ⟨e9, he9⟩ : ∃ e9, e9 = e8 ++ entsM wVerdict Ver.parts x.v := ⟨_, rfl⟩
  rw [← he9] at hn8' hr8'
  have hl9 : e9.length < 2 + 9 * 2 ^ 24 := by
    have := hx.v.1
    rw [he9, List.length_append, entsM_len]; omega
  repeat' ((conv => whnf); first | (with_reducible first | refine dT ?_ | refine dU ?_ | refine dF ?_ | refine dG ?_) | refine aT ?_ | refine aF ?_ | refine dS (fun _ => ?_) fun _ => ?_ | refine aW ?_ | refine aC ?_ | refine aL ?_ | refine Prep.skip ?_ | refine Eith.l ?_ | refine aD ?_ | refine aB (fun _ => ?_) fun _ => ?_ | refine Nam.mk (List.length_map _) ?_ | fail)
  all_goals (conv => whnf)
  all_goals first | (exfalso; omega) | skip
  refine ALoop.only [(23, .d (I 0)), (9, .sref 2 v8 0 n8 false), (0, .d x.p.d), (1, .d (SL 3 (x.c.map Rat.cells))), (2, .d (SL 4 (x.v.map Ver.d))), (3, .d (SL 4 (x.a.map Ans.d))), (4, .ptr 0 0 0 0)] (by repeat (first | exact trivial | refine And.intro rfl ?_)) ?_
  refine ALoop.at (E := envOf Tryd.prog tt Tryd.f13.ntmps) (envOf_ok ttok mixed) (X := XR) (fun q => [(23, .d (I q.i)), (9, .sref 2 q.v 0 q.n false)]) (fun q => [(2, .row q.v 2 false q.rs)])
    (fun q => q.i ≤ x.a.length ∧ q.n = (e9 ++ entsM wAnswer Ans.parts (x.a.take q.i)).length ∧ q.rs = (e9 ++ entsM wAnswer Ans.parts (x.a.take q.i)).map Ent.d) (fun q => x.a.length - q.i) ⟨0, v8, n8, r8⟩ sam rfl ⟨Nat.zero_le _, by rw [List.take_zero, entsM_nil, List.append_nil]; exact hn8', by rw [List.take_zero, entsM_nil, List.append_nil]; exact hr8'⟩ ?_
  rintro ⟨i9, v9, n9, r9⟩ ⟨hi9, hn9', hr9'⟩
  dsimp only at hi9 hn9' hr9'
  dsimp only
  have hrl9 : r9.length = n9 := by rw [hr9', hn9', List.length_map]
  by_cases hlt : i9 < x.a.length
  · obtain ⟨z, hz, _⟩ := drop_get hlt
    have hzm : z ∈ x.a := List.mem_of_getElem? hz
    have hzp : okP (Ans.parts z) := hx.a.2 z hzm
    have hm := hx.a.1
    have hN1 := ref42_answer z (hA z hzm)
    have hE := ref42_entry wAnswer (by decide) ((i9 : Nat) : Int) ⟨by omega, by omega⟩ (txt (Ans.parts z)) (txt z.parts) rfl
    have hnb : n9 < 2 ^ 28 := by rw [hn9', List.length_append, entsM_len, List.length_take]; omega
    repeat' ((conv => whnf); first | refine cA ?_ | refine nA ?_ | refine cB ?_ | refine nB ?_ | refine aL ?_ | (with_reducible first | refine dT ?_ | refine dU ?_ | refine dF ?_ | refine dG ?_) | refine aT ?_ | refine aF ?_ | refine dS (fun _ => ?_) fun _ => ?_ | refine aW ?_ | refine aC ?_ | refine aL ?_ | refine Prep.skip ?_ | refine Eith.l ?_ | refine aD ?_ | refine aB (fun _ => ?_) fun _ => ?_ | refine nthK_mk (map_get (f := Ans.d) hz) ?_ | refine ACall.of hN1 ?_ | refine APCall.of hN1 ?_ | refine ACall.of hE ?_ | refine APCall.of hE ?_ | refine Chk.mk ⟨rfl, by omega, by simp [room]; omega⟩ ?_ | fail)
    all_goals (conv => whnf)
    all_goals first | (exfalso; omega) | skip
    refine ⟨⟨i9 + 1, v9 + 1, n9 + 1, r9 ++ [(entM wAnswer (i9 : Nat) (Ans.parts z)).d]⟩, Wm.end sam rfl rfl rfl, ⟨hlt, ?_, ?_⟩, by show x.a.length - (i9 + 1) < x.a.length - i9; omega⟩
    · show n9 + 1 = (e9 ++ entsM wAnswer Ans.parts (x.a.take (i9 + 1))).length
      rw [entsM_next wAnswer Ans.parts hz, ← List.append_assoc, hn9']; simp only [List.length_append, List.length_cons, List.length_nil] <;> omega
    · show r9 ++ _ = (e9 ++ entsM wAnswer Ans.parts (x.a.take (i9 + 1))).map Ent.d
      rw [entsM_next wAnswer Ans.parts hz, ← List.append_assoc, hr9']; simp
  have hie : i9 = x.a.length := by omega
  subst hie
  rw [List.take_length] at hn9' hr9'
  clear hlt
  obtain ⟨e10, he10⟩ : ∃ e10, e10 = e9 ++ entsM wAnswer Ans.parts x.a := ⟨_, rfl⟩
  rw [← he10] at hn9' hr9'
  have hl10 : e10.length < 2 + 10 * 2 ^ 24 := by
    have := hx.a.1
    rw [he10, List.length_append, entsM_len]; omega
  repeat' ((conv => whnf); first | (with_reducible first | refine dT ?_ | refine dU ?_ | refine dF ?_ | refine dG ?_) | refine aT ?_ | refine aF ?_ | refine dS (fun _ => ?_) fun _ => ?_ | refine aW ?_ | refine aC ?_ | refine aL ?_ | refine Prep.skip ?_ | refine Eith.l ?_ | refine aD ?_ | refine aB (fun _ => ?_) fun _ => ?_ | refine Nam.mk (List.length_map _) ?_ | fail)
  all_goals (conv => whnf)
  all_goals first | (exfalso; omega) | skip
  have z0 : entsM wLine (oneP Lin.part) x.p.lines = [] := by rw [List.eq_nil_of_length_eq_zero h0]; rfl
  have z1 : entsM wNeed Nee.parts x.p.needs = [] := by rw [List.eq_nil_of_length_eq_zero h1]; rfl
  have z2 : entsM wLot Lo.parts x.p.lots = [] := by rw [List.eq_nil_of_length_eq_zero h2]; rfl
  have z3 : entsM wCost (oneP .int) x.p.costs = [] := by rw [List.eq_nil_of_length_eq_zero h3]; rfl
  have he : e10 = reportM x := by rw [he10, he9, he8, he7, he6, he5, he4]; unfold reportM planM; simp only [List.append_assoc, List.nil_append, z0, z1, z2, z3]
  subst hn9'; subst hr9'; subst he
  have hO := ref42_ordered (reportM x) (by omega)
  repeat' ((conv => whnf); first | refine Nam.mk (y := (reportM x).map Ent.d) (whole (List.length_map _).symm) ?_ | refine Nam.mk (y := (reportM x).map Ent.d) (whole (List.length_map _)) ?_ | (with_reducible first | refine dT ?_ | refine dU ?_ | refine dF ?_ | refine dG ?_) | refine aT ?_ | refine aF ?_ | refine dS (fun _ => ?_) fun _ => ?_ | refine aW ?_ | refine aC ?_ | refine aL ?_ | refine Prep.skip ?_ | refine Eith.l ?_ | refine aD ?_ | refine aB (fun _ => ?_) fun _ => ?_ | refine ACall.of hO ?_ | refine ACall.lift ?_ | fail)
  all_goals (conv => whnf)
  exact DLe.refl _
theorem ref42_Report5 (x : Rep) (hx : x.ok) (hd : dE (reportM x)) (hV : ∀ y ∈ x.v, y.okR) (hA : ∀ y ∈ x.a, y.okR) (h0 : x.p.lines.length = 0) (h1 : x.p.needs.length = 0) (h2 : x.p.lots.length = 0) (h3 : x.p.costs.length = 0) (h4 : x.p.jobs.length = 0) (hlt : 0 < x.p.pegs.length) : CallP Tryd.prog 13 [.d x.p.d, .d (SL 3 (x.c.map Rat.cells)), .d (SL 4 (x.v.map Ver.d)), .d (SL 4 (x.a.map Ans.d))] (retD [SL 2 ((ordE (reportM x)).map Ent.d)]) := by
  have hN := ref42_numbers [x.p.start, x.p.days] true (by simp) (by
    intro n hn
    simp only [List.mem_cons, List.not_mem_nil, or_false] at hn
    have := hx.p.head.ok
    rcases hn with rfl | rfl
    · exact this (.int x.p.start) (by simp)
    · exact this (.int x.p.days) (by simp))
  refine exPure_sound (E := envOf Tryd.prog tt Tryd.f13.ntmps) (envOf_ok ttok mixed) Tryd.func13 (by rfl) rfl rfl (Nat.le_of_ble_eq_true rfl) ?_
  repeat' ((conv => whnf); first | (with_reducible first | refine dT ?_ | refine dU ?_ | refine dF ?_ | refine dG ?_) | refine aT ?_ | refine aF ?_ | refine dS (fun _ => ?_) fun _ => ?_ | refine aW ?_ | refine aC ?_ | refine aL ?_ | refine Prep.skip ?_ | refine Eith.l ?_ | refine aD ?_ | refine aB (fun _ => ?_) fun _ => ?_ | refine ACall.of hN ?_ | refine APCall.of hN ?_ | refine Nam.mk (List.length_map _) ?_ | fail)
  all_goals (conv => whnf)
  refine ALoop.only [(10, .d (I 0)), (9, .d (.sl 2 true [(headM x.p).d])), (0, .d x.p.d), (1, .d (SL 3 (x.c.map Rat.cells))), (2, .d (SL 4 (x.v.map Ver.d))), (3, .d (SL 4 (x.a.map Ans.d))), (4, .ptr 0 0 0 0)] (by repeat (first | exact trivial | refine And.intro rfl ?_)) ?_
  refine ALoop.rounds 1 ?_
  refine ALoopN.step (E := (envOf Tryd.prog tt Tryd.f13.ntmps)) (envOf_ok ttok mixed) ?_
  repeat' ((conv => whnf); first | (with_reducible first | refine dT ?_ | refine dU ?_ | refine dF ?_ | refine dG ?_) | refine aT ?_ | refine aF ?_ | refine dS (fun _ => ?_) fun _ => ?_ | refine aW ?_ | refine aC ?_ | refine aL ?_ | refine Prep.skip ?_ | refine Eith.l ?_ | refine aD ?_ | refine aB (fun _ => ?_) fun _ => ?_ | refine Nam.mk (List.length_map _) ?_ | fail)
  all_goals (conv => whnf)
  refine ALoop.only [(11, .d (I 0)), (9, .d (.sl 2 true [(headM x.p).d])), (0, .d x.p.d), (1, .d (SL 3 (x.c.map Rat.cells))), (2, .d (SL 4 (x.v.map Ver.d))), (3, .d (SL 4 (x.a.map Ans.d))), (4, .ptr 0 0 0 0)] (by repeat (first | exact trivial | refine And.intro rfl ?_)) ?_
  refine ALoop.rounds 1 ?_
  refine ALoopN.step (E := (envOf Tryd.prog tt Tryd.f13.ntmps)) (envOf_ok ttok mixed) ?_
  repeat' ((conv => whnf); first | (with_reducible first | refine dT ?_ | refine dU ?_ | refine dF ?_ | refine dG ?_) | refine aT ?_ | refine aF ?_ | refine dS (fun _ => ?_) fun _ => ?_ | refine aW ?_ | refine aC ?_ | refine aL ?_ | refine Prep.skip ?_ | refine Eith.l ?_ | refine aD ?_ | refine aB (fun _ => ?_) fun _ => ?_ | refine Nam.mk (List.length_map _) ?_ | fail)
  all_goals (conv => whnf)
  refine ALoop.only [(13, .d (I 0)), (9, .d (.sl 2 true [(headM x.p).d])), (0, .d x.p.d), (1, .d (SL 3 (x.c.map Rat.cells))), (2, .d (SL 4 (x.v.map Ver.d))), (3, .d (SL 4 (x.a.map Ans.d))), (4, .ptr 0 0 0 0)] (by repeat (first | exact trivial | refine And.intro rfl ?_)) ?_
  refine ALoop.rounds 1 ?_
  refine ALoopN.step (E := (envOf Tryd.prog tt Tryd.f13.ntmps)) (envOf_ok ttok mixed) ?_
  repeat' ((conv => whnf); first | (with_reducible first | refine dT ?_ | refine dU ?_ | refine dF ?_ | refine dG ?_) | refine aT ?_ | refine aF ?_ | refine dS (fun _ => ?_) fun _ => ?_ | refine aW ?_ | refine aC ?_ | refine aL ?_ | refine Prep.skip ?_ | refine Eith.l ?_ | refine aD ?_ | refine aB (fun _ => ?_) fun _ => ?_ | refine Nam.mk (List.length_map _) ?_ | fail)
  all_goals (conv => whnf)
  refine ALoop.only [(15, .d (I 0)), (9, .d (.sl 2 true [(headM x.p).d])), (0, .d x.p.d), (1, .d (SL 3 (x.c.map Rat.cells))), (2, .d (SL 4 (x.v.map Ver.d))), (3, .d (SL 4 (x.a.map Ans.d))), (4, .ptr 0 0 0 0)] (by repeat (first | exact trivial | refine And.intro rfl ?_)) ?_
  refine ALoop.rounds 1 ?_
  refine ALoopN.step (E := (envOf Tryd.prog tt Tryd.f13.ntmps)) (envOf_ok ttok mixed) ?_
  repeat' ((conv => whnf); first | (with_reducible first | refine dT ?_ | refine dU ?_ | refine dF ?_ | refine dG ?_) | refine aT ?_ | refine aF ?_ | refine dS (fun _ => ?_) fun _ => ?_ | refine aW ?_ | refine aC ?_ | refine aL ?_ | refine Prep.skip ?_ | refine Eith.l ?_ | refine aD ?_ | refine aB (fun _ => ?_) fun _ => ?_ | refine Nam.mk (List.length_map _) ?_ | fail)
  all_goals (conv => whnf)
  refine ALoop.only [(16, .d (I 0)), (9, .d (.sl 2 true [(headM x.p).d])), (0, .d x.p.d), (1, .d (SL 3 (x.c.map Rat.cells))), (2, .d (SL 4 (x.v.map Ver.d))), (3, .d (SL 4 (x.a.map Ans.d))), (4, .ptr 0 0 0 0)] (by repeat (first | exact trivial | refine And.intro rfl ?_)) ?_
  refine ALoop.rounds 1 ?_
  refine ALoopN.step (E := (envOf Tryd.prog tt Tryd.f13.ntmps)) (envOf_ok ttok mixed) ?_
  repeat' ((conv => whnf); first | (with_reducible first | refine dT ?_ | refine dU ?_ | refine dF ?_ | refine dG ?_) | refine aT ?_ | refine aF ?_ | refine dS (fun _ => ?_) fun _ => ?_ | refine aW ?_ | refine aC ?_ | refine aL ?_ | refine Prep.skip ?_ | refine Eith.l ?_ | refine aD ?_ | refine aB (fun _ => ?_) fun _ => ?_ | refine Nam.mk (List.length_map _) ?_ | fail)
  all_goals (conv => whnf)
  refine ALoop.only [(18, .d (I 0)), (9, .d (.sl 2 true [(headM x.p).d])), (0, .d x.p.d), (1, .d (SL 3 (x.c.map Rat.cells))), (2, .d (SL 4 (x.v.map Ver.d))), (3, .d (SL 4 (x.a.map Ans.d))), (4, .ptr 0 0 0 0)] (by repeat (first | exact trivial | refine And.intro rfl ?_)) ?_
  refine ALoop.peel (E := (envOf Tryd.prog tt Tryd.f13.ntmps)) (envOf_ok ttok mixed) ?_
  obtain ⟨z, hz, _⟩ := drop_get hlt
  have hzm : z ∈ x.p.pegs := List.mem_of_getElem? hz
  have hzp : okP (Pe.parts z) := hx.p.pegs.2 z hzm
  have hm := hx.p.pegs.1
  have hz1 : okI z.kind := hzp.ok (.int z.kind) (by simp [Pe.parts])
  have hz2 : okI z.no := hzp.ok (.int z.no) (by simp [Pe.parts])
  have hz3 : okI z.need := hzp.ok (.int z.need) (by simp [Pe.parts])
  obtain ⟨hr1, hr2⟩ := (show (Part.ratio z.amt).ok from hzp.ok _ (by simp [Pe.parts]))
  have hN1 := ref42_numbers [z.kind, z.no, z.need] true (by simp) (by intro n hn; simp only [List.mem_cons, List.not_mem_nil, or_false] at hn; rcases hn with rfl | rfl | rfl <;> assumption)
  have hR := ref42_Ratio z.amt hr1 hr2
  have hzt := hzp.txt
  rw [show txt (Pe.parts z) = outT [] (wordsI [z.kind, z.no, z.need]) ++ [32] ++ ratM z.amt from (tx_peg z)] at hzt
  simp only [List.length_append, List.length_cons, List.length_nil] at hzt
  have hE := ref42_entry wPeg (by decide) ((0 : Nat) : Int) ⟨by omega, by omega⟩ (txt (Pe.parts z)) (outT [] (wordsI [z.kind, z.no, z.need]) ++ [32] ++ ratM z.amt) (tx_peg z).symm
  repeat' ((conv => whnf); first | refine cA ?_ | refine nA ?_ | refine cB ?_ | refine nB ?_ | refine aL ?_ | (with_reducible first | refine dT ?_ | refine dU ?_ | refine dF ?_ | refine dG ?_) | refine aT ?_ | refine aF ?_ | refine dS (fun _ => ?_) fun _ => ?_ | refine aW ?_ | refine aC ?_ | refine aL ?_ | refine Prep.skip ?_ | refine Eith.l ?_ | refine aD ?_ | refine aB (fun _ => ?_) fun _ => ?_ | refine nthK_mk (map_get (f := Pe.d) hz) ?_ | refine ACall.of hN1 ?_ | refine APCall.of hN1 ?_ | refine ACall.of hR ?_ | refine APCall.of hR ?_ | refine ACall.of hE ?_ | refine APCall.of hE ?_ | fail)
  all_goals (conv => whnf)
  refine ALoop.only [(18, .d (I 1)), (9, .sref 5 0 0 2 false), (0, .d x.p.d), (1, .d (SL 3 (x.c.map Rat.cells))), (2, .d (SL 4 (x.v.map Ver.d))), (3, .d (SL 4 (x.a.map Ans.d))), (4, .ptr 0 0 0 0)] (by repeat (first | exact trivial | refine And.intro rfl ?_)) ?_
  obtain ⟨e5, he5⟩ : ∃ e5, e5 = [headM x.p] := ⟨_, rfl⟩
  have hl5 : e5.length < 2 + 5 * 2 ^ 24 := by rw [he5]; simp
  refine ALoop.at (E := envOf Tryd.prog tt Tryd.f13.ntmps) (envOf_ok ttok mixed) (X := XR) (fun q => [(18, .d (I q.i)), (9, .sref 5 q.v 0 q.n false)]) (fun q => [(5, .row q.v 2 false q.rs)])
    (fun q => q.i ≤ x.p.pegs.length ∧ q.n = (e5 ++ entsM wPeg Pe.parts (x.p.pegs.take q.i)).length ∧ q.rs = (e5 ++ entsM wPeg Pe.parts (x.p.pegs.take q.i)).map Ent.d) (fun q => x.p.pegs.length - q.i) ⟨1, 0, 2, [(headM x.p).d, (entM wPeg (0 : Nat) (Pe.parts z)).d]⟩ sam rfl ⟨hlt, by rw [List.length_append, entsM_len, List.length_take, he5]; simp; omega, by rw [entsM_next wPeg Pe.parts hz, he5]; rfl⟩ ?_
  clear hE
  clear hz hzp hzm
  rintro ⟨i5, v5, n5, r5⟩ ⟨hi5, hn5', hr5'⟩
  dsimp only at hi5 hn5' hr5'
  dsimp only
  have hrl5 : r5.length = n5 := by rw [hr5', hn5', List.length_map]
  by_cases hlt : i5 < x.p.pegs.length
  · obtain ⟨z, hz, _⟩ := drop_get hlt
    have hzm : z ∈ x.p.pegs := List.mem_of_getElem? hz
    have hzp : okP (Pe.parts z) := hx.p.pegs.2 z hzm
    have hm := hx.p.pegs.1
    have hz1 : okI z.kind := hzp.ok (.int z.kind) (by simp [Pe.parts])
    have hz2 : okI z.no := hzp.ok (.int z.no) (by simp [Pe.parts])
    have hz3 : okI z.need := hzp.ok (.int z.need) (by simp [Pe.parts])
    obtain ⟨hr1, hr2⟩ := (show (Part.ratio z.amt).ok from hzp.ok _ (by simp [Pe.parts]))
    have hN1 := ref42_numbers [z.kind, z.no, z.need] true (by simp) (by intro n hn; simp only [List.mem_cons, List.not_mem_nil, or_false] at hn; rcases hn with rfl | rfl | rfl <;> assumption)
    have hR := ref42_Ratio z.amt hr1 hr2
    have hzt := hzp.txt
    rw [show txt (Pe.parts z) = outT [] (wordsI [z.kind, z.no, z.need]) ++ [32] ++ ratM z.amt from (tx_peg z)] at hzt
    simp only [List.length_append, List.length_cons, List.length_nil] at hzt
    have hE := ref42_entry wPeg (by decide) ((i5 : Nat) : Int) ⟨by omega, by omega⟩ (txt (Pe.parts z)) (outT [] (wordsI [z.kind, z.no, z.need]) ++ [32] ++ ratM z.amt) (tx_peg z).symm
    have hnb : n5 < 2 ^ 28 := by rw [hn5', List.length_append, entsM_len, List.length_take]; omega
    repeat' ((conv => whnf); first | refine cA ?_ | refine nA ?_ | refine cB ?_ | refine nB ?_ | refine aL ?_ | (with_reducible first | refine dT ?_ | refine dU ?_ | refine dF ?_ | refine dG ?_) | refine aT ?_ | refine aF ?_ | refine dS (fun _ => ?_) fun _ => ?_ | refine aW ?_ | refine aC ?_ | refine aL ?_ | refine Prep.skip ?_ | refine Eith.l ?_ | refine aD ?_ | refine aB (fun _ => ?_) fun _ => ?_ | refine nthK_mk (map_get (f := Pe.d) hz) ?_ | refine ACall.of hN1 ?_ | refine APCall.of hN1 ?_ | refine ACall.of hR ?_ | refine APCall.of hR ?_ | refine ACall.of hE ?_ | refine APCall.of hE ?_ | refine Chk.mk ⟨rfl, by omega, by simp [room]; omega⟩ ?_ | fail)
    all_goals (conv => whnf)
    all_goals first | (exfalso; omega) | skip
    refine ⟨⟨i5 + 1, v5 + 1, n5 + 1, r5 ++ [(entM wPeg (i5 : Nat) (Pe.parts z)).d]⟩, Wm.end sam rfl rfl rfl, ⟨hlt, ?_, ?_⟩, by show x.p.pegs.length - (i5 + 1) < x.p.pegs.length - i5; omega⟩
    · show n5 + 1 = (e5 ++ entsM wPeg Pe.parts (x.p.pegs.take (i5 + 1))).length
      rw [entsM_next wPeg Pe.parts hz, ← List.append_assoc, hn5']; simp only [List.length_append, List.length_cons, List.length_nil] <;> omega
    · show r5 ++ _ = (e5 ++ entsM wPeg Pe.parts (x.p.pegs.take (i5 + 1))).map Ent.d
      rw [entsM_next wPeg Pe.parts hz, ← List.append_assoc, hr5']; simp
  have hie : i5 = x.p.pegs.length := by omega
  subst hie
  rw [List.take_length] at hn5' hr5'
  clear hlt
  obtain ⟨e6, he6⟩ : ∃ e6, e6 = e5 ++ entsM wPeg Pe.parts x.p.pegs := ⟨_, rfl⟩
  rw [← he6] at hn5' hr5'
  have hl6 : e6.length < 2 + 6 * 2 ^ 24 := by
    have := hx.p.pegs.1
    rw [he6, List.length_append, entsM_len]; omega
  repeat' ((conv => whnf); first | (with_reducible first | refine dT ?_ | refine dU ?_ | refine dF ?_ | refine dG ?_) | refine aT ?_ | refine aF ?_ | refine dS (fun _ => ?_) fun _ => ?_ | refine aW ?_ | refine aC ?_ | refine aL ?_ | refine Prep.skip ?_ | refine Eith.l ?_ | refine aD ?_ | refine aB (fun _ => ?_) fun _ => ?_ | refine Nam.mk (List.length_map _) ?_ | fail)
  all_goals (conv => whnf)
  all_goals first | (exfalso; omega) | skip
  refine ALoop.only [(20, .d (I 0)), (9, .sref 5 v5 0 n5 false), (0, .d x.p.d), (1, .d (SL 3 (x.c.map Rat.cells))), (2, .d (SL 4 (x.v.map Ver.d))), (3, .d (SL 4 (x.a.map Ans.d))), (4, .ptr 0 0 0 0)] (by repeat (first | exact trivial | refine And.intro rfl ?_)) ?_
  refine ALoop.at (E := envOf Tryd.prog tt Tryd.f13.ntmps) (envOf_ok ttok mixed) (X := XR) (fun q => [(20, .d (I q.i)), (9, .sref 5 q.v 0 q.n false)]) (fun q => [(5, .row q.v 2 false q.rs)])
    (fun q => q.i ≤ x.p.late.length ∧ q.n = (e6 ++ entsM wLate (oneP .int) (x.p.late.take q.i)).length ∧ q.rs = (e6 ++ entsM wLate (oneP .int) (x.p.late.take q.i)).map Ent.d) (fun q => x.p.late.length - q.i) ⟨0, v5, n5, r5⟩ sam rfl ⟨Nat.zero_le _, by rw [List.take_zero, entsM_nil, List.append_nil]; exact hn5', by rw [List.take_zero, entsM_nil, List.append_nil]; exact hr5'⟩ ?_
  rintro ⟨i6, v6, n6, r6⟩ ⟨hi6, hn6', hr6'⟩
  dsimp only at hi6 hn6' hr6'
  dsimp only
  have hrl6 : r6.length = n6 := by rw [hr6', hn6', List.length_map]
  by_cases hlt : i6 < x.p.late.length
  · obtain ⟨z, hz, _⟩ := drop_get hlt
    have hzm : z ∈ x.p.late := List.mem_of_getElem? hz
    have hzp : okP ((oneP .int) z) := hx.p.late.2 z hzm
    have hm := hx.p.late.1
    have hz1 : okI z := hzp.ok (.int z) (List.mem_singleton.2 rfl)
    have hN1 := ref42_Number z hz1
    have hE := ref42_entry wLate (by decide) ((i6 : Nat) : Int) ⟨by omega, by omega⟩ (txt ((oneP .int) z)) (itoa z) rfl
    have hnb : n6 < 2 ^ 28 := by rw [hn6', List.length_append, entsM_len, List.length_take]; omega
    repeat' ((conv => whnf); first | refine cA ?_ | refine nA ?_ | refine cB ?_ | refine nB ?_ | refine aL ?_ | (with_reducible first | refine dT ?_ | refine dU ?_ | refine dF ?_ | refine dG ?_) | refine aT ?_ | refine aF ?_ | refine dS (fun _ => ?_) fun _ => ?_ | refine aW ?_ | refine aC ?_ | refine aL ?_ | refine Prep.skip ?_ | refine Eith.l ?_ | refine aD ?_ | refine aB (fun _ => ?_) fun _ => ?_ | refine nthK_mk (map_get (f := I) hz) ?_ | refine ACall.of hN1 ?_ | refine APCall.of hN1 ?_ | refine ACall.of hE ?_ | refine APCall.of hE ?_ | refine Chk.mk ⟨rfl, by omega, by simp [room]; omega⟩ ?_ | fail)
    all_goals (conv => whnf)
    all_goals first | (exfalso; omega) | skip
    refine ⟨⟨i6 + 1, v6 + 1, n6 + 1, r6 ++ [(entM wLate (i6 : Nat) ((oneP .int) z)).d]⟩, Wm.end sam rfl rfl rfl, ⟨hlt, ?_, ?_⟩, by show x.p.late.length - (i6 + 1) < x.p.late.length - i6; omega⟩
    · show n6 + 1 = (e6 ++ entsM wLate (oneP .int) (x.p.late.take (i6 + 1))).length
      rw [entsM_next wLate (oneP .int) hz, ← List.append_assoc, hn6']; simp only [List.length_append, List.length_cons, List.length_nil] <;> omega
    · show r6 ++ _ = (e6 ++ entsM wLate (oneP .int) (x.p.late.take (i6 + 1))).map Ent.d
      rw [entsM_next wLate (oneP .int) hz, ← List.append_assoc, hr6']; simp
  have hie : i6 = x.p.late.length := by omega
  subst hie
  rw [List.take_length] at hn6' hr6'
  clear hlt
  obtain ⟨e7, he7⟩ : ∃ e7, e7 = e6 ++ entsM wLate (oneP .int) x.p.late := ⟨_, rfl⟩
  rw [← he7] at hn6' hr6'
  have hl7 : e7.length < 2 + 7 * 2 ^ 24 := by
    have := hx.p.late.1
    rw [he7, List.length_append, entsM_len]; omega
  repeat' ((conv => whnf); first | (with_reducible first | refine dT ?_ | refine dU ?_ | refine dF ?_ | refine dG ?_) | refine aT ?_ | refine aF ?_ | refine dS (fun _ => ?_) fun _ => ?_ | refine aW ?_ | refine aC ?_ | refine aL ?_ | refine Prep.skip ?_ | refine Eith.l ?_ | refine aD ?_ | refine aB (fun _ => ?_) fun _ => ?_ | refine Nam.mk (List.length_map _) ?_ | fail)
  all_goals (conv => whnf)
  all_goals first | (exfalso; omega) | skip
  refine ALoop.only [(21, .d (I 0)), (9, .sref 5 v6 0 n6 false), (0, .d x.p.d), (1, .d (SL 3 (x.c.map Rat.cells))), (2, .d (SL 4 (x.v.map Ver.d))), (3, .d (SL 4 (x.a.map Ans.d))), (4, .ptr 0 0 0 0)] (by repeat (first | exact trivial | refine And.intro rfl ?_)) ?_
  refine ALoop.at (E := envOf Tryd.prog tt Tryd.f13.ntmps) (envOf_ok ttok mixed) (X := XR) (fun q => [(21, .d (I q.i)), (9, .sref 5 q.v 0 q.n false)]) (fun q => [(5, .row q.v 2 false q.rs)])
    (fun q => q.i ≤ x.c.length ∧ q.n = (e7 ++ entsM wPrice (oneP .ratio) (x.c.take q.i)).length ∧ q.rs = (e7 ++ entsM wPrice (oneP .ratio) (x.c.take q.i)).map Ent.d) (fun q => x.c.length - q.i) ⟨0, v6, n6, r6⟩ sam rfl ⟨Nat.zero_le _, by rw [List.take_zero, entsM_nil, List.append_nil]; exact hn6', by rw [List.take_zero, entsM_nil, List.append_nil]; exact hr6'⟩ ?_
  rintro ⟨i7, v7, n7, r7⟩ ⟨hi7, hn7', hr7'⟩
  dsimp only at hi7 hn7' hr7'
  dsimp only
  have hrl7 : r7.length = n7 := by rw [hr7', hn7', List.length_map]
  by_cases hlt : i7 < x.c.length
  · obtain ⟨z, hz, _⟩ := drop_get hlt
    have hzm : z ∈ x.c := List.mem_of_getElem? hz
    have hzp : okP ((oneP .ratio) z) := hx.c.2 z hzm
    have hm := hx.c.1
    obtain ⟨hr1, hr2⟩ := (show (Part.ratio z).ok from hzp.ok _ (List.mem_singleton.2 rfl))
    have hN1 := ref42_Ratio z hr1 hr2
    have hE := ref42_entry wPrice (by decide) ((i7 : Nat) : Int) ⟨by omega, by omega⟩ (txt ((oneP .ratio) z)) (ratM z) rfl
    have hnb : n7 < 2 ^ 28 := by rw [hn7', List.length_append, entsM_len, List.length_take]; omega
    repeat' ((conv => whnf); first | refine cA ?_ | refine nA ?_ | refine cB ?_ | refine nB ?_ | refine aL ?_ | (with_reducible first | refine dT ?_ | refine dU ?_ | refine dF ?_ | refine dG ?_) | refine aT ?_ | refine aF ?_ | refine dS (fun _ => ?_) fun _ => ?_ | refine aW ?_ | refine aC ?_ | refine aL ?_ | refine Prep.skip ?_ | refine Eith.l ?_ | refine aD ?_ | refine aB (fun _ => ?_) fun _ => ?_ | refine nthK_mk (map_get (f := Rat.cells) hz) ?_ | refine ACall.of hN1 ?_ | refine APCall.of hN1 ?_ | refine ACall.of hE ?_ | refine APCall.of hE ?_ | refine Chk.mk ⟨rfl, by omega, by simp [room]; omega⟩ ?_ | fail)
    all_goals (conv => whnf)
    all_goals first | (exfalso; omega) | skip
    refine ⟨⟨i7 + 1, v7 + 1, n7 + 1, r7 ++ [(entM wPrice (i7 : Nat) ((oneP .ratio) z)).d]⟩, Wm.end sam rfl rfl rfl, ⟨hlt, ?_, ?_⟩, by show x.c.length - (i7 + 1) < x.c.length - i7; omega⟩
    · show n7 + 1 = (e7 ++ entsM wPrice (oneP .ratio) (x.c.take (i7 + 1))).length
      rw [entsM_next wPrice (oneP .ratio) hz, ← List.append_assoc, hn7']; simp only [List.length_append, List.length_cons, List.length_nil] <;> omega
    · show r7 ++ _ = (e7 ++ entsM wPrice (oneP .ratio) (x.c.take (i7 + 1))).map Ent.d
      rw [entsM_next wPrice (oneP .ratio) hz, ← List.append_assoc, hr7']; simp
  have hie : i7 = x.c.length := by omega
  subst hie
  rw [List.take_length] at hn7' hr7'
  clear hlt
  obtain ⟨e8, he8⟩ : ∃ e8, e8 = e7 ++ entsM wPrice (oneP .ratio) x.c := ⟨_, rfl⟩
  rw [← he8] at hn7' hr7'
  have hl8 : e8.length < 2 + 8 * 2 ^ 24 := by
    have := hx.c.1
    rw [he8, List.length_append, entsM_len]; omega
  repeat' ((conv => whnf); first | (with_reducible first | refine dT ?_ | refine dU ?_ | refine dF ?_ | refine dG ?_) | refine aT ?_ | refine aF ?_ | refine dS (fun _ => ?_) fun _ => ?_ | refine aW ?_ | refine aC ?_ | refine aL ?_ | refine Prep.skip ?_ | refine Eith.l ?_ | refine aD ?_ | refine aB (fun _ => ?_) fun _ => ?_ | refine Nam.mk (List.length_map _) ?_ | fail)
  all_goals (conv => whnf)
  all_goals first | (exfalso; omega) | skip
  refine ALoop.only [(22, .d (I 0)), (9, .sref 5 v7 0 n7 false), (0, .d x.p.d), (1, .d (SL 3 (x.c.map Rat.cells))), (2, .d (SL 4 (x.v.map Ver.d))), (3, .d (SL 4 (x.a.map Ans.d))), (4, .ptr 0 0 0 0)] (by repeat (first | exact trivial | refine And.intro rfl ?_)) ?_
  refine ALoop.at (E := envOf Tryd.prog tt Tryd.f13.ntmps) (envOf_ok ttok mixed) (X := XR) (fun q => [(22, .d (I q.i)), (9, .sref 5 q.v 0 q.n false)]) (fun q => [(5, .row q.v 2 false q.rs)])
    (fun q => q.i ≤ x.v.length ∧ q.n = (e8 ++ entsM wVerdict Ver.parts (x.v.take q.i)).length ∧ q.rs = (e8 ++ entsM wVerdict Ver.parts (x.v.take q.i)).map Ent.d) (fun q => x.v.length - q.i) ⟨0, v7, n7, r7⟩ sam rfl ⟨Nat.zero_le _, by rw [List.take_zero, entsM_nil, List.append_nil]; exact hn7', by rw [List.take_zero, entsM_nil, List.append_nil]; exact hr7'⟩ ?_
  rintro ⟨i8, v8, n8, r8⟩ ⟨hi8, hn8', hr8'⟩
  dsimp only at hi8 hn8' hr8'
  dsimp only
  have hrl8 : r8.length = n8 := by rw [hr8', hn8', List.length_map]
  by_cases hlt : i8 < x.v.length
  · obtain ⟨z, hz, _⟩ := drop_get hlt
    have hzm : z ∈ x.v := List.mem_of_getElem? hz
    have hzp : okP (Ver.parts z) := hx.v.2 z hzm
    have hm := hx.v.1
    have hN1 := ref42_verdict z (hV z hzm)
    have hE := ref42_entry wVerdict (by decide) ((i8 : Nat) : Int) ⟨by omega, by omega⟩ (txt (Ver.parts z)) (txt z.parts) rfl
    have hnb : n8 < 2 ^ 28 := by rw [hn8', List.length_append, entsM_len, List.length_take]; omega
    repeat' ((conv => whnf); first | refine cA ?_ | refine nA ?_ | refine cB ?_ | refine nB ?_ | refine aL ?_ | (with_reducible first | refine dT ?_ | refine dU ?_ | refine dF ?_ | refine dG ?_) | refine aT ?_ | refine aF ?_ | refine dS (fun _ => ?_) fun _ => ?_ | refine aW ?_ | refine aC ?_ | refine aL ?_ | refine Prep.skip ?_ | refine Eith.l ?_ | refine aD ?_ | refine aB (fun _ => ?_) fun _ => ?_ | refine nthK_mk (map_get (f := Ver.d) hz) ?_ | refine ACall.of hN1 ?_ | refine APCall.of hN1 ?_ | refine ACall.of hE ?_ | refine APCall.of hE ?_ | refine Chk.mk ⟨rfl, by omega, by simp [room]; omega⟩ ?_ | fail)
    all_goals (conv => whnf)
    all_goals first | (exfalso; omega) | skip
    refine ⟨⟨i8 + 1, v8 + 1, n8 + 1, r8 ++ [(entM wVerdict (i8 : Nat) (Ver.parts z)).d]⟩, Wm.end sam rfl rfl rfl, ⟨hlt, ?_, ?_⟩, by show x.v.length - (i8 + 1) < x.v.length - i8; omega⟩
    · show n8 + 1 = (e8 ++ entsM wVerdict Ver.parts (x.v.take (i8 + 1))).length
      rw [entsM_next wVerdict Ver.parts hz, ← List.append_assoc, hn8']; simp only [List.length_append, List.length_cons, List.length_nil] <;> omega
    · show r8 ++ _ = (e8 ++ entsM wVerdict Ver.parts (x.v.take (i8 + 1))).map Ent.d
      rw [entsM_next wVerdict Ver.parts hz, ← List.append_assoc, hr8']; simp
  have hie : i8 = x.v.length := by omega
  subst hie
  rw [List.take_length] at hn8' hr8'
  clear hlt
  obtain ⟨e9, he9⟩ : ∃ e9, e9 = e8 ++ entsM wVerdict Ver.parts x.v := ⟨_, rfl⟩
  rw [← he9] at hn8' hr8'
  have hl9 : e9.length < 2 + 9 * 2 ^ 24 := by
    have := hx.v.1
    rw [he9, List.length_append, entsM_len]; omega
  repeat' ((conv => whnf); first | (with_reducible first | refine dT ?_ | refine dU ?_ | refine dF ?_ | refine dG ?_) | refine aT ?_ | refine aF ?_ | refine dS (fun _ => ?_) fun _ => ?_ | refine aW ?_ | refine aC ?_ | refine aL ?_ | refine Prep.skip ?_ | refine Eith.l ?_ | refine aD ?_ | refine aB (fun _ => ?_) fun _ => ?_ | refine Nam.mk (List.length_map _) ?_ | fail)
  all_goals (conv => whnf)
  all_goals first | (exfalso; omega) | skip
  refine ALoop.only [(23, .d (I 0)), (9, .sref 5 v8 0 n8 false), (0, .d x.p.d), (1, .d (SL 3 (x.c.map Rat.cells))), (2, .d (SL 4 (x.v.map Ver.d))), (3, .d (SL 4 (x.a.map Ans.d))), (4, .ptr 0 0 0 0)] (by repeat (first | exact trivial | refine And.intro rfl ?_)) ?_
  refine ALoop.at (E := envOf Tryd.prog tt Tryd.f13.ntmps) (envOf_ok ttok mixed) (X := XR) (fun q => [(23, .d (I q.i)), (9, .sref 5 q.v 0 q.n false)]) (fun q => [(5, .row q.v 2 false q.rs)])
    (fun q => q.i ≤ x.a.length ∧ q.n = (e9 ++ entsM wAnswer Ans.parts (x.a.take q.i)).length ∧ q.rs = (e9 ++ entsM wAnswer Ans.parts (x.a.take q.i)).map Ent.d) (fun q => x.a.length - q.i) ⟨0, v8, n8, r8⟩ sam rfl ⟨Nat.zero_le _, by rw [List.take_zero, entsM_nil, List.append_nil]; exact hn8', by rw [List.take_zero, entsM_nil, List.append_nil]; exact hr8'⟩ ?_
  rintro ⟨i9, v9, n9, r9⟩ ⟨hi9, hn9', hr9'⟩
  dsimp only at hi9 hn9' hr9'
  dsimp only
  have hrl9 : r9.length = n9 := by rw [hr9', hn9', List.length_map]
  by_cases hlt : i9 < x.a.length
  · obtain ⟨z, hz, _⟩ := drop_get hlt
    have hzm : z ∈ x.a := List.mem_of_getElem? hz
    have hzp : okP (Ans.parts z) := hx.a.2 z hzm
    have hm := hx.a.1
    have hN1 := ref42_answer z (hA z hzm)
    have hE := ref42_entry wAnswer (by decide) ((i9 : Nat) : Int) ⟨by omega, by omega⟩ (txt (Ans.parts z)) (txt z.parts) rfl
    have hnb : n9 < 2 ^ 28 := by rw [hn9', List.length_append, entsM_len, List.length_take]; omega
    repeat' ((conv => whnf); first | refine cA ?_ | refine nA ?_ | refine cB ?_ | refine nB ?_ | refine aL ?_ | (with_reducible first | refine dT ?_ | refine dU ?_ | refine dF ?_ | refine dG ?_) | refine aT ?_ | refine aF ?_ | refine dS (fun _ => ?_) fun _ => ?_ | refine aW ?_ | refine aC ?_ | refine aL ?_ | refine Prep.skip ?_ | refine Eith.l ?_ | refine aD ?_ | refine aB (fun _ => ?_) fun _ => ?_ | refine nthK_mk (map_get (f := Ans.d) hz) ?_ | refine ACall.of hN1 ?_ | refine APCall.of hN1 ?_ | refine ACall.of hE ?_ | refine APCall.of hE ?_ | refine Chk.mk ⟨rfl, by omega, by simp [room]; omega⟩ ?_ | fail)
    all_goals (conv => whnf)
    all_goals first | (exfalso; omega) | skip
    refine ⟨⟨i9 + 1, v9 + 1, n9 + 1, r9 ++ [(entM wAnswer (i9 : Nat) (Ans.parts z)).d]⟩, Wm.end sam rfl rfl rfl, ⟨hlt, ?_, ?_⟩, by show x.a.length - (i9 + 1) < x.a.length - i9; omega⟩
    · show n9 + 1 = (e9 ++ entsM wAnswer Ans.parts (x.a.take (i9 + 1))).length
      rw [entsM_next wAnswer Ans.parts hz, ← List.append_assoc, hn9']; simp only [List.length_append, List.length_cons, List.length_nil] <;> omega
    · show r9 ++ _ = (e9 ++ entsM wAnswer Ans.parts (x.a.take (i9 + 1))).map Ent.d
      rw [entsM_next wAnswer Ans.parts hz, ← List.append_assoc, hr9']; simp
  have hie : i9 = x.a.length := by omega
  subst hie
  rw [List.take_length] at hn9' hr9'
  clear hlt
  obtain ⟨e10, he10⟩ : ∃ e10, e10 = e9 ++ entsM wAnswer Ans.parts x.a := ⟨_, rfl⟩
  rw [← he10] at hn9' hr9'
  have hl10 : e10.length < 2 + 10 * 2 ^ 24 := by
    have := hx.a.1
    rw [he10, List.length_append, entsM_len]; omega
  repeat' ((conv => whnf); first | (with_reducible first | refine dT ?_ | refine dU ?_ | refine dF ?_ | refine dG ?_) | refine aT ?_ | refine aF ?_ | refine dS (fun _ => ?_) fun _ => ?_ | refine aW ?_ | refine aC ?_ | refine aL ?_ | refine Prep.skip ?_ | refine Eith.l ?_ | refine aD ?_ | refine aB (fun _ => ?_) fun _ => ?_ | refine Nam.mk (List.length_map _) ?_ | fail)
  all_goals (conv => whnf)
  all_goals first | (exfalso; omega) | skip
  have z0 : entsM wLine (oneP Lin.part) x.p.lines = [] := by rw [List.eq_nil_of_length_eq_zero h0]; rfl
  have z1 : entsM wNeed Nee.parts x.p.needs = [] := by rw [List.eq_nil_of_length_eq_zero h1]; rfl
  have z2 : entsM wLot Lo.parts x.p.lots = [] := by rw [List.eq_nil_of_length_eq_zero h2]; rfl
  have z3 : entsM wCost (oneP .int) x.p.costs = [] := by rw [List.eq_nil_of_length_eq_zero h3]; rfl
  have z4 : entsM wJob Jo.parts x.p.jobs = [] := by rw [List.eq_nil_of_length_eq_zero h4]; rfl
  have he : e10 = reportM x := by rw [he10, he9, he8, he7, he6, he5]; unfold reportM planM; simp only [List.append_assoc, List.nil_append, z0, z1, z2, z3, z4]
  subst hn9'; subst hr9'; subst he
  have hO := ref42_ordered (reportM x) (by omega)
  repeat' ((conv => whnf); first | refine Nam.mk (y := (reportM x).map Ent.d) (whole (List.length_map _).symm) ?_ | refine Nam.mk (y := (reportM x).map Ent.d) (whole (List.length_map _)) ?_ | (with_reducible first | refine dT ?_ | refine dU ?_ | refine dF ?_ | refine dG ?_) | refine aT ?_ | refine aF ?_ | refine dS (fun _ => ?_) fun _ => ?_ | refine aW ?_ | refine aC ?_ | refine aL ?_ | refine Prep.skip ?_ | refine Eith.l ?_ | refine aD ?_ | refine aB (fun _ => ?_) fun _ => ?_ | refine ACall.of hO ?_ | refine ACall.lift ?_ | fail)
  all_goals (conv => whnf)
  exact DLe.refl _
end Go.PM
