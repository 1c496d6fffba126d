/- Deltas, reference: Report, variants. -/
import Derived.Test.YtfckliidjmeeaaaDoorD42ptoD42u
namespace Go.PM
open Go.Proofs
set_option maxRecDepth 10000
set_option maxHeartbeats 2000000
theorem ref42_Report6 (x : Rep) (hx : x.ok) (hd : dE (reportM x)) (hV : ∀ y ∈ x.v, y.okR) (hA : ∀ y ∈ x.a, y.okR) (h0 : x.p.lines.length = 0) (h1 : x.p.needs.length = 0) (h2 : x.p.lots.length = 0) (h3 : x.p.costs.length = 0) (h4 : x.p.jobs.length = 0) (h5 : x.p.pegs.length = 0) (hlt : 0 < x.p.late.length) : CallP Tryd.prog 13 [.d x.p.d, .d (SL 3 (x.c.map Rat.cells)), .d (SL 4 (x.v.map Ver.d)), .d (SL 4 (x.a.map Ans.d))] (retD [SL 2 ((ordE (reportM x)).map Ent.d)]) := by
  have hN := ref42_numbers [x.p.start, x.p.days] true (by simp) (by
    intro n hn
    simp only [List.mem_cons, List.not_mem_nil, or_false] at hn
    have := hx.p.head.ok
    rcases hn with rfl | rfl
    · exact this (.int x.p.start) (by simp)
    · exact this (.int x.p.days) (by simp))
  refine exPure_sound (E := envOf Tryd.prog tt Tryd.f13.ntmps) (envOf_ok ttok mixed) Tryd.func13 (by rfl) rfl rfl (Nat.le_of_ble_eq_true rfl) ?_
  repeat' ((conv => whnf); first | (with_reducible first | refine dT ?_ | refine dU ?_ | refine dF ?_ | refine dG ?_) | refine aT ?_ | refine aF ?_ | refine dS (fun _ => ?_) fun _ => ?_ | refine aW ?_ | refine aC ?_ | refine aL ?_ | refine Prep.skip ?_ | refine Eith.l ?_ | refine aD ?_ | refine aB (fun _ => ?_) fun _ => ?_ | refine ACall.of hN ?_ | refine APCall.of hN ?_ | refine Nam.mk (List.length_map _) ?_ | fail)
  all_goals (conv => whnf)
  refine ALoop.only [(10, .d (I 0)), (9, .d (.sl 2 true [(headM x.p).d])), (0, .d x.p.d), (1, .d (SL 3 (x.c.map Rat.cells))), (2, .d (SL 4 (x.v.map Ver.d))), (3, .d (SL 4 (x.a.map Ans.d))), (4, .ptr 0 0 0 0)] (by repeat (first | exact trivial | refine And.intro rfl ?_)) ?_
  refine ALoop.rounds 1 ?_
  refine ALoopN.step (E := (envOf Tryd.prog tt Tryd.f13.ntmps)) (envOf_ok ttok mixed) ?_
  repeat' ((conv => whnf); first | (with_reducible first | refine dT ?_ | refine dU ?_ | refine dF ?_ | refine dG ?_) | refine aT ?_ | refine aF ?_ | refine dS (fun _ => ?_) fun _ => ?_ | refine aW ?_ | refine aC ?_ | refine aL ?_ | refine Prep.skip ?_ | refine Eith.l ?_ | refine aD ?_ | refine aB (fun _ => ?_) fun _ => ?_ | refine Nam.mk (List.length_map _) ?_ | fail)
  all_goals (conv => whnf)
  refine ALoop.only [(11, .d (I 0)), (9, .d (.sl 2 true [(headM x.p).d])), (0, .d x.p.d), (1, .d (SL 3 (x.c.map Rat.cells))), (2, .d (SL 4 (x.v.map Ver.d))), (3, .d (SL 4 (x.a.map Ans.d))), (4, .ptr 0 0 0 0)] (by repeat (first | exact trivial | refine And.intro rfl ?_)) ?_
  refine ALoop.rounds 1 ?_
  refine ALoopN.step (E := (envOf Tryd.prog tt Tryd.f13.ntmps)) (envOf_ok ttok mixed) ?_
  repeat' ((conv => whnf); first | (with_reducible first | refine dT ?_ | refine dU ?_ | refine dF ?_ | refine dG ?_) | refine aT ?_ | refine aF ?_ | refine dS (fun _ => ?_) fun _ => ?_ | refine aW ?_ | refine aC ?_ | refine aL ?_ | refine Prep.skip ?_ | refine Eith.l ?_ | refine aD ?_ | refine aB (fun _ => ?_) fun _ => ?_ | refine Nam.mk (List.length_map _) ?_ | fail)
  all_goals (conv => whnf)
  refine ALoop.only [(13, .d (I 0)), (9, .d (.sl 2 true [(headM x.p).d])), (0, .d x.p.d), (1, .d (SL 3 (x.c.map Rat.cells))), (2, .d (SL 4 (x.v.map Ver.d))), (3, .d (SL 4 (x.a.map Ans.d))), (4, .ptr 0 0 0 0)] (by repeat (first | exact trivial | refine And.intro rfl ?_)) ?_
  refine ALoop.rounds 1 ?_
  refine ALoopN.step (E := (envOf Tryd.prog tt Tryd.f13.ntmps)) (envOf_ok ttok mixed) ?_
  repeat' ((conv => whnf); first | (with_reducible first | refine dT ?_ | refine dU ?_ | refine dF ?_ | refine dG ?_) | refine aT ?_ | refine aF ?_ | refine dS (fun _ => ?_) fun _ => ?_ | refine aW ?_ | refine aC ?_ | refine aL ?_ | refine Prep.skip ?_ | refine Eith.l ?_ | refine aD ?_ | refine aB (fun _ => ?_) fun _ => ?_ | refine Nam.mk (List.length_map _) ?_ | fail)
  all_goals (conv => whnf)
  refine ALoop.only [(15, .d (I 0)), (9, .d (.sl 2 true [(headM x.p).d])), (0, .d x.p.d), (1, .d (SL 3 (x.c.map Rat.cells))), (2, .d (SL 4 (x.v.map Ver.d))), (3, .d (SL 4 (x.a.map Ans.d))), (4, .ptr 0 0 0 0)] (by repeat (first | exact trivial | refine And.intro rfl ?_)) ?_
  refine ALoop.rounds 1 ?_
  refine ALoopN.step (E := (envOf Tryd.prog tt Tryd.f13.ntmps)) (envOf_ok ttok mixed) ?_
  repeat' ((conv => whnf); first | (with_reducible first | refine dT ?_ | refine dU ?_ | refine dF ?_ | refine dG ?_) | refine aT ?_ | refine aF ?_ | refine dS (fun _ => ?_) fun _ => ?_ | refine aW ?_ | refine aC ?_ | refine aL ?_ | refine Prep.skip ?_ | refine Eith.l ?_ | refine aD ?_ | refine aB (fun _ => ?_) fun _ => ?_ | refine Nam.mk (List.length_map _) ?_ | fail)
  all_goals (conv => whnf)
  refine ALoop.only [(16, .d (I 0)), (9, .d (.sl 2 true [(headM x.p).d])), (0, .d x.p.d), (1, .d (SL 3 (x.c.map Rat.cells))), (2, .d (SL 4 (x.v.map Ver.d))), (3, .d (SL 4 (x.a.map Ans.d))), (4, .ptr 0 0 0 0)] (by repeat (first | exact trivial | refine And.intro rfl ?_)) ?_
  refine ALoop.rounds 1 ?_
  refine ALoopN.step (E := (envOf Tryd.prog tt Tryd.f13.ntmps)) (envOf_ok ttok mixed) ?_
  repeat' ((conv => whnf); first | (with_reducible first | refine dT ?_ | refine dU ?_ | refine dF ?_ | refine dG ?_) | refine aT ?_ | refine aF ?_ | refine dS (fun _ => ?_) fun _ => ?_ | refine aW ?_ | refine aC ?_ | refine aL ?_ | refine Prep.skip ?_ | refine Eith.l ?_ | refine aD ?_ | refine aB (fun _ => ?_) fun _ => ?_ | refine Nam.mk (List.length_map _) ?_ | fail)
  all_goals (conv => whnf)
  refine ALoop.only [(18, .d (I 0)), (9, .d (.sl 2 true [(headM x.p).d])), (0, .d x.p.d), (1, .d (SL 3 (x.c.map Rat.cells))), (2, .d (SL 4 (x.v.map Ver.d))), (3, .d (SL 4 (x.a.map Ans.d))), (4, .ptr 0 0 0 0)] (by repeat (first | exact trivial | refine And.intro rfl ?_)) ?_
  refine ALoop.rounds 1 ?_
  refine ALoopN.step (E := (envOf Tryd.prog tt Tryd.f13.ntmps)) (envOf_ok ttok mixed) ?_
  repeat' ((conv => whnf); first | (with_reducible first | refine dT ?_ | refine dU ?_ | refine dF ?_ | refine dG ?_) | refine aT ?_ | refine aF ?_ | refine dS (fun _ => ?_) fun _ => ?_ | refine aW ?_ | refine aC ?_ | refine aL ?_ | refine Prep.skip ?_ | refine Eith.l ?_ | refine aD ?_ | refine aB (fun _ => ?_) fun _ => ?_ | refine Nam.mk (List.length_map _) ?_ | fail)
  all_goals (conv => whnf)
  refine ALoop.only [(20, .d (I 0)), (9, .d (.sl 2 true [(headM x.p).d])), (0, .d x.p.d), (1, .d (SL 3 (x.c.map Rat.cells))), (2, .d (SL 4 (x.v.map Ver.d))), (3, .d (SL 4 (x.a.map Ans.d))), (4, .ptr 0 0 0 0)] (by repeat (first | exact trivial | refine And.intro rfl ?_)) ?_
  refine ALoop.peel (E := (envOf Tryd.prog tt Tryd.f13.ntmps)) (envOf_ok ttok mixed) ?_
  obtain ⟨z, hz, _⟩ := drop_get hlt
  have hzm : z ∈ x.p.late := List.mem_of_getElem? hz
  have hzp : okP ((oneP .int) z) := hx.p.late.2 z hzm
  have hm := hx.p.late.1
  have hz1 : okI z := hzp.ok (.int z) (List.mem_singleton.2 rfl)
  have hN1 := ref42_Number z hz1
  have hE := ref42_entry wLate (by decide) ((0 : Nat) : Int) ⟨by omega, by omega⟩ (txt ((oneP .int) z)) (itoa z) rfl
  repeat' ((conv => whnf); first | refine cA ?_ | refine nA ?_ | refine cB ?_ | refine nB ?_ | refine aL ?_ | (with_reducible first | refine dT ?_ | refine dU ?_ | refine dF ?_ | refine dG ?_) | refine aT ?_ | refine aF ?_ | refine dS (fun _ => ?_) fun _ => ?_ | refine aW ?_ | refine aC ?_ | refine aL ?_ | refine Prep.skip ?_ | refine Eith.l ?_ | refine aD ?_ | refine aB (fun _ => ?_) fun _ => ?_ | refine nthK_mk (map_get (f := I) hz) ?_ | refine ACall.of hN1 ?_ | refine APCall.of hN1 ?_ | refine ACall.of hE ?_ | refine APCall.of hE ?_ | fail)
  all_goals (conv => whnf)
  refine ALoop.only [(20, .d (I 1)), (9, .sref 1 0 0 2 false), (0, .d x.p.d), (1, .d (SL 3 (x.c.map Rat.cells))), (2, .d (SL 4 (x.v.map Ver.d))), (3, .d (SL 4 (x.a.map Ans.d))), (4, .ptr 0 0 0 0)] (by repeat (first | exact trivial | refine And.intro rfl ?_)) ?_
  obtain ⟨e6, he6⟩ : ∃ e6, e6 = [headM x.p] := ⟨_, rfl⟩
  have hl6 : e6.length < 2 + 6 * 2 ^ 24 := by rw [he6]; simp
  refine ALoop.at (E := envOf Tryd.prog tt Tryd.f13.ntmps) (envOf_ok ttok mixed) (X := XR) (fun q => [(20, .d (I q.i)), (9, .sref 1 q.v 0 q.n false)]) (fun q => [(1, .row q.v 2 false q.rs)])
    (fun q => q.i ≤ x.p.late.length ∧ q.n = (e6 ++ entsM wLate (oneP .int) (x.p.late.take q.i)).length ∧ q.rs = (e6 ++ entsM wLate (oneP .int) (x.p.late.take q.i)).map Ent.d) (fun q => x.p.late.length - q.i) ⟨1, 0, 2, [(headM x.p).d, (entM wLate (0 : Nat) ((oneP .int) z)).d]⟩ sam rfl ⟨hlt, by rw [List.length_append, entsM_len, List.length_take, he6]; simp; omega, by rw [entsM_next wLate (oneP .int) hz, he6]; rfl⟩ ?_
  clear hE
  clear hz hzp hzm
  rintro ⟨i6, v6, n6, r6⟩ ⟨hi6, hn6', hr6'⟩
  dsimp only at hi6 hn6' hr6'
  dsimp only
  have hrl6 : r6.length = n6 := by rw [hr6', hn6', List.length_map]
  by_cases hlt : i6 < x.p.late.length
  · obtain ⟨z, hz, _⟩ := drop_get hlt
    have hzm : z ∈ x.p.late := List.mem_of_getElem? hz
    have hzp : okP ((oneP .int) z) := hx.p.late.2 z hzm
    have hm := hx.p.late.1
    have hz1 : okI z := hzp.ok (.int z) (List.mem_singleton.2 rfl)
    have hN1 := ref42_Number z hz1
    have hE := ref42_entry wLate (by decide) ((i6 : Nat) : Int) ⟨by omega, by omega⟩ (txt ((oneP .int) z)) (itoa z) rfl
    have hnb : n6 < 2 ^ 28 := by rw [hn6', List.length_append, entsM_len, List.length_take]; omega
    repeat' ((conv => whnf); first | refine cA ?_ | refine nA ?_ | refine cB ?_ | refine nB ?_ | refine aL ?_ | (with_reducible first | refine dT ?_ | refine dU ?_ | refine dF ?_ | refine dG ?_) | refine aT ?_ | refine aF ?_ | refine dS (fun _ => ?_) fun _ => ?_ | refine aW ?_ | refine aC ?_ | refine aL ?_ | refine Prep.skip ?_ | refine Eith.l ?_ | refine aD ?_ | refine aB (fun _ => ?_) fun _ => ?_ | refine nthK_mk (map_get (f := I) hz) ?_ | refine ACall.of hN1 ?_ | refine APCall.of hN1 ?_ | refine ACall.of hE ?_ | refine APCall.of hE ?_ | refine Chk.mk ⟨rfl, by omega, by simp [room]; omega⟩ ?_ | fail)
    all_goals (conv => whnf)
    all_goals first | (exfalso; omega) | skip
    refine ⟨⟨i6 + 1, v6 + 1, n6 + 1, r6 ++ [(entM wLate (i6 : Nat) ((oneP .int) z)).d]⟩, Wm.end sam rfl rfl rfl, ⟨hlt, ?_, ?_⟩, by show x.p.late.length - (i6 + 1) < x.p.late.length - i6; omega⟩
    · show n6 + 1 = (e6 ++ entsM wLate (oneP .int) (x.p.late.take (i6 + 1))).length
      rw [entsM_next wLate (oneP .int) hz, ← List.append_assoc, hn6']; simp only [List.length_append, List.length_cons, List.length_nil] <;> omega
    · show r6 ++ _ = (e6 ++ entsM wLate (oneP .int) (x.p.late.take (i6 + 1))).map Ent.d
      rw [entsM_next wLate (oneP .int) hz, ← List.append_assoc, hr6']; simp
  have hie : i6 = x.p.late.length := by omega
  subst hie
  rw [List.take_length] at hn6' hr6'
  clear hlt
  obtain ⟨e7, he7⟩ : ∃ e7, e7 = e6 ++ entsM wLate (oneP .int) x.p.late := ⟨_, rfl⟩
  rw [← he7] at hn6' hr6'
  have hl7 : e7.length < 2 + 7 * 2 ^ 24 := by
    have := hx.p.late.1
    rw [he7, List.length_append, entsM_len]; omega
  repeat' ((conv => whnf); first | (with_reducible first | refine dT ?_ | refine dU ?_ | refine dF ?_ | refine dG ?_) | refine aT ?_ | refine aF ?_ | refine dS (fun _ => ?_) fun _ => ?_ | refine aW ?_ | refine aC ?_ | refine aL ?_ | refine Prep.skip ?_ | refine Eith.l ?_ | refine aD ?_ | refine aB (fun _ => ?_) fun _ => ?_ | refine Nam.mk (List.length_map _) ?_ | fail)
  all_goals (conv => whnf)
  all_goals first | (exfalso; omega) | skip
  refine ALoop.only [(21, .d (I 0)), (9, .sref 1 v6 0 n6 false), (0, .d x.p.d), (1, .d (SL 3 (x.c.map Rat.cells))), (2, .d (SL 4 (x.v.map Ver.d))), (3, .d (SL 4 (x.a.map Ans.d))), (4, .ptr 0 0 0 0)] (by repeat (first | exact trivial | refine And.intro rfl ?_)) ?_
  refine ALoop.at (E := envOf Tryd.prog tt Tryd.f13.ntmps) (envOf_ok ttok mixed) (X := XR) (fun q => [(21, .d (I q.i)), (9, .sref 1 q.v 0 q.n false)]) (fun q => [(1, .row q.v 2 false q.rs)])
    (fun q => q.i ≤ x.c.length ∧ q.n = (e7 ++ entsM wPrice (oneP .ratio) (x.c.take q.i)).length ∧ q.rs = (e7 ++ entsM wPrice (oneP .ratio) (x.c.take q.i)).map Ent.d) (fun q => x.c.length - q.i) ⟨0, v6, n6, r6⟩ sam rfl ⟨Nat.zero_le _, by rw [List.take_zero, entsM_nil, List.append_nil]; exact hn6', by rw [List.take_zero, entsM_nil, List.append_nil]; exact hr6'⟩ ?_
  rintro ⟨i7, v7, n7, r7⟩ ⟨hi7, hn7', hr7'⟩
  dsimp only at hi7 hn7' hr7'
  dsimp only
  have hrl7 : r7.length = n7 := by rw [hr7', hn7', List.length_map]
  by_cases hlt : i7 < x.c.length
  · obtain ⟨z, hz, _⟩ := drop_get hlt
    have hzm : z ∈ x.c := List.mem_of_getElem? hz
    have hzp : okP ((oneP .ratio) z) := hx.c.2 z hzm
    have hm := hx.c.1
    obtain ⟨hr1, hr2⟩ := (show (Part.ratio z).ok from hzp.ok _ (List.mem_singleton.2 rfl))
    have hN1 := ref42_Ratio z hr1 hr2
    have hE := ref42_entry wPrice (by decide) ((i7 : Nat) : Int) ⟨by omega, by omega⟩ (txt ((oneP .ratio) z)) (ratM z) rfl
    have hnb : n7 < 2 ^ 28 := by rw [hn7', List.length_append, entsM_len, List.length_take]; omega
    repeat' ((conv => whnf); first | refine cA ?_ | refine nA ?_ | refine cB ?_ | refine nB ?_ | refine aL ?_ | (with_reducible first | refine dT ?_ | refine dU ?_ | refine dF ?_ | refine dG ?_) | refine aT ?_ | refine aF ?_ | refine dS (fun _ => ?_) fun _ => ?_ | refine aW ?_ | refine aC ?_ | refine aL ?_ | refine Prep.skip ?_ | refine Eith.l ?_ | refine aD ?_ | refine aB (fun _ => ?_) fun _ => ?_ | refine nthK_mk (map_get (f := Rat.cells) hz) ?_ | refine ACall.of hN1 ?_ | refine APCall.of hN1 ?_ | refine ACall.of hE ?_ | refine APCall.of hE ?_ | refine Chk.mk ⟨rfl, by omega, by simp [room]; omega⟩ ?_ | fail)
    all_goals (conv => whnf)
    all_goals first | (exfalso; omega) | skip
    refine ⟨⟨i7 + 1, v7 + 1, n7 + 1, r7 ++ [(entM wPrice (i7 : Nat) ((oneP .ratio) z)).d]⟩, Wm.end sam rfl rfl rfl, ⟨hlt, ?_, ?_⟩, by show x.c.length - (i7 + 1) < x.c.length - i7; omega⟩
    · show n7 + 1 = (e7 ++ entsM wPrice (oneP .ratio) (x.c.take (i7 + 1))).length
      rw [entsM_next wPrice (oneP .ratio) hz, ← List.append_assoc, hn7']; simp only [List.length_append, List.length_cons, List.length_nil] <;> omega
    · show r7 ++ _ = (e7 ++ entsM wPrice (oneP .ratio) (x.c.take (i7 + 1))).map Ent.d
      rw [entsM_next wPrice (oneP .ratio) hz, ← List.append_assoc, hr7']; simp
  have hie : i7 = x.c.length := by omega
  subst hie
  rw [List.take_length] at hn7' hr7'
  clear hlt
  obtain ⟨e8, he8⟩ : ∃ e8, e8 = e7 ++ entsM wPrice (oneP .ratio) x.c := ⟨_, rfl⟩
  rw [← he8] at hn7' hr7'
  have hl8 : e8.length < 2 + 8 * 2 ^ 24 := by
    have := hx.c.1
    rw [he8, List.length_append, entsM_len]; omega
  repeat' ((conv => whnf); first | (with_reducible first | refine dT ?_ | refine dU ?_ | refine dF ?_ | refine dG ?_) | refine aT ?_ | refine aF ?_ | refine dS (fun _ => ?_) fun _ => ?_ | refine aW ?_ | refine aC ?_ | refine aL ?_ | refine Prep.skip ?_ | refine Eith.l ?_ | refine aD ?_ | refine aB (fun _ => ?_) fun _ => ?_ | refine Nam.mk (List.length_map _) ?_ | fail)
  all_goals (conv => whnf)
  all_goals first | (exfalso; omega) | skip
  refine ALoop.only [(22, .d (I 0)), (9, .sref 1 v7 0 n7 false), (0, .d x.p.d), (1, .d (SL 3 (x.c.map Rat.cells))), (2, .d (SL 4 (x.v.map Ver.d))), (3, .d (SL 4 (x.a.map Ans.d))), (4, .ptr 0 0 0 0)] (by repeat (first | exact trivial | refine And.intro rfl ?_)) ?_
  refine ALoop.at (E := envOf Tryd.prog tt Tryd.f13.ntmps) (envOf_ok ttok mixed) (X := XR) (fun q => [(22, .d (I q.i)), (9, .sref 1 q.v 0 q.n false)]) (fun q => [(1, .row q.v 2 false q.rs)])
    (fun q => q.i ≤ x.v.length ∧ q.n = (e8 ++ entsM wVerdict Ver.parts (x.v.take q.i)).length ∧ q.rs = (e8 ++ entsM wVerdict Ver.parts (x.v.take q.i)).map Ent.d) (fun q => x.v.length - q.i) ⟨0, v7, n7, r7⟩ sam rfl ⟨Nat.zero_le _, by rw [List.take_zero, entsM_nil, List.append_nil]; exact hn7', by rw [List.take_zero, entsM_nil, List.append_nil]; exact hr7'⟩ ?_
  rintro ⟨i8, v8, n8, r8⟩ ⟨hi8, hn8', hr8'⟩
  dsimp only at hi8 hn8' hr8'
  dsimp only
  have hrl8 : r8.length = n8 := by rw [hr8', hn8', List.length_map]
  by_cases hlt : i8 < x.v.length
  · obtain ⟨z, hz, _⟩ := drop_get hlt
    have hzm : z ∈ x.v := List.mem_of_getElem? hz
    have hzp : okP (Ver.parts z) := hx.v.2 z hzm
    have hm := hx.v.1
    have hN1 := ref42_verdict z (hV z hzm)
    have hE := ref42_entry wVerdict (by decide) ((i8 : Nat) : Int) ⟨by omega, by omega⟩ (txt (Ver.parts z)) (txt z.parts) rfl
    have hnb : n8 < 2 ^ 28 := by rw [hn8', List.length_append, entsM_len, List.length_take]; omega
    repeat' ((conv => whnf); first | refine cA ?_ | refine nA ?_ | refine cB ?_ | refine nB ?_ | refine aL ?_ | (with_reducible first | refine dT ?_ | refine dU ?_ | refine dF ?_ | refine dG ?_) | refine aT ?_ | refine aF ?_ | refine dS (fun _ => ?_) fun _ => ?_ | refine aW ?_ | refine aC ?_ | refine aL ?_ | refine Prep.skip ?_ | refine Eith.l ?_ | refine aD ?_ | refine aB (fun _ => ?_) fun _ => ?_ | refine nthK_mk (map_get (f := Ver.d) hz) ?_ | refine ACall.of hN1 ?_ | refine APCall.of hN1 ?_ | refine ACall.of hE ?_ | refine APCall.of hE ?_ | refine Chk.mk ⟨rfl, by omega, by simp [room]; omega⟩ ?_ | fail)
    all_goals (conv => whnf)
    all_goals first | (exfalso; omega) | skip
    refine ⟨⟨i8 + 1, v8 + 1, n8 + 1, r8 ++ [(entM wVerdict (i8 : Nat) (Ver.parts z)).d]⟩, Wm.end sam rfl rfl rfl, ⟨hlt, ?_, ?_⟩, by show x.v.length - (i8 + 1) < x.v.length - i8; omega⟩
    · show n8 + 1 = (e8 ++ entsM wVerdict Ver.parts (x.v.take (i8 + 1))).length
      rw [entsM_next wVerdict Ver.parts hz, ← List.append_assoc, hn8']; simp only [List.length_append, List.length_cons, List.length_nil] <;> omega
    · show r8 ++ _ = (e8 ++ entsM wVerdict Ver.parts (x.v.take (i8 + 1))).map Ent.d
      rw [entsM_next wVerdict Ver.parts hz, ← List.append_assoc, hr8']; simp
  have hie : i8 = x.v.length := by omega
  subst hie
  rw [List.take_length] at hn8' hr8'
  clear hlt
  obtain ⟨e9, he9⟩ : ∃ e9, e9 = e8 ++ entsM wVerdict Ver.parts x.v := ⟨_, rfl⟩
  rw [← he9] at hn8' hr8'
  have hl9 : e9.length < 2 + 9 * 2 ^ 24 := by
    have := hx.v.1
    rw [he9, List.length_append, entsM_len]; omega
  repeat' ((conv => whnf); first | (with_reducible first | refine dT ?_ | refine dU ?_ | refine dF ?_ | refine dG ?_) | refine aT ?_ | refine aF ?_ | refine dS (fun _ => ?_) fun _ => ?_ | refine aW ?_ | refine aC ?_ | refine aL ?_ | refine Prep.skip ?_ | refine Eith.l ?_ | refine aD ?_ | refine aB (fun _ => ?_) fun _ => ?_ | refine Nam.mk (List.length_map _) ?_ | fail)
  all_goals (conv => whnf)
  all_goals first | (exfalso; omega) | skip
  refine ALoop.only [(23, .d (I 0)), (9, .sref 1 v8 0 n8 false), (0, .d x.p.d), (1, .d (SL 3 (x.c.map Rat.cells))), (2, .d (SL 4 (x.v.map Ver.d))), (3, .d (SL 4 (x.a.map Ans.d))), (4, .ptr 0 0 0 0)] (by repeat (first | exact trivial | refine And.intro rfl ?_)) ?_
  refine ALoop.at (E := envOf Tryd.prog tt Tryd.f13.ntmps) (envOf_ok ttok mixed) (X := XR) (fun q => [(23, .d (I q.i)), (9, .sref 1 q.v 0 q.n false)]) (fun q => [(1, .row q.v 2 false q.rs)])
    (fun q => q.i ≤ x.a.length ∧ q.n = (e9 ++ entsM wAnswer Ans.parts (x.a.take q.i)).length ∧ q.rs = (e9 ++ entsM wAnswer Ans.parts (x.a.take q.i)).map Ent.d) (fun q => x.a.length - q.i) ⟨0, v8, n8, r8⟩ sam rfl ⟨Nat.zero_le _, by rw [List.take_zero, entsM_nil, List.append_nil]; exact hn8', by rw [List.take_zero, entsM_nil, List.append_nil]; exact hr8'⟩ ?_
  rintro ⟨i9, v9, n9, r9⟩ ⟨hi9, hn9', hr9'⟩
  dsimp only at hi9 hn9' hr9'
  dsimp only
  have hrl9 : r9.length = n9 := by rw [hr9', hn9', List.length_map]
  by_cases hlt : i9 < x.a.length
  · obtain ⟨z, hz, _⟩ := drop_get hlt
    have hzm : z ∈ x.a := List.mem_of_getElem? hz
    have hzp : okP (Ans.parts z) := hx.a.2 z hzm
    have hm := hx.a.1
    have hN1 := ref42_answer z (hA z hzm)
    have hE := ref42_entry wAnswer (by decide) ((i9 : Nat) : Int) ⟨by omega, by omega⟩ (txt (Ans.parts z)) (txt z.parts) rfl
    have hnb : n9 < 2 ^ 28 := by rw [hn9', List.length_append, entsM_len, List.length_take]; omega
    repeat' ((conv => whnf); first | refine cA ?_ | refine nA ?_ | refine cB ?_ | refine nB ?_ | refine aL ?_ | (with_reducible first | refine dT ?_ | refine dU ?_ | refine dF ?_ | refine dG ?_) | refine aT ?_ | refine aF ?_ | refine dS (fun _ => ?_) fun _ => ?_ | refine aW ?_ | refine aC ?_ | refine aL ?_ | refine Prep.skip ?_ | refine Eith.l ?_ | refine aD ?_ | refine aB (fun _ => ?_) fun _ => ?_ | refine nthK_mk (map_get (f := Ans.d) hz) ?_ | refine ACall.of hN1 ?_ | refine APCall.of hN1 ?_ | refine ACall.of hE ?_ | refine APCall.of hE ?_ | refine Chk.mk ⟨rfl, by omega, by simp [room]; omega⟩ ?_ | fail)
    all_goals (conv => whnf)
    all_goals first | (exfalso; omega) | skip
    refine ⟨⟨i9 + 1, v9 + 1, n9 + 1, r9 ++ [(entM wAnswer (i9 : Nat) (Ans.parts z)).d]⟩, Wm.end sam rfl rfl rfl, ⟨hlt, ?_, ?_⟩, by show x.a.length - (i9 + 1) < x.a.length - i9; omega⟩
    · show n9 + 1 = (e9 ++ entsM wAnswer Ans.parts (x.a.take (i9 + 1))).length
      rw [entsM_next wAnswer Ans.parts hz, ← List.append_assoc, hn9']; simp only [List.length_append, List.length_cons, List.length_nil] <;> omega
    · show r9 ++ _ = (e9 ++ entsM wAnswer Ans.parts (x.a.take (i9 + 1))).map Ent.d
      rw [entsM_next wAnswer Ans.parts hz, ← List.append_assoc, hr9']; simp
  have hie : i9 = x.a.length := by omega
  subst hie
  rw [List.take_length] at hn9' hr9'
  clear hlt
  obtain ⟨e10, he10⟩ : ∃ e10, e10 = e9 ++ entsM wAnswer Ans.parts x.a := ⟨_, rfl⟩
  rw [← he10] at hn9' hr9'
  have hl10 : e10.length < 2 + 10 * 2 ^ 24 := by
    have := hx.a.1
    rw [he10, List.length_append, entsM_len]; omega
  repeat' ((conv => whnf); first | (with_reducible first | refine dT ?_ | refine dU ?_ | refine dF ?_ | refine dG ?_) | refine aT ?_ | refine aF ?_ | refine dS (fun _ => ?_) fun _ => ?_ | refine aW ?_ | refine aC ?_ | refine aL ?_ | refine Prep.skip ?_ | refine Eith.l ?_ | refine aD ?_ | refine aB (fun _ => ?_) fun _ => ?_ | refine Nam.mk (List.length_map _) ?_ | fail)
  all_goals (conv => whnf)
  all_goals first | (exfalso; omega) | skip
  have z0 : entsM wLine (oneP Lin.part) x.p.lines = [] := by rw [List.eq_nil_of_length_eq_zero h0]; rfl
  have z1 : entsM wNeed Nee.parts x.p.needs = [] := by rw [List.eq_nil_of_length_eq_zero h1]; rfl
  have z2 : entsM wLot Lo.parts x.p.lots = [] := by rw [List.eq_nil_of_length_eq_zero h2]; rfl
  have z3 : entsM wCost (oneP .int) x.p.costs = [] := by rw [List.eq_nil_of_length_eq_zero h3]; rfl
  have z4 : entsM wJob Jo.parts x.p.jobs = [] := by rw [List.eq_nil_of_length_eq_zero h4]; rfl
  have z5 : entsM wPeg Pe.parts x.p.pegs = [] := by rw [List.eq_nil_of_length_eq_zero h5]; rfl
  have he : e10 = reportM x := by rw [he10, he9, he8, he7, he6]; unfold reportM planM; simp only [List.append_assoc, List.nil_append, z0, z1, z2, z3, z4, z5]
  subst hn9'; subst hr9'; subst he
  have hO := ref42_ordered (reportM x) (by omega)
  repeat' ((conv => whnf); first | refine Nam.mk (y := (reportM x).map Ent.d) (whole (List.length_map _).symm) ?_ | refine Nam.mk (y := (reportM x).map Ent.d) (whole (List.length_map _)) ?_ | (with_reducible first | refine dT ?_ | refine dU ?_ | refine dF ?_ | refine dG ?_) | refine aT ?_ | refine aF ?_ | refine dS (fun _ => ?_) fun _ => ?_ | refine aW ?_ | refine aC ?_ | refine aL ?_ | refine Prep.skip ?_ | refine Eith.l ?_ | refine aD ?_ | refine aB (fun _ => ?_) fun _ => ?_ | refine ACall.of hO ?_ | refine ACall.lift ?_ | fail)
  all_goals (conv => whnf)
  exact DLe.refl _
theorem ref42_Report7 (x : Rep) (hx : x.ok) (hd : dE (reportM x)) (hV : ∀ y ∈ x.v, y.okR) (hA : ∀ y ∈ x.a, y.okR) (h0 : x.p.lines.length = 0) (h1 : x.p.needs.length = 0) (h2 : x.p.lots.length = 0) (h3 : x.p.costs.length = 0) (h4 : x.p.jobs.length = 0) (h5 : x.p.pegs.length = 0) (h6 : x.p.late.length = 0) (hlt : 0 < x.c.length) : CallP Tryd.prog 13 [.d x.p.d, .d (SL 3 (x.c.map Rat.cells)), .d (SL 4 (x.v.map Ver.d)), .d (SL 4 (x.a.map Ans.d))] (retD [SL 2 ((ordE (reportM x)).map Ent.d)]) := by
  have hN := ref42_numbers [x.p.start, x.p.days] true (by simp) (by
    intro n hn
    simp only [List.mem_cons, List.not_mem_nil, or_false] at hn
    have := hx.p.head.ok
    rcases hn with rfl | rfl
    · exact this (.int x.p.start) (by simp)
    · exact this (.int x.p.days) (by simp))
  refine exPure_sound (E := envOf Tryd.prog tt Tryd.f13.ntmps) (envOf_ok ttok mixed) Tryd.func13 (by rfl) rfl rfl (Nat.le_of_ble_eq_true rfl) ?_
  repeat' ((conv => whnf); first | (with_reducible first | refine dT ?_ | refine dU ?_ | refine dF ?_ | refine dG ?_) | refine aT ?_ | refine aF ?_ | refine dS (fun _ => ?_) fun _ => ?_ | refine aW ?_ | refine aC ?_ | refine aL ?_ | refine Prep.skip ?_ | refine Eith.l ?_ | refine aD ?_ | refine aB (fun _ => ?_) fun _ => ?_ | refine ACall.of hN ?_ | refine APCall.of hN ?_ | refine Nam.mk (List.length_map _) ?_ | fail)
  all_goals (conv => whnf)
  refine ALoop.only [(10, .d (I 0)), (9, .d (.sl 2 true [(headM x.p).d])), (0, .d x.p.d), (1, .d (SL 3 (x.c.map Rat.cells))), (2, .d (SL 4 (x.v.map Ver.d))), (3, .d (SL 4 (x.a.map Ans.d))), (4, .ptr 0 0 0 0)] (by repeat (first | exact trivial | refine And.intro rfl ?_)) ?_
  refine ALoop.rounds 1 ?_
  refine ALoopN.step (E := (envOf Tryd.prog tt Tryd.f13.ntmps)) (envOf_ok ttok mixed) ?_
  repeat' ((conv => whnf); first | (with_reducible first | refine dT ?_ | refine dU ?_ | refine dF ?_ | refine dG ?_) | refine aT ?_ | refine aF ?_ | refine dS (fun _ => ?_) fun _ => ?_ | refine aW ?_ | refine aC ?_ | refine aL ?_ | refine Prep.skip ?_ | refine Eith.l ?_ | refine aD ?_ | refine aB (fun _ => ?_) fun _ => ?_ | refine Nam.mk (List.length_map _) ?_ | fail)
  all_goals (conv => whnf)
  refine ALoop.only [(11, .d (I 0)), (9, .d (.sl 2 true [(headM x.p).d])), (0, .d x.p.d), (1, .d (SL 3 (x.c.map Rat.cells))), (2, .d (SL 4 (x.v.map Ver.d))), (3, .d (SL 4 (x.a.map Ans.d))), (4, .ptr 0 0 0 0)] (by repeat (first | exact trivial | refine And.intro rfl ?_)) ?_
  refine ALoop.rounds 1 ?_
  refine ALoopN.step (E := (envOf Tryd.prog tt Tryd.f13.ntmps)) (envOf_ok ttok mixed) ?_
  repeat' ((conv => whnf); first | (with_reducible first | refine dT ?_ | refine dU ?_ | refine dF ?_ | refine dG ?_) | refine aT ?_ | refine aF ?_ | refine dS (fun _ => ?_) fun _ => ?_ | refine aW ?_ | refine aC ?_ | refine aL ?_ | refine Prep.skip ?_ | refine Eith.l ?_ | refine aD ?_ | refine aB (fun _ => ?_) fun _ => ?_ | refine Nam.mk (List.length_map _) ?_ | fail)
  all_goals (conv => whnf)
  refine ALoop.only [(13, .d (I 0)), (9, .d (.sl 2 true [(headM x.p).d])), (0, .d x.p.d), (1, .d (SL 3 (x.c.map Rat.cells))), (2, .d (SL 4 (x.v.map Ver.d))), (3, .d (SL 4 (x.a.map Ans.d))), (4, .ptr 0 0 0 0)] (by repeat (first | exact trivial | refine And.intro rfl ?_)) ?_
  refine ALoop.rounds 1 ?_
  refine ALoopN.step (E := (envOf Tryd.prog tt Tryd.f13.ntmps)) (envOf_ok ttok mixed) ?_
  repeat' ((conv => whnf); first | (with_reducible first | refine dT ?_ | refine dU ?_ | refine dF ?_ | refine dG ?_) | refine aT ?_ | refine aF ?_ | refine dS (fun _ => ?_) fun _ => ?_ | refine aW ?_ | refine aC ?_ | refine aL ?_ | refine Prep.skip ?_ | refine Eith.l ?_ | refine aD ?_ | refine aB (fun _ => ?_) fun _ => ?_ | refine Nam.mk (List.length_map _) ?_ | fail)
  all_goals (conv => whnf)
  refine ALoop.only [(15, .d (I 0)), (9, .d (.sl 2 true [(headM x.p).d])), (0, .d x.p.d), (1, .d (SL 3 (x.c.map Rat.cells))), (2, .d (SL 4 (x.v.map Ver.d))), (3, .d (SL 4 (x.a.map Ans.d))), (4, .ptr 0 0 0 0)] (by repeat (first | exact trivial | refine And.intro rfl ?_)) ?_
  refine ALoop.rounds 1 ?_
  refine ALoopN.step (E := (envOf Tryd.prog tt Tryd.f13.ntmps)) (envOf_ok ttok mixed) ?_
  repeat' ((conv => whnf); first | (with_reducible first | refine dT ?_ | refine dU ?_ | refine dF ?_ | refine dG ?_) | refine aT ?_ | refine aF ?_ | refine dS (fun _ => ?_) fun _ => ?_ | refine aW ?_ | refine aC ?_ | refine aL ?_ | refine Prep.skip ?_ | refine Eith.l ?_ | refine aD ?_ | refine aB (fun _ => ?_) fun _ => ?_ | refine Nam.mk (List.length_map _) ?_ | fail)
  all_goals (conv => whnf)
  refine ALoop.only [(16, .d (I 0)), (9, .d (.sl 2 true [(headM x.p).d])), (0, .d x.p.d), (1, .d (SL 3 (x.c.map Rat.cells))), (2, .d (SL 4 (x.v.map Ver.d))), (3, .d (SL 4 (x.a.map Ans.d))), (4, .ptr 0 0 0 0)] (by repeat (first | exact trivial | refine And.intro rfl ?_)) ?_
  refine ALoop.rounds 1 ?_
  refine ALoopN.step (E := (envOf Tryd.prog tt Tryd.f13.ntmps)) (envOf_ok ttok mixed) ?_
  repeat' ((conv => whnf); first | (with_reducible first | refine dT ?_ | refine dU ?_ | refine dF ?_ | refine dG ?_) | refine aT ?_ | refine aF ?_ | refine dS (fun _ => ?_) fun _ => ?_ | refine aW ?_ | refine aC ?_ | refine aL ?_ | refine Prep.skip ?_ | refine Eith.l ?_ | refine aD ?_ | refine aB (fun _ => ?_) fun _ => ?_ | refine Nam.mk (List.length_map _) ?_ | fail)
  all_goals (conv => whnf)
  refine ALoop.only [(18, .d (I 0)), (9, .d (.sl 2 true [(headM x.p).d])), (0, .d x.p.d), (1, .d (SL 3 (x.c.map Rat.cells))), (2, .d (SL 4 (x.v.map Ver.d))), (3, .d (SL 4 (x.a.map Ans.d))), (4, .ptr 0 0 0 0)] (by repeat (first | exact trivial | refine And.intro rfl ?_)) ?_
  refine ALoop.rounds 1 ?_
  refine ALoopN.step (E := (envOf Tryd.prog tt Tryd.f13.ntmps)) (envOf_ok ttok mixed) ?_
  repeat' ((conv => whnf); first | (with_reducible first | refine dT ?_ | refine dU ?_ | refine dF ?_ | refine dG ?_) | refine aT ?_ | refine aF ?_ | refine dS (fun _ => ?_) fun _ => ?_ | refine aW ?_ | refine aC ?_ | refine aL ?_ | refine Prep.skip ?_ | refine Eith.l ?_ | refine aD ?_ | refine aB (fun _ => ?_) fun _ => ?_ | refine Nam.mk (List.length_map _) ?_ | fail)
  all_goals (conv => whnf)
  refine ALoop.only [(20, .d (I 0)), (9, .d (.sl 2 true [(headM x.p).d])), (0, .d x.p.d), (1, .d (SL 3 (x.c.map Rat.cells))), (2, .d (SL 4 (x.v.map Ver.d))), (3, .d (SL 4 (x.a.map Ans.d))), (4, .ptr 0 0 0 0)] (by repeat (first | exact trivial | refine And.intro rfl ?_)) ?_
  refine ALoop.rounds 1 ?_
  refine ALoopN.step (E := (envOf Tryd.prog tt Tryd.f13.ntmps)) (envOf_ok ttok mixed) ?_
  repeat' ((conv => whnf); first | (with_reducible first | refine dT ?_ | refine dU ?_ | refine dF ?_ | refine dG ?_) | refine aT ?_ | refine aF ?_ | refine dS (fun _ => ?_) fun _ => ?_ | refine aW ?_ | refine aC ?_ | refine aL ?_ | refine Prep.skip ?_ | refine Eith.l ?_ | refine aD ?_ | refine aB (fun _ => ?_) fun _ => ?_ | refine Nam.mk (List.length_map _) ?_ | fail)
  all_goals (conv => whnf)
  refine ALoop.only [(21, .d (I 0)), (9, .d (.sl 2 true [(headM x.p).d])), (0, .d x.p.d), (1, .d (SL 3 (x.c.map Rat.cells))), (2, .d (SL 4 (x.v.map Ver.d))), (3, .d (SL 4 (x.a.map Ans.d))), (4, .ptr 0 0 0 0)] (by repeat (first | exact trivial | refine And.intro rfl ?_)) ?_
  refine ALoop.peel (E := (envOf Tryd.prog tt Tryd.f13.ntmps)) (envOf_ok ttok mixed) ?_
  obtain ⟨z, hz, _⟩ := drop_get hlt
  have hzm : z ∈ x.c := List.mem_of_getElem? hz
  have hzp : okP ((oneP .ratio) z) := hx.c.2 z hzm
  have hm := hx.c.1
  obtain ⟨hr1, hr2⟩ := (show (Part.ratio z).ok from hzp.ok _ (List.mem_singleton.2 rfl))
  have hN1 := ref42_Ratio z hr1 hr2
  have hE := ref42_entry wPrice (by decide) ((0 : Nat) : Int) ⟨by omega, by omega⟩ (txt ((oneP .ratio) z)) (ratM z) rfl
  repeat' ((conv => whnf); first | refine cA ?_ | refine nA ?_ | refine cB ?_ | refine nB ?_ | refine aL ?_ | (with_reducible first | refine dT ?_ | refine dU ?_ | refine dF ?_ | refine dG ?_) | refine aT ?_ | refine aF ?_ | refine dS (fun _ => ?_) fun _ => ?_ | refine aW ?_ | refine aC ?_ | refine aL ?_ | refine Prep.skip ?_ | refine Eith.l ?_ | refine aD ?_ | refine aB (fun _ => ?_) fun _ => ?_ | refine nthK_mk (map_get (f := Rat.cells) hz) ?_ | refine ACall.of hN1 ?_ | refine APCall.of hN1 ?_ | refine ACall.of hE ?_ | refine APCall.of hE ?_ | fail)
  all_goals (conv => whnf)
  refine ALoop.only [(21, .d (I 1)), (9, .sref 1 0 0 2 false), (0, .d x.p.d), (1, .d (SL 3 (x.c.map Rat.cells))), (2, .d (SL 4 (x.v.map Ver.d))), (3, .d (SL 4 (x.a.map Ans.d))), (4, .ptr 0 0 0 0)] (by repeat (first | exact trivial | refine And.intro rfl ?_)) ?_
  obtain ⟨e7, he7⟩ : ∃ e7, e7 = [headM x.p] := ⟨_, rfl⟩
  have hl7 : e7.length < 2 + 7 * 2 ^ 24 := by rw [he7]; simp
  refine ALoop.at (E := envOf Tryd.prog tt Tryd.f13.ntmps) (envOf_ok ttok mixed) (X := XR) (fun q => [(21, .d (I q.i)), (9, .sref 1 q.v 0 q.n false)]) (fun q => [(1, .row q.v 2 false q.rs)])
    (fun q => q.i ≤ x.c.length ∧ q.n = (e7 ++ entsM wPrice (oneP .ratio) (x.c.take q.i)).length ∧ q.rs = (e7 ++ entsM wPrice (oneP .ratio) (x.c.take q.i)).map Ent.d) (fun q => x.c.length - q.i) ⟨1, 0, 2, [(headM x.p).d, (entM wPrice (0 : Nat) ((oneP .ratio) z)).d]⟩ sam rfl ⟨hlt, by rw [List.length_append, entsM_len, List.length_take, he7]; simp; omega, by rw [entsM_next wPrice (oneP .ratio) hz, he7]; rfl⟩ ?_
  clear hE
  clear hz hzp hzm
  rintro ⟨i7, v7, n7, r7⟩ ⟨hi7, hn7', hr7'⟩
  dsimp only at hi7 hn7' hr7'
  dsimp only
  have hrl7 : r7.length = n7 := by rw [hr7', hn7', List.length_map]
  by_cases hlt : i7 < x.c.length
  · obtain ⟨z, hz, _⟩ := drop_get hlt
    have hzm : z ∈ x.c := List.mem_of_getElem? hz
    have hzp : okP ((oneP .ratio) z) := hx.c.2 z hzm
    have hm := hx.c.1
    obtain ⟨hr1, hr2⟩ := (show (Part.ratio z).ok from hzp.ok _ (List.mem_singleton.2 rfl))
    have hN1 := ref42_Ratio z hr1 hr2
    have hE := ref42_entry wPrice (by decide) ((i7 : Nat) : Int) ⟨by omega, by omega⟩ (txt ((oneP .ratio) z)) (ratM z) rfl
    have hnb : n7 < 2 ^ 28 := by rw [hn7', List.length_append, entsM_len, List.length_take]; omega
    repeat' ((conv => whnf); first | refine cA ?_ | refine nA ?_ | refine cB ?_ | refine nB ?_ | refine aL ?_ | (with_reducible first | refine dT ?_ | refine dU ?_ | refine dF ?_ | refine dG ?_) | refine aT ?_ | refine aF ?_ | refine dS (fun _ => ?_) fun _ => ?_ | refine aW ?_ | refine aC ?_ | refine aL ?_ | refine Prep.skip ?_ | refine Eith.l ?_ | refine aD ?_ | refine aB (fun _ => ?_) fun _ => ?_ | refine nthK_mk (map_get (f := Rat.cells) hz) ?_ | refine ACall.of hN1 ?_ | refine APCall.of hN1 ?_ | refine ACall.of hE ?_ | refine APCall.of hE ?_ | refine Chk.mk ⟨rfl, by omega, by simp [room]; omega⟩ ?_ | fail)
    all_goals (conv => whnf)
    all_goals first | (exfalso; omega) | skip
    refine ⟨⟨i7 + 1, v7 + 1, n7 + 1, r7 ++ [(entM wPrice (i7 : Nat) ((oneP .ratio) z)).d]⟩, Wm.end sam rfl rfl rfl, ⟨hlt, ?_, ?_⟩, by show x.c.length - (i7 + 1) < x.c.length - i7; omega⟩
    · show n7 + 1 = (e7 ++ entsM wPrice (oneP .ratio) (x.c.take (i7 + 1))).length
      rw [entsM_next wPrice (oneP .ratio) hz, ← List.append_assoc, hn7']; simp only [List.length_append, List.length_cons, List.length_nil] <;> omega
    · show r7 ++ _ = (e7 ++ entsM wPrice (oneP .ratio) (x.c.take (i7 + 1))).map Ent.d
      rw [entsM_next wPrice (oneP .ratio) hz, ← List.append_assoc, hr7']; simp
  have hie : i7 = x.c.length := by omega
  subst hie
  rw [List.take_length] at hn7' hr7'
  clear hlt
  obtain ⟨e8, he8⟩ : ∃ e8, e8 = e7 ++ entsM wPrice (oneP .ratio) x.c := ⟨_, rfl⟩
  rw [← he8] at hn7' hr7'
  have hl8 : e8.length < 2 + 8 * 2 ^ 24 := by
    have := hx.c.1
    rw [he8, List.length_append, entsM_len]; omega
  repeat' ((conv => whnf); first | (with_reducible first | refine dT ?_ | refine dU ?_ | refine dF ?_ | refine dG ?_) | refine aT ?_ | refine aF ?_ | refine dS (fun _ => ?_) fun _ => ?_ | refine aW ?_ | refine aC ?_ | refine aL ?_ | refine Prep.skip ?_ | refine Eith.l ?_ | refine aD ?_ | refine aB (fun _ => ?_) fun _ => ?_ | refine Nam.mk (List.length_map _) ?_ | fail)
  all_goals (conv => whnf)
  all_goals first | (exfalso; omega) | skip
  refine ALoop.only [(22, .d (I 0)), (9, .sref 1 v7 0 n7 false), (0, .d x.p.d), (1, .d (SL 3 (x.c.map Rat.cells))), (2, .d (SL 4 (x.v.map Ver.d))), (3, .d (SL 4 (x.a.map Ans.d))), (4, .ptr 0 0 0 0)] (by repeat (first | exact trivial | refine And.intro rfl ?_)) ?_
  refine ALoop.at (E := envOf Tryd.prog tt Tryd.f13.ntmps) (envOf_ok ttok mixed) (X := XR) (fun q => [(22, .d (I q.i)), (9, .sref 1 q.v 0 q.n false)]) (fun q => [(1, .row q.v 2 false q.rs)])
    (fun q => q.i ≤ x.v.length ∧ q.n = (e8 ++ entsM wVerdict Ver.parts (x.v.take q.i)).length ∧ q.rs = (e8 ++ entsM wVerdict Ver.parts (x.v.take q.i)).map Ent.d) (fun q => x.v.length - q.i) ⟨0, v7, n7, r7⟩ sam rfl ⟨Nat.zero_le _, by rw [List.take_zero, entsM_nil, List.append_nil]; exact hn7', by rw [List.take_zero, entsM_nil, List.append_nil]; exact hr7'⟩ ?_
  rintro ⟨i8, v8, n8, r8⟩ ⟨hi8, hn8', hr8'⟩
  dsimp only at hi8 hn8' hr8'
  dsimp only
  have hrl8 : r8.length = n8 := by rw [hr8', hn8', List.length_map]
  by_cases hlt : i8 < x.v.length
  · obtain ⟨z, hz, _⟩ := drop_get hlt
    have hzm : z ∈ x.v := List.mem_of_getElem? hz
    have hzp : okP (Ver.parts z) := hx.v.2 z hzm
    have hm := hx.v.1
    have hN1 := ref42_verdict z (hV z hzm)
    have hE := ref42_entry wVerdict (by decide) ((i8 : Nat) : Int) ⟨by omega, by omega⟩ (txt (Ver.parts z)) (txt z.parts) rfl
    have hnb : n8 < 2 ^ 28 := by rw [hn8', List.length_append, entsM_len, List.length_take]; omega
    repeat' ((conv => whnf); first | refine cA ?_ | refine nA ?_ | refine cB ?_ | refine nB ?_ | refine aL ?_ | (with_reducible first | refine dT ?_ | refine dU ?_ | refine dF ?_ | refine dG ?_) | refine aT ?_ | refine aF ?_ | refine dS (fun _ => ?_) fun _ => ?_ | refine aW ?_ | refine aC ?_ | refine aL ?_ | refine Prep.skip ?_ | refine Eith.l ?_ | refine aD ?_ | refine aB (fun _ => ?_) fun _ => ?_ | refine nthK_mk (map_get (f := Ver.d) hz) ?_ | refine ACall.of hN1 ?_ | refine APCall.of hN1 ?_ | refine ACall.of hE ?_ | refine APCall.of hE ?_ | refine Chk.mk ⟨rfl, by omega, by simp [room]; omega⟩ ?_ | fail)
    all_goals (conv => whnf)
    all_goals first | (exfalso; omega) | skip
    refine ⟨⟨i8 + 1, v8 + 1, n8 + 1, r8 ++ [(entM wVerdict (i8 : Nat) (Ver.parts z)).d]⟩, Wm.end sam rfl rfl rfl, ⟨hlt, ?_, ?_⟩, by show x.v.length - (i8 + 1) < x.v.length - i8; omega⟩
    · show n8 + 1 = (e8 ++ entsM wVerdict Ver.parts (x.v.take (i8 + 1))).length
      rw [entsM_next wVerdict Ver.parts hz, ← List.append_assoc, hn8']; simp only [List.length_append, List.length_cons, List.length_nil] <;> omega
    · show r8 ++ _ = (e8 ++ entsM wVerdict Ver.parts (x.v.take (i8 + 1))).map Ent.d
      rw [entsM_next wVerdict Ver.parts hz, ← List.append_assoc, hr8']; simp
  have hie : i8 = x.v.length := by omega
  subst hie
  rw [List.take_length] at hn8' hr8'
  clear hlt
  obtain ⟨e9, he9⟩ : ∃ e9, e9 = e8 ++ entsM wVerdict Ver.parts x.v := ⟨_, rfl⟩
  rw [← he9] at hn8' hr8'
  have hl9 : e9.length < 2 + 9 * 2 ^ 24 := by
    have := hx.v.1
    rw [he9, List.length_append, entsM_len]; omega
  repeat' ((conv => whnf); first | (with_reducible first | refine dT ?_ | refine dU ?_ | refine dF ?_ | refine dG ?_) | refine aT ?_ | refine aF ?_ | refine dS (fun _ => ?_) fun _ => ?_ | refine aW ?_ | refine aC ?_ | refine aL ?_ | refine Prep.skip ?_ | refine Eith.l ?_ | refine aD ?_ | refine aB (fun _ => ?_) fun _ => ?_ | refine Nam.mk (List.length_map _) ?_ | fail)
  all_goals (conv => whnf)
  all_goals first | (exfalso; omega) | skip
  refine ALoop.only [(23, .d (I 0)), (9, .sref 1 v8 0 n8 false), (0, .d x.p.d), (1, .d (SL 3 (x.c.map Rat.cells))), (2, .d (SL 4 (x.v.map Ver.d))), (3, .d (SL 4 (x.a.map Ans.d))), (4, .ptr 0 0 0 0)] (by repeat (first | exact trivial | refine And.intro rfl ?_)) ?_
  refine ALoop.at (E := envOf Tryd.prog tt Tryd.f13.ntmps) (envOf_ok ttok mixed) (X := XR) (fun q => [(23, .d (I q.i)), (9, .sref 1 q.v 0 q.n false)]) (fun q => [(1, .row q.v 2 false q.rs)])
    (fun q => q.i ≤ x.a.length ∧ q.n = (e9 ++ entsM wAnswer Ans.parts (x.a.take q.i)).length ∧ q.rs = (e9 ++ entsM wAnswer Ans.parts (x.a.take q.i)).map Ent.d) (fun q => x.a.length - q.i) ⟨0, v8, n8, r8⟩ sam rfl ⟨Nat.zero_le _, by rw [List.take_zero, entsM_nil, List.append_nil]; exact hn8', by rw [List.take_zero, entsM_nil, List.append_nil]; exact hr8'⟩ ?_
  rintro ⟨i9, v9, n9, r9⟩ ⟨hi9, hn9', hr9'⟩
  dsimp only at hi9 hn9' hr9'
  dsimp only
  have hrl9 : r9.length = n9 := by rw [hr9', hn9', List.length_map]
  by_cases hlt : i9 < x.a.length
  · obtain ⟨z, hz, _⟩ := drop_get hlt
    have hzm : z ∈ x.a := List.mem_of_getElem? hz
    have hzp : okP (Ans.parts z) := hx.a.2 z hzm
    have hm := hx.a.1
    have hN1 := ref42_answer z (hA z hzm)
    have hE := ref42_entry wAnswer (by decide) ((i9 : Nat) : Int) ⟨by omega, by omega⟩ (txt (Ans.parts z)) (txt z.parts) rfl
    have hnb : n9 < 2 ^ 28 := by rw [hn9', List.length_append, entsM_len, List.length_take]; omega
    repeat' ((conv => whnf); first | refine cA ?_ | refine nA ?_ | refine cB ?_ | refine nB ?_ | refine aL ?_ | (with_reducible first | refine dT ?_ | refine dU ?_ | refine dF ?_ | refine dG ?_) | refine aT ?_ | refine aF ?_ | refine dS (fun _ => ?_) fun _ => ?_ | refine aW ?_ | refine aC ?_ | refine aL ?_ | refine Prep.skip ?_ | refine Eith.l ?_ | refine aD ?_ | refine aB (fun _ => ?_) fun _ => ?_ | refine nthK_mk (map_get (f := Ans.d) hz) ?_ | refine ACall.of hN1 ?_ | refine APCall.of hN1 ?_ | refine ACall.of hE ?_ | refine APCall.of hE ?_ | refine Chk.mk ⟨rfl, by omega, by simp [room]; omega⟩ ?_ | fail)
    all_goals (conv => whnf)
    all_goals first | (exfalso; omega) | skip
    refine ⟨⟨i9 + 1, v9 + 1, n9 + 1, r9 ++ [(entM wAnswer (i9 : Nat) (Ans.parts z)).d]⟩, Wm.end sam rfl rfl rfl, ⟨hlt, ?_, ?_⟩, by show x.a.length - (i9 + 1) < x.a.length - i9; omega⟩
    · show n9 + 1 = (e9 ++ entsM wAnswer Ans.parts (x.a.take (i9 + 1))).length
      rw [entsM_next wAnswer Ans.parts hz, ← List.append_assoc, hn9']; simp only [List.length_append, List.length_cons, List.length_nil] <;> omega
    · show r9 ++ _ = (e9 ++ entsM wAnswer Ans.parts (x.a.take (i9 + 1))).map Ent.d
      rw [entsM_next wAnswer Ans.parts hz, ← List.append_assoc, hr9']; simp
  have hie : i9 = x.a.length := by omega
  subst hie
  rw [List.take_length] at hn9' hr9'
  clear hlt
  obtain ⟨e10, he10⟩ : ∃ e10, e10 = e9 ++ entsM wAnswer Ans.parts x.a := ⟨_, rfl⟩
  rw [← he10] at hn9' hr9'
  have hl10 : e10.length < 2 + 10 * 2 ^ 24 := by
    have := hx.a.1
    rw [he10, List.length_append, entsM_len]; omega
  repeat' ((conv => whnf); first | (with_reducible first | refine dT ?_ | refine dU ?_ | refine dF ?_ | refine dG ?_) | refine aT ?_ | refine aF ?_ | refine dS (fun _ => ?_) fun _ => ?_ | refine aW ?_ | refine aC ?_ | refine aL ?_ | refine Prep.skip ?_ | refine Eith.l ?_ | refine aD ?_ | refine aB (fun _ => ?_) fun _ => ?_ | refine Nam.mk (List.length_map _) ?_ | fail)
  all_goals (conv => whnf)
  all_goals first | (exfalso; omega) | skip
  have z0 : entsM wLine (oneP Lin.part) x.p.lines = [] := by rw [List.eq_nil_of_length_eq_zero h0]; rfl
  have z1 : entsM wNeed Nee.parts x.p.needs = [] := by rw [List.eq_nil_of_length_eq_zero h1]; rfl
  have z2 : entsM wLot Lo.parts x.p.lots = [] := by rw [List.eq_nil_of_length_eq_zero h2]; rfl
  have z3 : entsM wCost (oneP .int) x.p.costs = [] := by rw [List.eq_nil_of_length_eq_zero h3]; rfl
  have z4 : entsM wJob Jo.parts x.p.jobs = [] := by rw [List.eq_nil_of_length_eq_zero h4]; rfl
  have z5 : entsM wPeg Pe.parts x.p.pegs = [] := by rw [List.eq_nil_of_length_eq_zero h5]; rfl
  have z6 : entsM wLate (oneP .int) x.p.late = [] := by rw [List.eq_nil_of_length_eq_zero h6]; rfl
  have he : e10 = reportM x := by rw [he10, he9, he8, he7]; unfold reportM planM; simp only [List.append_assoc, List.nil_append, z0, z1, z2, z3, z4, z5, z6]
  subst hn9'; subst hr9'; subst he
  have hO := ref42_ordered (reportM x) (by omega)
  repeat' ((conv => whnf); first | refine Nam.mk (y := (reportM x).map Ent.d) (whole (List.length_map _).symm) ?_ | refine Nam.mk (y := (reportM x).map Ent.d) (whole (List.length_map _)) ?_ | (with_reducible first | refine dT ?_ | refine dU ?_ | refine dF ?_ | refine dG ?_) | refine aT ?_ | refine aF ?_ | refine dS (fun _ => ?_) fun _ => ?_ | refine aW ?_ | refine aC ?_ | refine aL ?_ | refine Prep.skip ?_ | refine Eith.l ?_ | refine aD ?_ | refine aB (fun _ => ?_) fun _ => ?_ | refine ACall.of hO ?_ | refine ACall.lift ?_ | fail)
  all_goals (conv => whnf)
  exact DLe.refl _
theorem ref42_Report8 (x : Rep) (hx : x.ok) (hd : dE (reportM x)) (hV : ∀ y ∈ x.v, y.okR) (hA : ∀ y ∈ x.a, y.okR) (h0 : x.p.lines.length = 0) (h1 : x.p.needs.length = 0) (h2 : x.p.lots.length = 0) (h3 : x.p.costs.length = 0) (h4 : x.p.jobs.length = 0) (h5 : x.p.pegs.length = 0) (h6 : x.p.late.length = 0) (h7 : x.c.length = 0) (hlt : 0 < x.v.length) : CallP Tryd.prog 13 [.d x.p.d, .d (SL 3 (x.c.map Rat.cells)), .d (SL 4 (x.v.map Ver.d)), .d (SL 4 (x.a.map Ans.d))] (retD [SL 2 ((ordE (reportM x)).map Ent.d)]) := by
  have hN := ref42_numbers [x.p.start, x.p.days] true (by simp) (by
    intro n hn
    simp only [List.mem_cons, List.not_mem_nil, or_false] at hn
    have := hx.p.head.ok
    rcases hn with rfl | rfl
    · exact this (.int x.p.start) (by simp)
    · exact this (.int x.p.days) (by simp))
  refine exPure_sound (E := envOf Tryd.prog tt Tryd.f13.ntmps) (envOf_ok ttok mixed) Tryd.func13 (by rfl) rfl rfl (Nat.le_of_ble_eq_true rfl) ?_
  repeat' ((conv => whnf); first | (with_reducible first | refine dT ?_ | refine dU ?_ | refine dF ?_ | refine dG ?_) | refine aT ?_ | refine aF ?_ | refine dS (fun _ => ?_) fun _ => ?_ | refine aW ?_ | refine aC ?_ | refine aL ?_ | refine Prep.skip ?_ | refine Eith.l ?_ | refine aD ?_ | refine aB (fun _ => ?_) fun _ => ?_ | refine ACall.of hN ?_ | refine APCall.of hN ?_ | refine Nam.mk (List.length_map _) ?_ | fail)
  all_goals (conv => whnf)
  refine ALoop.only [(10, .d (I 0)), (9, .d (.sl 2 true [(headM x.p).d])), (0, .d x.p.d), (1, .d (SL 3 (x.c.map Rat.cells))), (2, .d (SL 4 (x.v.map Ver.d))), (3, .d (SL 4 (x.a.map Ans.d))), (4, .ptr 0 0 0 0)] (by repeat (first | exact trivial | refine And.intro rfl ?_)) ?_
  refine ALoop.rounds 1 ?_
  refine ALoopN.step (E := (envOf Tryd.prog tt Tryd.f13.ntmps)) (envOf_ok ttok mixed) ?_
  repeat' ((conv => whnf); first | (with_reducible first | refine dT ?_ | refine dU ?_ | refine dF ?_ | refine dG ?_) | refine aT ?_ | refine aF ?_ | refine dS (fun _ => ?_) fun _ => ?_ | refine aW ?_ | refine aC ?_ | refine aL ?_ | refine Prep.skip ?_ | refine Eith.l ?_ | refine aD ?_ | refine aB (fun _ => ?_) fun _ => ?_ | refine Nam.mk (List.length_map _) ?_ | fail)
  all_goals (conv => whnf)
  refine ALoop.only [(11, .d (I 0)), (9, .d (.sl 2 true [(headM x.p).d])), (0, .d x.p.d), (1, .d (SL 3 (x.c.map Rat.cells))), (2, .d (SL 4 (x.v.map Ver.d))), (3, .d (SL 4 (x.a.map Ans.d))), (4, .ptr 0 0 0 0)] (by repeat (first | exact trivial | refine And.intro rfl ?_)) ?_
  refine ALoop.rounds 1 ?_
  refine ALoopN.step (E := (envOf Tryd.prog tt Tryd.f13.ntmps)) (envOf_ok ttok mixed) ?_
  repeat' ((conv => whnf); first | (with_reducible first | refine dT ?_ | refine dU ?_ | refine dF ?_ | refine dG ?_) | refine aT ?_ | refine aF ?_ | refine dS (fun _ => ?_) fun _ => ?_ | refine aW ?_ | refine aC ?_ | refine aL ?_ | refine Prep.skip ?_ | refine Eith.l ?_ | refine aD ?_ | refine aB (fun _ => ?_) fun _ => ?_ | refine Nam.mk (List.length_map _) ?_ | fail)
  all_goals (conv => whnf)
  refine ALoop.only [(13, .d (I 0)), (9, .d (.sl 2 true [(headM x.p).d])), (0, .d x.p.d), (1, .d (SL 3 (x.c.map Rat.cells))), (2, .d (SL 4 (x.v.map Ver.d))), (3, .d (SL 4 (x.a.map Ans.d))), (4, .ptr 0 0 0 0)] (by repeat (first | exact trivial | refine And.intro rfl ?_)) ?_
  refine ALoop.rounds 1 ?_
  refine ALoopN.step (E := (envOf Tryd.prog tt Tryd.f13.ntmps)) (envOf_ok ttok mixed) ?_
  repeat' ((conv => whnf); first | (with_reducible first | refine dT ?_ | refine dU ?_ | refine dF ?_ | refine dG ?_) | refine aT ?_ | refine aF ?_ | refine dS (fun _ => ?_) fun _ => ?_ | refine aW ?_ | refine aC ?_ | refine aL ?_ | refine Prep.skip ?_ | refine Eith.l ?_ | refine aD ?_ | refine aB (fun _ => ?_) fun _ => ?_ | refine Nam.mk (List.length_map _) ?_ | fail)
  all_goals (conv => whnf)
  refine ALoop.only [(15, .d (I 0)), (9, .d (.sl 2 true [(headM x.p).d])), (0, .d x.p.d), (1, .d (SL 3 (x.c.map Rat.cells))), (2, .d (SL 4 (x.v.map Ver.d))), (3, .d (SL 4 (x.a.map Ans.d))), (4, .ptr 0 0 0 0)] (by repeat (first | exact trivial | refine And.intro rfl ?_)) ?_
  refine ALoop.rounds 1 ?_
  refine ALoopN.step (E := (envOf Tryd.prog tt Tryd.f13.ntmps)) (envOf_ok ttok mixed) ?_
  repeat' ((conv => whnf); first | (with_reducible first | refine dT ?_ | refine dU ?_ | refine dF ?_ | refine dG ?_) | refine aT ?_ | refine aF ?_ | refine dS (fun _ => ?_) fun _ => ?_ | refine aW ?_ | refine aC ?_ | refine aL ?_ | refine Prep.skip ?_ | refine Eith.l ?_ | refine aD ?_ | refine aB (fun _ => ?_) fun _ => ?_ | refine Nam.mk (List.length_map _) ?_ | fail)
  all_goals (conv => whnf)
  refine ALoop.only [(16, .d (I 0)), (9, .d (.sl 2 true [(headM x.p).d])), (0, .d x.p.d), (1, .d (SL 3 (x.c.map Rat.cells))), (2, .d (SL 4 (x.v.map Ver.d))), (3, .d (SL 4 (x.a.map Ans.d))), (4, .ptr 0 0 0 0)] (by repeat (first | exact trivial | refine And.intro rfl ?_)) ?_
  refine ALoop.rounds 1 ?_
  refine ALoopN.step (E := (envOf Tryd.prog tt Tryd.f13.ntmps)) (envOf_ok ttok mixed) ?_
  repeat' ((conv => whnf); first | (with_reducible first | refine dT ?_ | refine dU ?_ | refine dF ?_ | refine dG ?_) | refine aT ?_ | refine aF ?_ | refine dS (fun _ => ?_) fun _ => ?_ | refine aW ?_ | refine aC ?_ | refine aL ?_ | refine Prep.skip ?_ | refine Eith.l ?_ | refine aD ?_ | refine aB (fun _ => ?_) fun _ => ?_ | refine Nam.mk (List.length_map _) ?_ | fail)
  all_goals (conv => whnf)
  refine ALoop.only [(18, .d (I 0)), (9, .d (.sl 2 true [(headM x.p).d])), (0, .d x.p.d), (1, .d (SL 3 (x.c.map Rat.cells))), (2, .d (SL 4 (x.v.map Ver.d))), (3, .d (SL 4 (x.a.map Ans.d))), (4, .ptr 0 0 0 0)] (by repeat (first | exact trivial | refine And.intro rfl ?_)) ?_
  refine ALoop.rounds 1 ?_
  refine ALoopN.step (E := (envOf Tryd.prog tt Tryd.f13.ntmps)) (envOf_ok ttok mixed) ?_
  repeat' ((conv => whnf); first | (with_reducible first | refine dT ?_ | refine dU ?_ | refine dF ?_ | refine dG ?_) | refine aT ?_ | refine aF ?_ | refine dS (fun _ => ?_) fun _ => ?_ | refine aW ?_ | refine aC ?_ | refine aL ?_ | refine Prep.skip ?_ | refine Eith.l ?_ | refine aD ?_ | refine aB (fun _ => ?_) fun _ => ?_ | refine Nam.mk (List.length_map _) ?_ | fail)
  all_goals (conv => whnf)
  refine ALoop.only [(20, .d (I 0)), (9, .d (.sl 2 true [(headM x.p).d])), (0, .d x.p.d), (1, .d (SL 3 (x.c.map Rat.cells))), (2, .d (SL 4 (x.v.map Ver.d))), (3, .d (SL 4 (x.a.map Ans.d))), (4, .ptr 0 0 0 0)] (by repeat (first | exact trivial | refine And.intro rfl ?_)) ?_
  refine ALoop.rounds 1 ?_
  refine ALoopN.step (E := (envOf Tryd.prog tt Tryd.f13.ntmps)) (envOf_ok ttok mixed) ?_
  repeat' ((conv => whnf); first | (with_reducible first | refine dT ?_ | refine dU ?_ | refine dF ?_ | refine dG ?_) | refine aT ?_ | refine aF ?_ | refine dS (fun _ => ?_) fun _ => ?_ | refine aW ?_ | refine aC ?_ | refine aL ?_ | refine Prep.skip ?_ | refine Eith.l ?_ | refine aD ?_ | refine aB (fun _ => ?_) fun _ => ?_ | refine Nam.mk (List.length_map _) ?_ | fail)
  all_goals (conv => whnf)
  refine ALoop.only [(21, .d (I 0)), (9, .d (.sl 2 true [(headM x.p).d])), (0, .d x.p.d), (1, .d (SL 3 (x.c.map Rat.cells))), (2, .d (SL 4 (x.v.map Ver.d))), (3, .d (SL 4 (x.a.map Ans.d))), (4, .ptr 0 0 0 0)] (by repeat (first | exact trivial | refine And.intro rfl ?_)) ?_
  refine ALoop.rounds 1 ?_
  refine ALoopN.step (E := (envOf Tryd.prog tt Tryd.f13.ntmps)) (envOf_ok ttok mixed) ?_
  repeat' ((conv => whnf); first | (with_reducible first | refine dT ?_ | refine dU ?_ | refine dF ?_ | refine dG ?_) | refine aT ?_ | refine aF ?_ | refine dS (fun _ => ?_) fun _ => ?_ | refine aW ?_ | refine aC ?_ | refine aL ?_ | refine Prep.skip ?_ | refine Eith.l ?_ | refine aD ?_ | refine aB (fun _ => ?_) fun _ => ?_ | refine Nam.mk (List.length_map _) ?_ | fail)
  all_goals (conv => whnf)
  refine ALoop.only [(22, .d (I 0)), (9, .d (.sl 2 true [(headM x.p).d])), (0, .d x.p.d), (1, .d (SL 3 (x.c.map Rat.cells))), (2, .d (SL 4 (x.v.map Ver.d))), (3, .d (SL 4 (x.a.map Ans.d))), (4, .ptr 0 0 0 0)] (by repeat (first | exact trivial | refine And.intro rfl ?_)) ?_
  refine ALoop.peel (E := (envOf Tryd.prog tt Tryd.f13.ntmps)) (envOf_ok ttok mixed) ?_
  obtain ⟨z, hz, _⟩ := drop_get hlt
  have hzm : z ∈ x.v := List.mem_of_getElem? hz
  have hzp : okP (Ver.parts z) := hx.v.2 z hzm
  have hm := hx.v.1
  have hN1 := ref42_verdict z (hV z hzm)
  have hE := ref42_entry wVerdict (by decide) ((0 : Nat) : Int) ⟨by omega, by omega⟩ (txt (Ver.parts z)) (txt z.parts) rfl
  repeat' ((conv => whnf); first | refine cA ?_ | refine nA ?_ | refine cB ?_ | refine nB ?_ | refine aL ?_ | (with_reducible first | refine dT ?_ | refine dU ?_ | refine dF ?_ | refine dG ?_) | refine aT ?_ | refine aF ?_ | refine dS (fun _ => ?_) fun _ => ?_ | refine aW ?_ | refine aC ?_ | refine aL ?_ | refine Prep.skip ?_ | refine Eith.l ?_ | refine aD ?_ | refine aB (fun _ => ?_) fun _ => ?_ | refine nthK_mk (map_get (f := Ver.d) hz) ?_ | refine ACall.of hN1 ?_ | refine APCall.of hN1 ?_ | refine ACall.of hE ?_ | refine APCall.of hE ?_ | fail)
  all_goals (conv => whnf)
  refine ALoop.only [(22, .d (I 1)), (9, .sref 1 0 0 2 false), (0, .d x.p.d), (1, .d (SL 3 (x.c.map Rat.cells))), (2, .d (SL 4 (x.v.map Ver.d))), (3, .d (SL 4 (x.a.map Ans.d))), (4, .ptr 0 0 0 0)] (by repeat (first | exact trivial | refine And.intro rfl ?_)) ?_
  obtain ⟨e8, he8⟩ : ∃ e8, e8 = [headM x.p] := ⟨_, rfl⟩
  have hl8 : e8.length < 2 + 8 * 2 ^ 24 := by rw [he8]; simp
  refine ALoop.at (E := envOf Tryd.prog tt Tryd.f13.ntmps) (envOf_ok ttok mixed) (X := XR) (fun q => [(22, .d (I q.i)), (9, .sref 1 q.v 0 q.n false)]) (fun q => [(1, .row q.v 2 false q.rs)])
    (fun q => q.i ≤ x.v.length ∧ q.n = (e8 ++ entsM wVerdict Ver.parts (x.v.take q.i)).length ∧ q.rs = (e8 ++ entsM wVerdict Ver.parts (x.v.take q.i)).map Ent.d) (fun q => x.v.length - q.i) ⟨1, 0, 2, [(headM x.p).d, (entM wVerdict (0 : Nat) (Ver.parts z)).d]⟩ sam rfl ⟨hlt, by rw [List.length_append, entsM_len, List.length_take, he8]; simp; omega, by rw [entsM_next wVerdict Ver.parts hz, he8]; rfl⟩ ?_
  clear hE
  clear hz hzp hzm
  rintro ⟨i8, v8, n8, r8⟩ ⟨hi8, hn8', hr8'⟩
  dsimp only at hi8 hn8' hr8'
  dsimp only
  have hrl8 : r8.length = n8 := by rw [hr8', hn8', List.length_map]
  by_cases hlt : i8 < x.v.length
  · obtain ⟨z, hz, _⟩ := drop_get hlt
    have hzm : z ∈ x.v := List.mem_of_getElem? hz
    have hzp : okP (Ver.parts z) := hx.v.2 z hzm
    have hm := hx.v.1
    have hN1 := ref42_verdict z (hV z hzm)
    have hE := ref42_entry wVerdict (by decide) ((i8 : Nat) : Int) ⟨by omega, by omega⟩ (txt (Ver.parts z)) (txt z.parts) rfl
    have hnb : n8 < 2 ^ 28 := by rw [hn8', List.length_append, entsM_len, List.length_take]; omega
    repeat' ((conv => whnf); first | refine cA ?_ | refine nA ?_ | refine cB ?_ | refine nB ?_ | refine aL ?_ | (with_reducible first | refine dT ?_ | refine dU ?_ | refine dF ?_ | refine dG ?_) | refine aT ?_ | refine aF ?_ | refine dS (fun _ => ?_) fun _ => ?_ | refine aW ?_ | refine aC ?_ | refine aL ?_ | refine Prep.skip ?_ | refine Eith.l ?_ | refine aD ?_ | refine aB (fun _ => ?_) fun _ => ?_ | refine nthK_mk (map_get (f := Ver.d) hz) ?_ | refine ACall.of hN1 ?_ | refine APCall.of hN1 ?_ | refine ACall.of hE ?_ | refine APCall.of hE ?_ | refine Chk.mk ⟨rfl, by omega, by simp [room]; omega⟩ ?_ | fail)
    all_goals (conv => whnf)
    all_goals first | (exfalso; omega) | skip
    refine ⟨⟨i8 + 1, v8 + 1, n8 + 1, r8 ++ [(entM wVerdict (i8 : Nat) (Ver.parts z)).d]⟩, Wm.end sam rfl rfl rfl, ⟨hlt, ?_, ?_⟩, by show x.v.length - (i8 + 1) < x.v.length - i8; omega⟩
    · show n8 + 1 = (e8 ++ entsM wVerdict Ver.parts (x.v.take (i8 + 1))).length
      rw [entsM_next wVerdict Ver.parts hz, ← List.append_assoc, hn8']; simp only [List.length_append, List.length_cons, List.length_nil] <;> omega
    · show r8 ++ _ = (e8 ++ entsM wVerdict Ver.parts (x.v.take (i8 + 1))).map Ent.d
      rw [entsM_next wVerdict Ver.parts hz, ← List.append_assoc, hr8']; simp
  have hie : i8 = x.v.length := by omega
  subst hie
  rw [List.take_length] at hn8' hr8'
  clear hlt
  obtain ⟨e9, he9⟩ : ∃ e9, e9 = e8 ++ entsM wVerdict Ver.parts x.v := ⟨_, rfl⟩
  rw [← he9] at hn8' hr8'
  have hl9 : e9.length < 2 + 9 * 2 ^ 24 := by
    have := hx.v.1
    rw [he9, List.length_append, entsM_len]; omega
  repeat' ((conv => whnf); first | (with_reducible first | refine dT ?_ | refine dU ?_ | refine dF ?_ | refine dG ?_) | refine aT ?_ | refine aF ?_ | refine dS (fun _ => ?_) fun _ => ?_ | refine aW ?_ | refine aC ?_ | refine aL ?_ | refine Prep.skip ?_ | refine Eith.l ?_ | refine aD ?_ | refine aB (fun _ => ?_) fun _ => ?_ | refine Nam.mk (List.length_map _) ?_ | fail)
  all_goals (conv => whnf)
  all_goals first | (exfalso; omega) | skip
  refine ALoop.only [(23, .d (I 0)), (9, .sref 1 v8 0 n8 false), (0, .d x.p.d), (1, .d (SL 3 (x.c.map Rat.cells))), (2, .d (SL 4 (x.v.map Ver.d))), (3, .d (SL 4 (x.a.map Ans.d))), (4, .ptr 0 0 0 0)] (by repeat (first | exact trivial | refine And.intro rfl ?_)) ?_
  refine ALoop.at (E := envOf Tryd.prog tt Tryd.f13.ntmps) (envOf_ok ttok mixed) (X := XR) (fun q => [(23, .d (I q.i)), (9, .sref 1 q.v 0 q.n false)]) (fun q => [(1, .row q.v 2 false q.rs)])
    (fun q => q.i ≤ x.a.length ∧ q.n = (e9 ++ entsM wAnswer Ans.parts (x.a.take q.i)).length ∧ q.rs = (e9 ++ entsM wAnswer Ans.parts (x.a.take q.i)).map Ent.d) (fun q => x.a.length - q.i) ⟨0, v8, n8, r8⟩ sam rfl ⟨Nat.zero_le _, by rw [List.take_zero, entsM_nil, List.append_nil]; exact hn8', by rw [List.take_zero, entsM_nil, List.append_nil]; exact hr8'⟩ ?_
  rintro ⟨i9, v9, n9, r9⟩ ⟨hi9, hn9', hr9'⟩
  dsimp only at hi9 hn9' hr9'
  dsimp only
  have hrl9 : r9.length = n9 := by rw [hr9', hn9', List.length_map]
  by_cases hlt : i9 < x.a.length
  · obtain ⟨z, hz, _⟩ := drop_get hlt
    have hzm : z ∈ x.a := List.mem_of_getElem? hz
    have hzp : okP (Ans.parts z) := hx.a.2 z hzm
    have hm := hx.a.1
    have hN1 := ref42_answer z (hA z hzm)
    have hE := ref42_entry wAnswer (by decide) ((i9 : Nat) : Int) ⟨by omega, by omega⟩ (txt (Ans.parts z)) (txt z.parts) rfl
    have hnb : n9 < 2 ^ 28 := by rw [hn9', List.length_append, entsM_len, List.length_take]; omega
    repeat' ((conv => whnf); first | refine cA ?_ | refine nA ?_ | refine cB ?_ | refine nB ?_ | refine aL ?_ | (with_reducible first | refine dT ?_ | refine dU ?_ | refine dF ?_ | refine dG ?_) | refine aT ?_ | refine aF ?_ | refine dS (fun _ => ?_) fun _ => ?_ | refine aW ?_ | refine aC ?_ | refine aL ?_ | refine Prep.skip ?_ | refine Eith.l ?_ | refine aD ?_ | refine aB (fun _ => ?_) fun _ => ?_ | refine nthK_mk (map_get (f := Ans.d) hz) ?_ | refine ACall.of hN1 ?_ | refine APCall.of hN1 ?_ | refine ACall.of hE ?_ | refine APCall.of hE ?_ | refine Chk.mk ⟨rfl, by omega, by simp [room]; omega⟩ ?_ | fail)
    all_goals (conv => whnf)
    all_goals first | (exfalso; omega) | skip
    refine ⟨⟨i9 + 1, v9 + 1, n9 + 1, r9 ++ [(entM wAnswer (i9 : Nat) (Ans.parts z)).d]⟩, Wm.end sam rfl rfl rfl, ⟨hlt, ?_, ?_⟩, by show x.a.length - (i9 + 1) < x.a.length - i9; omega⟩
    · show n9 + 1 = (e9 ++ entsM wAnswer Ans.parts (x.a.take (i9 + 1))).length
      rw [entsM_next wAnswer Ans.parts hz, ← List.append_assoc, hn9']; simp only [List.length_append, List.length_cons, List.length_nil] <;> omega
    · show r9 ++ _ = (e9 ++ entsM wAnswer Ans.parts (x.a.take (i9 + 1))).map Ent.d
      rw [entsM_next wAnswer Ans.parts hz, ← List.append_assoc, hr9']; simp
  have hie : i9 = x.a.length := by omega
  subst hie
  rw [List.take_length] at hn9' hr9'
  clear hlt
  obtain ⟨e10, he10⟩ : ∃ e10, e10 = e9 ++ entsM wAnswer Ans.parts x.a := ⟨_, rfl⟩
  rw [← he10] at hn9' hr9'
  have hl10 : e10.length < 2 + 10 * 2 ^ 24 := by
    have := hx.a.1
    rw [he10, List.length_append, entsM_len]; omega
  repeat' ((conv => whnf); first | (with_reducible first | refine dT ?_ | refine dU ?_ | refine dF ?_ | refine dG ?_) | refine aT ?_ | refine aF ?_ | refine dS (fun _ => ?_) fun _ => ?_ | refine aW ?_ | refine aC ?_ | refine aL ?_ | refine Prep.skip ?_ | refine Eith.l ?_ | refine aD ?_ | refine aB (fun _ => ?_) fun _ => ?_ | refine Nam.mk (List.length_map _) ?_ | fail)
  all_goals (conv => whnf)
  all_goals first | (exfalso; omega) | skip
  have z0 : entsM wLine (oneP Lin.part) x.p.lines = [] := by rw [List.eq_nil_of_length_eq_zero h0]; rfl
  have z1 : entsM wNeed Nee.parts x.p.needs = [] := by rw [List.eq_nil_of_length_eq_zero h1]; rfl
  have z2 : entsM wLot Lo.parts x.p.lots = [] := by rw [List.eq_nil_of_length_eq_zero h2]; rfl
  have z3 : entsM wCost (oneP .int) x.p.costs = [] := by rw [List.eq_nil_of_length_eq_zero h3]; rfl
  have z4 : entsM wJob Jo.parts x.p.jobs = [] := by rw [List.eq_nil_of_length_eq_zero h4]; rfl
  have z5 : entsM wPeg Pe.parts x.p.pegs = [] := by rw [List.eq_nil_of_length_eq_zero h5]; rfl
  have z6 : entsM wLate (oneP .int) x.p.late = [] := by rw [List.eq_nil_of_length_eq_zero h6]; rfl
  have z7 : entsM wPrice (oneP .ratio) x.c = [] := by rw [List.eq_nil_of_length_eq_zero h7]; rfl
  have he : e10 = reportM x := by rw [he10, he9, he8]; unfold reportM planM; simp only [List.append_assoc, List.nil_append, z0, z1, z2, z3, z4, z5, z6, z7]
  subst hn9'; subst hr9'; subst he
  have hO := ref42_ordered (reportM x) (by omega)
  repeat' ((conv => whnf); first | refine Nam.mk (y := (reportM x).map Ent.d) (whole (List.length_map _).symm) ?_ | refine Nam.mk (y := (reportM x).map Ent.d) (whole (List.length_map _)) ?_ | (with_reducible first | refine dT ?_ | refine dU ?_ | refine dF ?_ | refine dG ?_) | refine aT ?_ | refine aF ?_ | refine dS (fun _ => ?_) fun _ => ?_ | refine aW ?_ | refine aC ?_ | refine aL ?_ | refine Prep.skip ?_ | refine Eith.l ?_ | refine aD ?_ | refine aB (fun _ => ?_) fun _ => ?_ | refine ACall.of hO ?_ | refine ACall.lift ?_ | fail)
  all_goals (conv => whnf)
  exact DLe.refl _
theorem ref42_Report9 (x : Rep) (hx : x.ok) (hd : dE (reportM x)) (hV : ∀ y ∈ x.v, y.okR) (hA : ∀ y ∈ x.a, y.okR) (h0 : x.p.lines.length = 0) (h1 : x.p.needs.length = 0) (h2 : x.p.lots.length = 0) (h3 : x.p.costs.length = 0) (h4 : x.p.jobs.length = 0) (h5 : x.p.pegs.length = 0) (h6 : x.p.late.length = 0) (h7 : x.c.length = 0) (h8 : x.v.length = 0) (hlt : 0 < x.a.length) : CallP Tryd.prog 13 [.d x.p.d, .d (SL 3 (x.c.map Rat.cells)), .d (SL 4 (x.v.map Ver.d)), .d (SL 4 (x.a.map Ans.d))] (retD [SL 2 ((ordE (reportM x)).map Ent.d)]) := by
  have hN := ref42_numbers [x.p.start, x.p.days] true (by simp) (by
    intro n hn
    simp only [List.mem_cons, List.not_mem_nil, or_false] at hn
    have := hx.p.head.ok
    rcases hn with rfl | rfl
    · exact this (.int x.p.start) (by simp)
    · exact this (.int x.p.days) (by simp))
  refine exPure_sound (E := envOf Tryd.prog tt Tryd.f13.ntmps) (envOf_ok ttok mixed) Tryd.func13 (by rfl) rfl rfl (Nat.le_of_ble_eq_true rfl) ?_
  repeat' ((conv => whnf); first | (with_reducible first | refine dT ?_ | refine dU ?_ | refine dF ?_ | refine dG ?_) | refine aT ?_ | refine aF ?_ | refine dS (fun _ => ?_) fun _ => ?_ | refine aW ?_ | refine aC ?_ | refine aL ?_ | refine Prep.skip ?_ | refine Eith.l ?_ | refine aD ?_ | refine aB (fun _ => ?_) fun _ => ?_ | refine ACall.of hN ?_ | refine APCall.of hN ?_ | refine Nam.mk (List.length_map _) ?_ | fail)
  all_goals (conv => whnf)
  refine ALoop.only [(10, .d (I 0)), (9, .d (.sl 2 true [(headM x.p).d])), (0, .d x.p.d), (1, .d (SL 3 (x.c.map Rat.cells))), (2, .d (SL 4 (x.v.map Ver.d))), (3, .d (SL 4 (x.a.map Ans.d))), (4, .ptr 0 0 0 0)] (by repeat (first | exact trivial | refine And.intro rfl ?_)) ?_
  refine ALoop.rounds 1 ?_
  refine ALoopN.step (E := (envOf Tryd.prog tt Tryd.f13.ntmps)) (envOf_ok ttok mixed) ?_
  repeat' ((conv => whnf); first | (with_reducible first | refine dT ?_ | refine dU ?_ | refine dF ?_ | refine dG ?_) | refine aT ?_ | refine aF ?_ | refine dS (fun _ => ?_) fun _ => ?_ | refine aW ?_ | refine aC ?_ | refine aL ?_ | refine Prep.skip ?_ | refine Eith.l ?_ | refine aD ?_ | refine aB (fun _ => ?_) fun _ => ?_ | refine Nam.mk (List.length_map _) ?_ | fail)
  all_goals (conv => whnf)
  refine ALoop.only [(11, .d (I 0)), (9, .d (.sl 2 true [(headM x.p).d])), (0, .d x.p.d), (1, .d (SL 3 (x.c.map Rat.cells))), (2, .d (SL 4 (x.v.map Ver.d))), (3, .d (SL 4 (x.a.map Ans.d))), (4, .ptr 0 0 0 0)] (by repeat (first | exact trivial | refine And.intro rfl ?_)) ?_
  refine ALoop.rounds 1 ?_
  refine ALoopN.step (E := (envOf Tryd.prog tt Tryd.f13.ntmps)) (envOf_ok ttok mixed) ?_
  repeat' ((conv => whnf); first | (with_reducible first | refine dT ?_ | refine dU ?_ | refine dF ?_ | refine dG ?_) | refine aT ?_ | refine aF ?_ | refine dS (fun _ => ?_) fun _ => ?_ | refine aW ?_ | refine aC ?_ | refine aL ?_ | refine Prep.skip ?_ | refine Eith.l ?_ | refine aD ?_ | refine aB (fun _ => ?_) fun _ => ?_ | refine Nam.mk (List.length_map _) ?_ | fail)
  all_goals (conv => whnf)
  refine ALoop.only [(13, .d (I 0)), (9, .d (.sl 2 true [(headM x.p).d])), (0, .d x.p.d), (1, .d (SL 3 (x.c.map Rat.cells))), (2, .d (SL 4 (x.v.map Ver.d))), (3, .d (SL 4 (x.a.map Ans.d))), (4, .ptr 0 0 0 0)] (by repeat (first | exact trivial | refine And.intro rfl ?_)) ?_
  refine ALoop.rounds 1 ?_
  refine ALoopN.step (E := (envOf Tryd.prog tt Tryd.f13.ntmps)) (envOf_ok ttok mixed) ?_
  repeat' ((conv => whnf); first | (with_reducible first | refine dT ?_ | refine dU ?_ | refine dF ?_ | refine dG ?_) | refine aT ?_ | refine aF ?_ | refine dS (fun _ => ?_) fun _ => ?_ | refine aW ?_ | refine aC ?_ | refine aL ?_ | refine Prep.skip ?_ | refine Eith.l ?_ | refine aD ?_ | refine aB (fun _ => ?_) fun _ => ?_ | refine Nam.mk (List.length_map _) ?_ | fail)
  all_goals (conv => whnf)
  refine ALoop.only [(15, .d (I 0)), (9, .d (.sl 2 true [(headM x.p).d])), (0, .d x.p.d), (1, .d (SL 3 (x.c.map Rat.cells))), (2, .d (SL 4 (x.v.map Ver.d))), (3, .d (SL 4 (x.a.map Ans.d))), (4, .ptr 0 0 0 0)] (by repeat (first | exact trivial | refine And.intro rfl ?_)) ?_
  refine ALoop.rounds 1 ?_
  refine ALoopN.step (E := (envOf Tryd.prog tt Tryd.f13.ntmps)) (envOf_ok ttok mixed) ?_
  repeat' ((conv => whnf); first | (with_reducible first | refine dT ?_ | refine dU ?_ | refine dF ?_ | refine dG ?_) | refine aT ?_ | refine aF ?_ | refine dS (fun _ => ?_) fun _ => ?_ | refine aW ?_ | refine aC ?_ | refine aL ?_ | refine Prep.skip ?_ | refine Eith.l ?_ | refine aD ?_ | refine aB (fun _ => ?_) fun _ => ?_ | refine Nam.mk (List.length_map _) ?_ | fail)
  all_goals (conv => whnf)
  refine ALoop.only [(16, .d (I 0)), (9, .d (.sl 2 true [(headM x.p).d])), (0, .d x.p.d), (1, .d (SL 3 (x.c.map Rat.cells))), (2, .d (SL 4 (x.v.map Ver.d))), (3, .d (SL 4 (x.a.map Ans.d))), (4, .ptr 0 0 0 0)] (by repeat (first | exact trivial | refine And.intro rfl ?_)) ?_
  refine ALoop.rounds 1 ?_
  refine ALoopN.step (E := (envOf Tryd.prog tt Tryd.f13.ntmps)) (envOf_ok ttok mixed) ?_
  repeat' ((conv => whnf); first | (with_reducible first | refine dT ?_ | refine dU ?_ | refine dF ?_ | refine dG ?_) | refine aT ?_ | refine aF ?_ | refine dS (fun _ => ?_) fun _ => ?_ | refine aW ?_ | refine aC ?_ | refine aL ?_ | refine Prep.skip ?_ | refine Eith.l ?_ | refine aD ?_ | refine aB (fun _ => ?_) fun _ => ?_ | refine Nam.mk (List.length_map _) ?_ | fail)
  all_goals (conv => whnf)
  refine ALoop.only [(18, .d (I 0)), (9, .d (.sl 2 true [(headM x.p).d])), (0, .d x.p.d), (1, .d (SL 3 (x.c.map Rat.cells))), (2, .d (SL 4 (x.v.map Ver.d))), (3, .d (SL 4 (x.a.map Ans.d))), (4, .ptr 0 0 0 0)] (by repeat (first | exact trivial | refine And.intro rfl ?_)) ?_
  refine ALoop.rounds 1 ?_
  refine ALoopN.step (E := (envOf Tryd.prog tt Tryd.f13.ntmps)) (envOf_ok ttok mixed) ?_
  repeat' ((conv => whnf); first | (with_reducible first | refine dT ?_ | refine dU ?_ | refine dF ?_ | refine dG ?_) | refine aT ?_ | refine aF ?_ | refine dS (fun _ => ?_) fun _ => ?_ | refine aW ?_ | refine aC ?_ | refine aL ?_ | refine Prep.skip ?_ | refine Eith.l ?_ | refine aD ?_ | refine aB (fun _ => ?_) fun _ => ?_ | refine Nam.mk (List.length_map _) ?_ | fail)
  all_goals (conv => whnf)
  refine ALoop.only [(20, .d (I 0)), (9, .d (.sl 2 true [(headM x.p).d])), (0, .d x.p.d), (1, .d (SL 3 (x.c.map Rat.cells))), (2, .d (SL 4 (x.v.map Ver.d))), (3, .d (SL 4 (x.a.map Ans.d))), (4, .ptr 0 0 0 0)] (by repeat (first | exact trivial | refine And.intro rfl ?_)) ?_
  refine ALoop.rounds 1 ?_
  refine ALoopN.step (E := (envOf Tryd.prog tt Tryd.f13.ntmps)) (envOf_ok ttok mixed) ?_
  repeat' ((conv => whnf); first | (with_reducible first | refine dT ?_ | refine dU ?_ | refine dF ?_ | refine dG ?_) | refine aT ?_ | refine aF ?_ | refine dS (fun _ => ?_) fun _ => ?_ | refine aW ?_ | refine aC ?_ | refine aL ?_ | refine Prep.skip ?_ | refine Eith.l ?_ | refine aD ?_ | refine aB (fun _ => ?_) fun _ => ?_ | refine Nam.mk (List.length_map _) ?_ | fail)
  all_goals (conv => whnf)
  refine ALoop.only [(21, .d (I 0)), (9, .d (.sl 2 true [(headM x.p).d])), (0, .d x.p.d), (1, .d (SL 3 (x.c.map Rat.cells))), (2, .d (SL 4 (x.v.map Ver.d))), (3, .d (SL 4 (x.a.map Ans.d))), (4, .ptr 0 0 0 0)] (by repeat (first | exact trivial | refine And.intro rfl ?_)) ?_
  refine ALoop.rounds 1 ?_
  refine ALoopN.step (E := (envOf Tryd.prog tt Tryd.f13.ntmps)) (envOf_ok ttok mixed) ?_
  repeat' ((conv => whnf); first | (with_reducible first | refine dT ?_ | refine dU ?_ | refine dF ?_ | refine dG ?_) | refine aT ?_ | refine aF ?_ | refine dS (fun _ => ?_) fun _ => ?_ | refine aW ?_ | refine aC ?_ | refine aL ?_ | refine Prep.skip ?_ | refine Eith.l ?_ | refine aD ?_ | refine aB (fun _ => ?_) fun _ => ?_ | refine Nam.mk (List.length_map _) ?_ | fail)
  all_goals (conv => whnf)
  refine ALoop.only [(22, .d (I 0)), (9, .d (.sl 2 true [(headM x.p).d])), (0, .d x.p.d), (1, .d (SL 3 (x.c.map Rat.cells))), (2, .d (SL 4 (x.v.map Ver.d))), (3, .d (SL 4 (x.a.map Ans.d))), (4, .ptr 0 0 0 0)] (by repeat (first | exact trivial | refine And.intro rfl ?_)) ?_
  refine ALoop.rounds 1 ?_
  refine ALoopN.step (E := (envOf Tryd.prog tt Tryd.f13.ntmps)) (envOf_ok ttok mixed) ?_
  repeat' ((conv => whnf); first | (with_reducible first | refine dT ?_ | refine dU ?_ | refine dF ?_ | refine dG ?_) | refine aT ?_ | refine aF ?_ | refine dS (fun _ => ?_) fun _ => ?_ | refine aW ?_ | refine aC ?_ | refine aL ?_ | refine Prep.skip ?_ | refine Eith.l ?_ | refine aD ?_ | refine aB (fun _ => ?_) fun _ => ?_ | refine Nam.mk (List.length_map _) ?_ | fail)
  all_goals (conv => whnf)
  refine ALoop.only [(23, .d (I 0)), (9, .d (.sl 2 true [(headM x.p).d])), (0, .d x.p.d), (1, .d (SL 3 (x.c.map Rat.cells))), (2, .d (SL 4 (x.v.map Ver.d))), (3, .d (SL 4 (x.a.map Ans.d))), (4, .ptr 0 0 0 0)] (by repeat (first | exact trivial | refine And.intro rfl ?_)) ?_
  refine ALoop.peel (E := (envOf Tryd.prog tt Tryd.f13.ntmps)) (envOf_ok ttok mixed) ?_
  obtain ⟨z, hz, _⟩ := drop_get hlt
  have hzm : z ∈ x.a := List.mem_of_getElem? hz
  have hzp : okP (Ans.parts z) := hx.a.2 z hzm
  have hm := hx.a.1
  have hN1 := ref42_answer z (hA z hzm)
  have hE := ref42_entry wAnswer (by decide) ((0 : Nat) : Int) ⟨by omega, by omega⟩ (txt (Ans.parts z)) (txt z.parts) rfl
  repeat' ((conv => whnf); first | refine cA ?_ | refine nA ?_ | refine cB ?_ | refine nB ?_ | refine aL ?_ | (with_reducible first | refine dT ?_ | refine dU ?_ | refine dF ?_ | refine dG ?_) | refine aT ?_ | refine aF ?_ | refine dS (fun _ => ?_) fun _ => ?_ | refine aW ?_ | refine aC ?_ | refine aL ?_ | refine Prep.skip ?_ | refine Eith.l ?_ | refine aD ?_ | refine aB (fun _ => ?_) fun _ => ?_ | refine nthK_mk (map_get (f := Ans.d) hz) ?_ | refine ACall.of hN1 ?_ | refine APCall.of hN1 ?_ | refine ACall.of hE ?_ | refine APCall.of hE ?_ | fail)
  all_goals (conv => whnf)
  refine ALoop.only [(23, .d (I 1)), (9, .sref 1 0 0 2 false), (0, .d x.p.d), (1, .d (SL 3 (x.c.map Rat.cells))), (2, .d (SL 4 (x.v.map Ver.d))), (3, .d (SL 4 (x.a.map Ans.d))), (4, .ptr 0 0 0 0)] (by repeat (first | exact trivial | refine And.intro rfl ?_)) ?_
  obtain ⟨e9, he9⟩ : ∃ e9, e9 = [headM x.p] := ⟨_, rfl⟩
  have hl9 : e9.length < 2 + 9 * 2 ^ 24 := by rw [he9]; simp
  refine ALoop.at (E := envOf Tryd.prog tt Tryd.f13.ntmps) (envOf_ok ttok mixed) (X := XR) (fun q => [(23, .d (I q.i)), (9, .sref 1 q.v 0 q.n false)]) (fun q => [(1, .row q.v 2 false q.rs)])
    (fun q => q.i ≤ x.a.length ∧ q.n = (e9 ++ entsM wAnswer Ans.parts (x.a.take q.i)).length ∧ q.rs = (e9 ++ entsM wAnswer Ans.parts (x.a.take q.i)).map Ent.d) (fun q => x.a.length - q.i) ⟨1, 0, 2, [(headM x.p).d, (entM wAnswer (0 : Nat) (Ans.parts z)).d]⟩ sam rfl ⟨hlt, by rw [List.length_append, entsM_len, List.length_take, he9]; simp; omega, by rw [entsM_next wAnswer Ans.parts hz, he9]; rfl⟩ ?_
  clear hE
  clear hz hzp hzm
  rintro ⟨i9, v9, n9, r9⟩ ⟨hi9, hn9', hr9'⟩
  dsimp only at hi9 hn9' hr9'
  dsimp only
  have hrl9 : r9.length = n9 := by rw [hr9', hn9', List.length_map]
  by_cases hlt : i9 < x.a.length
  · obtain ⟨z, hz, _⟩ := drop_get hlt
    have hzm : z ∈ x.a := List.mem_of_getElem? hz
    have hzp : okP (Ans.parts z) := hx.a.2 z hzm
    have hm := hx.a.1
    have hN1 := ref42_answer z (hA z hzm)
    have hE := ref42_entry wAnswer (by decide) ((i9 : Nat) : Int) ⟨by omega, by omega⟩ (txt (Ans.parts z)) (txt z.parts) rfl
    have hnb : n9 < 2 ^ 28 := by rw [hn9', List.length_append, entsM_len, List.length_take]; omega
    repeat' ((conv => whnf); first | refine cA ?_ | refine nA ?_ | refine cB ?_ | refine nB ?_ | refine aL ?_ | (with_reducible first | refine dT ?_ | refine dU ?_ | refine dF ?_ | refine dG ?_) | refine aT ?_ | refine aF ?_ | refine dS (fun _ => ?_) fun _ => ?_ | refine aW ?_ | refine aC ?_ | refine aL ?_ | refine Prep.skip ?_ | refine Eith.l ?_ | refine aD ?_ | refine aB (fun _ => ?_) fun _ => ?_ | refine nthK_mk (map_get (f := Ans.d) hz) ?_ | refine ACall.of hN1 ?_ | refine APCall.of hN1 ?_ | refine ACall.of hE ?_ | refine APCall.of hE ?_ | refine Chk.mk ⟨rfl, by omega, by simp [room]; omega⟩ ?_ | fail)
    all_goals (conv => whnf)
    all_goals first | (exfalso; omega) | skip
    refine ⟨⟨i9 + 1, v9 + 1, n9 + 1, r9 ++ [(entM wAnswer (i9 : Nat) (Ans.parts z)).d]⟩, Wm.end sam rfl rfl rfl, ⟨hlt, ?_, ?_⟩, by show x.a.length - (i9 + 1) < x.a.length - i9; omega⟩
    · show n9 + 1 = (e9 ++ entsM wAnswer Ans.parts (x.a.take (i9 + 1))).length
      rw [entsM_next wAnswer Ans.parts hz, ← List.append_assoc, hn9']; simp only [List.length_append, List.length_cons, List.length_nil] <;> omega
    · show r9 ++ _ = (e9 ++ entsM wAnswer Ans.parts (x.a.take (i9 + 1))).map Ent.d
      rw [entsM_next wAnswer Ans.parts hz, ← List.append_assoc, hr9']; simp
  have hie : i9 = x.a.length := by omega
  subst hie
  rw [List.take_length] at hn9' hr9'
  clear hlt
  obtain ⟨e10, he10⟩ : ∃ e10, e10 = e9 ++ entsM wAnswer Ans.parts x.a := ⟨_, rfl⟩
  rw [← he10] at hn9' hr9'
  have hl10 : e10.length < 2 + 10 * 2 ^ 24 := by
    have := hx.a.1
    rw [he10, List.length_append, entsM_len]; omega
  repeat' ((conv => whnf); first | (with_reducible first | refine dT ?_ | refine dU ?_ | refine dF ?_ | refine dG ?_) | refine aT ?_ | refine aF ?_ | refine dS (fun _ => ?_) fun _ => ?_ | refine aW ?_ | refine aC ?_ | refine aL ?_ | refine Prep.skip ?_ | refine Eith.l ?_ | refine aD ?_ | refine aB (fun _ => ?_) fun _ => ?_ | refine Nam.mk (List.length_map _) ?_ | fail)
  all_goals (conv => whnf)
  all_goals first | (exfalso; omega) | skip
  have z0 : entsM wLine (oneP Lin.part) x.p.lines = [] := by rw [List.eq_nil_of_length_eq_zero h0]; rfl
  have z1 : entsM wNeed Nee.parts x.p.needs = [] := by rw [List.eq_nil_of_length_eq_zero h1]; rfl
  have z2 : entsM wLot Lo.parts x.p.lots = [] := by rw [List.eq_nil_of_length_eq_zero h2]; rfl
  have z3 : entsM wCost (oneP .int) x.p.costs = [] := by rw [List.eq_nil_of_length_eq_zero h3]; rfl
  have z4 : entsM wJob Jo.parts x.p.jobs = [] := by rw [List.eq_nil_of_length_eq_zero h4]; rfl
  have z5 : entsM wPeg Pe.parts x.p.pegs = [] := by rw [List.eq_nil_of_length_eq_zero h5]; rfl
  have z6 : entsM wLate (oneP .int) x.p.late = [] := by rw [List.eq_nil_of_length_eq_zero h6]; rfl
  have z7 : entsM wPrice (oneP .ratio) x.c = [] := by rw [List.eq_nil_of_length_eq_zero h7]; rfl
  have z8 : entsM wVerdict Ver.parts x.v = [] := by rw [List.eq_nil_of_length_eq_zero h8]; rfl
  have he : e10 = reportM x := by rw [he10, he9]; unfold reportM planM; simp only [List.append_assoc, List.nil_append, z0, z1, z2, z3, z4, z5, z6, z7, z8]
  subst hn9'; subst hr9'; subst he
  have hO := ref42_ordered (reportM x) (by omega)
  repeat' ((conv => whnf); first | refine Nam.mk (y := (reportM x).map Ent.d) (whole (List.length_map _).symm) ?_ | refine Nam.mk (y := (reportM x).map Ent.d) (whole (List.length_map _)) ?_ | (with_reducible first | refine dT ?_ | refine dU ?_ | refine dF ?_ | refine dG ?_) | refine aT ?_ | refine aF ?_ | refine dS (fun _ => ?_) fun _ => ?_ | refine aW ?_ | refine aC ?_ | refine aL ?_ | refine Prep.skip ?_ | refine Eith.l ?_ | refine aD ?_ | refine aB (fun _ => ?_) fun _ => ?_ | refine ACall.of hO ?_ | refine ACall.lift ?_ | fail)
  all_goals (conv => whnf)
  exact DLe.refl _
end Go.PM
