/- Deltas, law 42: plans, verdicts, answers compared. -/
import Derived.Test.YtfckliidjmeeaaaDoorL42b
namespace Go.PM
open Go.Proofs
set_option maxRecDepth 10000
set_option maxHeartbeats 2000000

instance : DecidableEq Pla := fun p q => decidable_of_iff (p.start = q.start ∧ p.days = q.days ∧ p.lines = q.lines ∧ p.needs = q.needs ∧ p.lots = q.lots ∧ p.costs = q.costs ∧ p.jobs = q.jobs ∧ p.pegs = q.pegs ∧ p.late = q.late) (by cases p; cases q; simp)
theorem law42_samePlan (p q : Pla) (h1 : p.lines.length < 2 ^ 40) (h2 : p.needs.length < 2 ^ 40) (h3 : p.lots.length < 2 ^ 40) (h4 : p.costs.length < 2 ^ 40) (h5 : p.jobs.length < 2 ^ 40) (h6 : p.pegs.length < 2 ^ 40) (h7 : p.late.length < 2 ^ 40) :
    CallP Tryd.prog 24 [.d p.d, .d q.d] (retD [.b (decide (p = q))]) := by
  obtain ⟨a1, a2, a3, a4, a5, a6, a7, a8, a9⟩ := p
  obtain ⟨b1, b2, b3, b4, b5, b6, b7, b8, b9⟩ := q
  dsimp only at h1 h2 h3 h4 h5 h6 h7
  refine exPure_sound (E := envOf Tryd.prog tt Tryd.f24.ntmps) (envOf_ok ttok mixed) Tryd.func24 (by rfl) rfl rfl (Nat.le_of_ble_eq_true rfl) ?_
  repeat' ((conv => whnf); first | (with_reducible first | refine dT ?_ | refine dU ?_ | refine dF ?_ | refine dG ?_) | refine aT ?_ | refine aF ?_ | refine dS (fun _ => ?_) fun _ => ?_ | refine aW ?_ | refine aC ?_ | refine aL ?_ | refine Prep.skip ?_ | refine Eith.l ?_ | refine aD ?_ | refine aB (fun _ => ?_) fun _ => ?_ | refine ACall.ofB (equal_Lin _ _ h1) (fun _ => ?_) (fun _ => ?_) | refine APCall.ofB (equal_Lin _ _ h1) (fun _ => ?_) (fun _ => ?_) | refine ACall.ofB (equal_Nee _ _ h2) (fun _ => ?_) (fun _ => ?_) | refine APCall.ofB (equal_Nee _ _ h2) (fun _ => ?_) (fun _ => ?_) | refine ACall.ofB (equal_Lo _ _ h3) (fun _ => ?_) (fun _ => ?_) | refine APCall.ofB (equal_Lo _ _ h3) (fun _ => ?_) (fun _ => ?_) | refine ACall.ofB (equal_int _ _ h4) (fun _ => ?_) (fun _ => ?_) | refine APCall.ofB (equal_int _ _ h4) (fun _ => ?_) (fun _ => ?_) | refine ACall.ofB (equal_Jo _ _ h5) (fun _ => ?_) (fun _ => ?_) | refine APCall.ofB (equal_Jo _ _ h5) (fun _ => ?_) (fun _ => ?_) | refine ACall.ofB (equal_Pe _ _ h6) (fun _ => ?_) (fun _ => ?_) | refine APCall.ofB (equal_Pe _ _ h6) (fun _ => ?_) (fun _ => ?_) | refine ACall.ofB (equal_int _ _ h7) (fun _ => ?_) (fun _ => ?_) | refine APCall.ofB (equal_int _ _ h7) (fun _ => ?_) (fun _ => ?_) | refine Nam.mk (List.length_map _) ?_ | fail)
  all_goals (conv => whnf)
  all_goals try simp only [decide_eq_true_eq, decide_eq_false_iff_not] at *
  all_goals first
    | (rw [decide_eq_true (by simp_all)]; exact DLe.refl _)
    | (rw [decide_eq_false (by simp_all)]; exact DLe.refl _)
theorem law42_verdicts (a b : List Ver) (ha : a.length < 2 ^ 40) (hw : ∀ x ∈ a, x.wth.length < 2 ^ 40 ∧ x.wo.length < 2 ^ 40 ∧ x.leaves.length < 2 ^ 40 ∧ ∀ l ∈ x.leaves, l.ch.length < 2 ^ 40) : CallP Tryd.prog 26 [.d (SL 4 (a.map Ver.d)), .d (SL 4 (b.map Ver.d))] (retD [.b (decide (a = b))]) := by
  refine exPure_sound (E := envOf Tryd.prog tt Tryd.f26.ntmps) (envOf_ok ttok mixed) Tryd.func26 (by rfl) rfl rfl (Nat.le_of_ble_eq_true rfl) ?_
  by_cases he : a.length = b.length
  · repeat' ((conv => whnf); first | (with_reducible first | refine dT ?_ | refine dU ?_ | refine dF ?_ | refine dG ?_) | refine aT ?_ | refine aF ?_ | refine dS (fun _ => ?_) fun _ => ?_ | refine aW ?_ | refine aC ?_ | refine aL ?_ | refine Prep.skip ?_ | refine Eith.l ?_ | refine aD ?_ | refine aB (fun _ => ?_) fun _ => ?_ | refine Nam.mk (List.length_map _) ?_ | fail)
    all_goals (conv => whnf)
    refine ALoop.at (E := envOf Tryd.prog tt Tryd.f26.ntmps) (envOf_ok ttok mixed) (X := Nat) (fun i => [(18, .d (I i))]) (fun _ => []) (fun i => i ≤ a.length ∧ a.take i = b.take i) (fun i => a.length - i) 0 sam rfl ⟨Nat.zero_le _, rfl⟩ ?_
    rintro i ⟨hi, hm⟩
    by_cases hlt : i < a.length
    · obtain ⟨x, hx, _⟩ := drop_get hlt
      obtain ⟨y, hy, _⟩ := drop_get (l := b) (i := i) (by omega)
      have hxw := hw x (List.mem_of_getElem? hx)
      have hne : ¬ x = y → ¬ a = b := fun h e => by
        subst e
        rw [hx] at hy
        exact h (Option.some.inj hy)
      repeat' ((conv => whnf); first | (with_reducible first | refine dT ?_ | refine dU ?_ | refine dF ?_ | refine dG ?_) | refine aT ?_ | refine aF ?_ | refine dS (fun _ => ?_) fun _ => ?_ | refine aW ?_ | refine aC ?_ | refine aL ?_ | refine Prep.skip ?_ | refine Eith.l ?_ | refine aD ?_ | refine aB (fun _ => ?_) fun _ => ?_ | refine nthK_mk (map_get hx) ?_ | refine nthK_mk (map_get hy) ?_ | refine ACall.ofB (equal_int _ _ hxw.1) (fun _ => ?_) (fun _ => ?_) | refine APCall.ofB (equal_int _ _ hxw.1) (fun _ => ?_) (fun _ => ?_) | refine ACall.ofB (equal_int _ _ hxw.2.1) (fun _ => ?_) (fun _ => ?_) | refine APCall.ofB (equal_int _ _ hxw.2.1) (fun _ => ?_) (fun _ => ?_) | refine Nam.mk (List.length_map _) ?_ | fail)
      all_goals (conv => whnf)
      all_goals try simp only [decide_eq_true_eq, decide_eq_false_iff_not] at *
      all_goals first
        | (exfalso; omega)
        | (rw [decide_eq_false (hne (fun e => by subst e; simp_all; done))]; exact DLe.refl _)
        | skip
      rename_i hkind hlen hwth hwo
      have hlen : x.leaves.length = y.leaves.length := by omega
      refine ALoop.at (E := envOf Tryd.prog tt Tryd.f26.ntmps) (envOf_ok ttok mixed) (X := Nat) (fun k => [(60, .d (I k))]) (fun _ => []) (fun k => k ≤ x.leaves.length ∧ x.leaves.take k = y.leaves.take k) (fun k => x.leaves.length - k) 0 sam rfl ⟨Nat.zero_le _, rfl⟩ ?_
      rintro k ⟨hki, hkm⟩
      by_cases hkl : k < x.leaves.length
      · obtain ⟨u, hu, _⟩ := drop_get hkl
        obtain ⟨v, hv, _⟩ := drop_get (l := y.leaves) (i := k) (by omega)
        have huw := hxw.2.2.2 u (List.mem_of_getElem? hu)
        have hnu : ¬ u = v → ¬ a = b := fun h => hne fun e => by
          subst e
          rw [hu] at hv
          exact h (Option.some.inj hv)
        repeat' ((conv => whnf); first | (with_reducible first | refine dT ?_ | refine dU ?_ | refine dF ?_ | refine dG ?_) | refine aT ?_ | refine aF ?_ | refine dS (fun _ => ?_) fun _ => ?_ | refine aW ?_ | refine aC ?_ | refine aL ?_ | refine Prep.skip ?_ | refine Eith.l ?_ | refine aD ?_ | refine aB (fun _ => ?_) fun _ => ?_ | refine nthK_mk (map_get hu) ?_ | refine nthK_mk (map_get hv) ?_ | refine ACall.ofB (equal_int _ _ huw) (fun _ => ?_) (fun _ => ?_) | refine APCall.ofB (equal_int _ _ huw) (fun _ => ?_) (fun _ => ?_) | refine Nam.mk (List.length_map _) ?_ | fail)
        all_goals (conv => whnf)
        all_goals try simp only [decide_eq_true_eq, decide_eq_false_iff_not] at *
        all_goals first
          | (exfalso; omega)
          | (have e : u = v := by cases u; cases v; simp_all; done
             subst e
             refine ⟨k + 1, Wm.end sam rfl rfl rfl, ⟨hkl, ?_⟩, by show x.leaves.length - (k + 1) < x.leaves.length - k; omega⟩
             rw [List.take_add_one, List.take_add_one, hkm, hu, hv])
          | (rw [decide_eq_false (hnu (fun e => by subst e; simp_all; done))]; exact DLe.refl _)
      · have hkk : k = x.leaves.length := by omega
        subst hkk
        rw [List.take_length, hlen, List.take_length] at hkm
        have hxy : x = y := by cases x; cases y; simp_all
        repeat' ((conv => whnf); first | (with_reducible first | refine dT ?_ | refine dU ?_ | refine dF ?_ | refine dG ?_) | refine aT ?_ | refine aF ?_ | refine dS (fun _ => ?_) fun _ => ?_ | refine aW ?_ | refine aC ?_ | refine aL ?_ | refine Prep.skip ?_ | refine Eith.l ?_ | refine aD ?_ | refine aB (fun _ => ?_) fun _ => ?_ | fail)
        all_goals (conv => whnf)
        all_goals first
          | (exfalso; omega)
          | exact ⟨i + 1, Wm.end sam rfl rfl rfl, ⟨hlt, by rw [List.take_add_one, List.take_add_one, hm, hx, hy, hxy]⟩, by show a.length - (i + 1) < a.length - i; omega⟩
    · have : i = a.length := by omega
      subst this
      rw [List.take_length, he, List.take_length] at hm
      repeat' ((conv => whnf); first | (with_reducible first | refine dT ?_ | refine dU ?_ | refine dF ?_ | refine dG ?_) | refine aT ?_ | refine aF ?_ | refine dS (fun _ => ?_) fun _ => ?_ | refine aW ?_ | refine aC ?_ | refine aL ?_ | refine Prep.skip ?_ | refine Eith.l ?_ | refine aD ?_ | refine aB (fun _ => ?_) fun _ => ?_)
      all_goals (conv => whnf)
      rw [decide_eq_true hm]; exact DLe.refl _
  · repeat' ((conv => whnf); first | (with_reducible first | refine dT ?_ | refine dU ?_ | refine dF ?_ | refine dG ?_) | refine aT ?_ | refine aF ?_ | refine dS (fun _ => ?_) fun _ => ?_ | refine aW ?_ | refine aC ?_ | refine aL ?_ | refine Prep.skip ?_ | refine Eith.l ?_ | refine aD ?_ | refine aB (fun _ => ?_) fun _ => ?_)
    all_goals (conv => whnf)
    rw [decide_eq_false (fun h => he (by rw [h]))]; exact DLe.refl _
theorem law42_answers (a b : List Ans) (ha : a.length < 2 ^ 40) (hw : ∀ x ∈ a, x.conf.length < 2 ^ 40 ∧ x.reads.length < 2 ^ 40 ∧ x.amts.length < 2 ^ 40 ∧ ∀ l ∈ x.amts, l.length < 2 ^ 40) : CallP Tryd.prog 27 [.d (SL 4 (a.map Ans.d)), .d (SL 4 (b.map Ans.d))] (retD [.b (decide (a = b))]) := by
  refine exPure_sound (E := envOf Tryd.prog tt Tryd.f27.ntmps) (envOf_ok ttok mixed) Tryd.func27 (by rfl) rfl rfl (Nat.le_of_ble_eq_true rfl) ?_
  by_cases he : a.length = b.length
  · repeat' ((conv => whnf); first | (with_reducible first | refine dT ?_ | refine dU ?_ | refine dF ?_ | refine dG ?_) | refine aT ?_ | refine aF ?_ | refine dS (fun _ => ?_) fun _ => ?_ | refine aW ?_ | refine aC ?_ | refine aL ?_ | refine Prep.skip ?_ | refine Eith.l ?_ | refine aD ?_ | refine aB (fun _ => ?_) fun _ => ?_ | refine Nam.mk (List.length_map _) ?_ | fail)
    all_goals (conv => whnf)
    refine ALoop.at (E := envOf Tryd.prog tt Tryd.f27.ntmps) (envOf_ok ttok mixed) (X := Nat) (fun i => [(17, .d (I i))]) (fun _ => []) (fun i => i ≤ a.length ∧ a.take i = b.take i) (fun i => a.length - i) 0 sam rfl ⟨Nat.zero_le _, rfl⟩ ?_
    rintro i ⟨hi, hm⟩
    by_cases hlt : i < a.length
    · obtain ⟨x, hx, _⟩ := drop_get hlt
      obtain ⟨y, hy, _⟩ := drop_get (l := b) (i := i) (by omega)
      have hxw := hw x (List.mem_of_getElem? hx)
      have hne : ¬ x = y → ¬ a = b := fun h e => by
        subst e
        rw [hx] at hy
        exact h (Option.some.inj hy)
      repeat' ((conv => whnf); first | (with_reducible first | refine dT ?_ | refine dU ?_ | refine dF ?_ | refine dG ?_) | refine aT ?_ | refine aF ?_ | refine dS (fun _ => ?_) fun _ => ?_ | refine aW ?_ | refine aC ?_ | refine aL ?_ | refine Prep.skip ?_ | refine Eith.l ?_ | refine aD ?_ | refine aB (fun _ => ?_) fun _ => ?_ | refine nthK_mk (map_get hx) ?_ | refine nthK_mk (map_get hy) ?_ | refine ACall.ofB (equal_int _ _ hxw.1) (fun _ => ?_) (fun _ => ?_) | refine APCall.ofB (equal_int _ _ hxw.1) (fun _ => ?_) (fun _ => ?_) | refine ACall.ofB (equal_Rd _ _ hxw.2.1) (fun _ => ?_) (fun _ => ?_) | refine APCall.ofB (equal_Rd _ _ hxw.2.1) (fun _ => ?_) (fun _ => ?_) | refine Nam.mk (List.length_map _) ?_ | fail)
      all_goals (conv => whnf)
      all_goals try simp only [decide_eq_true_eq, decide_eq_false_iff_not] at *
      all_goals first
        | (exfalso; omega)
        | (rw [decide_eq_false (hne (fun e => by subst e; simp_all; done))]; exact DLe.refl _)
        | skip
      rename_i hok hlen hconf hreads
      have hlen : x.amts.length = y.amts.length := by omega
      refine ALoop.at (E := envOf Tryd.prog tt Tryd.f27.ntmps) (envOf_ok ttok mixed) (X := Nat) (fun k => [(59, .d (I k))]) (fun _ => []) (fun k => k ≤ x.amts.length ∧ x.amts.take k = y.amts.take k) (fun k => x.amts.length - k) 0 sam rfl ⟨Nat.zero_le _, rfl⟩ ?_
      rintro k ⟨hki, hkm⟩
      by_cases hkl : k < x.amts.length
      · obtain ⟨u, hu, _⟩ := drop_get hkl
        obtain ⟨v, hv, _⟩ := drop_get (l := y.amts) (i := k) (by omega)
        have huw := hxw.2.2.2 u (List.mem_of_getElem? hu)
        have hnu : ¬ u = v → ¬ a = b := fun h => hne fun e => by
          subst e
          rw [hu] at hv
          exact h (Option.some.inj hv)
        repeat' ((conv => whnf); first | (with_reducible first | refine dT ?_ | refine dU ?_ | refine dF ?_ | refine dG ?_) | refine aT ?_ | refine aF ?_ | refine dS (fun _ => ?_) fun _ => ?_ | refine aW ?_ | refine aC ?_ | refine aL ?_ | refine Prep.skip ?_ | refine Eith.l ?_ | refine aD ?_ | refine aB (fun _ => ?_) fun _ => ?_ | refine nthK_mk (map_get (f := IntsD) hu) ?_ | refine nthK_mk (map_get (f := IntsD) hv) ?_ | refine ACall.ofB (equal_int _ _ huw) (fun _ => ?_) (fun _ => ?_) | refine APCall.ofB (equal_int _ _ huw) (fun _ => ?_) (fun _ => ?_) | refine Nam.mk (List.length_map _) ?_ | fail)
        all_goals (conv => whnf)
        all_goals try simp only [decide_eq_true_eq, decide_eq_false_iff_not] at *
        all_goals first
          | (exfalso; omega)
          | (have e : u = v := by first | assumption | (simp_all; done)
             subst e
             refine ⟨k + 1, Wm.end sam rfl rfl rfl, ⟨hkl, ?_⟩, by show x.amts.length - (k + 1) < x.amts.length - k; omega⟩
             rw [List.take_add_one, List.take_add_one, hkm, hu, hv])
          | (rw [decide_eq_false (hnu (fun e => by subst e; simp_all; done))]; exact DLe.refl _)
      · have hkk : k = x.amts.length := by omega
        subst hkk
        rw [List.take_length, hlen, List.take_length] at hkm
        have hxy : x = y := by cases x; cases y; simp_all
        repeat' ((conv => whnf); first | (with_reducible first | refine dT ?_ | refine dU ?_ | refine dF ?_ | refine dG ?_) | refine aT ?_ | refine aF ?_ | refine dS (fun _ => ?_) fun _ => ?_ | refine aW ?_ | refine aC ?_ | refine aL ?_ | refine Prep.skip ?_ | refine Eith.l ?_ | refine aD ?_ | refine aB (fun _ => ?_) fun _ => ?_ | fail)
        all_goals (conv => whnf)
        all_goals first
          | (exfalso; omega)
          | exact ⟨i + 1, Wm.end sam rfl rfl rfl, ⟨hlt, by rw [List.take_add_one, List.take_add_one, hm, hx, hy, hxy]⟩, by show a.length - (i + 1) < a.length - i; omega⟩
    · have : i = a.length := by omega
      subst this
      rw [List.take_length, he, List.take_length] at hm
      repeat' ((conv => whnf); first | (with_reducible first | refine dT ?_ | refine dU ?_ | refine dF ?_ | refine dG ?_) | refine aT ?_ | refine aF ?_ | refine dS (fun _ => ?_) fun _ => ?_ | refine aW ?_ | refine aC ?_ | refine aL ?_ | refine Prep.skip ?_ | refine Eith.l ?_ | refine aD ?_ | refine aB (fun _ => ?_) fun _ => ?_)
      all_goals (conv => whnf)
      rw [decide_eq_true hm]; exact DLe.refl _
  · repeat' ((conv => whnf); first | (with_reducible first | refine dT ?_ | refine dU ?_ | refine dF ?_ | refine dG ?_) | refine aT ?_ | refine aF ?_ | refine dS (fun _ => ?_) fun _ => ?_ | refine aW ?_ | refine aC ?_ | refine aL ?_ | refine Prep.skip ?_ | refine Eith.l ?_ | refine aD ?_ | refine aB (fun _ => ?_) fun _ => ?_)
    all_goals (conv => whnf)
    rw [decide_eq_false (fun h => he (by rw [h]))]; exact DLe.refl _
end Go.PM

