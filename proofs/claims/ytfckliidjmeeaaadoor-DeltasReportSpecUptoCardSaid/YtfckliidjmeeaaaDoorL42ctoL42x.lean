/- Deltas, law 42: few. -/
import Derived.Test.YtfckliidjmeeaaaDoorP42atoL42a
namespace Go.PM
open Go.Proofs
set_option maxRecDepth 10000
set_option maxHeartbeats 2000000
theorem law42_few (x : Rep) (hx : x.n < 2 ^ 62) (hs2 : ∀ y ∈ x.p.needs, y.amt.n.size < 2 ^ 40 ∧ y.amt.d.size < 2 ^ 40) (hs3 : ∀ y ∈ x.p.pegs, y.amt.n.size < 2 ^ 40 ∧ y.amt.d.size < 2 ^ 40) (hs4 : ∀ y ∈ x.c, y.n.size < 2 ^ 40 ∧ y.d.size < 2 ^ 40) : CallP Tryd.prog 10 [.d x.p.d, .d (SL 3 (x.c.map Rat.cells)), .d (SL 4 (x.v.map Ver.d)), .d (SL 4 (x.a.map Ans.d))] (retD [.b (decide (x.n ≤ 300))]) := by
  refine exPure_sound (E := envOf Tryd.prog tt Tryd.f10.ntmps) (envOf_ok ttok mixed) Tryd.func10 (by rfl) rfl rfl (Nat.le_of_ble_eq_true rfl) ?_
  have m5 : x.n = x.n4 + sumL Rat.k x.c := rfl
  have m4 : x.n4 = x.n3 + sumL (fun y : Pe => y.amt.k) x.p.pegs := rfl
  have m3 : x.n3 = x.n2 + sumL (fun y : Nee => y.amt.k) x.p.needs := rfl
  have m2 : x.n2 = x.n1 + sumL Ans.n x.a := rfl
  have m1 : x.n1 = x.n0 + sumL Ver.n x.v := rfl
  have m0 : x.n0 = x.p.lines.length + x.p.needs.length + x.p.lots.length + x.p.costs.length + x.p.jobs.length + x.p.pegs.length + x.p.late.length + x.c.length + x.v.length + x.a.length := rfl
  have e0 : ((x.p.lines.length : Nat) : Int) + x.p.needs.length + x.p.lots.length + x.p.costs.length + x.p.jobs.length + x.p.pegs.length + x.p.late.length + x.c.length + x.v.length + x.a.length = ((x.n0 + sumL Ver.n (x.v.take 0) : Nat) : Int) := by rw [m0]; unfold sumL; simp
  have s0 : ∀ {α : Type} (f : α → Nat) (l : List α), sumL f (l.take 0) = 0 := fun f l => by simp [sumL]
  repeat' ((conv => whnf); first | (with_reducible first | refine dT ?_ | refine dU ?_ | refine dF ?_ | refine dG ?_) | refine aT ?_ | refine aF ?_ | refine dS (fun _ => ?_) fun _ => ?_ | refine aW ?_ | refine aC ?_ | refine aL ?_ | refine Prep.skip ?_ | refine Eith.l ?_ | refine aD ?_ | refine aB (fun _ => ?_) fun _ => ?_ | refine Nam.mk (List.length_map _) ?_ | fail)
  all_goals (conv => whnf)
  rw [e0]
  refine ALoop.only [(62, .d (I 0)), (61, .d (I x.v.length)), (60, .d (SL 4 (x.v.map Ver.d))), (9, .d (I ((x.n0 + sumL (Ver.n) (x.v.take 0) : Nat) : Int))), (4, .ptr 0 0 0 0), (3, .d (SL 4 (x.a.map Ans.d))), (2, .d (SL 4 (x.v.map Ver.d))), (1, .d (SL 3 (x.c.map Rat.cells))), (0, .d x.p.d)] (by repeat (first | exact trivial | refine And.intro rfl ?_)) ?_
  refine ALoop.at (E := envOf Tryd.prog tt Tryd.f10.ntmps) (envOf_ok ttok mixed) (X := Nat) (fun i => [(62, .d (I i)), (9, .d (I ((x.n0 + sumL (Ver.n) (x.v.take i) : Nat) : Int)))]) (fun _ => []) (fun i => i ≤ x.v.length) (fun i => x.v.length - i) 0 sam rfl (Nat.zero_le _) ?_
  intro i0 hi
  try dsimp only
  by_cases hlt : i0 < x.v.length
  · obtain ⟨z, hz, _⟩ := drop_get hlt
    have hnx := sumL_next (f := Ver.n) hz
    have hle := sumL_take (Ver.n) x.v (i0 + 1)
    rw [hnx] at hle
    have hzn : z.n = z.wth.length + z.wo.length + z.leaves.length + sumL (fun b : Bran => b.ch.length) z.leaves := rfl
    repeat' ((conv => whnf); first | (with_reducible first | refine dT ?_ | refine dU ?_ | refine dF ?_ | refine dG ?_) | refine aT ?_ | refine aF ?_ | refine dS (fun _ => ?_) fun _ => ?_ | refine aW ?_ | refine aC ?_ | refine aL ?_ | refine Prep.skip ?_ | refine Eith.l ?_ | refine aD ?_ | refine aB (fun _ => ?_) fun _ => ?_ | refine nthK_mk (map_get (f := Ver.d) hz) ?_ | refine Nam.mk (List.length_map _) ?_ | fail)
    all_goals (conv => whnf)
    all_goals first | (exfalso; omega) | skip
    have e1 : (((x.n0 + sumL (Ver.n) (x.v.take i0) : Nat) : Int)) + (((z.wth.length : Nat) : Int) + ((z.wo.length : Nat) : Int) + ((z.leaves.length : Nat) : Int)) = ((x.n0 + sumL (Ver.n) (x.v.take i0) + (z.wth.length + z.wo.length + z.leaves.length) + sumL (fun b : Bran => b.ch.length) (z.leaves.take 0) : Nat) : Int) := by rw [s0]; omega
    rw [e1]
    refine ALoop.at (E := envOf Tryd.prog tt Tryd.f10.ntmps) (envOf_ok ttok mixed) (X := Nat) (fun k => [(82, .d (I k)), (9, .d (I ((x.n0 + sumL (Ver.n) (x.v.take i0) + (z.wth.length + z.wo.length + z.leaves.length) + sumL (fun b : Bran => b.ch.length) (z.leaves.take k) : Nat) : Int)))]) (fun _ => []) (fun k => k ≤ z.leaves.length) (fun k => z.leaves.length - k) 0 sam rfl (Nat.zero_le _) ?_
    intro k hk
    try dsimp only
    by_cases hkl : k < z.leaves.length
    · obtain ⟨u, hu, _⟩ := drop_get hkl
      have hnu := sumL_next (f := fun b : Bran => b.ch.length) hu
      have hlu := sumL_take (fun b : Bran => b.ch.length) z.leaves (k + 1)
      rw [hnu] at hlu
      repeat' ((conv => whnf); first | (with_reducible first | refine dT ?_ | refine dU ?_ | refine dF ?_ | refine dG ?_) | refine aT ?_ | refine aF ?_ | refine dS (fun _ => ?_) fun _ => ?_ | refine aW ?_ | refine aC ?_ | refine aL ?_ | refine Prep.skip ?_ | refine Eith.l ?_ | refine aD ?_ | refine aB (fun _ => ?_) fun _ => ?_ | refine nthK_mk (map_get (f := Bran.d) hu) ?_ | refine Nam.mk (List.length_map _) ?_ | fail)
      all_goals (conv => whnf)
      all_goals first | (exfalso; omega) | skip
      refine ⟨k + 1, ?_, hkl, by show z.leaves.length - (k + 1) < z.leaves.length - k; omega⟩
      rw [hnu, show ((x.n0 + sumL (Ver.n) (x.v.take i0) + (z.wth.length + z.wo.length + z.leaves.length) + (sumL (fun b : Bran => b.ch.length) (z.leaves.take k) + u.ch.length) : Nat) : Int) = ((x.n0 + sumL (Ver.n) (x.v.take i0) + (z.wth.length + z.wo.length + z.leaves.length) + sumL (fun b : Bran => b.ch.length) (z.leaves.take k) : Nat) : Int) + ((u.ch.length : Nat) : Int) from by omega]
      exact Wm.end sam rfl rfl rfl
    · have hke : k = z.leaves.length := by omega
      subst hke
      rw [List.take_length]
      repeat' ((conv => whnf); first | (with_reducible first | refine dT ?_ | refine dU ?_ | refine dF ?_ | refine dG ?_) | refine aT ?_ | refine aF ?_ | refine dS (fun _ => ?_) fun _ => ?_ | refine aW ?_ | refine aC ?_ | refine aL ?_ | refine Prep.skip ?_ | refine Eith.l ?_ | refine aD ?_ | refine aB (fun _ => ?_) fun _ => ?_ | refine Nam.mk (List.length_map _) ?_ | fail)
      all_goals (conv => whnf)
      all_goals first | (exfalso; omega) | skip
      refine ⟨i0 + 1, ?_, hlt, by show x.v.length - (i0 + 1) < x.v.length - i0; omega⟩
      rw [hnx, show x.n0 + (sumL (Ver.n) (x.v.take i0) + z.n) = x.n0 + sumL (Ver.n) (x.v.take i0) + (z.wth.length + z.wo.length + z.leaves.length) + sumL (fun b : Bran => b.ch.length) z.leaves from by rw [hzn]; omega]
      exact Wm.end sam rfl rfl rfl
  have hie : i0 = x.v.length := by omega
  subst hie
  rw [List.take_length]
  clear hlt
  rw [← m1]
  repeat' ((conv => whnf); first | (with_reducible first | refine dT ?_ | refine dU ?_ | refine dF ?_ | refine dG ?_) | refine aT ?_ | refine aF ?_ | refine dS (fun _ => ?_) fun _ => ?_ | refine aW ?_ | refine aC ?_ | refine aL ?_ | refine Prep.skip ?_ | refine Eith.l ?_ | refine aD ?_ | refine aB (fun _ => ?_) fun _ => ?_ | refine Nam.mk (List.length_map _) ?_ | fail)
  all_goals (conv => whnf)
  all_goals first | (exfalso; omega) | skip
  rw [show x.n1 = x.n1 + sumL (Ans.n) (x.a.take 0) from by rw [s0]; rfl]
  refine ALoop.only [(95, .d (I 0)), (94, .d (I x.a.length)), (93, .d (SL 4 (x.a.map Ans.d))), (9, .d (I ((x.n1 + sumL (Ans.n) (x.a.take 0) : Nat) : Int))), (4, .ptr 0 0 0 0), (3, .d (SL 4 (x.a.map Ans.d))), (2, .d (SL 4 (x.v.map Ver.d))), (1, .d (SL 3 (x.c.map Rat.cells))), (0, .d x.p.d)] (by repeat (first | exact trivial | refine And.intro rfl ?_)) ?_
  refine ALoop.at (E := envOf Tryd.prog tt Tryd.f10.ntmps) (envOf_ok ttok mixed) (X := Nat) (fun i => [(95, .d (I i)), (9, .d (I ((x.n1 + sumL (Ans.n) (x.a.take i) : Nat) : Int)))]) (fun _ => []) (fun i => i ≤ x.a.length) (fun i => x.a.length - i) 0 sam rfl (Nat.zero_le _) ?_
  intro i1 hi
  try dsimp only
  by_cases hlt : i1 < x.a.length
  · obtain ⟨z, hz, _⟩ := drop_get hlt
    have hnx := sumL_next (f := Ans.n) hz
    have hle := sumL_take (Ans.n) x.a (i1 + 1)
    rw [hnx] at hle
    have hzn : z.n = z.amts.length + z.conf.length + z.reads.length + sumL (fun l : List Int => l.length) z.amts := rfl
    repeat' ((conv => whnf); first | (with_reducible first | refine dT ?_ | refine dU ?_ | refine dF ?_ | refine dG ?_) | refine aT ?_ | refine aF ?_ | refine dS (fun _ => ?_) fun _ => ?_ | refine aW ?_ | refine aC ?_ | refine aL ?_ | refine Prep.skip ?_ | refine Eith.l ?_ | refine aD ?_ | refine aB (fun _ => ?_) fun _ => ?_ | refine nthK_mk (map_get (f := Ans.d) hz) ?_ | refine Nam.mk (List.length_map _) ?_ | fail)
    all_goals (conv => whnf)
    all_goals first | (exfalso; omega) | skip
    have e1 : (((x.n1 + sumL (Ans.n) (x.a.take i1) : Nat) : Int)) + (((z.amts.length : Nat) : Int) + ((z.conf.length : Nat) : Int) + ((z.reads.length : Nat) : Int)) = ((x.n1 + sumL (Ans.n) (x.a.take i1) + (z.amts.length + z.conf.length + z.reads.length) + sumL (fun l : List Int => l.length) (z.amts.take 0) : Nat) : Int) := by rw [s0]; omega
    rw [e1]
    refine ALoop.at (E := envOf Tryd.prog tt Tryd.f10.ntmps) (envOf_ok ttok mixed) (X := Nat) (fun k => [(115, .d (I k)), (9, .d (I ((x.n1 + sumL (Ans.n) (x.a.take i1) + (z.amts.length + z.conf.length + z.reads.length) + sumL (fun l : List Int => l.length) (z.amts.take k) : Nat) : Int)))]) (fun _ => []) (fun k => k ≤ z.amts.length) (fun k => z.amts.length - k) 0 sam rfl (Nat.zero_le _) ?_
    intro k hk
    try dsimp only
    by_cases hkl : k < z.amts.length
    · obtain ⟨u, hu, _⟩ := drop_get hkl
      have hnu := sumL_next (f := fun l : List Int => l.length) hu
      have hlu := sumL_take (fun l : List Int => l.length) z.amts (k + 1)
      rw [hnu] at hlu
      repeat' ((conv => whnf); first | (with_reducible first | refine dT ?_ | refine dU ?_ | refine dF ?_ | refine dG ?_) | refine aT ?_ | refine aF ?_ | refine dS (fun _ => ?_) fun _ => ?_ | refine aW ?_ | refine aC ?_ | refine aL ?_ | refine Prep.skip ?_ | refine Eith.l ?_ | refine aD ?_ | refine aB (fun _ => ?_) fun _ => ?_ | refine nthK_mk (map_get (f := IntsD) hu) ?_ | refine Nam.mk (List.length_map _) ?_ | fail)
      all_goals (conv => whnf)
      all_goals first | (exfalso; omega) | skip
      refine ⟨k + 1, ?_, hkl, by show z.amts.length - (k + 1) < z.amts.length - k; omega⟩
      rw [hnu, show ((x.n1 + sumL (Ans.n) (x.a.take i1) + (z.amts.length + z.conf.length + z.reads.length) + (sumL (fun l : List Int => l.length) (z.amts.take k) + u.length) : Nat) : Int) = ((x.n1 + sumL (Ans.n) (x.a.take i1) + (z.amts.length + z.conf.length + z.reads.length) + sumL (fun l : List Int => l.length) (z.amts.take k) : Nat) : Int) + ((u.length : Nat) : Int) from by omega]
      exact Wm.end sam rfl rfl rfl
    · have hke : k = z.amts.length := by omega
      subst hke
      rw [List.take_length]
      repeat' ((conv => whnf); first | (with_reducible first | refine dT ?_ | refine dU ?_ | refine dF ?_ | refine dG ?_) | refine aT ?_ | refine aF ?_ | refine dS (fun _ => ?_) fun _ => ?_ | refine aW ?_ | refine aC ?_ | refine aL ?_ | refine Prep.skip ?_ | refine Eith.l ?_ | refine aD ?_ | refine aB (fun _ => ?_) fun _ => ?_ | refine Nam.mk (List.length_map _) ?_ | fail)
      all_goals (conv => whnf)
      all_goals first | (exfalso; omega) | skip
      refine ⟨i1 + 1, ?_, hlt, by show x.a.length - (i1 + 1) < x.a.length - i1; omega⟩
      rw [hnx, show x.n1 + (sumL (Ans.n) (x.a.take i1) + z.n) = x.n1 + sumL (Ans.n) (x.a.take i1) + (z.amts.length + z.conf.length + z.reads.length) + sumL (fun l : List Int => l.length) z.amts from by rw [hzn]; omega]
      exact Wm.end sam rfl rfl rfl
  have hie : i1 = x.a.length := by omega
  subst hie
  rw [List.take_length]
  clear hlt
  rw [← m2]
  repeat' ((conv => whnf); first | (with_reducible first | refine dT ?_ | refine dU ?_ | refine dF ?_ | refine dG ?_) | refine aT ?_ | refine aF ?_ | refine dS (fun _ => ?_) fun _ => ?_ | refine aW ?_ | refine aC ?_ | refine aL ?_ | refine Prep.skip ?_ | refine Eith.l ?_ | refine aD ?_ | refine aB (fun _ => ?_) fun _ => ?_ | refine Nam.mk (List.length_map _) ?_ | fail)
  all_goals (conv => whnf)
  all_goals first | (exfalso; omega) | skip
  rw [show x.n2 = x.n2 + sumL (fun y : Nee => y.amt.k) (x.p.needs.take 0) from by rw [s0]; rfl]
  refine ALoop.only [(128, .d (I 0)), (127, .d (I x.p.needs.length)), (126, .d (SL 9 (x.p.needs.map Nee.d))), (9, .d (I ((x.n2 + sumL (fun y : Nee => y.amt.k) (x.p.needs.take 0) : Nat) : Int))), (4, .ptr 0 0 0 0), (3, .d (SL 4 (x.a.map Ans.d))), (2, .d (SL 4 (x.v.map Ver.d))), (1, .d (SL 3 (x.c.map Rat.cells))), (0, .d x.p.d)] (by repeat (first | exact trivial | refine And.intro rfl ?_)) ?_
  refine ALoop.at (E := envOf Tryd.prog tt Tryd.f10.ntmps) (envOf_ok ttok mixed) (X := Nat) (fun i => [(128, .d (I i)), (9, .d (I ((x.n2 + sumL (fun y : Nee => y.amt.k) (x.p.needs.take i) : Nat) : Int)))]) (fun _ => []) (fun i => i ≤ x.p.needs.length) (fun i => x.p.needs.length - i) 0 sam rfl (Nat.zero_le _) ?_
  intro i2 hi
  try dsimp only
  by_cases hlt : i2 < x.p.needs.length
  · obtain ⟨z, hz, _⟩ := drop_get hlt
    have hnx := sumL_next (f := fun y : Nee => y.amt.k) hz
    have hle := sumL_take (fun y : Nee => y.amt.k) x.p.needs (i2 + 1)
    rw [hnx] at hle
    have hzk : (fun y : Nee => y.amt.k) z = (z.amt.n.size + z.amt.d.size) / 100 := rfl
    have hz2 := hs2 z (List.mem_of_getElem? hz)
    have e1 : ∀ a b : Nat, ((a : Int) + (b : Int)).tdiv 100 = (((a + b) / 100 : Nat) : Int) := fun a b => by rw [← Int.natCast_add]; exact tdivN _ 100
    repeat' ((conv => whnf); first | refine Wr.i64 (((z.amt.n.size + z.amt.d.size) / 100 : Nat) : Int) (e1 _ _) (by omega) ?_ | (with_reducible first | refine dT ?_ | refine dU ?_ | refine dF ?_ | refine dG ?_) | refine aT ?_ | refine aF ?_ | refine dS (fun _ => ?_) fun _ => ?_ | refine aW ?_ | refine aC ?_ | refine aL ?_ | refine Prep.skip ?_ | refine Eith.l ?_ | refine aD ?_ | refine aB (fun _ => ?_) fun _ => ?_ | refine nthK_mk (map_get (f := Nee.d) hz) ?_ | refine Nam.mk (List.length_map _) ?_ | fail)
    all_goals (conv => whnf)
    all_goals first | (exfalso; omega) | skip
    refine ⟨i2 + 1, ?_, hlt, by show x.p.needs.length - (i2 + 1) < x.p.needs.length - i2; omega⟩
    rw [hnx, show ((x.n2 + (sumL (fun y : Nee => y.amt.k) (x.p.needs.take i2) + z.amt.k) : Nat) : Int) = ((x.n2 + sumL (fun y : Nee => y.amt.k) (x.p.needs.take i2) : Nat) : Int) + ((z.amt.k : Nat) : Int) from by omega]
    exact Wm.end sam rfl rfl rfl
  have hie : i2 = x.p.needs.length := by omega
  subst hie
  rw [List.take_length]
  clear hlt
  rw [← m3]
  repeat' ((conv => whnf); first | (with_reducible first | refine dT ?_ | refine dU ?_ | refine dF ?_ | refine dG ?_) | refine aT ?_ | refine aF ?_ | refine dS (fun _ => ?_) fun _ => ?_ | refine aW ?_ | refine aC ?_ | refine aL ?_ | refine Prep.skip ?_ | refine Eith.l ?_ | refine aD ?_ | refine aB (fun _ => ?_) fun _ => ?_ | refine Nam.mk (List.length_map _) ?_ | fail)
  all_goals (conv => whnf)
  all_goals first | (exfalso; omega) | skip
  rw [show x.n3 = x.n3 + sumL (fun y : Pe => y.amt.k) (x.p.pegs.take 0) from by rw [s0]; rfl]
  refine ALoop.only [(148, .d (I 0)), (147, .d (I x.p.pegs.length)), (146, .d (SL 6 (x.p.pegs.map Pe.d))), (9, .d (I ((x.n3 + sumL (fun y : Pe => y.amt.k) (x.p.pegs.take 0) : Nat) : Int))), (4, .ptr 0 0 0 0), (3, .d (SL 4 (x.a.map Ans.d))), (2, .d (SL 4 (x.v.map Ver.d))), (1, .d (SL 3 (x.c.map Rat.cells))), (0, .d x.p.d)] (by repeat (first | exact trivial | refine And.intro rfl ?_)) ?_
  refine ALoop.at (E := envOf Tryd.prog tt Tryd.f10.ntmps) (envOf_ok ttok mixed) (X := Nat) (fun i => [(148, .d (I i)), (9, .d (I ((x.n3 + sumL (fun y : Pe => y.amt.k) (x.p.pegs.take i) : Nat) : Int)))]) (fun _ => []) (fun i => i ≤ x.p.pegs.length) (fun i => x.p.pegs.length - i) 0 sam rfl (Nat.zero_le _) ?_
  intro i3 hi
  try dsimp only
  by_cases hlt : i3 < x.p.pegs.length
  · obtain ⟨z, hz, _⟩ := drop_get hlt
    have hnx := sumL_next (f := fun y : Pe => y.amt.k) hz
    have hle := sumL_take (fun y : Pe => y.amt.k) x.p.pegs (i3 + 1)
    rw [hnx] at hle
    have hzk : (fun y : Pe => y.amt.k) z = (z.amt.n.size + z.amt.d.size) / 100 := rfl
    have hz2 := hs3 z (List.mem_of_getElem? hz)
    have e1 : ∀ a b : Nat, ((a : Int) + (b : Int)).tdiv 100 = (((a + b) / 100 : Nat) : Int) := fun a b => by rw [← Int.natCast_add]; exact tdivN _ 100
    repeat' ((conv => whnf); first | refine Wr.i64 (((z.amt.n.size + z.amt.d.size) / 100 : Nat) : Int) (e1 _ _) (by omega) ?_ | (with_reducible first | refine dT ?_ | refine dU ?_ | refine dF ?_ | refine dG ?_) | refine aT ?_ | refine aF ?_ | refine dS (fun _ => ?_) fun _ => ?_ | refine aW ?_ | refine aC ?_ | refine aL ?_ | refine Prep.skip ?_ | refine Eith.l ?_ | refine aD ?_ | refine aB (fun _ => ?_) fun _ => ?_ | refine nthK_mk (map_get (f := Pe.d) hz) ?_ | refine Nam.mk (List.length_map _) ?_ | fail)
    all_goals (conv => whnf)
    all_goals first | (exfalso; omega) | skip
    refine ⟨i3 + 1, ?_, hlt, by show x.p.pegs.length - (i3 + 1) < x.p.pegs.length - i3; omega⟩
    rw [hnx, show ((x.n3 + (sumL (fun y : Pe => y.amt.k) (x.p.pegs.take i3) + z.amt.k) : Nat) : Int) = ((x.n3 + sumL (fun y : Pe => y.amt.k) (x.p.pegs.take i3) : Nat) : Int) + ((z.amt.k : Nat) : Int) from by omega]
    exact Wm.end sam rfl rfl rfl
  have hie : i3 = x.p.pegs.length := by omega
  subst hie
  rw [List.take_length]
  clear hlt
  rw [← m4]
  repeat' ((conv => whnf); first | (with_reducible first | refine dT ?_ | refine dU ?_ | refine dF ?_ | refine dG ?_) | refine aT ?_ | refine aF ?_ | refine dS (fun _ => ?_) fun _ => ?_ | refine aW ?_ | refine aC ?_ | refine aL ?_ | refine Prep.skip ?_ | refine Eith.l ?_ | refine aD ?_ | refine aB (fun _ => ?_) fun _ => ?_ | refine Nam.mk (List.length_map _) ?_ | fail)
  all_goals (conv => whnf)
  all_goals first | (exfalso; omega) | skip
  rw [show x.n4 = x.n4 + sumL (Rat.k) (x.c.take 0) from by rw [s0]; rfl]
  refine ALoop.only [(167, .d (I 0)), (166, .d (I x.c.length)), (165, .d (SL 3 (x.c.map Rat.cells))), (9, .d (I ((x.n4 + sumL (Rat.k) (x.c.take 0) : Nat) : Int))), (4, .ptr 0 0 0 0), (3, .d (SL 4 (x.a.map Ans.d))), (2, .d (SL 4 (x.v.map Ver.d))), (1, .d (SL 3 (x.c.map Rat.cells))), (0, .d x.p.d)] (by repeat (first | exact trivial | refine And.intro rfl ?_)) ?_
  refine ALoop.at (E := envOf Tryd.prog tt Tryd.f10.ntmps) (envOf_ok ttok mixed) (X := Nat) (fun i => [(167, .d (I i)), (9, .d (I ((x.n4 + sumL (Rat.k) (x.c.take i) : Nat) : Int)))]) (fun _ => []) (fun i => i ≤ x.c.length) (fun i => x.c.length - i) 0 sam rfl (Nat.zero_le _) ?_
  intro i4 hi
  try dsimp only
  by_cases hlt : i4 < x.c.length
  · obtain ⟨z, hz, _⟩ := drop_get hlt
    have hnx := sumL_next (f := Rat.k) hz
    have hle := sumL_take (Rat.k) x.c (i4 + 1)
    rw [hnx] at hle
    have hzk : (Rat.k) z = (z.n.size + z.d.size) / 100 := rfl
    have hz2 := hs4 z (List.mem_of_getElem? hz)
    have e1 : ∀ a b : Nat, ((a : Int) + (b : Int)).tdiv 100 = (((a + b) / 100 : Nat) : Int) := fun a b => by rw [← Int.natCast_add]; exact tdivN _ 100
    repeat' ((conv => whnf); first | refine Wr.i64 (((z.n.size + z.d.size) / 100 : Nat) : Int) (e1 _ _) (by omega) ?_ | (with_reducible first | refine dT ?_ | refine dU ?_ | refine dF ?_ | refine dG ?_) | refine aT ?_ | refine aF ?_ | refine dS (fun _ => ?_) fun _ => ?_ | refine aW ?_ | refine aC ?_ | refine aL ?_ | refine Prep.skip ?_ | refine Eith.l ?_ | refine aD ?_ | refine aB (fun _ => ?_) fun _ => ?_ | refine nthK_mk (map_get (f := Rat.cells) hz) ?_ | refine Nam.mk (List.length_map _) ?_ | fail)
    all_goals (conv => whnf)
    all_goals first | (exfalso; omega) | skip
    refine ⟨i4 + 1, ?_, hlt, by show x.c.length - (i4 + 1) < x.c.length - i4; omega⟩
    rw [hnx, show ((x.n4 + (sumL (Rat.k) (x.c.take i4) + z.k) : Nat) : Int) = ((x.n4 + sumL (Rat.k) (x.c.take i4) : Nat) : Int) + ((z.k : Nat) : Int) from by omega]
    exact Wm.end sam rfl rfl rfl
  have hie : i4 = x.c.length := by omega
  subst hie
  rw [List.take_length]
  clear hlt
  rw [← m5]
  repeat' ((conv => whnf); first | (with_reducible first | refine dT ?_ | refine dU ?_ | refine dF ?_ | refine dG ?_) | refine aT ?_ | refine aF ?_ | refine dS (fun _ => ?_) fun _ => ?_ | refine aW ?_ | refine aC ?_ | refine aL ?_ | refine Prep.skip ?_ | refine Eith.l ?_ | refine aD ?_ | refine aB (fun _ => ?_) fun _ => ?_ | refine Nam.mk (List.length_map _) ?_ | fail)
  all_goals (conv => whnf)
  all_goals first | (exfalso; omega) | skip
  all_goals try simp only [decide_eq_true_eq, decide_eq_false_iff_not] at *
  all_goals first | (rw [decide_eq_true (by omega)]; exact DLe.refl _) | (rw [decide_eq_false (by omega)]; exact DLe.refl _)
end Go.PM
/- Deltas, law 42: sane. -/
namespace Go.PM
open Go.Proofs
set_option maxRecDepth 100000
set_option maxHeartbeats 8000000
def bA : ByteArray := ⟨#[10]⟩
def bB : ByteArray := ⟨#[1, 0]⟩
def rep0 : Rep := ⟨⟨0, 0, [], [], [], [], [], [], []⟩, [], [], []⟩
def rep1 : Rep := ⟨⟨3, 2, [], [⟨⟨1, 0, 0⟩, 4, ⟨true, bA, bB⟩, 1, -12⟩], [], [], [], [], [7]⟩, [⟨false, ⟨#[]⟩, ⟨#[]⟩⟩], [⟨2, [1, 0], [], [⟨[], 3, 0, -1⟩]⟩], [⟨true, [[5]], [], []⟩]⟩
def ent0 : List Ent := [⟨⟨#[112, 108, 97, 110]⟩, ⟨#[48, 32, 48]⟩⟩]
def ent1 : List Ent := [⟨⟨#[97, 110, 115, 119, 101, 114, 32, 48]⟩, ⟨#[49, 32, 49, 32, 49, 32, 53, 32, 48, 32, 48]⟩⟩, ⟨⟨#[108, 97, 116, 101, 32, 48]⟩, ⟨#[55]⟩⟩, ⟨⟨#[110, 101, 101, 100, 32, 48]⟩, ⟨#[49, 32, 48, 32, 48, 32, 52, 32, 45, 48, 97, 47, 48, 49, 48, 48, 32, 49, 32, 45, 49, 50]⟩⟩, ⟨⟨#[112, 108, 97, 110]⟩, ⟨#[51, 32, 50]⟩⟩, ⟨⟨#[112, 114, 105, 99, 101, 32, 48]⟩, ⟨#[47]⟩⟩, ⟨⟨#[118, 101, 114, 100, 105, 99, 116, 32, 48]⟩, ⟨#[50, 32, 50, 32, 49, 32, 48, 32, 48, 32, 49, 32, 48, 32, 51, 32, 48, 32, 45, 49]⟩⟩]
def lA : List Ent := [⟨⟨#[97]⟩, ⟨#[49]⟩⟩, ⟨⟨#[98]⟩, ⟨#[49]⟩⟩]
def lB : List Ent := [⟨⟨#[98]⟩, ⟨#[50]⟩⟩, ⟨⟨#[99]⟩, ⟨#[51]⟩⟩]
def lX : List Ent := [⟨⟨#[97]⟩, ⟨#[]⟩⟩, ⟨⟨#[97]⟩, ⟨#[49]⟩⟩]
abbrev nilW : List Why := []
theorem r0 : ordE (reportM rep0) = ent0 := by decide +kernel
theorem r1 : ordE (reportM rep1) = ent1 := by decide +kernel
theorem d1 : diffM lA lB nilW = (⟨lA, lB, []⟩, 0) := by decide +kernel
theorem d2 : applyM lA (⟨lA, lB, []⟩ : Dl) = (lB, 0) := by decide +kernel
theorem d3 : diffM lB lA nilW = (⟨lB, lA, []⟩, 0) := by decide +kernel
theorem d4 : joinM (⟨lA, lB, []⟩ : Dl) ⟨lB, lA, []⟩ = (⟨[], [], []⟩, 0) := by decide +kernel
theorem d5 : diffM [] [] nilW = (⟨[], [], []⟩, 0) := by decide +kernel
theorem d6 : applyM [] (⟨lA, lB, []⟩ : Dl) = ([], 420) := by decide +kernel
theorem d7 : diffM lX [] nilW = (⟨[], [], []⟩, 420) := by decide +kernel
theorem d8 : joinM (⟨lA, lB, []⟩ : Dl) ⟨lA, lB, []⟩ = (⟨[], [], []⟩, 420) := by decide +kernel
theorem w0 : rep0.ok := Rep.ok_of (by
  refine ⟨⟨?_, ?_, ?_, ?_, ?_, ?_, ?_, ?_, ?_⟩, ?_, ?_, ?_⟩
  all_goals first | exact ⟨by decide, by decide⟩ | exact ⟨by decide, by intro x hx; cases hx⟩) (by decide +kernel)
theorem okI_of {n : Int} (h : -9223372036854775808 ≤ n ∧ n < 9223372036854775808) : okI n := h
theorem okIs_of {l : List Int} (h : l.length ≤ 1048576) (h2 : ∀ n ∈ l, -9223372036854775808 ≤ n ∧ n < 9223372036854775808) : LW okI l := ⟨h, h2⟩
theorem one_mem {α : Type} {p : α → Prop} {a : α} (h : p a) : LW p [a] := ⟨by simp, by intro x hx; rw [List.mem_singleton.1 hx]; exact h⟩
theorem nil_mem {α : Type} {p : α → Prop} : LW p [] := ⟨by simp, by intro x hx; cases hx⟩
theorem w1 : rep1.ok := Rep.ok_of (by
  refine ⟨⟨okI_of (by decide), okI_of (by decide), nil_mem, one_mem ?_, nil_mem, nil_mem, nil_mem, nil_mem, one_mem (okI_of (by decide))⟩, one_mem ?_, one_mem ?_, one_mem ?_⟩
  · exact ⟨⟨okI_of (by decide), okI_of (by decide), okI_of (by decide)⟩, okI_of (by decide), ⟨by decide, by decide⟩, okI_of (by decide), okI_of (by decide)⟩
  · exact ⟨by decide, by decide⟩
  · exact ⟨okI_of (by decide), okIs_of (by decide) (by decide), nil_mem, one_mem ⟨nil_mem, okI_of (by decide), okI_of (by decide), okI_of (by decide)⟩⟩
  · exact ⟨one_mem (one_mem (okI_of (by decide))), nil_mem, nil_mem⟩) (by decide +kernel)
def DCs : List D → List D → Prop
  | [], ys => ys = []
  | x :: xs, ys => match ys with
    | [] => False
    | y :: ys => DLes x.cells y.cells ∧ DCs xs ys
theorem DCs.spec : ∀ {xs ys : List D}, DCs xs ys → ys.length = xs.length ∧ ∀ (j : Nat) (x y : D), xs[j]? = some x → ys[j]? = some y → DLes x.cells y.cells
  | [], ys, h => by
    have h : ys = [] := h
    subst h; simp
  | x :: xs, [], h => h.elim
  | x :: xs, y :: ys, h => by
    obtain ⟨i1, i2⟩ := DCs.spec h.2
    refine ⟨by simp [i1], fun j a b ha hb => ?_⟩
    cases j with
    | zero => simp at ha hb; subst ha; subst hb; exact h.1
    | succ j => exact i2 j a b (by simpa using ha) (by simpa using hb)
theorem DLe.lit {sz : Nat} {f : Bool} {xs ys : List D} (h : DCs xs ys) : DLe (.sl sz f xs) (.sl sz false ys) := (DLe.full sz f xs).trans (DLe.sl h.spec)
theorem same_yes {α : Type} [DecidableEq α] {f : FuncId} {args : List V} {a b : α} (h : a = b) (hc : CallP Tryd.prog f args (retD [.b (decide (a = b))])) : CallP Tryd.prog f args (retD [.b true]) := by rw [decide_eq_true h] at hc; exact hc
theorem callAs {f : FuncId} {args args' : List V} {v : V} (hc : CallP Tryd.prog f args' v) (h : VLes args args') : CallP Tryd.prog f args v := CallP.le h hc
def nD : D := .sl 0 true []
def dlA : D := .sl 2 true (lA.map Ent.d)
def dlB : D := .sl 2 true (lB.map Ent.d)
abbrev dAB : Dl := ⟨lA, lB, []⟩
theorem vN (sz : Nat) : DLe nD (SL sz []) := DLe.nil _ _ _
theorem vA : DLe dlA (SL 2 (lA.map Ent.d)) := DLe.full _ _ _
theorem vB : DLe dlB (SL 2 (lB.map Ent.d)) := DLe.full _ _ _
theorem law42_sane : CallP Tryd.prog 9 [] (retD [.b true]) := by
  have k0 := deltas_Report rep0 w0 (report_d _); rw [r0] at k0
  have k1 := deltas_Report rep1 w1 (report_d _); rw [r1] at k1
  have sA : SmE lA := by unfold SmE; decide
  have sB : SmE lB := by unfold SmE; decide
  have sN : SmE [] := by unfold SmE; decide
  have sX : SmE lX := by unfold SmE; decide
  have sD : SmD dAB := ⟨sA, sB, by decide⟩
  have sE : SmD ⟨lB, lA, []⟩ := ⟨sB, sA, by decide⟩
  have k2 := deltas_Diff lA lB [] sA sB (by decide); rw [d1] at k2
  have k3 := deltas_Apply lA dAB sA sD; rw [d2] at k3
  have k4 := deltas_Diff lB lA [] sB sA (by decide); rw [d3] at k4
  have k5 := deltas_Join dAB ⟨lB, lA, []⟩ sD sE; rw [d4] at k5
  have k6 := deltas_Diff [] [] [] sN sN (by decide); rw [d5] at k6
  have k7 := deltas_Apply [] dAB sN sD; rw [d6] at k7
  have k8 := deltas_Diff lX [] [] sX sN (by decide); rw [d7] at k8
  have k9 := deltas_Join dAB dAB sD sD; rw [d8] at k9
  have e0 := same_yes rfl (ref42_SameEntries ent0 ent0 (by decide))
  have e1 := same_yes rfl (ref42_SameEntries ent1 ent1 (by decide))
  have e2 := same_yes rfl (ref42_SameEntries lB lB (by decide))
  have e3 := same_yes rfl (ref42_Same ⟨[], [], []⟩ ⟨[], [], []⟩ (by decide) (by decide) (by decide) (by simp))
  have e4 := same_yes rfl (ref42_Same dAB dAB (by decide) (by decide) (by decide) (by simp))
  have k0 := callAs (args := [.d (.agg [I 0, I 0, nD, nD, nD, nD, nD, nD, nD]), .d nD, .d nD, .d nD]) k0 ⟨VLe.d (DLe.agg ⟨.refl _, .refl _, vN _, vN _, vN _, vN _, vN _, vN _, vN _, rfl⟩), VLe.d (vN _), VLe.d (vN _), VLe.d (vN _), rfl⟩
  have k1 := callAs (args := [.d (.agg [I 3, I 2, nD, .sl 9 true [.agg [I 1, I 0, I 0, I 4, .b true, .s bA, .s bB, I 1, I (-12)]], nD, nD, nD, nD, .sl 1 true [I 7]]), .d (.sl 3 true [.agg [.b false, .s ⟨#[]⟩, .s ⟨#[]⟩]]),
      .d (.sl 4 true [.agg [I 2, .sl 1 true [I 1, I 0], nD, .sl 4 true [.agg [nD, I 3, I 0, I (-1)]]]]), .d (.sl 4 true [.agg [.b true, .sl 1 true [.sl 1 true [I 5]], nD, nD]])]) k1 ⟨VLe.d (DLe.agg ⟨.refl _, .refl _, vN _, DLe.full _ _ _, vN _, vN _, vN _, vN _, DLe.full _ _ _, rfl⟩), VLe.d (DLe.full _ _ _),
      VLe.d (DLe.lit ⟨⟨.refl _, DLe.full _ _ _, vN _, DLe.lit ⟨⟨vN _, .refl _, .refl _, .refl _, rfl⟩, rfl⟩, rfl⟩, rfl⟩),
      VLe.d (DLe.lit ⟨⟨.refl _, DLe.lit ⟨⟨DLe.full _ _ _, rfl⟩, rfl⟩, vN _, vN _, rfl⟩, rfl⟩), rfl⟩
  have k2 := callAs (args := [.d dlA, .d dlB, .d nD]) k2 ⟨VLe.d vA, VLe.d vB, VLe.d (vN _), rfl⟩
  have k3 := callAs (args := [.d dlA, .d dAB.d]) k3 ⟨VLe.d vA, VLe.refl _, rfl⟩
  have k4 := callAs (args := [.d dlB, .d dlA, .d nD]) k4 ⟨VLe.d vB, VLe.d vA, VLe.d (vN _), rfl⟩
  have k6 := callAs (args := [.d nD, .d nD, .d nD]) k6 ⟨VLe.d (vN _), VLe.d (vN _), VLe.d (vN _), rfl⟩
  have k7 := callAs (args := [.d nD, .d dAB.d]) k7 ⟨VLe.d (vN _), VLe.refl _, rfl⟩
  have k8 := callAs (args := [.d (.sl 2 true (lX.map Ent.d)), .d nD, .d nD]) k8 ⟨VLe.d (DLe.full _ _ _), VLe.d (vN _), VLe.d (vN _), rfl⟩
  have e0 := callAs (args := [.d (SL 2 (ent0.map Ent.d)), .d (.sl 2 true (ent0.map Ent.d))]) e0 ⟨VLe.refl _, VLe.d (DLe.full _ _ _), rfl⟩
  have e1 := callAs (args := [.d (SL 2 (ent1.map Ent.d)), .d (.sl 2 true (ent1.map Ent.d))]) e1 ⟨VLe.refl _, VLe.d (DLe.full _ _ _), rfl⟩
  have e2 := callAs (args := [.d (SL 2 (lB.map Ent.d)), .d dlB]) e2 ⟨VLe.refl _, VLe.d vB, rfl⟩
  have e3 := callAs (args := [.d (Dlt.d (⟨[], [], []⟩ : Dl)), .d (.agg [nD, nD, nD])]) e3 ⟨VLe.refl _, VLe.d (DLe.agg ⟨vN _, vN _, vN _, rfl⟩), rfl⟩
  have e4 := callAs (args := [.d dAB.d, .d (.agg [dlA, dlB, nD])]) e4 ⟨VLe.refl _, VLe.d (DLe.agg ⟨vA, vB, vN _, rfl⟩), rfl⟩
  refine exPure_sound (E := envOf Tryd.prog tt Tryd.f9.ntmps) (envOf_ok ttok mixed) Tryd.func9 (by rfl) rfl rfl (Nat.le_of_ble_eq_true rfl) ?_
  repeat' ((conv => whnf); first | refine Dec.t (of_decide_eq_true (Eq.refl true)) ?_ | refine Dec.f (of_decide_eq_false (Eq.refl false)) ?_ | (with_reducible first | refine dT ?_ | refine dU ?_ | refine dF ?_ | refine dG ?_) | refine aT ?_ | refine aF ?_ | refine dS (fun _ => ?_) fun _ => ?_ | refine aW ?_ | refine aC ?_ | refine aL ?_ | refine Prep.skip ?_ | refine Eith.l ?_ | refine aD ?_ | refine aB (fun _ => ?_) fun _ => ?_ | refine ACall.of (k0) ?_ | refine APCall.of (k0) ?_ | refine ACall.of (k1) ?_ | refine APCall.of (k1) ?_ | refine ACall.of (k2) ?_ | refine APCall.of (k2) ?_ | refine ACall.of (k3) ?_ | refine APCall.of (k3) ?_ | refine ACall.of (k4) ?_ | refine APCall.of (k4) ?_ | refine ACall.of (k5) ?_ | refine APCall.of (k5) ?_ | refine ACall.of (k6) ?_ | refine APCall.of (k6) ?_ | refine ACall.of (k7) ?_ | refine APCall.of (k7) ?_ | refine ACall.of (k8) ?_ | refine APCall.of (k8) ?_ | refine ACall.of (k9) ?_ | refine APCall.of (k9) ?_ | refine ACall.of (e0) ?_ | refine APCall.of (e0) ?_ | refine ACall.of (e1) ?_ | refine APCall.of (e1) ?_ | refine ACall.of (e2) ?_ | refine APCall.of (e2) ?_ | refine ACall.of (e3) ?_ | refine APCall.of (e3) ?_ | refine ACall.of (e4) ?_ | refine APCall.of (e4) ?_ | fail)
  all_goals (conv => whnf)
  all_goals first | exact DLe.refl _
end Go.PM
/- Deltas, law 42: what is small, few. -/
namespace Go.PM
open Go.Proofs
set_option maxRecDepth 10000
set_option maxHeartbeats 2000000
structure Rep.sizes (x : Rep) : Prop where
  n : x.n < 2 ^ 62
  s2 : ∀ y ∈ x.p.needs, y.amt.n.size < 2 ^ 40 ∧ y.amt.d.size < 2 ^ 40
  s3 : ∀ y ∈ x.p.pegs, y.amt.n.size < 2 ^ 40 ∧ y.amt.d.size < 2 ^ 40
  s4 : ∀ y ∈ x.c, y.n.size < 2 ^ 40 ∧ y.d.size < 2 ^ 40
theorem Rat.w40 {r : Rat} (h : r.w) : r.n.size < 2 ^ 40 ∧ r.d.size < 2 ^ 40 := ⟨by have := h.1; omega, by have := h.2; omega⟩
theorem Rep.sizes_of {x : Rep} (h : x.w) : x.sizes := ⟨Rep.n_lt h, fun y hy => Rat.w40 (h.p.needs.2 y hy).2.2.1, fun y hy => Rat.w40 (h.p.pegs.2 y hy).2.2.2, fun y hy => Rat.w40 (h.c.2 y hy)⟩
abbrev argsR (x : Rep) : List V := [.d x.p.d, .d (SL 3 (x.c.map Rat.cells)), .d (SL 4 (x.v.map Ver.d)), .d (SL 4 (x.a.map Ans.d))]
theorem law42_fewW (x : Rep) (h : x.w) : CallP Tryd.prog 10 (argsR x) (retD [.b (decide (x.n ≤ 300))]) := law42_few x (Rep.n_lt h) (Rep.sizes_of h).s2 (Rep.sizes_of h).s3 (Rep.sizes_of h).s4
theorem report_len (x : Rep) : (reportM x).length = x.n0 + 1 := by
  unfold reportM planM Rep.n0
  simp only [List.length_append, entsM_len, List.length_cons, List.length_nil]; omega
theorem ordE_len (l : List Ent) : (ordE l).length = l.length := (ordE_perm l).length_eq
structure Dlt.w (d : Dl) : Prop where
  g : d.gone.length < 2 ^ 63
  n : d.new.length < 2 ^ 63
  y : d.why.length ≤ 1048576
  dd : ∀ w ∈ d.why, w.days.length < 2 ^ 40
end Go.PM
