/- Deltas: lists one behind the other, in order. -/
import Derived.Test.YtfckliidjmeeaaaDoorD42c
import Derived.Test.YtfckliidjmeeaaaDoorPmSort
import Derived.Ground.SlsfProg
namespace Go.Proofs
open Go.Shelf
def Tryd.sortEntry_ren : Go.Shelf.Ren := ⟨fun | 6 => 32 | 15 => 70 | 14 => 69 | 28 => 93 | 29 => 94 | 20 => 85 | 21 => 86 | 22 => 87 | 23 => 88 | 24 => 89 | 25 => 90 | 26 => 91 | 27 => 92 | 46 => 100 | 47 => 101 | 48 => 102 | 49 => 103 | 50 => 104 | 57 => 110 | n => n, fun | 22 => 36 | 24 => 52 | 25 => 86 | 3 => 3 | 39 => 137 | 0 => 0 | 53 => 161 | 55 => 163 | 4 => 4 | 46 => 154 | 45 => 153 | 50 => 158 | 5 => 5 | 9 => 9 | 66 => 169 | 70 => 173 | 76 => 180 | 77 => 181 | n => n, fun | n => n⟩
theorem Tryd.sortEntry : Go.Proofs.SlLaysF0.n6 Tryd.prog Tryd.sortEntry_ren := {
  mixed := by kernel_rfl
  f6 := ⟨Tryd.f32.name, by decide, Tryd.func32.trans (congrArg some (by kernel_rfl))⟩
  f14 := ⟨Tryd.f69.name, by decide, Tryd.func69.trans (congrArg some (by kernel_rfl))⟩
  f15 := Tryd.func70.trans (congrArg some (by kernel_rfl))
  f20 := ⟨Tryd.f85.name, by decide, Tryd.func85.trans (congrArg some (by kernel_rfl))⟩
  f21 := ⟨Tryd.f86.name, by decide, Tryd.func86.trans (congrArg some (by kernel_rfl))⟩
  f22 := ⟨Tryd.f87.name, by decide, Tryd.func87.trans (congrArg some (by kernel_rfl))⟩
  f23 := ⟨Tryd.f88.name, by decide, Tryd.func88.trans (congrArg some (by kernel_rfl))⟩
  f24 := ⟨Tryd.f89.name, by decide, Tryd.func89.trans (congrArg some (by kernel_rfl))⟩
  f25 := ⟨Tryd.f90.name, by decide, Tryd.func90.trans (congrArg some (by kernel_rfl))⟩
  f26 := ⟨Tryd.f91.name, by decide, Tryd.func91.trans (congrArg some (by kernel_rfl))⟩
  f27 := ⟨Tryd.f92.name, by decide, Tryd.func92.trans (congrArg some (by kernel_rfl))⟩
  f28 := Tryd.func93.trans (congrArg some (by kernel_rfl))
  f29 := Tryd.func94.trans (congrArg some (by kernel_rfl))
  f46 := ⟨Tryd.f100.name, by decide, Tryd.func100.trans (congrArg some (by kernel_rfl))⟩
  f47 := Tryd.func101.trans (congrArg some (by kernel_rfl))
  f48 := Tryd.func102.trans (congrArg some (by kernel_rfl))
  f49 := ⟨Tryd.f103.name, by decide, Tryd.func103.trans (congrArg some (by kernel_rfl))⟩
  f50 := ⟨Tryd.f104.name, by decide, Tryd.func104.trans (congrArg some (by kernel_rfl))⟩
  f57 := ⟨Tryd.f110.name, by decide, Tryd.func110.trans (congrArg some (by kernel_rfl))⟩
  t0 := Tryd.underlying0
  a0 := Tryd.isAgg0
  z0 := Tryd.sizeOf0
  v0 := Tryd.zeroValue0
  t3 := Tryd.underlying3
  a3 := Tryd.isAgg3
  z3 := Tryd.sizeOf3
  v3 := Tryd.zeroValue3
  t4 := Tryd.underlying4
  a4 := Tryd.isAgg4
  z4 := Tryd.sizeOf4
  v4 := Tryd.zeroValue4
  t5 := Tryd.underlying5
  a5 := Tryd.isAgg5
  z5 := Tryd.sizeOf5
  v5 := Tryd.zeroValue5
  t9 := Tryd.underlying9
  a9 := Tryd.isAgg9
  z9 := Tryd.sizeOf9
  v9 := Tryd.zeroValue9
  t22 := Tryd.underlying36
  a22 := Tryd.isAgg36
  z22 := Tryd.sizeOf36
  v22 := Tryd.zeroValue36
  t25 := Tryd.underlying86
  a25 := Tryd.isAgg86
  z25 := Tryd.sizeOf86
  v25 := Tryd.zeroValue86
  t39 := Tryd.underlying137
  a39 := Tryd.isAgg137
  z39 := Tryd.sizeOf137
  v39 := Tryd.zeroValue137
  t45 := Tryd.underlying153
  a45 := Tryd.isAgg153
  z45 := Tryd.sizeOf153
  v45 := Tryd.zeroValue153
  t46 := Tryd.underlying154
  a46 := Tryd.isAgg154
  z46 := Tryd.sizeOf154
  v46 := Tryd.zeroValue154
  t50 := Tryd.underlying158
  a50 := Tryd.isAgg158
  z50 := Tryd.sizeOf158
  v50 := Tryd.zeroValue158
  t53 := Tryd.underlying161
  a53 := Tryd.isAgg161
  z53 := Tryd.sizeOf161
  v53 := Tryd.zeroValue161
  t55 := Tryd.underlying163
  a55 := Tryd.isAgg163
  z55 := Tryd.sizeOf163
  v55 := Tryd.zeroValue163
  t66 := Tryd.underlying169
  a66 := Tryd.isAgg169
  z66 := Tryd.sizeOf169
  v66 := Tryd.zeroValue169
  t70 := Tryd.underlying173
  a70 := Tryd.isAgg173
  z70 := Tryd.sizeOf173
  v70 := Tryd.zeroValue173
  t76 := Tryd.underlying180
  a76 := Tryd.isAgg180
  z76 := Tryd.sizeOf180
  v76 := Tryd.zeroValue180
  t77 := Tryd.underlying181
  a77 := Tryd.isAgg181
  z77 := Tryd.sizeOf181
  v77 := Tryd.zeroValue181 }
end Go.Proofs
namespace Go.PM
open Go.Proofs
set_option maxRecDepth 10000
set_option maxHeartbeats 1000000
theorem cmp_isNaNs (x : ByteArray) : CallP Tryd.prog 95 [.d (.s x)] (retD [.b false]) := by
  refine exPure_sound (E := envOf Tryd.prog tt Tryd.f95.ntmps) (envOf_ok ttok mixed) Tryd.func95 (by rfl) rfl rfl (Nat.le_of_ble_eq_true rfl) ?_
  repeat' ((conv => whnf); first | (with_reducible first | refine dT ?_ | refine dU ?_ | refine dF ?_ | refine dG ?_) | refine aT ?_ | refine aF ?_ | refine dS (fun _ => ?_) fun _ => ?_ | refine aW ?_ | refine aC ?_ | refine aL ?_ | refine Prep.skip ?_ | refine Eith.l ?_ | refine aD ?_ | refine aB (fun _ => ?_) fun _ => ?_)
  all_goals (conv => whnf)
  all_goals first | exact absurd rfl (by assumption) | exact DLe.refl _
def cmpS (x y : ByteArray) : Int := if x.toList < y.toList then -1 else if y.toList < x.toList then 1 else 0
theorem cmp_Compares (x y : ByteArray) : CallP Tryd.prog 71 [.d (.s x), .d (.s y)] (retD [I (cmpS x y)]) := by
  refine exPure_sound (E := envOf Tryd.prog tt Tryd.f71.ntmps) (envOf_ok ttok mixed) Tryd.func71 (by rfl) rfl rfl (Nat.le_of_ble_eq_true rfl) ?_
  repeat' ((conv => whnf); first | (with_reducible first | refine dT ?_ | refine dU ?_ | refine dF ?_ | refine dG ?_) | refine aT ?_ | refine aF ?_ | refine dS (fun _ => ?_) fun _ => ?_ | refine aW ?_ | refine aC ?_ | refine aL ?_ | refine Prep.skip ?_ | refine Eith.l ?_ | refine aD ?_ | refine aB (fun _ => ?_) fun _ => ?_ | refine ACall.of (cmp_isNaNs _) ?_ | fail)
  all_goals (conv => whnf)
  · rename_i h
    have h1 : x.toList < y.toList := bytesLess_iff.1 h
    unfold cmpS; rw [if_pos h1]; exact DLe.refl _
  · rename_i h h2
    have h1 : ¬ x.toList < y.toList := fun h1 => by rw [bytesLess_iff.2 h1] at h; cases h
    have h3 : y.toList < x.toList := by
      simp only [Bool.not_eq_true', Bool.or_eq_false_iff, beq_eq_false_iff_ne] at h2
      exact Decidable.byContradiction fun h4 => h2.2 (List.le_antisymm (List.not_lt.1 h4) (List.not_lt.1 h1))
    unfold cmpS; rw [if_neg h1, if_pos h3]; exact DLe.refl _
  · rename_i h h2
    have h1 : ¬ x.toList < y.toList := fun h1 => by rw [bytesLess_iff.2 h1] at h; cases h
    have h3 : ¬ y.toList < x.toList := fun h3 => by
      rw [h, Bool.false_or, Bool.not_eq_false', beq_iff_eq] at h2
      rw [h2] at h3; exact List.lt_irrefl _ h3
    unfold cmpS; rw [if_neg h1, if_neg h3]; exact DLe.refl _
theorem growEnt (n : Nat) (hn : n < 2 ^ 30) : CallRow Tryd.prog 96 [.d (.sl 0 true []), .d (I n)] 2 [] := by
  refine exRow_sound (E := envOf Tryd.prog tt Tryd.f96.ntmps) (envOf_ok ttok mixed) Tryd.func96 (by rfl) rfl rfl (Nat.le_of_ble_eq_true rfl) ?_
  repeat' ((conv => whnf); first | refine Nam.mk (y := 0) rfl ?_ | refine Chk.mk rfl ?_ | refine Chk.mk (by unfold room; omega) ?_ | (with_reducible first | refine dT ?_ | refine dU ?_ | refine dF ?_ | refine dG ?_) | refine aT ?_ | refine aF ?_ | refine dS (fun _ => ?_) fun _ => ?_ | refine aW ?_ | refine aC ?_ | refine aL ?_ | refine Prep.skip ?_ | refine Eith.l ?_ | refine aD ?_ | refine aB (fun _ => ?_) fun _ => ?_ | fail)
  all_goals (conv => whnf)
  all_goals first | exact Nam.mk (y := []) (by simp) rfl | exact rfl
theorem growWhy (n : Nat) (hn : n < 2 ^ 30) : CallRow Tryd.prog 80 [.d (.sl 0 true []), .d (I n)] 4 [] := by
  refine exRow_sound (E := envOf Tryd.prog tt Tryd.f80.ntmps) (envOf_ok ttok mixed) Tryd.func80 (by rfl) rfl rfl (Nat.le_of_ble_eq_true rfl) ?_
  repeat' ((conv => whnf); first | refine Nam.mk (y := 0) rfl ?_ | refine Chk.mk rfl ?_ | refine Chk.mk (by unfold room; omega) ?_ | (with_reducible first | refine dT ?_ | refine dU ?_ | refine dF ?_ | refine dG ?_) | refine aT ?_ | refine aF ?_ | refine dS (fun _ => ?_) fun _ => ?_ | refine aW ?_ | refine aC ?_ | refine aL ?_ | refine Prep.skip ?_ | refine Eith.l ?_ | refine aD ?_ | refine aB (fun _ => ?_) fun _ => ?_ | fail)
  all_goals (conv => whnf)
  all_goals first | exact Nam.mk (y := []) (by simp) rfl | exact rfl
theorem concatEnt (a b : List Ent) (f1 f2 : Bool) (hl : a.length + b.length < 2 ^ 29) : CallRow Tryd.prog 79 [.d (.sl 1 true [.sl 2 f1 (a.map Ent.d), .sl 2 f2 (b.map Ent.d)])] 2 ((a ++ b).map Ent.d) := by
  refine exRow_sound (E := envOf Tryd.prog tt Tryd.f79.ntmps) (envOf_ok ttok mixed) Tryd.func79 (by rfl) rfl rfl (Nat.le_of_ble_eq_true rfl) ?_
  repeat' ((conv => whnf); first | refine Nam.mk (List.length_map _) ?_ | refine Nam.mk (y := 2) rfl ?_ | refine Chk.mk ⟨rfl, by simp [dropL], by simp [room]; omega⟩ ?_ | (with_reducible first | refine dT ?_ | refine dU ?_ | refine dF ?_ | refine dG ?_) | refine aT ?_ | refine aF ?_ | refine dS (fun _ => ?_) fun _ => ?_ | refine aW ?_ | refine aC ?_ | refine aL ?_ | refine Prep.skip ?_ | refine Eith.l ?_ | refine aD ?_ | refine aB (fun _ => ?_) fun _ => ?_ | refine ACall.ofRow (CallRow.le (args' := [.d (.sl 0 true []), .d (I ((a.length + b.length : Nat) : Int))]) ⟨VLe.refl _, by rw [show ((0 : Int) + (a.length : Int) + (b.length : Int)) = ((a.length + b.length : Nat) : Int) by omega]; exact VLe.refl _, rfl⟩ (growEnt (a.length + b.length) (by omega))) ?_ | fail)
  all_goals (conv => whnf)
  refine ALoop.rounds 3 ?_
  refine ALoopN.step (E := (envOf Tryd.prog tt Tryd.f79.ntmps)) (envOf_ok ttok mixed) ?_
  repeat' ((conv => whnf); first | refine Nam.mk (List.length_map _) ?_ | refine Nam.mk (y := 2) rfl ?_ | refine Chk.mk ⟨rfl, by simp [dropL], by simp [room]; omega⟩ ?_ | (with_reducible first | refine dT ?_ | refine dU ?_ | refine dF ?_ | refine dG ?_) | refine aT ?_ | refine aF ?_ | refine dS (fun _ => ?_) fun _ => ?_ | refine aW ?_ | refine aC ?_ | refine aL ?_ | refine Prep.skip ?_ | refine Eith.l ?_ | refine aD ?_ | refine aB (fun _ => ?_) fun _ => ?_ | refine ACall.ofRow (CallRow.le (args' := [.d (.sl 0 true []), .d (I ((a.length + b.length : Nat) : Int))]) ⟨VLe.refl _, by rw [show ((0 : Int) + (a.length : Int) + (b.length : Int)) = ((a.length + b.length : Nat) : Int) by omega]; exact VLe.refl _, rfl⟩ (growEnt (a.length + b.length) (by omega))) ?_ | fail)
  all_goals (conv => whnf)
  refine ALoopN.step (E := (envOf Tryd.prog tt Tryd.f79.ntmps)) (envOf_ok ttok mixed) ?_
  repeat' ((conv => whnf); first | refine Nam.mk (List.length_map _) ?_ | refine Nam.mk (y := 2) rfl ?_ | refine Chk.mk ⟨rfl, by simp [dropL], by simp [room]; omega⟩ ?_ | (with_reducible first | refine dT ?_ | refine dU ?_ | refine dF ?_ | refine dG ?_) | refine aT ?_ | refine aF ?_ | refine dS (fun _ => ?_) fun _ => ?_ | refine aW ?_ | refine aC ?_ | refine aL ?_ | refine Prep.skip ?_ | refine Eith.l ?_ | refine aD ?_ | refine aB (fun _ => ?_) fun _ => ?_ | refine ACall.ofRow (CallRow.le (args' := [.d (.sl 0 true []), .d (I ((a.length + b.length : Nat) : Int))]) ⟨VLe.refl _, by rw [show ((0 : Int) + (a.length : Int) + (b.length : Int)) = ((a.length + b.length : Nat) : Int) by omega]; exact VLe.refl _, rfl⟩ (growEnt (a.length + b.length) (by omega))) ?_ | fail)
  all_goals (conv => whnf)
  refine ALoopN.step (E := (envOf Tryd.prog tt Tryd.f79.ntmps)) (envOf_ok ttok mixed) ?_
  repeat' ((conv => whnf); first | refine Nam.mk (List.length_map _) ?_ | refine Nam.mk (y := 2) rfl ?_ | refine Chk.mk ⟨rfl, by simp [dropL], by simp [room]; omega⟩ ?_ | (with_reducible first | refine dT ?_ | refine dU ?_ | refine dF ?_ | refine dG ?_) | refine aT ?_ | refine aF ?_ | refine dS (fun _ => ?_) fun _ => ?_ | refine aW ?_ | refine aC ?_ | refine aL ?_ | refine Prep.skip ?_ | refine Eith.l ?_ | refine aD ?_ | refine aB (fun _ => ?_) fun _ => ?_ | refine ACall.ofRow (CallRow.le (args' := [.d (.sl 0 true []), .d (I ((a.length + b.length : Nat) : Int))]) ⟨VLe.refl _, by rw [show ((0 : Int) + (a.length : Int) + (b.length : Int)) = ((a.length + b.length : Nat) : Int) by omega]; exact VLe.refl _, rfl⟩ (growEnt (a.length + b.length) (by omega))) ?_ | fail)
  all_goals (conv => whnf)
  refine ALoop.rounds 3 ?_
  refine ALoopN.step (E := (envOf Tryd.prog tt Tryd.f79.ntmps)) (envOf_ok ttok mixed) ?_
  repeat' ((conv => whnf); first | refine Nam.mk (List.length_map _) ?_ | refine Nam.mk (y := 2) rfl ?_ | refine Chk.mk ⟨rfl, by simp [dropL], by simp [room]; omega⟩ ?_ | (with_reducible first | refine dT ?_ | refine dU ?_ | refine dF ?_ | refine dG ?_) | refine aT ?_ | refine aF ?_ | refine dS (fun _ => ?_) fun _ => ?_ | refine aW ?_ | refine aC ?_ | refine aL ?_ | refine Prep.skip ?_ | refine Eith.l ?_ | refine aD ?_ | refine aB (fun _ => ?_) fun _ => ?_ | refine ACall.ofRow (CallRow.le (args' := [.d (.sl 0 true []), .d (I ((a.length + b.length : Nat) : Int))]) ⟨VLe.refl _, by rw [show ((0 : Int) + (a.length : Int) + (b.length : Int)) = ((a.length + b.length : Nat) : Int) by omega]; exact VLe.refl _, rfl⟩ (growEnt (a.length + b.length) (by omega))) ?_ | fail)
  all_goals (conv => whnf)
  refine ALoopN.step (E := (envOf Tryd.prog tt Tryd.f79.ntmps)) (envOf_ok ttok mixed) ?_
  repeat' ((conv => whnf); first | refine Nam.mk (List.length_map _) ?_ | refine Nam.mk (y := 2) rfl ?_ | refine Chk.mk ⟨rfl, by simp [dropL], by simp [room]; omega⟩ ?_ | (with_reducible first | refine dT ?_ | refine dU ?_ | refine dF ?_ | refine dG ?_) | refine aT ?_ | refine aF ?_ | refine dS (fun _ => ?_) fun _ => ?_ | refine aW ?_ | refine aC ?_ | refine aL ?_ | refine Prep.skip ?_ | refine Eith.l ?_ | refine aD ?_ | refine aB (fun _ => ?_) fun _ => ?_ | refine ACall.ofRow (CallRow.le (args' := [.d (.sl 0 true []), .d (I ((a.length + b.length : Nat) : Int))]) ⟨VLe.refl _, by rw [show ((0 : Int) + (a.length : Int) + (b.length : Int)) = ((a.length + b.length : Nat) : Int) by omega]; exact VLe.refl _, rfl⟩ (growEnt (a.length + b.length) (by omega))) ?_ | fail)
  all_goals (conv => whnf)
  refine ALoopN.step (E := (envOf Tryd.prog tt Tryd.f79.ntmps)) (envOf_ok ttok mixed) ?_
  repeat' ((conv => whnf); first | refine Nam.mk (List.length_map _) ?_ | refine Nam.mk (y := 2) rfl ?_ | refine Chk.mk ⟨rfl, by simp [dropL], by simp [room]; omega⟩ ?_ | (with_reducible first | refine dT ?_ | refine dU ?_ | refine dF ?_ | refine dG ?_) | refine aT ?_ | refine aF ?_ | refine dS (fun _ => ?_) fun _ => ?_ | refine aW ?_ | refine aC ?_ | refine aL ?_ | refine Prep.skip ?_ | refine Eith.l ?_ | refine aD ?_ | refine aB (fun _ => ?_) fun _ => ?_ | refine ACall.ofRow (CallRow.le (args' := [.d (.sl 0 true []), .d (I ((a.length + b.length : Nat) : Int))]) ⟨VLe.refl _, by rw [show ((0 : Int) + (a.length : Int) + (b.length : Int)) = ((a.length + b.length : Nat) : Int) by omega]; exact VLe.refl _, rfl⟩ (growEnt (a.length + b.length) (by omega))) ?_ | fail)
  all_goals (conv => whnf)
  exact Nam.mk (y := (a ++ b).map Ent.d) (by show List.take _ (a.map Ent.d ++ b.map Ent.d) = _; rw [← List.map_append]; exact List.take_of_length_le (by simp)) rfl
theorem concatWhy (a b : List Why) (f1 f2 : Bool) (hl : a.length + b.length < 2 ^ 29) : CallRow Tryd.prog 55 [.d (.sl 1 true [.sl 4 f1 (a.map Why.d), .sl 4 f2 (b.map Why.d)])] 4 ((a ++ b).map Why.d) := by
  refine exRow_sound (E := envOf Tryd.prog tt Tryd.f55.ntmps) (envOf_ok ttok mixed) Tryd.func55 (by rfl) rfl rfl (Nat.le_of_ble_eq_true rfl) ?_
  repeat' ((conv => whnf); first | refine Nam.mk (List.length_map _) ?_ | refine Nam.mk (y := 2) rfl ?_ | refine Chk.mk ⟨rfl, by simp [dropL], by simp [room]; omega⟩ ?_ | (with_reducible first | refine dT ?_ | refine dU ?_ | refine dF ?_ | refine dG ?_) | refine aT ?_ | refine aF ?_ | refine dS (fun _ => ?_) fun _ => ?_ | refine aW ?_ | refine aC ?_ | refine aL ?_ | refine Prep.skip ?_ | refine Eith.l ?_ | refine aD ?_ | refine aB (fun _ => ?_) fun _ => ?_ | refine ACall.ofRow (CallRow.le (args' := [.d (.sl 0 true []), .d (I ((a.length + b.length : Nat) : Int))]) ⟨VLe.refl _, by rw [show ((0 : Int) + (a.length : Int) + (b.length : Int)) = ((a.length + b.length : Nat) : Int) by omega]; exact VLe.refl _, rfl⟩ (growWhy (a.length + b.length) (by omega))) ?_ | fail)
  all_goals (conv => whnf)
  refine ALoop.rounds 3 ?_
  refine ALoopN.step (E := (envOf Tryd.prog tt Tryd.f55.ntmps)) (envOf_ok ttok mixed) ?_
  repeat' ((conv => whnf); first | refine Nam.mk (List.length_map _) ?_ | refine Nam.mk (y := 2) rfl ?_ | refine Chk.mk ⟨rfl, by simp [dropL], by simp [room]; omega⟩ ?_ | (with_reducible first | refine dT ?_ | refine dU ?_ | refine dF ?_ | refine dG ?_) | refine aT ?_ | refine aF ?_ | refine dS (fun _ => ?_) fun _ => ?_ | refine aW ?_ | refine aC ?_ | refine aL ?_ | refine Prep.skip ?_ | refine Eith.l ?_ | refine aD ?_ | refine aB (fun _ => ?_) fun _ => ?_ | refine ACall.ofRow (CallRow.le (args' := [.d (.sl 0 true []), .d (I ((a.length + b.length : Nat) : Int))]) ⟨VLe.refl _, by rw [show ((0 : Int) + (a.length : Int) + (b.length : Int)) = ((a.length + b.length : Nat) : Int) by omega]; exact VLe.refl _, rfl⟩ (growWhy (a.length + b.length) (by omega))) ?_ | fail)
  all_goals (conv => whnf)
  refine ALoopN.step (E := (envOf Tryd.prog tt Tryd.f55.ntmps)) (envOf_ok ttok mixed) ?_
  repeat' ((conv => whnf); first | refine Nam.mk (List.length_map _) ?_ | refine Nam.mk (y := 2) rfl ?_ | refine Chk.mk ⟨rfl, by simp [dropL], by simp [room]; omega⟩ ?_ | (with_reducible first | refine dT ?_ | refine dU ?_ | refine dF ?_ | refine dG ?_) | refine aT ?_ | refine aF ?_ | refine dS (fun _ => ?_) fun _ => ?_ | refine aW ?_ | refine aC ?_ | refine aL ?_ | refine Prep.skip ?_ | refine Eith.l ?_ | refine aD ?_ | refine aB (fun _ => ?_) fun _ => ?_ | refine ACall.ofRow (CallRow.le (args' := [.d (.sl 0 true []), .d (I ((a.length + b.length : Nat) : Int))]) ⟨VLe.refl _, by rw [show ((0 : Int) + (a.length : Int) + (b.length : Int)) = ((a.length + b.length : Nat) : Int) by omega]; exact VLe.refl _, rfl⟩ (growWhy (a.length + b.length) (by omega))) ?_ | fail)
  all_goals (conv => whnf)
  refine ALoopN.step (E := (envOf Tryd.prog tt Tryd.f55.ntmps)) (envOf_ok ttok mixed) ?_
  repeat' ((conv => whnf); first | refine Nam.mk (List.length_map _) ?_ | refine Nam.mk (y := 2) rfl ?_ | refine Chk.mk ⟨rfl, by simp [dropL], by simp [room]; omega⟩ ?_ | (with_reducible first | refine dT ?_ | refine dU ?_ | refine dF ?_ | refine dG ?_) | refine aT ?_ | refine aF ?_ | refine dS (fun _ => ?_) fun _ => ?_ | refine aW ?_ | refine aC ?_ | refine aL ?_ | refine Prep.skip ?_ | refine Eith.l ?_ | refine aD ?_ | refine aB (fun _ => ?_) fun _ => ?_ | refine ACall.ofRow (CallRow.le (args' := [.d (.sl 0 true []), .d (I ((a.length + b.length : Nat) : Int))]) ⟨VLe.refl _, by rw [show ((0 : Int) + (a.length : Int) + (b.length : Int)) = ((a.length + b.length : Nat) : Int) by omega]; exact VLe.refl _, rfl⟩ (growWhy (a.length + b.length) (by omega))) ?_ | fail)
  all_goals (conv => whnf)
  refine ALoop.rounds 3 ?_
  refine ALoopN.step (E := (envOf Tryd.prog tt Tryd.f55.ntmps)) (envOf_ok ttok mixed) ?_
  repeat' ((conv => whnf); first | refine Nam.mk (List.length_map _) ?_ | refine Nam.mk (y := 2) rfl ?_ | refine Chk.mk ⟨rfl, by simp [dropL], by simp [room]; omega⟩ ?_ | (with_reducible first | refine dT ?_ | refine dU ?_ | refine dF ?_ | refine dG ?_) | refine aT ?_ | refine aF ?_ | refine dS (fun _ => ?_) fun _ => ?_ | refine aW ?_ | refine aC ?_ | refine aL ?_ | refine Prep.skip ?_ | refine Eith.l ?_ | refine aD ?_ | refine aB (fun _ => ?_) fun _ => ?_ | refine ACall.ofRow (CallRow.le (args' := [.d (.sl 0 true []), .d (I ((a.length + b.length : Nat) : Int))]) ⟨VLe.refl _, by rw [show ((0 : Int) + (a.length : Int) + (b.length : Int)) = ((a.length + b.length : Nat) : Int) by omega]; exact VLe.refl _, rfl⟩ (growWhy (a.length + b.length) (by omega))) ?_ | fail)
  all_goals (conv => whnf)
  refine ALoopN.step (E := (envOf Tryd.prog tt Tryd.f55.ntmps)) (envOf_ok ttok mixed) ?_
  repeat' ((conv => whnf); first | refine Nam.mk (List.length_map _) ?_ | refine Nam.mk (y := 2) rfl ?_ | refine Chk.mk ⟨rfl, by simp [dropL], by simp [room]; omega⟩ ?_ | (with_reducible first | refine dT ?_ | refine dU ?_ | refine dF ?_ | refine dG ?_) | refine aT ?_ | refine aF ?_ | refine dS (fun _ => ?_) fun _ => ?_ | refine aW ?_ | refine aC ?_ | refine aL ?_ | refine Prep.skip ?_ | refine Eith.l ?_ | refine aD ?_ | refine aB (fun _ => ?_) fun _ => ?_ | refine ACall.ofRow (CallRow.le (args' := [.d (.sl 0 true []), .d (I ((a.length + b.length : Nat) : Int))]) ⟨VLe.refl _, by rw [show ((0 : Int) + (a.length : Int) + (b.length : Int)) = ((a.length + b.length : Nat) : Int) by omega]; exact VLe.refl _, rfl⟩ (growWhy (a.length + b.length) (by omega))) ?_ | fail)
  all_goals (conv => whnf)
  refine ALoopN.step (E := (envOf Tryd.prog tt Tryd.f55.ntmps)) (envOf_ok ttok mixed) ?_
  repeat' ((conv => whnf); first | refine Nam.mk (List.length_map _) ?_ | refine Nam.mk (y := 2) rfl ?_ | refine Chk.mk ⟨rfl, by simp [dropL], by simp [room]; omega⟩ ?_ | (with_reducible first | refine dT ?_ | refine dU ?_ | refine dF ?_ | refine dG ?_) | refine aT ?_ | refine aF ?_ | refine dS (fun _ => ?_) fun _ => ?_ | refine aW ?_ | refine aC ?_ | refine aL ?_ | refine Prep.skip ?_ | refine Eith.l ?_ | refine aD ?_ | refine aB (fun _ => ?_) fun _ => ?_ | refine ACall.ofRow (CallRow.le (args' := [.d (.sl 0 true []), .d (I ((a.length + b.length : Nat) : Int))]) ⟨VLe.refl _, by rw [show ((0 : Int) + (a.length : Int) + (b.length : Int)) = ((a.length + b.length : Nat) : Int) by omega]; exact VLe.refl _, rfl⟩ (growWhy (a.length + b.length) (by omega))) ?_ | fail)
  all_goals (conv => whnf)
  exact Nam.mk (y := (a ++ b).map Why.d) (by show List.take _ (a.map Why.d ++ b.map Why.d) = _; rw [← List.map_append]; exact List.take_of_length_le (by simp)) rfl
def cfEnt (a b : Ent) : Int := cmpS a.name b.name
theorem cfEnt_lt (a b : Ent) : cfEnt a b < 0 ↔ ltE a b := by
  unfold cfEnt cmpS ltE Ent.nm
  split
  · rename_i h; simp [h]
  · rename_i h
    split <;> simp [h]
theorem swoEnt : Go.Sort.SWO (ltOf cfEnt) where
  irrefl a := by
    unfold ltOf
    exact decide_eq_false (fun h => ltE_irr a ((cfEnt_lt a a).1 h))
  trans a b c h1 h2 := by
    unfold ltOf at *
    exact decide_eq_true ((cfEnt_lt a c).2 (ltE_trans ((cfEnt_lt a b).1 (of_decide_eq_true h1)) ((cfEnt_lt b c).1 (of_decide_eq_true h2))))
  ntrans a b c h1 h2 := by
    unfold ltOf at *
    refine decide_eq_false fun h => ?_
    have h3 := fun h => of_decide_eq_false h1 ((cfEnt_lt _ _).2 h)
    have h4 := fun h => of_decide_eq_false h2 ((cfEnt_lt _ _).2 h)
    have h := (cfEnt_lt _ _).1 h
    unfold ltE at *
    have h5 := List.not_lt.1 h3
    have h6 := List.not_lt.1 h4
    exact absurd h (List.not_lt.2 (by first | exact List.le_trans h5 h6 | exact List.le_trans h6 h5))
theorem deltas_byName (a b : Ent) : CallP Tryd.prog 33 [.d a.d, .d b.d] (retD [I (cfEnt a b)]) := by
  refine exPure_sound (E := envOf Tryd.prog tt Tryd.f33.ntmps) (envOf_ok ttok mixed) Tryd.func33 (by rfl) rfl rfl (Nat.le_of_ble_eq_true rfl) ?_
  repeat' ((conv => whnf); first | (with_reducible first | refine dT ?_ | refine dU ?_ | refine dF ?_ | refine dG ?_) | refine aT ?_ | refine aF ?_ | refine dS (fun _ => ?_) fun _ => ?_ | refine aW ?_ | refine aC ?_ | refine aL ?_ | refine Prep.skip ?_ | refine Eith.l ?_ | refine aD ?_ | refine aB (fun _ => ?_) fun _ => ?_ | refine ACall.of (cmp_Compares _ _) ?_ | fail)
  all_goals (conv => whnf)
  all_goals first | exact DLe.refl _
instance : Inhabited Ent := ⟨⟨⟨#[]⟩, ⟨#[]⟩⟩⟩
def Ent.cells (e : Ent) : List D := [.s e.name, .s e.text]
theorem deltas_joined (a b : List Ent) (hl : a.length + b.length < 2 ^ 29) (hd : dE (a ++ b)) : CallP Tryd.prog 51 [.d (SL 2 (a.map Ent.d)), .d (SL 2 (b.map Ent.d))] (retD [SL 2 ((ordE (a ++ b)).map Ent.d)]) := by
  refine exPure_sound (E := envOf Tryd.prog tt Tryd.f51.ntmps) (envOf_ok ttok mixed) Tryd.func51 (by rfl) rfl rfl (Nat.le_of_ble_eq_true rfl) ?_
  repeat' ((conv => whnf); first | (with_reducible first | refine dT ?_ | refine dU ?_ | refine dF ?_ | refine dG ?_) | refine aT ?_ | refine aF ?_ | refine dS (fun _ => ?_) fun _ => ?_ | refine aW ?_ | refine aC ?_ | refine aL ?_ | refine Prep.skip ?_ | refine Eith.l ?_ | refine aD ?_ | refine aB (fun _ => ?_) fun _ => ?_ | refine ACall.ofRow (concatEnt a b false false hl) ?_ | fail)
  all_goals (conv => whnf)
  refine ACall.sort Tryd.sortEntry 2 (by decide) (fun w => run_isAgg (tyOf_ok ttok (show tyOf tt 52 = some _ from rfl)) w) (fun w => run_sizeOf' (tyOf_ok ttok (show tyOf tt 52 = some _ from rfl)) w) Ent.cells (fun _ => rfl)
    (fun x c hc => by simp only [Ent.cells, List.mem_cons, List.not_mem_nil, or_false] at hc; rcases hc with rfl | rfl <;> rfl) cfEnt swoEnt deltas_byName (fun args w => enters_of Tryd.func33 (by kernel_rfl) rfl args w) (l := a ++ b) rfl (List.length_map _) (by simp only [List.length_append]; omega) ?_
  intro l' hp hs
  have he : l' = ordE (a ++ b) := ordE_uniq hd hp fun p q x y h1 h2 h3 h4 => hs p q x y h1 h2 h3 ((cfEnt_lt y x).2 h4)
  have hll : l'.length = (a ++ b).length := hp.length_eq
  subst he
  repeat' ((conv => whnf); first | refine Chk.mk ⟨rfl, by simp only [List.length_map]; omega⟩ ?_ | refine Nam.mk (y := (ordE (a ++ b)).map Ent.d) (whole (by rw [List.length_map, List.length_map]; exact hll.symm)) ?_ | (with_reducible first | refine dT ?_ | refine dU ?_ | refine dF ?_ | refine dG ?_) | refine aT ?_ | refine aF ?_ | refine dS (fun _ => ?_) fun _ => ?_ | refine aW ?_ | refine aC ?_ | refine aL ?_ | refine Prep.skip ?_ | refine Eith.l ?_ | refine aD ?_ | refine aB (fun _ => ?_) fun _ => ?_ | fail)
  all_goals (conv => whnf)
  exact DLe.refl _
theorem deltas_Clone (l : List Why) (hl : l.length < 2 ^ 30) : CallP Tryd.prog 44 [.d (SL 4 (l.map Why.d))] (retD [SL 4 (l.map Why.d)]) := by
  refine exPure_sound (E := envOf Tryd.prog tt Tryd.f44.ntmps) (envOf_ok ttok mixed) Tryd.func44 (by rfl) rfl rfl (Nat.le_of_ble_eq_true rfl) ?_
  repeat' ((conv => whnf); first | refine NilQ.both (fun _ => ?_) ?_ | (with_reducible first | refine dT ?_ | refine dU ?_ | refine dF ?_ | refine dG ?_) | refine aT ?_ | refine aF ?_ | refine dS (fun _ => ?_) fun _ => ?_ | refine aW ?_ | refine aC ?_ | refine aL ?_ | refine Prep.skip ?_ | refine Eith.l ?_ | refine aD ?_ | refine aB (fun _ => ?_) fun _ => ?_ | fail)
  all_goals (conv => whnf)
  · rename_i h
    have h : l = [] := by simpa using h
    subst h; exact DLe.nil _ _ _
  · refine Nam.mk (y := l.map Why.d) (by simp only [List.length_nil, Nat.zero_add, List.nil_append, List.drop_zero, List.take_length]) ?_
    conv => whnf
    exact DLe.refl _
end Go.PM
/- Deltas: Diff, Apply, Join. -/
namespace Go.PM
open Go.Proofs
set_option maxRecDepth 10000
set_option maxHeartbeats 1000000
theorem less_le (a b : List Ent) : (lessE a b).length ≤ a.length := List.length_filter_le _ _
theorem less_all {a b : List Ent} : (lessE a b).length = a.length ↔ ∀ x ∈ b, x ∉ a := by
  unfold lessE
  rw [List.length_filter_eq_length_iff]
  simp only [decide_eq_true_eq]
  exact ⟨fun h x hx hx2 => h x hx2 hx, fun h x hx hx2 => h x hx2 hx⟩
def SmE (l : List Ent) : Prop := l.length ≤ 1000000
def SmD (d : Dl) : Prop := SmE d.gone ∧ SmE d.new ∧ d.why.length ≤ 4194304
theorem deltas_validDelta (d : Dl) (h : SmD d) : CallP Tryd.prog 47 [.d d.d] (retD [.b (decide (vD d))]) := by
  obtain ⟨h1, h2, h3⟩ := h
  unfold SmE at h1 h2
  refine exPure_sound (E := envOf Tryd.prog tt Tryd.f47.ntmps) (envOf_ok ttok mixed) Tryd.func47 (by rfl) rfl rfl (Nat.le_of_ble_eq_true rfl) ?_
  repeat' ((conv => whnf); first | (with_reducible first | refine dT ?_ | refine dU ?_ | refine dF ?_ | refine dG ?_) | refine aT ?_ | refine aF ?_ | refine dS (fun _ => ?_) fun _ => ?_ | refine aW ?_ | refine aC ?_ | refine aL ?_ | refine Prep.skip ?_ | refine Eith.l ?_ | refine aD ?_ | refine aB (fun _ => ?_) fun _ => ?_ | refine APCall.ofB (deltas_validList d.gone (by omega)) (fun _ => ?_) (fun _ => ?_) | refine APCall.ofB (deltas_validList d.new (by omega)) (fun _ => ?_) (fun _ => ?_) | refine APCall.ofMap (deltas_set d.gone (by omega)) ?_ | refine APCall.ofK (deltas_notIn d.new d.gone (by omega) _) rfl ?_ | fail)
  all_goals (conv => whnf)
  all_goals try simp only [decide_eq_true_eq, decide_eq_false_iff_not] at *
  · rename_i hn hg hw
    have hl : (lessE d.new d.gone).length = d.new.length := by omega
    rw [decide_eq_true (show vD d from ⟨by assumption, by assumption, less_all.1 hl⟩)]; exact DLe.refl _
  · rename_i hn hg hw
    have hl : ¬ (lessE d.new d.gone).length = d.new.length := by omega
    rw [decide_eq_false (fun hv : vD d => hl (less_all.2 hv.2.2))]; exact DLe.refl _
  · rename_i hw
    rw [decide_eq_false (fun hv : vD d => hw hv.2.1)]; exact DLe.refl _
  · rename_i hw
    rw [decide_eq_false (fun hv : vD d => hw hv.1)]; exact DLe.refl _
theorem zeroD : DLe (.agg [.sl 0 true [], .sl 0 true [], .sl 0 true []]) (Dlt.d (⟨[], [], []⟩ : Dl)) := DLe.agg ⟨DLe.nil _ _ _, DLe.nil _ _ _, DLe.nil _ _ _, rfl⟩
theorem deltas_Diff (a b : List Ent) (r : List Why) (ha : SmE a) (hb : SmE b) (hr : r.length ≤ 1048576) : CallP Tryd.prog 15 [.d (SL 2 (a.map Ent.d)), .d (SL 2 (b.map Ent.d)), .d (SL 4 (r.map Why.d))] (retD [(diffM a b r).1.d, I (diffM a b r).2]) := by
  unfold SmE at ha hb
  refine exPure_sound (E := envOf Tryd.prog tt Tryd.f15.ntmps) (envOf_ok ttok mixed) Tryd.func15 (by rfl) rfl rfl (Nat.le_of_ble_eq_true rfl) ?_
  unfold diffM
  by_cases hv : vE a ∧ vE b
  · rw [if_pos hv]
    repeat' ((conv => whnf); first | (with_reducible first | refine dT ?_ | refine dU ?_ | refine dF ?_ | refine dG ?_) | refine aT ?_ | refine aF ?_ | refine dS (fun _ => ?_) fun _ => ?_ | refine aW ?_ | refine aC ?_ | refine aL ?_ | refine Prep.skip ?_ | refine Eith.l ?_ | refine aD ?_ | refine aB (fun _ => ?_) fun _ => ?_ | refine ACall.ofB (deltas_validList a (by omega)) (fun _ => ?_) (fun h => absurd hv.1 (of_decide_eq_false h)) | refine ACall.ofB (deltas_validList b (by omega)) (fun _ => ?_) (fun h => absurd hv.2 (of_decide_eq_false h)) | refine ACall.ofMap (deltas_set b (by omega)) ?_ | refine ACall.ofMap (deltas_set a (by omega)) ?_ | refine ACall.ofK (deltas_notIn a b (by omega) _) rfl ?_ | refine ACall.ofK (deltas_notIn b a (by omega) _) rfl ?_ | refine ACall.of (deltas_Clone r (by omega)) ?_ | fail)
    all_goals (conv => whnf)
    all_goals exact ⟨DLe.refl _, DLe.refl _, rfl⟩
  · rw [if_neg hv]
    by_cases hva : vE a
    · have hvb : ¬ vE b := fun h => hv ⟨hva, h⟩
      repeat' ((conv => whnf); first | (with_reducible first | refine dT ?_ | refine dU ?_ | refine dF ?_ | refine dG ?_) | refine aT ?_ | refine aF ?_ | refine dS (fun _ => ?_) fun _ => ?_ | refine aW ?_ | refine aC ?_ | refine aL ?_ | refine Prep.skip ?_ | refine Eith.l ?_ | refine aD ?_ | refine aB (fun _ => ?_) fun _ => ?_ | refine ACall.ofB (deltas_validList a (by omega)) (fun _ => ?_) (fun h => absurd hva (of_decide_eq_false h)) | refine ACall.ofB (deltas_validList b (by omega)) (fun h => absurd (of_decide_eq_true h) hvb) (fun _ => ?_) | fail)
      all_goals (conv => whnf)
      all_goals exact ⟨zeroD, DLe.refl _, rfl⟩
    · repeat' ((conv => whnf); first | (with_reducible first | refine dT ?_ | refine dU ?_ | refine dF ?_ | refine dG ?_) | refine aT ?_ | refine aF ?_ | refine dS (fun _ => ?_) fun _ => ?_ | refine aW ?_ | refine aC ?_ | refine aL ?_ | refine Prep.skip ?_ | refine Eith.l ?_ | refine aD ?_ | refine aB (fun _ => ?_) fun _ => ?_ | refine ACall.ofB (deltas_validList a (by omega)) (fun h => absurd (of_decide_eq_true h) hva) (fun _ => ?_) | fail)
      all_goals (conv => whnf)
      all_goals exact ⟨zeroD, DLe.refl _, rfl⟩
theorem less_nil {a b : List Ent} : (lessE a b).length = 0 ↔ ∀ x ∈ a, x ∈ b := by
  rw [List.length_eq_zero_iff]
  unfold lessE
  rw [List.filter_eq_nil_iff]
  simp
theorem hasN_iff (l : List Ent) (x : Ent) : hasN l x.name ↔ ∃ y ∈ l, x.nm = y.nm :=
  ⟨fun ⟨y, hy, e⟩ => ⟨y, hy, by unfold Ent.nm; rw [e]⟩, fun ⟨y, hy, e⟩ => ⟨y, hy, (ba_inj e).symm⟩⟩
theorem deltas_Apply (a : List Ent) (d : Dl) (ha : SmE a) (hd : SmD d) : CallP Tryd.prog 17 [.d (SL 2 (a.map Ent.d)), .d d.d] (retD [SL 2 ((applyM a d).1.map Ent.d), I (applyM a d).2]) := by
  have hD := deltas_validDelta d hd
  obtain ⟨hd1, hd2, hd3⟩ := hd
  unfold SmE at ha hd1 hd2
  have hle := less_le a d.gone
  unfold applyM
  by_cases h1 : vE a
  · by_cases h2 : vD d
    · by_cases h3 : ∀ x ∈ d.gone, x ∈ a
      · have h3' := less_nil.2 h3
        refine exPure_sound (E := envOf Tryd.prog tt Tryd.f17.ntmps) (envOf_ok ttok mixed) Tryd.func17 (by rfl) rfl rfl (Nat.le_of_ble_eq_true rfl) ?_
        repeat' ((conv => whnf); first | (with_reducible first | refine dT ?_ | refine dU ?_ | refine dF ?_ | refine dG ?_) | refine aT ?_ | refine aF ?_ | refine dS (fun _ => ?_) fun _ => ?_ | refine aW ?_ | refine aC ?_ | refine aL ?_ | refine Prep.skip ?_ | refine Eith.l ?_ | refine aD ?_ | refine aB (fun _ => ?_) fun _ => ?_ | refine APCall.ofB (deltas_validList a (by omega)) (fun _ => ?_) (fun h => absurd h1 (of_decide_eq_false h)) | refine APCall.ofB hD (fun _ => ?_) (fun h => absurd h2 (of_decide_eq_false h)) | refine APCall.ofMap (deltas_set a (by omega)) ?_ | refine ACall.ofMap (deltas_set d.gone (by omega)) ?_ | refine APCall.ofK (deltas_notIn d.gone a (by omega) _) rfl ?_ | refine ACall.ofK (deltas_notIn a d.gone (by omega) _) rfl ?_ | refine ACall.ofMap (deltas_names (lessE a d.gone) (by omega)) ?_ | refine ACall.body (E := envOf Tryd.prog tt Tryd.f49.ntmps) (envOf_ok ttok mixed) Tryd.func49 (by rfl) rfl (Nat.le_of_ble_eq_true rfl) ?_ | refine ACall.body (E := envOf Tryd.prog tt Tryd.f78.ntmps) (envOf_ok ttok mixed) Tryd.func78 (by rfl) rfl (Nat.le_of_ble_eq_true rfl) ?_ | fail)
        all_goals (conv => whnf)
        refine ALoop.at (E := envOf Tryd.prog tt Tryd.f78.ntmps) (envOf_ok ttok mixed) (X := Nat) (fun i => [(8, .d (I i))]) (fun _ => []) (fun i => i ≤ d.new.length ∧ ∀ x ∈ d.new.take i, ¬ hasN (lessE a d.gone) x.name) (fun i => d.new.length - i) 0 sam rfl ⟨Nat.zero_le _, by simp⟩ ?_
        rintro i ⟨hi, hm⟩
        by_cases hlt : i < d.new.length
        · obtain ⟨x, hx, _⟩ := drop_get hlt
          by_cases hh : hasN (lessE a d.gone) x.name
          · have hget : (mapFind tt 9 (D.s x.name) (namE (lessE a d.gone))).getD (B false) = B true := by rw [namE_find, decide_eq_true hh]
            have hno : ¬ applyOk a d := fun ok => by
              obtain ⟨y, hy, e⟩ := (hasN_iff _ _).1 hh
              exact ok.2.2.2 x (List.mem_of_getElem? hx) y hy e
            rw [if_neg hno]
            repeat' ((conv => whnf); first | (with_reducible first | refine dT ?_ | refine dU ?_ | refine dF ?_ | refine dG ?_) | refine aT ?_ | refine aF ?_ | refine dS (fun _ => ?_) fun _ => ?_ | refine aW ?_ | refine aC ?_ | refine aL ?_ | refine Prep.skip ?_ | refine Eith.l ?_ | refine aD ?_ | refine aB (fun _ => ?_) fun _ => ?_ | refine nthK_mk (map_get hx) ?_ | refine ACall.body (E := envOf Tryd.prog tt Tryd.f50.ntmps) (envOf_ok ttok mixed) Tryd.func50 (by rfl) rfl (Nat.le_of_ble_eq_true rfl) ?_ | refine Nam.mk hget ?_ | fail)
            all_goals (conv => whnf)
            all_goals first | (exfalso; omega) | exact ⟨DLe.nil _ _ _, DLe.refl _, rfl⟩
          · have hget : (mapFind tt 9 (D.s x.name) (namE (lessE a d.gone))).getD (B false) = B false := by rw [namE_find, decide_eq_false hh]
            repeat' ((conv => whnf); first | (with_reducible first | refine dT ?_ | refine dU ?_ | refine dF ?_ | refine dG ?_) | refine aT ?_ | refine aF ?_ | refine dS (fun _ => ?_) fun _ => ?_ | refine aW ?_ | refine aC ?_ | refine aL ?_ | refine Prep.skip ?_ | refine Eith.l ?_ | refine aD ?_ | refine aB (fun _ => ?_) fun _ => ?_ | refine nthK_mk (map_get hx) ?_ | refine ACall.body (E := envOf Tryd.prog tt Tryd.f50.ntmps) (envOf_ok ttok mixed) Tryd.func50 (by rfl) rfl (Nat.le_of_ble_eq_true rfl) ?_ | refine Nam.mk hget ?_ | fail)
            all_goals (conv => whnf)
            all_goals first
              | exact ⟨i + 1, Wm.end sam rfl rfl rfl, ⟨hlt, fun z hz => by
                  rw [List.take_add_one, hx, List.mem_append] at hz
                  rcases hz with hz | hz
                  · exact hm z hz
                  · simp at hz; subst hz; exact hh⟩, by omega⟩
        · rw [List.take_of_length_le (by omega)] at hm
          have ok : applyOk a d := ⟨h1, h2, h3, fun x hx y hy e => hm x hx ((hasN_iff _ _).2 ⟨y, hy, e⟩)⟩
          rw [if_pos ok]
          repeat' ((conv => whnf); first | (with_reducible first | refine dT ?_ | refine dU ?_ | refine dF ?_ | refine dG ?_) | refine aT ?_ | refine aF ?_ | refine dS (fun _ => ?_) fun _ => ?_ | refine aW ?_ | refine aC ?_ | refine aL ?_ | refine Prep.skip ?_ | refine Eith.l ?_ | refine aD ?_ | refine aB (fun _ => ?_) fun _ => ?_ | refine ACall.of (deltas_joined (lessE a d.gone) d.new (by omega) (apply_d ok)) ?_ | fail)
          all_goals (conv => whnf)
          all_goals first | (exfalso; omega) | exact ⟨DLe.refl _, DLe.refl _, rfl⟩
      · rw [if_neg (fun ok : applyOk a d => h3 ok.2.2.1)]
        have h3' : ¬ (lessE d.gone a).length = 0 := fun h => h3 (less_nil.1 h)
        refine exPure_sound (E := envOf Tryd.prog tt Tryd.f17.ntmps) (envOf_ok ttok mixed) Tryd.func17 (by rfl) rfl rfl (Nat.le_of_ble_eq_true rfl) ?_
        repeat' ((conv => whnf); first | (with_reducible first | refine dT ?_ | refine dU ?_ | refine dF ?_ | refine dG ?_) | refine aT ?_ | refine aF ?_ | refine dS (fun _ => ?_) fun _ => ?_ | refine aW ?_ | refine aC ?_ | refine aL ?_ | refine Prep.skip ?_ | refine Eith.l ?_ | refine aD ?_ | refine aB (fun _ => ?_) fun _ => ?_ | refine APCall.ofB (deltas_validList a (by omega)) (fun _ => ?_) (fun h => absurd h1 (of_decide_eq_false h)) | refine APCall.ofB hD (fun _ => ?_) (fun h => absurd h2 (of_decide_eq_false h)) | refine APCall.ofMap (deltas_set a (by omega)) ?_ | refine APCall.ofK (deltas_notIn d.gone a (by omega) _) rfl ?_ | fail)
        all_goals (conv => whnf)
        all_goals first | (exfalso; omega) | exact ⟨DLe.nil _ _ _, DLe.refl _, rfl⟩
    · rw [if_neg (fun ok : applyOk a d => h2 ok.2.1)]
      refine exPure_sound (E := envOf Tryd.prog tt Tryd.f17.ntmps) (envOf_ok ttok mixed) Tryd.func17 (by rfl) rfl rfl (Nat.le_of_ble_eq_true rfl) ?_
      repeat' ((conv => whnf); first | (with_reducible first | refine dT ?_ | refine dU ?_ | refine dF ?_ | refine dG ?_) | refine aT ?_ | refine aF ?_ | refine dS (fun _ => ?_) fun _ => ?_ | refine aW ?_ | refine aC ?_ | refine aL ?_ | refine Prep.skip ?_ | refine Eith.l ?_ | refine aD ?_ | refine aB (fun _ => ?_) fun _ => ?_ | refine APCall.ofB (deltas_validList a (by omega)) (fun _ => ?_) (fun h => absurd h1 (of_decide_eq_false h)) | refine APCall.ofB hD (fun h => absurd (of_decide_eq_true h) h2) (fun _ => ?_) | fail)
      all_goals (conv => whnf)
      all_goals first | (exfalso; omega) | exact ⟨DLe.nil _ _ _, DLe.refl _, rfl⟩
  · rw [if_neg (fun ok : applyOk a d => h1 ok.1)]
    refine exPure_sound (E := envOf Tryd.prog tt Tryd.f17.ntmps) (envOf_ok ttok mixed) Tryd.func17 (by rfl) rfl rfl (Nat.le_of_ble_eq_true rfl) ?_
    repeat' ((conv => whnf); first | (with_reducible first | refine dT ?_ | refine dU ?_ | refine dF ?_ | refine dG ?_) | refine aT ?_ | refine aF ?_ | refine dS (fun _ => ?_) fun _ => ?_ | refine aW ?_ | refine aC ?_ | refine aL ?_ | refine Prep.skip ?_ | refine Eith.l ?_ | refine aD ?_ | refine aB (fun _ => ?_) fun _ => ?_ | refine APCall.ofB (deltas_validList a (by omega)) (fun h => absurd (of_decide_eq_true h) h1) (fun _ => ?_) | fail)
    all_goals (conv => whnf)
    all_goals first | (exfalso; omega) | exact ⟨DLe.nil _ _ _, DLe.refl _, rfl⟩
def fol1 (d : Dl) (x : Ent) : Prop := x ∈ d.new ∨ (¬ hasN d.gone x.name ∧ ¬ hasN d.new x.name)
def fol2 (d e : Dl) (x : Ent) : Prop := hasN e.gone x.name ∨ ¬ hasN d.new x.name
theorem noN {l : List Ent} {x : Ent} : ¬ hasN l x.name ↔ ∀ y ∈ l, y.nm ≠ x.nm := by
  rw [hasN_iff]
  exact ⟨fun h y hy e => h ⟨y, hy, e.symm⟩, fun h ⟨y, hy, e⟩ => h y hy e.symm⟩
theorem foll_iff (d e : Dl) : follE d e ↔ (∀ x ∈ e.gone, fol1 d x) ∧ ∀ x ∈ e.new, fol2 d e x := by
  unfold follE fol1 fol2
  constructor
  · rintro ⟨h1, h2⟩
    refine ⟨fun x hx => ?_, fun x hx => ?_⟩
    · rcases h1 x hx with h | h
      · exact .inl h
      · exact .inr ⟨noN.2 h.1, noN.2 h.2⟩
    · rcases h2 x hx with ⟨y, hy, e⟩ | h
      · exact .inl ((hasN_iff _ _).2 ⟨y, hy, e.symm⟩)
      · exact .inr (noN.2 h)
  · rintro ⟨h1, h2⟩
    refine ⟨fun x hx => ?_, fun x hx => ?_⟩
    · rcases h1 x hx with h | h
      · exact .inl h
      · exact .inr ⟨noN.1 h.1, noN.1 h.2⟩
    · rcases h2 x hx with h | h
      · obtain ⟨y, hy, e⟩ := (hasN_iff _ _).1 h
        exact .inl ⟨y, hy, e.symm⟩
      · exact .inr (noN.1 h)
theorem fol1_of {d e : Dl} (h : follE d e) {x : Ent} (hx : x ∈ e.gone) : fol1 d x := ((foll_iff d e).1 h).1 x hx
theorem fol2_of {d e : Dl} (h : follE d e) {x : Ent} (hx : x ∈ e.new) : fol2 d e x := ((foll_iff d e).1 h).2 x hx
theorem deltas_follows (d e : Dl) (hd : SmD d) (he : SmD e) : CallP Tryd.prog 54 [.d d.d, .d e.d] (retD [.b (decide (follE d e))]) := by
  obtain ⟨hd1, hd2, hd3⟩ := hd
  obtain ⟨he1, he2, he3⟩ := he
  unfold SmE at hd1 hd2 he1 he2
  refine exPure_sound (E := envOf Tryd.prog tt Tryd.f54.ntmps) (envOf_ok ttok mixed) Tryd.func54 (by rfl) rfl rfl (Nat.le_of_ble_eq_true rfl) ?_
  repeat' ((conv => whnf); first | (with_reducible first | refine dT ?_ | refine dU ?_ | refine dF ?_ | refine dG ?_) | refine aT ?_ | refine aF ?_ | refine dS (fun _ => ?_) fun _ => ?_ | refine aW ?_ | refine aC ?_ | refine aL ?_ | refine Prep.skip ?_ | refine Eith.l ?_ | refine aD ?_ | refine aB (fun _ => ?_) fun _ => ?_ | refine ACall.ofMap (deltas_names d.gone (by omega)) ?_ | refine ACall.ofMap (deltas_names d.new (by omega)) ?_ | refine ACall.ofMap (deltas_names e.gone (by omega)) ?_ | refine ACall.ofMap (deltas_set d.new (by omega)) ?_ | refine APCall.ofMap (deltas_names d.gone (by omega)) ?_ | refine APCall.ofMap (deltas_names d.new (by omega)) ?_ | refine APCall.ofMap (deltas_names e.gone (by omega)) ?_ | refine APCall.ofMap (deltas_set d.new (by omega)) ?_ | fail)
  all_goals (conv => whnf)
  refine ALoop.at (E := envOf Tryd.prog tt Tryd.f54.ntmps) (envOf_ok ttok mixed) (X := Nat) (fun i => [(28, .d (I i))]) (fun _ => []) (fun i => i ≤ e.gone.length ∧ ∀ x ∈ e.gone.take i, fol1 d x) (fun i => e.gone.length - i) 0 sam rfl ⟨Nat.zero_le _, by simp⟩ ?_
  rintro i ⟨hi, hm⟩
  by_cases hlt : i < e.gone.length
  · obtain ⟨x, hx, _⟩ := drop_get hlt
    have g1 := setE_find d.new x
    have g2 := namE_find d.gone x.name
    have g3 := namE_find d.new x.name
    by_cases p1 : x ∈ d.new <;> by_cases p2 : hasN d.gone x.name <;> by_cases p3 : hasN d.new x.name
    all_goals simp only [p1, p2, p3, decide_true, decide_false] at g1 g2 g3
    all_goals (repeat' ((conv => whnf); first | (with_reducible first | refine dT ?_ | refine dU ?_ | refine dF ?_ | refine dG ?_) | refine aT ?_ | refine aF ?_ | refine dS (fun _ => ?_) fun _ => ?_ | refine aW ?_ | refine aC ?_ | refine aL ?_ | refine Prep.skip ?_ | refine Eith.l ?_ | refine aD ?_ | refine aB (fun _ => ?_) fun _ => ?_ | refine nthK_mk (map_get hx) ?_ | refine Nam.mk g1 ?_ | refine Nam.mk g2 ?_ | refine Nam.mk g3 ?_ | fail))
    all_goals (conv => whnf)
    all_goals first
      | (have hp : fol1 d x := by unfold fol1; simp [p1, p2, p3]
         exact ⟨i + 1, Wm.end sam rfl rfl rfl, ⟨hlt, fun z hz => by
           rw [List.take_add_one, hx, List.mem_append] at hz
           rcases hz with hz | hz
           · exact hm z hz
           · simp at hz; subst hz; exact hp⟩, by omega⟩)
      | (have hp : ¬ fol1 d x := by unfold fol1; simp [p1, p2, p3]
         rw [decide_eq_false (fun h : follE d e => hp (fol1_of h (List.mem_of_getElem? hx)))]; exact DLe.refl _)
  · rw [List.take_of_length_le (by omega)] at hm
    repeat' ((conv => whnf); first | (with_reducible first | refine dT ?_ | refine dU ?_ | refine dF ?_ | refine dG ?_) | refine aT ?_ | refine aF ?_ | refine dS (fun _ => ?_) fun _ => ?_ | refine aW ?_ | refine aC ?_ | refine aL ?_ | refine Prep.skip ?_ | refine Eith.l ?_ | refine aD ?_ | refine aB (fun _ => ?_) fun _ => ?_ | fail)
    all_goals (conv => whnf)
    all_goals first | (exfalso; omega) | skip
    have hm1 := hm
    clear hm
    refine ALoop.at (E := envOf Tryd.prog tt Tryd.f54.ntmps) (envOf_ok ttok mixed) (X := Nat) (fun i => [(52, .d (I i))]) (fun _ => []) (fun i => i ≤ e.new.length ∧ ∀ x ∈ e.new.take i, fol2 d e x) (fun i => e.new.length - i) 0 sam rfl ⟨Nat.zero_le _, by simp⟩ ?_
    rintro i ⟨hi, hm⟩
    by_cases hlt : i < e.new.length
    · obtain ⟨x, hx, _⟩ := drop_get hlt
      have g1 := namE_find e.gone x.name
      have g2 := namE_find d.new x.name
      by_cases p1 : hasN e.gone x.name <;> by_cases p2 : hasN d.new x.name
      all_goals simp only [p1, p2, decide_true, decide_false] at g1 g2
      all_goals (repeat' ((conv => whnf); first | (with_reducible first | refine dT ?_ | refine dU ?_ | refine dF ?_ | refine dG ?_) | refine aT ?_ | refine aF ?_ | refine dS (fun _ => ?_) fun _ => ?_ | refine aW ?_ | refine aC ?_ | refine aL ?_ | refine Prep.skip ?_ | refine Eith.l ?_ | refine aD ?_ | refine aB (fun _ => ?_) fun _ => ?_ | refine nthK_mk (map_get hx) ?_ | refine Nam.mk g1 ?_ | refine Nam.mk g2 ?_ | fail))
      all_goals (conv => whnf)
      all_goals first
        | (have hp : fol2 d e x := by unfold fol2; simp [p1, p2]
           exact ⟨i + 1, Wm.end sam rfl rfl rfl, ⟨hlt, fun z hz => by
             rw [List.take_add_one, hx, List.mem_append] at hz
             rcases hz with hz | hz
             · exact hm z hz
             · simp at hz; subst hz; exact hp⟩, by omega⟩)
        | (have hp : ¬ fol2 d e x := by unfold fol2; simp [p1, p2]
           rw [decide_eq_false (fun h : follE d e => hp (fol2_of h (List.mem_of_getElem? hx)))]; exact DLe.refl _)
    · rw [List.take_of_length_le (by omega)] at hm
      have hf : follE d e := (foll_iff d e).2 ⟨hm1, hm⟩
      repeat' ((conv => whnf); first | (with_reducible first | refine dT ?_ | refine dU ?_ | refine dF ?_ | refine dG ?_) | refine aT ?_ | refine aF ?_ | refine dS (fun _ => ?_) fun _ => ?_ | refine aW ?_ | refine aC ?_ | refine aL ?_ | refine Prep.skip ?_ | refine Eith.l ?_ | refine aD ?_ | refine aB (fun _ => ?_) fun _ => ?_ | fail)
      all_goals (conv => whnf)
      all_goals first | (exfalso; omega) | (rw [decide_eq_true hf]; exact DLe.refl _)
theorem less_ord {a b : List Ent} (h : dE a) : lessE (ordE a) (ordE b) = ordE (lessE a b) := by
  refine vE_ext (vE_filter (ordE_v h) _) (ordE_v (List.Pairwise.filter _ h)) fun x => ?_
  rw [lessE_mem, (ordE_perm _).mem_iff, (ordE_perm _).mem_iff, (ordE_perm _).mem_iff, lessE_mem]
theorem ord_len (l : List Ent) : (ordE l).length = l.length := (ordE_perm l).length_eq
theorem deltas_Join (d e : Dl) (hd : SmD d) (he : SmD e) : CallP Tryd.prog 19 [.d d.d, .d e.d] (retD [(joinM d e).1.d, I (joinM d e).2]) := by
  have hD := deltas_validDelta d hd
  have hE := deltas_validDelta e he
  have hF := deltas_follows d e hd he
  obtain ⟨hd1, hd2, hd3⟩ := hd
  obtain ⟨he1, he2, he3⟩ := he
  unfold SmE at hd1 hd2 he1 he2
  unfold joinM
  by_cases h1 : vD d
  · by_cases h2 : vD e
    · by_cases h3 : follE d e
      · rw [if_pos ⟨h1, h2, h3⟩]
        have hG := joinG_d h1 h2 h3
        have hN := joinN_d h1 h2 h3
        have l1 := less_le e.gone d.new
        have l2 := less_le d.new e.gone
        have l3 : (joinG d e).length ≤ 2000000 := by unfold joinG; rw [List.length_append]; omega
        have l4 : (joinN d e).length ≤ 2000000 := by unfold joinN; rw [List.length_append]; omega
        have l5 := ord_len (joinG d e)
        have l6 := ord_len (joinN d e)
        have cG := deltas_joined d.gone (lessE e.gone d.new) (by omega) hG
        have cN := deltas_joined (lessE d.new e.gone) e.new (by omega) hN
        have cX := fun n => deltas_notIn (ordE (joinG d e)) (ordE (joinN d e)) (by omega) n
        have cY := fun n => deltas_notIn (ordE (joinN d e)) (ordE (joinG d e)) (by omega) n
        rw [less_ord hG] at cX
        rw [less_ord hN] at cY
        refine exPure_sound (E := envOf Tryd.prog tt Tryd.f19.ntmps) (envOf_ok ttok mixed) Tryd.func19 (by rfl) rfl rfl (Nat.le_of_ble_eq_true rfl) ?_
        repeat' ((conv => whnf); first | (with_reducible first | refine dT ?_ | refine dU ?_ | refine dF ?_ | refine dG ?_) | refine aT ?_ | refine aF ?_ | refine dS (fun _ => ?_) fun _ => ?_ | refine aW ?_ | refine aC ?_ | refine aL ?_ | refine Prep.skip ?_ | refine Eith.l ?_ | refine aD ?_ | refine aB (fun _ => ?_) fun _ => ?_ | refine ACall.ofB hD (fun _ => ?_) (fun h => absurd h1 (of_decide_eq_false h)) | refine APCall.ofB hD (fun _ => ?_) (fun h => absurd h1 (of_decide_eq_false h)) | refine ACall.ofB hE (fun _ => ?_) (fun h => absurd h2 (of_decide_eq_false h)) | refine APCall.ofB hE (fun _ => ?_) (fun h => absurd h2 (of_decide_eq_false h)) | refine ACall.ofB hF (fun _ => ?_) (fun h => absurd h3 (of_decide_eq_false h)) | refine APCall.ofB hF (fun _ => ?_) (fun h => absurd h3 (of_decide_eq_false h)) | refine ACall.ofMap (deltas_set d.new (by omega)) ?_ | refine APCall.ofMap (deltas_set d.new (by omega)) ?_ | refine ACall.ofMap (deltas_set e.gone (by omega)) ?_ | refine APCall.ofMap (deltas_set e.gone (by omega)) ?_ | refine ACall.ofMap (deltas_set (ordE (joinN d e)) (by omega)) ?_ | refine APCall.ofMap (deltas_set (ordE (joinN d e)) (by omega)) ?_ | refine ACall.ofMap (deltas_set (ordE (joinG d e)) (by omega)) ?_ | refine APCall.ofMap (deltas_set (ordE (joinG d e)) (by omega)) ?_ | refine ACall.ofK (deltas_notIn e.gone d.new (by omega) _) rfl ?_ | refine APCall.ofK (deltas_notIn e.gone d.new (by omega) _) rfl ?_ | refine ACall.ofK (deltas_notIn d.new e.gone (by omega) _) rfl ?_ | refine APCall.ofK (deltas_notIn d.new e.gone (by omega) _) rfl ?_ | refine ACall.ofK (cX _) rfl ?_ | refine APCall.ofK (cX _) rfl ?_ | refine ACall.ofK (cY _) rfl ?_ | refine APCall.ofK (cY _) rfl ?_ | refine ACall.of cG ?_ | refine APCall.of cG ?_ | refine ACall.of cN ?_ | refine APCall.of cN ?_ | refine ACall.ofRow (concatWhy d.why e.why false false (by omega)) ?_ | refine APCall.ofRow (concatWhy d.why e.why false false (by omega)) ?_ | refine Nam.mk (y := (d.why ++ e.why).map Why.d) (whole rfl) ?_ | fail)
        all_goals (conv => whnf)
        all_goals first | exact ⟨DLe.refl _, DLe.refl _, rfl⟩
      · rw [if_neg (fun h : vD d ∧ vD e ∧ follE d e => h3 h.2.2)]
        refine exPure_sound (E := envOf Tryd.prog tt Tryd.f19.ntmps) (envOf_ok ttok mixed) Tryd.func19 (by rfl) rfl rfl (Nat.le_of_ble_eq_true rfl) ?_
        repeat' ((conv => whnf); first | (with_reducible first | refine dT ?_ | refine dU ?_ | refine dF ?_ | refine dG ?_) | refine aT ?_ | refine aF ?_ | refine dS (fun _ => ?_) fun _ => ?_ | refine aW ?_ | refine aC ?_ | refine aL ?_ | refine Prep.skip ?_ | refine Eith.l ?_ | refine aD ?_ | refine aB (fun _ => ?_) fun _ => ?_ | refine ACall.ofB hD (fun _ => ?_) (fun h => absurd h1 (of_decide_eq_false h)) | refine APCall.ofB hD (fun _ => ?_) (fun h => absurd h1 (of_decide_eq_false h)) | refine ACall.ofB hE (fun _ => ?_) (fun h => absurd h2 (of_decide_eq_false h)) | refine APCall.ofB hE (fun _ => ?_) (fun h => absurd h2 (of_decide_eq_false h)) | refine ACall.ofB hF (fun h => absurd (of_decide_eq_true h) h3) (fun _ => ?_) | refine APCall.ofB hF (fun h => absurd (of_decide_eq_true h) h3) (fun _ => ?_) | fail)
        all_goals (conv => whnf)
        all_goals first | exact ⟨zeroD, DLe.refl _, rfl⟩
    · rw [if_neg (fun h : vD d ∧ vD e ∧ follE d e => h2 h.2.1)]
      refine exPure_sound (E := envOf Tryd.prog tt Tryd.f19.ntmps) (envOf_ok ttok mixed) Tryd.func19 (by rfl) rfl rfl (Nat.le_of_ble_eq_true rfl) ?_
      repeat' ((conv => whnf); first | (with_reducible first | refine dT ?_ | refine dU ?_ | refine dF ?_ | refine dG ?_) | refine aT ?_ | refine aF ?_ | refine dS (fun _ => ?_) fun _ => ?_ | refine aW ?_ | refine aC ?_ | refine aL ?_ | refine Prep.skip ?_ | refine Eith.l ?_ | refine aD ?_ | refine aB (fun _ => ?_) fun _ => ?_ | refine ACall.ofB hD (fun _ => ?_) (fun h => absurd h1 (of_decide_eq_false h)) | refine APCall.ofB hD (fun _ => ?_) (fun h => absurd h1 (of_decide_eq_false h)) | refine ACall.ofB hE (fun h => absurd (of_decide_eq_true h) h2) (fun _ => ?_) | refine APCall.ofB hE (fun h => absurd (of_decide_eq_true h) h2) (fun _ => ?_) | fail)
      all_goals (conv => whnf)
      all_goals first | exact ⟨zeroD, DLe.refl _, rfl⟩
  · rw [if_neg (fun h : vD d ∧ vD e ∧ follE d e => h1 h.1)]
    refine exPure_sound (E := envOf Tryd.prog tt Tryd.f19.ntmps) (envOf_ok ttok mixed) Tryd.func19 (by rfl) rfl rfl (Nat.le_of_ble_eq_true rfl) ?_
    repeat' ((conv => whnf); first | (with_reducible first | refine dT ?_ | refine dU ?_ | refine dF ?_ | refine dG ?_) | refine aT ?_ | refine aF ?_ | refine dS (fun _ => ?_) fun _ => ?_ | refine aW ?_ | refine aC ?_ | refine aL ?_ | refine Prep.skip ?_ | refine Eith.l ?_ | refine aD ?_ | refine aB (fun _ => ?_) fun _ => ?_ | refine ACall.ofB hD (fun h => absurd (of_decide_eq_true h) h1) (fun _ => ?_) | refine APCall.ofB hD (fun h => absurd (of_decide_eq_true h) h1) (fun _ => ?_) | fail)
    all_goals (conv => whnf)
    all_goals first | exact ⟨zeroD, DLe.refl _, rfl⟩
end Go.PM
/- Deltas: the reference of Diff, Apply, Join. -/
namespace Go.PM
open Go.Proofs
set_option maxRecDepth 10000
set_option maxHeartbeats 1000000
theorem Wk.dle {N : Nat} {ts : Tm} {h : Hp} (t : Nat) {x y : D} (ht : look ts t = .d x) (hd : DLe x y) : Wk N ts h ((t, .d y) :: ts) h := fun C act w S β hs => by
  refine ⟨S, β, ⟨hs.hr, fun t' => ?_, hs.size, hs.marks, hs.round, hs.base⟩, Evol.refl _ _ _ _⟩
  simp only [look]
  cases hb : Nat.beq t t' with
  | true =>
    have := Nat.eq_of_beq_eq_true hb
    subst this
    have hv := hs.tr t
    rw [ht] at hv
    exact (VLe.d hd).vr hv
  | false => exact hs.tr t'
theorem ALoop.dle {P : Program} {N : Nat} {c : Code} {ts : Tm} {h : Hp} {k : Ex → Tm → Hp → Prop} (t : Nat) {x y : D} (ht : look ts t = .d x) (hd : DLe x y) (hl : ALoop P N c ((t, .d y) :: ts) h k) : ALoop P N c ts h k := ALoop.weak (Wk.dle t ht hd) hl
theorem insE_split (x : Ent) : ∀ (l : List Ent) (n : Nat), (∀ z ∈ l.drop n, ltE x z) → (n = 0 ∨ ∃ y, l[n - 1]? = some y ∧ ¬ ltE x y) → insE x l = l.take n ++ x :: l.drop n
  | [], n, _, _ => by simp [insE]
  | a :: r, 0, h, _ => by
    rw [insE, if_pos ⟨h a (by simp), fun z hz => h z (by simp [hz])⟩]; rfl
  | a :: r, n + 1, h, hn => by
    rcases hn with hn | ⟨y, hy, hxy⟩
    · omega
    · have hno : ¬ (ltE x a ∧ ∀ z ∈ r, ltE x z) := by
        rintro ⟨h1, h2⟩
        cases n with
        | zero => simp at hy; subst hy; exact hxy h1
        | succ n => simp at hy; exact hxy (h2 y (List.mem_of_getElem? hy))
      rw [insE, if_neg hno, insE_split x r n (fun z hz => h z (by simpa using hz)) (by
        cases n with
        | zero => exact .inl rfl
        | succ n => exact .inr ⟨y, by simpa using hy, hxy⟩)]
      simp
theorem gtr_iff {a b : List UInt8} : (!(Op.bytesLess a b || a == b)) = true ↔ b < a := by
  rw [Bool.not_eq_true', Bool.or_eq_false_iff, beq_eq_false_iff_ne]
  constructor
  · rintro ⟨h1, h2⟩
    have h3 : ¬ a < b := fun h => by rw [bytesLess_iff.2 h] at h1; cases h1
    exact Decidable.byContradiction fun h4 => h2 (List.le_antisymm (List.not_lt.1 h4) (List.not_lt.1 h3))
  · intro h
    refine ⟨?_, fun e => by rw [e] at h; exact List.lt_irrefl _ h⟩
    cases hb : Op.bytesLess a b with
    | false => rfl
    | true => exact absurd (List.lt_trans h (bytesLess_iff.1 hb)) (List.lt_irrefl _)
theorem ins_end (l : List Ent) (x : Ent) (n k : Nat) (hn : n ≤ l.length) (hk : k = l.length + 1) : List.take k (List.drop 0 (dropL (dropL ([] ++ List.take n (l.map Ent.d)) 0 ++ [x.d]) 0 ++ List.drop n (l.map Ent.d))) = (l.take n ++ x :: l.drop n).map Ent.d := by
  show List.take k ((([] ++ List.take n (l.map Ent.d)) ++ [x.d]) ++ List.drop n (l.map Ent.d)) = _
  rw [List.take_of_length_le (by simp; omega)]
  simp [List.map_take, List.map_drop]
theorem ref42_insert (l : List Ent) (x : Ent) (hl : l.length < 2 ^ 29) : CallP Tryd.prog 75 [.d (SL 2 (l.map Ent.d)), .d x.d] (retD [SL 2 ((insE x l).map Ent.d)]) := by
  refine exPure_sound (E := envOf Tryd.prog tt Tryd.f75.ntmps) (envOf_ok ttok mixed) Tryd.func75 (by rfl) rfl rfl (Nat.le_of_ble_eq_true rfl) ?_
  repeat' ((conv => whnf); first | (with_reducible first | refine dT ?_ | refine dU ?_ | refine dF ?_ | refine dG ?_) | refine aT ?_ | refine aF ?_ | refine dS (fun _ => ?_) fun _ => ?_ | refine aW ?_ | refine aC ?_ | refine aL ?_ | refine Prep.skip ?_ | refine Eith.l ?_ | refine aD ?_ | refine aB (fun _ => ?_) fun _ => ?_ | refine Nam.mk (List.length_map _) ?_ | fail)
  all_goals (conv => whnf)
  refine ALoop.at (E := envOf Tryd.prog tt Tryd.f75.ntmps) (envOf_ok ttok mixed) (X := Nat) (fun n => [(5, .d (I n))]) (fun _ => []) (fun n => n ≤ l.length ∧ ∀ z ∈ l.drop n, ltE x z) (fun n => n) l.length sam rfl ⟨Nat.le_refl _, by simp⟩ ?_
  rintro n ⟨hn, hm⟩
  by_cases hn0 : n = 0
  · have hi := insE_split x l n hm (.inl hn0)
    subst hn0
    rw [hi]
    repeat' ((conv => whnf); first | refine Chk.mk ⟨.inl rfl, by simp [room]; omega⟩ ?_ | refine Chk.mk ⟨rfl, by simp [dropL], by simp [dropL, room]; omega⟩ ?_ | refine Nam.mk (ins_end l x 0 _ (Nat.zero_le _) (by simp; omega)) ?_ | (with_reducible first | refine dT ?_ | refine dU ?_ | refine dF ?_ | refine dG ?_) | refine aT ?_ | refine aF ?_ | refine dS (fun _ => ?_) fun _ => ?_ | refine aW ?_ | refine aC ?_ | refine aL ?_ | refine Prep.skip ?_ | refine Eith.l ?_ | refine aD ?_ | refine aB (fun _ => ?_) fun _ => ?_ | fail)
    all_goals (conv => whnf)
    all_goals first | (exfalso; omega) | exact DLe.refl _
  · obtain ⟨m, rfl⟩ : ∃ m, n = m + 1 := ⟨n - 1, by omega⟩
    obtain ⟨y, hy, hyd⟩ := drop_get (l := l) (i := m) (by omega)
    have hy0 : (l.map Ent.d)[(((m + 1 : Nat) : Int) - 1).toNat]? = some y.d := by rw [show (((m + 1 : Nat) : Int) - 1).toNat = m by omega, List.getElem?_map, hy]; rfl
    by_cases hlt : ltE x y
    · have hg := gtr_iff.2 hlt
      repeat' ((conv => whnf); first | refine br_t hg ?_ | (with_reducible first | refine dT ?_ | refine dU ?_ | refine dF ?_ | refine dG ?_) | refine aT ?_ | refine aF ?_ | refine dS (fun _ => ?_) fun _ => ?_ | refine aW ?_ | refine aC ?_ | refine aL ?_ | refine Prep.skip ?_ | refine Eith.l ?_ | refine aD ?_ | refine aB (fun _ => ?_) fun _ => ?_ | refine nthK_mk hy0 ?_ | fail)
      all_goals (conv => whnf)
      all_goals first | (exfalso; omega) | skip
      have e1 : (((m + 1 : Nat) : Int) - 1) = (m : Int) := by omega
      rw [e1]
      exact ⟨m, Wm.end sam rfl rfl rfl, ⟨by omega, fun z hz => by
        rw [hyd] at hz
        cases hz with
        | head => exact hlt
        | tail _ hz => exact hm z hz⟩, by omega⟩
    · have hg : (!(Op.bytesLess y.nm x.nm || y.nm == x.nm)) = false := by
        cases hb : (!(Op.bytesLess y.nm x.nm || y.nm == x.nm)) with
        | false => rfl
        | true => exact absurd (gtr_iff.1 hb) hlt
      have hi := insE_split x l (m + 1) hm (.inr ⟨y, by simpa using hy, hlt⟩)
      rw [hi]
      repeat' ((conv => whnf); first | refine br_f hg ?_ | refine Chk.mk ⟨.inl rfl, by simp [room]; omega⟩ ?_ | refine Chk.mk ⟨rfl, by simp [dropL], by simp [dropL, room]; omega⟩ ?_ | refine Nam.mk (ins_end l x (m + 1) _ hn (by simp; omega)) ?_ | (with_reducible first | refine dT ?_ | refine dU ?_ | refine dF ?_ | refine dG ?_) | refine aT ?_ | refine aF ?_ | refine dS (fun _ => ?_) fun _ => ?_ | refine aW ?_ | refine aC ?_ | refine aL ?_ | refine Prep.skip ?_ | refine Eith.l ?_ | refine aD ?_ | refine aB (fun _ => ?_) fun _ => ?_ | refine nthK_mk hy0 ?_ | fail)
      all_goals (conv => whnf)
      all_goals first | (exfalso; omega) | exact DLe.refl _
theorem ordE_snoc (l : List Ent) (x : Ent) : ordE (l ++ [x]) = insE x (ordE l) := by unfold ordE; rw [List.foldl_append]; rfl
theorem ref42_ordered (l : List Ent) (hl : l.length < 2 ^ 28) : CallP Tryd.prog 40 [.d (SL 2 (l.map Ent.d))] (retD [SL 2 ((ordE l).map Ent.d)]) := by
  refine exPure_sound (E := envOf Tryd.prog tt Tryd.f40.ntmps) (envOf_ok ttok mixed) Tryd.func40 (by rfl) rfl rfl (Nat.le_of_ble_eq_true rfl) ?_
  repeat' ((conv => whnf); first | (with_reducible first | refine dT ?_ | refine dU ?_ | refine dF ?_ | refine dG ?_) | refine aT ?_ | refine aF ?_ | refine dS (fun _ => ?_) fun _ => ?_ | refine aW ?_ | refine aC ?_ | refine aL ?_ | refine Prep.skip ?_ | refine Eith.l ?_ | refine aD ?_ | refine aB (fun _ => ?_) fun _ => ?_ | refine Nam.mk (List.length_map _) ?_ | fail)
  all_goals (conv => whnf)
  refine ALoop.dle 3 (y := SL 2 []) rfl (DLe.full _ _ _) ?_
  refine ALoop.at (E := envOf Tryd.prog tt Tryd.f40.ntmps) (envOf_ok ttok mixed) (X := Nat) (fun i => [(4, .d (I i)), (3, .d (SL 2 ((ordE (l.take i)).map Ent.d)))]) (fun _ => []) (fun i => i ≤ l.length) (fun i => l.length - i) 0 sam rfl (Nat.zero_le _) ?_
  intro i hi
  have hlo : (ordE (l.take i)).length ≤ l.length := by rw [ord_len, List.length_take]; omega
  by_cases hlt : i < l.length
  · obtain ⟨x, hx, _⟩ := drop_get hlt
    have hnext : ordE (l.take (i + 1)) = insE x (ordE (l.take i)) := by rw [List.take_add_one, hx, Option.toList_some, ordE_snoc]
    repeat' ((conv => whnf); first | (with_reducible first | refine dT ?_ | refine dU ?_ | refine dF ?_ | refine dG ?_) | refine aT ?_ | refine aF ?_ | refine dS (fun _ => ?_) fun _ => ?_ | refine aW ?_ | refine aC ?_ | refine aL ?_ | refine Prep.skip ?_ | refine Eith.l ?_ | refine aD ?_ | refine aB (fun _ => ?_) fun _ => ?_ | refine nthK_mk (map_get hx) ?_ | refine APCall.of (ref42_insert (ordE (l.take i)) x (by omega)) ?_ | refine ACall.of (ref42_insert (ordE (l.take i)) x (by omega)) ?_ | fail)
    all_goals (conv => whnf)
    all_goals first
      | (refine ⟨i + 1, ?_, hlt, by omega⟩
         rw [hnext]
         exact Wm.end sam rfl rfl rfl)
  · have hti : l.take i = l := List.take_of_length_le (by omega)
    rw [hti]
    repeat' ((conv => whnf); first | (with_reducible first | refine dT ?_ | refine dU ?_ | refine dF ?_ | refine dG ?_) | refine aT ?_ | refine aF ?_ | refine dS (fun _ => ?_) fun _ => ?_ | refine aW ?_ | refine aC ?_ | refine aL ?_ | refine Prep.skip ?_ | refine Eith.l ?_ | refine aD ?_ | refine aB (fun _ => ?_) fun _ => ?_ | fail)
    all_goals (conv => whnf)
    all_goals first | (exfalso; omega) | exact DLe.refl _
end Go.PM
/- Deltas: the reference of Diff, Apply, Join. -/
namespace Go.PM
open Go.Proofs
set_option maxRecDepth 10000
set_option maxHeartbeats 1000000
end Go.PM
