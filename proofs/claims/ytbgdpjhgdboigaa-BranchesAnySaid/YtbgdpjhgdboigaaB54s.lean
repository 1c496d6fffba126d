/- Branches: sane. -/
import Derived.Test.YtbgdpjhgdboigaaB54o
namespace Go.PM
open Go.Proofs
set_option maxRecDepth 100000
set_option maxHeartbeats 8000000


def chgS (s v : Int) : Chg := ⟨1, s, 0, v, 2, 9⟩
def noneB : Brn := ⟨[], [], [], [], []⟩
def aB : Brn := ⟨[], [[]], [-1], [0], [false]⟩
def bB : Brn := ⟨[], [[], []], [-1, -1], [0, 0], [false, false]⟩
def cB : Brn := ⟨[], [[chgS 3 7], []], [-1, -1], [0, 0], [false, false]⟩
def d1B : Brn := ⟨[], [[chgS 3 7], [chgS 4 8]], [-1, -1], [0, 0], [false, false]⟩
def dB : Brn := ⟨[], [[chgS 3 7], [chgS 4 8, chgS 3 9]], [-1, -1], [0, 0], [false, false]⟩
def xB : Brn := ⟨[(chgS 3 7).fact 1], [[chgS 3 7], [chgS 4 8, chgS 3 9]], [-1, -1], [0, 0], [true, false]⟩
def yB : Brn := ⟨[(chgS 3 7).fact 1], [[chgS 3 7], [chgS 4 8, chgS 3 9], []], [-1, -1, 1], [0, 0, 2], [true, false, false]⟩
def zB : Brn := ⟨[(chgS 3 7).fact 1], [[chgS 3 7], [chgS 4 8, chgS 3 9], []], [-1, -1, 1], [0, 0, 2], [true, true, false]⟩
theorem t1 : newM [] = (noneB, 0) := by decide +kernel
theorem t2 : forkM noneB 0 = (Brn.zero, 0, 1) := by decide +kernel
theorem t3 : mergeM noneB 0 = (Brn.zero, [], 1) := by decide +kernel
theorem t4 : factsM noneB (-1) = ([], 0) := by decide +kernel
theorem t5 : forkM noneB (-1) = (aB, 0, 0) := by decide +kernel
theorem t6 : forkM aB (-1) = (bB, 1, 0) := by decide +kernel
theorem t7 : changeM bB 0 (chgS 3 7) = (cB, 0) := by decide +kernel
theorem t8 : changeM cB 1 (chgS 4 8) = (d1B, 0) := by decide +kernel
theorem t9 : changeM d1B 1 (chgS 3 9) = (dB, 0) := by decide +kernel
theorem t10 : mergeM dB 0 = (xB, [], 0) := by decide +kernel
theorem t11 : mergeM xB 1 = (Brn.zero, [(chgS 3 0).key], 541) := by decide +kernel
theorem t12 : forkM xB 1 = (yB, 2, 0) := by decide +kernel
theorem t13 : dropM yB 1 = (zB, 0) := by decide +kernel
theorem t14 : changeM zB 1 (chgS 1 1) = (Brn.zero, 1) := by decide +kernel
theorem t15 : factsM xB (-1) = ([(chgS 3 7).fact 1], 0) := by decide +kernel
theorem t16 : factsM xB 1 = ([(chgS 4 8).fact 1, (chgS 3 9).fact 2], 0) := by decide +kernel
theorem t17 : factsM yB 2 = ([(chgS 4 8).fact 1, (chgS 3 9).fact 2], 0) := by decide +kernel
theorem a1 : atM [(chgS 3 7).fact 1] ⟨1, 3, 0⟩ 5 16777216 = some 7 := by decide +kernel
theorem a2 : atM [(chgS 4 8).fact 1, (chgS 3 9).fact 2] ⟨1, 3, 0⟩ 5 16777216 = some 9 := by decide +kernel
theorem a3 : atM [(chgS 4 8).fact 1, (chgS 3 9).fact 2] ⟨1, 4, 0⟩ 5 16777216 = some 8 := by decide +kernel
theorem a4 : atM [(chgS 3 7).fact 1] ⟨1, 4, 0⟩ 5 16777216 = none := by decide +kernel
theorem law54_change (s v : Int) : CallP Try.prog 32 [.d (I s), .d (I v)] (retD [(chgS s v).d]) := by
  refine exPure_sound (E := envOf Try.prog tt Try.f32.ntmps) (envOf_ok ttok mixed) Try.func32 (by rfl) rfl rfl (Nat.le_of_ble_eq_true rfl) ?_
  repeat' ((conv => whnf); first | with_reducible refine Dec.t (show true = true from rfl) ?_ | with_reducible refine Dec.t (show false = false from rfl) ?_ | with_reducible refine Dec.f (show ¬ (true = false) by decide) ?_ | with_reducible refine Dec.f (show ¬ (false = true) by decide) ?_ | refine Dec.t (by omega) ?_ | refine Dec.f (by omega) ?_ | refine Dec.split (fun _ => ?_) (fun _ => ?_) | refine Wr.id (by omega) ?_ | refine Chk.mk (by first | omega | exact rfl | (simp only [List.length_map]; omega) | (simp [room]; done) | (simp [room]; omega) | (simp [dropL, room]; done) | (simp [dropL, room]; omega)) ?_ | refine Nam.mk (List.length_map _) ?_ | refine Prep.skip ?_ | refine Eith.l ?_ | refine chk_t (x := D.flat _) (by assumption) ?_ | refine br_mk (fun _ => ?_) (fun _ => ?_) | fail)
  all_goals (conv => whnf)
  exact DLe.refl _
theorem law54_at (b : Brn) (no s : Int) (hW : b.wide) {l : List Fact} (h : factsM b no = (l, 0)) (hl : l.length < 2 ^ 40) : CallP Try.prog 33 [.d b.d, .d (I no), .d (I s)] (retD [I ((atM l ⟨1, s, 0⟩ 5 16777216).getD 0), .b (atM l ⟨1, s, 0⟩ 5 16777216).isSome]) := by
  have hF := branches_Facts b no hW
  rw [h] at hF
  have hA := facts_At l ⟨1, s, 0⟩ 5 16777216 hl
  have hc := law54_change s 0
  generalize atM l ⟨1, s, 0⟩ 5 16777216 = r at hA ⊢
  cases r
  all_goals
    refine exPure_sound (E := envOf Try.prog tt Try.f33.ntmps) (envOf_ok ttok mixed) Try.func33 (by rfl) rfl rfl (Nat.le_of_ble_eq_true rfl) ?_
    repeat' ((conv => whnf); first | with_reducible refine Dec.t (show true = true from rfl) ?_ | with_reducible refine Dec.t (show false = false from rfl) ?_ | with_reducible refine Dec.f (show ¬ (true = false) by decide) ?_ | with_reducible refine Dec.f (show ¬ (false = true) by decide) ?_ | refine Dec.t (by omega) ?_ | refine Dec.f (by omega) ?_ | refine Dec.split (fun _ => ?_) (fun _ => ?_) | refine Wr.id (by omega) ?_ | refine Chk.mk (by first | omega | exact rfl | (simp only [List.length_map]; omega) | (simp [room]; done) | (simp [room]; omega) | (simp [dropL, room]; done) | (simp [dropL, room]; omega)) ?_ | refine Nam.mk (List.length_map _) ?_ | refine Prep.skip ?_ | refine Eith.l ?_ | refine chk_t (x := D.flat _) (by assumption) ?_ | refine br_mk (fun _ => ?_) (fun _ => ?_) | refine ACall.of (hF) ?_ | refine APCall.of (hF) ?_ | refine ACall.of (hc) ?_ | refine APCall.of (hc) ?_ | refine ACall.of (hA) ?_ | refine APCall.of (hA) ?_ | fail)
    all_goals first | (exfalso; omega) | skip
    all_goals (conv => whnf)
    all_goals first | exact ⟨DLe.refl _, DLe.refl _, rfl⟩
theorem widB {b : Brn} (h : b.base.length < 2 ^ 20 ∧ ∀ l ∈ b.br, l.length < 100) : b.wide := ⟨h.1, fun l hl => Nat.lt_of_lt_of_le (h.2 l hl) (by decide)⟩
theorem totB {b : Brn} {n : Nat} (h : b.total + 1 < n) : b.valid → b.total + 1 < n := fun _ => h
theorem totB' {b : Brn} {n : Nat} (h : b.total < n) : b.valid → b.total < n := fun _ => h
theorem law54_sane : CallP Try.prog 10 [] (retD [.b true]) := by
  have w1 : noneB.wide := widB (by decide +kernel)
  have w2 : aB.wide := widB (by decide +kernel)
  have w3 : bB.wide := widB (by decide +kernel)
  have w4 : cB.wide := widB (by decide +kernel)
  have w5 : d1B.wide := widB (by decide +kernel)
  have w6 : dB.wide := widB (by decide +kernel)
  have w7 : xB.wide := widB (by decide +kernel)
  have w8 : yB.wide := widB (by decide +kernel)
  have w9 : zB.wide := widB (by decide +kernel)
  have k1 := branches_New [] (by decide); rw [t1] at k1
  have k2 := branches_Fork noneB 0 w1; rw [t2] at k2
  have k3 := branches_Merge noneB 0 w1 (totB' (by decide +kernel)); rw [t3] at k3
  have k4 := branches_Facts noneB (-1) w1; rw [t4] at k4
  have k5 := branches_Fork noneB (-1) w1; rw [t5] at k5
  have k6 := branches_Fork aB (-1) w2; rw [t6] at k6
  have k7 := branches_Change bB 0 (chgS 3 7) w3 (totB (by decide +kernel)); rw [t7] at k7
  have k8 := branches_Change cB 1 (chgS 4 8) w4 (totB (by decide +kernel)); rw [t8] at k8
  have k9 := branches_Change d1B 1 (chgS 3 9) w5 (totB (by decide +kernel)); rw [t9] at k9
  have k10 := branches_Merge dB 0 w6 (totB' (by decide +kernel)); rw [t10] at k10
  have k11 := branches_Merge xB 1 w7 (totB' (by decide +kernel)); rw [t11] at k11
  have k12 := branches_Fork xB 1 w7; rw [t12] at k12
  have k13 := branches_Drop yB 1 w8; rw [t13] at k13
  have k14 := branches_Change zB 1 (chgS 1 1) w9 (totB (by decide +kernel)); rw [t14] at k14
  have k15 := law54_at xB (-1) 3 w7 t15 (by decide); rw [a1] at k15
  have k16 := law54_at xB 1 3 w7 t16 (by decide); rw [a2] at k16
  have k17 := law54_at yB 2 4 w8 t17 (by decide); rw [a3] at k17
  have k18 := law54_at xB (-1) 4 w7 t15 (by decide); rw [a4] at k18
  have c1 := law54_change 3 7
  have c2 := law54_change 4 8
  have c3 := law54_change 3 9
  have c4 := law54_change 1 1
  have c5 := law54_change 3 0
  have sk := ref54_SameKeys [(chgS 3 0).key] [(chgS 3 0).key] (by decide)
  rw [decide_eq_true rfl] at sk
  have le1 : VLes [.d (.sl 0 true [])] [.d (SL 8 (([] : List Fact).map Fact.d))] := ⟨VLe.d (DLe.nil _ _ _), rfl⟩
  have k1 := CallP.le le1 k1
  have le2 : VLes [.d (SL 3 ([(chgS 3 0).key].map Key.d)), .d (.sl 3 true ([(chgS 3 0).key].map Key.d))] [.d (SL 3 ([(chgS 3 0).key].map Key.d)), .d (SL 3 ([(chgS 3 0).key].map Key.d))] := ⟨VLe.refl _, VLe.d (DLe.full _ _ _), rfl⟩
  have sk := CallP.le le2 sk
  refine exPure_sound (E := envOf Try.prog tt Try.f10.ntmps) (envOf_ok ttok mixed) Try.func10 (by rfl) rfl rfl (Nat.le_of_ble_eq_true rfl) ?_
  repeat' ((conv => whnf); first | refine Dec.t (of_decide_eq_true (Eq.refl true)) ?_ | refine Dec.f (of_decide_eq_false (Eq.refl false)) ?_ | with_reducible refine Dec.t (show true = true from rfl) ?_ | with_reducible refine Dec.t (show false = false from rfl) ?_ | with_reducible refine Dec.f (show ¬ (true = false) by decide) ?_ | with_reducible refine Dec.f (show ¬ (false = true) by decide) ?_ | refine Dec.t (by omega) ?_ | refine Dec.f (by omega) ?_ | refine Dec.split (fun _ => ?_) (fun _ => ?_) | refine Wr.id (by omega) ?_ | refine Chk.mk (by first | omega | exact rfl | (simp only [List.length_map]; omega) | (simp [room]; done) | (simp [room]; omega) | (simp [dropL, room]; done) | (simp [dropL, room]; omega)) ?_ | refine Nam.mk (List.length_map _) ?_ | refine Prep.skip ?_ | refine Eith.l ?_ | refine chk_t (x := D.flat _) (by assumption) ?_ | refine br_mk (fun _ => ?_) (fun _ => ?_) | refine ACall.of (k1) ?_ | refine APCall.of (k1) ?_ | refine ACall.of (k2) ?_ | refine APCall.of (k2) ?_ | refine ACall.of (k3) ?_ | refine APCall.of (k3) ?_ | refine ACall.of (k4) ?_ | refine APCall.of (k4) ?_ | refine ACall.of (k5) ?_ | refine APCall.of (k5) ?_ | refine ACall.of (k6) ?_ | refine APCall.of (k6) ?_ | refine ACall.of (k7) ?_ | refine APCall.of (k7) ?_ | refine ACall.of (k8) ?_ | refine APCall.of (k8) ?_ | refine ACall.of (k9) ?_ | refine APCall.of (k9) ?_ | refine ACall.of (k10) ?_ | refine APCall.of (k10) ?_ | refine ACall.of (k11) ?_ | refine APCall.of (k11) ?_ | refine ACall.of (k12) ?_ | refine APCall.of (k12) ?_ | refine ACall.of (k13) ?_ | refine APCall.of (k13) ?_ | refine ACall.of (k14) ?_ | refine APCall.of (k14) ?_ | refine ACall.of (k15) ?_ | refine APCall.of (k15) ?_ | refine ACall.of (k16) ?_ | refine APCall.of (k16) ?_ | refine ACall.of (k17) ?_ | refine APCall.of (k17) ?_ | refine ACall.of (k18) ?_ | refine APCall.of (k18) ?_ | refine ACall.of (c1) ?_ | refine APCall.of (c1) ?_ | refine ACall.of (c2) ?_ | refine APCall.of (c2) ?_ | refine ACall.of (c3) ?_ | refine APCall.of (c3) ?_ | refine ACall.of (c4) ?_ | refine APCall.of (c4) ?_ | refine ACall.of (c5) ?_ | refine APCall.of (c5) ?_ | refine ACall.of (sk) ?_ | refine APCall.of (sk) ?_ | fail)
  all_goals (conv => whnf)
  all_goals first | exact DLe.refl _
end Go.PM

