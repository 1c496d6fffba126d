/- The type table of the program, the data of floors; package floor and its reference: what is formed. -/
import Derived.Test.YtgpgfcehcenejaaPmKit
import Derived.Test.YtgpgfcehcenejaaPmClo
import Derived.KernelRfl
import Derived.Test.YtgpgfcehcenejaaProg
namespace Go.PM
open Go.Proofs
set_option maxRecDepth 10000
set_option maxHeartbeats 4000000

instance : Glob := ⟨[]⟩
def tt : TT := [
  (3, ⟨.int .i64, 1, 8, [.i .i64 0]⟩),
  (4, ⟨.bool, 1, 1, [.b false]⟩),
  (5, ⟨.int .u8, 1, 1, [.i .u8 0]⟩),
  (22, ⟨.slice 3, 1, 24, [.sl 0 true []]⟩),
  (23, ⟨.slice 38, 1, 24, [.sl 0 true []]⟩),
  (24, ⟨.str [(0, 22), (1, 3), (2, 23)], 3, 56, [.sl 0 true [], .i .i64 0, .sl 0 true []]⟩),
  (25, ⟨.str [(0, 22), (1, 3), (2, 23)], 3, 56, [.sl 0 true [], .i .i64 0, .sl 0 true []]⟩),
  (28, ⟨.slice 22, 1, 24, [.sl 0 true []]⟩),
  (29, ⟨.int .i64, 1, 8, [.i .i64 0]⟩),
  (37, ⟨.str [(0, 3), (1, 3), (2, 3), (3, 3), (4, 3), (5, 3)], 6, 48, [.i .i64 0, .i .i64 0, .i .i64 0, .i .i64 0, .i .i64 0, .i .i64 0]⟩),
  (38, ⟨.str [(0, 3), (1, 3), (2, 3), (3, 3), (4, 3), (5, 3)], 6, 48, [.i .i64 0, .i .i64 0, .i .i64 0, .i .i64 0, .i .i64 0, .i .i64 0]⟩),
  (39, ⟨.int .u16, 1, 2, [.i .u16 0]⟩),
  (40, ⟨.other, 1, 8, [.k .nilFunc]⟩),
  (42, ⟨.slice 25, 1, 24, [.sl 0 true []]⟩),
  (47, ⟨.arr 16 3, 16, 128, [.i .i64 0, .i .i64 0, .i .i64 0, .i .i64 0, .i .i64 0, .i .i64 0, .i .i64 0, .i .i64 0, .i .i64 0, .i .i64 0, .i .i64 0, .i .i64 0, .i .i64 0, .i .i64 0, .i .i64 0, .i .i64 0]⟩),
  (48, ⟨.arr 16 3, 16, 128, [.i .i64 0, .i .i64 0, .i .i64 0, .i .i64 0, .i .i64 0, .i .i64 0, .i .i64 0, .i .i64 0, .i .i64 0, .i .i64 0, .i .i64 0, .i .i64 0, .i .i64 0, .i .i64 0, .i .i64 0, .i .i64 0]⟩),
  (55, ⟨.other, 1, 8, [.k .nilFunc]⟩),
  (57, ⟨.map 3 4, 1, 8, [.k (.map none)]⟩),
  (59, ⟨.other, 1, 8, [.k .nilFunc]⟩),
  (60, ⟨.other, 1, 8, [.k .nilFunc]⟩),
  (61, ⟨.other, 1, 8, [.k .nilFunc]⟩),
  (63, ⟨.arr 16 4, 16, 16, [.b false, .b false, .b false, .b false, .b false, .b false, .b false, .b false, .b false, .b false, .b false, .b false, .b false, .b false, .b false, .b false]⟩),
  (68, ⟨.int .u64, 1, 8, [.i .u64 0]⟩),
  (70, ⟨.slice 4, 1, 24, [.sl 0 true []]⟩),
  (72, ⟨.other, 1, 8, [.k .nilFunc]⟩),
  (73, ⟨.other, 1, 8, [.k .nilFunc]⟩),
  (75, ⟨.int .i64, 1, 8, [.i .i64 0]⟩),
  (83, ⟨.int .u32, 1, 4, [.i .u32 0]⟩),
  (85, ⟨.int .u64, 1, 8, [.i .u64 0]⟩),
  (86, ⟨.int .u64, 1, 8, [.i .u64 0]⟩),
  (90, ⟨.other, 1, 8, [.k (.pointer none)]⟩),
  (92, ⟨.other, 1, 8, [.k (.pointer none)]⟩)]
theorem ttok : tokB Try.prog tt = true := by kernel_rfl
theorem mixed : Try.prog.follows .mixedOrders = true := by kernel_rfl

structure Flow where
  kind : Int
  per : Int
  src : Int
  dst : Int
  amt : Int
  label : Int
  deriving DecidableEq
def Flow.d (f : Flow) : D := .agg [I f.kind, I f.per, I f.src, I f.dst, I f.amt, I f.label]
structure Hist where
  op : List Int
  per : Int
  fl : List Flow
  deriving DecidableEq
def Hist.d (h : Hist) : D := .agg [SL 1 (h.op.map I), I h.per, SL 6 (h.fl.map Flow.d)]

/-! ### package cmp -/

theorem cmp_isNaN (x : Int) : CallP Try.prog 42 [.d (I x)] (retD [.b false]) := by
  refine exPure_sound (E := envOf Try.prog tt Try.f42.ntmps) (envOf_ok ttok mixed) Try.func42 (by rfl) rfl rfl (Nat.le_of_ble_eq_true rfl) ?_
  repeat' ((conv => whnf); first | with_reducible refine Dec.t (show true = true from rfl) ?_ | with_reducible refine Dec.t (show false = false from rfl) ?_ | with_reducible refine Dec.f (show ¬ (true = false) by decide) ?_ | with_reducible refine Dec.f (show ¬ (false = true) by decide) ?_ | refine Dec.t (by omega) ?_ | refine Dec.f (by omega) ?_ | refine Dec.split (fun _ => ?_) (fun _ => ?_) | refine Wr.id (by omega) ?_ | refine Chk.mk (by first | omega | exact rfl | (simp only [List.length_map]; omega) | (simp [room]; done) | (simp [room]; omega) | (simp [dropL, room]; done) | (simp [dropL, room]; omega)) ?_ | refine Nam.mk (List.length_map _) ?_ | refine Prep.skip ?_ | refine Eith.l ?_ | refine chk_t (x := D.flat _) (by assumption) ?_ | refine br_mk (fun _ => ?_) (fun _ => ?_))
  all_goals (conv => whnf)
  exact DLe.refl _

def cmpI (x y : Int) : Int := if x < y then -1 else if y < x then 1 else 0

theorem cmp_Compare (x y : Int) : CallP Try.prog 28 [.d (I x), .d (I y)] (retD [I (cmpI x y)]) := by
  refine exPure_sound (E := envOf Try.prog tt Try.f28.ntmps) (envOf_ok ttok mixed) Try.func28 (by rfl) rfl rfl (Nat.le_of_ble_eq_true rfl) ?_
  repeat' ((conv => whnf); first | with_reducible refine Dec.t (show true = true from rfl) ?_ | with_reducible refine Dec.t (show false = false from rfl) ?_ | with_reducible refine Dec.f (show ¬ (true = false) by decide) ?_ | with_reducible refine Dec.f (show ¬ (false = true) by decide) ?_ | refine Dec.t (by omega) ?_ | refine Dec.f (by omega) ?_ | refine Dec.split (fun _ => ?_) (fun _ => ?_) | refine Wr.id (by omega) ?_ | refine Chk.mk (by first | omega | exact rfl | (simp only [List.length_map]; omega) | (simp [room]; done) | (simp [room]; omega) | (simp [dropL, room]; done) | (simp [dropL, room]; omega)) ?_ | refine Nam.mk (List.length_map _) ?_ | refine Prep.skip ?_ | refine Eith.l ?_ | refine chk_t (x := D.flat _) (by assumption) ?_ | refine br_mk (fun _ => ?_) (fun _ => ?_) | refine ACall.of (cmp_isNaN _) ?_)
  all_goals (conv => whnf)
  all_goals (simp only [cmpI]; simp only [*, if_true, if_false]; exact DLe.refl _)


theorem floor_between (n lo hi : Int) : CallP Try.prog 31 [.d (I n), .d (I lo), .d (I hi)] (retD [.b (decide (lo ≤ n ∧ n ≤ hi))]) := by
  refine exPure_sound (E := envOf Try.prog tt Try.f31.ntmps) (envOf_ok ttok mixed) Try.func31 (by rfl) rfl rfl (Nat.le_of_ble_eq_true rfl) ?_
  repeat' ((conv => whnf); first | with_reducible refine Dec.t (show true = true from rfl) ?_ | with_reducible refine Dec.t (show false = false from rfl) ?_ | with_reducible refine Dec.f (show ¬ (true = false) by decide) ?_ | with_reducible refine Dec.f (show ¬ (false = true) by decide) ?_ | refine Dec.t (by omega) ?_ | refine Dec.f (by omega) ?_ | refine Dec.split (fun _ => ?_) (fun _ => ?_) | refine Wr.id (by omega) ?_ | refine Chk.mk (by first | omega | exact rfl | (simp only [List.length_map]; omega) | (simp [room]; done) | (simp [room]; omega) | (simp [dropL, room]; done) | (simp [dropL, room]; omega)) ?_ | refine Nam.mk (List.length_map _) ?_ | refine Prep.skip ?_ | refine Eith.l ?_ | refine chk_t (x := D.flat _) (by assumption) ?_ | refine br_mk (fun _ => ?_) (fun _ => ?_) | fail)
  all_goals (conv => whnf)
  all_goals first | (rw [decide_eq_true (by omega)]; exact DLe.refl _) | (rw [decide_eq_false (by omega)]; exact DLe.refl _)
theorem ref34_in (n lo hi : Int) : CallP Try.prog 43 [.d (I n), .d (I lo), .d (I hi)] (retD [.b (decide (lo ≤ n ∧ n ≤ hi))]) := by
  refine exPure_sound (E := envOf Try.prog tt Try.f43.ntmps) (envOf_ok ttok mixed) Try.func43 (by rfl) rfl rfl (Nat.le_of_ble_eq_true rfl) ?_
  repeat' ((conv => whnf); first | with_reducible refine Dec.t (show true = true from rfl) ?_ | with_reducible refine Dec.t (show false = false from rfl) ?_ | with_reducible refine Dec.f (show ¬ (true = false) by decide) ?_ | with_reducible refine Dec.f (show ¬ (false = true) by decide) ?_ | refine Dec.t (by omega) ?_ | refine Dec.f (by omega) ?_ | refine Dec.split (fun _ => ?_) (fun _ => ?_) | refine Wr.id (by omega) ?_ | refine Chk.mk (by first | omega | exact rfl | (simp only [List.length_map]; omega) | (simp [room]; done) | (simp [room]; omega) | (simp [dropL, room]; done) | (simp [dropL, room]; omega)) ?_ | refine Nam.mk (List.length_map _) ?_ | refine Prep.skip ?_ | refine Eith.l ?_ | refine chk_t (x := D.flat _) (by assumption) ?_ | refine br_mk (fun _ => ?_) (fun _ => ?_) | fail)
  all_goals (conv => whnf)
  all_goals first | (rw [decide_eq_true (by omega)]; exact DLe.refl _) | (rw [decide_eq_false (by omega)]; exact DLe.refl _)
def Flow.ok (nv : Nat) (np : Int) (f : Flow) : Prop :=
  (0 ≤ f.per ∧ f.per ≤ np - 1) ∧ (1 ≤ f.amt ∧ f.amt ≤ 1048576) ∧
  (f.kind = 1 ∧ f.src = 0 ∧ (0 ≤ f.dst ∧ f.dst ≤ (nv : Int) - 1) ∧ (-1 ≤ f.label ∧ f.label ≤ 4095) ∨
   f.kind = 2 ∧ (0 ≤ f.src ∧ f.src ≤ (nv : Int) - 1) ∧ (0 ≤ f.dst ∧ f.dst ≤ (nv : Int) - 1) ∧ ¬ f.src = f.dst ∧ f.label = 0 ∨
   f.kind = 3 ∧ (0 ≤ f.src ∧ f.src ≤ (nv : Int) - 1) ∧ f.dst = 0 ∧ (0 ≤ f.label ∧ f.label ≤ 4095) ∨
   f.kind = 4 ∧ (0 ≤ f.src ∧ f.src ≤ (nv : Int) - 1) ∧ f.dst = 0 ∧ f.label = 0)
instance (nv : Nat) (np : Int) (f : Flow) : Decidable (f.ok nv np) := by unfold Flow.ok; infer_instance
theorem floor_formedFlow (h : Hist) (f : Flow) (hl : h.op.length < 2 ^ 40) (hp : 0 ≤ h.per ∧ h.per ≤ 1000) : CallP Try.prog 32 [.d h.d, .d f.d] (retD [.b (decide (f.ok h.op.length h.per))]) := by
  refine exPure_sound (E := envOf Try.prog tt Try.f32.ntmps) (envOf_ok ttok mixed) Try.func32 (by rfl) rfl rfl (Nat.le_of_ble_eq_true rfl) ?_
  repeat' ((conv => whnf); first | with_reducible refine Dec.t (show true = true from rfl) ?_ | with_reducible refine Dec.t (show false = false from rfl) ?_ | with_reducible refine Dec.f (show ¬ (true = false) by decide) ?_ | with_reducible refine Dec.f (show ¬ (false = true) by decide) ?_ | refine Dec.t (by omega) ?_ | refine Dec.f (by omega) ?_ | refine Dec.split (fun _ => ?_) (fun _ => ?_) | refine Wr.id (by omega) ?_ | refine Chk.mk (by first | omega | exact rfl | (simp only [List.length_map]; omega) | (simp [room]; done) | (simp [room]; omega) | (simp [dropL, room]; done) | (simp [dropL, room]; omega)) ?_ | refine Nam.mk (List.length_map _) ?_ | refine Prep.skip ?_ | refine Eith.l ?_ | refine chk_t (x := D.flat _) (by assumption) ?_ | refine br_mk (fun _ => ?_) (fun _ => ?_) | refine ACall.ofB (floor_between _ _ _) (fun _ => ?_) (fun _ => ?_) | refine APCall.ofB (floor_between _ _ _) (fun _ => ?_) (fun _ => ?_) | refine ACall.body (E := envOf Try.prog tt Try.f46.ntmps) (envOf_ok ttok mixed) Try.func46 (by rfl) rfl (Nat.le_of_ble_eq_true rfl) ?_ | fail)
  all_goals (conv => whnf)
  all_goals try simp only [decide_eq_true_eq, decide_eq_false_iff_not] at *
  all_goals first | (rw [decide_eq_true (by unfold Flow.ok; omega)]; exact DLe.refl _) | (rw [decide_eq_false (by unfold Flow.ok; omega)]; exact DLe.refl _)
theorem ref34_Formed (f : Flow) (nv : Nat) (np : Int) (hl : nv < 2 ^ 40) (hp : 0 ≤ np ∧ np ≤ 1000) : CallP Try.prog 44 [.d f.d, .d (I nv), .d (I np)] (retD [.b (decide (f.ok nv np))]) := by
  refine exPure_sound (E := envOf Try.prog tt Try.f44.ntmps) (envOf_ok ttok mixed) Try.func44 (by rfl) rfl rfl (Nat.le_of_ble_eq_true rfl) ?_
  repeat' ((conv => whnf); first | with_reducible refine Dec.t (show true = true from rfl) ?_ | with_reducible refine Dec.t (show false = false from rfl) ?_ | with_reducible refine Dec.f (show ¬ (true = false) by decide) ?_ | with_reducible refine Dec.f (show ¬ (false = true) by decide) ?_ | refine Dec.t (by omega) ?_ | refine Dec.f (by omega) ?_ | refine Dec.split (fun _ => ?_) (fun _ => ?_) | refine Wr.id (by omega) ?_ | refine Chk.mk (by first | omega | exact rfl | (simp only [List.length_map]; omega) | (simp [room]; done) | (simp [room]; omega) | (simp [dropL, room]; done) | (simp [dropL, room]; omega)) ?_ | refine Nam.mk (List.length_map _) ?_ | refine Prep.skip ?_ | refine Eith.l ?_ | refine chk_t (x := D.flat _) (by assumption) ?_ | refine br_mk (fun _ => ?_) (fun _ => ?_) | refine ACall.ofB (ref34_in _ _ _) (fun _ => ?_) (fun _ => ?_) | refine APCall.ofB (ref34_in _ _ _) (fun _ => ?_) (fun _ => ?_) | fail)
  all_goals (conv => whnf)
  all_goals try simp only [decide_eq_true_eq, decide_eq_false_iff_not] at *
  all_goals first | (rw [decide_eq_true (by unfold Flow.ok; omega)]; exact DLe.refl _) | (rw [decide_eq_false (by unfold Flow.ok; omega)]; exact DLe.refl _)
end Go.PM

