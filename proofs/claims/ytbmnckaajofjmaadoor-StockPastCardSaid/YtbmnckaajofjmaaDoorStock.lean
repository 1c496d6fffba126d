/- Package stock: fields, right. -/
import Derived.Test.YtbmnckaajofjmaaDoorF04c
namespace Go.PM
open Go.Proofs
set_option maxRecDepth 10000
set_option maxHeartbeats 1000000

structure Lot where
  no : Int
  item : Int
  plant : Int
  amount : Int
  expiry : Int
  state : Int
  deriving DecidableEq
def Lot.d (l : Lot) : D := .agg [I l.no, I l.item, I l.plant, I l.amount, I l.expiry, I l.state]
def Lot.zero : Lot := ⟨0, 0, 0, 0, 0, 0⟩
def Lot.right (l : Lot) : Prop := (0 ≤ l.item ∧ l.item ≤ 31) ∧ (0 ≤ l.plant ∧ l.plant ≤ 7) ∧ (1 ≤ l.amount ∧ l.amount ≤ 9223372036854775807) ∧ (0 ≤ l.expiry ∧ l.expiry ≤ 1024) ∧ (0 ≤ l.state ∧ l.state ≤ 3)
instance Lot.rightDec (l : Lot) : Decidable l.right := by unfold Lot.right; infer_instance

def fnD (f : Nat) : D := .k (.func (.func f) #[] #[])
def fieldsD : D := .sl 3 true [.agg [I 0, I 31, fnD 74], .agg [I 0, I 7, fnD 75], .agg [I 1, I 9223372036854775807, fnD 76], .agg [I 0, I 1024, fnD 77], .agg [I 0, I 3, fnD 78]]
theorem stock_fields : CallP Tryd.prog 56 [] (retD [fieldsD]) := by
  refine exPure_sound (E := envOf Tryd.prog tt Tryd.f56.ntmps) (envOf_ok ttok mixed) Tryd.func56 (by rfl) rfl rfl (Nat.le_of_ble_eq_true rfl) ?_
  repeat' ((conv => whnf); first | with_reducible refine Dec.t (show true = true from rfl) ?_ | with_reducible refine Dec.t (show false = false from rfl) ?_ | with_reducible refine Dec.f (show ¬ (true = false) by decide) ?_ | with_reducible refine Dec.f (show ¬ (false = true) by decide) ?_ | refine Dec.t (by omega) ?_ | refine Dec.f (by omega) ?_ | refine Dec.split (fun _ => ?_) (fun _ => ?_) | refine Wr.id (by omega) ?_ | refine Chk.mk (by first | omega | exact rfl | (simp only [List.length_map]; omega) | (simp [room]; done) | (simp [room]; omega) | (simp [dropL, room]; done) | (simp [dropL, room]; omega)) ?_ | refine Nam.mk (List.length_map _) ?_ | refine Prep.skip ?_ | refine Eith.l ?_ | refine chk_t (x := D.flat _) (by assumption) ?_ | refine br_mk (fun _ => ?_) (fun _ => ?_) | fail)
  all_goals (conv => whnf)
  exact DLe.refl _

theorem stock_right (l : Lot) : CallP Tryd.prog 39 [.d l.d] (retD [.b (decide l.right)]) := by
  refine exPure_sound (E := envOf Tryd.prog tt Tryd.f39.ntmps) (envOf_ok ttok mixed) Tryd.func39 (by rfl) rfl rfl (Nat.le_of_ble_eq_true rfl) ?_
  repeat' ((conv => whnf); first | with_reducible refine Dec.t (show true = true from rfl) ?_ | with_reducible refine Dec.t (show false = false from rfl) ?_ | with_reducible refine Dec.f (show ¬ (true = false) by decide) ?_ | with_reducible refine Dec.f (show ¬ (false = true) by decide) ?_ | refine Dec.t (by omega) ?_ | refine Dec.f (by omega) ?_ | refine Dec.split (fun _ => ?_) (fun _ => ?_) | refine Wr.id (by omega) ?_ | refine Chk.mk (by first | omega | exact rfl | (simp only [List.length_map]; omega) | (simp [room]; done) | (simp [room]; omega) | (simp [dropL, room]; done) | (simp [dropL, room]; omega)) ?_ | refine Nam.mk (List.length_map _) ?_ | refine Prep.skip ?_ | refine Eith.l ?_ | refine chk_t (x := D.flat _) (by assumption) ?_ | refine br_mk (fun _ => ?_) (fun _ => ?_) | refine ACall.of (stock_fields) ?_ | refine APCall.of (stock_fields) ?_ | refine Nam.mk (y := 5) rfl ?_ | fail)
  all_goals (conv => whnf)
  refine ALoop.rounds 6 ?_
  repeat' ((conv => whnf); first | with_reducible refine Dec.t (show true = true from rfl) ?_ | with_reducible refine Dec.t (show false = false from rfl) ?_ | with_reducible refine Dec.f (show ¬ (true = false) by decide) ?_ | with_reducible refine Dec.f (show ¬ (false = true) by decide) ?_ | refine Dec.t (by omega) ?_ | refine Dec.f (by omega) ?_ | refine Dec.split (fun _ => ?_) (fun _ => ?_) | refine Wr.id (by omega) ?_ | refine Chk.mk (by first | omega | exact rfl | (simp only [List.length_map]; omega) | (simp [room]; done) | (simp [room]; omega) | (simp [dropL, room]; done) | (simp [dropL, room]; omega)) ?_ | refine Nam.mk (List.length_map _) ?_ | refine Prep.skip ?_ | refine Eith.l ?_ | refine chk_t (x := D.flat _) (by assumption) ?_ | refine br_mk (fun _ => ?_) (fun _ => ?_) | refine ALoopN.step (E := (envOf Tryd.prog tt Tryd.f39.ntmps)) (envOf_ok ttok mixed) ?_ | refine ACall.body (E := envOf Tryd.prog tt Tryd.f74.ntmps) (envOf_ok ttok mixed) Tryd.func74 (by rfl) rfl (Nat.le_of_ble_eq_true rfl) ?_ | refine ACall.body (E := envOf Tryd.prog tt Tryd.f75.ntmps) (envOf_ok ttok mixed) Tryd.func75 (by rfl) rfl (Nat.le_of_ble_eq_true rfl) ?_ | refine ACall.body (E := envOf Tryd.prog tt Tryd.f76.ntmps) (envOf_ok ttok mixed) Tryd.func76 (by rfl) rfl (Nat.le_of_ble_eq_true rfl) ?_ | refine ACall.body (E := envOf Tryd.prog tt Tryd.f77.ntmps) (envOf_ok ttok mixed) Tryd.func77 (by rfl) rfl (Nat.le_of_ble_eq_true rfl) ?_ | refine ACall.body (E := envOf Tryd.prog tt Tryd.f78.ntmps) (envOf_ok ttok mixed) Tryd.func78 (by rfl) rfl (Nat.le_of_ble_eq_true rfl) ?_ | fail)
  all_goals (conv => whnf)
  all_goals first
    | (rw [decide_eq_true (by unfold Lot.right; omega)]; exact (by repeat (first | exact trivial | exact rfl | exact DLe.refl _ | exact DLe.full _ _ _ | exact DLe.nil _ _ _ | exact VLe.refl _ | refine And.intro ?_ ?_ | refine VLe.d ?_ | refine DLe.agg ?_)))
    | (rw [decide_eq_false (by unfold Lot.right; omega)]; exact (by repeat (first | exact trivial | exact rfl | exact DLe.refl _ | exact DLe.full _ _ _ | exact DLe.nil _ _ _ | exact VLe.refl _ | refine And.intro ?_ ?_ | refine VLe.d ?_ | refine DLe.agg ?_)))
    | trace_state
end Go.PM

