/- Package corrections and its reference: valid, now, Apply. -/
import Derived.Test.YtfbngjofngmbdaaF04d
namespace Go.PM
open Go.Proofs
set_option maxRecDepth 10000
set_option maxHeartbeats 4000000

structure CWorld where
  u1 : D
  u2 : D
  u3 : D
  u4 : D
  u5 : D
  u6 : D
  u7 : D
  u8 : D
  u9 : D
  u10 : D
  facts : List Fact
def CWorld.d (w : CWorld) : D := .agg [w.u1, w.u2, w.u3, w.u4, w.u5, w.u6, w.u7, w.u8, w.u9, w.u10, SL 8 (w.facts.map Fact.d)]
structure Corr where
  kind : Int
  subj : Int
  obj : Int
  value : Int
  from_ : Int
  to_ : Int
deriving DecidableEq
def Corr.d (c : Corr) : D := .agg [I c.kind, I c.subj, I c.obj, I c.value, I c.from_, I c.to_]
abbrev Corr.key (c : Corr) : Key := ⟨c.kind, c.subj, c.obj⟩
def Corr.ok (c : Corr) : Prop := (0 ≤ c.kind ∧ c.kind ≤ 8) ∧ (0 ≤ c.subj ∧ c.subj ≤ 4095) ∧ (0 ≤ c.obj ∧ c.obj ≤ 1023) ∧ (-1 ≤ c.value ∧ c.value ≤ 1048576) ∧ 0 ≤ c.from_ ∧ c.from_ < c.to_ ∧ c.to_ ≤ 1024
instance (c : Corr) : Decidable c.ok := by unfold Corr.ok; infer_instance
theorem corr_between (n lo hi : Int) : CallP Try.prog 23 [.d (I n), .d (I lo), .d (I hi)] (retD [.b (decide (lo ≤ n ∧ n ≤ hi))]) := by
  refine exPure_sound (E := envOf Try.prog tt Try.f23.ntmps) (envOf_ok ttok mixed) Try.func23 (by rfl) rfl rfl (Nat.le_of_ble_eq_true rfl) ?_
  repeat' ((conv => whnf); first | with_reducible refine Dec.t (show true = true from rfl) ?_ | with_reducible refine Dec.t (show false = false from rfl) ?_ | with_reducible refine Dec.f (show ¬ (true = false) by decide) ?_ | with_reducible refine Dec.f (show ¬ (false = true) by decide) ?_ | refine Dec.t (by omega) ?_ | refine Dec.f (by omega) ?_ | refine Dec.split (fun _ => ?_) (fun _ => ?_) | refine Wr.id (by omega) ?_ | refine Chk.mk (by first | omega | exact rfl | (simp only [List.length_map]; omega) | (simp [room]; done) | (simp [room]; omega) | (simp [dropL, room]; done) | (simp [dropL, room]; omega)) ?_ | refine Nam.mk (List.length_map _) ?_ | refine Prep.skip ?_ | refine Eith.l ?_ | refine chk_t (x := D.flat _) (by assumption) ?_ | refine br_mk (fun _ => ?_) (fun _ => ?_) | fail)
  all_goals (conv => whnf)
  all_goals first | (rw [decide_eq_true (by omega)]; exact DLe.refl _) | (rw [decide_eq_false (by omega)]; exact DLe.refl _)
theorem corr_valid (c : Corr) : CallP Try.prog 22 [.d c.d] (retD [.b (decide c.ok)]) := by
  refine exPure_sound (E := envOf Try.prog tt Try.f22.ntmps) (envOf_ok ttok mixed) Try.func22 (by rfl) rfl rfl (Nat.le_of_ble_eq_true rfl) ?_
  repeat' ((conv => whnf); first | with_reducible refine Dec.t (show true = true from rfl) ?_ | with_reducible refine Dec.t (show false = false from rfl) ?_ | with_reducible refine Dec.f (show ¬ (true = false) by decide) ?_ | with_reducible refine Dec.f (show ¬ (false = true) by decide) ?_ | refine Dec.t (by omega) ?_ | refine Dec.f (by omega) ?_ | refine Dec.split (fun _ => ?_) (fun _ => ?_) | refine Wr.id (by omega) ?_ | refine Chk.mk (by first | omega | exact rfl | (simp only [List.length_map]; omega) | (simp [room]; done) | (simp [room]; omega) | (simp [dropL, room]; done) | (simp [dropL, room]; omega)) ?_ | refine Nam.mk (List.length_map _) ?_ | refine Prep.skip ?_ | refine Eith.l ?_ | refine chk_t (x := D.flat _) (by assumption) ?_ | refine br_mk (fun _ => ?_) (fun _ => ?_) | refine ACall.ofB (corr_between _ _ _) (fun _ => ?_) (fun _ => ?_) | fail)
  all_goals (conv => whnf)
  all_goals try simp only [decide_eq_true_eq, decide_eq_false_iff_not] at *
  all_goals first | (rw [decide_eq_true (by unfold Corr.ok; omega)]; exact DLe.refl _) | (rw [decide_eq_false (by unfold Corr.ok; omega)]; exact DLe.refl _)
theorem corr_apply1 (c : Corr) : CallP Try.prog 21 [.d c.d] (retD [.b (decide (¬ c.ok))]) := by
  refine exPure_sound (E := envOf Try.prog tt Try.f21.ntmps) (envOf_ok ttok mixed) Try.func21 (by rfl) rfl rfl (Nat.le_of_ble_eq_true rfl) ?_
  repeat' ((conv => whnf); first | with_reducible refine Dec.t (show true = true from rfl) ?_ | with_reducible refine Dec.t (show false = false from rfl) ?_ | with_reducible refine Dec.f (show ¬ (true = false) by decide) ?_ | with_reducible refine Dec.f (show ¬ (false = true) by decide) ?_ | refine Dec.t (by omega) ?_ | refine Dec.f (by omega) ?_ | refine Dec.split (fun _ => ?_) (fun _ => ?_) | refine Wr.id (by omega) ?_ | refine Chk.mk (by first | omega | exact rfl | (simp only [List.length_map]; omega) | (simp [room]; done) | (simp [room]; omega) | (simp [dropL, room]; done) | (simp [dropL, room]; omega)) ?_ | refine Nam.mk (List.length_map _) ?_ | refine Prep.skip ?_ | refine Eith.l ?_ | refine chk_t (x := D.flat _) (by assumption) ?_ | refine br_mk (fun _ => ?_) (fun _ => ?_) | refine ACall.ofB (corr_valid c) (fun _ => ?_) (fun _ => ?_) | fail)
  all_goals (conv => whnf)
  all_goals try simp only [decide_eq_true_eq, decide_eq_false_iff_not] at *
  all_goals first | (rw [decide_eq_true (by assumption)]; exact DLe.refl _) | (rw [decide_eq_false (by first | assumption | (intro hh; exact hh (by assumption)))]; exact DLe.refl _)
theorem ref41_in (n lo hi : Int) : CallP Try.prog 39 [.d (I n), .d (I lo), .d (I hi)] (retD [.b (decide (lo ≤ n ∧ n ≤ hi))]) := by
  refine exPure_sound (E := envOf Try.prog tt Try.f39.ntmps) (envOf_ok ttok mixed) Try.func39 (by rfl) rfl rfl (Nat.le_of_ble_eq_true rfl) ?_
  repeat' ((conv => whnf); first | with_reducible refine Dec.t (show true = true from rfl) ?_ | with_reducible refine Dec.t (show false = false from rfl) ?_ | with_reducible refine Dec.f (show ¬ (true = false) by decide) ?_ | with_reducible refine Dec.f (show ¬ (false = true) by decide) ?_ | refine Dec.t (by omega) ?_ | refine Dec.f (by omega) ?_ | refine Dec.split (fun _ => ?_) (fun _ => ?_) | refine Wr.id (by omega) ?_ | refine Chk.mk (by first | omega | exact rfl | (simp only [List.length_map]; omega) | (simp [room]; done) | (simp [room]; omega) | (simp [dropL, room]; done) | (simp [dropL, room]; omega)) ?_ | refine Nam.mk (List.length_map _) ?_ | refine Prep.skip ?_ | refine Eith.l ?_ | refine chk_t (x := D.flat _) (by assumption) ?_ | refine br_mk (fun _ => ?_) (fun _ => ?_) | fail)
  all_goals (conv => whnf)
  all_goals first | (rw [decide_eq_true (by omega)]; exact DLe.refl _) | (rw [decide_eq_false (by omega)]; exact DLe.refl _)
theorem ref41_Valid (c : Corr) : CallP Try.prog 29 [.d c.d] (retD [.b (decide c.ok)]) := by
  refine exPure_sound (E := envOf Try.prog tt Try.f29.ntmps) (envOf_ok ttok mixed) Try.func29 (by rfl) rfl rfl (Nat.le_of_ble_eq_true rfl) ?_
  repeat' ((conv => whnf); first | with_reducible refine Dec.t (show true = true from rfl) ?_ | with_reducible refine Dec.t (show false = false from rfl) ?_ | with_reducible refine Dec.f (show ¬ (true = false) by decide) ?_ | with_reducible refine Dec.f (show ¬ (false = true) by decide) ?_ | refine Dec.t (by omega) ?_ | refine Dec.f (by omega) ?_ | refine Dec.split (fun _ => ?_) (fun _ => ?_) | refine Wr.id (by omega) ?_ | refine Chk.mk (by first | omega | exact rfl | (simp only [List.length_map]; omega) | (simp [room]; done) | (simp [room]; omega) | (simp [dropL, room]; done) | (simp [dropL, room]; omega)) ?_ | refine Nam.mk (List.length_map _) ?_ | refine Prep.skip ?_ | refine Eith.l ?_ | refine chk_t (x := D.flat _) (by assumption) ?_ | refine br_mk (fun _ => ?_) (fun _ => ?_) | refine ACall.ofB (ref41_in _ _ _) (fun _ => ?_) (fun _ => ?_) | fail)
  all_goals (conv => whnf)
  all_goals try simp only [decide_eq_true_eq, decide_eq_false_iff_not] at *
  all_goals first | (rw [decide_eq_true (by unfold Corr.ok; omega)]; exact DLe.refl _) | (rw [decide_eq_false (by unfold Corr.ok; omega)]; exact DLe.refl _)
end Go.PM

