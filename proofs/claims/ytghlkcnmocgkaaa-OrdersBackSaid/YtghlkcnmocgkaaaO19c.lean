/- Package options: Config. -/
import Derived.Test.YtghlkcnmocgkaaaO19b
namespace Go.PM
open Go.Proofs
set_option maxRecDepth 10000
set_option maxHeartbeats 4000000

def digM : Nat → Int → List Int
  | 0, _ => []
  | k + 1, n => digM k (n.tdiv 4) ++ [n.tmod 4]
def restM : Nat → Int → Int
  | 0, n => n
  | k + 1, n => restM k (n.tdiv 4)
def configM (s : Src) (n : Int) : Option (List Int) := if s.ok ∧ 0 ≤ n ∧ restM s.opts.length n = 0 ∧ cfgM s (digM s.opts.length n) then some (digM s.opts.length n) else none
def cfgR : Option (List Int) → List D
  | some c => [SL 1 (c.map I), I 0]
  | none => [SL 1 [], I 130]
theorem len3 {α : Type} : ∀ {l : List α}, l.length ≤ 3 → l = [] ∨ (∃ a, l = [a]) ∨ (∃ a b, l = [a, b]) ∨ ∃ a b c, l = [a, b, c]
  | [], _ => .inl rfl
  | [a], _ => .inr (.inl ⟨a, rfl⟩)
  | [a, b], _ => .inr (.inr (.inl ⟨a, b, rfl⟩))
  | [a, b, c], _ => .inr (.inr (.inr ⟨a, b, c, rfl⟩))
  | _ :: _ :: _ :: _ :: _, h => by simp at h
theorem td_rng {n : Int} (h : 0 ≤ n ∧ n < 9223372036854775808) : 0 ≤ n.tdiv 4 ∧ n.tdiv 4 < 9223372036854775808 := by
  rw [Int.tdiv_eq_ediv_of_nonneg h.1]; omega

theorem options_Config (s : Src) (n : Int) (hf : s.few) (hN : n < 9223372036854775808) : CallP Try.prog 80 [.d s.d, .d (I n)] (retD (cfgR (configM s n))) := by
  have hf0 := hf
  obtain ⟨hf1, hf2, hf3⟩ := hf
  have hv := options_valid s (by omega)
  have hV : ∀ c : List Int, c.length < 2 ^ 40 → CallP Try.prog 87 [.d s.d, .d (SL 1 (c.map I))] (retD [.b (decide (cfgM s c))]) := fun c hc => options_Valid s c hf0 hc
  by_cases hok : s.ok
  · by_cases hn : 0 ≤ n
    · have e : configM s n = if restM s.opts.length n = 0 ∧ cfgM s (digM s.opts.length n) then some (digM s.opts.length n) else none := by
        unfold configM; simp only [hok, hn, true_and]
      rw [e]
      clear e
      have d1 := td_rng ⟨hn, hN⟩
      have d2 := td_rng d1
      have d3 := td_rng d2
      have d4 := td_rng d3
      have hl3 := len3 hf1
      clear hf1 hf2 hf3 hf0
      obtain ⟨u1, items, plants, u4, opts, forbids, u7, u8⟩ := s
      simp only at hl3
      rcases hl3 with rfl | ⟨a, rfl⟩ | ⟨a, b, rfl⟩ | ⟨a, b, c, rfl⟩
      · refine exPure_sound (E := envOf Try.prog tt Try.f80.ntmps) (envOf_ok ttok mixed) Try.func80 (by rfl) rfl rfl (Nat.le_of_ble_eq_true rfl) ?_
        repeat' ((conv => whnf); first | refine Nam.mk (y := 0) rfl ?_ | with_reducible refine Dec.t (show true = true from rfl) ?_ | with_reducible refine Dec.t (show false = false from rfl) ?_ | with_reducible refine Dec.f (show ¬ (true = false) by decide) ?_ | with_reducible refine Dec.f (show ¬ (false = true) by decide) ?_ | refine Dec.t (by omega) ?_ | refine Dec.f (by omega) ?_ | refine Dec.split (fun _ => ?_) (fun _ => ?_) | refine Wr.id (by omega) ?_ | refine Chk.mk (by first | omega | exact rfl | (simp only [List.length_map]; omega) | (simp [room]; done) | (simp [room]; omega) | (simp [dropL, room]; done) | (simp [dropL, room]; omega)) ?_ | refine Nam.mk (List.length_map _) ?_ | refine Prep.skip ?_ | refine Eith.l ?_ | refine chk_t (x := D.flat _) (by assumption) ?_ | refine br_mk (fun _ => ?_) (fun _ => ?_) | refine Nam.mk rfl ?_ | refine ACall.ofB hv (fun _ => ?_) (fun h => absurd hok (of_decide_eq_false h)) | refine ACall.ofB (hV (digM 0 n) (by simp [digM])) (fun _ => ?_) (fun _ => ?_) | refine Nam.mk (y := (digM 0 n).map I) rfl ?_ | refine ALoop.rounds 5 ?_ | refine ALoopN.step (E := (envOf Try.prog tt Try.f80.ntmps)) (envOf_ok ttok mixed) ?_ | refine ACall.lift ?_ | fail)
        all_goals (conv => whnf)
        all_goals try simp only [decide_eq_true_eq, decide_eq_false_iff_not] at *
        all_goals first
          | (rw [if_pos ⟨by assumption, by assumption⟩]; exact (by repeat (first | exact trivial | exact rfl | exact DLe.refl _ | exact DLe.full _ _ _ | exact DLe.nil _ _ _ | exact VLe.refl _ | refine And.intro ?_ ?_ | refine VLe.d ?_ | refine DLe.agg ?_)))
          | (rw [if_neg (fun h => absurd h.1 (by assumption))]; exact (by repeat (first | exact trivial | exact rfl | exact DLe.refl _ | exact DLe.full _ _ _ | exact DLe.nil _ _ _ | exact VLe.refl _ | refine And.intro ?_ ?_ | refine VLe.d ?_ | refine DLe.agg ?_)))
          | (rw [if_neg (fun h => absurd h.2 (by assumption))]; exact (by repeat (first | exact trivial | exact rfl | exact DLe.refl _ | exact DLe.full _ _ _ | exact DLe.nil _ _ _ | exact VLe.refl _ | refine And.intro ?_ ?_ | refine VLe.d ?_ | refine DLe.agg ?_)))
          | trace_state
      · refine exPure_sound (E := envOf Try.prog tt Try.f80.ntmps) (envOf_ok ttok mixed) Try.func80 (by rfl) rfl rfl (Nat.le_of_ble_eq_true rfl) ?_
        repeat' ((conv => whnf); first | refine Nam.mk (y := 1) rfl ?_ | with_reducible refine Dec.t (show true = true from rfl) ?_ | with_reducible refine Dec.t (show false = false from rfl) ?_ | with_reducible refine Dec.f (show ¬ (true = false) by decide) ?_ | with_reducible refine Dec.f (show ¬ (false = true) by decide) ?_ | refine Dec.t (by omega) ?_ | refine Dec.f (by omega) ?_ | refine Dec.split (fun _ => ?_) (fun _ => ?_) | refine Wr.id (by omega) ?_ | refine Chk.mk (by first | omega | exact rfl | (simp only [List.length_map]; omega) | (simp [room]; done) | (simp [room]; omega) | (simp [dropL, room]; done) | (simp [dropL, room]; omega)) ?_ | refine Nam.mk (List.length_map _) ?_ | refine Prep.skip ?_ | refine Eith.l ?_ | refine chk_t (x := D.flat _) (by assumption) ?_ | refine br_mk (fun _ => ?_) (fun _ => ?_) | refine Nam.mk rfl ?_ | refine ACall.ofB hv (fun _ => ?_) (fun h => absurd hok (of_decide_eq_false h)) | refine ACall.ofB (hV (digM 1 n) (by simp [digM])) (fun _ => ?_) (fun _ => ?_) | refine Nam.mk (y := (digM 1 n).map I) rfl ?_ | refine ALoop.rounds 5 ?_ | refine ALoopN.step (E := (envOf Try.prog tt Try.f80.ntmps)) (envOf_ok ttok mixed) ?_ | refine ACall.lift ?_ | fail)
        all_goals (conv => whnf)
        all_goals try simp only [decide_eq_true_eq, decide_eq_false_iff_not] at *
        all_goals first
          | (rw [if_pos ⟨by assumption, by assumption⟩]; exact (by repeat (first | exact trivial | exact rfl | exact DLe.refl _ | exact DLe.full _ _ _ | exact DLe.nil _ _ _ | exact VLe.refl _ | refine And.intro ?_ ?_ | refine VLe.d ?_ | refine DLe.agg ?_)))
          | (rw [if_neg (fun h => absurd h.1 (by assumption))]; exact (by repeat (first | exact trivial | exact rfl | exact DLe.refl _ | exact DLe.full _ _ _ | exact DLe.nil _ _ _ | exact VLe.refl _ | refine And.intro ?_ ?_ | refine VLe.d ?_ | refine DLe.agg ?_)))
          | (rw [if_neg (fun h => absurd h.2 (by assumption))]; exact (by repeat (first | exact trivial | exact rfl | exact DLe.refl _ | exact DLe.full _ _ _ | exact DLe.nil _ _ _ | exact VLe.refl _ | refine And.intro ?_ ?_ | refine VLe.d ?_ | refine DLe.agg ?_)))
          | trace_state
      · refine exPure_sound (E := envOf Try.prog tt Try.f80.ntmps) (envOf_ok ttok mixed) Try.func80 (by rfl) rfl rfl (Nat.le_of_ble_eq_true rfl) ?_
        repeat' ((conv => whnf); first | refine Nam.mk (y := 2) rfl ?_ | with_reducible refine Dec.t (show true = true from rfl) ?_ | with_reducible refine Dec.t (show false = false from rfl) ?_ | with_reducible refine Dec.f (show ¬ (true = false) by decide) ?_ | with_reducible refine Dec.f (show ¬ (false = true) by decide) ?_ | refine Dec.t (by omega) ?_ | refine Dec.f (by omega) ?_ | refine Dec.split (fun _ => ?_) (fun _ => ?_) | refine Wr.id (by omega) ?_ | refine Chk.mk (by first | omega | exact rfl | (simp only [List.length_map]; omega) | (simp [room]; done) | (simp [room]; omega) | (simp [dropL, room]; done) | (simp [dropL, room]; omega)) ?_ | refine Nam.mk (List.length_map _) ?_ | refine Prep.skip ?_ | refine Eith.l ?_ | refine chk_t (x := D.flat _) (by assumption) ?_ | refine br_mk (fun _ => ?_) (fun _ => ?_) | refine Nam.mk rfl ?_ | refine ACall.ofB hv (fun _ => ?_) (fun h => absurd hok (of_decide_eq_false h)) | refine ACall.ofB (hV (digM 2 n) (by simp [digM])) (fun _ => ?_) (fun _ => ?_) | refine Nam.mk (y := (digM 2 n).map I) rfl ?_ | refine ALoop.rounds 5 ?_ | refine ALoopN.step (E := (envOf Try.prog tt Try.f80.ntmps)) (envOf_ok ttok mixed) ?_ | refine ACall.lift ?_ | fail)
        all_goals (conv => whnf)
        all_goals try simp only [decide_eq_true_eq, decide_eq_false_iff_not] at *
        all_goals first
          | (rw [if_pos ⟨by assumption, by assumption⟩]; exact (by repeat (first | exact trivial | exact rfl | exact DLe.refl _ | exact DLe.full _ _ _ | exact DLe.nil _ _ _ | exact VLe.refl _ | refine And.intro ?_ ?_ | refine VLe.d ?_ | refine DLe.agg ?_)))
          | (rw [if_neg (fun h => absurd h.1 (by assumption))]; exact (by repeat (first | exact trivial | exact rfl | exact DLe.refl _ | exact DLe.full _ _ _ | exact DLe.nil _ _ _ | exact VLe.refl _ | refine And.intro ?_ ?_ | refine VLe.d ?_ | refine DLe.agg ?_)))
          | (rw [if_neg (fun h => absurd h.2 (by assumption))]; exact (by repeat (first | exact trivial | exact rfl | exact DLe.refl _ | exact DLe.full _ _ _ | exact DLe.nil _ _ _ | exact VLe.refl _ | refine And.intro ?_ ?_ | refine VLe.d ?_ | refine DLe.agg ?_)))
          | trace_state
      · refine exPure_sound (E := envOf Try.prog tt Try.f80.ntmps) (envOf_ok ttok mixed) Try.func80 (by rfl) rfl rfl (Nat.le_of_ble_eq_true rfl) ?_
        repeat' ((conv => whnf); first | refine Nam.mk (y := 3) rfl ?_ | with_reducible refine Dec.t (show true = true from rfl) ?_ | with_reducible refine Dec.t (show false = false from rfl) ?_ | with_reducible refine Dec.f (show ¬ (true = false) by decide) ?_ | with_reducible refine Dec.f (show ¬ (false = true) by decide) ?_ | refine Dec.t (by omega) ?_ | refine Dec.f (by omega) ?_ | refine Dec.split (fun _ => ?_) (fun _ => ?_) | refine Wr.id (by omega) ?_ | refine Chk.mk (by first | omega | exact rfl | (simp only [List.length_map]; omega) | (simp [room]; done) | (simp [room]; omega) | (simp [dropL, room]; done) | (simp [dropL, room]; omega)) ?_ | refine Nam.mk (List.length_map _) ?_ | refine Prep.skip ?_ | refine Eith.l ?_ | refine chk_t (x := D.flat _) (by assumption) ?_ | refine br_mk (fun _ => ?_) (fun _ => ?_) | refine Nam.mk rfl ?_ | refine ACall.ofB hv (fun _ => ?_) (fun h => absurd hok (of_decide_eq_false h)) | refine ACall.ofB (hV (digM 3 n) (by simp [digM])) (fun _ => ?_) (fun _ => ?_) | refine Nam.mk (y := (digM 3 n).map I) rfl ?_ | refine ALoop.rounds 5 ?_ | refine ALoopN.step (E := (envOf Try.prog tt Try.f80.ntmps)) (envOf_ok ttok mixed) ?_ | refine ACall.lift ?_ | fail)
        all_goals (conv => whnf)
        all_goals try simp only [decide_eq_true_eq, decide_eq_false_iff_not] at *
        all_goals first
          | (rw [if_pos ⟨by assumption, by assumption⟩]; exact (by repeat (first | exact trivial | exact rfl | exact DLe.refl _ | exact DLe.full _ _ _ | exact DLe.nil _ _ _ | exact VLe.refl _ | refine And.intro ?_ ?_ | refine VLe.d ?_ | refine DLe.agg ?_)))
          | (rw [if_neg (fun h => absurd h.1 (by assumption))]; exact (by repeat (first | exact trivial | exact rfl | exact DLe.refl _ | exact DLe.full _ _ _ | exact DLe.nil _ _ _ | exact VLe.refl _ | refine And.intro ?_ ?_ | refine VLe.d ?_ | refine DLe.agg ?_)))
          | (rw [if_neg (fun h => absurd h.2 (by assumption))]; exact (by repeat (first | exact trivial | exact rfl | exact DLe.refl _ | exact DLe.full _ _ _ | exact DLe.nil _ _ _ | exact VLe.refl _ | refine And.intro ?_ ?_ | refine VLe.d ?_ | refine DLe.agg ?_)))
          | trace_state
    · have e : configM s n = none := by unfold configM; exact if_neg fun h => hn h.2.1
      rw [e]
      refine exPure_sound (E := envOf Try.prog tt Try.f80.ntmps) (envOf_ok ttok mixed) Try.func80 (by rfl) rfl rfl (Nat.le_of_ble_eq_true rfl) ?_
      repeat' ((conv => whnf); first | with_reducible refine Dec.t (show true = true from rfl) ?_ | with_reducible refine Dec.t (show false = false from rfl) ?_ | with_reducible refine Dec.f (show ¬ (true = false) by decide) ?_ | with_reducible refine Dec.f (show ¬ (false = true) by decide) ?_ | refine Dec.t (by omega) ?_ | refine Dec.f (by omega) ?_ | refine Dec.split (fun _ => ?_) (fun _ => ?_) | refine Wr.id (by omega) ?_ | refine Chk.mk (by first | omega | exact rfl | (simp only [List.length_map]; omega) | (simp [room]; done) | (simp [room]; omega) | (simp [dropL, room]; done) | (simp [dropL, room]; omega)) ?_ | refine Nam.mk (List.length_map _) ?_ | refine Prep.skip ?_ | refine Eith.l ?_ | refine chk_t (x := D.flat _) (by assumption) ?_ | refine br_mk (fun _ => ?_) (fun _ => ?_) | refine ACall.ofB hv (fun _ => ?_) (fun h => absurd hok (of_decide_eq_false h)) | fail)
      all_goals (conv => whnf)
      all_goals exact (by repeat (first | exact trivial | exact rfl | exact DLe.refl _ | exact DLe.full _ _ _ | exact DLe.nil _ _ _ | exact VLe.refl _ | refine And.intro ?_ ?_ | refine VLe.d ?_ | refine DLe.agg ?_))
  · have e : configM s n = none := by unfold configM; exact if_neg fun h => hok h.1
    rw [e]
    refine exPure_sound (E := envOf Try.prog tt Try.f80.ntmps) (envOf_ok ttok mixed) Try.func80 (by rfl) rfl rfl (Nat.le_of_ble_eq_true rfl) ?_
    repeat' ((conv => whnf); first | with_reducible refine Dec.t (show true = true from rfl) ?_ | with_reducible refine Dec.t (show false = false from rfl) ?_ | with_reducible refine Dec.f (show ¬ (true = false) by decide) ?_ | with_reducible refine Dec.f (show ¬ (false = true) by decide) ?_ | refine Dec.t (by omega) ?_ | refine Dec.f (by omega) ?_ | refine Dec.split (fun _ => ?_) (fun _ => ?_) | refine Wr.id (by omega) ?_ | refine Chk.mk (by first | omega | exact rfl | (simp only [List.length_map]; omega) | (simp [room]; done) | (simp [room]; omega) | (simp [dropL, room]; done) | (simp [dropL, room]; omega)) ?_ | refine Nam.mk (List.length_map _) ?_ | refine Prep.skip ?_ | refine Eith.l ?_ | refine chk_t (x := D.flat _) (by assumption) ?_ | refine br_mk (fun _ => ?_) (fun _ => ?_) | refine ACall.ofB hv (fun h => absurd (of_decide_eq_true h) hok) (fun _ => ?_) | fail)
    all_goals (conv => whnf)
    all_goals exact (by repeat (first | exact trivial | exact rfl | exact DLe.refl _ | exact DLe.full _ _ _ | exact DLe.nil _ _ _ | exact VLe.refl _ | refine And.intro ?_ ?_ | refine VLe.d ?_ | refine DLe.agg ?_))
end Go.PM

