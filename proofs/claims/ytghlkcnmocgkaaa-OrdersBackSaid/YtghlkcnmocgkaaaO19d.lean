/- The reference of package options: Valid, digits, code. -/
import Derived.Test.YtghlkcnmocgkaaaO19c
namespace Go.PM
open Go.Proofs
set_option maxRecDepth 10000
set_option maxHeartbeats 4000000

theorem ref13_Valid (s : Src) (c : List Int) (hf : s.few) (hc : c.length < 2 ^ 40) : CallP Try.prog 90 [.d s.d, .d (SL 1 (c.map I))] (retD [.b (decide (cfgM s c))]) := by
  have hf0 := hf
  obtain ⟨hf1, hf2, hf3⟩ := hf
  refine exPure_sound (E := envOf Try.prog tt Try.f90.ntmps) (envOf_ok ttok mixed) Try.func90 (by rfl) rfl rfl (Nat.le_of_ble_eq_true rfl) ?_
  by_cases hok : s.ok
  · by_cases hlen : c.length = s.opts.length
    · repeat' ((conv => whnf); first | with_reducible refine Dec.t (show true = true from rfl) ?_ | with_reducible refine Dec.t (show false = false from rfl) ?_ | with_reducible refine Dec.f (show ¬ (true = false) by decide) ?_ | with_reducible refine Dec.f (show ¬ (false = true) by decide) ?_ | refine Dec.t (by omega) ?_ | refine Dec.f (by omega) ?_ | refine Dec.split (fun _ => ?_) (fun _ => ?_) | refine Wr.id (by omega) ?_ | refine Chk.mk (by first | omega | exact rfl | (simp only [List.length_map]; omega) | (simp [room]; done) | (simp [room]; omega) | (simp [dropL, room]; done) | (simp [dropL, room]; omega)) ?_ | refine Nam.mk (List.length_map _) ?_ | refine Prep.skip ?_ | refine Eith.l ?_ | refine chk_t (x := D.flat _) (by assumption) ?_ | refine br_mk (fun _ => ?_) (fun _ => ?_) | refine Nam.mk rfl ?_ | refine ACall.ofB (ref13_options s (by omega)) (fun _ => ?_) (fun h => absurd hok (of_decide_eq_false h)) | fail)
      all_goals (conv => whnf)
      refine ALoop.at (E := envOf Try.prog tt Try.f90.ntmps) (envOf_ok ttok mixed) (X := Nat) (fun i => [(5, .d (I i))]) (fun _ => []) (fun i => i ≤ c.length ∧ ∀ p ∈ (c.zip s.opts).take i, 0 ≤ p.1 ∧ p.1 < p.2.ch.length) (fun i => c.length - i) 0 (by repeat (first | exact trivial | refine And.intro rfl ?_ | refine And.intro (congrArg (fun n => V.d (I n)) (wrap_nat _ (by omega))) ?_)) rfl ⟨Nat.zero_le _, by simp⟩ ?_
      rintro i ⟨hi, hm⟩
      by_cases hlt : i < c.length
      · obtain ⟨x, hx, hd⟩ := drop_get hlt
        obtain ⟨y, hy, _⟩ := drop_get (l := s.opts) (i := i) (by omega)
        have hz := zip_get hx hy
        have hmem := List.mem_of_getElem? hz
        repeat' ((conv => whnf); first | with_reducible refine Dec.t (show true = true from rfl) ?_ | with_reducible refine Dec.t (show false = false from rfl) ?_ | with_reducible refine Dec.f (show ¬ (true = false) by decide) ?_ | with_reducible refine Dec.f (show ¬ (false = true) by decide) ?_ | refine Dec.t (by omega) ?_ | refine Dec.f (by omega) ?_ | refine Dec.split (fun _ => ?_) (fun _ => ?_) | refine Wr.id (by omega) ?_ | refine Chk.mk (by first | omega | exact rfl | (simp only [List.length_map]; omega) | (simp [room]; done) | (simp [room]; omega) | (simp [dropL, room]; done) | (simp [dropL, room]; omega)) ?_ | refine Nam.mk (List.length_map _) ?_ | refine Prep.skip ?_ | refine Eith.l ?_ | refine chk_t (x := D.flat _) (by assumption) ?_ | refine br_mk (fun _ => ?_) (fun _ => ?_) | refine nthK_mk (map_get hx) ?_ | refine nthK_mk (map_get hy) ?_ | refine Nam.mk rfl ?_ | fail)
        all_goals (conv => whnf)
        all_goals first
          | (rw [decide_eq_false (fun h => by have := h.2.2.1 _ hmem; simp only at this; omega)]; exact (by repeat (first | exact trivial | exact rfl | exact DLe.refl _ | exact DLe.full _ _ _ | exact DLe.nil _ _ _ | exact VLe.refl _ | refine And.intro ?_ ?_ | refine VLe.d ?_ | refine DLe.agg ?_)))
          | (refine ⟨i + 1, Wm.end (by repeat (first | exact trivial | refine And.intro rfl ?_ | refine And.intro (congrArg (fun n => V.d (I n)) (wrap_nat _ (by omega))) ?_)) rfl rfl rfl, ⟨hlt, fun o ho => ?_⟩, by omega⟩
             rw [List.take_add_one, hz] at ho
             simp only [Option.toList_some, List.mem_append, List.mem_singleton] at ho
             rcases ho with ho | ho
             · exact hm o ho
             · rw [ho]; simp only; omega)
          | trace_state
      · have : i = c.length := by omega
        subst this
        rw [List.take_of_length_le (by simp; omega)] at hm
        have hr : rangeM s c := hm
        clear hm hi hlt
        repeat' ((conv => whnf); first | with_reducible refine Dec.t (show true = true from rfl) ?_ | with_reducible refine Dec.t (show false = false from rfl) ?_ | with_reducible refine Dec.f (show ¬ (true = false) by decide) ?_ | with_reducible refine Dec.f (show ¬ (false = true) by decide) ?_ | refine Dec.t (by omega) ?_ | refine Dec.f (by omega) ?_ | refine Dec.split (fun _ => ?_) (fun _ => ?_) | refine Wr.id (by omega) ?_ | refine Chk.mk (by first | omega | exact rfl | (simp only [List.length_map]; omega) | (simp [room]; done) | (simp [room]; omega) | (simp [dropL, room]; done) | (simp [dropL, room]; omega)) ?_ | refine Nam.mk (List.length_map _) ?_ | refine Prep.skip ?_ | refine Eith.l ?_ | refine chk_t (x := D.flat _) (by assumption) ?_ | refine br_mk (fun _ => ?_) (fun _ => ?_) | refine Nam.mk rfl ?_ | fail)
        all_goals (conv => whnf)
        refine ALoop.at (E := envOf Try.prog tt Try.f90.ntmps) (envOf_ok ttok mixed) (X := Nat) (fun i => [(6, .d (I i))]) (fun _ => []) (fun i => i ≤ s.forbids.length ∧ ∀ l ∈ s.forbids.take i, ¬ holdM l c) (fun i => s.forbids.length - i) 0 (by repeat (first | exact trivial | refine And.intro rfl ?_ | refine And.intro (congrArg (fun n => V.d (I n)) (wrap_nat _ (by omega))) ?_)) rfl ⟨Nat.zero_le _, by simp⟩ ?_
        rintro i ⟨hi, hm⟩
        by_cases hlt : i < s.forbids.length
        · obtain ⟨x, hx, hd⟩ := drop_get hlt
          have hmem : x ∈ s.forbids := List.mem_of_getElem? hx
          repeat' ((conv => whnf); first | with_reducible refine Dec.t (show true = true from rfl) ?_ | with_reducible refine Dec.t (show false = false from rfl) ?_ | with_reducible refine Dec.f (show ¬ (true = false) by decide) ?_ | with_reducible refine Dec.f (show ¬ (false = true) by decide) ?_ | refine Dec.t (by omega) ?_ | refine Dec.f (by omega) ?_ | refine Dec.split (fun _ => ?_) (fun _ => ?_) | refine Wr.id (by omega) ?_ | refine Chk.mk (by first | omega | exact rfl | (simp only [List.length_map]; omega) | (simp [room]; done) | (simp [room]; omega) | (simp [dropL, room]; done) | (simp [dropL, room]; omega)) ?_ | refine Nam.mk (List.length_map _) ?_ | refine Prep.skip ?_ | refine Eith.l ?_ | refine chk_t (x := D.flat _) (by assumption) ?_ | refine br_mk (fun _ => ?_) (fun _ => ?_) | refine nthK_mk (map_get hx) ?_ | refine Nam.mk rfl ?_ | refine ACall.ofB (ref13_hold x c (by have := hf3 x hmem; omega) hc) (fun _ => ?_) (fun _ => ?_) | refine APCall.ofB (ref13_hold x c (by have := hf3 x hmem; omega) hc) (fun _ => ?_) (fun _ => ?_) | fail)
          all_goals (conv => whnf)
          all_goals try simp only [decide_eq_true_eq, decide_eq_false_iff_not] at *
          all_goals first
            | (rw [decide_eq_false (fun h => h.2.2.2 x hmem (by assumption))]; exact (by repeat (first | exact trivial | exact rfl | exact DLe.refl _ | exact DLe.full _ _ _ | exact DLe.nil _ _ _ | exact VLe.refl _ | refine And.intro ?_ ?_ | refine VLe.d ?_ | refine DLe.agg ?_)))
            | (refine ⟨i + 1, Wm.end (by repeat (first | exact trivial | refine And.intro rfl ?_ | refine And.intro (congrArg (fun n => V.d (I n)) (wrap_nat _ (by omega))) ?_)) rfl rfl rfl, ⟨hlt, fun o ho => ?_⟩, by omega⟩
               rw [List.take_add_one, hx] at ho
               simp only [Option.toList_some, List.mem_append, List.mem_singleton] at ho
               rcases ho with ho | ho
               · exact hm o ho
               · rw [ho]; assumption)
            | trace_state
        · have : i = s.forbids.length := by omega
          subst this
          rw [List.take_length] at hm
          repeat' ((conv => whnf); first | with_reducible refine Dec.t (show true = true from rfl) ?_ | with_reducible refine Dec.t (show false = false from rfl) ?_ | with_reducible refine Dec.f (show ¬ (true = false) by decide) ?_ | with_reducible refine Dec.f (show ¬ (false = true) by decide) ?_ | refine Dec.t (by omega) ?_ | refine Dec.f (by omega) ?_ | refine Dec.split (fun _ => ?_) (fun _ => ?_) | refine Wr.id (by omega) ?_ | refine Chk.mk (by first | omega | exact rfl | (simp only [List.length_map]; omega) | (simp [room]; done) | (simp [room]; omega) | (simp [dropL, room]; done) | (simp [dropL, room]; omega)) ?_ | refine Nam.mk (List.length_map _) ?_ | refine Prep.skip ?_ | refine Eith.l ?_ | refine chk_t (x := D.flat _) (by assumption) ?_ | refine br_mk (fun _ => ?_) (fun _ => ?_) | fail)
          all_goals (conv => whnf)
          rw [decide_eq_true (show cfgM s c from ⟨hok, hlen, hr, hm⟩)]; exact (by repeat (first | exact trivial | exact rfl | exact DLe.refl _ | exact DLe.full _ _ _ | exact DLe.nil _ _ _ | exact VLe.refl _ | refine And.intro ?_ ?_ | refine VLe.d ?_ | refine DLe.agg ?_))
    · rw [decide_eq_false (fun h => hlen h.2.1)]
      repeat' ((conv => whnf); first | with_reducible refine Dec.t (show true = true from rfl) ?_ | with_reducible refine Dec.t (show false = false from rfl) ?_ | with_reducible refine Dec.f (show ¬ (true = false) by decide) ?_ | with_reducible refine Dec.f (show ¬ (false = true) by decide) ?_ | refine Dec.t (by omega) ?_ | refine Dec.f (by omega) ?_ | refine Dec.split (fun _ => ?_) (fun _ => ?_) | refine Wr.id (by omega) ?_ | refine Chk.mk (by first | omega | exact rfl | (simp only [List.length_map]; omega) | (simp [room]; done) | (simp [room]; omega) | (simp [dropL, room]; done) | (simp [dropL, room]; omega)) ?_ | refine Nam.mk (List.length_map _) ?_ | refine Prep.skip ?_ | refine Eith.l ?_ | refine chk_t (x := D.flat _) (by assumption) ?_ | refine br_mk (fun _ => ?_) (fun _ => ?_) | refine Nam.mk rfl ?_ | refine ACall.ofB (ref13_options s (by omega)) (fun _ => ?_) (fun h => absurd hok (of_decide_eq_false h)) | fail)
      all_goals (conv => whnf)
      all_goals exact (by repeat (first | exact trivial | exact rfl | exact DLe.refl _ | exact DLe.full _ _ _ | exact DLe.nil _ _ _ | exact VLe.refl _ | refine And.intro ?_ ?_ | refine VLe.d ?_ | refine DLe.agg ?_))
  · rw [decide_eq_false (fun h => hok h.1)]
    repeat' ((conv => whnf); first | with_reducible refine Dec.t (show true = true from rfl) ?_ | with_reducible refine Dec.t (show false = false from rfl) ?_ | with_reducible refine Dec.f (show ¬ (true = false) by decide) ?_ | with_reducible refine Dec.f (show ¬ (false = true) by decide) ?_ | refine Dec.t (by omega) ?_ | refine Dec.f (by omega) ?_ | refine Dec.split (fun _ => ?_) (fun _ => ?_) | refine Wr.id (by omega) ?_ | refine Chk.mk (by first | omega | exact rfl | (simp only [List.length_map]; omega) | (simp [room]; done) | (simp [room]; omega) | (simp [dropL, room]; done) | (simp [dropL, room]; omega)) ?_ | refine Nam.mk (List.length_map _) ?_ | refine Prep.skip ?_ | refine Eith.l ?_ | refine chk_t (x := D.flat _) (by assumption) ?_ | refine br_mk (fun _ => ?_) (fun _ => ?_) | refine Nam.mk rfl ?_ | refine ACall.ofB (ref13_options s (by omega)) (fun h => absurd (of_decide_eq_true h) hok) (fun _ => ?_) | fail)
    all_goals (conv => whnf)
    all_goals exact (by repeat (first | exact trivial | exact rfl | exact DLe.refl _ | exact DLe.full _ _ _ | exact DLe.nil _ _ _ | exact VLe.refl _ | refine And.intro ?_ ?_ | refine VLe.d ?_ | refine DLe.agg ?_))

theorem ref13_digits (k : Nat) (n : Int) (hk : k ≤ 3) (hn : 0 ≤ n) (hN : n < 9223372036854775808) : CallP Try.prog 89 [.d (I n), .d (I k)] (retD [SL 1 ((digM k n).map I)]) := by
  have d1 := td_rng ⟨hn, hN⟩
  have d2 := td_rng d1
  have d3 := td_rng d2
  have d4 := td_rng d3
  match k, hk with
  | 0, _ =>
    refine exPure_sound (E := envOf Try.prog tt Try.f89.ntmps) (envOf_ok ttok mixed) Try.func89 (by rfl) rfl rfl (Nat.le_of_ble_eq_true rfl) ?_
    repeat' ((conv => whnf); first | refine Nam.mk (y := 0) rfl ?_ | with_reducible refine Dec.t (show true = true from rfl) ?_ | with_reducible refine Dec.t (show false = false from rfl) ?_ | with_reducible refine Dec.f (show ¬ (true = false) by decide) ?_ | with_reducible refine Dec.f (show ¬ (false = true) by decide) ?_ | refine Dec.t (by omega) ?_ | refine Dec.f (by omega) ?_ | refine Dec.split (fun _ => ?_) (fun _ => ?_) | refine Wr.id (by omega) ?_ | refine Chk.mk (by first | omega | exact rfl | (simp only [List.length_map]; omega) | (simp [room]; done) | (simp [room]; omega) | (simp [dropL, room]; done) | (simp [dropL, room]; omega)) ?_ | refine Nam.mk (List.length_map _) ?_ | refine Prep.skip ?_ | refine Eith.l ?_ | refine chk_t (x := D.flat _) (by assumption) ?_ | refine br_mk (fun _ => ?_) (fun _ => ?_) | refine Nam.mk (y := (digM 0 n).map I) rfl ?_ | refine ALoop.rounds 5 ?_ | refine ALoopN.step (E := (envOf Try.prog tt Try.f89.ntmps)) (envOf_ok ttok mixed) ?_ | fail)
    all_goals (conv => whnf)
    all_goals exact (by repeat (first | exact trivial | exact rfl | exact DLe.refl _ | exact DLe.full _ _ _ | exact DLe.nil _ _ _ | exact VLe.refl _ | refine And.intro ?_ ?_ | refine VLe.d ?_ | refine DLe.agg ?_))
  | 1, _ =>
    refine exPure_sound (E := envOf Try.prog tt Try.f89.ntmps) (envOf_ok ttok mixed) Try.func89 (by rfl) rfl rfl (Nat.le_of_ble_eq_true rfl) ?_
    repeat' ((conv => whnf); first | refine Nam.mk (y := 1) rfl ?_ | with_reducible refine Dec.t (show true = true from rfl) ?_ | with_reducible refine Dec.t (show false = false from rfl) ?_ | with_reducible refine Dec.f (show ¬ (true = false) by decide) ?_ | with_reducible refine Dec.f (show ¬ (false = true) by decide) ?_ | refine Dec.t (by omega) ?_ | refine Dec.f (by omega) ?_ | refine Dec.split (fun _ => ?_) (fun _ => ?_) | refine Wr.id (by omega) ?_ | refine Chk.mk (by first | omega | exact rfl | (simp only [List.length_map]; omega) | (simp [room]; done) | (simp [room]; omega) | (simp [dropL, room]; done) | (simp [dropL, room]; omega)) ?_ | refine Nam.mk (List.length_map _) ?_ | refine Prep.skip ?_ | refine Eith.l ?_ | refine chk_t (x := D.flat _) (by assumption) ?_ | refine br_mk (fun _ => ?_) (fun _ => ?_) | refine Nam.mk (y := (digM 1 n).map I) rfl ?_ | refine ALoop.rounds 5 ?_ | refine ALoopN.step (E := (envOf Try.prog tt Try.f89.ntmps)) (envOf_ok ttok mixed) ?_ | fail)
    all_goals (conv => whnf)
    all_goals exact (by repeat (first | exact trivial | exact rfl | exact DLe.refl _ | exact DLe.full _ _ _ | exact DLe.nil _ _ _ | exact VLe.refl _ | refine And.intro ?_ ?_ | refine VLe.d ?_ | refine DLe.agg ?_))
  | 2, _ =>
    refine exPure_sound (E := envOf Try.prog tt Try.f89.ntmps) (envOf_ok ttok mixed) Try.func89 (by rfl) rfl rfl (Nat.le_of_ble_eq_true rfl) ?_
    repeat' ((conv => whnf); first | refine Nam.mk (y := 2) rfl ?_ | with_reducible refine Dec.t (show true = true from rfl) ?_ | with_reducible refine Dec.t (show false = false from rfl) ?_ | with_reducible refine Dec.f (show ¬ (true = false) by decide) ?_ | with_reducible refine Dec.f (show ¬ (false = true) by decide) ?_ | refine Dec.t (by omega) ?_ | refine Dec.f (by omega) ?_ | refine Dec.split (fun _ => ?_) (fun _ => ?_) | refine Wr.id (by omega) ?_ | refine Chk.mk (by first | omega | exact rfl | (simp only [List.length_map]; omega) | (simp [room]; done) | (simp [room]; omega) | (simp [dropL, room]; done) | (simp [dropL, room]; omega)) ?_ | refine Nam.mk (List.length_map _) ?_ | refine Prep.skip ?_ | refine Eith.l ?_ | refine chk_t (x := D.flat _) (by assumption) ?_ | refine br_mk (fun _ => ?_) (fun _ => ?_) | refine Nam.mk (y := (digM 2 n).map I) rfl ?_ | refine ALoop.rounds 5 ?_ | refine ALoopN.step (E := (envOf Try.prog tt Try.f89.ntmps)) (envOf_ok ttok mixed) ?_ | fail)
    all_goals (conv => whnf)
    all_goals exact (by repeat (first | exact trivial | exact rfl | exact DLe.refl _ | exact DLe.full _ _ _ | exact DLe.nil _ _ _ | exact VLe.refl _ | refine And.intro ?_ ?_ | refine VLe.d ?_ | refine DLe.agg ?_))
  | 3, _ =>
    refine exPure_sound (E := envOf Try.prog tt Try.f89.ntmps) (envOf_ok ttok mixed) Try.func89 (by rfl) rfl rfl (Nat.le_of_ble_eq_true rfl) ?_
    repeat' ((conv => whnf); first | refine Nam.mk (y := 3) rfl ?_ | with_reducible refine Dec.t (show true = true from rfl) ?_ | with_reducible refine Dec.t (show false = false from rfl) ?_ | with_reducible refine Dec.f (show ¬ (true = false) by decide) ?_ | with_reducible refine Dec.f (show ¬ (false = true) by decide) ?_ | refine Dec.t (by omega) ?_ | refine Dec.f (by omega) ?_ | refine Dec.split (fun _ => ?_) (fun _ => ?_) | refine Wr.id (by omega) ?_ | refine Chk.mk (by first | omega | exact rfl | (simp only [List.length_map]; omega) | (simp [room]; done) | (simp [room]; omega) | (simp [dropL, room]; done) | (simp [dropL, room]; omega)) ?_ | refine Nam.mk (List.length_map _) ?_ | refine Prep.skip ?_ | refine Eith.l ?_ | refine chk_t (x := D.flat _) (by assumption) ?_ | refine br_mk (fun _ => ?_) (fun _ => ?_) | refine Nam.mk (y := (digM 3 n).map I) rfl ?_ | refine ALoop.rounds 5 ?_ | refine ALoopN.step (E := (envOf Try.prog tt Try.f89.ntmps)) (envOf_ok ttok mixed) ?_ | fail)
    all_goals (conv => whnf)
    all_goals exact (by repeat (first | exact trivial | exact rfl | exact DLe.refl _ | exact DLe.full _ _ _ | exact DLe.nil _ _ _ | exact VLe.refl _ | refine And.intro ?_ ?_ | refine VLe.d ?_ | refine DLe.agg ?_))

theorem tm_rng {n : Int} (h : 0 ≤ n) : 0 ≤ n.tmod 4 ∧ n.tmod 4 < 4 := by
  rw [Int.tmod_eq_emod_of_nonneg h]; omega
theorem tdm {n : Int} (h : 0 ≤ n) : 4 * n.tdiv 4 + n.tmod 4 = n := by
  rw [Int.tdiv_eq_ediv_of_nonneg h, Int.tmod_eq_emod_of_nonneg h]; omega
theorem td_lt {n m : Int} (h : 0 ≤ n) (hm : n < 4 * m) : 0 ≤ n.tdiv 4 ∧ n.tdiv 4 < m := by
  rw [Int.tdiv_eq_ediv_of_nonneg h]; omega

theorem dle_int {a b : Int} (h : a = b) : DLe (I a) (I b) := by rw [h]; exact DLe.refl _
theorem pw4 : ∀ {x : Nat}, x ≤ 3 → 1 ≤ (4 : Int) ^ x ∧ (4 : Int) ^ x ≤ 64
  | 0, _ => by decide
  | 1, _ => by decide
  | 2, _ => by decide
  | 3, _ => by decide
  | _ + 4, h => absurd h (by omega)

/-- The code of the digits of a small number is that number. -/
theorem ref13_code (k : Nat) (n : Int) (hk : k ≤ 3) (hn : 0 ≤ n) (hN : n < 4 ^ k) : CallP Try.prog 83 [.d (SL 1 ((digM k n).map I))] (retD [I n]) := by
  match k, hk with
  | 0, _ =>
    have : n = 0 := by omega
    subst this
    refine exPure_sound (E := envOf Try.prog tt Try.f83.ntmps) (envOf_ok ttok mixed) Try.func83 (by rfl) rfl rfl (Nat.le_of_ble_eq_true rfl) ?_
    repeat' ((conv => whnf); first | refine Nam.mk (y := 0) rfl ?_ | with_reducible refine Dec.t (show true = true from rfl) ?_ | with_reducible refine Dec.t (show false = false from rfl) ?_ | with_reducible refine Dec.f (show ¬ (true = false) by decide) ?_ | with_reducible refine Dec.f (show ¬ (false = true) by decide) ?_ | refine Dec.t (by omega) ?_ | refine Dec.f (by omega) ?_ | refine Dec.split (fun _ => ?_) (fun _ => ?_) | refine Wr.id (by omega) ?_ | refine Chk.mk (by first | omega | exact rfl | (simp only [List.length_map]; omega) | (simp [room]; done) | (simp [room]; omega) | (simp [dropL, room]; done) | (simp [dropL, room]; omega)) ?_ | refine Nam.mk (List.length_map _) ?_ | refine Prep.skip ?_ | refine Eith.l ?_ | refine chk_t (x := D.flat _) (by assumption) ?_ | refine br_mk (fun _ => ?_) (fun _ => ?_) | refine ALoop.rounds 5 ?_ | refine ALoopN.step (E := (envOf Try.prog tt Try.f83.ntmps)) (envOf_ok ttok mixed) ?_ | fail)
    all_goals (conv => whnf)
    all_goals exact (by repeat (first | exact trivial | exact rfl | exact DLe.refl _ | exact DLe.full _ _ _ | exact DLe.nil _ _ _ | exact VLe.refl _ | refine And.intro ?_ ?_ | refine VLe.d ?_ | refine DLe.agg ?_))
  | 1, _ =>
    have a1 := td_lt (m := 1) hn (show n < 4 * 1 by simpa using hN)
    have b1 := tm_rng hn
    have e1 := tdm hn
    refine exPure_sound (E := envOf Try.prog tt Try.f83.ntmps) (envOf_ok ttok mixed) Try.func83 (by rfl) rfl rfl (Nat.le_of_ble_eq_true rfl) ?_
    repeat' ((conv => whnf); first | refine Nam.mk (y := 1) rfl ?_ | with_reducible refine Dec.t (show true = true from rfl) ?_ | with_reducible refine Dec.t (show false = false from rfl) ?_ | with_reducible refine Dec.f (show ¬ (true = false) by decide) ?_ | with_reducible refine Dec.f (show ¬ (false = true) by decide) ?_ | refine Dec.t (by omega) ?_ | refine Dec.f (by omega) ?_ | refine Dec.split (fun _ => ?_) (fun _ => ?_) | refine Wr.id (by omega) ?_ | refine Chk.mk (by first | omega | exact rfl | (simp only [List.length_map]; omega) | (simp [room]; done) | (simp [room]; omega) | (simp [dropL, room]; done) | (simp [dropL, room]; omega)) ?_ | refine Nam.mk (List.length_map _) ?_ | refine Prep.skip ?_ | refine Eith.l ?_ | refine chk_t (x := D.flat _) (by assumption) ?_ | refine br_mk (fun _ => ?_) (fun _ => ?_) | refine ALoop.rounds 5 ?_ | refine ALoopN.step (E := (envOf Try.prog tt Try.f83.ntmps)) (envOf_ok ttok mixed) ?_ | fail)
    all_goals (conv => whnf)
    all_goals exact dle_int (by omega)
  | 2, _ =>
    have a1 := td_lt (m := 4) hn (show n < 4 * 4 by simpa using hN)
    have b1 := tm_rng hn
    have e1 := tdm hn
    have a2 := td_lt (m := 1) a1.1 a1.2
    have b2 := tm_rng a1.1
    have e2 := tdm a1.1
    refine exPure_sound (E := envOf Try.prog tt Try.f83.ntmps) (envOf_ok ttok mixed) Try.func83 (by rfl) rfl rfl (Nat.le_of_ble_eq_true rfl) ?_
    repeat' ((conv => whnf); first | refine Nam.mk (y := 2) rfl ?_ | with_reducible refine Dec.t (show true = true from rfl) ?_ | with_reducible refine Dec.t (show false = false from rfl) ?_ | with_reducible refine Dec.f (show ¬ (true = false) by decide) ?_ | with_reducible refine Dec.f (show ¬ (false = true) by decide) ?_ | refine Dec.t (by omega) ?_ | refine Dec.f (by omega) ?_ | refine Dec.split (fun _ => ?_) (fun _ => ?_) | refine Wr.id (by omega) ?_ | refine Chk.mk (by first | omega | exact rfl | (simp only [List.length_map]; omega) | (simp [room]; done) | (simp [room]; omega) | (simp [dropL, room]; done) | (simp [dropL, room]; omega)) ?_ | refine Nam.mk (List.length_map _) ?_ | refine Prep.skip ?_ | refine Eith.l ?_ | refine chk_t (x := D.flat _) (by assumption) ?_ | refine br_mk (fun _ => ?_) (fun _ => ?_) | refine ALoop.rounds 5 ?_ | refine ALoopN.step (E := (envOf Try.prog tt Try.f83.ntmps)) (envOf_ok ttok mixed) ?_ | fail)
    all_goals (conv => whnf)
    all_goals exact dle_int (by omega)
  | 3, _ =>
    have a1 := td_lt (m := 16) hn (show n < 4 * 16 by simpa using hN)
    have b1 := tm_rng hn
    have e1 := tdm hn
    have a2 := td_lt (m := 4) a1.1 a1.2
    have b2 := tm_rng a1.1
    have e2 := tdm a1.1
    have a3 := td_lt (m := 1) a2.1 a2.2
    have b3 := tm_rng a2.1
    have e3 := tdm a2.1
    refine exPure_sound (E := envOf Try.prog tt Try.f83.ntmps) (envOf_ok ttok mixed) Try.func83 (by rfl) rfl rfl (Nat.le_of_ble_eq_true rfl) ?_
    repeat' ((conv => whnf); first | refine Nam.mk (y := 3) rfl ?_ | with_reducible refine Dec.t (show true = true from rfl) ?_ | with_reducible refine Dec.t (show false = false from rfl) ?_ | with_reducible refine Dec.f (show ¬ (true = false) by decide) ?_ | with_reducible refine Dec.f (show ¬ (false = true) by decide) ?_ | refine Dec.t (by omega) ?_ | refine Dec.f (by omega) ?_ | refine Dec.split (fun _ => ?_) (fun _ => ?_) | refine Wr.id (by omega) ?_ | refine Chk.mk (by first | omega | exact rfl | (simp only [List.length_map]; omega) | (simp [room]; done) | (simp [room]; omega) | (simp [dropL, room]; done) | (simp [dropL, room]; omega)) ?_ | refine Nam.mk (List.length_map _) ?_ | refine Prep.skip ?_ | refine Eith.l ?_ | refine chk_t (x := D.flat _) (by assumption) ?_ | refine br_mk (fun _ => ?_) (fun _ => ?_) | refine ALoop.rounds 5 ?_ | refine ALoopN.step (E := (envOf Try.prog tt Try.f83.ntmps)) (envOf_ok ttok mixed) ?_ | fail)
    all_goals (conv => whnf)
    all_goals exact dle_int (by omega)

def uptoM (s : Src) (n : Nat) : List (List Int) := ((List.range n).map fun j : Nat => digM s.opts.length j).filter fun c => cfgM s c
def allM (s : Src) : List (List Int) := uptoM s (4 ^ s.opts.length)
theorem uptoM_len (s : Src) (n : Nat) : (uptoM s n).length ≤ n := by
  unfold uptoM
  refine Nat.le_trans (List.length_filter_le _ _) ?_
  rw [List.length_map, List.length_range]
  exact Nat.le_refl _
theorem uptoM_succ (s : Src) (n : Nat) : uptoM s (n + 1) = uptoM s n ++ if cfgM s (digM s.opts.length n) then [digM s.opts.length n] else [] := by
  unfold uptoM
  rw [List.range_succ, List.map_append, List.filter_append, List.map_singleton]
  split
  · next h => rw [List.filter_cons_of_pos (by simpa using h), List.filter_nil]
  · next h => rw [List.filter_cons_of_neg (by simpa using h), List.filter_nil]
theorem digM_len : ∀ (k : Nat) (n : Int), (digM k n).length = k
  | 0, _ => rfl
  | k + 1, n => by rw [digM, List.length_append, digM_len k]; rfl
theorem int_eq : ∀ {n : Nat} {m : Nat}, (n : Int) = m → n = m := by omega
def allR (s : Src) : List D := if s.ok then [SL 1 ((allM s).map fun c => SL 1 (c.map I)), I 0] else [SL 1 [], I 130]
theorem allM_len (s : Src) (h : s.opts.length ≤ 3) : (allM s).length ≤ 64 :=
  Nat.le_trans (uptoM_len s _) (Nat.le_trans (Nat.pow_le_pow_right (by omega) h) (Nat.le_of_eq rfl))

structure XAll where
  n : Nat
  v : Nat
  l : Nat
  ds : List D

theorem ref13_All (s : Src) (hf : s.few) : CallP Try.prog 82 [.d s.d] (retD (allR s)) := by
  have hf0 := hf
  obtain ⟨hf1, hf2, hf3⟩ := hf
  have hv := ref13_options s (by omega)
  unfold allR
  by_cases hok : s.ok
  · rw [if_pos hok]
    refine exPure_sound (E := envOf Try.prog tt Try.f82.ntmps) (envOf_ok ttok mixed) Try.func82 (by rfl) rfl rfl (Nat.le_of_ble_eq_true rfl) ?_
    repeat' ((conv => whnf); first | with_reducible refine Dec.t (show true = true from rfl) ?_ | with_reducible refine Dec.t (show false = false from rfl) ?_ | with_reducible refine Dec.f (show ¬ (true = false) by decide) ?_ | with_reducible refine Dec.f (show ¬ (false = true) by decide) ?_ | refine Dec.t (by omega) ?_ | refine Dec.f (by omega) ?_ | refine Dec.split (fun _ => ?_) (fun _ => ?_) | refine Wr.id (by omega) ?_ | refine Chk.mk (by first | omega | exact rfl | (simp only [List.length_map]; omega) | (simp [room]; done) | (simp [room]; omega) | (simp [dropL, room]; done) | (simp [dropL, room]; omega)) ?_ | refine Nam.mk (List.length_map _) ?_ | refine Prep.skip ?_ | refine Eith.l ?_ | refine chk_t (x := D.flat _) (by assumption) ?_ | refine br_mk (fun _ => ?_) (fun _ => ?_) | refine ACall.ofB hv (fun _ => ?_) (fun h => absurd hok (of_decide_eq_false h)) | fail)
    all_goals (conv => whnf)
    refine ALoop.at (E := envOf Try.prog tt Try.f82.ntmps) (envOf_ok ttok mixed) (X := Nat) (fun i => [(5, .d (I i)), (4, .d (I (4 ^ i)))]) (fun _ => []) (fun i => i ≤ s.opts.length) (fun i => s.opts.length - i) 0 (by repeat (first | exact trivial | refine And.intro rfl ?_ | refine And.intro (congrArg (fun n => V.d (I n)) (wrap_nat _ (by omega))) ?_)) rfl (Nat.zero_le _) ?_
    intro x hx
    by_cases hlt : x < s.opts.length
    · have p1 := pw4 (x := x) (by omega)
      have p2 := pw4 (x := x + 1) (by omega)
      have p3 : (4 : Int) ^ (x + 1) = 4 ^ x * 4 := Int.pow_succ ..
      repeat' ((conv => whnf); first | with_reducible refine Dec.t (show true = true from rfl) ?_ | with_reducible refine Dec.t (show false = false from rfl) ?_ | with_reducible refine Dec.f (show ¬ (true = false) by decide) ?_ | with_reducible refine Dec.f (show ¬ (false = true) by decide) ?_ | refine Dec.t (by omega) ?_ | refine Dec.f (by omega) ?_ | refine Dec.split (fun _ => ?_) (fun _ => ?_) | refine Wr.id (by omega) ?_ | refine Chk.mk (by first | omega | exact rfl | (simp only [List.length_map]; omega) | (simp [room]; done) | (simp [room]; omega) | (simp [dropL, room]; done) | (simp [dropL, room]; omega)) ?_ | refine Nam.mk (List.length_map _) ?_ | refine Prep.skip ?_ | refine Eith.l ?_ | refine chk_t (x := D.flat _) (by assumption) ?_ | refine br_mk (fun _ => ?_) (fun _ => ?_) | fail)
      all_goals (conv => whnf)
      exact ⟨x + 1, Wm.end (by repeat (first | exact trivial | refine And.intro rfl ?_ | refine And.intro (congrArg (fun n => V.d (I n)) (by first | exact p3.symm | (simp only [Int.natCast_add]; rfl) | omega)) ?_)) rfl rfl rfl, hlt, by omega⟩
    · have : x = s.opts.length := by omega
      subst this
      clear hlt hx
      have p1 := pw4 (x := s.opts.length) hf1
      repeat' ((conv => whnf); first | with_reducible refine Dec.t (show true = true from rfl) ?_ | with_reducible refine Dec.t (show false = false from rfl) ?_ | with_reducible refine Dec.f (show ¬ (true = false) by decide) ?_ | with_reducible refine Dec.f (show ¬ (false = true) by decide) ?_ | refine Dec.t (by omega) ?_ | refine Dec.f (by omega) ?_ | refine Dec.split (fun _ => ?_) (fun _ => ?_) | refine Wr.id (by omega) ?_ | refine Chk.mk (by first | omega | exact rfl | (simp only [List.length_map]; omega) | (simp [room]; done) | (simp [room]; omega) | (simp [dropL, room]; done) | (simp [dropL, room]; omega)) ?_ | refine Nam.mk (List.length_map _) ?_ | refine Prep.skip ?_ | refine Eith.l ?_ | refine chk_t (x := D.flat _) (by assumption) ?_ | refine br_mk (fun _ => ?_) (fun _ => ?_) | fail)
      all_goals (conv => whnf)
      refine ALoop.virt 6 1 1 false (by decide) rfl ?_
      conv => whnf
      refine ALoop.at (E := envOf Try.prog tt Try.f82.ntmps) (envOf_ok ttok mixed) (X := XAll) (fun x => [(7, .d (I x.n)), (6, .sref 1 x.v 0 x.l false)]) (fun x => [(1, .row x.v 1 false x.ds)])
        (fun x => (x.n : Int) ≤ 4 ^ s.opts.length ∧ x.l ≤ x.n ∧ x.l = x.ds.length ∧ x.ds = (uptoM s x.n).map fun c => SL 1 (c.map I)) (fun x => 64 - x.n) ⟨0, 0, 0, []⟩ (by repeat (first | exact trivial | refine And.intro rfl ?_ | refine And.intro (congrArg (fun n => V.d (I n)) (wrap_nat _ (by omega))) ?_)) rfl ⟨by simp only; omega, Nat.le_refl _, rfl, rfl⟩ ?_
      rintro ⟨n, v, l, ds⟩ ⟨hn, hl, hll, hds⟩
      simp only at hn hl hll hds
      dsimp only
      by_cases hlt : (n : Int) < 4 ^ s.opts.length
      · have hdl := digM_len s.opts.length n
        have hs := uptoM_succ s n
        repeat' ((conv => whnf); first | with_reducible refine Dec.t (show true = true from rfl) ?_ | with_reducible refine Dec.t (show false = false from rfl) ?_ | with_reducible refine Dec.f (show ¬ (true = false) by decide) ?_ | with_reducible refine Dec.f (show ¬ (false = true) by decide) ?_ | refine Dec.t (by omega) ?_ | refine Dec.f (by omega) ?_ | refine Dec.split (fun _ => ?_) (fun _ => ?_) | refine Wr.id (by omega) ?_ | refine Chk.mk (by first | omega | exact rfl | (simp only [List.length_map]; omega) | (simp [room]; done) | (simp [room]; omega) | (simp [dropL, room]; done) | (simp [dropL, room]; omega)) ?_ | refine Nam.mk (List.length_map _) ?_ | refine Prep.skip ?_ | refine Eith.l ?_ | refine chk_t (x := D.flat _) (by assumption) ?_ | refine br_mk (fun _ => ?_) (fun _ => ?_) | refine ACall.of (ref13_digits s.opts.length n hf1 (by omega) (by omega)) ?_ | refine ACall.ofB (ref13_Valid s (digM s.opts.length n) hf0 (by omega)) (fun _ => ?_) (fun _ => ?_) | refine APCall.ofB (ref13_Valid s (digM s.opts.length n) hf0 (by omega)) (fun _ => ?_) (fun _ => ?_) | refine Chk.mk ⟨rfl, by simp [hll], by simp [room]; omega⟩ ?_ | fail)
        all_goals (conv => whnf)
        all_goals try simp only [decide_eq_true_eq, decide_eq_false_iff_not] at *
        · have h := ‹cfgM s (digM s.opts.length n)›
          rw [if_pos h] at hs
          refine ⟨⟨n + 1, v + 1, l + 1, ds ++ [SL 1 ((digM s.opts.length n).map I)]⟩, Wm.end (by repeat (first | exact trivial | refine And.intro rfl ?_ | refine And.intro (congrArg (fun n => V.d (I n)) (wrap_nat _ (by omega))) ?_)) rfl rfl rfl, ⟨by simp only; omega, by simp only; omega, by simp [hll], ?_⟩, by simp only; omega⟩
          simp only [hds, hs, List.map_append, List.map_cons, List.map_nil]
        · have h := ‹¬ cfgM s (digM s.opts.length n)›
          rw [if_neg h, List.append_nil] at hs
          refine ⟨⟨n + 1, v, l, ds⟩, Wm.end (by repeat (first | exact trivial | refine And.intro rfl ?_ | refine And.intro (congrArg (fun n => V.d (I n)) (wrap_nat _ (by omega))) ?_)) rfl rfl rfl, ⟨by simp only; omega, by simp only; omega, hll, ?_⟩, by simp only; omega⟩
          simp only [hds, hs]
      · have : (n : Int) = 4 ^ s.opts.length := by omega
        have : n = 4 ^ s.opts.length := by exact_mod_cast this
        subst this
        repeat' ((conv => whnf); first | with_reducible refine Dec.t (show true = true from rfl) ?_ | with_reducible refine Dec.t (show false = false from rfl) ?_ | with_reducible refine Dec.f (show ¬ (true = false) by decide) ?_ | with_reducible refine Dec.f (show ¬ (false = true) by decide) ?_ | refine Dec.t (by omega) ?_ | refine Dec.f (by omega) ?_ | refine Dec.split (fun _ => ?_) (fun _ => ?_) | refine Wr.id (by omega) ?_ | refine Chk.mk (by first | omega | exact rfl | (simp only [List.length_map]; omega) | (simp [room]; done) | (simp [room]; omega) | (simp [dropL, room]; done) | (simp [dropL, room]; omega)) ?_ | refine Nam.mk (List.length_map _) ?_ | refine Prep.skip ?_ | refine Eith.l ?_ | refine chk_t (x := D.flat _) (by assumption) ?_ | refine br_mk (fun _ => ?_) (fun _ => ?_) | refine Nam.mk ((whole hll).trans hds) ?_ | fail)
        all_goals (conv => whnf)
        all_goals exact (by repeat (first | exact trivial | exact rfl | exact DLe.refl _ | exact DLe.full _ _ _ | exact DLe.nil _ _ _ | exact VLe.refl _ | refine And.intro ?_ ?_ | refine VLe.d ?_ | refine DLe.agg ?_))
  · rw [if_neg hok]
    refine exPure_sound (E := envOf Try.prog tt Try.f82.ntmps) (envOf_ok ttok mixed) Try.func82 (by rfl) rfl rfl (Nat.le_of_ble_eq_true rfl) ?_
    repeat' ((conv => whnf); first | with_reducible refine Dec.t (show true = true from rfl) ?_ | with_reducible refine Dec.t (show false = false from rfl) ?_ | with_reducible refine Dec.f (show ¬ (true = false) by decide) ?_ | with_reducible refine Dec.f (show ¬ (false = true) by decide) ?_ | refine Dec.t (by omega) ?_ | refine Dec.f (by omega) ?_ | refine Dec.split (fun _ => ?_) (fun _ => ?_) | refine Wr.id (by omega) ?_ | refine Chk.mk (by first | omega | exact rfl | (simp only [List.length_map]; omega) | (simp [room]; done) | (simp [room]; omega) | (simp [dropL, room]; done) | (simp [dropL, room]; omega)) ?_ | refine Nam.mk (List.length_map _) ?_ | refine Prep.skip ?_ | refine Eith.l ?_ | refine chk_t (x := D.flat _) (by assumption) ?_ | refine br_mk (fun _ => ?_) (fun _ => ?_) | refine ACall.ofB hv (fun h => absurd (of_decide_eq_true h) hok) (fun _ => ?_) | fail)
    all_goals (conv => whnf)
    all_goals exact (by repeat (first | exact trivial | exact rfl | exact DLe.refl _ | exact DLe.full _ _ _ | exact DLe.nil _ _ _ | exact VLe.refl _ | refine And.intro ?_ ?_ | refine VLe.d ?_ | refine DLe.agg ?_))
end Go.PM

