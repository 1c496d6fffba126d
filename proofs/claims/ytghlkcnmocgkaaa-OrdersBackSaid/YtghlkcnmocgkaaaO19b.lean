/- Package options: Valid. -/
import Derived.Test.YtghlkcnmocgkaaaO19a
namespace Go.PM
open Go.Proofs
set_option maxRecDepth 10000
set_option maxHeartbeats 4000000

def permM (s : Src) (c : List Int) : Prop := ∀ l ∈ s.forbids, ¬ holdM l c
instance (s : Src) (c : List Int) : Decidable (permM s c) := by unfold permM; infer_instance
def rangeM (s : Src) (c : List Int) : Prop := ∀ p ∈ c.zip s.opts, 0 ≤ p.1 ∧ p.1 < p.2.ch.length
instance (s : Src) (c : List Int) : Decidable (rangeM s c) := by unfold rangeM; infer_instance
def cfgM (s : Src) (c : List Int) : Prop := s.ok ∧ c.length = s.opts.length ∧ rangeM s c ∧ permM s c
instance (s : Src) (c : List Int) : Decidable (cfgM s c) := by unfold cfgM; infer_instance

def Src.few (s : Src) : Prop := s.opts.length ≤ 3 ∧ s.forbids.length ≤ 8 ∧ ∀ l ∈ s.forbids, l.length ≤ 8

theorem options_permitted (s : Src) (c : List Int) (hf : s.few) (hc : c.length < 2 ^ 40) : CallP Try.prog 91 [.d s.d, .d (SL 1 (c.map I))] (retD [.b (decide (permM s c))]) := by
  obtain ⟨hf1, hf2, hf3⟩ := hf
  refine exPure_sound (E := envOf Try.prog tt Try.f91.ntmps) (envOf_ok ttok mixed) Try.func91 (by rfl) rfl rfl (Nat.le_of_ble_eq_true rfl) ?_
  repeat' ((conv => whnf); first | with_reducible refine Dec.t (show true = true from rfl) ?_ | with_reducible refine Dec.t (show false = false from rfl) ?_ | with_reducible refine Dec.f (show ¬ (true = false) by decide) ?_ | with_reducible refine Dec.f (show ¬ (false = true) by decide) ?_ | refine Dec.t (by omega) ?_ | refine Dec.f (by omega) ?_ | refine Dec.split (fun _ => ?_) (fun _ => ?_) | refine Wr.id (by omega) ?_ | refine Chk.mk (by first | omega | exact rfl | (simp only [List.length_map]; omega) | (simp [room]; done) | (simp [room]; omega) | (simp [dropL, room]; done) | (simp [dropL, room]; omega)) ?_ | refine Nam.mk (List.length_map _) ?_ | refine Prep.skip ?_ | refine Eith.l ?_ | refine chk_t (x := D.flat _) (by assumption) ?_ | refine br_mk (fun _ => ?_) (fun _ => ?_) | refine ACall.body (E := envOf Try.prog tt Try.f93.ntmps) (envOf_ok ttok mixed) Try.func93 (by rfl) rfl (Nat.le_of_ble_eq_true rfl) ?_ | refine ACall.body (E := envOf Try.prog tt Try.f96.ntmps) (envOf_ok ttok mixed) Try.func96 (by rfl) rfl (Nat.le_of_ble_eq_true rfl) ?_ | fail)
  all_goals (conv => whnf)
  refine ALoop.at (E := envOf Try.prog tt Try.f96.ntmps) (envOf_ok ttok mixed) (X := Nat) (fun i => [(8, .d (I i))]) (fun _ => []) (fun i => i ≤ s.forbids.length ∧ ∀ l ∈ s.forbids.take i, ¬ holdM l c) (fun i => s.forbids.length - i) 0 (by repeat (first | exact trivial | refine And.intro rfl ?_ | refine And.intro (congrArg (fun n => V.d (I n)) (wrap_nat _ (by omega))) ?_)) rfl ⟨Nat.zero_le _, by simp⟩ ?_
  rintro i ⟨hi, hm⟩
  by_cases hlt : i < s.forbids.length
  · obtain ⟨x, hx, hd⟩ := drop_get hlt
    have hmem : x ∈ s.forbids := List.mem_of_getElem? hx
    repeat' ((conv => whnf); first | with_reducible refine Dec.t (show true = true from rfl) ?_ | with_reducible refine Dec.t (show false = false from rfl) ?_ | with_reducible refine Dec.f (show ¬ (true = false) by decide) ?_ | with_reducible refine Dec.f (show ¬ (false = true) by decide) ?_ | refine Dec.t (by omega) ?_ | refine Dec.f (by omega) ?_ | refine Dec.split (fun _ => ?_) (fun _ => ?_) | refine Wr.id (by omega) ?_ | refine Chk.mk (by first | omega | exact rfl | (simp only [List.length_map]; omega) | (simp [room]; done) | (simp [room]; omega) | (simp [dropL, room]; done) | (simp [dropL, room]; omega)) ?_ | refine Nam.mk (List.length_map _) ?_ | refine Prep.skip ?_ | refine Eith.l ?_ | refine chk_t (x := D.flat _) (by assumption) ?_ | refine br_mk (fun _ => ?_) (fun _ => ?_) | refine nthK_mk (map_get hx) ?_ | refine Nam.mk rfl ?_ | refine ACall.body (E := envOf Try.prog tt Try.f94.ntmps) (envOf_ok ttok mixed) Try.func94 (by rfl) rfl (Nat.le_of_ble_eq_true rfl) ?_ | refine ACall.ofB (options_hold x c (by have := hf3 x hmem; omega) hc) (fun _ => ?_) (fun _ => ?_) | refine APCall.ofB (options_hold x c (by have := hf3 x hmem; omega) hc) (fun _ => ?_) (fun _ => ?_) | fail)
    all_goals (conv => whnf)
    all_goals try simp only [decide_eq_true_eq, decide_eq_false_iff_not] at *
    all_goals first
      | (rw [decide_eq_false (fun h => h x hmem (by assumption))]; exact (by repeat (first | exact trivial | exact rfl | exact DLe.refl _ | exact DLe.full _ _ _ | exact DLe.nil _ _ _ | exact VLe.refl _ | refine And.intro ?_ ?_ | refine VLe.d ?_ | refine DLe.agg ?_)))
      | (refine ⟨i + 1, Wm.end (by repeat (first | exact trivial | refine And.intro rfl ?_ | refine And.intro (congrArg (fun n => V.d (I n)) (wrap_nat _ (by omega))) ?_)) rfl rfl rfl, ⟨hlt, fun o ho => ?_⟩, by omega⟩
         rw [List.take_add_one, hx] at ho
         simp only [Option.toList_some, List.mem_append, List.mem_singleton] at ho
         rcases ho with ho | ho
         · exact hm o ho
         · rw [ho]; assumption)
      | trace_state
  · have : i = s.forbids.length := by omega
    subst this
    rw [List.take_length] at hm
    repeat' ((conv => whnf); first | with_reducible refine Dec.t (show true = true from rfl) ?_ | with_reducible refine Dec.t (show false = false from rfl) ?_ | with_reducible refine Dec.f (show ¬ (true = false) by decide) ?_ | with_reducible refine Dec.f (show ¬ (false = true) by decide) ?_ | refine Dec.t (by omega) ?_ | refine Dec.f (by omega) ?_ | refine Dec.split (fun _ => ?_) (fun _ => ?_) | refine Wr.id (by omega) ?_ | refine Chk.mk (by first | omega | exact rfl | (simp only [List.length_map]; omega) | (simp [room]; done) | (simp [room]; omega) | (simp [dropL, room]; done) | (simp [dropL, room]; omega)) ?_ | refine Nam.mk (List.length_map _) ?_ | refine Prep.skip ?_ | refine Eith.l ?_ | refine chk_t (x := D.flat _) (by assumption) ?_ | refine br_mk (fun _ => ?_) (fun _ => ?_) | fail)
    all_goals (conv => whnf)
    rw [decide_eq_true (show permM s c from hm)]; exact (by repeat (first | exact trivial | exact rfl | exact DLe.refl _ | exact DLe.full _ _ _ | exact DLe.nil _ _ _ | exact VLe.refl _ | refine And.intro ?_ ?_ | refine VLe.d ?_ | refine DLe.agg ?_))

theorem zip_get {c : List Int} {o : List Opt} {i : Nat} {x : Int} {y : Opt} (hx : c[i]? = some x) (hy : o[i]? = some y) : (c.zip o)[i]? = some (x, y) := by
  rw [List.getElem?_zip_eq_some]; exact ⟨hx, hy⟩

theorem options_Valid (s : Src) (c : List Int) (hf : s.few) (hc : c.length < 2 ^ 40) : CallP Try.prog 87 [.d s.d, .d (SL 1 (c.map I))] (retD [.b (decide (cfgM s c))]) := by
  have hf0 := hf
  obtain ⟨hf1, hf2, hf3⟩ := hf
  refine exPure_sound (E := envOf Try.prog tt Try.f87.ntmps) (envOf_ok ttok mixed) Try.func87 (by rfl) rfl rfl (Nat.le_of_ble_eq_true rfl) ?_
  by_cases hok : s.ok
  · by_cases hlen : c.length = s.opts.length
    · repeat' ((conv => whnf); first | with_reducible refine Dec.t (show true = true from rfl) ?_ | with_reducible refine Dec.t (show false = false from rfl) ?_ | with_reducible refine Dec.f (show ¬ (true = false) by decide) ?_ | with_reducible refine Dec.f (show ¬ (false = true) by decide) ?_ | refine Dec.t (by omega) ?_ | refine Dec.f (by omega) ?_ | refine Dec.split (fun _ => ?_) (fun _ => ?_) | refine Wr.id (by omega) ?_ | refine Chk.mk (by first | omega | exact rfl | (simp only [List.length_map]; omega) | (simp [room]; done) | (simp [room]; omega) | (simp [dropL, room]; done) | (simp [dropL, room]; omega)) ?_ | refine Nam.mk (List.length_map _) ?_ | refine Prep.skip ?_ | refine Eith.l ?_ | refine chk_t (x := D.flat _) (by assumption) ?_ | refine br_mk (fun _ => ?_) (fun _ => ?_) | refine Nam.mk rfl ?_ | refine ACall.ofB (options_valid s (by omega)) (fun _ => ?_) (fun h => absurd hok (of_decide_eq_false h)) | fail)
      all_goals (conv => whnf)
      refine ALoop.at (E := envOf Try.prog tt Try.f87.ntmps) (envOf_ok ttok mixed) (X := Nat) (fun i => [(20, .d (I i))]) (fun _ => []) (fun i => i ≤ c.length ∧ ∀ p ∈ (c.zip s.opts).take i, 0 ≤ p.1 ∧ p.1 < p.2.ch.length) (fun i => c.length - i) 0 (by repeat (first | exact trivial | refine And.intro rfl ?_ | refine And.intro (congrArg (fun n => V.d (I n)) (wrap_nat _ (by omega))) ?_)) rfl ⟨Nat.zero_le _, by simp⟩ ?_
      rintro i ⟨hi, hm⟩
      by_cases hlt : i < c.length
      · obtain ⟨x, hx, hd⟩ := drop_get hlt
        obtain ⟨y, hy, _⟩ := drop_get (l := s.opts) (i := i) (by omega)
        have hz := zip_get hx hy
        have hmem := List.mem_of_getElem? hz
        repeat' ((conv => whnf); first | with_reducible refine Dec.t (show true = true from rfl) ?_ | with_reducible refine Dec.t (show false = false from rfl) ?_ | with_reducible refine Dec.f (show ¬ (true = false) by decide) ?_ | with_reducible refine Dec.f (show ¬ (false = true) by decide) ?_ | refine Dec.t (by omega) ?_ | refine Dec.f (by omega) ?_ | refine Dec.split (fun _ => ?_) (fun _ => ?_) | refine Wr.id (by omega) ?_ | refine Chk.mk (by first | omega | exact rfl | (simp only [List.length_map]; omega) | (simp [room]; done) | (simp [room]; omega) | (simp [dropL, room]; done) | (simp [dropL, room]; omega)) ?_ | refine Nam.mk (List.length_map _) ?_ | refine Prep.skip ?_ | refine Eith.l ?_ | refine chk_t (x := D.flat _) (by assumption) ?_ | refine br_mk (fun _ => ?_) (fun _ => ?_) | refine nthK_mk (map_get hx) ?_ | refine nthK_mk (map_get hy) ?_ | refine Nam.mk rfl ?_ | fail)
        all_goals (conv => whnf)
        all_goals first
          | (rw [decide_eq_false (fun h => by have := h.2.2.1 _ hmem; simp only at this; omega)]; exact (by repeat (first | exact trivial | exact rfl | exact DLe.refl _ | exact DLe.full _ _ _ | exact DLe.nil _ _ _ | exact VLe.refl _ | refine And.intro ?_ ?_ | refine VLe.d ?_ | refine DLe.agg ?_)))
          | (refine ⟨i + 1, Wm.end (by repeat (first | exact trivial | refine And.intro rfl ?_ | refine And.intro (congrArg (fun n => V.d (I n)) (wrap_nat _ (by omega))) ?_)) rfl rfl rfl, ⟨hlt, fun o ho => ?_⟩, by omega⟩
             rw [List.take_add_one, hz] at ho
             simp only [Option.toList_some, List.mem_append, List.mem_singleton] at ho
             rcases ho with ho | ho
             · exact hm o ho
             · rw [ho]; simp only; omega)
          | trace_state
      · have : i = c.length := by omega
        subst this
        rw [List.take_of_length_le (by simp; omega)] at hm
        repeat' ((conv => whnf); first | with_reducible refine Dec.t (show true = true from rfl) ?_ | with_reducible refine Dec.t (show false = false from rfl) ?_ | with_reducible refine Dec.f (show ¬ (true = false) by decide) ?_ | with_reducible refine Dec.f (show ¬ (false = true) by decide) ?_ | refine Dec.t (by omega) ?_ | refine Dec.f (by omega) ?_ | refine Dec.split (fun _ => ?_) (fun _ => ?_) | refine Wr.id (by omega) ?_ | refine Chk.mk (by first | omega | exact rfl | (simp only [List.length_map]; omega) | (simp [room]; done) | (simp [room]; omega) | (simp [dropL, room]; done) | (simp [dropL, room]; omega)) ?_ | refine Nam.mk (List.length_map _) ?_ | refine Prep.skip ?_ | refine Eith.l ?_ | refine chk_t (x := D.flat _) (by assumption) ?_ | refine br_mk (fun _ => ?_) (fun _ => ?_) | refine ACall.of (options_permitted s c hf0 hc) ?_ | refine APCall.of (options_permitted s c hf0 hc) ?_ | fail)
        all_goals (conv => whnf)
        rw [show decide (permM s c) = decide (cfgM s c) from decide_eq_decide.2 ⟨fun h => ⟨hok, hlen, hm, h⟩, fun h => h.2.2.2⟩]; exact (by repeat (first | exact trivial | exact rfl | exact DLe.refl _ | exact DLe.full _ _ _ | exact DLe.nil _ _ _ | exact VLe.refl _ | refine And.intro ?_ ?_ | refine VLe.d ?_ | refine DLe.agg ?_))
    · rw [decide_eq_false (fun h => hlen h.2.1)]
      repeat' ((conv => whnf); first | with_reducible refine Dec.t (show true = true from rfl) ?_ | with_reducible refine Dec.t (show false = false from rfl) ?_ | with_reducible refine Dec.f (show ¬ (true = false) by decide) ?_ | with_reducible refine Dec.f (show ¬ (false = true) by decide) ?_ | refine Dec.t (by omega) ?_ | refine Dec.f (by omega) ?_ | refine Dec.split (fun _ => ?_) (fun _ => ?_) | refine Wr.id (by omega) ?_ | refine Chk.mk (by first | omega | exact rfl | (simp only [List.length_map]; omega) | (simp [room]; done) | (simp [room]; omega) | (simp [dropL, room]; done) | (simp [dropL, room]; omega)) ?_ | refine Nam.mk (List.length_map _) ?_ | refine Prep.skip ?_ | refine Eith.l ?_ | refine chk_t (x := D.flat _) (by assumption) ?_ | refine br_mk (fun _ => ?_) (fun _ => ?_) | refine Nam.mk rfl ?_ | refine ACall.ofB (options_valid s (by omega)) (fun _ => ?_) (fun h => absurd hok (of_decide_eq_false h)) | fail)
      all_goals (conv => whnf)
      all_goals exact (by repeat (first | exact trivial | exact rfl | exact DLe.refl _ | exact DLe.full _ _ _ | exact DLe.nil _ _ _ | exact VLe.refl _ | refine And.intro ?_ ?_ | refine VLe.d ?_ | refine DLe.agg ?_))
  · rw [decide_eq_false (fun h => hok h.1)]
    repeat' ((conv => whnf); first | with_reducible refine Dec.t (show true = true from rfl) ?_ | with_reducible refine Dec.t (show false = false from rfl) ?_ | with_reducible refine Dec.f (show ¬ (true = false) by decide) ?_ | with_reducible refine Dec.f (show ¬ (false = true) by decide) ?_ | refine Dec.t (by omega) ?_ | refine Dec.f (by omega) ?_ | refine Dec.split (fun _ => ?_) (fun _ => ?_) | refine Wr.id (by omega) ?_ | refine Chk.mk (by first | omega | exact rfl | (simp only [List.length_map]; omega) | (simp [room]; done) | (simp [room]; omega) | (simp [dropL, room]; done) | (simp [dropL, room]; omega)) ?_ | refine Nam.mk (List.length_map _) ?_ | refine Prep.skip ?_ | refine Eith.l ?_ | refine chk_t (x := D.flat _) (by assumption) ?_ | refine br_mk (fun _ => ?_) (fun _ => ?_) | refine Nam.mk rfl ?_ | refine ACall.ofB (options_valid s (by omega)) (fun h => absurd (of_decide_eq_true h) hok) (fun _ => ?_) | fail)
    all_goals (conv => whnf)
    all_goals exact (by repeat (first | exact trivial | exact rfl | exact DLe.refl _ | exact DLe.full _ _ _ | exact DLe.nil _ _ _ | exact VLe.refl _ | refine And.intro ?_ ?_ | refine VLe.d ?_ | refine DLe.agg ?_))
end Go.PM

