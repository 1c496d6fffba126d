/- Package slices, the reference's At, and Fits. -/
import Derived.Test.YtbifaidepiejeaaRef29
namespace Go.PM
open Go.Proofs
set_option maxRecDepth 10000


theorem supply_IndexFunc (g : FuncId) (l : List (Supply)) (p : Supply → Prop) [DecidablePred p] (hl : l.length < 2 ^ 40) (hp : ∀ x ∈ l, CallP Try.prog g [.d (Supply.d x)] (retD [.b (decide (p x))])) :
    CallP Try.prog 51 [.d (SL 6 (l.map Supply.d)), .fn g []] (retD [I (idxM p l)]) := by
  refine exPure_sound (E := envOf Try.prog tt Try.f51.ntmps) (envOf_ok ttok mixed) Try.func51 (by rfl) rfl rfl (Nat.le_of_ble_eq_true rfl) ?_
  repeat' ((conv => whnf); first | refine Dec.t (by omega) ?_ | refine Dec.f (by omega) ?_ | refine Dec.split (fun _ => ?_) (fun _ => ?_) | refine Wr.id (by omega) ?_ | refine Chk.mk (by first | omega | exact rfl | (simp only [List.length_map]; omega) | (simp [room]; done) | (simp [room]; omega)) ?_ | refine Nam.mk (List.length_map _) ?_ | refine Prep.skip ?_ | refine br_mk (fun _ => ?_) (fun _ => ?_))
  conv => whnf
  refine ALoop.at (E := envOf Try.prog tt Try.f51.ntmps) (envOf_ok ttok mixed) (X := Nat) (fun i => [(8, .d (I i))]) (fun _ => []) (fun i => i ≤ l.length ∧ idxFrom p (l.drop i) i = idxM p l) (fun i => l.length - i) 0 (by repeat (first | exact trivial | refine And.intro rfl ?_ | refine And.intro (congrArg (fun n => V.d (I n)) (wrap_nat _ (by omega))) ?_)) rfl ⟨Nat.zero_le _, rfl⟩ ?_
  rintro i ⟨hi, hm⟩
  by_cases hlt : i < l.length
  · obtain ⟨x, hx, hd⟩ := drop_get hlt
    rw [hd, idxFrom] at hm
    repeat' ((conv => whnf); first | refine Dec.t (by omega) ?_ | refine Dec.f (by omega) ?_ | refine Dec.split (fun _ => ?_) (fun _ => ?_) | refine Wr.id (by omega) ?_ | refine Chk.mk (by first | omega | exact rfl | (simp only [List.length_map]; omega) | (simp [room]; done) | (simp [room]; omega)) ?_ | refine Nam.mk (List.length_map _) ?_ | refine Prep.skip ?_ | refine br_mk (fun _ => ?_) (fun _ => ?_) | refine nthK_mk (map_get hx) ?_ | refine ACall.ofB (hp x (List.mem_of_getElem? hx)) (fun _ => ?_) (fun _ => ?_))
    all_goals (conv => whnf)
    all_goals try simp only [decide_eq_true_eq, decide_eq_false_iff_not] at *
    · rename_i h
      rw [if_pos h] at hm
      rw [← hm]; exact DLe.refl _
    · rename_i h
      rw [if_neg h] at hm
      exact ⟨i + 1, Wm.end (by repeat (first | exact trivial | refine And.intro rfl ?_ | refine And.intro (congrArg (fun n => V.d (I n)) (wrap_nat _ (by omega))) ?_)) rfl rfl rfl, ⟨hlt, hm⟩, by omega⟩
  · have : i = l.length := by omega
    subst this
    rw [List.drop_length] at hm
    rw [← hm]
    repeat' ((conv => whnf); first | refine Dec.t (by omega) ?_ | refine Dec.f (by omega) ?_ | refine Dec.split (fun _ => ?_) (fun _ => ?_) | refine Wr.id (by omega) ?_ | refine Chk.mk (by first | omega | exact rfl | (simp only [List.length_map]; omega) | (simp [room]; done) | (simp [room]; omega)) ?_ | refine Nam.mk (List.length_map _) ?_ | refine Prep.skip ?_ | refine br_mk (fun _ => ?_) (fun _ => ?_))
    all_goals (conv => whnf)
    exact DLe.refl _
theorem supply_ContainsFunc (g : FuncId) (l : List (Supply)) (p : Supply → Prop) [DecidablePred p] (hl : l.length < 2 ^ 40) (hp : ∀ x ∈ l, CallP Try.prog g [.d (Supply.d x)] (retD [.b (decide (p x))])) :
    CallP Try.prog 29 [.d (SL 6 (l.map Supply.d)), .fn g []] (retD [.b (decide (∃ x ∈ l, p x))]) := by
  refine exPure_sound (E := envOf Try.prog tt Try.f29.ntmps) (envOf_ok ttok mixed) Try.func29 (by rfl) rfl rfl (Nat.le_of_ble_eq_true rfl) ?_
  repeat' ((conv => whnf); first | refine Dec.t (by omega) ?_ | refine Dec.f (by omega) ?_ | refine Dec.split (fun _ => ?_) (fun _ => ?_) | refine Wr.id (by omega) ?_ | refine Chk.mk (by first | omega | exact rfl | (simp only [List.length_map]; omega) | (simp [room]; done) | (simp [room]; omega)) ?_ | refine Nam.mk (List.length_map _) ?_ | refine Prep.skip ?_ | refine br_mk (fun _ => ?_) (fun _ => ?_) | refine ACall.of (supply_IndexFunc g l p hl hp) ?_)
  all_goals (conv => whnf)
  · rename_i h
    rw [decide_eq_true ((idxM_nonneg l).1 h)]; exact DLe.refl _
  · rename_i h
    rw [decide_eq_false (fun hh => h ((idxM_nonneg l).2 hh))]; exact DLe.refl _


theorem request_IndexFunc (g : FuncId) (l : List (Request)) (p : Request → Prop) [DecidablePred p] (hl : l.length < 2 ^ 40) (hp : ∀ x ∈ l, CallP Try.prog g [.d (Request.d x)] (retD [.b (decide (p x))])) :
    CallP Try.prog 52 [.d (SL 6 (l.map Request.d)), .fn g []] (retD [I (idxM p l)]) := by
  refine exPure_sound (E := envOf Try.prog tt Try.f52.ntmps) (envOf_ok ttok mixed) Try.func52 (by rfl) rfl rfl (Nat.le_of_ble_eq_true rfl) ?_
  repeat' ((conv => whnf); first | refine Dec.t (by omega) ?_ | refine Dec.f (by omega) ?_ | refine Dec.split (fun _ => ?_) (fun _ => ?_) | refine Wr.id (by omega) ?_ | refine Chk.mk (by first | omega | exact rfl | (simp only [List.length_map]; omega) | (simp [room]; done) | (simp [room]; omega)) ?_ | refine Nam.mk (List.length_map _) ?_ | refine Prep.skip ?_ | refine br_mk (fun _ => ?_) (fun _ => ?_))
  conv => whnf
  refine ALoop.at (E := envOf Try.prog tt Try.f52.ntmps) (envOf_ok ttok mixed) (X := Nat) (fun i => [(8, .d (I i))]) (fun _ => []) (fun i => i ≤ l.length ∧ idxFrom p (l.drop i) i = idxM p l) (fun i => l.length - i) 0 (by repeat (first | exact trivial | refine And.intro rfl ?_ | refine And.intro (congrArg (fun n => V.d (I n)) (wrap_nat _ (by omega))) ?_)) rfl ⟨Nat.zero_le _, rfl⟩ ?_
  rintro i ⟨hi, hm⟩
  by_cases hlt : i < l.length
  · obtain ⟨x, hx, hd⟩ := drop_get hlt
    rw [hd, idxFrom] at hm
    repeat' ((conv => whnf); first | refine Dec.t (by omega) ?_ | refine Dec.f (by omega) ?_ | refine Dec.split (fun _ => ?_) (fun _ => ?_) | refine Wr.id (by omega) ?_ | refine Chk.mk (by first | omega | exact rfl | (simp only [List.length_map]; omega) | (simp [room]; done) | (simp [room]; omega)) ?_ | refine Nam.mk (List.length_map _) ?_ | refine Prep.skip ?_ | refine br_mk (fun _ => ?_) (fun _ => ?_) | refine nthK_mk (map_get hx) ?_ | refine ACall.ofB (hp x (List.mem_of_getElem? hx)) (fun _ => ?_) (fun _ => ?_))
    all_goals (conv => whnf)
    all_goals try simp only [decide_eq_true_eq, decide_eq_false_iff_not] at *
    · rename_i h
      rw [if_pos h] at hm
      rw [← hm]; exact DLe.refl _
    · rename_i h
      rw [if_neg h] at hm
      exact ⟨i + 1, Wm.end (by repeat (first | exact trivial | refine And.intro rfl ?_ | refine And.intro (congrArg (fun n => V.d (I n)) (wrap_nat _ (by omega))) ?_)) rfl rfl rfl, ⟨hlt, hm⟩, by omega⟩
  · have : i = l.length := by omega
    subst this
    rw [List.drop_length] at hm
    rw [← hm]
    repeat' ((conv => whnf); first | refine Dec.t (by omega) ?_ | refine Dec.f (by omega) ?_ | refine Dec.split (fun _ => ?_) (fun _ => ?_) | refine Wr.id (by omega) ?_ | refine Chk.mk (by first | omega | exact rfl | (simp only [List.length_map]; omega) | (simp [room]; done) | (simp [room]; omega)) ?_ | refine Nam.mk (List.length_map _) ?_ | refine Prep.skip ?_ | refine br_mk (fun _ => ?_) (fun _ => ?_))
    all_goals (conv => whnf)
    exact DLe.refl _
theorem request_ContainsFunc (g : FuncId) (l : List (Request)) (p : Request → Prop) [DecidablePred p] (hl : l.length < 2 ^ 40) (hp : ∀ x ∈ l, CallP Try.prog g [.d (Request.d x)] (retD [.b (decide (p x))])) :
    CallP Try.prog 32 [.d (SL 6 (l.map Request.d)), .fn g []] (retD [.b (decide (∃ x ∈ l, p x))]) := by
  refine exPure_sound (E := envOf Try.prog tt Try.f32.ntmps) (envOf_ok ttok mixed) Try.func32 (by rfl) rfl rfl (Nat.le_of_ble_eq_true rfl) ?_
  repeat' ((conv => whnf); first | refine Dec.t (by omega) ?_ | refine Dec.f (by omega) ?_ | refine Dec.split (fun _ => ?_) (fun _ => ?_) | refine Wr.id (by omega) ?_ | refine Chk.mk (by first | omega | exact rfl | (simp only [List.length_map]; omega) | (simp [room]; done) | (simp [room]; omega)) ?_ | refine Nam.mk (List.length_map _) ?_ | refine Prep.skip ?_ | refine br_mk (fun _ => ?_) (fun _ => ?_) | refine ACall.of (request_IndexFunc g l p hl hp) ?_)
  all_goals (conv => whnf)
  · rename_i h
    rw [decide_eq_true ((idxM_nonneg l).1 h)]; exact DLe.refl _
  · rename_i h
    rw [decide_eq_false (fun hh => h ((idxM_nonneg l).2 hh))]; exact DLe.refl _


theorem slices_Equal_bool (a b : List (Bool)) (hl : a.length < 2 ^ 40)  : CallP Try.prog 57 [.d (SL 1 (a.map B)), .d (SL 1 (b.map B))] (retD [.b (decide (a = b))]) := by
  refine exPure_sound (E := envOf Try.prog tt Try.f57.ntmps) (envOf_ok ttok mixed) Try.func57 (by rfl) rfl rfl (Nat.le_of_ble_eq_true rfl) ?_
  by_cases he : a.length = b.length
  · repeat' ((conv => whnf); first | refine Dec.t (by omega) ?_ | refine Dec.f (by omega) ?_ | refine Dec.split (fun _ => ?_) (fun _ => ?_) | refine Wr.id (by omega) ?_ | refine Chk.mk (by first | omega | exact rfl | (simp only [List.length_map]; omega) | (simp [room]; done) | (simp [room]; omega)) ?_ | refine Nam.mk (List.length_map _) ?_ | refine Prep.skip ?_ | refine br_mk (fun _ => ?_) (fun _ => ?_))
    conv => whnf
    refine ALoop.at (E := envOf Try.prog tt Try.f57.ntmps) (envOf_ok ttok mixed) (X := Nat) (fun i => [(13, .d (I i))]) (fun _ => []) (fun i => i ≤ a.length ∧ a.take i = b.take i) (fun i => a.length - i) 0 (by repeat (first | exact trivial | refine And.intro rfl ?_ | refine And.intro (congrArg (fun n => V.d (I n)) (wrap_nat _ (by omega))) ?_)) rfl ⟨Nat.zero_le _, rfl⟩ ?_
    rintro i ⟨hi, hm⟩
    by_cases hlt : i < a.length
    · obtain ⟨x, hx, _⟩ := drop_get hlt
      obtain ⟨y, hy, _⟩ := drop_get (l := b) (i := i) (by omega)
      repeat' ((conv => whnf); first | refine Dec.t (by omega) ?_ | refine Dec.f (by omega) ?_ | refine Dec.split (fun _ => ?_) (fun _ => ?_) | refine Wr.id (by omega) ?_ | refine Chk.mk (by first | omega | exact rfl | (simp only [List.length_map]; omega) | (simp [room]; done) | (simp [room]; omega)) ?_ | refine Nam.mk (List.length_map _) ?_ | refine Prep.skip ?_ | refine br_mk (fun _ => ?_) (fun _ => ?_) | refine nthK_mk (map_get hx) ?_ | refine nthK_mk (map_get hy) ?_ | fail)
      all_goals (conv => whnf)
      all_goals try simp only [decide_eq_true_eq, decide_eq_false_iff_not] at *
      all_goals first
        | (have e : x = y := by first | assumption | (simp_all; done)
           subst e
           refine ⟨i + 1, Wm.end (by repeat (first | exact trivial | refine And.intro rfl ?_ | refine And.intro (congrArg (fun n => V.d (I n)) (wrap_nat _ (by omega))) ?_)) rfl rfl rfl, ⟨hlt, ?_⟩, by omega⟩
           rw [List.take_add_one, List.take_add_one, hm, hx, hy])
        | (have e : ¬ x = y := by first | assumption | (simp_all; done)
           rw [decide_eq_false (fun h => e (by subst h; rw [hx] at hy; exact Option.some.inj hy))]; exact DLe.refl _)
    · have : i = a.length := by omega
      subst this
      rw [List.take_length, he, List.take_length] at hm
      repeat' ((conv => whnf); first | refine Dec.t (by omega) ?_ | refine Dec.f (by omega) ?_ | refine Dec.split (fun _ => ?_) (fun _ => ?_) | refine Wr.id (by omega) ?_ | refine Chk.mk (by first | omega | exact rfl | (simp only [List.length_map]; omega) | (simp [room]; done) | (simp [room]; omega)) ?_ | refine Nam.mk (List.length_map _) ?_ | refine Prep.skip ?_ | refine br_mk (fun _ => ?_) (fun _ => ?_))
      all_goals (conv => whnf)
      rw [decide_eq_true hm]; exact DLe.refl _
  · repeat' ((conv => whnf); first | refine Dec.t (by omega) ?_ | refine Dec.f (by omega) ?_ | refine Dec.split (fun _ => ?_) (fun _ => ?_) | refine Wr.id (by omega) ?_ | refine Chk.mk (by first | omega | exact rfl | (simp only [List.length_map]; omega) | (simp [room]; done) | (simp [room]; omega)) ?_ | refine Nam.mk (List.length_map _) ?_ | refine Prep.skip ?_ | refine br_mk (fun _ => ?_) (fun _ => ?_))
    all_goals (conv => whnf)
    rw [decide_eq_false (fun h => he (by rw [h]))]; exact DLe.refl _


theorem order_before (f g : Fact) : order g f ≤ 0 ↔ ¬ before f g := by
  unfold order before
  simp only [orL, cmpI]
  by_cases h1 : g.known < f.known
  · simp [h1]; omega
  · by_cases h2 : f.known < g.known
    · simp [h1, h2]
    · have h3 : g.known = f.known := by omega
      by_cases h4 : g.no < f.no
      · simp [h3, h4]; omega
      · by_cases h5 : f.no < g.no
        · simp [h3, h4, h5]
        · simp [h3, h4, h5]

def bI : Option Nat → Int
  | none => -1
  | some j => j
set_option maxHeartbeats 1000000 in
theorem ref04_At (l : List Fact) (k : Key) (day known : Int) (hl : l.length < 2 ^ 40) : CallP Try.prog 42 [.d (SL 8 (l.map Fact.d)), .d k.d, .d (I day), .d (I known)] (retD [I ((atM l k day known).getD 0), .b (atM l k day known).isSome]) := by
  refine exPure_sound (E := envOf Try.prog tt Try.f42.ntmps) (envOf_ok ttok mixed) Try.func42 (by rfl) rfl rfl (Nat.le_of_ble_eq_true rfl) ?_
  repeat' ((conv => whnf); first | refine Dec.t (by omega) ?_ | refine Dec.f (by omega) ?_ | refine Dec.split (fun _ => ?_) (fun _ => ?_) | refine Wr.id (by omega) ?_ | refine Chk.mk (by first | omega | exact rfl | (simp only [List.length_map]; omega) | (simp [room]; done) | (simp [room]; omega)) ?_ | refine Nam.mk (List.length_map _) ?_ | refine Prep.skip ?_ | refine br_mk (fun _ => ?_) (fun _ => ?_))
  conv => whnf
  refine ALoop.at (E := envOf Try.prog tt Try.f42.ntmps) (envOf_ok ttok mixed) (X := Nat × Option Nat) (fun x => [(11, .d (I x.1)), (10, .d (I (bI x.2)))]) (fun _ => [])
    (fun x => x.1 ≤ l.length ∧ (∀ j, x.2 = some j → j < l.length) ∧ (l.drop x.1).foldl (atStep k day known) (x.2.bind fun j => l[j]?) = atF l k day known) (fun x => l.length - x.1) (0, none) (by repeat (first | exact trivial | refine And.intro rfl ?_ | refine And.intro (congrArg (fun n => V.d (I n)) (wrap_nat _ (by omega))) ?_)) rfl ⟨Nat.zero_le _, by simp, rfl⟩ ?_
  rintro ⟨i, b⟩ ⟨hi, hb, hm⟩
  simp only at hi hm hb
  by_cases hlt : i < l.length
  · obtain ⟨f, hx, hd⟩ := drop_get hlt
    rw [hd, List.foldl_cons] at hm
    have yes : hits k day known (b.bind fun j => l[j]?) f → (l.drop (i + 1)).foldl (atStep k day known) ((some i).bind fun j => l[j]?) = atF l k day known := fun h => by rw [← hm, atStep, if_pos h]; simp [hx]
    have no : ¬ hits k day known (b.bind fun j => l[j]?) f → (l.drop (i + 1)).foldl (atStep k day known) (b.bind fun j => l[j]?) = atF l k day known := fun h => by rw [← hm, atStep, if_neg h]
    clear hm hd
    cases b with
    | none =>
      dsimp only [bI]
      repeat' ((conv => whnf); first | refine Dec.t (by omega) ?_ | refine Dec.f (by omega) ?_ | refine Dec.split (fun _ => ?_) (fun _ => ?_) | refine Wr.id (by omega) ?_ | refine Chk.mk (by first | omega | exact rfl | (simp only [List.length_map]; omega) | (simp [room]; done) | (simp [room]; omega)) ?_ | refine Nam.mk (List.length_map _) ?_ | refine Prep.skip ?_ | refine br_mk (fun _ => ?_) (fun _ => ?_) | refine nthK_mk (map_get hx) ?_ | refine Nam.dec (eqKey f.key k) (fun _ => ?_) (fun _ => ?_) | refine Dec.t (show (-1 : Int) < 0 by decide) ?_)
      all_goals (conv => whnf)
      all_goals first
        | (have hh : hits k day known none f := ⟨by assumption, by assumption, by assumption, by assumption, by simp [newer]⟩
           refine ⟨(i + 1, some i), Wm.end (by repeat (first | exact trivial | refine And.intro rfl ?_ | refine And.intro (congrArg (fun n => V.d (I n)) (wrap_nat _ (by omega))) ?_)) rfl rfl rfl, ⟨hlt, fun j hj => by cases hj; exact hlt, yes hh⟩, ?_⟩; simp only; omega)
        | (have hh : ¬ hits k day known none f := by (rintro ⟨h1, h2, h3, h4, h5⟩; first | contradiction | omega)
           refine ⟨(i + 1, none), Wm.end (by repeat (first | exact trivial | refine And.intro rfl ?_ | refine And.intro (congrArg (fun n => V.d (I n)) (wrap_nat _ (by omega))) ?_)) rfl rfl rfl, ⟨hlt, by simp, no hh⟩, ?_⟩; simp only; omega)
    | some j =>
      obtain ⟨g, hg, _⟩ := drop_get (hb j rfl)
      have ho : ((some j).bind fun j => l[j]?) = some g := by simp [hg]
      rw [ho] at yes no
      dsimp only [bI]
      repeat' ((conv => whnf); first | refine Dec.t (by omega) ?_ | refine Dec.f (by omega) ?_ | refine Dec.split (fun _ => ?_) (fun _ => ?_) | refine Wr.id (by omega) ?_ | refine Chk.mk (by first | omega | exact rfl | (simp only [List.length_map]; omega) | (simp [room]; done) | (simp [room]; omega)) ?_ | refine Nam.mk (List.length_map _) ?_ | refine Prep.skip ?_ | refine br_mk (fun _ => ?_) (fun _ => ?_) | refine nthK_mk (map_get hx) ?_ | refine nthK_mk (map_get hg) ?_ | refine Nam.dec (eqKey f.key k) (fun _ => ?_) (fun _ => ?_) | refine Dec.f (show ¬ ((j : Int) < 0) by omega) ?_ | refine APCall.ofB (ref04_Before f g) (fun _ => ?_) (fun _ => ?_))
      all_goals (conv => whnf)
      all_goals try simp only [decide_eq_true_eq, decide_eq_false_iff_not] at *
      all_goals first
        | (have hh : hits k day known (some g) f := ⟨by assumption, by assumption, by assumption, by assumption, by (simp only [newer, Option.some.injEq, forall_eq']; exact (order_before f g).2 (by assumption))⟩
           refine ⟨(i + 1, some i), Wm.end (by repeat (first | exact trivial | refine And.intro rfl ?_ | refine And.intro (congrArg (fun n => V.d (I n)) (wrap_nat _ (by omega))) ?_)) rfl rfl rfl, ⟨hlt, fun j hj => by cases hj; exact hlt, yes hh⟩, ?_⟩; simp only; omega)
        | (have hh : ¬ hits k day known (some g) f := by (rintro ⟨h1, h2, h3, h4, h5⟩; first | contradiction | omega | exact absurd ((order_before f g).1 (h5 g rfl)) (by simpa using (by assumption : before f g)))
           refine ⟨(i + 1, some j), Wm.end (by repeat (first | exact trivial | refine And.intro rfl ?_ | refine And.intro (congrArg (fun n => V.d (I n)) (wrap_nat _ (by omega))) ?_)) rfl rfl rfl, ⟨hlt, hb, by rw [ho]; exact no hh⟩, ?_⟩; simp only; omega)
  · have : i = l.length := by omega
    subst this
    rw [List.drop_length, List.foldl_nil] at hm
    have e : atM l k day known = valOf (b.bind fun j => l[j]?) := by unfold atM; rw [← hm]
    clear hm
    rw [e]
    cases b with
    | none =>
      dsimp only [bI]
      repeat' ((conv => whnf); first | refine Dec.t (by omega) ?_ | refine Dec.f (by omega) ?_ | refine Dec.split (fun _ => ?_) (fun _ => ?_) | refine Wr.id (by omega) ?_ | refine Chk.mk (by first | omega | exact rfl | (simp only [List.length_map]; omega) | (simp [room]; done) | (simp [room]; omega)) ?_ | refine Nam.mk (List.length_map _) ?_ | refine Prep.skip ?_ | refine br_mk (fun _ => ?_) (fun _ => ?_) | refine Dec.t (show (-1 : Int) < 0 by decide) ?_)
      all_goals (conv => whnf)
      exact (by repeat (first | exact trivial | exact rfl | exact DLe.refl _ | exact DLe.full _ _ _ | exact DLe.nil _ _ _ | exact VLe.refl _ | refine And.intro ?_ ?_ | refine VLe.d ?_ | refine DLe.agg ?_))
    | some j =>
      obtain ⟨g, hg, _⟩ := drop_get (hb j rfl)
      have ho : ((some j).bind fun j => l[j]?) = some g := by simp [hg]
      rw [ho]
      dsimp only [bI]
      repeat' ((conv => whnf); first | refine Dec.t (by omega) ?_ | refine Dec.f (by omega) ?_ | refine Dec.split (fun _ => ?_) (fun _ => ?_) | refine Wr.id (by omega) ?_ | refine Chk.mk (by first | omega | exact rfl | (simp only [List.length_map]; omega) | (simp [room]; done) | (simp [room]; omega)) ?_ | refine Nam.mk (List.length_map _) ?_ | refine Prep.skip ?_ | refine br_mk (fun _ => ?_) (fun _ => ?_) | refine nthK_mk (map_get hg) ?_ | refine Dec.f (show ¬ ((j : Int) < 0) by omega) ?_)
      all_goals (conv => whnf)
      all_goals (rename_i h)
      · have h : g.value < 0 := h
        rw [valOf, if_pos h]; exact (by repeat (first | exact trivial | exact rfl | exact DLe.refl _ | exact DLe.full _ _ _ | exact DLe.nil _ _ _ | exact VLe.refl _ | refine And.intro ?_ ?_ | refine VLe.d ?_ | refine DLe.agg ?_))
      · have h : ¬ g.value < 0 := h
        rw [valOf, if_neg h]; exact (by repeat (first | exact trivial | exact rfl | exact DLe.refl _ | exact DLe.full _ _ _ | exact DLe.nil _ _ _ | exact VLe.refl _ | refine And.intro ?_ ?_ | refine VLe.d ?_ | refine DLe.agg ?_))

theorem ref29_Fits (w : AWorld) (s : Supply) (r : Request) (known : Int) (hl : w.swaps.length < 2 ^ 40) (hf : w.facts.length < 2 ^ 40) : CallP Try.prog 17 [.d w.d, .d s.d, .d r.d, .d (I known)] (retD [.b (fitsM w s r known).1, SL 5 ((fitsM w s r known).2.map Read.d)]) := by
  refine exPure_sound (E := envOf Try.prog tt Try.f17.ntmps) (envOf_ok ttok mixed) Try.func17 (by rfl) rfl rfl (Nat.le_of_ble_eq_true rfl) ?_
  unfold fitsM
  by_cases hs : s.ok
  · by_cases hr : r.ok
    · have hr' := hr
      unfold Request.ok at hr'
      by_cases hc : couldM w s r
      · have hc' := hc
        obtain ⟨c1, c2, c3⟩ := hc'
        have ha := ref04_At w.facts (lookM s r).key (lookM s r).from_ known hf
        rw [if_pos ⟨hs, hr, hc⟩]
        cases h0 : atM w.facts (lookM s r).key (lookM s r).from_ known with
        | none =>
          rw [h0] at ha
          rw [decide_eq_false (show ¬ refusedM w (lookM s r) known by unfold refusedM; rw [h0]; simp)]
          repeat' ((conv => whnf); first | refine Dec.t (by omega) ?_ | refine Dec.f (by omega) ?_ | refine Dec.split (fun _ => ?_) (fun _ => ?_) | refine Wr.id (by omega) ?_ | refine Chk.mk (by first | omega | exact rfl | (simp only [List.length_map]; omega) | (simp [room]; done) | (simp [room]; omega)) ?_ | refine Nam.mk (List.length_map _) ?_ | refine Prep.skip ?_ | refine br_mk (fun _ => ?_) (fun _ => ?_) | refine ACall.ofB (ref29_Supply s) (fun _ => ?_) (fun h => absurd hs (of_decide_eq_false h)) | refine ACall.ofB (ref29_Request r) (fun _ => ?_) (fun h => absurd hr (of_decide_eq_false h)) | refine ACall.ofB (ref29_used w _ _ hl) (fun _ => ?_) (fun h => absurd c3 (of_decide_eq_false h)) | refine ACall.of ha ?_)
          all_goals (conv => whnf)
          all_goals exact (by repeat (first | exact trivial | exact rfl | exact DLe.refl _ | exact DLe.full _ _ _ | exact DLe.nil _ _ _ | exact VLe.refl _ | refine And.intro ?_ ?_ | refine VLe.d ?_ | refine DLe.agg ?_))
        | some n =>
          rw [h0] at ha
          repeat' ((conv => whnf); first | refine Dec.t (by omega) ?_ | refine Dec.f (by omega) ?_ | refine Dec.split (fun _ => ?_) (fun _ => ?_) | refine Wr.id (by omega) ?_ | refine Chk.mk (by first | omega | exact rfl | (simp only [List.length_map]; omega) | (simp [room]; done) | (simp [room]; omega)) ?_ | refine Nam.mk (List.length_map _) ?_ | refine Prep.skip ?_ | refine br_mk (fun _ => ?_) (fun _ => ?_) | refine ACall.ofB (ref29_Supply s) (fun _ => ?_) (fun h => absurd hs (of_decide_eq_false h)) | refine ACall.ofB (ref29_Request r) (fun _ => ?_) (fun h => absurd hr (of_decide_eq_false h)) | refine ACall.ofB (ref29_used w _ _ hl) (fun _ => ?_) (fun h => absurd c3 (of_decide_eq_false h)) | refine ACall.of ha ?_)
          all_goals (conv => whnf)
          all_goals (rename_i h)
          · have h : n = 1 := h
            rw [decide_eq_true (show refusedM w (lookM s r) known by unfold refusedM; rw [h0, h])]; exact (by repeat (first | exact trivial | exact rfl | exact DLe.refl _ | exact DLe.full _ _ _ | exact DLe.nil _ _ _ | exact VLe.refl _ | refine And.intro ?_ ?_ | refine VLe.d ?_ | refine DLe.agg ?_))
          · have h : ¬ n = 1 := h
            rw [decide_eq_false (show ¬ refusedM w (lookM s r) known by unfold refusedM; rw [h0]; simpa using h)]; exact (by repeat (first | exact trivial | exact rfl | exact DLe.refl _ | exact DLe.full _ _ _ | exact DLe.nil _ _ _ | exact VLe.refl _ | refine And.intro ?_ ?_ | refine VLe.d ?_ | refine DLe.agg ?_))
      · rw [if_neg (fun h => hc h.2.2)]
        repeat' ((conv => whnf); first | refine Dec.t (by omega) ?_ | refine Dec.f (by omega) ?_ | refine Dec.split (fun _ => ?_) (fun _ => ?_) | refine Wr.id (by omega) ?_ | refine Chk.mk (by first | omega | exact rfl | (simp only [List.length_map]; omega) | (simp [room]; done) | (simp [room]; omega)) ?_ | refine Nam.mk (List.length_map _) ?_ | refine Prep.skip ?_ | refine br_mk (fun _ => ?_) (fun _ => ?_) | refine ACall.ofB (ref29_Supply s) (fun _ => ?_) (fun h => absurd hs (of_decide_eq_false h)) | refine ACall.ofB (ref29_Request r) (fun _ => ?_) (fun h => absurd hr (of_decide_eq_false h)) | refine ACall.ofB (ref29_used w _ _ hl) (fun _ => ?_) (fun _ => ?_))
        all_goals (conv => whnf)
        all_goals try simp only [decide_eq_true_eq, decide_eq_false_iff_not] at *
        all_goals first
          | exact absurd (show couldM w s r from ⟨by omega, by omega, by assumption⟩) hc
          | exact (by repeat (first | exact trivial | exact rfl | exact DLe.refl _ | exact DLe.full _ _ _ | exact DLe.nil _ _ _ | exact VLe.refl _ | refine And.intro ?_ ?_ | refine VLe.d ?_ | refine DLe.agg ?_))
    · rw [if_neg (fun h => hr h.2.1)]
      repeat' ((conv => whnf); first | refine Dec.t (by omega) ?_ | refine Dec.f (by omega) ?_ | refine Dec.split (fun _ => ?_) (fun _ => ?_) | refine Wr.id (by omega) ?_ | refine Chk.mk (by first | omega | exact rfl | (simp only [List.length_map]; omega) | (simp [room]; done) | (simp [room]; omega)) ?_ | refine Nam.mk (List.length_map _) ?_ | refine Prep.skip ?_ | refine br_mk (fun _ => ?_) (fun _ => ?_) | refine ACall.ofB (ref29_Supply s) (fun _ => ?_) (fun _ => ?_) | refine ACall.ofB (ref29_Request r) (fun h => absurd (of_decide_eq_true h) hr) (fun _ => ?_))
      all_goals (conv => whnf)
      all_goals exact (by repeat (first | exact trivial | exact rfl | exact DLe.refl _ | exact DLe.full _ _ _ | exact DLe.nil _ _ _ | exact VLe.refl _ | refine And.intro ?_ ?_ | refine VLe.d ?_ | refine DLe.agg ?_))
  · rw [if_neg (fun h => hs h.1)]
    repeat' ((conv => whnf); first | refine Dec.t (by omega) ?_ | refine Dec.f (by omega) ?_ | refine Dec.split (fun _ => ?_) (fun _ => ?_) | refine Wr.id (by omega) ?_ | refine Chk.mk (by first | omega | exact rfl | (simp only [List.length_map]; omega) | (simp [room]; done) | (simp [room]; omega)) ?_ | refine Nam.mk (List.length_map _) ?_ | refine Prep.skip ?_ | refine br_mk (fun _ => ?_) (fun _ => ?_) | refine ACall.ofB (ref29_Supply s) (fun h => absurd (of_decide_eq_true h) hs) (fun _ => ?_))
    all_goals (conv => whnf)
    all_goals exact (by repeat (first | exact trivial | exact rfl | exact DLe.refl _ | exact DLe.full _ _ _ | exact DLe.nil _ _ _ | exact VLe.refl _ | refine And.intro ?_ ?_ | refine VLe.d ?_ | refine DLe.agg ?_))
end Go.PM

