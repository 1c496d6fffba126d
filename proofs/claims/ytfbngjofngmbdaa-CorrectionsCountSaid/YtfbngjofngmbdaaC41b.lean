/- Package corrections and its reference: now, Apply. -/
import Derived.Test.YtfbngjofngmbdaaC41a
namespace Go.PM
open Go.Proofs
set_option maxRecDepth 10000
set_option maxHeartbeats 4000000


theorem corr_IndexFunc (g : FuncId) (l : List (Corr)) (p : Corr → Prop) [DecidablePred p] (hl : l.length < 2 ^ 40) (hp : ∀ x ∈ l, CallP Try.prog g [.d (Corr.d x)] (retD [.b (decide (p x))])) :
    CallP Try.prog 36 [.d (SL 6 (l.map Corr.d)), .fn g []] (retD [I (idxM p l)]) := by
  refine exPure_sound (E := envOf Try.prog tt Try.f36.ntmps) (envOf_ok ttok mixed) Try.func36 (by rfl) rfl rfl (Nat.le_of_ble_eq_true rfl) ?_
  repeat' ((conv => whnf); first | with_reducible refine Dec.t (show true = true from rfl) ?_ | with_reducible refine Dec.t (show false = false from rfl) ?_ | with_reducible refine Dec.f (show ¬ (true = false) by decide) ?_ | with_reducible refine Dec.f (show ¬ (false = true) by decide) ?_ | refine Dec.t (by omega) ?_ | refine Dec.f (by omega) ?_ | refine Dec.split (fun _ => ?_) (fun _ => ?_) | refine Wr.id (by omega) ?_ | refine Chk.mk (by first | omega | exact rfl | (simp only [List.length_map]; omega) | (simp [room]; done) | (simp [room]; omega) | (simp [dropL, room]; done) | (simp [dropL, room]; omega)) ?_ | refine Nam.mk (List.length_map _) ?_ | refine Prep.skip ?_ | refine Eith.l ?_ | refine chk_t (x := D.flat _) (by assumption) ?_ | refine br_mk (fun _ => ?_) (fun _ => ?_))
  conv => whnf
  refine ALoop.at (E := envOf Try.prog tt Try.f36.ntmps) (envOf_ok ttok mixed) (X := Nat) (fun i => [(8, .d (I i))]) (fun _ => []) (fun i => i ≤ l.length ∧ idxFrom p (l.drop i) i = idxM p l) (fun i => l.length - i) 0 (by repeat (first | exact trivial | refine And.intro rfl ?_ | refine And.intro (congrArg (fun n => V.d (I n)) (wrap_nat _ (by omega))) ?_)) rfl ⟨Nat.zero_le _, rfl⟩ ?_
  rintro i ⟨hi, hm⟩
  by_cases hlt : i < l.length
  · obtain ⟨x, hx, hd⟩ := drop_get hlt
    rw [hd, idxFrom] at hm
    repeat' ((conv => whnf); first | with_reducible refine Dec.t (show true = true from rfl) ?_ | with_reducible refine Dec.t (show false = false from rfl) ?_ | with_reducible refine Dec.f (show ¬ (true = false) by decide) ?_ | with_reducible refine Dec.f (show ¬ (false = true) by decide) ?_ | refine Dec.t (by omega) ?_ | refine Dec.f (by omega) ?_ | refine Dec.split (fun _ => ?_) (fun _ => ?_) | refine Wr.id (by omega) ?_ | refine Chk.mk (by first | omega | exact rfl | (simp only [List.length_map]; omega) | (simp [room]; done) | (simp [room]; omega) | (simp [dropL, room]; done) | (simp [dropL, room]; omega)) ?_ | refine Nam.mk (List.length_map _) ?_ | refine Prep.skip ?_ | refine Eith.l ?_ | refine chk_t (x := D.flat _) (by assumption) ?_ | refine br_mk (fun _ => ?_) (fun _ => ?_) | refine nthK_mk (map_get hx) ?_ | refine ACall.ofB (hp x (List.mem_of_getElem? hx)) (fun _ => ?_) (fun _ => ?_))
    all_goals (conv => whnf)
    all_goals try simp only [decide_eq_true_eq, decide_eq_false_iff_not] at *
    · rename_i h
      rw [if_pos h] at hm
      rw [← hm]; exact DLe.refl _
    · rename_i h
      rw [if_neg h] at hm
      exact ⟨i + 1, Wm.end (by repeat (first | exact trivial | refine And.intro rfl ?_ | refine And.intro (congrArg (fun n => V.d (I n)) (wrap_nat _ (by omega))) ?_)) rfl rfl rfl, ⟨hlt, hm⟩, by omega⟩
  · have : i = l.length := by omega
    subst this
    rw [List.drop_length] at hm
    rw [← hm]
    repeat' ((conv => whnf); first | with_reducible refine Dec.t (show true = true from rfl) ?_ | with_reducible refine Dec.t (show false = false from rfl) ?_ | with_reducible refine Dec.f (show ¬ (true = false) by decide) ?_ | with_reducible refine Dec.f (show ¬ (false = true) by decide) ?_ | refine Dec.t (by omega) ?_ | refine Dec.f (by omega) ?_ | refine Dec.split (fun _ => ?_) (fun _ => ?_) | refine Wr.id (by omega) ?_ | refine Chk.mk (by first | omega | exact rfl | (simp only [List.length_map]; omega) | (simp [room]; done) | (simp [room]; omega) | (simp [dropL, room]; done) | (simp [dropL, room]; omega)) ?_ | refine Nam.mk (List.length_map _) ?_ | refine Prep.skip ?_ | refine Eith.l ?_ | refine chk_t (x := D.flat _) (by assumption) ?_ | refine br_mk (fun _ => ?_) (fun _ => ?_))
    all_goals (conv => whnf)
    exact DLe.refl _
theorem corr_ContainsFunc (g : FuncId) (l : List (Corr)) (p : Corr → Prop) [DecidablePred p] (hl : l.length < 2 ^ 40) (hp : ∀ x ∈ l, CallP Try.prog g [.d (Corr.d x)] (retD [.b (decide (p x))])) :
    CallP Try.prog 20 [.d (SL 6 (l.map Corr.d)), .fn g []] (retD [.b (decide (∃ x ∈ l, p x))]) := by
  refine exPure_sound (E := envOf Try.prog tt Try.f20.ntmps) (envOf_ok ttok mixed) Try.func20 (by rfl) rfl rfl (Nat.le_of_ble_eq_true rfl) ?_
  repeat' ((conv => whnf); first | with_reducible refine Dec.t (show true = true from rfl) ?_ | with_reducible refine Dec.t (show false = false from rfl) ?_ | with_reducible refine Dec.f (show ¬ (true = false) by decide) ?_ | with_reducible refine Dec.f (show ¬ (false = true) by decide) ?_ | refine Dec.t (by omega) ?_ | refine Dec.f (by omega) ?_ | refine Dec.split (fun _ => ?_) (fun _ => ?_) | refine Wr.id (by omega) ?_ | refine Chk.mk (by first | omega | exact rfl | (simp only [List.length_map]; omega) | (simp [room]; done) | (simp [room]; omega) | (simp [dropL, room]; done) | (simp [dropL, room]; omega)) ?_ | refine Nam.mk (List.length_map _) ?_ | refine Prep.skip ?_ | refine Eith.l ?_ | refine chk_t (x := D.flat _) (by assumption) ?_ | refine br_mk (fun _ => ?_) (fun _ => ?_) | refine ACall.of (corr_IndexFunc g l p hl hp) ?_)
  all_goals (conv => whnf)
  · rename_i h
    rw [decide_eq_true ((idxM_nonneg l).1 h)]; exact DLe.refl _
  · rename_i h
    rw [decide_eq_false (fun hh => h ((idxM_nonneg l).2 hh))]; exact DLe.refl _

def stepN (n : Int) (f : Fact) : Int := if f.known > n then f.known else n
def nowR (l : List Fact) : Int := l.foldl stepN 0
def nowP : List Fact → Int
  | [] => 0
  | f :: r => r.foldl stepN f.known
theorem nowP_snoc {l : List Fact} (f : Fact) (h : l ≠ []) : nowP (l ++ [f]) = stepN (nowP l) f := by
  cases l with
  | nil => exact absurd rfl h
  | cons g r => show List.foldl stepN g.known (r ++ [f]) = _; rw [List.foldl_append]; rfl
theorem nowR_snoc (l : List Fact) (f : Fact) : nowR (l ++ [f]) = stepN (nowR l) f := by unfold nowR; rw [List.foldl_append]; rfl
theorem stepN_ge (f : Fact) (n : Int) : n ≤ stepN n f ∧ f.known ≤ stepN n f := by unfold stepN; split <;> omega
theorem nowR_eq {l : List Fact} (h : ∀ f ∈ l, 1 ≤ f.known) : nowP l = nowR l := by
  cases l with
  | nil => rfl
  | cons f r =>
    show r.foldl stepN f.known = r.foldl stepN (stepN 0 f)
    have := h f (.head _)
    rw [show stepN 0 f = f.known by unfold stepN; rw [if_pos (by omega)]]
theorem corr_now (l : List Fact) (hl : l.length < 2 ^ 40) : CallP Try.prog 24 [.d (SL 8 (l.map Fact.d))] (retD [I (nowP l)]) := by
  refine exPure_sound (E := envOf Try.prog tt Try.f24.ntmps) (envOf_ok ttok mixed) Try.func24 (by rfl) rfl rfl (Nat.le_of_ble_eq_true rfl) ?_
  repeat' ((conv => whnf); first | with_reducible refine Dec.t (show true = true from rfl) ?_ | with_reducible refine Dec.t (show false = false from rfl) ?_ | with_reducible refine Dec.f (show ¬ (true = false) by decide) ?_ | with_reducible refine Dec.f (show ¬ (false = true) by decide) ?_ | refine Dec.t (by omega) ?_ | refine Dec.f (by omega) ?_ | refine Dec.split (fun _ => ?_) (fun _ => ?_) | refine Wr.id (by omega) ?_ | refine Chk.mk (by first | omega | exact rfl | (simp only [List.length_map]; omega) | (simp [room]; done) | (simp [room]; omega) | (simp [dropL, room]; done) | (simp [dropL, room]; omega)) ?_ | refine Nam.mk (List.length_map _) ?_ | refine Prep.skip ?_ | refine Eith.l ?_ | refine chk_t (x := D.flat _) (by assumption) ?_ | refine br_mk (fun _ => ?_) (fun _ => ?_) | fail)
  conv => whnf
  refine ALoop.at (E := envOf Try.prog tt Try.f24.ntmps) (envOf_ok ttok mixed) (X := Nat) (fun i => [(7, .d (I i)), (2, .d (I (nowP (l.take i))))]) (fun _ => []) (fun i => i ≤ l.length) (fun i => l.length - i) 0 (by repeat (first | exact trivial | refine And.intro rfl ?_ | refine And.intro (congrArg (fun n => V.d (I n)) (wrap_nat _ (by omega))) ?_)) rfl (Nat.zero_le _) ?_
  intro i hi
  by_cases hlt : i < l.length
  · obtain ⟨f, hx, _⟩ := drop_get hlt
    have hs : 0 < i → nowP (l.take (i + 1)) = stepN (nowP (l.take i)) f := fun h0 => by
      rw [List.take_add_one, hx]
      exact nowP_snoc f (by intro hn; have := congrArg List.length hn; rw [List.length_take, Nat.min_eq_left (by omega)] at this; exact absurd this (by simp only [List.length_nil]; omega))
    have h0 : i = 0 → nowP (l.take (i + 1)) = f.known := fun h => by subst h; rw [List.take_add_one, hx]; rfl
    repeat' ((conv => whnf); first | with_reducible refine Dec.t (show true = true from rfl) ?_ | with_reducible refine Dec.t (show false = false from rfl) ?_ | with_reducible refine Dec.f (show ¬ (true = false) by decide) ?_ | with_reducible refine Dec.f (show ¬ (false = true) by decide) ?_ | refine Dec.t (by omega) ?_ | refine Dec.f (by omega) ?_ | refine Dec.split (fun _ => ?_) (fun _ => ?_) | refine Wr.id (by omega) ?_ | refine Chk.mk (by first | omega | exact rfl | (simp only [List.length_map]; omega) | (simp [room]; done) | (simp [room]; omega) | (simp [dropL, room]; done) | (simp [dropL, room]; omega)) ?_ | refine Nam.mk (List.length_map _) ?_ | refine Prep.skip ?_ | refine Eith.l ?_ | refine chk_t (x := D.flat _) (by assumption) ?_ | refine br_mk (fun _ => ?_) (fun _ => ?_) | refine nthK_mk (map_get hx) ?_ | fail)
    all_goals (conv => whnf)
    all_goals try simp only [decide_eq_true_eq, decide_eq_false_iff_not] at *
    all_goals first
      | (exfalso; omega)
      | (have e := h0 (by omega); refine ⟨i + 1, Wm.end (by repeat (first | exact trivial | refine And.intro rfl ?_ | refine And.intro (congrArg (fun n => V.d (I n)) e.symm) ?_)) rfl rfl rfl, hlt, by omega⟩)
      | (have e := (hs (by omega)).trans (if_pos (by omega)); refine ⟨i + 1, Wm.end (by repeat (first | exact trivial | refine And.intro rfl ?_ | refine And.intro (congrArg (fun n => V.d (I n)) e.symm) ?_)) rfl rfl rfl, hlt, by omega⟩)
      | (have e := (hs (by omega)).trans (if_neg (by omega)); refine ⟨i + 1, Wm.end (by repeat (first | exact trivial | refine And.intro rfl ?_ | refine And.intro (congrArg (fun n => V.d (I n)) e.symm) ?_)) rfl rfl rfl, hlt, by omega⟩)
  · have : i = l.length := by omega
    subst this
    rw [List.take_length]
    repeat' ((conv => whnf); first | with_reducible refine Dec.t (show true = true from rfl) ?_ | with_reducible refine Dec.t (show false = false from rfl) ?_ | with_reducible refine Dec.f (show ¬ (true = false) by decide) ?_ | with_reducible refine Dec.f (show ¬ (false = true) by decide) ?_ | refine Dec.t (by omega) ?_ | refine Dec.f (by omega) ?_ | refine Dec.split (fun _ => ?_) (fun _ => ?_) | refine Wr.id (by omega) ?_ | refine Chk.mk (by first | omega | exact rfl | (simp only [List.length_map]; omega) | (simp [room]; done) | (simp [room]; omega) | (simp [dropL, room]; done) | (simp [dropL, room]; omega)) ?_ | refine Nam.mk (List.length_map _) ?_ | refine Prep.skip ?_ | refine Eith.l ?_ | refine chk_t (x := D.flat _) (by assumption) ?_ | refine br_mk (fun _ => ?_) (fun _ => ?_) | fail)
    all_goals (conv => whnf)
    exact (by repeat (first | exact trivial | exact rfl | exact DLe.refl _ | exact DLe.full _ _ _ | exact DLe.nil _ _ _ | exact VLe.refl _ | refine And.intro ?_ ?_ | refine VLe.d ?_ | refine DLe.agg ?_))
theorem ref41_Now (l : List Fact) (hl : l.length < 2 ^ 40) : CallP Try.prog 28 [.d (SL 8 (l.map Fact.d))] (retD [I (nowR l)]) := by
  refine exPure_sound (E := envOf Try.prog tt Try.f28.ntmps) (envOf_ok ttok mixed) Try.func28 (by rfl) rfl rfl (Nat.le_of_ble_eq_true rfl) ?_
  repeat' ((conv => whnf); first | with_reducible refine Dec.t (show true = true from rfl) ?_ | with_reducible refine Dec.t (show false = false from rfl) ?_ | with_reducible refine Dec.f (show ¬ (true = false) by decide) ?_ | with_reducible refine Dec.f (show ¬ (false = true) by decide) ?_ | refine Dec.t (by omega) ?_ | refine Dec.f (by omega) ?_ | refine Dec.split (fun _ => ?_) (fun _ => ?_) | refine Wr.id (by omega) ?_ | refine Chk.mk (by first | omega | exact rfl | (simp only [List.length_map]; omega) | (simp [room]; done) | (simp [room]; omega) | (simp [dropL, room]; done) | (simp [dropL, room]; omega)) ?_ | refine Nam.mk (List.length_map _) ?_ | refine Prep.skip ?_ | refine Eith.l ?_ | refine chk_t (x := D.flat _) (by assumption) ?_ | refine br_mk (fun _ => ?_) (fun _ => ?_) | fail)
  conv => whnf
  refine ALoop.at (E := envOf Try.prog tt Try.f28.ntmps) (envOf_ok ttok mixed) (X := Nat) (fun i => [(3, .d (I (nowR (l.take i)))), (4, .d (I i))]) (fun _ => []) (fun i => i ≤ l.length) (fun i => l.length - i) 0 (by repeat (first | exact trivial | refine And.intro rfl ?_ | refine And.intro (congrArg (fun n => V.d (I n)) (wrap_nat _ (by omega))) ?_)) rfl (Nat.zero_le _) ?_
  intro i hi
  by_cases hlt : i < l.length
  · obtain ⟨f, hx, _⟩ := drop_get hlt
    have hs : nowR (l.take (i + 1)) = stepN (nowR (l.take i)) f := by
      rw [List.take_add_one, hx]
      exact nowR_snoc _ f
    repeat' ((conv => whnf); first | with_reducible refine Dec.t (show true = true from rfl) ?_ | with_reducible refine Dec.t (show false = false from rfl) ?_ | with_reducible refine Dec.f (show ¬ (true = false) by decide) ?_ | with_reducible refine Dec.f (show ¬ (false = true) by decide) ?_ | refine Dec.t (by omega) ?_ | refine Dec.f (by omega) ?_ | refine Dec.split (fun _ => ?_) (fun _ => ?_) | refine Wr.id (by omega) ?_ | refine Chk.mk (by first | omega | exact rfl | (simp only [List.length_map]; omega) | (simp [room]; done) | (simp [room]; omega) | (simp [dropL, room]; done) | (simp [dropL, room]; omega)) ?_ | refine Nam.mk (List.length_map _) ?_ | refine Prep.skip ?_ | refine Eith.l ?_ | refine chk_t (x := D.flat _) (by assumption) ?_ | refine br_mk (fun _ => ?_) (fun _ => ?_) | refine nthK_mk (map_get hx) ?_ | fail)
    all_goals (conv => whnf)
    exact ⟨i + 1, Wm.end (by repeat (first | exact trivial | refine And.intro rfl ?_ | refine And.intro (congrArg (fun n => V.d (I n)) hs.symm) ?_)) rfl rfl rfl, hlt, by omega⟩
  · have : i = l.length := by omega
    subst this
    rw [List.take_length]
    repeat' ((conv => whnf); first | with_reducible refine Dec.t (show true = true from rfl) ?_ | with_reducible refine Dec.t (show false = false from rfl) ?_ | with_reducible refine Dec.f (show ¬ (true = false) by decide) ?_ | with_reducible refine Dec.f (show ¬ (false = true) by decide) ?_ | refine Dec.t (by omega) ?_ | refine Dec.f (by omega) ?_ | refine Dec.split (fun _ => ?_) (fun _ => ?_) | refine Wr.id (by omega) ?_ | refine Chk.mk (by first | omega | exact rfl | (simp only [List.length_map]; omega) | (simp [room]; done) | (simp [room]; omega) | (simp [dropL, room]; done) | (simp [dropL, room]; omega)) ?_ | refine Nam.mk (List.length_map _) ?_ | refine Prep.skip ?_ | refine Eith.l ?_ | refine chk_t (x := D.flat _) (by assumption) ?_ | refine br_mk (fun _ => ?_) (fun _ => ?_) | fail)
    all_goals (conv => whnf)
    exact (by repeat (first | exact trivial | exact rfl | exact DLe.refl _ | exact DLe.full _ _ _ | exact DLe.nil _ _ _ | exact VLe.refl _ | refine And.intro ?_ ?_ | refine VLe.d ?_ | refine DLe.agg ?_))
end Go.PM

