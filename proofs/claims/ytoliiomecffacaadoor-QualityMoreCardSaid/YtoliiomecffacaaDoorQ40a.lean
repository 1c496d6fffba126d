/- Package quality: small functions. -/
import Derived.Test.YtoliiomecffacaaDoorStockLot
import Derived.Test.YtoliiomecffacaaDoorR04
namespace Go.PM
open Go.Proofs
set_option maxRecDepth 10000
set_option maxHeartbeats 1000000

structure Spec where
  test : Int
  lo : Int
  hi : Int
  deriving DecidableEq
def Spec.d (s : Spec) : D := .agg [I s.test, I s.lo, I s.hi]

structure XT2 where
  i : Nat
  vr : Nat
  ds : List D
/-- Strictly rising, from 0 to 1023; the last one before. -/
def incr : Int → List Int → Prop
  | _, [] => True
  | last, n :: r => (last < n ∧ n ≤ 1023) ∧ incr n r
instance incrDec : (last : Int) → (l : List Int) → Decidable (incr last l)
  | _, [] => .isTrue trivial
  | last, n :: r => by have := incrDec n r; unfold incr; infer_instance

theorem quality_increasing (l : List Int) (hl : l.length < 2 ^ 40) : CallP Tryd.prog 47 [.d (SL 1 (l.map I))] (retD [.b (decide (incr (-1) l))]) := by
  refine exPure_sound (E := envOf Tryd.prog tt Tryd.f47.ntmps) (envOf_ok ttok mixed) Tryd.func47 (by rfl) rfl rfl (Nat.le_of_ble_eq_true rfl) ?_
  repeat' ((conv => whnf); first | with_reducible refine Dec.t (show true = true from rfl) ?_ | with_reducible refine Dec.t (show false = false from rfl) ?_ | with_reducible refine Dec.f (show ¬ (true = false) by decide) ?_ | with_reducible refine Dec.f (show ¬ (false = true) by decide) ?_ | refine Dec.t (by omega) ?_ | refine Dec.f (by omega) ?_ | refine Dec.split (fun _ => ?_) (fun _ => ?_) | refine Wr.id (by omega) ?_ | refine Chk.mk (by first | omega | exact rfl | (simp only [List.length_map]; omega) | (simp [room]; done) | (simp [room]; omega) | (simp [dropL, room]; done) | (simp [dropL, room]; omega)) ?_ | refine Nam.mk (List.length_map _) ?_ | refine Prep.skip ?_ | refine chk_t (x := D.flat _) (by assumption) ?_ | refine br_mk (fun _ => ?_) (fun _ => ?_) | fail)
  all_goals (conv => whnf)
  refine ALoop.at (E := envOf Tryd.prog tt Tryd.f47.ntmps) (envOf_ok ttok mixed) (X := Nat × Int) (fun x => [(8, .d (I x.1)), (3, .d (I x.2))]) (fun _ => []) (fun x => x.1 ≤ l.length ∧ (incr x.2 (l.drop x.1) ↔ incr (-1) l)) (fun x => l.length - x.1) (0, -1) (by repeat (first | exact trivial | refine And.intro rfl ?_ | refine And.intro (congrArg (fun n => V.d (I n)) (wrap_nat _ (by omega))) ?_)) rfl ⟨Nat.zero_le _, Iff.rfl⟩ ?_
  rintro ⟨i, last⟩ ⟨hi, hm⟩
  simp only at hi hm
  dsimp only
  by_cases hlt : i < l.length
  · obtain ⟨n, hx, hd⟩ := drop_get hlt
    rw [hd] at hm
    repeat' ((conv => whnf); first | with_reducible refine Dec.t (show true = true from rfl) ?_ | with_reducible refine Dec.t (show false = false from rfl) ?_ | with_reducible refine Dec.f (show ¬ (true = false) by decide) ?_ | with_reducible refine Dec.f (show ¬ (false = true) by decide) ?_ | refine Dec.t (by omega) ?_ | refine Dec.f (by omega) ?_ | refine Dec.split (fun _ => ?_) (fun _ => ?_) | refine Wr.id (by omega) ?_ | refine Chk.mk (by first | omega | exact rfl | (simp only [List.length_map]; omega) | (simp [room]; done) | (simp [room]; omega) | (simp [dropL, room]; done) | (simp [dropL, room]; omega)) ?_ | refine Nam.mk (List.length_map _) ?_ | refine Prep.skip ?_ | refine chk_t (x := D.flat _) (by assumption) ?_ | refine br_mk (fun _ => ?_) (fun _ => ?_) | refine nthK_mk (map_get hx) ?_ | fail)
    all_goals (conv => whnf)
    all_goals first
      | (refine ⟨(i + 1, n), Wm.end (by repeat (first | exact trivial | refine And.intro rfl ?_ | refine And.intro (congrArg (fun n => V.d (I n)) (wrap_nat _ (by omega))) ?_)) rfl rfl rfl, ⟨hlt, ?_⟩, by simp only; omega⟩
         simp only
         rw [← hm, show incr last (n :: l.drop (i + 1)) = ((last < n ∧ n ≤ 1023) ∧ incr n (l.drop (i + 1))) from rfl]
         exact ⟨fun h => ⟨⟨by omega, by omega⟩, h⟩, fun h => h.2⟩)
      | (rw [decide_eq_false (fun hh => by have := (hm.2 hh).1; omega)]; exact (by repeat (first | exact trivial | exact rfl | exact DLe.refl _ | exact DLe.full _ _ _ | exact DLe.nil _ _ _ | exact VLe.refl _ | refine And.intro ?_ ?_ | refine VLe.d ?_ | refine DLe.agg ?_)))
  · have : i = l.length := by omega
    subst this
    rw [List.drop_length] at hm
    repeat' ((conv => whnf); first | with_reducible refine Dec.t (show true = true from rfl) ?_ | with_reducible refine Dec.t (show false = false from rfl) ?_ | with_reducible refine Dec.f (show ¬ (true = false) by decide) ?_ | with_reducible refine Dec.f (show ¬ (false = true) by decide) ?_ | refine Dec.t (by omega) ?_ | refine Dec.f (by omega) ?_ | refine Dec.split (fun _ => ?_) (fun _ => ?_) | refine Wr.id (by omega) ?_ | refine Chk.mk (by first | omega | exact rfl | (simp only [List.length_map]; omega) | (simp [room]; done) | (simp [room]; omega) | (simp [dropL, room]; done) | (simp [dropL, room]; omega)) ?_ | refine Nam.mk (List.length_map _) ?_ | refine Prep.skip ?_ | refine chk_t (x := D.flat _) (by assumption) ?_ | refine br_mk (fun _ => ?_) (fun _ => ?_) | fail)
    all_goals (conv => whnf)
    rw [decide_eq_true (hm.1 trivial)]; exact (by repeat (first | exact trivial | exact rfl | exact DLe.refl _ | exact DLe.full _ _ _ | exact DLe.nil _ _ _ | exact VLe.refl _ | refine And.intro ?_ ?_ | refine VLe.d ?_ | refine DLe.agg ?_))
def specsOk (l : List Spec) : Prop := l.length ≤ 16 ∧ (∀ s ∈ l, s.lo ≤ s.hi) ∧ incr (-1) (l.map Spec.test)
instance (l : List Spec) : Decidable (specsOk l) := by unfold specsOk; infer_instance
theorem quality_validSpecs (l : List Spec) (hl : l.length < 2 ^ 40) : CallP Tryd.prog 26 [.d (SL 3 (l.map Spec.d))] (retD [.b (decide (specsOk l))]) := by
  refine exPure_sound (E := envOf Tryd.prog tt Tryd.f26.ntmps) (envOf_ok ttok mixed) Tryd.func26 (by rfl) rfl rfl (Nat.le_of_ble_eq_true rfl) ?_
  repeat' ((conv => whnf); first | with_reducible refine Dec.t (show true = true from rfl) ?_ | with_reducible refine Dec.t (show false = false from rfl) ?_ | with_reducible refine Dec.f (show ¬ (true = false) by decide) ?_ | with_reducible refine Dec.f (show ¬ (false = true) by decide) ?_ | refine Dec.t (by omega) ?_ | refine Dec.f (by omega) ?_ | refine Dec.split (fun _ => ?_) (fun _ => ?_) | refine Wr.id (by omega) ?_ | refine Chk.mk (by first | omega | exact rfl | (simp only [List.length_map]; omega) | (simp [room]; done) | (simp [room]; omega) | (simp [dropL, room]; done) | (simp [dropL, room]; omega)) ?_ | refine Nam.mk (List.length_map _) ?_ | refine Prep.skip ?_ | refine chk_t (x := D.flat _) (by assumption) ?_ | refine br_mk (fun _ => ?_) (fun _ => ?_) | fail)
  all_goals (conv => whnf)
  · rw [decide_eq_false (fun hh => by have := hh.1; omega)]; exact (by repeat (first | exact trivial | exact rfl | exact DLe.refl _ | exact DLe.full _ _ _ | exact DLe.nil _ _ _ | exact VLe.refl _ | refine And.intro ?_ ?_ | refine VLe.d ?_ | refine DLe.agg ?_))
  refine ALoop.virt 3 0 1 true (by decide) rfl ?_
  conv => whnf
  refine ALoop.at (E := envOf Tryd.prog tt Tryd.f26.ntmps) (envOf_ok ttok mixed) (X := XT2) (fun x => [(11, .d (I x.i)), (3, .sref 0 x.vr 0 x.i false)]) (fun x => [(0, .row x.vr 1 true x.ds)]) (fun x => x.i ≤ l.length ∧ x.ds = ((l.take x.i).map Spec.test).map I ∧ ∀ s ∈ l.take x.i, s.lo ≤ s.hi) (fun x => l.length - x.i) ⟨0, 0, []⟩ (by repeat (first | exact trivial | refine And.intro rfl ?_ | refine And.intro (congrArg (fun n => V.d (I n)) (wrap_nat _ (by omega))) ?_)) rfl ⟨Nat.zero_le _, rfl, by simp⟩ ?_
  rintro ⟨i, vr, ds⟩ ⟨hi, g1, hm⟩
  simp only at hi g1 hm
  dsimp only
  have hdl : ds.length = i := by rw [g1]; simp; omega
  by_cases hlt : i < l.length
  · obtain ⟨s, hx, _⟩ := drop_get hlt
    repeat' ((conv => whnf); first | with_reducible refine Dec.t (show true = true from rfl) ?_ | with_reducible refine Dec.t (show false = false from rfl) ?_ | with_reducible refine Dec.f (show ¬ (true = false) by decide) ?_ | with_reducible refine Dec.f (show ¬ (false = true) by decide) ?_ | refine Dec.t (by omega) ?_ | refine Dec.f (by omega) ?_ | refine Dec.split (fun _ => ?_) (fun _ => ?_) | refine Wr.id (by omega) ?_ | refine Chk.mk (by first | omega | exact rfl | (simp only [List.length_map]; omega) | (simp [room]; done) | (simp [room]; omega) | (simp [dropL, room]; done) | (simp [dropL, room]; omega)) ?_ | refine Nam.mk (List.length_map _) ?_ | refine Prep.skip ?_ | refine chk_t (x := D.flat _) (by assumption) ?_ | refine br_mk (fun _ => ?_) (fun _ => ?_) | refine nthK_mk (map_get hx) ?_ | fail)
    all_goals (conv => whnf)
    · rw [decide_eq_false (fun hh => by have := hh.2.1 s (List.mem_of_getElem? hx); omega)]; exact (by repeat (first | exact trivial | exact rfl | exact DLe.refl _ | exact DLe.full _ _ _ | exact DLe.nil _ _ _ | exact VLe.refl _ | refine And.intro ?_ ?_ | refine VLe.d ?_ | refine DLe.agg ?_))
    · refine ⟨⟨i + 1, vr + 1, ds ++ [I s.test]⟩, Wm.end (by repeat (first | exact trivial | refine And.intro rfl ?_ | refine And.intro (congrArg (fun n => V.d (I n)) (wrap_nat _ (by omega))) ?_)) rfl rfl rfl, ⟨hlt, by simp only; rw [List.take_add_one, hx, g1]; simp, fun z hz => ?_⟩, by simp only; omega⟩
      rw [List.take_add_one, hx, List.mem_append] at hz
      rcases hz with hz | hz
      · exact hm z hz
      · simp at hz; subst hz; omega
  · have : i = l.length := by omega
    subst this
    rw [List.take_length] at g1 hm
    have hI := quality_increasing (l.map Spec.test) (by simpa using hl)
    repeat' ((conv => whnf); first | with_reducible refine Dec.t (show true = true from rfl) ?_ | with_reducible refine Dec.t (show false = false from rfl) ?_ | with_reducible refine Dec.f (show ¬ (true = false) by decide) ?_ | with_reducible refine Dec.f (show ¬ (false = true) by decide) ?_ | refine Dec.t (by omega) ?_ | refine Dec.f (by omega) ?_ | refine Dec.split (fun _ => ?_) (fun _ => ?_) | refine Wr.id (by omega) ?_ | refine Chk.mk (by first | omega | exact rfl | (simp only [List.length_map]; omega) | (simp [room]; done) | (simp [room]; omega) | (simp [dropL, room]; done) | (simp [dropL, room]; omega)) ?_ | refine Nam.mk (List.length_map _) ?_ | refine Prep.skip ?_ | refine chk_t (x := D.flat _) (by assumption) ?_ | refine br_mk (fun _ => ?_) (fun _ => ?_) | refine ACall.of (hI) ?_ | refine APCall.of (hI) ?_ | refine Nam.mk ((whole hdl.symm).trans g1) ?_ | refine ACall.lift ?_ | fail)
    all_goals (conv => whnf)
    rw [show decide (specsOk l) = decide (incr (-1) (l.map Spec.test)) by
      rw [Bool.eq_iff_iff, decide_eq_true_eq, decide_eq_true_eq]; unfold specsOk; exact ⟨fun h => h.2.2, fun h => ⟨by omega, hm, h⟩⟩]
    exact (by repeat (first | exact trivial | exact rfl | exact DLe.refl _ | exact DLe.full _ _ _ | exact DLe.nil _ _ _ | exact VLe.refl _ | refine And.intro ?_ ?_ | refine VLe.d ?_ | refine DLe.agg ?_))
def lotsOk (l : List Int) : Prop := l.length ≤ 1024 ∧ incr (-1) l
instance lotsDec (l : List Int) : Decidable (lotsOk l) := by unfold lotsOk; infer_instance
theorem quality_validLots (l : List Int) (hl : l.length < 2 ^ 40) : CallP Tryd.prog 32 [.d (SL 1 (l.map I))] (retD [.b (decide (lotsOk l))]) := by
  refine exPure_sound (E := envOf Tryd.prog tt Tryd.f32.ntmps) (envOf_ok ttok mixed) Tryd.func32 (by rfl) rfl rfl (Nat.le_of_ble_eq_true rfl) ?_
  repeat' ((conv => whnf); first | with_reducible refine Dec.t (show true = true from rfl) ?_ | with_reducible refine Dec.t (show false = false from rfl) ?_ | with_reducible refine Dec.f (show ¬ (true = false) by decide) ?_ | with_reducible refine Dec.f (show ¬ (false = true) by decide) ?_ | refine Dec.t (by omega) ?_ | refine Dec.f (by omega) ?_ | refine Dec.split (fun _ => ?_) (fun _ => ?_) | refine Wr.id (by omega) ?_ | refine Chk.mk (by first | omega | exact rfl | (simp only [List.length_map]; omega) | (simp [room]; done) | (simp [room]; omega) | (simp [dropL, room]; done) | (simp [dropL, room]; omega)) ?_ | refine Nam.mk (List.length_map _) ?_ | refine Prep.skip ?_ | refine chk_t (x := D.flat _) (by assumption) ?_ | refine br_mk (fun _ => ?_) (fun _ => ?_) | refine ACall.ofB (quality_increasing l hl) (fun _ => ?_) (fun _ => ?_) | refine APCall.ofB (quality_increasing l hl) (fun _ => ?_) (fun _ => ?_) | fail)
  all_goals (conv => whnf)
  all_goals try simp only [decide_eq_true_eq, decide_eq_false_iff_not] at *
  all_goals first
    | (rw [decide_eq_true (show lotsOk l from ⟨by omega, by assumption⟩)]; exact (by repeat (first | exact trivial | exact rfl | exact DLe.refl _ | exact DLe.full _ _ _ | exact DLe.nil _ _ _ | exact VLe.refl _ | refine And.intro ?_ ?_ | refine VLe.d ?_ | refine DLe.agg ?_)))
    | (rw [decide_eq_false (show ¬ lotsOk l from fun h => by first | contradiction | (have := h.1; omega) | exact absurd h.2 (by assumption))]; exact (by repeat (first | exact trivial | exact rfl | exact DLe.refl _ | exact DLe.full _ _ _ | exact DLe.nil _ _ _ | exact VLe.refl _ | refine And.intro ?_ ?_ | refine VLe.d ?_ | refine DLe.agg ?_)))
/-- The reference says it by index. -/
theorem incr_iff : ∀ (l : List Int) (last : Int), incr last l ↔ (∀ n ∈ l, n ≤ 1023) ∧ (∀ n, l.head? = some n → last < n) ∧ ∀ (i : Nat) (a b : Int), l[i]? = some a → l[i + 1]? = some b → a < b
  | [], last => by simp [incr]
  | n :: r, last => by
    rw [incr, incr_iff r n]
    constructor
    · rintro ⟨⟨h1, h2⟩, h3, h4, h5⟩
      refine ⟨fun x hx => ?_, by simpa using h1, fun i a b ha hb => ?_⟩
      · rcases List.mem_cons.1 hx with rfl | hx
        · exact h2
        · exact h3 x hx
      · cases i with
        | zero => simp only [List.getElem?_cons_zero, Option.some.injEq] at ha; subst ha; exact h4 b (by simpa [List.head?_eq_getElem?] using hb)
        | succ i => exact h5 i a b (by simpa using ha) (by simpa using hb)
    · rintro ⟨h1, h2, h3⟩
      exact ⟨⟨h2 n rfl, h1 n (.head _)⟩, fun x hx => h1 x (.tail _ hx), fun b hb => h3 0 n b rfl (by simpa [List.head?_eq_getElem?] using hb), fun i a b ha hb => h3 (i + 1) a b (by simpa using ha) (by simpa using hb)⟩
def resultM (w : AWorld) (lot test day known : Int) : Int × List Read × Bool :=
  if 0 ≤ day ∧ day < 1024 then (match atM w.facts ⟨8, lot, test⟩ day known with
    | some n => (n, [rdOf ⟨8, lot, test⟩ day], true)
    | none => (0, [rdOf ⟨8, lot, test⟩ day], false)) else (0, [], false)
def resD (r : Int × List Read × Bool) : V := retD [I r.1, SL 5 (r.2.1.map Read.d), .b r.2.2]
theorem atM_nonneg {l : List Fact} {k : Key} {d t n : Int} (h : atM l k d t = some n) : 0 ≤ n := by
  unfold atM at h
  rw [valOf_vOf] at h
  split at h
  · rename_i h0; cases h; exact h0
  · cases h
theorem quality_Result (w : AWorld) (lot test day known : Int) (hl : w.facts.length < 2 ^ 40) : CallP Tryd.prog 11 [.d w.d, .d (I lot), .d (I test), .d (I day), .d (I known)] (resD (resultM w lot test day known)) := by
  refine exPure_sound (E := envOf Tryd.prog tt Tryd.f11.ntmps) (envOf_ok ttok mixed) Tryd.func11 (by rfl) rfl rfl (Nat.le_of_ble_eq_true rfl) ?_
  have hA := facts_At w.facts ⟨8, lot, test⟩ day known hl
  unfold resultM
  by_cases hd : 0 ≤ day ∧ day < 1024
  · rw [if_pos hd]
    cases h0 : atM w.facts ⟨8, lot, test⟩ day known with
    | none =>
      rw [h0] at hA
      simp only [Option.getD_none, Option.isSome_none] at hA
      repeat' ((conv => whnf); first | with_reducible refine Dec.t (show true = true from rfl) ?_ | with_reducible refine Dec.t (show false = false from rfl) ?_ | with_reducible refine Dec.f (show ¬ (true = false) by decide) ?_ | with_reducible refine Dec.f (show ¬ (false = true) by decide) ?_ | refine Dec.t (by omega) ?_ | refine Dec.f (by omega) ?_ | refine Dec.split (fun _ => ?_) (fun _ => ?_) | refine Wr.id (by omega) ?_ | refine Chk.mk (by first | omega | exact rfl | (simp only [List.length_map]; omega) | (simp [room]; done) | (simp [room]; omega) | (simp [dropL, room]; done) | (simp [dropL, room]; omega)) ?_ | refine Nam.mk (List.length_map _) ?_ | refine Prep.skip ?_ | refine chk_t (x := D.flat _) (by assumption) ?_ | refine br_mk (fun _ => ?_) (fun _ => ?_) | refine ACall.of (hA) ?_ | refine APCall.of (hA) ?_ | fail)
      all_goals (conv => whnf)
      all_goals exact (by repeat (first | exact trivial | exact rfl | exact DLe.refl _ | exact DLe.full _ _ _ | exact DLe.nil _ _ _ | exact VLe.refl _ | refine And.intro ?_ ?_ | refine VLe.d ?_ | refine DLe.agg ?_))
    | some n =>
      have hn := atM_nonneg h0
      rw [h0] at hA
      simp only [Option.getD_some, Option.isSome_some] at hA
      repeat' ((conv => whnf); first | with_reducible refine Dec.t (show true = true from rfl) ?_ | with_reducible refine Dec.t (show false = false from rfl) ?_ | with_reducible refine Dec.f (show ¬ (true = false) by decide) ?_ | with_reducible refine Dec.f (show ¬ (false = true) by decide) ?_ | refine Dec.t (by omega) ?_ | refine Dec.f (by omega) ?_ | refine Dec.split (fun _ => ?_) (fun _ => ?_) | refine Wr.id (by omega) ?_ | refine Chk.mk (by first | omega | exact rfl | (simp only [List.length_map]; omega) | (simp [room]; done) | (simp [room]; omega) | (simp [dropL, room]; done) | (simp [dropL, room]; omega)) ?_ | refine Nam.mk (List.length_map _) ?_ | refine Prep.skip ?_ | refine chk_t (x := D.flat _) (by assumption) ?_ | refine br_mk (fun _ => ?_) (fun _ => ?_) | refine ACall.of (hA) ?_ | refine APCall.of (hA) ?_ | fail)
      all_goals (conv => whnf)
      all_goals exact (by repeat (first | exact trivial | exact rfl | exact DLe.refl _ | exact DLe.full _ _ _ | exact DLe.nil _ _ _ | exact VLe.refl _ | refine And.intro ?_ ?_ | refine VLe.d ?_ | refine DLe.agg ?_))
  · rw [if_neg hd]
    repeat' ((conv => whnf); first | with_reducible refine Dec.t (show true = true from rfl) ?_ | with_reducible refine Dec.t (show false = false from rfl) ?_ | with_reducible refine Dec.f (show ¬ (true = false) by decide) ?_ | with_reducible refine Dec.f (show ¬ (false = true) by decide) ?_ | refine Dec.t (by omega) ?_ | refine Dec.f (by omega) ?_ | refine Dec.split (fun _ => ?_) (fun _ => ?_) | refine Wr.id (by omega) ?_ | refine Chk.mk (by first | omega | exact rfl | (simp only [List.length_map]; omega) | (simp [room]; done) | (simp [room]; omega) | (simp [dropL, room]; done) | (simp [dropL, room]; omega)) ?_ | refine Nam.mk (List.length_map _) ?_ | refine Prep.skip ?_ | refine chk_t (x := D.flat _) (by assumption) ?_ | refine br_mk (fun _ => ?_) (fun _ => ?_) | fail)
    all_goals (conv => whnf)
    all_goals exact (by repeat (first | exact trivial | exact rfl | exact DLe.refl _ | exact DLe.full _ _ _ | exact DLe.nil _ _ _ | exact VLe.refl _ | refine And.intro ?_ ?_ | refine VLe.d ?_ | refine DLe.agg ?_))
theorem ref40_Result (w : AWorld) (lot test day known : Int) (hl : w.facts.length < 2 ^ 40) : CallP Tryd.prog 12 [.d w.d, .d (I lot), .d (I test), .d (I day), .d (I known)] (resD (resultM w lot test day known)) := by
  refine exPure_sound (E := envOf Tryd.prog tt Tryd.f12.ntmps) (envOf_ok ttok mixed) Tryd.func12 (by rfl) rfl rfl (Nat.le_of_ble_eq_true rfl) ?_
  have hA := ref04_At w.facts ⟨8, lot, test⟩ day known hl
  unfold resultM
  by_cases hd : 0 ≤ day ∧ day < 1024
  · rw [if_pos hd]
    cases h0 : atM w.facts ⟨8, lot, test⟩ day known with
    | none =>
      rw [h0] at hA
      simp only [Option.getD_none, Option.isSome_none] at hA
      repeat' ((conv => whnf); first | with_reducible refine Dec.t (show true = true from rfl) ?_ | with_reducible refine Dec.t (show false = false from rfl) ?_ | with_reducible refine Dec.f (show ¬ (true = false) by decide) ?_ | with_reducible refine Dec.f (show ¬ (false = true) by decide) ?_ | refine Dec.t (by omega) ?_ | refine Dec.f (by omega) ?_ | refine Dec.split (fun _ => ?_) (fun _ => ?_) | refine Wr.id (by omega) ?_ | refine Chk.mk (by first | omega | exact rfl | (simp only [List.length_map]; omega) | (simp [room]; done) | (simp [room]; omega) | (simp [dropL, room]; done) | (simp [dropL, room]; omega)) ?_ | refine Nam.mk (List.length_map _) ?_ | refine Prep.skip ?_ | refine chk_t (x := D.flat _) (by assumption) ?_ | refine br_mk (fun _ => ?_) (fun _ => ?_) | refine ACall.of (hA) ?_ | refine APCall.of (hA) ?_ | fail)
      all_goals (conv => whnf)
      all_goals exact (by repeat (first | exact trivial | exact rfl | exact DLe.refl _ | exact DLe.full _ _ _ | exact DLe.nil _ _ _ | exact VLe.refl _ | refine And.intro ?_ ?_ | refine VLe.d ?_ | refine DLe.agg ?_))
    | some n =>
      have hn := atM_nonneg h0
      rw [h0] at hA
      simp only [Option.getD_some, Option.isSome_some] at hA
      repeat' ((conv => whnf); first | with_reducible refine Dec.t (show true = true from rfl) ?_ | with_reducible refine Dec.t (show false = false from rfl) ?_ | with_reducible refine Dec.f (show ¬ (true = false) by decide) ?_ | with_reducible refine Dec.f (show ¬ (false = true) by decide) ?_ | refine Dec.t (by omega) ?_ | refine Dec.f (by omega) ?_ | refine Dec.split (fun _ => ?_) (fun _ => ?_) | refine Wr.id (by omega) ?_ | refine Chk.mk (by first | omega | exact rfl | (simp only [List.length_map]; omega) | (simp [room]; done) | (simp [room]; omega) | (simp [dropL, room]; done) | (simp [dropL, room]; omega)) ?_ | refine Nam.mk (List.length_map _) ?_ | refine Prep.skip ?_ | refine chk_t (x := D.flat _) (by assumption) ?_ | refine br_mk (fun _ => ?_) (fun _ => ?_) | refine ACall.of (hA) ?_ | refine APCall.of (hA) ?_ | fail)
      all_goals (conv => whnf)
      all_goals exact (by repeat (first | exact trivial | exact rfl | exact DLe.refl _ | exact DLe.full _ _ _ | exact DLe.nil _ _ _ | exact VLe.refl _ | refine And.intro ?_ ?_ | refine VLe.d ?_ | refine DLe.agg ?_))
  · rw [if_neg hd]
    repeat' ((conv => whnf); first | with_reducible refine Dec.t (show true = true from rfl) ?_ | with_reducible refine Dec.t (show false = false from rfl) ?_ | with_reducible refine Dec.f (show ¬ (true = false) by decide) ?_ | with_reducible refine Dec.f (show ¬ (false = true) by decide) ?_ | refine Dec.t (by omega) ?_ | refine Dec.f (by omega) ?_ | refine Dec.split (fun _ => ?_) (fun _ => ?_) | refine Wr.id (by omega) ?_ | refine Chk.mk (by first | omega | exact rfl | (simp only [List.length_map]; omega) | (simp [room]; done) | (simp [room]; omega) | (simp [dropL, room]; done) | (simp [dropL, room]; omega)) ?_ | refine Nam.mk (List.length_map _) ?_ | refine Prep.skip ?_ | refine chk_t (x := D.flat _) (by assumption) ?_ | refine br_mk (fun _ => ?_) (fun _ => ?_) | fail)
    all_goals (conv => whnf)
    all_goals exact (by repeat (first | exact trivial | exact rfl | exact DLe.refl _ | exact DLe.full _ _ _ | exact DLe.nil _ _ _ | exact VLe.refl _ | refine And.intro ?_ ?_ | refine VLe.d ?_ | refine DLe.agg ?_))
end Go.PM

