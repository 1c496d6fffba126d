/- The reference's At. -/
import Derived.Test.YtbifaidepiejeaaF04a
namespace Go.PM
open Go.Proofs
set_option maxRecDepth 10000

def bI : Option Nat → Int
  | none => -1
  | some j => j
set_option maxHeartbeats 1000000 in
theorem ref04_At (l : List Fact) (k : Key) (day known : Int) (hl : l.length < 2 ^ 40) : CallP Try.prog 42 [.d (SL 8 (l.map Fact.d)), .d k.d, .d (I day), .d (I known)] (retD [I ((atM l k day known).getD 0), .b (atM l k day known).isSome]) := by
  refine exPure_sound (E := envOf Try.prog tt Try.f42.ntmps) (envOf_ok ttok mixed) Try.func42 (by rfl) rfl rfl (Nat.le_of_ble_eq_true rfl) ?_
  repeat' ((conv => whnf); first | with_reducible refine Dec.t (show true = true from rfl) ?_ | with_reducible refine Dec.t (show false = false from rfl) ?_ | with_reducible refine Dec.f (show ¬ (true = false) by decide) ?_ | with_reducible refine Dec.f (show ¬ (false = true) by decide) ?_ | refine Dec.t (by omega) ?_ | refine Dec.f (by omega) ?_ | refine Dec.split (fun _ => ?_) (fun _ => ?_) | refine Wr.id (by omega) ?_ | refine Chk.mk (by first | omega | exact rfl | (simp only [List.length_map]; omega) | (simp [room]; done) | (simp [room]; omega) | (simp [dropL, room]; done) | (simp [dropL, room]; omega)) ?_ | refine Nam.mk (List.length_map _) ?_ | refine Prep.skip ?_ | refine Eith.l ?_ | refine chk_t (x := D.flat _) (by assumption) ?_ | refine br_mk (fun _ => ?_) (fun _ => ?_))
  conv => whnf
  refine ALoop.at (E := envOf Try.prog tt Try.f42.ntmps) (envOf_ok ttok mixed) (X := Nat × Option Nat) (fun x => [(11, .d (I x.1)), (10, .d (I (bI x.2)))]) (fun _ => [])
    (fun x => x.1 ≤ l.length ∧ (∀ j, x.2 = some j → j < l.length) ∧ (l.drop x.1).foldl (atStep k day known) (x.2.bind fun j => l[j]?) = atF l k day known) (fun x => l.length - x.1) (0, none) (by repeat (first | exact trivial | refine And.intro rfl ?_ | refine And.intro (congrArg (fun n => V.d (I n)) (wrap_nat _ (by omega))) ?_)) rfl ⟨Nat.zero_le _, by simp, rfl⟩ ?_
  rintro ⟨i, b⟩ ⟨hi, hb, hm⟩
  simp only at hi hm hb
  by_cases hlt : i < l.length
  · obtain ⟨f, hx, hd⟩ := drop_get hlt
    rw [hd, List.foldl_cons] at hm
    have yes : hits k day known (b.bind fun j => l[j]?) f → (l.drop (i + 1)).foldl (atStep k day known) ((some i).bind fun j => l[j]?) = atF l k day known := fun h => by rw [← hm, atStep, if_pos h]; simp [hx]
    have no : ¬ hits k day known (b.bind fun j => l[j]?) f → (l.drop (i + 1)).foldl (atStep k day known) (b.bind fun j => l[j]?) = atF l k day known := fun h => by rw [← hm, atStep, if_neg h]
    clear hm hd
    cases b with
    | none =>
      dsimp only [bI]
      repeat' ((conv => whnf); first | with_reducible refine Dec.t (show true = true from rfl) ?_ | with_reducible refine Dec.t (show false = false from rfl) ?_ | with_reducible refine Dec.f (show ¬ (true = false) by decide) ?_ | with_reducible refine Dec.f (show ¬ (false = true) by decide) ?_ | refine Dec.t (by omega) ?_ | refine Dec.f (by omega) ?_ | refine Dec.split (fun _ => ?_) (fun _ => ?_) | refine Wr.id (by omega) ?_ | refine Chk.mk (by first | omega | exact rfl | (simp only [List.length_map]; omega) | (simp [room]; done) | (simp [room]; omega) | (simp [dropL, room]; done) | (simp [dropL, room]; omega)) ?_ | refine Nam.mk (List.length_map _) ?_ | refine Prep.skip ?_ | refine Eith.l ?_ | refine chk_t (x := D.flat _) (by assumption) ?_ | refine br_mk (fun _ => ?_) (fun _ => ?_) | refine nthK_mk (map_get hx) ?_ | refine Nam.dec (eqKey f.key k) (fun _ => ?_) (fun _ => ?_) | refine Dec.t (show (-1 : Int) < 0 by decide) ?_)
      all_goals (conv => whnf)
      all_goals first
        | (have hh : hits k day known none f := ⟨by assumption, by assumption, by assumption, by assumption, by simp [newer]⟩
           refine ⟨(i + 1, some i), Wm.end (by repeat (first | exact trivial | refine And.intro rfl ?_ | refine And.intro (congrArg (fun n => V.d (I n)) (wrap_nat _ (by omega))) ?_)) rfl rfl rfl, ⟨hlt, fun j hj => by cases hj; exact hlt, yes hh⟩, ?_⟩; simp only; omega)
        | (have hh : ¬ hits k day known none f := by (rintro ⟨h1, h2, h3, h4, h5⟩; first | contradiction | omega)
           refine ⟨(i + 1, none), Wm.end (by repeat (first | exact trivial | refine And.intro rfl ?_ | refine And.intro (congrArg (fun n => V.d (I n)) (wrap_nat _ (by omega))) ?_)) rfl rfl rfl, ⟨hlt, by simp, no hh⟩, ?_⟩; simp only; omega)
    | some j =>
      obtain ⟨g, hg, _⟩ := drop_get (hb j rfl)
      have ho : ((some j).bind fun j => l[j]?) = some g := by simp [hg]
      rw [ho] at yes no
      dsimp only [bI]
      repeat' ((conv => whnf); first | with_reducible refine Dec.t (show true = true from rfl) ?_ | with_reducible refine Dec.t (show false = false from rfl) ?_ | with_reducible refine Dec.f (show ¬ (true = false) by decide) ?_ | with_reducible refine Dec.f (show ¬ (false = true) by decide) ?_ | refine Dec.t (by omega) ?_ | refine Dec.f (by omega) ?_ | refine Dec.split (fun _ => ?_) (fun _ => ?_) | refine Wr.id (by omega) ?_ | refine Chk.mk (by first | omega | exact rfl | (simp only [List.length_map]; omega) | (simp [room]; done) | (simp [room]; omega) | (simp [dropL, room]; done) | (simp [dropL, room]; omega)) ?_ | refine Nam.mk (List.length_map _) ?_ | refine Prep.skip ?_ | refine Eith.l ?_ | refine chk_t (x := D.flat _) (by assumption) ?_ | refine br_mk (fun _ => ?_) (fun _ => ?_) | refine nthK_mk (map_get hx) ?_ | refine nthK_mk (map_get hg) ?_ | refine Nam.dec (eqKey f.key k) (fun _ => ?_) (fun _ => ?_) | refine Dec.f (show ¬ ((j : Int) < 0) by omega) ?_ | refine APCall.ofB (ref04_Before' f g) (fun _ => ?_) (fun _ => ?_))
      all_goals (conv => whnf)
      all_goals try simp only [decide_eq_true_eq, decide_eq_false_iff_not] at *
      all_goals first
        | (have hh : hits k day known (some g) f := ⟨by assumption, by assumption, by assumption, by assumption, by (simp only [newer, Option.some.injEq, forall_eq']; exact (order_le g f).2 (by assumption))⟩
           refine ⟨(i + 1, some i), Wm.end (by repeat (first | exact trivial | refine And.intro rfl ?_ | refine And.intro (congrArg (fun n => V.d (I n)) (wrap_nat _ (by omega))) ?_)) rfl rfl rfl, ⟨hlt, fun j hj => by cases hj; exact hlt, yes hh⟩, ?_⟩; simp only; omega)
        | (have hh : ¬ hits k day known (some g) f := by (rintro ⟨h1, h2, h3, h4, h5⟩; first | contradiction | omega | exact absurd ((order_le g f).1 (h5 g rfl)) (by simpa using (by assumption : before f g)))
           refine ⟨(i + 1, some j), Wm.end (by repeat (first | exact trivial | refine And.intro rfl ?_ | refine And.intro (congrArg (fun n => V.d (I n)) (wrap_nat _ (by omega))) ?_)) rfl rfl rfl, ⟨hlt, hb, by rw [ho]; exact no hh⟩, ?_⟩; simp only; omega)
  · have : i = l.length := by omega
    subst this
    rw [List.drop_length, List.foldl_nil] at hm
    have e : atM l k day known = valOf (b.bind fun j => l[j]?) := by unfold atM; rw [← hm]
    clear hm
    rw [e]
    cases b with
    | none =>
      dsimp only [bI]
      repeat' ((conv => whnf); first | with_reducible refine Dec.t (show true = true from rfl) ?_ | with_reducible refine Dec.t (show false = false from rfl) ?_ | with_reducible refine Dec.f (show ¬ (true = false) by decide) ?_ | with_reducible refine Dec.f (show ¬ (false = true) by decide) ?_ | refine Dec.t (by omega) ?_ | refine Dec.f (by omega) ?_ | refine Dec.split (fun _ => ?_) (fun _ => ?_) | refine Wr.id (by omega) ?_ | refine Chk.mk (by first | omega | exact rfl | (simp only [List.length_map]; omega) | (simp [room]; done) | (simp [room]; omega) | (simp [dropL, room]; done) | (simp [dropL, room]; omega)) ?_ | refine Nam.mk (List.length_map _) ?_ | refine Prep.skip ?_ | refine Eith.l ?_ | refine chk_t (x := D.flat _) (by assumption) ?_ | refine br_mk (fun _ => ?_) (fun _ => ?_) | refine Dec.t (show (-1 : Int) < 0 by decide) ?_)
      all_goals (conv => whnf)
      exact (by repeat (first | exact trivial | exact rfl | exact DLe.refl _ | exact DLe.full _ _ _ | exact DLe.nil _ _ _ | exact VLe.refl _ | refine And.intro ?_ ?_ | refine VLe.d ?_ | refine DLe.agg ?_))
    | some j =>
      obtain ⟨g, hg, _⟩ := drop_get (hb j rfl)
      have ho : ((some j).bind fun j => l[j]?) = some g := by simp [hg]
      rw [ho]
      dsimp only [bI]
      repeat' ((conv => whnf); first | with_reducible refine Dec.t (show true = true from rfl) ?_ | with_reducible refine Dec.t (show false = false from rfl) ?_ | with_reducible refine Dec.f (show ¬ (true = false) by decide) ?_ | with_reducible refine Dec.f (show ¬ (false = true) by decide) ?_ | refine Dec.t (by omega) ?_ | refine Dec.f (by omega) ?_ | refine Dec.split (fun _ => ?_) (fun _ => ?_) | refine Wr.id (by omega) ?_ | refine Chk.mk (by first | omega | exact rfl | (simp only [List.length_map]; omega) | (simp [room]; done) | (simp [room]; omega) | (simp [dropL, room]; done) | (simp [dropL, room]; omega)) ?_ | refine Nam.mk (List.length_map _) ?_ | refine Prep.skip ?_ | refine Eith.l ?_ | refine chk_t (x := D.flat _) (by assumption) ?_ | refine br_mk (fun _ => ?_) (fun _ => ?_) | refine nthK_mk (map_get hg) ?_ | refine Dec.f (show ¬ ((j : Int) < 0) by omega) ?_)
      all_goals (conv => whnf)
      all_goals (rename_i h)
      · have h : g.value < 0 := h
        rw [valOf, if_pos h]; exact (by repeat (first | exact trivial | exact rfl | exact DLe.refl _ | exact DLe.full _ _ _ | exact DLe.nil _ _ _ | exact VLe.refl _ | refine And.intro ?_ ?_ | refine VLe.d ?_ | refine DLe.agg ?_))
      · have h : ¬ g.value < 0 := h
        rw [valOf, if_neg h]; exact (by repeat (first | exact trivial | exact rfl | exact DLe.refl _ | exact DLe.full _ _ _ | exact DLe.nil _ _ _ | exact VLe.refl _ | refine And.intro ?_ ?_ | refine VLe.d ?_ | refine DLe.agg ?_))
end Go.PM

