/- The statements of layer 4: CheckSpec, AtSpec, ChangedSpec, Upto. -/
import Derived.Test.YtnemmfoohmkcgaaF04g
namespace Go.PM
open Go.Proofs
set_option maxRecDepth 10000
set_option maxHeartbeats 4000000

theorem law04_CheckSpec (l : List Fact) (f : Fact) (hl : l.length < 2 ^ 63) : CallP Try.prog 3 [.d (SL 8 (l.map Fact.d)), .d f.d] (retD [.b true]) := by
  refine exPure_sound (E := envOf Try.prog tt Try.f3.ntmps) (envOf_ok ttok mixed) Try.func3 (by rfl) rfl rfl (Nat.le_of_ble_eq_true rfl) ?_
  have hFew := ref04_Few l hl
  by_cases hs : l.length ≤ 30
  · rw [decide_eq_true hs] at hFew
    have c1 := facts_Add l f (by omega)
    have c2 := ref04_Add l f (by omega)
    have c3 := facts_Check l (by omega)
    have c4 := ref04_Check l (by omega)
    have hlen : (addM l f).1.length ≤ 31 := by
      unfold addM
      repeat' split
      all_goals simp
      all_goals omega
    generalize addM l f = r at c1 c2 hlen
    obtain ⟨r1, r2⟩ := r
    simp only at c1 c2 hlen
    have c5 := same_facts04 r1 (by omega)
    repeat' ((conv => whnf); first | with_reducible refine Dec.t (show true = true from rfl) ?_ | with_reducible refine Dec.t (show false = false from rfl) ?_ | with_reducible refine Dec.f (show ¬ (true = false) by decide) ?_ | with_reducible refine Dec.f (show ¬ (false = true) by decide) ?_ | refine Dec.t (by omega) ?_ | refine Dec.f (by omega) ?_ | refine Dec.split (fun _ => ?_) (fun _ => ?_) | refine Wr.id (by omega) ?_ | refine Chk.mk (by first | omega | exact rfl | (simp only [List.length_map]; omega) | (simp [room]; done) | (simp [room]; omega) | (simp [dropL, room]; done) | (simp [dropL, room]; omega)) ?_ | refine Nam.mk (List.length_map _) ?_ | refine Prep.skip ?_ | refine Eith.l ?_ | refine chk_t (x := D.flat _) (by assumption) ?_ | refine br_mk (fun _ => ?_) (fun _ => ?_) | refine ACall.of (law04_sane) ?_ | refine APCall.of (law04_sane) ?_ | refine ACall.of hFew ?_ | refine ACall.of c1 ?_ | refine ACall.of c2 ?_ | refine ACall.of c3 ?_ | refine ACall.of c4 ?_ | refine ACall.of c5 ?_ | fail)
    all_goals (conv => whnf)
    all_goals first | exact DLe.refl _ | exact absurd rfl (by assumption) | trace_state
  · rw [decide_eq_false hs] at hFew
    repeat' ((conv => whnf); first | with_reducible refine Dec.t (show true = true from rfl) ?_ | with_reducible refine Dec.t (show false = false from rfl) ?_ | with_reducible refine Dec.f (show ¬ (true = false) by decide) ?_ | with_reducible refine Dec.f (show ¬ (false = true) by decide) ?_ | refine Dec.t (by omega) ?_ | refine Dec.f (by omega) ?_ | refine Dec.split (fun _ => ?_) (fun _ => ?_) | refine Wr.id (by omega) ?_ | refine Chk.mk (by first | omega | exact rfl | (simp only [List.length_map]; omega) | (simp [room]; done) | (simp [room]; omega) | (simp [dropL, room]; done) | (simp [dropL, room]; omega)) ?_ | refine Nam.mk (List.length_map _) ?_ | refine Prep.skip ?_ | refine Eith.l ?_ | refine chk_t (x := D.flat _) (by assumption) ?_ | refine br_mk (fun _ => ?_) (fun _ => ?_) | refine ACall.of (law04_sane) ?_ | refine APCall.of (law04_sane) ?_ | refine ACall.of hFew ?_ | fail)
    all_goals (conv => whnf)
    all_goals exact DLe.refl _

theorem same_points04 (r : List Pt) (h : r.length < 2 ^ 40) : CallP Try.prog 20 [.d (SL 2 (r.map Pt.d)), .d (SL 2 (r.map Pt.d))] (retD [.b true]) := by
  have h := ref04_SamePoints r r h
  rwa [decide_eq_true rfl] at h
theorem same_difs04 (r : List Dif) (h : r.length < 2 ^ 40) (h2 : ∀ x ∈ r, x.days.length < 2 ^ 40) : CallP Try.prog 23 [.d (SL 4 (r.map Dif.d)), .d (SL 4 (r.map Dif.d))] (retD [.b true]) := by
  have h := ref04_SameDiffers r r h h2
  rwa [decide_eq_true rfl] at h
theorem changedM_len (l : List Fact) (b a : Int) : (changedM l b a).length ≤ l.length ∧ ∀ x ∈ changedM l b a, x.days.length ≤ 1024 := by
  refine ⟨Nat.le_trans (List.length_filterMap_le _ _) (keysR_len l), fun x hx => ?_⟩
  obtain ⟨k, _, hk⟩ := List.mem_filterMap.1 hx
  unfold difM at hk
  split at hk
  · cases hk
  · cases hk; exact runsM_len _ _
theorem law04_ChangedSpec (l : List Fact) (rs : List Read) (b a : Int) (hl : l.length < 2 ^ 63) (hr : rs.length < 2 ^ 63) : CallP Try.prog 5 [.d (SL 8 (l.map Fact.d)), .d (SL 5 (rs.map Read.d)), .d (I b), .d (I a)] (retD [.b true]) := by
  refine exPure_sound (E := envOf Try.prog tt Try.f5.ntmps) (envOf_ok ttok mixed) Try.func5 (by rfl) rfl rfl (Nat.le_of_ble_eq_true rfl) ?_
  by_cases hs : l.length ≤ 14 ∧ rs.length ≤ 6
  · obtain ⟨h1, h2⟩ := hs
    have c1 := facts_Changed l b a (by omega)
    have c2 := ref04_Changed l b a (by omega)
    obtain ⟨n1, n2⟩ := changedM_len l b a
    generalize changedM l b a = r at c1 c2 n1 n2
    have c3 := same_difs04 r (by omega) (fun x hx => by have := n2 x hx; omega)
    have c4 := facts_Alike l rs b a (by omega) (by omega)
    have c5 := ref04_Alike l rs b a (by omega) (by omega)
    have c6 := facts_Upto l b (by omega)
    have c7 := ref04_Upto l b (by omega)
    have c8 := same_facts04 (l.filter fun f => decide (f.known ≤ b)) (Nat.lt_of_le_of_lt (List.length_filter_le _ _) (by omega))
    generalize decide (alikeM l rs b a) = q at c4 c5
    cases q
    all_goals
      repeat' ((conv => whnf); first | with_reducible refine Dec.t (show true = true from rfl) ?_ | with_reducible refine Dec.t (show false = false from rfl) ?_ | with_reducible refine Dec.f (show ¬ (true = false) by decide) ?_ | with_reducible refine Dec.f (show ¬ (false = true) by decide) ?_ | refine Dec.t (by omega) ?_ | refine Dec.f (by omega) ?_ | refine Dec.split (fun _ => ?_) (fun _ => ?_) | refine Wr.id (by omega) ?_ | refine Chk.mk (by first | omega | exact rfl | (simp only [List.length_map]; omega) | (simp [room]; done) | (simp [room]; omega) | (simp [dropL, room]; done) | (simp [dropL, room]; omega)) ?_ | refine Nam.mk (List.length_map _) ?_ | refine Prep.skip ?_ | refine Eith.l ?_ | refine chk_t (x := D.flat _) (by assumption) ?_ | refine br_mk (fun _ => ?_) (fun _ => ?_) | refine Nam.mk (List.length_map _) ?_ | refine ACall.of (law04_sane) ?_ | refine APCall.of (law04_sane) ?_ | refine ACall.of c1 ?_ | refine ACall.of c2 ?_ | refine ACall.of c3 ?_ | refine ACall.of c4 ?_ | refine ACall.of c5 ?_ | refine ACall.of c6 ?_ | refine ACall.of c7 ?_ | refine ACall.of c8 ?_ | refine ACall.of (c1) ?_ | refine APCall.of (c1) ?_ | refine ACall.of (c2) ?_ | refine APCall.of (c2) ?_ | refine ACall.of (c3) ?_ | refine APCall.of (c3) ?_ | refine ACall.of (c4) ?_ | refine APCall.of (c4) ?_ | refine ACall.of (c5) ?_ | refine APCall.of (c5) ?_ | refine ACall.of (c6) ?_ | refine APCall.of (c6) ?_ | refine ACall.of (c7) ?_ | refine APCall.of (c7) ?_ | refine ACall.of (c8) ?_ | refine APCall.of (c8) ?_ | fail)
    all_goals (conv => whnf)
    all_goals first | exact DLe.refl _ | exact absurd rfl (by assumption) | trace_state
  · repeat' ((conv => whnf); first | with_reducible refine Dec.t (show true = true from rfl) ?_ | with_reducible refine Dec.t (show false = false from rfl) ?_ | with_reducible refine Dec.f (show ¬ (true = false) by decide) ?_ | with_reducible refine Dec.f (show ¬ (false = true) by decide) ?_ | refine Dec.t (by omega) ?_ | refine Dec.f (by omega) ?_ | refine Dec.split (fun _ => ?_) (fun _ => ?_) | refine Wr.id (by omega) ?_ | refine Chk.mk (by first | omega | exact rfl | (simp only [List.length_map]; omega) | (simp [room]; done) | (simp [room]; omega) | (simp [dropL, room]; done) | (simp [dropL, room]; omega)) ?_ | refine Nam.mk (List.length_map _) ?_ | refine Prep.skip ?_ | refine Eith.l ?_ | refine chk_t (x := D.flat _) (by assumption) ?_ | refine br_mk (fun _ => ?_) (fun _ => ?_) | refine Nam.mk (List.length_map _) ?_ | refine ACall.of (law04_sane) ?_ | refine APCall.of (law04_sane) ?_ | fail)
    all_goals (conv => whnf)
    all_goals first | exact DLe.refl _ | (exfalso; omega) | trace_state

theorem at_know (l : List Fact) (k : Key) (d t t' : Int) (h : t ≤ t') : atM (l.filter fun f => decide (f.known ≤ t)) k d t' = atM l k d t := by
  unfold atM atF
  congr 1
  generalize (none : Option Fact) = o
  induction l generalizing o with
  | nil => rfl
  | cons f l ih =>
    by_cases hf : f.known ≤ t
    · rw [List.filter_cons, if_pos (by simp [hf]), List.foldl_cons, List.foldl_cons, ih]
      congr 1
      unfold atStep hits
      simp only [show (f.known ≤ t') = True by simp; omega, show (f.known ≤ t) = True by simp [hf]]
    · rw [List.filter_cons, if_neg (by simp [hf]), List.foldl_cons, ih]
      congr 1
      unfold atStep
      rw [if_neg (fun hh => hf hh.2.1)]
end Go.PM

