/- The statements of layer 4: AtSpec, Upto. -/
import Derived.Test.YtnemmfoohmkcgaaL04a
namespace Go.PM
open Go.Proofs
set_option maxRecDepth 10000
set_option maxHeartbeats 4000000

theorem ends_of {l : List Fact} (h : 0 < l.length) : ∃ f g : Fact, (l.map Fact.d)[(0 : Int).toNat]? = some f.d ∧ (l.map Fact.d)[((l.length : Int) - 1).toNat]? = some g.d := by
  refine ⟨l[0], l[l.length - 1], ?_, ?_⟩
  · simp [h]
  · rw [show ((l.length : Int) - 1).toNat = l.length - 1 by omega, List.getElem?_map, List.getElem?_eq_getElem (by omega)]; rfl
theorem law04_AtSpec (l : List Fact) (k : Key) (a b known : Int) (hl : l.length < 2 ^ 63) : CallP Try.prog 4 [.d (SL 8 (l.map Fact.d)), .d k.d, .d (I a), .d (I b), .d (I known)] (retD [.b true]) := by
  refine exPure_sound (E := envOf Try.prog tt Try.f4.ntmps) (envOf_ok ttok mixed) Try.func4 (by rfl) rfl rfl (Nat.le_of_ble_eq_true rfl) ?_
  have hFew := ref04_Few l hl
  by_cases hs : l.length ≤ 30
  · rw [decide_eq_true hs] at hFew
    have key : ∀ k : Key, ∃ v x, CallP Try.prog 18 [.d (SL 8 (l.map Fact.d)), .d k.d, .d (I a), .d (I known)] (retD [I v, .b x]) ∧ CallP Try.prog 19 [.d (SL 8 (l.map Fact.d)), .d k.d, .d (I a), .d (I known)] (retD [I v, .b x]) := fun k =>
      ⟨_, _, facts_At l k a known (by omega), ref04_At l k a known (by omega)⟩
    have c3 := fun k => facts_Points l k a b known (by omega)
    have c4 := fun k => ref04_Points l k a b known (by omega)
    have c5 := fun k => same_points04 (pointsM l k a b known) (by have := pointsM_len l k a b known; omega)
    obtain ⟨v, x, c1, c2⟩ := key k
    by_cases hpos : 0 < l.length
    · obtain ⟨f, g, hf, hg⟩ := ends_of hpos
      obtain ⟨vf, xf, d1, d2⟩ := key f.key
      obtain ⟨vg, xg, e1, e2⟩ := key g.key
      clear key
      cases x <;> cases xf <;> cases xg
      all_goals
        repeat' ((conv => whnf); first | refine Dec.t (of_decide_eq_true (Eq.refl true)) ?_ | refine Dec.f (of_decide_eq_false (Eq.refl false)) ?_ | with_reducible refine Dec.t (show true = true from rfl) ?_ | with_reducible refine Dec.t (show false = false from rfl) ?_ | with_reducible refine Dec.f (show ¬ (true = false) by decide) ?_ | with_reducible refine Dec.f (show ¬ (false = true) by decide) ?_ | refine Dec.t (by omega) ?_ | refine Dec.f (by omega) ?_ | refine Dec.split (fun _ => ?_) (fun _ => ?_) | refine Wr.id (by omega) ?_ | refine Chk.mk (by first | omega | exact rfl | (simp only [List.length_map]; omega) | (simp [room]; done) | (simp [room]; omega) | (simp [dropL, room]; done) | (simp [dropL, room]; omega)) ?_ | refine Nam.mk (List.length_map _) ?_ | refine Prep.skip ?_ | refine Eith.l ?_ | refine chk_t (x := D.flat _) (by assumption) ?_ | refine br_mk (fun _ => ?_) (fun _ => ?_) | refine ACall.of (law04_sane) ?_ | refine APCall.of (law04_sane) ?_ | refine ACall.of hFew ?_ | refine nthK_mk hf ?_ | refine nthK_mk hg ?_ | refine ALoop.rounds 4 ?_ | refine ALoopN.step (E := (envOf Try.prog tt Try.f4.ntmps)) (envOf_ok ttok mixed) ?_ | refine ACall.of (c1) ?_ | refine APCall.of (c1) ?_ | refine ACall.of (c2) ?_ | refine APCall.of (c2) ?_ | refine ACall.of (d1) ?_ | refine APCall.of (d1) ?_ | refine ACall.of (d2) ?_ | refine APCall.of (d2) ?_ | refine ACall.of (e1) ?_ | refine APCall.of (e1) ?_ | refine ACall.of (e2) ?_ | refine APCall.of (e2) ?_ | refine ACall.of (c3 k) ?_ | refine APCall.of (c3 k) ?_ | refine ACall.of (c3 f.key) ?_ | refine APCall.of (c3 f.key) ?_ | refine ACall.of (c3 g.key) ?_ | refine APCall.of (c3 g.key) ?_ | refine ACall.of (c4 k) ?_ | refine APCall.of (c4 k) ?_ | refine ACall.of (c4 f.key) ?_ | refine APCall.of (c4 f.key) ?_ | refine ACall.of (c4 g.key) ?_ | refine APCall.of (c4 g.key) ?_ | refine ACall.of (c5 k) ?_ | refine ACall.of (c5 f.key) ?_ | refine ACall.of (c5 g.key) ?_ | refine ACall.of (c5 k) ?_ | refine APCall.of (c5 k) ?_ | refine ACall.of (c5 f.key) ?_ | refine APCall.of (c5 f.key) ?_ | refine ACall.of (c5 g.key) ?_ | refine APCall.of (c5 g.key) ?_ | fail)
      all_goals (conv => whnf)
      all_goals first | exact DLe.refl _ | exact absurd rfl (by assumption) | trace_state
    · clear key
      cases x
      all_goals
        repeat' ((conv => whnf); first | with_reducible refine Dec.t (show true = true from rfl) ?_ | with_reducible refine Dec.t (show false = false from rfl) ?_ | with_reducible refine Dec.f (show ¬ (true = false) by decide) ?_ | with_reducible refine Dec.f (show ¬ (false = true) by decide) ?_ | refine Dec.t (by omega) ?_ | refine Dec.f (by omega) ?_ | refine Dec.split (fun _ => ?_) (fun _ => ?_) | refine Wr.id (by omega) ?_ | refine Chk.mk (by first | omega | exact rfl | (simp only [List.length_map]; omega) | (simp [room]; done) | (simp [room]; omega) | (simp [dropL, room]; done) | (simp [dropL, room]; omega)) ?_ | refine Nam.mk (List.length_map _) ?_ | refine Prep.skip ?_ | refine Eith.l ?_ | refine chk_t (x := D.flat _) (by assumption) ?_ | refine br_mk (fun _ => ?_) (fun _ => ?_) | refine ACall.of (law04_sane) ?_ | refine APCall.of (law04_sane) ?_ | refine ACall.of hFew ?_ | refine Nam.mk (List.length_map _) ?_ | refine Nam.mk (y := 1) rfl ?_ | refine ALoop.rounds 2 ?_ | refine ALoopN.step (E := (envOf Try.prog tt Try.f4.ntmps)) (envOf_ok ttok mixed) ?_ | refine ACall.of (c1) ?_ | refine APCall.of (c1) ?_ | refine ACall.of (c2) ?_ | refine APCall.of (c2) ?_ | refine ACall.of (c3 k) ?_ | refine APCall.of (c3 k) ?_ | refine ACall.of (c4 k) ?_ | refine APCall.of (c4 k) ?_ | refine ACall.of (c5 k) ?_ | refine APCall.of (c5 k) ?_ | fail)
      all_goals (conv => whnf)
      all_goals first | exact DLe.refl _ | exact absurd rfl (by assumption) | trace_state
  · rw [decide_eq_false hs] at hFew
    repeat' ((conv => whnf); first | with_reducible refine Dec.t (show true = true from rfl) ?_ | with_reducible refine Dec.t (show false = false from rfl) ?_ | with_reducible refine Dec.f (show ¬ (true = false) by decide) ?_ | with_reducible refine Dec.f (show ¬ (false = true) by decide) ?_ | refine Dec.t (by omega) ?_ | refine Dec.f (by omega) ?_ | refine Dec.split (fun _ => ?_) (fun _ => ?_) | refine Wr.id (by omega) ?_ | refine Chk.mk (by first | omega | exact rfl | (simp only [List.length_map]; omega) | (simp [room]; done) | (simp [room]; omega) | (simp [dropL, room]; done) | (simp [dropL, room]; omega)) ?_ | refine Nam.mk (List.length_map _) ?_ | refine Prep.skip ?_ | refine Eith.l ?_ | refine chk_t (x := D.flat _) (by assumption) ?_ | refine br_mk (fun _ => ?_) (fun _ => ?_) | refine ACall.of (law04_sane) ?_ | refine APCall.of (law04_sane) ?_ | refine ACall.of hFew ?_ | fail)
    all_goals (conv => whnf)
    all_goals exact DLe.refl _

end Go.PM

