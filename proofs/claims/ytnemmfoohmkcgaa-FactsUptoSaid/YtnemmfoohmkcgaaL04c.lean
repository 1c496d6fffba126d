/- The statements of layer 4: Upto. -/
import Derived.Test.YtnemmfoohmkcgaaL04a
namespace Go.PM
open Go.Proofs
set_option maxRecDepth 10000
set_option maxHeartbeats 4000000

theorem mid_of {l : List Fact} (h : 0 < l.length) : ∃ f g : Fact, (l.map Fact.d)[(0 : Int).toNat]? = some f.d ∧ (l.map Fact.d)[(((l.length : Int)).tdiv 2).toNat]? = some g.d := by
  have h2 : (((l.length : Int)).tdiv 2).toNat = l.length / 2 := by
    rw [Int.tdiv_eq_ediv_of_nonneg (by omega)]; omega
  refine ⟨l[0], l[l.length / 2], ?_, ?_⟩
  · simp [h]
  · rw [h2, List.getElem?_map, List.getElem?_eq_getElem (by omega)]; rfl
theorem law04_Upto (l : List Fact) (k : Key) (day known later : Int) (hl : l.length < 2 ^ 63) : CallP Try.prog 7 [.d (SL 8 (l.map Fact.d)), .d k.d, .d (I day), .d (I known), .d (I later)] (retD [.b true]) := by
  refine exPure_sound (E := envOf Try.prog tt Try.f7.ntmps) (envOf_ok ttok mixed) Try.func7 (by rfl) rfl rfl (Nat.le_of_ble_eq_true rfl) ?_
  have hFew := ref04_Few l hl
  by_cases hs : l.length ≤ 30
  · rw [decide_eq_true hs] at hFew
    by_cases hk : known ≤ later
    · have hU := facts_Upto l known (by omega)
      have hul : (l.filter fun f => decide (f.known ≤ known)).length ≤ l.length := List.length_filter_le _ _
      have key : ∀ k : Key, ∃ v x, CallP Try.prog 18 [.d (SL 8 (l.map Fact.d)), .d k.d, .d (I day), .d (I known)] (retD [I v, .b x]) ∧ CallP Try.prog 18 [.d (SL 8 ((l.filter fun f => decide (f.known ≤ known)).map Fact.d)), .d k.d, .d (I day), .d (I later)] (retD [I v, .b x]) := fun k => by
        have h := facts_At (l.filter fun f => decide (f.known ≤ known)) k day later (by omega)
        rw [at_know _ _ _ _ _ hk] at h
        exact ⟨_, _, facts_At l k day known (by omega), h⟩
      generalize (l.filter fun f => decide (f.known ≤ known)) = u at hU hul key
      obtain ⟨v, x, c1, c2⟩ := key k
      have hdiv : -9223372036854775808 ≤ ((l.length : Int)).tdiv 2 ∧ ((l.length : Int)).tdiv 2 < 9223372036854775808 := by
        rw [Int.tdiv_eq_ediv_of_nonneg (by omega)]; omega
      by_cases hpos : 0 < l.length
      · obtain ⟨f, g, hf, hg⟩ := mid_of hpos
        obtain ⟨vf, xf, d1, d2⟩ := key f.key
        obtain ⟨vg, xg, e1, e2⟩ := key g.key
        clear key
        cases x <;> cases xf <;> cases xg
        all_goals
          repeat' ((conv => whnf); first | refine Dec.t (of_decide_eq_true (Eq.refl true)) ?_ | refine Dec.f (of_decide_eq_false (Eq.refl false)) ?_ | with_reducible refine Dec.t (show true = true from rfl) ?_ | with_reducible refine Dec.t (show false = false from rfl) ?_ | with_reducible refine Dec.f (show ¬ (true = false) by decide) ?_ | with_reducible refine Dec.f (show ¬ (false = true) by decide) ?_ | refine Dec.t (by omega) ?_ | refine Dec.f (by omega) ?_ | refine Dec.split (fun _ => ?_) (fun _ => ?_) | refine Wr.id (by omega) ?_ | refine Chk.mk (by first | omega | exact rfl | (simp only [List.length_map]; omega) | (simp [room]; done) | (simp [room]; omega) | (simp [dropL, room]; done) | (simp [dropL, room]; omega)) ?_ | refine Nam.mk (List.length_map _) ?_ | refine Prep.skip ?_ | refine Eith.l ?_ | refine chk_t (x := D.flat _) (by assumption) ?_ | refine br_mk (fun _ => ?_) (fun _ => ?_) | refine ACall.of (law04_sane) ?_ | refine APCall.of (law04_sane) ?_ | refine ACall.of hFew ?_ | refine Wr.id hdiv ?_ | refine ACall.of (hU) ?_ | refine APCall.of (hU) ?_ | refine nthK_mk hf ?_ | refine nthK_mk hg ?_ | refine ALoop.rounds 4 ?_ | refine ALoopN.step (E := (envOf Try.prog tt Try.f7.ntmps)) (envOf_ok ttok mixed) ?_ | refine ACall.of (c1) ?_ | refine APCall.of (c1) ?_ | refine ACall.of (c2) ?_ | refine APCall.of (c2) ?_ | refine ACall.of (d1) ?_ | refine APCall.of (d1) ?_ | refine ACall.of (d2) ?_ | refine APCall.of (d2) ?_ | refine ACall.of (e1) ?_ | refine APCall.of (e1) ?_ | refine ACall.of (e2) ?_ | refine APCall.of (e2) ?_ | fail)
        all_goals (conv => whnf)
        all_goals first | exact DLe.refl _ | exact absurd rfl (by assumption) | (exact dle_b (by simp; omega)) | trace_state
      · clear key
        cases x
        all_goals
          repeat' ((conv => whnf); first | with_reducible refine Dec.t (show true = true from rfl) ?_ | with_reducible refine Dec.t (show false = false from rfl) ?_ | with_reducible refine Dec.f (show ¬ (true = false) by decide) ?_ | with_reducible refine Dec.f (show ¬ (false = true) by decide) ?_ | refine Dec.t (by omega) ?_ | refine Dec.f (by omega) ?_ | refine Dec.split (fun _ => ?_) (fun _ => ?_) | refine Wr.id (by omega) ?_ | refine Chk.mk (by first | omega | exact rfl | (simp only [List.length_map]; omega) | (simp [room]; done) | (simp [room]; omega) | (simp [dropL, room]; done) | (simp [dropL, room]; omega)) ?_ | refine Nam.mk (List.length_map _) ?_ | refine Prep.skip ?_ | refine Eith.l ?_ | refine chk_t (x := D.flat _) (by assumption) ?_ | refine br_mk (fun _ => ?_) (fun _ => ?_) | refine ACall.of (law04_sane) ?_ | refine APCall.of (law04_sane) ?_ | refine ACall.of hFew ?_ | refine ACall.of (hU) ?_ | refine APCall.of (hU) ?_ | refine Nam.mk (List.length_map _) ?_ | refine Nam.mk (y := 1) rfl ?_ | refine ALoop.rounds 2 ?_ | refine ALoopN.step (E := (envOf Try.prog tt Try.f7.ntmps)) (envOf_ok ttok mixed) ?_ | refine ACall.of (c1) ?_ | refine APCall.of (c1) ?_ | refine ACall.of (c2) ?_ | refine APCall.of (c2) ?_ | fail)
        all_goals (conv => whnf)
        all_goals first | exact DLe.refl _ | exact absurd rfl (by assumption) | (exact dle_b (by simp; omega)) | trace_state
    · repeat' ((conv => whnf); first | with_reducible refine Dec.t (show true = true from rfl) ?_ | with_reducible refine Dec.t (show false = false from rfl) ?_ | with_reducible refine Dec.f (show ¬ (true = false) by decide) ?_ | with_reducible refine Dec.f (show ¬ (false = true) by decide) ?_ | refine Dec.t (by omega) ?_ | refine Dec.f (by omega) ?_ | refine Dec.split (fun _ => ?_) (fun _ => ?_) | refine Wr.id (by omega) ?_ | refine Chk.mk (by first | omega | exact rfl | (simp only [List.length_map]; omega) | (simp [room]; done) | (simp [room]; omega) | (simp [dropL, room]; done) | (simp [dropL, room]; omega)) ?_ | refine Nam.mk (List.length_map _) ?_ | refine Prep.skip ?_ | refine Eith.l ?_ | refine chk_t (x := D.flat _) (by assumption) ?_ | refine br_mk (fun _ => ?_) (fun _ => ?_) | refine ACall.of (law04_sane) ?_ | refine APCall.of (law04_sane) ?_ | refine ACall.of hFew ?_ | fail)
      all_goals (conv => whnf)
      all_goals exact DLe.refl _
  · rw [decide_eq_false hs] at hFew
    repeat' ((conv => whnf); first | with_reducible refine Dec.t (show true = true from rfl) ?_ | with_reducible refine Dec.t (show false = false from rfl) ?_ | with_reducible refine Dec.f (show ¬ (true = false) by decide) ?_ | with_reducible refine Dec.f (show ¬ (false = true) by decide) ?_ | refine Dec.t (by omega) ?_ | refine Dec.f (by omega) ?_ | refine Dec.split (fun _ => ?_) (fun _ => ?_) | refine Wr.id (by omega) ?_ | refine Chk.mk (by first | omega | exact rfl | (simp only [List.length_map]; omega) | (simp [room]; done) | (simp [room]; omega) | (simp [dropL, room]; done) | (simp [dropL, room]; omega)) ?_ | refine Nam.mk (List.length_map _) ?_ | refine Prep.skip ?_ | refine Eith.l ?_ | refine chk_t (x := D.flat _) (by assumption) ?_ | refine br_mk (fun _ => ?_) (fun _ => ?_) | refine ACall.of (law04_sane) ?_ | refine APCall.of (law04_sane) ?_ | refine ACall.of hFew ?_ | fail)
    all_goals (conv => whnf)
    all_goals exact DLe.refl _
end Go.PM

