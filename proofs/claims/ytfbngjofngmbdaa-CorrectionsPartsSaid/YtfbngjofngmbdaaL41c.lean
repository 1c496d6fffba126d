/- The statements of layer 41: CorrectionsParts, its contract. -/
import Derived.Test.YtfbngjofngmbdaaL41a
namespace Go.PM
open Go.Proofs
set_option maxRecDepth 10000
set_option maxHeartbeats 8000000

theorem recM_cons (l : List Fact) (c : Corr) (cs : List Corr) (t : Int) : recM l (c :: cs) t = if (addM l (corrFact c t (nextNo l t))).2 = 0 then recM (addM l (corrFact c t (nextNo l t))).1 cs t else ([], (addM l (corrFact c t (nextNo l t))).2) := rfl
theorem recM_append : ∀ (a b : List Corr) (l : List Fact) (t : Int), recM l (a ++ b) t = if (recM l a t).2 = 0 then recM (recM l a t).1 b t else ([], (recM l a t).2)
  | [], b, l, t => by
    rw [List.nil_append, show recM l [] t = (l, 0) from rfl, if_pos rfl]
  | c :: a, b, l, t => by
    rw [List.cons_append, recM_cons, recM_cons]
    by_cases h1 : (addM l (corrFact c t (nextNo l t))).2 = 0
    · rw [if_pos h1, if_pos h1]; exact recM_append a b _ t
    · rw [if_neg h1, if_neg h1, if_neg h1]
structure PartR (l : List Fact) (a b : List Corr) (t : Int) : Prop where
  bad : ¬ (applyM l a t).2 = 0 → ¬ (applyM l (a ++ b) t).2 = 0
  good : (applyM l a t).2 = 0 → (applyM (applyM l a t).1 b t).1 = (applyM l (a ++ b) t).1 ∧ ((applyM (applyM l a t).1 b t).2 = 0 ↔ (applyM l (a ++ b) t).2 = 0)
theorem parts (l : List Fact) (a b : List Corr) (t : Int) (hs : a.length + b.length ≤ 64) : PartR l a b t := by
  refine ⟨fun h h2 => ?_, fun h => ?_⟩
  · obtain ⟨h1, f1, e1, _⟩ := applyM_ok h2
    have fa : fit l a t := ⟨⟨by omega, fun c hc => f1.1.2 c (List.mem_append_left _ hc)⟩, f1.2⟩
    rw [e1, recM_append] at h2
    rw [apply_fit h1 fa] at h
    rw [if_neg h] at h2
    exact h h2
  · obtain ⟨h1, f1, e1, r1⟩ := applyM_ok h
    rw [e1] at h r1 ⊢
    by_cases hb : ∀ c ∈ b, c.ok
    · have f2 : fit l (a ++ b) t := ⟨⟨by rw [List.length_append]; exact hs, fun c hc => by
        rcases List.mem_append.1 hc with hc | hc
        · exact f1.1.2 c hc
        · exact hb c hc⟩, f1.2⟩
      have f3 : fit (recM l a t).1 b t := ⟨⟨by omega, hb⟩, f1.2.1, r1.now f1.2.2⟩
      rw [apply_fit h1 f2, apply_fit r1.check f3, recM_append, if_pos h]
      exact ⟨rfl, Iff.rfl⟩
    · have f2 : ¬ fit l (a ++ b) t := fun hf => hb fun c hc => hf.1.2 c (List.mem_append_right _ hc)
      have f3 : ¬ fit (recM l a t).1 b t := fun hf => hb hf.1.2
      rw [apply_unfit h1 f2, apply_unfit r1.check f3]
      exact ⟨rfl, Iff.rfl⟩
theorem law41_Parts (w : CWorld) (cs : List Corr) (t : Int) (p : Int) (hl : w.facts.length < 2 ^ 63) (hc : cs.length < 2 ^ 63) (hp : 0 ≤ p ∧ p < 256) : CallP Try.prog 5 [.d w.d, .d (SL 6 (cs.map Corr.d)), .d (I t), .d (.i .u8 p)] (retD [.b true]) := by
  by_cases hf : w.facts.length ≤ 30 ∧ cs.length ≤ 8
  · obtain ⟨k, hk, hm⟩ : ∃ k : Nat, k ≤ cs.length ∧ p.tmod ((cs.length : Int) + 1) = k := ⟨(p.tmod ((cs.length : Int) + 1)).toNat, by
      rw [Int.tmod_eq_emod_of_nonneg hp.1]
      have h1 := Int.emod_nonneg p (b := (cs.length : Int) + 1) (by omega)
      have h2 := Int.emod_lt_of_pos p (b := (cs.length : Int) + 1) (by omega)
      exact ⟨by omega, by omega⟩⟩
    have ek : (p.tmod ((cs.length : Int) + 1)).toNat = k := by rw [hm]; rfl
    have hA := corr_Apply w cs t (by omega) (by omega)
    obtain ⟨X, hX, hXf⟩ : ∃ X : CWorld, w.put (applyM w.facts cs t) = X ∧ X.facts = (applyM w.facts cs t).1 := ⟨_, rfl, put_facts w cs t⟩
    rw [hX] at hA
    have hB := corr_Apply w (cs.take k) t (by omega) (by rw [List.length_take]; omega)
    obtain ⟨Y, hY, hYf⟩ : ∃ Y : CWorld, w.put (applyM w.facts (cs.take k) t) = Y ∧ Y.facts = (applyM w.facts (cs.take k) t).1 := ⟨_, rfl, put_facts w _ t⟩
    rw [hY] at hB
    have hB2 : CallP Try.prog 8 [.d w.d, .d (.sl 6 false (List.take (p.tmod ((cs.length : Int) + 1)).toNat (cs.map Corr.d))), .d (I t)] (retD [Y.d, I (applyM w.facts (cs.take k) t).2]) := by rw [ek, ← List.map_take]; exact hB
    have hyl : Y.facts.length ≤ 38 := by rw [hYf]; have := applyM_len w.facts (cs.take k) t; rw [List.length_take] at this; omega
    have hC := corr_Apply Y (cs.drop k) t (by omega) (by rw [List.length_drop]; omega)
    obtain ⟨Z, hZ, hZf⟩ : ∃ Z : CWorld, Y.put (applyM Y.facts (cs.drop k) t) = Z ∧ Z.facts = (applyM Y.facts (cs.drop k) t).1 := ⟨_, rfl, put_facts Y _ t⟩
    rw [hZ] at hC
    have hC2 : CallP Try.prog 8 [.d Y.d, .d (.sl 6 false (List.drop (p.tmod ((cs.length : Int) + 1)).toNat (cs.map Corr.d))), .d (I t)] (retD [Z.d, I (applyM Y.facts (cs.drop k) t).2]) := by rw [ek, ← List.map_drop]; exact hC
    have hP := parts w.facts (cs.take k) (cs.drop k) t (by rw [List.length_take, List.length_drop]; omega)
    have hP1 := hP.bad
    have hP2 := hP.good
    rw [List.take_append_drop] at hP1 hP2
    rw [← hYf, ← hXf] at hP2
    clear hP
    have hxl : X.facts.length < 2 ^ 40 := by rw [hXf]; have := applyM_len w.facts cs t; omega
    have hS := same_facts X.facts hxl
    have hM : 0 ≤ p.tmod ((cs.length : Int) + 1) ∧ p.tmod ((cs.length : Int) + 1) ≤ cs.length := by omega
    clear hB hC hZ hY hX
    by_cases hz : (applyM w.facts (cs.take k) t).2 = 0
    · obtain ⟨e1, e2⟩ := hP2 hz
      rw [← hZf] at e1
      rw [hz] at hB2
      have hS2 : CallP Try.prog 10 [.d (SL 8 (X.facts.map Fact.d)), .d (SL 8 (Z.facts.map Fact.d))] (retD [.b true]) := by rw [e1]; exact hS
      refine exPure_sound (E := envOf Try.prog tt Try.f5.ntmps) (envOf_ok ttok mixed) Try.func5 (by rfl) rfl rfl (Nat.le_of_ble_eq_true rfl) ?_
      repeat' ((conv => whnf); first | with_reducible refine Dec.t (show true = true from rfl) ?_ | with_reducible refine Dec.t (show false = false from rfl) ?_ | with_reducible refine Dec.f (show ¬ (true = false) by decide) ?_ | with_reducible refine Dec.f (show ¬ (false = true) by decide) ?_ | refine Dec.t (by omega) ?_ | refine Dec.f (by omega) ?_ | refine Dec.split (fun _ => ?_) (fun _ => ?_) | refine Wr.id (by omega) ?_ | refine Chk.mk (by first | omega | exact rfl | (simp only [List.length_map]; omega) | (simp [room]; done) | (simp [room]; omega) | (simp [dropL, room]; done) | (simp [dropL, room]; omega)) ?_ | refine Nam.mk (List.length_map _) ?_ | refine Prep.skip ?_ | refine Eith.l ?_ | refine chk_t (x := D.flat _) (by assumption) ?_ | refine br_mk (fun _ => ?_) (fun _ => ?_) | refine ACall.of (law41_sane) ?_ | refine APCall.of (law41_sane) ?_ | refine ACall.ofB (ref41_Few w cs hl) (fun _ => ?_) (fun h => absurd hf (of_decide_eq_false h)) | refine ACall.of (hA) ?_ | refine APCall.of (hA) ?_ | refine ACall.of (hB2) ?_ | refine APCall.of (hB2) ?_ | refine ACall.of (hC2) ?_ | refine APCall.of (hC2) ?_ | refine ACall.of (hS2) ?_ | refine APCall.of (hS2) ?_ | fail)
      all_goals first | (exfalso; rename_i h; exact h rfl) | (exfalso; rename_i h1 h2; exact h2 (decide_eq_decide.2 e2.symm)) | (exfalso; rename_i h1 h2; exact absurd (e2.1 h2) h1) | (exfalso; rename_i h1 h2; exact absurd (e2.2 h1) h2) | skip
      all_goals (conv => whnf)
      all_goals first | exact DLe.refl _
    · have hYe : Y.facts = [] := by rw [hYf]; exact applyM_bad hz
      refine exPure_sound (E := envOf Try.prog tt Try.f5.ntmps) (envOf_ok ttok mixed) Try.func5 (by rfl) rfl rfl (Nat.le_of_ble_eq_true rfl) ?_
      repeat' ((conv => whnf); first | with_reducible refine Dec.t (show true = true from rfl) ?_ | with_reducible refine Dec.t (show false = false from rfl) ?_ | with_reducible refine Dec.f (show ¬ (true = false) by decide) ?_ | with_reducible refine Dec.f (show ¬ (false = true) by decide) ?_ | refine Dec.t (by omega) ?_ | refine Dec.f (by omega) ?_ | refine Dec.split (fun _ => ?_) (fun _ => ?_) | refine Wr.id (by omega) ?_ | refine Chk.mk (by first | omega | exact rfl | (simp only [List.length_map]; omega) | (simp [room]; done) | (simp [room]; omega) | (simp [dropL, room]; done) | (simp [dropL, room]; omega)) ?_ | refine Nam.mk (List.length_map _) ?_ | refine Prep.skip ?_ | refine Eith.l ?_ | refine chk_t (x := D.flat _) (by assumption) ?_ | refine br_mk (fun _ => ?_) (fun _ => ?_) | refine ACall.of (law41_sane) ?_ | refine APCall.of (law41_sane) ?_ | refine ACall.ofB (ref41_Few w cs hl) (fun _ => ?_) (fun h => absurd hf (of_decide_eq_false h)) | refine ACall.of (hA) ?_ | refine APCall.of (hA) ?_ | refine ACall.of (hB2) ?_ | refine APCall.of (hB2) ?_ | fail)
      all_goals first | (exfalso; rename_i h; exact h rfl) | (exfalso; rename_i h; exact hP1 hz h) | (exfalso; rename_i h; exact h (by rw [hYe]; rfl)) | (exfalso; exact hz (by assumption)) | skip
      all_goals (conv => whnf)
      all_goals first | exact DLe.refl _
  · refine exPure_sound (E := envOf Try.prog tt Try.f5.ntmps) (envOf_ok ttok mixed) Try.func5 (by rfl) rfl rfl (Nat.le_of_ble_eq_true rfl) ?_
    repeat' ((conv => whnf); first | with_reducible refine Dec.t (show true = true from rfl) ?_ | with_reducible refine Dec.t (show false = false from rfl) ?_ | with_reducible refine Dec.f (show ¬ (true = false) by decide) ?_ | with_reducible refine Dec.f (show ¬ (false = true) by decide) ?_ | refine Dec.t (by omega) ?_ | refine Dec.f (by omega) ?_ | refine Dec.split (fun _ => ?_) (fun _ => ?_) | refine Wr.id (by omega) ?_ | refine Chk.mk (by first | omega | exact rfl | (simp only [List.length_map]; omega) | (simp [room]; done) | (simp [room]; omega) | (simp [dropL, room]; done) | (simp [dropL, room]; omega)) ?_ | refine Nam.mk (List.length_map _) ?_ | refine Prep.skip ?_ | refine Eith.l ?_ | refine chk_t (x := D.flat _) (by assumption) ?_ | refine br_mk (fun _ => ?_) (fun _ => ?_) | refine ACall.of (law41_sane) ?_ | refine APCall.of (law41_sane) ?_ | refine ACall.ofB (ref41_Few w cs hl) (fun h => absurd (of_decide_eq_true h) hf) (fun _ => ?_) | fail)
    all_goals (conv => whnf)
    all_goals exact DLe.refl _
end Go.PM

