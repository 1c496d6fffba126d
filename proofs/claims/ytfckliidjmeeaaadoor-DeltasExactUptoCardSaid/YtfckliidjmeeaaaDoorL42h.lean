/- Deltas, law 42: Exact. -/
import Derived.Test.YtfckliidjmeeaaaDoorL42f
namespace Go.PM
open Go.Proofs
set_option maxRecDepth 10000
set_option maxHeartbeats 2000000

theorem law42_Exact (a b : List Ent) (d : Dl) (ha : a.length < 2 ^ 63) (hb : b.length < 2 ^ 63) (hd : d.w) : CallP Tryd.prog 5 [enD a, enD b, .d d.d] (retD [.b true]) := by
  have f1 := ref42_Few a ha
  have f2 := ref42_Few b hb
  have f3 := ref42_Few d.gone hd.g
  have f4 := ref42_Few d.new hd.n
  by_cases hs : a.length ≤ 60 ∧ b.length ≤ 60 ∧ d.gone.length ≤ 60 ∧ d.new.length ≤ 60
  · obtain ⟨s1, s2, s3, s4⟩ := hs
    rw [decide_eq_true s1] at f1
    rw [decide_eq_true s2] at f2
    rw [decide_eq_true s3] at f3
    rw [decide_eq_true s4] at f4
    have k1 := deltas_Diff a b d.why (smE_of s1) (smE_of s2) hd.y
    by_cases hv : vE a ∧ vE b
    · rw [diff_yes _ hv] at k1
      dsimp only at k1
      have k2 := deltas_Apply a ⟨lessE a b, lessE b a, d.why⟩ (smE_of s1) ⟨smE_of (Nat.le_trans (less_le a b) s1), smE_of (Nat.le_trans (less_le b a) s2), by have := hd.y; show d.why.length ≤ _; omega⟩
      rw [exact_ok hv.1 hv.2] at k2
      dsimp only at k2
      have k3 := same_yes rfl (ref42_SameEntries b b (by omega))
      have k4 := same_yes rfl (ref42_SameReasons d.why d.why (by have := hd.y; omega) hd.dd)
      have k5 := ref42_SameEntries a b (by omega)
      have k6 := deltas_Apply a d (smE_of s1) ⟨smE_of s3, smE_of s4, Nat.le_trans hd.y (by decide)⟩
      have hlen : (lessE a b).length + (lessE b a).length = 0 ↔ a = b := by
        rw [← diff_empty hv.1 hv.2, ← List.length_eq_zero_iff, ← List.length_eq_zero_iff]; omega
      have g1 := less_le a b
      have g2 := less_le b a
      have hA : ∀ z ∈ lessE a b, CallP Tryd.prog 23 [enD a, .d z.d] (retD [.b true]) ∧ CallP Tryd.prog 23 [enD b, .d z.d] (retD [.b false]) := fun z hz => by
        have h1 := ref42_Has a z (by omega)
        have h2 := ref42_Has b z (by omega)
        rw [decide_eq_true (lessE_mem.1 hz).1] at h1
        rw [decide_eq_false (lessE_mem.1 hz).2] at h2
        exact ⟨h1, h2⟩
      have hB : ∀ z ∈ lessE b a, CallP Tryd.prog 23 [enD b, .d z.d] (retD [.b true]) ∧ CallP Tryd.prog 23 [enD a, .d z.d] (retD [.b false]) := fun z hz => by
        have h1 := ref42_Has b z (by omega)
        have h2 := ref42_Has a z (by omega)
        rw [decide_eq_true (lessE_mem.1 hz).1] at h1
        rw [decide_eq_false (lessE_mem.1 hz).2] at h2
        exact ⟨h1, h2⟩
      have q1 : (⟨lessE a b, lessE b a, d.why⟩ : Dl).gone.length = (lessE a b).length := rfl
      have q2 : (⟨lessE a b, lessE b a, d.why⟩ : Dl).new.length = (lessE b a).length := rfl
      refine exPure_sound (E := envOf Tryd.prog tt Tryd.f5.ntmps) (envOf_ok ttok mixed) Tryd.func5 (by rfl) rfl rfl (Nat.le_of_ble_eq_true rfl) ?_
      by_cases hab : a = b
      all_goals first | rw [decide_eq_true hab] at k5 | rw [decide_eq_false hab] at k5
      · have hl0 := hlen.2 hab
        repeat' ((conv => whnf); first | (with_reducible first | refine dT ?_ | refine dU ?_ | refine dF ?_ | refine dG ?_) | refine aT ?_ | refine aF ?_ | refine dS (fun _ => ?_) fun _ => ?_ | refine aW ?_ | refine aC ?_ | refine aL ?_ | refine Prep.skip ?_ | refine Eith.l ?_ | refine aD ?_ | refine aB (fun _ => ?_) fun _ => ?_ | refine ACall.of (law42_sane) ?_ | refine APCall.of (law42_sane) ?_ | refine ACall.of (f1) ?_ | refine APCall.of (f1) ?_ | refine ACall.of (f2) ?_ | refine APCall.of (f2) ?_ | refine ACall.of (f3) ?_ | refine APCall.of (f3) ?_ | refine ACall.of (f4) ?_ | refine APCall.of (f4) ?_ | refine ACall.of (k1) ?_ | refine APCall.of (k1) ?_ | refine ACall.of (k2) ?_ | refine APCall.of (k2) ?_ | refine ACall.of (k3) ?_ | refine APCall.of (k3) ?_ | refine ACall.of (k4) ?_ | refine APCall.of (k4) ?_ | refine ACall.of (k5) ?_ | refine APCall.of (k5) ?_ | refine Nam.mk (List.length_map _) ?_ | fail)
        all_goals (conv => whnf)
        all_goals first | (exfalso; omega) | skip
        refine ALoop.at (E := envOf Tryd.prog tt Tryd.f5.ntmps) (envOf_ok ttok mixed) (X := Nat) (fun i => [(95, .d (I i))]) (fun _ => []) (fun i => i ≤ (lessE a b).length) (fun i => (lessE a b).length - i) 0 sam rfl (Nat.zero_le _) ?_
        intro i hi
        by_cases hlt : i < (lessE a b).length
        · obtain ⟨z, hz, _⟩ := drop_get hlt
          have hzm := hA z (List.mem_of_getElem? hz)
          have hz1 := hzm.1
          have hz2 := hzm.2
          repeat' ((conv => whnf); first | (with_reducible first | refine dT ?_ | refine dU ?_ | refine dF ?_ | refine dG ?_) | refine aT ?_ | refine aF ?_ | refine dS (fun _ => ?_) fun _ => ?_ | refine aW ?_ | refine aC ?_ | refine aL ?_ | refine Prep.skip ?_ | refine Eith.l ?_ | refine aD ?_ | refine aB (fun _ => ?_) fun _ => ?_ | refine nthK_mk (map_get hz) ?_ | refine ACall.of (hz1) ?_ | refine APCall.of (hz1) ?_ | refine ACall.of (hz2) ?_ | refine APCall.of (hz2) ?_ | fail)
          all_goals (conv => whnf)
          all_goals first | (exfalso; omega) | exact ⟨i + 1, Wm.end sam rfl rfl rfl, hlt, by show (lessE a b).length - (i + 1) < (lessE a b).length - i; omega⟩
        have hie : i = (lessE a b).length := by omega
        subst hie
        repeat' ((conv => whnf); first | (with_reducible first | refine dT ?_ | refine dU ?_ | refine dF ?_ | refine dG ?_) | refine aT ?_ | refine aF ?_ | refine dS (fun _ => ?_) fun _ => ?_ | refine aW ?_ | refine aC ?_ | refine aL ?_ | refine Prep.skip ?_ | refine Eith.l ?_ | refine aD ?_ | refine aB (fun _ => ?_) fun _ => ?_ | refine Nam.mk (List.length_map _) ?_ | fail)
        all_goals (conv => whnf)
        all_goals first | (exfalso; omega) | skip
        refine ALoop.at (E := envOf Tryd.prog tt Tryd.f5.ntmps) (envOf_ok ttok mixed) (X := Nat) (fun i => [(112, .d (I i))]) (fun _ => []) (fun i => i ≤ (lessE b a).length) (fun i => (lessE b a).length - i) 0 sam rfl (Nat.zero_le _) ?_
        intro i hi
        by_cases hlt : i < (lessE b a).length
        · obtain ⟨z, hz, _⟩ := drop_get hlt
          have hzm := hB z (List.mem_of_getElem? hz)
          have hz1 := hzm.1
          have hz2 := hzm.2
          repeat' ((conv => whnf); first | (with_reducible first | refine dT ?_ | refine dU ?_ | refine dF ?_ | refine dG ?_) | refine aT ?_ | refine aF ?_ | refine dS (fun _ => ?_) fun _ => ?_ | refine aW ?_ | refine aC ?_ | refine aL ?_ | refine Prep.skip ?_ | refine Eith.l ?_ | refine aD ?_ | refine aB (fun _ => ?_) fun _ => ?_ | refine nthK_mk (map_get hz) ?_ | refine ACall.of (hz1) ?_ | refine APCall.of (hz1) ?_ | refine ACall.of (hz2) ?_ | refine APCall.of (hz2) ?_ | fail)
          all_goals (conv => whnf)
          all_goals first | (exfalso; omega) | exact ⟨i + 1, Wm.end sam rfl rfl rfl, hlt, by show (lessE b a).length - (i + 1) < (lessE b a).length - i; omega⟩
        have hie : i = (lessE b a).length := by omega
        subst hie
        by_cases ok : applyOk a d
        · obtain ⟨z, hz⟩ : ∃ z, applyM a d = (z, 0) := ⟨_, by unfold applyM; rw [if_pos ok]⟩
          rw [hz] at k6
          have zl : z.length ≤ 120 := by have := len_apply (d := d) s1 s4; rw [hz] at this; exact this
          have k7 := ref42_SameEntries z b (by omega)
          by_cases hzb : z = b
          · rw [decide_eq_true hzb] at k7
            subst hzb
            have hu := exact_uniq hz
            have k8 := same_yes hu.1 (ref42_SameEntries d.gone (lessE a z) (by omega))
            have k9 := same_yes hu.2 (ref42_SameEntries d.new (lessE z a) (by omega))
            repeat' ((conv => whnf); first | (with_reducible first | refine dT ?_ | refine dU ?_ | refine dF ?_ | refine dG ?_) | refine aT ?_ | refine aF ?_ | refine dS (fun _ => ?_) fun _ => ?_ | refine aW ?_ | refine aC ?_ | refine aL ?_ | refine Prep.skip ?_ | refine Eith.l ?_ | refine aD ?_ | refine aB (fun _ => ?_) fun _ => ?_ | refine ACall.of (k6) ?_ | refine APCall.of (k6) ?_ | refine ACall.of (k7) ?_ | refine APCall.of (k7) ?_ | refine ACall.of (k8) ?_ | refine APCall.of (k8) ?_ | refine ACall.of (k9) ?_ | refine APCall.of (k9) ?_ | fail)
            all_goals (conv => whnf)
            all_goals first | exact DLe.refl _ | (exfalso; omega)
          · rw [decide_eq_false hzb] at k7
            repeat' ((conv => whnf); first | (with_reducible first | refine dT ?_ | refine dU ?_ | refine dF ?_ | refine dG ?_) | refine aT ?_ | refine aF ?_ | refine dS (fun _ => ?_) fun _ => ?_ | refine aW ?_ | refine aC ?_ | refine aL ?_ | refine Prep.skip ?_ | refine Eith.l ?_ | refine aD ?_ | refine aB (fun _ => ?_) fun _ => ?_ | refine ACall.of (k6) ?_ | refine APCall.of (k6) ?_ | refine ACall.of (k7) ?_ | refine APCall.of (k7) ?_ | fail)
            all_goals (conv => whnf)
            all_goals first | exact DLe.refl _ | (exfalso; omega)
        · have hz : applyM a d = ([], 420) := by unfold applyM; rw [if_neg ok]
          rw [hz] at k6
          repeat' ((conv => whnf); first | (with_reducible first | refine dT ?_ | refine dU ?_ | refine dF ?_ | refine dG ?_) | refine aT ?_ | refine aF ?_ | refine dS (fun _ => ?_) fun _ => ?_ | refine aW ?_ | refine aC ?_ | refine aL ?_ | refine Prep.skip ?_ | refine Eith.l ?_ | refine aD ?_ | refine aB (fun _ => ?_) fun _ => ?_ | refine ACall.of (k6) ?_ | refine APCall.of (k6) ?_ | fail)
          all_goals (conv => whnf)
          all_goals first | exact DLe.refl _ | (exfalso; omega)
      · have hl0 : ¬ _ := fun h => hab (hlen.1 h)
        repeat' ((conv => whnf); first | (with_reducible first | refine dT ?_ | refine dU ?_ | refine dF ?_ | refine dG ?_) | refine aT ?_ | refine aF ?_ | refine dS (fun _ => ?_) fun _ => ?_ | refine aW ?_ | refine aC ?_ | refine aL ?_ | refine Prep.skip ?_ | refine Eith.l ?_ | refine aD ?_ | refine aB (fun _ => ?_) fun _ => ?_ | refine ACall.of (law42_sane) ?_ | refine APCall.of (law42_sane) ?_ | refine ACall.of (f1) ?_ | refine APCall.of (f1) ?_ | refine ACall.of (f2) ?_ | refine APCall.of (f2) ?_ | refine ACall.of (f3) ?_ | refine APCall.of (f3) ?_ | refine ACall.of (f4) ?_ | refine APCall.of (f4) ?_ | refine ACall.of (k1) ?_ | refine APCall.of (k1) ?_ | refine ACall.of (k2) ?_ | refine APCall.of (k2) ?_ | refine ACall.of (k3) ?_ | refine APCall.of (k3) ?_ | refine ACall.of (k4) ?_ | refine APCall.of (k4) ?_ | refine ACall.of (k5) ?_ | refine APCall.of (k5) ?_ | refine Nam.mk (List.length_map _) ?_ | fail)
        all_goals (conv => whnf)
        all_goals first | (exfalso; omega) | skip
        refine ALoop.at (E := envOf Tryd.prog tt Tryd.f5.ntmps) (envOf_ok ttok mixed) (X := Nat) (fun i => [(95, .d (I i))]) (fun _ => []) (fun i => i ≤ (lessE a b).length) (fun i => (lessE a b).length - i) 0 sam rfl (Nat.zero_le _) ?_
        intro i hi
        by_cases hlt : i < (lessE a b).length
        · obtain ⟨z, hz, _⟩ := drop_get hlt
          have hzm := hA z (List.mem_of_getElem? hz)
          have hz1 := hzm.1
          have hz2 := hzm.2
          repeat' ((conv => whnf); first | (with_reducible first | refine dT ?_ | refine dU ?_ | refine dF ?_ | refine dG ?_) | refine aT ?_ | refine aF ?_ | refine dS (fun _ => ?_) fun _ => ?_ | refine aW ?_ | refine aC ?_ | refine aL ?_ | refine Prep.skip ?_ | refine Eith.l ?_ | refine aD ?_ | refine aB (fun _ => ?_) fun _ => ?_ | refine nthK_mk (map_get hz) ?_ | refine ACall.of (hz1) ?_ | refine APCall.of (hz1) ?_ | refine ACall.of (hz2) ?_ | refine APCall.of (hz2) ?_ | fail)
          all_goals (conv => whnf)
          all_goals first | (exfalso; omega) | exact ⟨i + 1, Wm.end sam rfl rfl rfl, hlt, by show (lessE a b).length - (i + 1) < (lessE a b).length - i; omega⟩
        have hie : i = (lessE a b).length := by omega
        subst hie
        repeat' ((conv => whnf); first | (with_reducible first | refine dT ?_ | refine dU ?_ | refine dF ?_ | refine dG ?_) | refine aT ?_ | refine aF ?_ | refine dS (fun _ => ?_) fun _ => ?_ | refine aW ?_ | refine aC ?_ | refine aL ?_ | refine Prep.skip ?_ | refine Eith.l ?_ | refine aD ?_ | refine aB (fun _ => ?_) fun _ => ?_ | refine Nam.mk (List.length_map _) ?_ | fail)
        all_goals (conv => whnf)
        all_goals first | (exfalso; omega) | skip
        refine ALoop.at (E := envOf Tryd.prog tt Tryd.f5.ntmps) (envOf_ok ttok mixed) (X := Nat) (fun i => [(112, .d (I i))]) (fun _ => []) (fun i => i ≤ (lessE b a).length) (fun i => (lessE b a).length - i) 0 sam rfl (Nat.zero_le _) ?_
        intro i hi
        by_cases hlt : i < (lessE b a).length
        · obtain ⟨z, hz, _⟩ := drop_get hlt
          have hzm := hB z (List.mem_of_getElem? hz)
          have hz1 := hzm.1
          have hz2 := hzm.2
          repeat' ((conv => whnf); first | (with_reducible first | refine dT ?_ | refine dU ?_ | refine dF ?_ | refine dG ?_) | refine aT ?_ | refine aF ?_ | refine dS (fun _ => ?_) fun _ => ?_ | refine aW ?_ | refine aC ?_ | refine aL ?_ | refine Prep.skip ?_ | refine Eith.l ?_ | refine aD ?_ | refine aB (fun _ => ?_) fun _ => ?_ | refine nthK_mk (map_get hz) ?_ | refine ACall.of (hz1) ?_ | refine APCall.of (hz1) ?_ | refine ACall.of (hz2) ?_ | refine APCall.of (hz2) ?_ | fail)
          all_goals (conv => whnf)
          all_goals first | (exfalso; omega) | exact ⟨i + 1, Wm.end sam rfl rfl rfl, hlt, by show (lessE b a).length - (i + 1) < (lessE b a).length - i; omega⟩
        have hie : i = (lessE b a).length := by omega
        subst hie
        by_cases ok : applyOk a d
        · obtain ⟨z, hz⟩ : ∃ z, applyM a d = (z, 0) := ⟨_, by unfold applyM; rw [if_pos ok]⟩
          rw [hz] at k6
          have zl : z.length ≤ 120 := by have := len_apply (d := d) s1 s4; rw [hz] at this; exact this
          have k7 := ref42_SameEntries z b (by omega)
          by_cases hzb : z = b
          · rw [decide_eq_true hzb] at k7
            subst hzb
            have hu := exact_uniq hz
            have k8 := same_yes hu.1 (ref42_SameEntries d.gone (lessE a z) (by omega))
            have k9 := same_yes hu.2 (ref42_SameEntries d.new (lessE z a) (by omega))
            repeat' ((conv => whnf); first | (with_reducible first | refine dT ?_ | refine dU ?_ | refine dF ?_ | refine dG ?_) | refine aT ?_ | refine aF ?_ | refine dS (fun _ => ?_) fun _ => ?_ | refine aW ?_ | refine aC ?_ | refine aL ?_ | refine Prep.skip ?_ | refine Eith.l ?_ | refine aD ?_ | refine aB (fun _ => ?_) fun _ => ?_ | refine ACall.of (k6) ?_ | refine APCall.of (k6) ?_ | refine ACall.of (k7) ?_ | refine APCall.of (k7) ?_ | refine ACall.of (k8) ?_ | refine APCall.of (k8) ?_ | refine ACall.of (k9) ?_ | refine APCall.of (k9) ?_ | fail)
            all_goals (conv => whnf)
            all_goals first | exact DLe.refl _ | (exfalso; omega)
          · rw [decide_eq_false hzb] at k7
            repeat' ((conv => whnf); first | (with_reducible first | refine dT ?_ | refine dU ?_ | refine dF ?_ | refine dG ?_) | refine aT ?_ | refine aF ?_ | refine dS (fun _ => ?_) fun _ => ?_ | refine aW ?_ | refine aC ?_ | refine aL ?_ | refine Prep.skip ?_ | refine Eith.l ?_ | refine aD ?_ | refine aB (fun _ => ?_) fun _ => ?_ | refine ACall.of (k6) ?_ | refine APCall.of (k6) ?_ | refine ACall.of (k7) ?_ | refine APCall.of (k7) ?_ | fail)
            all_goals (conv => whnf)
            all_goals first | exact DLe.refl _ | (exfalso; omega)
        · have hz : applyM a d = ([], 420) := by unfold applyM; rw [if_neg ok]
          rw [hz] at k6
          repeat' ((conv => whnf); first | (with_reducible first | refine dT ?_ | refine dU ?_ | refine dF ?_ | refine dG ?_) | refine aT ?_ | refine aF ?_ | refine dS (fun _ => ?_) fun _ => ?_ | refine aW ?_ | refine aC ?_ | refine aL ?_ | refine Prep.skip ?_ | refine Eith.l ?_ | refine aD ?_ | refine aB (fun _ => ?_) fun _ => ?_ | refine ACall.of (k6) ?_ | refine APCall.of (k6) ?_ | fail)
          all_goals (conv => whnf)
          all_goals first | exact DLe.refl _ | (exfalso; omega)
    · rw [diff_no _ hv] at k1
      dsimp only at k1
      have e2 := same_yes rfl (ref42_Same ⟨[], [], []⟩ ⟨[], [], []⟩ (by decide) (by decide) (by decide) (by simp))
      have e2 := callAs (args := [.d (Dlt.d (⟨[], [], []⟩ : Dl)), .d (.agg [nD, nD, nD])]) e2 ⟨VLe.refl _, VLe.d (DLe.agg ⟨vN _, vN _, vN _, rfl⟩), rfl⟩
      refine exPure_sound (E := envOf Tryd.prog tt Tryd.f5.ntmps) (envOf_ok ttok mixed) Tryd.func5 (by rfl) rfl rfl (Nat.le_of_ble_eq_true rfl) ?_
      repeat' ((conv => whnf); first | (with_reducible first | refine dT ?_ | refine dU ?_ | refine dF ?_ | refine dG ?_) | refine aT ?_ | refine aF ?_ | refine dS (fun _ => ?_) fun _ => ?_ | refine aW ?_ | refine aC ?_ | refine aL ?_ | refine Prep.skip ?_ | refine Eith.l ?_ | refine aD ?_ | refine aB (fun _ => ?_) fun _ => ?_ | refine ACall.of (law42_sane) ?_ | refine APCall.of (law42_sane) ?_ | refine ACall.of (f1) ?_ | refine APCall.of (f1) ?_ | refine ACall.of (f2) ?_ | refine APCall.of (f2) ?_ | refine ACall.of (f3) ?_ | refine APCall.of (f3) ?_ | refine ACall.of (f4) ?_ | refine APCall.of (f4) ?_ | refine ACall.of (k1) ?_ | refine APCall.of (k1) ?_ | refine ACall.of (e2) ?_ | refine APCall.of (e2) ?_ | fail)
      all_goals (conv => whnf)
      all_goals first | exact DLe.refl _ | (exfalso; omega)
  · refine exPure_sound (E := envOf Tryd.prog tt Tryd.f5.ntmps) (envOf_ok ttok mixed) Tryd.func5 (by rfl) rfl rfl (Nat.le_of_ble_eq_true rfl) ?_
    repeat' ((conv => whnf); first | (with_reducible first | refine dT ?_ | refine dU ?_ | refine dF ?_ | refine dG ?_) | refine aT ?_ | refine aF ?_ | refine dS (fun _ => ?_) fun _ => ?_ | refine aW ?_ | refine aC ?_ | refine aL ?_ | refine Prep.skip ?_ | refine Eith.l ?_ | refine aD ?_ | refine aB (fun _ => ?_) fun _ => ?_ | refine ACall.of (law42_sane) ?_ | refine APCall.of (law42_sane) ?_ | refine ACall.ofB (f1) (fun _ => ?_) (fun _ => ?_) | refine APCall.ofB (f1) (fun _ => ?_) (fun _ => ?_) | refine ACall.ofB (f2) (fun _ => ?_) (fun _ => ?_) | refine APCall.ofB (f2) (fun _ => ?_) (fun _ => ?_) | refine ACall.ofB (f3) (fun _ => ?_) (fun _ => ?_) | refine APCall.ofB (f3) (fun _ => ?_) (fun _ => ?_) | refine ACall.ofB (f4) (fun _ => ?_) (fun _ => ?_) | refine APCall.ofB (f4) (fun _ => ?_) (fun _ => ?_) | exact absurd ⟨of_decide_eq_true (by assumption), of_decide_eq_true (by assumption), of_decide_eq_true (by assumption), of_decide_eq_true (by assumption)⟩ hs | fail)
    all_goals (conv => whnf)
    all_goals first | exact DLe.refl _
end Go.PM

