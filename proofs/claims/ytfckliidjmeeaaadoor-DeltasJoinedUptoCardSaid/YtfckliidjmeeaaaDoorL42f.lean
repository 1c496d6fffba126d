/- Deltas, law 42: Spec, Joined, Three. -/
import Derived.Test.YtfckliidjmeeaaaDoorL42ctoL42x
namespace Go.PM
open Go.Proofs
set_option maxRecDepth 10000
set_option maxHeartbeats 2000000

abbrev enD (l : List Ent) : V := .d (SL 2 (l.map Ent.d))
abbrev whD (l : List Why) : V := .d (SL 4 (l.map Why.d))
theorem smE_of {l : List Ent} (h : l.length ≤ 60) : SmE l := by unfold SmE; omega
/-- What can be compared. -/
structure CmpD (d : Dl) : Prop where
  g : d.gone.length < 2 ^ 40
  n : d.new.length < 2 ^ 40
  w : d.why.length < 2 ^ 40
  dd : ∀ w ∈ d.why, w.days.length < 2 ^ 40
theorem cmp_join {d e : Dl} (h1 : d.gone.length ≤ 60) (h2 : d.new.length ≤ 60) (h3 : e.gone.length ≤ 60) (h4 : e.new.length ≤ 60) (hd : d.why.length ≤ 1048576) (he : e.why.length ≤ 1048576) (hdd : ∀ w ∈ d.why, w.days.length < 2 ^ 40) (hed : ∀ w ∈ e.why, w.days.length < 2 ^ 40) : CmpD (joinM d e).1 := by
  unfold joinM
  split
  · refine ⟨?_, ?_, ?_, ?_⟩
    · have := less_le (joinG d e) (joinN d e)
      have l2 := less_le e.gone d.new
      rw [ordE_len]; unfold joinG at *; simp only [List.length_append] at this; omega
    · have := less_le (joinN d e) (joinG d e)
      have l2 := less_le d.new e.gone
      rw [ordE_len]; unfold joinN at *; simp only [List.length_append] at this; omega
    · simp only [List.length_append]; omega
    · intro w hw
      rcases List.mem_append.1 hw with h | h
      · exact hdd w h
      · exact hed w h
  · exact ⟨by simp, by simp, by simp, by simp⟩
theorem len_apply {a : List Ent} {d : Dl} (ha : a.length ≤ 60) (hd : d.new.length ≤ 60) : (applyM a d).1.length ≤ 120 := by
  unfold applyM
  split
  · have := less_le a d.gone
    rw [ordE_len]; simp only [List.length_append]; omega
  · simp
theorem law42_Joined (a : List Ent) (d e : Dl) (ha : a.length < 2 ^ 63) (hd : d.w) (he : e.w) : CallP Tryd.prog 6 [enD a, .d d.d, .d e.d] (retD [.b true]) := by
  have f1 := ref42_Few a ha
  have f3 := ref42_Few d.gone hd.g
  have f4 := ref42_Few d.new hd.n
  have f5 := ref42_Few e.gone he.g
  have f6 := ref42_Few e.new he.n
  by_cases hs : a.length ≤ 60 ∧ d.gone.length ≤ 60 ∧ d.new.length ≤ 60 ∧ e.gone.length ≤ 60 ∧ e.new.length ≤ 60
  · obtain ⟨s1, s3, s4, s5, s6⟩ := hs
    rw [decide_eq_true s1] at f1
    rw [decide_eq_true s3] at f3
    rw [decide_eq_true s4] at f4
    rw [decide_eq_true s5] at f5
    rw [decide_eq_true s6] at f6
    have sd : SmD d := ⟨smE_of s3, smE_of s4, Nat.le_trans hd.y (by decide)⟩
    have se : SmD e := ⟨smE_of s5, smE_of s6, Nat.le_trans he.y (by decide)⟩
    have k1 := deltas_Apply a d (smE_of s1) sd
    by_cases ok1 : applyOk a d
    · obtain ⟨b, hb⟩ : ∃ b, applyM a d = (b, 0) := ⟨_, by unfold applyM; rw [if_pos ok1]⟩
      have bl : b.length ≤ 120 := by have := len_apply (d := d) s1 s4; rw [hb] at this; exact this
      have k2 := deltas_Apply b e (by unfold SmE; omega) se
      rw [hb] at k1
      by_cases ok2 : applyOk b e
      · obtain ⟨c, hc⟩ : ∃ c, applyM b e = (c, 0) := ⟨_, by unfold applyM; rw [if_pos ok2]⟩
        rw [hc] at k2
        obtain ⟨x, hj, hw, hx⟩ := joined_ok hb hc
        have k3 := deltas_Join d e sd se
        have cm := cmp_join s3 s4 s5 s6 hd.y he.y hd.dd he.dd
        rw [hj] at k3 cm
        dsimp only at k3 cm
        have sx : SmE x.gone ∧ SmE x.new ∧ x.why.length < 2 ^ 40 := by
          have : joinM d e = (x, 0) := hj
          unfold joinM at this
          split at this
          · have hx2 := (Prod.mk.inj this).1
            subst hx2
            have l1 := less_le (joinG d e) (joinN d e)
            have l2 := less_le e.gone d.new
            have l3 := less_le (joinN d e) (joinG d e)
            have l4 := less_le d.new e.gone
            unfold joinG joinN SmE at *
            simp only [List.length_append, ordE_len] at *
            exact ⟨by omega, by omega, by have := hd.y; have := he.y; omega⟩
          · cases (Prod.mk.inj this).2
        have k4 := deltas_Apply a x (smE_of s1) ⟨sx.1, sx.2.1, by rw [hw, List.length_append]; have := hd.y; have := he.y; omega⟩
        rw [hx] at k4
        have cl : c.length < 2 ^ 40 := by
          have hc' := hc
          unfold applyM at hc'
          rw [if_pos ok2] at hc'
          have h1 := (Prod.mk.inj hc').1
          subst h1
          have := less_le b e.gone
          rw [ordE_len]; simp only [List.length_append]; omega
        have k5 := same_yes rfl (ref42_SameEntries c c cl)
        have hwl : ((x.why.length : Nat) : Int) = (d.why.length : Int) + (e.why.length : Int) := by rw [hw, List.length_append]; omega
        have hy1 := hd.y
        have hy2 := he.y
        dsimp only at k1 k2 k3 k4
        refine exPure_sound (E := envOf Tryd.prog tt Tryd.f6.ntmps) (envOf_ok ttok mixed) Tryd.func6 (by rfl) rfl rfl (Nat.le_of_ble_eq_true rfl) ?_
        repeat' ((conv => whnf); first | (with_reducible first | refine dT ?_ | refine dU ?_ | refine dF ?_ | refine dG ?_) | refine aT ?_ | refine aF ?_ | refine dS (fun _ => ?_) fun _ => ?_ | refine aW ?_ | refine aC ?_ | refine aL ?_ | refine Prep.skip ?_ | refine Eith.l ?_ | refine aD ?_ | refine aB (fun _ => ?_) fun _ => ?_ | refine ACall.of (law42_sane) ?_ | refine APCall.of (law42_sane) ?_ | refine ACall.of (f1) ?_ | refine APCall.of (f1) ?_ | refine ACall.of (f3) ?_ | refine APCall.of (f3) ?_ | refine ACall.of (f4) ?_ | refine APCall.of (f4) ?_ | refine ACall.of (f5) ?_ | refine APCall.of (f5) ?_ | refine ACall.of (f6) ?_ | refine APCall.of (f6) ?_ | refine ACall.of (k1) ?_ | refine APCall.of (k1) ?_ | refine ACall.of (k2) ?_ | refine APCall.of (k2) ?_ | refine ACall.of (k3) ?_ | refine APCall.of (k3) ?_ | refine ACall.of (k4) ?_ | refine APCall.of (k4) ?_ | refine ACall.of (k5) ?_ | refine APCall.of (k5) ?_ | refine Nam.mk (List.length_map _) ?_ | fail)
        all_goals (conv => whnf)
        all_goals first | exact DLe.refl _ | (exfalso; omega)
      · have hc : applyM b e = ([], 420) := by unfold applyM; rw [if_neg ok2]
        rw [hc] at k2
        refine exPure_sound (E := envOf Tryd.prog tt Tryd.f6.ntmps) (envOf_ok ttok mixed) Tryd.func6 (by rfl) rfl rfl (Nat.le_of_ble_eq_true rfl) ?_
        repeat' ((conv => whnf); first | (with_reducible first | refine dT ?_ | refine dU ?_ | refine dF ?_ | refine dG ?_) | refine aT ?_ | refine aF ?_ | refine dS (fun _ => ?_) fun _ => ?_ | refine aW ?_ | refine aC ?_ | refine aL ?_ | refine Prep.skip ?_ | refine Eith.l ?_ | refine aD ?_ | refine aB (fun _ => ?_) fun _ => ?_ | refine ACall.of (law42_sane) ?_ | refine APCall.of (law42_sane) ?_ | refine ACall.of (f1) ?_ | refine APCall.of (f1) ?_ | refine ACall.of (f3) ?_ | refine APCall.of (f3) ?_ | refine ACall.of (f4) ?_ | refine APCall.of (f4) ?_ | refine ACall.of (f5) ?_ | refine APCall.of (f5) ?_ | refine ACall.of (f6) ?_ | refine APCall.of (f6) ?_ | refine ACall.of (k1) ?_ | refine APCall.of (k1) ?_ | refine ACall.of (k2) ?_ | refine APCall.of (k2) ?_ | fail)
        all_goals (conv => whnf)
        all_goals first | exact DLe.refl _ | (rename_i h; exact absurd rfl h)
    · have hb : applyM a d = ([], 420) := by unfold applyM; rw [if_neg ok1]
      rw [hb] at k1
      refine exPure_sound (E := envOf Tryd.prog tt Tryd.f6.ntmps) (envOf_ok ttok mixed) Tryd.func6 (by rfl) rfl rfl (Nat.le_of_ble_eq_true rfl) ?_
      repeat' ((conv => whnf); first | (with_reducible first | refine dT ?_ | refine dU ?_ | refine dF ?_ | refine dG ?_) | refine aT ?_ | refine aF ?_ | refine dS (fun _ => ?_) fun _ => ?_ | refine aW ?_ | refine aC ?_ | refine aL ?_ | refine Prep.skip ?_ | refine Eith.l ?_ | refine aD ?_ | refine aB (fun _ => ?_) fun _ => ?_ | refine ACall.of (law42_sane) ?_ | refine APCall.of (law42_sane) ?_ | refine ACall.of (f1) ?_ | refine APCall.of (f1) ?_ | refine ACall.of (f3) ?_ | refine APCall.of (f3) ?_ | refine ACall.of (f4) ?_ | refine APCall.of (f4) ?_ | refine ACall.of (f5) ?_ | refine APCall.of (f5) ?_ | refine ACall.of (f6) ?_ | refine APCall.of (f6) ?_ | refine ACall.of (k1) ?_ | refine APCall.of (k1) ?_ | fail)
      all_goals (conv => whnf)
      all_goals first | exact DLe.refl _ | (rename_i h; exact absurd rfl h)
  · refine exPure_sound (E := envOf Tryd.prog tt Tryd.f6.ntmps) (envOf_ok ttok mixed) Tryd.func6 (by rfl) rfl rfl (Nat.le_of_ble_eq_true rfl) ?_
    repeat' ((conv => whnf); first | (with_reducible first | refine dT ?_ | refine dU ?_ | refine dF ?_ | refine dG ?_) | refine aT ?_ | refine aF ?_ | refine dS (fun _ => ?_) fun _ => ?_ | refine aW ?_ | refine aC ?_ | refine aL ?_ | refine Prep.skip ?_ | refine Eith.l ?_ | refine aD ?_ | refine aB (fun _ => ?_) fun _ => ?_ | refine ACall.of (law42_sane) ?_ | refine APCall.of (law42_sane) ?_ | refine ACall.ofB (f1) (fun _ => ?_) (fun _ => ?_) | refine APCall.ofB (f1) (fun _ => ?_) (fun _ => ?_) | refine ACall.ofB (f3) (fun _ => ?_) (fun _ => ?_) | refine APCall.ofB (f3) (fun _ => ?_) (fun _ => ?_) | refine ACall.ofB (f4) (fun _ => ?_) (fun _ => ?_) | refine APCall.ofB (f4) (fun _ => ?_) (fun _ => ?_) | refine ACall.ofB (f5) (fun _ => ?_) (fun _ => ?_) | refine APCall.ofB (f5) (fun _ => ?_) (fun _ => ?_) | refine ACall.ofB (f6) (fun _ => ?_) (fun _ => ?_) | refine APCall.ofB (f6) (fun _ => ?_) (fun _ => ?_) | exact absurd ⟨of_decide_eq_true (by assumption), of_decide_eq_true (by assumption), of_decide_eq_true (by assumption), of_decide_eq_true (by assumption), of_decide_eq_true (by assumption)⟩ hs | fail)
    all_goals (conv => whnf)
    all_goals first | exact DLe.refl _
end Go.PM

