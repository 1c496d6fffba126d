/- Deltas, law 42: Spec, Joined, Three. -/
import Derived.Test.YtfckliidjmeeaaaDoorL42ctoL42x
namespace Go.PM
open Go.Proofs
set_option maxRecDepth 10000
set_option maxHeartbeats 2000000

abbrev enD (l : List Ent) : V := .d (SL 2 (l.map Ent.d))
abbrev whD (l : List Why) : V := .d (SL 4 (l.map Why.d))
theorem smE_of {l : List Ent} (h : l.length ≤ 60) : SmE l := by unfold SmE; omega
/-- What can be compared. -/
structure CmpD (d : Dl) : Prop where
  g : d.gone.length < 2 ^ 40
  n : d.new.length < 2 ^ 40
  w : d.why.length < 2 ^ 40
  dd : ∀ w ∈ d.why, w.days.length < 2 ^ 40
theorem same_self {d : Dl} (h : CmpD d) : CallP Tryd.prog 21 [.d d.d, .d d.d] (retD [.b true]) := same_yes rfl (ref42_Same d d h.g h.n h.w h.dd)
theorem cmp_diff {a b : List Ent} {r : List Why} (ha : a.length ≤ 60) (hb : b.length ≤ 60) (hr : r.length < 2 ^ 40) (hd : ∀ w ∈ r, w.days.length < 2 ^ 40) : CmpD (diffM a b r).1 := by
  unfold diffM
  split
  · exact ⟨Nat.lt_of_le_of_lt (less_le a b) (by omega), Nat.lt_of_le_of_lt (less_le b a) (by omega), hr, hd⟩
  · exact ⟨by simp, by simp, by simp, by simp⟩
theorem cmp_join {d e : Dl} (h1 : d.gone.length ≤ 60) (h2 : d.new.length ≤ 60) (h3 : e.gone.length ≤ 60) (h4 : e.new.length ≤ 60) (hd : d.why.length ≤ 1048576) (he : e.why.length ≤ 1048576) (hdd : ∀ w ∈ d.why, w.days.length < 2 ^ 40) (hed : ∀ w ∈ e.why, w.days.length < 2 ^ 40) : CmpD (joinM d e).1 := by
  unfold joinM
  split
  · refine ⟨?_, ?_, ?_, ?_⟩
    · have := less_le (joinG d e) (joinN d e)
      have l2 := less_le e.gone d.new
      rw [ordE_len]; unfold joinG at *; simp only [List.length_append] at this; omega
    · have := less_le (joinN d e) (joinG d e)
      have l2 := less_le d.new e.gone
      rw [ordE_len]; unfold joinN at *; simp only [List.length_append] at this; omega
    · simp only [List.length_append]; omega
    · intro w hw
      rcases List.mem_append.1 hw with h | h
      · exact hdd w h
      · exact hed w h
  · exact ⟨by simp, by simp, by simp, by simp⟩
theorem len_apply {a : List Ent} {d : Dl} (ha : a.length ≤ 60) (hd : d.new.length ≤ 60) : (applyM a d).1.length ≤ 120 := by
  unfold applyM
  split
  · have := less_le a d.gone
    rw [ordE_len]; simp only [List.length_append]; omega
  · simp
theorem law42_Spec (a b : List Ent) (r : List Why) (d e : Dl) (ha : a.length < 2 ^ 63) (hb : b.length < 2 ^ 63) (hr : r.length ≤ 1048576) (hrd : ∀ w ∈ r, w.days.length < 2 ^ 40) (hd : d.w) (he : e.w) : CallP Tryd.prog 4 [enD a, enD b, whD r, .d d.d, .d e.d] (retD [.b true]) := by
  have f1 := ref42_Few a ha
  have f2 := ref42_Few b hb
  have f3 := ref42_Few d.gone hd.g
  have f4 := ref42_Few d.new hd.n
  have f5 := ref42_Few e.gone he.g
  have f6 := ref42_Few e.new he.n
  by_cases hs : a.length ≤ 60 ∧ b.length ≤ 60 ∧ d.gone.length ≤ 60 ∧ d.new.length ≤ 60 ∧ e.gone.length ≤ 60 ∧ e.new.length ≤ 60
  · obtain ⟨s1, s2, s3, s4, s5, s6⟩ := hs
    rw [decide_eq_true s1] at f1
    rw [decide_eq_true s2] at f2
    rw [decide_eq_true s3] at f3
    rw [decide_eq_true s4] at f4
    rw [decide_eq_true s5] at f5
    rw [decide_eq_true s6] at f6
    have sd : SmD d := ⟨smE_of s3, smE_of s4, Nat.le_trans hd.y (by decide)⟩
    have se : SmD e := ⟨smE_of s5, smE_of s6, Nat.le_trans he.y (by decide)⟩
    have k1 := deltas_Diff a b r (smE_of s1) (smE_of s2) hr
    have k2 := ref42_Diff a b r (smE_of s1) (smE_of s2)
    have k3 := deltas_Apply a d (smE_of s1) sd
    have k4 := ref42_Apply a d (smE_of s1) sd
    have k5 := deltas_Join d e sd se
    have k6 := ref42_Join d e sd se
    have c1 := same_self (cmp_diff (r := r) s1 s2 (by omega) hrd)
    have c2 := same_yes rfl (ref42_SameEntries (applyM a d).1 (applyM a d).1 (by have := len_apply (d := d) s1 s4; omega))
    have c3 := same_self (cmp_join s3 s4 s5 s6 hd.y he.y hd.dd he.dd)
    generalize diffM a b r = x at k1 k2 c1
    generalize applyM a d = y at k3 k4 c2
    generalize joinM d e = z at k5 k6 c3
    refine exPure_sound (E := envOf Tryd.prog tt Tryd.f4.ntmps) (envOf_ok ttok mixed) Tryd.func4 (by rfl) rfl rfl (Nat.le_of_ble_eq_true rfl) ?_
    repeat' ((conv => whnf); first | (with_reducible first | refine dT ?_ | refine dU ?_ | refine dF ?_ | refine dG ?_) | refine aT ?_ | refine aF ?_ | refine dS (fun _ => ?_) fun _ => ?_ | refine aW ?_ | refine aC ?_ | refine aL ?_ | refine Prep.skip ?_ | refine Eith.l ?_ | refine aD ?_ | refine aB (fun _ => ?_) fun _ => ?_ | refine ACall.of (law42_sane) ?_ | refine APCall.of (law42_sane) ?_ | refine ACall.of (f1) ?_ | refine APCall.of (f1) ?_ | refine ACall.of (f2) ?_ | refine APCall.of (f2) ?_ | refine ACall.of (f3) ?_ | refine APCall.of (f3) ?_ | refine ACall.of (f4) ?_ | refine APCall.of (f4) ?_ | refine ACall.of (f5) ?_ | refine APCall.of (f5) ?_ | refine ACall.of (f6) ?_ | refine APCall.of (f6) ?_ | refine ACall.of (k1) ?_ | refine APCall.of (k1) ?_ | refine ACall.of (k2) ?_ | refine APCall.of (k2) ?_ | refine ACall.of (k3) ?_ | refine APCall.of (k3) ?_ | refine ACall.of (k4) ?_ | refine APCall.of (k4) ?_ | refine ACall.of (k5) ?_ | refine APCall.of (k5) ?_ | refine ACall.of (k6) ?_ | refine APCall.of (k6) ?_ | refine ACall.of (c1) ?_ | refine APCall.of (c1) ?_ | refine ACall.of (c2) ?_ | refine APCall.of (c2) ?_ | refine ACall.of (c3) ?_ | refine APCall.of (c3) ?_ | fail)
    all_goals (conv => whnf)
    all_goals first | exact DLe.refl _
  · refine exPure_sound (E := envOf Tryd.prog tt Tryd.f4.ntmps) (envOf_ok ttok mixed) Tryd.func4 (by rfl) rfl rfl (Nat.le_of_ble_eq_true rfl) ?_
    repeat' ((conv => whnf); first | (with_reducible first | refine dT ?_ | refine dU ?_ | refine dF ?_ | refine dG ?_) | refine aT ?_ | refine aF ?_ | refine dS (fun _ => ?_) fun _ => ?_ | refine aW ?_ | refine aC ?_ | refine aL ?_ | refine Prep.skip ?_ | refine Eith.l ?_ | refine aD ?_ | refine aB (fun _ => ?_) fun _ => ?_ | refine ACall.of (law42_sane) ?_ | refine APCall.of (law42_sane) ?_ | refine ACall.ofB (f1) (fun _ => ?_) (fun _ => ?_) | refine APCall.ofB (f1) (fun _ => ?_) (fun _ => ?_) | refine ACall.ofB (f2) (fun _ => ?_) (fun _ => ?_) | refine APCall.ofB (f2) (fun _ => ?_) (fun _ => ?_) | refine ACall.ofB (f3) (fun _ => ?_) (fun _ => ?_) | refine APCall.ofB (f3) (fun _ => ?_) (fun _ => ?_) | refine ACall.ofB (f4) (fun _ => ?_) (fun _ => ?_) | refine APCall.ofB (f4) (fun _ => ?_) (fun _ => ?_) | refine ACall.ofB (f5) (fun _ => ?_) (fun _ => ?_) | refine APCall.ofB (f5) (fun _ => ?_) (fun _ => ?_) | refine ACall.ofB (f6) (fun _ => ?_) (fun _ => ?_) | refine APCall.ofB (f6) (fun _ => ?_) (fun _ => ?_) | exact absurd ⟨of_decide_eq_true (by assumption), of_decide_eq_true (by assumption), of_decide_eq_true (by assumption), of_decide_eq_true (by assumption), of_decide_eq_true (by assumption), of_decide_eq_true (by assumption)⟩ hs | fail)
    all_goals (conv => whnf)
    all_goals first | exact DLe.refl _
end Go.PM

