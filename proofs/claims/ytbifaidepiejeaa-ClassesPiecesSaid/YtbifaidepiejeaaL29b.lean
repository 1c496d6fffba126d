/- The law ClassesMergeSpec, its contract. -/
import Derived.Test.YtbifaidepiejeaaLaw29c
import Derived.Test.YtbifaidepiejeaaRead29
namespace Go.PM
open Go.Proofs
set_option maxRecDepth 10000
set_option maxHeartbeats 1000000

theorem mStep_len (m : MS) (s : Supply) (r : List Bool) : (mStep m s r).xs.length ≤ m.xs.length + 1 ∧ (mStep m s r).ys.length ≤ m.ys.length + 1 ∧ (mStep m s r).of.length ≤ m.of.length + 1 ∧ ∀ x ∈ (mStep m s r).ys, x ∈ m.ys ∨ x = r := by
  unfold mStep
  split
  · simp
  · simp only [List.length_modify, List.length_append, List.length_singleton]
    exact ⟨by omega, by omega, by omega, fun x hx => .inl hx⟩
theorem mLoop_len : ∀ (s : List Supply) (fits : List (List Bool)) (m : MS), (mLoop s fits m).xs.length ≤ m.xs.length + s.length ∧ (mLoop s fits m).ys.length ≤ m.ys.length + s.length ∧ (mLoop s fits m).of.length ≤ m.of.length + s.length ∧ ∀ x ∈ (mLoop s fits m).ys, x ∈ m.ys ∨ x ∈ fits
  | [], _, m => by simp [mLoop]; intro x hx; exact .inl hx
  | s :: ss, [], m => by
    simp only [mLoop, List.length_cons]
    exact ⟨by omega, by omega, by omega, fun x hx => .inl hx⟩
  | s :: ss, r :: rs, m => by
    obtain ⟨h1, h2, h3, h4⟩ := mLoop_len ss rs (mStep m s r)
    obtain ⟨g1, g2, g3, g4⟩ := mStep_len m s r
    simp only [mLoop, List.length_cons, List.mem_cons]
    refine ⟨by omega, by omega, by omega, fun x hx => ?_⟩
    rcases h4 x hx with h | h
    · rcases g4 x h with h | h
      · exact .inl h
      · exact .inr (.inl h)
    · exact .inr (.inr h)
theorem mergeM_len (s : List Supply) (fits : List (List Bool)) : (mergeM s fits).1.xs.length ≤ s.length ∧ (mergeM s fits).1.ys.length ≤ s.length ∧ (mergeM s fits).1.of.length ≤ s.length ∧ ∀ x ∈ (mergeM s fits).1.ys, x ∈ fits := by
  unfold mergeM
  split
  · have := mLoop_len s fits ⟨[], [], []⟩
    simpa using this
  · simp

theorem law29_MergeSpec (s : List Supply) (fits : List (List Bool)) (hl : fits.length < 2 ^ 63) : CallP Try.prog 4 [.d (SL 6 (s.map Supply.d)), .d (SL 1 (fits.map rowD))] (retD [.b true]) := by
  refine exPure_sound (E := envOf Try.prog tt Try.f4.ntmps) (envOf_ok ttok mixed) Try.func4 (by rfl) rfl rfl (Nat.le_of_ble_eq_true rfl) ?_
  by_cases hs : s.length ≤ 12
  · by_cases hF : (∀ r ∈ fits, r.length ≤ 12) ∧ fits.length ≤ 12
    · obtain ⟨h1, h2⟩ := hF
      obtain ⟨g1, g2, g3, g4⟩ := mergeM_len s fits
      have hr : ∀ r ∈ fits, r.length < 2 ^ 20 := fun r hr => by have := h1 r hr; omega
      repeat' ((conv => whnf); first | with_reducible refine Dec.t (show true = true from rfl) ?_ | with_reducible refine Dec.t (show false = false from rfl) ?_ | with_reducible refine Dec.f (show ¬ (true = false) by decide) ?_ | with_reducible refine Dec.f (show ¬ (false = true) by decide) ?_ | refine Dec.t (by omega) ?_ | refine Dec.f (by omega) ?_ | refine Dec.split (fun _ => ?_) (fun _ => ?_) | refine Wr.id (by omega) ?_ | refine Chk.mk (by first | omega | exact rfl | (simp only [List.length_map]; omega) | (simp [room]; done) | (simp [room]; omega) | (simp [dropL, room]; done) | (simp [dropL, room]; omega)) ?_ | refine Nam.mk (List.length_map _) ?_ | refine Prep.skip ?_ | refine Eith.l ?_ | refine chk_t (x := D.flat _) (by assumption) ?_ | refine br_mk (fun _ => ?_) (fun _ => ?_) | refine ACall.ofB law29_sane (fun _ => ?_) (fun h => by cases h) | refine ACall.ofB (ref29_FewTable fits hl) (fun _ => ?_) (fun h => absurd ⟨h1, h2⟩ (of_decide_eq_false h)) | refine ACall.of (classes_Merge s fits (by omega) (by omega) hr) ?_ | refine ACall.of (ref29_Merge s fits (by omega) (by omega) hr) ?_ | refine ACall.ofB (ref29_SameSupplies _ _ (by omega)) (fun _ => ?_) (fun h => absurd rfl (of_decide_eq_false h)) | refine ACall.ofB (ref29_SameTable _ _ (by omega) (fun x hx => by have := h1 x (g4 x hx); omega)) (fun _ => ?_) (fun h => absurd rfl (of_decide_eq_false h)) | refine ACall.ofB (ref29_SameInts _ _ (by omega)) (fun _ => ?_) (fun h => absurd rfl (of_decide_eq_false h)))
      all_goals (conv => whnf)
      exact (by repeat (first | exact trivial | exact rfl | exact DLe.refl _ | exact DLe.full _ _ _ | exact DLe.nil _ _ _ | exact VLe.refl _ | refine And.intro ?_ ?_ | refine VLe.d ?_ | refine DLe.agg ?_))
    · repeat' ((conv => whnf); first | with_reducible refine Dec.t (show true = true from rfl) ?_ | with_reducible refine Dec.t (show false = false from rfl) ?_ | with_reducible refine Dec.f (show ¬ (true = false) by decide) ?_ | with_reducible refine Dec.f (show ¬ (false = true) by decide) ?_ | refine Dec.t (by omega) ?_ | refine Dec.f (by omega) ?_ | refine Dec.split (fun _ => ?_) (fun _ => ?_) | refine Wr.id (by omega) ?_ | refine Chk.mk (by first | omega | exact rfl | (simp only [List.length_map]; omega) | (simp [room]; done) | (simp [room]; omega) | (simp [dropL, room]; done) | (simp [dropL, room]; omega)) ?_ | refine Nam.mk (List.length_map _) ?_ | refine Prep.skip ?_ | refine Eith.l ?_ | refine chk_t (x := D.flat _) (by assumption) ?_ | refine br_mk (fun _ => ?_) (fun _ => ?_) | refine ACall.ofB law29_sane (fun _ => ?_) (fun h => by cases h) | refine ACall.ofB (ref29_FewTable fits hl) (fun h => absurd (of_decide_eq_true h) hF) (fun _ => ?_))
      all_goals (conv => whnf)
      exact (by repeat (first | exact trivial | exact rfl | exact DLe.refl _ | exact DLe.full _ _ _ | exact DLe.nil _ _ _ | exact VLe.refl _ | refine And.intro ?_ ?_ | refine VLe.d ?_ | refine DLe.agg ?_))
  · repeat' ((conv => whnf); first | with_reducible refine Dec.t (show true = true from rfl) ?_ | with_reducible refine Dec.t (show false = false from rfl) ?_ | with_reducible refine Dec.f (show ¬ (true = false) by decide) ?_ | with_reducible refine Dec.f (show ¬ (false = true) by decide) ?_ | refine Dec.t (by omega) ?_ | refine Dec.f (by omega) ?_ | refine Dec.split (fun _ => ?_) (fun _ => ?_) | refine Wr.id (by omega) ?_ | refine Chk.mk (by first | omega | exact rfl | (simp only [List.length_map]; omega) | (simp [room]; done) | (simp [room]; omega) | (simp [dropL, room]; done) | (simp [dropL, room]; omega)) ?_ | refine Nam.mk (List.length_map _) ?_ | refine Prep.skip ?_ | refine Eith.l ?_ | refine chk_t (x := D.flat _) (by assumption) ?_ | refine br_mk (fun _ => ?_) (fun _ => ?_) | refine ACall.ofB law29_sane (fun _ => ?_) (fun h => by cases h))
    all_goals (conv => whnf)
    exact (by repeat (first | exact trivial | exact rfl | exact DLe.refl _ | exact DLe.full _ _ _ | exact DLe.nil _ _ _ | exact VLe.refl _ | refine And.intro ?_ ?_ | refine VLe.d ?_ | refine DLe.agg ?_))
end Go.PM

