/- The law ClassesPieces, its contract. -/
import Derived.Test.YtbifaidepiejeaaP29w
namespace Go.PM
open Go.Proofs
set_option maxRecDepth 10000
set_option maxHeartbeats 1000000

theorem law29_Pieces (s : List Supply) (fits : List (List Bool)) (want : List Int) (hl : fits.length < 2 ^ 63) (hwb : ∀ v ∈ want, 0 ≤ v ∧ v ≤ 255) : CallP Try.prog 8 [.d (SL 6 (s.map Supply.d)), .d (SL 1 (fits.map rowD)), .d (wD want)] (retD [.b true]) := by
  by_cases hs : s.length ≤ 12
  · by_cases hF : (∀ r ∈ fits, r.length ≤ 12) ∧ fits.length ≤ 12
    · obtain ⟨h1, h2⟩ := hF
      by_cases hw : want.length ≤ 144
      · have hr : ∀ r ∈ fits, r.length < 2 ^ 20 := fun r hr => by have := h1 r hr; omega
        have hM := classes_Merge s fits (by omega) (by omega) hr
        by_cases hok : mergeOk s fits
        · by_cases hp : 0 < s.length
          · have he : (mergeM s fits).2 = 0 := by unfold mergeM; rw [if_pos hok]
            obtain ⟨⟨⟨xs, ys, of⟩, e⟩, hm⟩ : ∃ mm, mergeM s fits = mm := ⟨_, rfl⟩
            rw [hm] at he
            simp only at he
            subst he
            exact law29_PiecesOk s fits want hs hp h1 h2 hw hwb hok xs ys of hm
          · have he : (mergeM s fits).2 = 0 := by unfold mergeM; rw [if_pos hok]
            have hs0 : s.length = 0 := by omega
            generalize mergeM s fits = mm at hM he
            obtain ⟨⟨xs, ys, of⟩, e⟩ := mm
            simp only [mergeD] at hM he
            subst he
            refine exPure_sound (E := envOf Try.prog tt Try.f8.ntmps) (envOf_ok ttok mixed) Try.func8 (by rfl) rfl rfl (Nat.le_of_ble_eq_true rfl) ?_
            repeat' ((conv => whnf); first | with_reducible refine Dec.t (show true = true from rfl) ?_ | with_reducible refine Dec.t (show false = false from rfl) ?_ | with_reducible refine Dec.f (show ¬ (true = false) by decide) ?_ | with_reducible refine Dec.f (show ¬ (false = true) by decide) ?_ | refine Dec.t (by omega) ?_ | refine Dec.f (by omega) ?_ | refine Dec.split (fun _ => ?_) (fun _ => ?_) | refine Wr.id (by omega) ?_ | refine Chk.mk (by first | omega | exact rfl | (simp only [List.length_map]; omega) | (simp [room]; done) | (simp [room]; omega) | (simp [dropL, room]; done) | (simp [dropL, room]; omega)) ?_ | refine Nam.mk (List.length_map _) ?_ | refine Prep.skip ?_ | refine Eith.l ?_ | refine chk_t (x := D.flat _) (by assumption) ?_ | refine br_mk (fun _ => ?_) (fun _ => ?_) | refine ACall.of law29_sane ?_ | refine ACall.ofB (ref29_FewTable fits hl) (fun _ => ?_) (fun h => absurd ⟨h1, h2⟩ (of_decide_eq_false h)) | refine ACall.of hM ?_ | fail)
            all_goals (conv => whnf)
            all_goals first | (exfalso; omega) | exact DLe.refl _
        · have he : mergeM s fits = (⟨[], [], []⟩, 290) := by unfold mergeM; rw [if_neg hok]
          rw [he] at hM
          simp only [mergeD, List.map_nil] at hM
          refine exPure_sound (E := envOf Try.prog tt Try.f8.ntmps) (envOf_ok ttok mixed) Try.func8 (by rfl) rfl rfl (Nat.le_of_ble_eq_true rfl) ?_
          repeat' ((conv => whnf); first | with_reducible refine Dec.t (show true = true from rfl) ?_ | with_reducible refine Dec.t (show false = false from rfl) ?_ | with_reducible refine Dec.f (show ¬ (true = false) by decide) ?_ | with_reducible refine Dec.f (show ¬ (false = true) by decide) ?_ | refine Dec.t (by omega) ?_ | refine Dec.f (by omega) ?_ | refine Dec.split (fun _ => ?_) (fun _ => ?_) | refine Wr.id (by omega) ?_ | refine Chk.mk (by first | omega | exact rfl | (simp only [List.length_map]; omega) | (simp [room]; done) | (simp [room]; omega) | (simp [dropL, room]; done) | (simp [dropL, room]; omega)) ?_ | refine Nam.mk (List.length_map _) ?_ | refine Prep.skip ?_ | refine Eith.l ?_ | refine chk_t (x := D.flat _) (by assumption) ?_ | refine br_mk (fun _ => ?_) (fun _ => ?_) | refine ACall.of law29_sane ?_ | refine ACall.ofB (ref29_FewTable fits hl) (fun _ => ?_) (fun h => absurd ⟨h1, h2⟩ (of_decide_eq_false h)) | refine ACall.of hM ?_ | fail)
          all_goals (conv => whnf)
          all_goals first | (exfalso; omega) | exact DLe.refl _
      · refine exPure_sound (E := envOf Try.prog tt Try.f8.ntmps) (envOf_ok ttok mixed) Try.func8 (by rfl) rfl rfl (Nat.le_of_ble_eq_true rfl) ?_
        repeat' ((conv => whnf); first | with_reducible refine Dec.t (show true = true from rfl) ?_ | with_reducible refine Dec.t (show false = false from rfl) ?_ | with_reducible refine Dec.f (show ¬ (true = false) by decide) ?_ | with_reducible refine Dec.f (show ¬ (false = true) by decide) ?_ | refine Dec.t (by omega) ?_ | refine Dec.f (by omega) ?_ | refine Dec.split (fun _ => ?_) (fun _ => ?_) | refine Wr.id (by omega) ?_ | refine Chk.mk (by first | omega | exact rfl | (simp only [List.length_map]; omega) | (simp [room]; done) | (simp [room]; omega) | (simp [dropL, room]; done) | (simp [dropL, room]; omega)) ?_ | refine Nam.mk (List.length_map _) ?_ | refine Prep.skip ?_ | refine Eith.l ?_ | refine chk_t (x := D.flat _) (by assumption) ?_ | refine br_mk (fun _ => ?_) (fun _ => ?_) | refine ACall.of law29_sane ?_ | refine ACall.ofB (ref29_FewTable fits hl) (fun _ => ?_) (fun h => absurd ⟨h1, h2⟩ (of_decide_eq_false h)) | fail)
        all_goals (conv => whnf)
        all_goals first | (exfalso; simp only [List.length_map] at *; omega) | exact DLe.refl _
    · refine exPure_sound (E := envOf Try.prog tt Try.f8.ntmps) (envOf_ok ttok mixed) Try.func8 (by rfl) rfl rfl (Nat.le_of_ble_eq_true rfl) ?_
      repeat' ((conv => whnf); first | with_reducible refine Dec.t (show true = true from rfl) ?_ | with_reducible refine Dec.t (show false = false from rfl) ?_ | with_reducible refine Dec.f (show ¬ (true = false) by decide) ?_ | with_reducible refine Dec.f (show ¬ (false = true) by decide) ?_ | refine Dec.t (by omega) ?_ | refine Dec.f (by omega) ?_ | refine Dec.split (fun _ => ?_) (fun _ => ?_) | refine Wr.id (by omega) ?_ | refine Chk.mk (by first | omega | exact rfl | (simp only [List.length_map]; omega) | (simp [room]; done) | (simp [room]; omega) | (simp [dropL, room]; done) | (simp [dropL, room]; omega)) ?_ | refine Nam.mk (List.length_map _) ?_ | refine Prep.skip ?_ | refine Eith.l ?_ | refine chk_t (x := D.flat _) (by assumption) ?_ | refine br_mk (fun _ => ?_) (fun _ => ?_) | refine ACall.of law29_sane ?_ | refine ACall.ofB (ref29_FewTable fits hl) (fun h => absurd (of_decide_eq_true h) hF) (fun _ => ?_) | fail)
      all_goals (conv => whnf)
      all_goals exact DLe.refl _
  · refine exPure_sound (E := envOf Try.prog tt Try.f8.ntmps) (envOf_ok ttok mixed) Try.func8 (by rfl) rfl rfl (Nat.le_of_ble_eq_true rfl) ?_
    repeat' ((conv => whnf); first | with_reducible refine Dec.t (show true = true from rfl) ?_ | with_reducible refine Dec.t (show false = false from rfl) ?_ | with_reducible refine Dec.f (show ¬ (true = false) by decide) ?_ | with_reducible refine Dec.f (show ¬ (false = true) by decide) ?_ | refine Dec.t (by omega) ?_ | refine Dec.f (by omega) ?_ | refine Dec.split (fun _ => ?_) (fun _ => ?_) | refine Wr.id (by omega) ?_ | refine Chk.mk (by first | omega | exact rfl | (simp only [List.length_map]; omega) | (simp [room]; done) | (simp [room]; omega) | (simp [dropL, room]; done) | (simp [dropL, room]; omega)) ?_ | refine Nam.mk (List.length_map _) ?_ | refine Prep.skip ?_ | refine Eith.l ?_ | refine chk_t (x := D.flat _) (by assumption) ?_ | refine br_mk (fun _ => ?_) (fun _ => ?_) | refine ACall.of law29_sane ?_ | fail)
    all_goals (conv => whnf)
    all_goals first | (exfalso; omega) | exact DLe.refl _
end Go.PM

