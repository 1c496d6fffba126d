/- The reference of floors: Check, Amounts, Shipped, and what the laws compare with. -/
import Derived.Test.YtgpgfcehcenejaaW34k
namespace Go.PM
open Go.Proofs
set_option maxRecDepth 10000
set_option maxHeartbeats 8000000

theorem amtsE_eq {h : Hist} (hok : h.ok) : amtsE h = if (amtsO h).isSome then 0 else 341 := by unfold amtsE; rw [if_pos hok]
theorem ref34_Check (h : Hist) (hw : WidH h) : CallP Try.prog 16 [.d h.d] (retD [I (amtsE h)]) := by
  have hF := ref34_formed h hw
  by_cases hok : h.ok
  · rw [decide_eq_true hok] at hF
    have hP := ref34_possible h hok
    rw [amtsE_eq hok]
    generalize (amtsO h).isSome = b at hP ⊢
    refine exPure_sound (E := envOf Try.prog tt Try.f16.ntmps) (envOf_ok ttok mixed) Try.func16 (by rfl) rfl rfl (Nat.le_of_ble_eq_true rfl) ?_
    cases b with
    | true =>
      repeat' ((conv => whnf); first | with_reducible refine Dec.t (show true = true from rfl) ?_ | with_reducible refine Dec.t (show false = false from rfl) ?_ | with_reducible refine Dec.f (show ¬ (true = false) by decide) ?_ | with_reducible refine Dec.f (show ¬ (false = true) by decide) ?_ | refine Dec.t (by omega) ?_ | refine Dec.f (by omega) ?_ | refine Dec.split (fun _ => ?_) (fun _ => ?_) | refine Wr.id (by omega) ?_ | refine Chk.mk (by first | omega | exact rfl | (simp only [List.length_map]; omega) | (simp [room]; done) | (simp [room]; omega) | (simp [dropL, room]; done) | (simp [dropL, room]; omega)) ?_ | refine Nam.mk (List.length_map _) ?_ | refine Prep.skip ?_ | refine Eith.l ?_ | refine chk_t (x := D.flat _) (by assumption) ?_ | refine br_mk (fun _ => ?_) (fun _ => ?_) | refine ACall.of (hF) ?_ | refine APCall.of (hF) ?_ | refine ACall.of (hP) ?_ | refine APCall.of (hP) ?_ | fail)
      all_goals (conv => whnf)
      exact DLe.refl _
    | false =>
      repeat' ((conv => whnf); first | with_reducible refine Dec.t (show true = true from rfl) ?_ | with_reducible refine Dec.t (show false = false from rfl) ?_ | with_reducible refine Dec.f (show ¬ (true = false) by decide) ?_ | with_reducible refine Dec.f (show ¬ (false = true) by decide) ?_ | refine Dec.t (by omega) ?_ | refine Dec.f (by omega) ?_ | refine Dec.split (fun _ => ?_) (fun _ => ?_) | refine Wr.id (by omega) ?_ | refine Chk.mk (by first | omega | exact rfl | (simp only [List.length_map]; omega) | (simp [room]; done) | (simp [room]; omega) | (simp [dropL, room]; done) | (simp [dropL, room]; omega)) ?_ | refine Nam.mk (List.length_map _) ?_ | refine Prep.skip ?_ | refine Eith.l ?_ | refine chk_t (x := D.flat _) (by assumption) ?_ | refine br_mk (fun _ => ?_) (fun _ => ?_) | refine ACall.of (hF) ?_ | refine APCall.of (hF) ?_ | refine ACall.of (hP) ?_ | refine APCall.of (hP) ?_ | fail)
      all_goals (conv => whnf)
      exact DLe.refl _
  · rw [decide_eq_false hok] at hF
    have e2 : amtsE h = 340 := by unfold amtsE; rw [if_neg hok]
    rw [e2]
    refine exPure_sound (E := envOf Try.prog tt Try.f16.ntmps) (envOf_ok ttok mixed) Try.func16 (by rfl) rfl rfl (Nat.le_of_ble_eq_true rfl) ?_
    repeat' ((conv => whnf); first | with_reducible refine Dec.t (show true = true from rfl) ?_ | with_reducible refine Dec.t (show false = false from rfl) ?_ | with_reducible refine Dec.f (show ¬ (true = false) by decide) ?_ | with_reducible refine Dec.f (show ¬ (false = true) by decide) ?_ | refine Dec.t (by omega) ?_ | refine Dec.f (by omega) ?_ | refine Dec.split (fun _ => ?_) (fun _ => ?_) | refine Wr.id (by omega) ?_ | refine Chk.mk (by first | omega | exact rfl | (simp only [List.length_map]; omega) | (simp [room]; done) | (simp [room]; omega) | (simp [dropL, room]; done) | (simp [dropL, room]; omega)) ?_ | refine Nam.mk (List.length_map _) ?_ | refine Prep.skip ?_ | refine Eith.l ?_ | refine chk_t (x := D.flat _) (by assumption) ?_ | refine br_mk (fun _ => ?_) (fun _ => ?_) | refine ACall.of (hF) ?_ | refine APCall.of (hF) ?_ | fail)
    all_goals (conv => whnf)
    exact DLe.refl _
theorem amtsE_some {h : Hist} (he : amtsE h = 0) : ∃ t, amtsO h = some t ∧ amtsT h = t := by
  have hok := amtsE_ok he
  rw [amtsE_eq hok] at he
  cases ho : amtsO h with
  | none => rw [ho] at he; cases he
  | some t => exact ⟨t, rfl, by unfold amtsT; rw [if_pos hok, ho]; rfl⟩
theorem amtsT_nil {h : Hist} (he : ¬ amtsE h = 0) : amtsT h = [] := by
  unfold amtsT
  split
  · rename_i hok
    rw [amtsE_eq hok] at he
    cases ho : amtsO h with
    | none => rfl
    | some t => rw [ho] at he; exact absurd rfl he
  · rfl
theorem rows_snoc (acc : List (List Int)) (e : List Int) : (acc ++ [e]).map rowD = acc.map rowD ++ [rowD e] := by rw [List.map_append]; rfl
theorem ref34_Amounts (h : Hist) (hw : WidH h) : CallP Try.prog 12 [.d h.d] (retD [tabD (amtsT h), I (amtsE h)]) := by
  have hC := ref34_Check h hw
  by_cases he : amtsE h = 0
  · obtain ⟨t, ho, ht⟩ := amtsE_some he
    have hok := amtsE_ok he
    have hnf := hok.nf
    have hnv := hok.nv
    have hnp := hok.np
    rw [he] at hC ⊢
    rw [ht]
    refine exPure_sound (E := envOf Try.prog tt Try.f12.ntmps) (envOf_ok ttok mixed) Try.func12 (by rfl) rfl rfl (Nat.le_of_ble_eq_true rfl) ?_
    repeat' ((conv => whnf); first | with_reducible refine Dec.t (show true = true from rfl) ?_ | with_reducible refine Dec.t (show false = false from rfl) ?_ | with_reducible refine Dec.f (show ¬ (true = false) by decide) ?_ | with_reducible refine Dec.f (show ¬ (false = true) by decide) ?_ | refine Dec.t (by omega) ?_ | refine Dec.f (by omega) ?_ | refine Dec.split (fun _ => ?_) (fun _ => ?_) | refine Wr.id (by omega) ?_ | refine Chk.mk (by first | omega | exact rfl | (simp only [List.length_map]; omega) | (simp [room]; done) | (simp [room]; omega) | (simp [dropL, room]; done) | (simp [dropL, room]; omega)) ?_ | refine Nam.mk (List.length_map _) ?_ | refine Prep.skip ?_ | refine Eith.l ?_ | refine chk_t (x := D.flat _) (by assumption) ?_ | refine br_mk (fun _ => ?_) (fun _ => ?_) | refine ACall.of (hC) ?_ | refine APCall.of (hC) ?_ | fail)
    all_goals (conv => whnf)
    refine ALoop.virt 5 1 1 true (by decide) rfl ?_
    conv => whnf
    refine ALoop.at (E := envOf Try.prog tt Try.f12.ntmps) (envOf_ok ttok mixed) (X := XA) (fun x => [(7, .d (I x.i)), (5, .sref 1 x.v 0 x.n false), (6, .d (SL 1 (x.now.map I)))]) (fun x => [(1, .row x.v 1 true x.dr)])
      (fun x => (x.i : Int) ≤ h.per ∧ x.now.length = h.op.length ∧ (∀ n ∈ x.now, 0 ≤ n ∧ n ≤ 1048576 * (1 + 64 * x.i)) ∧ ∃ acc : List (List Int), x.dr = acc.map rowD ∧ acc.length = x.n ∧ x.i = x.n ∧ (runM h.fl (h.per.toNat - x.i) x.i x.now).map (acc ++ ·) = some t) (fun x => h.per.toNat - x.i) ⟨0, 0, 0, [], h.op⟩ (by repeat (first | exact trivial | refine And.intro rfl ?_ | refine And.intro (congrArg (fun n => V.d (I n)) (wrap_nat _ (by omega))) ?_)) rfl
      ⟨by simp; omega, rfl, fun n hn => by have := hok.op n hn; simp only; omega, [], rfl, rfl, rfl, by simpa [amtsO] using ho⟩ ?_
    rintro ⟨i, v, n, dr, now⟩ ⟨hi, hlen, hlo, acc, hr, e2, e3, hm⟩
    simp only at hi hlen hlo hr e2 e3 hm
    subst hr e3
    dsimp only
    by_cases hlt : (i : Int) < h.per
    · rw [show h.per.toNat - i = (h.per.toNat - (i + 1)) + 1 by omega] at hm
      have hA := ref34_After h now i hok hlen (fun n hn => by have := hlo n hn; omega)
      by_cases hc : canP h.fl i now
      · rw [runM_some hc, Option.map_map] at hm
        repeat' ((conv => whnf); first | with_reducible refine Dec.t (show true = true from rfl) ?_ | with_reducible refine Dec.t (show false = false from rfl) ?_ | with_reducible refine Dec.f (show ¬ (true = false) by decide) ?_ | with_reducible refine Dec.f (show ¬ (false = true) by decide) ?_ | refine Dec.t (by omega) ?_ | refine Dec.f (by omega) ?_ | refine Dec.split (fun _ => ?_) (fun _ => ?_) | refine Wr.id (by omega) ?_ | refine Chk.mk (by first | omega | exact rfl | (simp only [List.length_map]; omega) | (simp [room]; done) | (simp [room]; omega) | (simp [dropL, room]; done) | (simp [dropL, room]; omega)) ?_ | refine Nam.mk (List.length_map _) ?_ | refine Prep.skip ?_ | refine Eith.l ?_ | refine chk_t (x := D.flat _) (by assumption) ?_ | refine br_mk (fun _ => ?_) (fun _ => ?_) | refine ACall.of (hA) ?_ | refine APCall.of (hA) ?_ | refine Chk.mk ⟨rfl, by simp [e2], by simp [room]; omega⟩ ?_ | fail)
        all_goals first | (exfalso; omega) | skip
        all_goals (conv => whnf)
        all_goals first
          | exact ⟨⟨i + 1, v + 1, i + 1, acc.map rowD ++ [rowD (afterM h.fl i now)], afterM h.fl i now⟩, Wm.end (by repeat (first | exact trivial | refine And.intro rfl ?_ | refine And.intro (congrArg (fun n => V.d (I n)) (wrap_nat _ (by omega))) ?_)) rfl rfl rfl, ⟨by simp only; omega, by simp only; rw [afterM_len]; exact hlen, fun n hn => by
                have h1 := hc.1 n hn
                have h2 := afterM_le h.fl (p := i) (l := now) (B := 1048576 * (1 + 64 * (i : Int))) (by omega) (fun n hn => (hlo n hn).2) (fun f hf => by have := hok.fl f hf; unfold Flow.ok at this; omega) n hn
                simp only; omega, acc ++ [afterM h.fl i now], (rows_snoc _ _).symm, by simp [e2], rfl, by
                have hcast : ((i + 1 : Nat) : Int) = (i : Int) + 1 := rfl
                simp only [hcast]
                rw [← hm]
                congr 1
                funext t; simp⟩, by simp only; omega⟩
      · rw [runM_none hc] at hm
        cases hm
    · have hi2 : i = h.per.toNat := by omega
      rw [hi2, Nat.sub_self] at hm
      have hm : acc = t := by simpa [runM] using hm
      subst hm
      repeat' ((conv => whnf); first | with_reducible refine Dec.t (show true = true from rfl) ?_ | with_reducible refine Dec.t (show false = false from rfl) ?_ | with_reducible refine Dec.f (show ¬ (true = false) by decide) ?_ | with_reducible refine Dec.f (show ¬ (false = true) by decide) ?_ | refine Dec.t (by omega) ?_ | refine Dec.f (by omega) ?_ | refine Dec.split (fun _ => ?_) (fun _ => ?_) | refine Wr.id (by omega) ?_ | refine Chk.mk (by first | omega | exact rfl | (simp only [List.length_map]; omega) | (simp [room]; done) | (simp [room]; omega) | (simp [dropL, room]; done) | (simp [dropL, room]; omega)) ?_ | refine Nam.mk (List.length_map _) ?_ | refine Prep.skip ?_ | refine Eith.l ?_ | refine chk_t (x := D.flat _) (by assumption) ?_ | refine br_mk (fun _ => ?_) (fun _ => ?_) | refine Chk.mk ⟨rfl, by simp [e2]⟩ ?_ | refine Nam.mk (y := acc.map rowD) (by rw [List.drop_zero]; exact List.take_of_length_le (by simp [e2])) ?_ | fail)
      all_goals first | (exfalso; omega) | skip
      all_goals (conv => whnf)
      all_goals first | exact ⟨DLe.refl _, DLe.refl _, rfl⟩
  · rw [amtsT_nil he]
    refine exPure_sound (E := envOf Try.prog tt Try.f12.ntmps) (envOf_ok ttok mixed) Try.func12 (by rfl) rfl rfl (Nat.le_of_ble_eq_true rfl) ?_
    repeat' ((conv => whnf); first | with_reducible refine Dec.t (show true = true from rfl) ?_ | with_reducible refine Dec.t (show false = false from rfl) ?_ | with_reducible refine Dec.f (show ¬ (true = false) by decide) ?_ | with_reducible refine Dec.f (show ¬ (false = true) by decide) ?_ | refine Dec.t (by omega) ?_ | refine Dec.f (by omega) ?_ | refine Dec.split (fun _ => ?_) (fun _ => ?_) | refine Wr.id (by omega) ?_ | refine Chk.mk (by first | omega | exact rfl | (simp only [List.length_map]; omega) | (simp [room]; done) | (simp [room]; omega) | (simp [dropL, room]; done) | (simp [dropL, room]; omega)) ?_ | refine Nam.mk (List.length_map _) ?_ | refine Prep.skip ?_ | refine Eith.l ?_ | refine chk_t (x := D.flat _) (by assumption) ?_ | refine br_mk (fun _ => ?_) (fun _ => ?_) | refine ACall.of (hC) ?_ | refine APCall.of (hC) ?_ | fail)
    all_goals (conv => whnf)
    exact ⟨DLe.nil 0 1 true, DLe.refl _, rfl⟩
theorem ref34_Few (h : Hist) (hw : WidH h) : CallP Try.prog 10 [.d h.d] (retD [.b (decide (h.op.length ≤ 20 ∧ h.fl.length ≤ 70))]) := by
  have hwo := hw.o
  have hwf := hw.f
  refine exPure_sound (E := envOf Try.prog tt Try.f10.ntmps) (envOf_ok ttok mixed) Try.func10 (by rfl) rfl rfl (Nat.le_of_ble_eq_true rfl) ?_
  repeat' ((conv => whnf); first | with_reducible refine Dec.t (show true = true from rfl) ?_ | with_reducible refine Dec.t (show false = false from rfl) ?_ | with_reducible refine Dec.f (show ¬ (true = false) by decide) ?_ | with_reducible refine Dec.f (show ¬ (false = true) by decide) ?_ | refine Dec.t (by omega) ?_ | refine Dec.f (by omega) ?_ | refine Dec.split (fun _ => ?_) (fun _ => ?_) | refine Wr.id (by omega) ?_ | refine Chk.mk (by first | omega | exact rfl | (simp only [List.length_map]; omega) | (simp [room]; done) | (simp [room]; omega) | (simp [dropL, room]; done) | (simp [dropL, room]; omega)) ?_ | refine Nam.mk (List.length_map _) ?_ | refine Prep.skip ?_ | refine Eith.l ?_ | refine chk_t (x := D.flat _) (by assumption) ?_ | refine br_mk (fun _ => ?_) (fun _ => ?_) | fail)
  all_goals (conv => whnf)
  all_goals try simp only [decide_eq_true_eq, decide_eq_false_iff_not] at *
  all_goals first | (rw [decide_eq_true (by omega)]; exact DLe.refl _) | (rw [decide_eq_false (by omega)]; exact DLe.refl _)
end Go.PM

