/- The statements of branches: Dropped. -/
import Derived.Test.YtbgdpjhgdboigaaL54a
namespace Go.PM
open Go.Proofs
set_option maxRecDepth 10000
set_option maxHeartbeats 8000000

theorem close_shut (b : Brn) (no : Int) : ¬ openP (closeM b no) no := fun h => by
  obtain ⟨h1, h2, h3⟩ := h
  unfold closeM at h3
  simp only at h3
  by_cases hl : no.toNat < b.done.length
  · rw [List.getD_eq_getElem?_getD, List.getElem?_set_self hl] at h3; cases h3
  · rw [List.getD_eq_getElem?_getD, List.getElem?_eq_none (by rw [List.length_set]; omega)] at h3; cases h3
theorem close_facts {b : Brn} (hv : b.valid) (no other : Int) : factsM (closeM b no) other = factsM b other := by
  unfold factsM
  rw [if_pos hv, if_pos (close_valid hv no)]
  by_cases h : -1 ≤ other ∧ other < b.br.length
  · rw [if_pos h, if_pos (show -1 ≤ other ∧ other < (closeM b no).br.length from h), with_close hv.1 no other _ h.2]; rfl
  · rw [if_neg h, if_neg (show ¬ (-1 ≤ other ∧ other < (closeM b no).br.length) from h)]
theorem set_at {b : Brn} {p : Int} (h0 : 0 ≤ p) (hp : p < b.br.length) : b.br.set p.toNat (b.at p ++ []) = b.br := by
  rw [List.append_nil]
  have hl : p.toNat < b.br.length := by omega
  refine List.ext_getElem? fun i => ?_
  by_cases hi : p.toNat = i
  · subst hi
    rw [List.getElem?_set_self hl]
    unfold Brn.at
    rw [List.getD_eq_getElem?_getD, List.getElem?_eq_getElem hl]; rfl
  · rw [List.getElem?_set_ne hi]
/-- A branch without changes, when it is merged. -/
theorem merge_none {b : Brn} (hv : b.valid) {no : Int} (ho : openP b no) (hn : b.at no = []) : confM b no = [] ∧ (mergeR b no).2 = 0 ∧ mergeX b no = closeM b no := by
  have h1 := open_lt ho
  have he := hv.1.each no.toNat (by omega)
  have hpe : parM b no = b.par.getD no.toNat 0 := rfl
  rw [← hpe] at he
  have hr : mergeR b no = ((withM b (parM b no) (lenM b (parM b no))).1, 0) := by unfold mergeR; rw [hn, recM_nil]
  refine ⟨by unfold confM; rw [hn]; rfl, by rw [hr], ?_⟩
  unfold mergeX
  by_cases hp : parM b no < 0
  · rw [if_pos hp, hr, with_neg hp]
    unfold lenM
    rw [if_pos hp, List.take_length]; rfl
  · rw [if_neg hp, hn]
    have : (closeM b no).br.set (parM b no).toNat ((closeM b no).at (parM b no) ++ []) = b.br := set_at (b := closeM b no) (by omega) (by show parM b no < b.br.length; omega)
    unfold growM
    rw [this]; rfl
theorem law54_Dropped (b : Brn) (no other : Int) (c : Chg) (hT : b.typed) : CallP Try.prog 7 [.d b.d, .d (I no), .d (I other), .d c.d] (retD [.b true]) := by
  have hF := ref54_Few b hT.r
  refine exPure_sound (E := envOf Try.prog tt Try.f7.ntmps) (envOf_ok ttok mixed) Try.func7 (by rfl) rfl rfl (Nat.le_of_ble_eq_true rfl) ?_
  by_cases hf : fewP b
  · rw [decide_eq_true hf] at hF
    have hW := few_wide hT hf
    have ht := few_total hW hf
    have k1 := branches_Drop b no hW
    have sz := ref54_Same Brn.zero zero_wid
    have lez : VLes [.d Brn.zero.d, .d (.agg [.sl 0 true [], .sl 0 true [], .sl 0 true [], .sl 0 true [], .sl 0 true []])] [.d Brn.zero.d, .d Brn.zero.d] := ⟨VLe.refl _, VLe.d zeroBrn, rfl⟩
    have sz := CallP.le lez sz
    by_cases hv : b.valid
    · by_cases ho : openP b no
      · have hd : dropM b no = (closeM b no, 0) := by unfold dropM; rw [if_pos hv, if_pos ho]
        rw [hd] at k1
        have h1 := open_lt ho
        have hX : (closeM b no).wide := ⟨hW.b, hW.r⟩
        have hXv := close_valid hv no
        have hXo := close_shut b no
        have hXt : (closeM b no).total ≤ 54 := ht hv
        have n1 := branches_Facts b other hW
        have n2 := branches_Facts (closeM b no) other hX
        rw [close_facts hv] at n2
        have s1 := ref04_Same (factsM b other).1 (factsM b other).1 (by have := facts_len other (fun h => by have := ht h; omega : b.valid → b.total < 2 ^ 18); omega)
        rw [decide_eq_true rfl] at s1
        have c1 := branches_Change (closeM b no) no c hX (fun _ => by omega)
        rw [show changeM (closeM b no) no c = (Brn.zero, 1) by unfold changeM; rw [if_pos hXv, if_neg hXo]] at c1
        have c2 := branches_Merge (closeM b no) no hX (fun _ => by omega)
        rw [show mergeM (closeM b no) no = (Brn.zero, [], 1) by unfold mergeM; rw [if_pos hXv, if_neg (fun h => hXo h.1)]] at c2
        have c3 := branches_Drop (closeM b no) no hX
        rw [show dropM (closeM b no) no = (Brn.zero, 1) by unfold dropM; rw [if_pos hXv, if_neg hXo]] at c3
        have c4 := branches_Fork (closeM b no) no hX
        rw [show forkM (closeM b no) no = (Brn.zero, 0, 1) by unfold forkM; rw [if_pos hXv, if_neg (fun h => h.elim (fun h => by omega) hXo)]] at c4
        have hbg := at_get (b := b) (no := no) (by omega) h1.2
        by_cases hn : b.at no = []
        · obtain ⟨m1, m2, m3⟩ := merge_none hv ho hn
          have k2 := branches_Merge b no hW (fun h => by have := ht h; omega)
          rw [hn] at hbg
          by_cases hp : parM b no = -1 ∨ openP b (parM b no)
          · rw [show mergeM b no = (closeM b no, [], 0) by unfold mergeM; rw [if_pos hv, if_pos ⟨ho, hp⟩, if_pos m1, if_pos m2, m3]] at k2
            repeat' ((conv => whnf); first | refine Dec.t (of_decide_eq_true (Eq.refl true)) ?_ | refine Dec.f (of_decide_eq_false (Eq.refl false)) ?_ | with_reducible refine Dec.t (show true = true from rfl) ?_ | with_reducible refine Dec.t (show false = false from rfl) ?_ | with_reducible refine Dec.f (show ¬ (true = false) by decide) ?_ | with_reducible refine Dec.f (show ¬ (false = true) by decide) ?_ | refine Dec.t (by omega) ?_ | refine Dec.f (by omega) ?_ | refine Dec.split (fun _ => ?_) (fun _ => ?_) | refine Wr.id (by omega) ?_ | refine Chk.mk (by first | omega | exact rfl | (simp only [List.length_map]; omega) | (simp [room]; done) | (simp [room]; omega) | (simp [dropL, room]; done) | (simp [dropL, room]; omega)) ?_ | refine Nam.mk (List.length_map _) ?_ | refine Prep.skip ?_ | refine Eith.l ?_ | refine chk_t (x := D.flat _) (by assumption) ?_ | refine br_mk (fun _ => ?_) (fun _ => ?_) | refine ACall.of (law54_sane) ?_ | refine APCall.of (law54_sane) ?_ | refine ACall.of (hF) ?_ | refine APCall.of (hF) ?_ | refine ACall.of (k1) ?_ | refine APCall.of (k1) ?_ | refine ACall.of (n1) ?_ | refine APCall.of (n1) ?_ | refine ACall.of (n2) ?_ | refine APCall.of (n2) ?_ | refine ACall.of (s1) ?_ | refine APCall.of (s1) ?_ | refine ACall.of (c1) ?_ | refine APCall.of (c1) ?_ | refine ACall.of (c2) ?_ | refine APCall.of (c2) ?_ | refine ACall.of (c3) ?_ | refine APCall.of (c3) ?_ | refine ACall.of (c4) ?_ | refine APCall.of (c4) ?_ | refine nthK_mk hbg ?_ | refine ACall.of (k2) ?_ | refine APCall.of (k2) ?_ | fail)
            all_goals first | (exfalso; omega) | skip
            all_goals (conv => whnf)
            all_goals first | exact DLe.refl _
          · rw [show mergeM b no = (Brn.zero, [], 1) by unfold mergeM; rw [if_pos hv, if_neg (fun h => hp h.2)]] at k2
            repeat' ((conv => whnf); first | refine Dec.t (of_decide_eq_true (Eq.refl true)) ?_ | refine Dec.f (of_decide_eq_false (Eq.refl false)) ?_ | with_reducible refine Dec.t (show true = true from rfl) ?_ | with_reducible refine Dec.t (show false = false from rfl) ?_ | with_reducible refine Dec.f (show ¬ (true = false) by decide) ?_ | with_reducible refine Dec.f (show ¬ (false = true) by decide) ?_ | refine Dec.t (by omega) ?_ | refine Dec.f (by omega) ?_ | refine Dec.split (fun _ => ?_) (fun _ => ?_) | refine Wr.id (by omega) ?_ | refine Chk.mk (by first | omega | exact rfl | (simp only [List.length_map]; omega) | (simp [room]; done) | (simp [room]; omega) | (simp [dropL, room]; done) | (simp [dropL, room]; omega)) ?_ | refine Nam.mk (List.length_map _) ?_ | refine Prep.skip ?_ | refine Eith.l ?_ | refine chk_t (x := D.flat _) (by assumption) ?_ | refine br_mk (fun _ => ?_) (fun _ => ?_) | refine ACall.of (law54_sane) ?_ | refine APCall.of (law54_sane) ?_ | refine ACall.of (hF) ?_ | refine APCall.of (hF) ?_ | refine ACall.of (k1) ?_ | refine APCall.of (k1) ?_ | refine ACall.of (n1) ?_ | refine APCall.of (n1) ?_ | refine ACall.of (n2) ?_ | refine APCall.of (n2) ?_ | refine ACall.of (s1) ?_ | refine APCall.of (s1) ?_ | refine ACall.of (c1) ?_ | refine APCall.of (c1) ?_ | refine ACall.of (c2) ?_ | refine APCall.of (c2) ?_ | refine ACall.of (c3) ?_ | refine APCall.of (c3) ?_ | refine ACall.of (c4) ?_ | refine APCall.of (c4) ?_ | refine nthK_mk hbg ?_ | refine ACall.of (k2) ?_ | refine APCall.of (k2) ?_ | fail)
            all_goals first | (exfalso; omega) | skip
            all_goals (conv => whnf)
            all_goals first | exact DLe.refl _
        · have hpos : 0 < (b.at no).length := List.length_pos_iff.2 hn
          repeat' ((conv => whnf); first | refine Dec.t (of_decide_eq_true (Eq.refl true)) ?_ | refine Dec.f (of_decide_eq_false (Eq.refl false)) ?_ | with_reducible refine Dec.t (show true = true from rfl) ?_ | with_reducible refine Dec.t (show false = false from rfl) ?_ | with_reducible refine Dec.f (show ¬ (true = false) by decide) ?_ | with_reducible refine Dec.f (show ¬ (false = true) by decide) ?_ | refine Dec.t (by omega) ?_ | refine Dec.f (by omega) ?_ | refine Dec.split (fun _ => ?_) (fun _ => ?_) | refine Wr.id (by omega) ?_ | refine Chk.mk (by first | omega | exact rfl | (simp only [List.length_map]; omega) | (simp [room]; done) | (simp [room]; omega) | (simp [dropL, room]; done) | (simp [dropL, room]; omega)) ?_ | refine Nam.mk (List.length_map _) ?_ | refine Prep.skip ?_ | refine Eith.l ?_ | refine chk_t (x := D.flat _) (by assumption) ?_ | refine br_mk (fun _ => ?_) (fun _ => ?_) | refine ACall.of (law54_sane) ?_ | refine APCall.of (law54_sane) ?_ | refine ACall.of (hF) ?_ | refine APCall.of (hF) ?_ | refine ACall.of (k1) ?_ | refine APCall.of (k1) ?_ | refine ACall.of (n1) ?_ | refine APCall.of (n1) ?_ | refine ACall.of (n2) ?_ | refine APCall.of (n2) ?_ | refine ACall.of (s1) ?_ | refine APCall.of (s1) ?_ | refine ACall.of (c1) ?_ | refine APCall.of (c1) ?_ | refine ACall.of (c2) ?_ | refine APCall.of (c2) ?_ | refine ACall.of (c3) ?_ | refine APCall.of (c3) ?_ | refine ACall.of (c4) ?_ | refine APCall.of (c4) ?_ | refine nthK_mk hbg ?_ | fail)
          all_goals first | (exfalso; omega) | skip
          all_goals (conv => whnf)
          all_goals first | exact DLe.refl _
      · rw [show dropM b no = (Brn.zero, 1) by unfold dropM; rw [if_pos hv, if_neg ho]] at k1
        repeat' ((conv => whnf); first | refine Dec.t (of_decide_eq_true (Eq.refl true)) ?_ | refine Dec.f (of_decide_eq_false (Eq.refl false)) ?_ | with_reducible refine Dec.t (show true = true from rfl) ?_ | with_reducible refine Dec.t (show false = false from rfl) ?_ | with_reducible refine Dec.f (show ¬ (true = false) by decide) ?_ | with_reducible refine Dec.f (show ¬ (false = true) by decide) ?_ | refine Dec.t (by omega) ?_ | refine Dec.f (by omega) ?_ | refine Dec.split (fun _ => ?_) (fun _ => ?_) | refine Wr.id (by omega) ?_ | refine Chk.mk (by first | omega | exact rfl | (simp only [List.length_map]; omega) | (simp [room]; done) | (simp [room]; omega) | (simp [dropL, room]; done) | (simp [dropL, room]; omega)) ?_ | refine Nam.mk (List.length_map _) ?_ | refine Prep.skip ?_ | refine Eith.l ?_ | refine chk_t (x := D.flat _) (by assumption) ?_ | refine br_mk (fun _ => ?_) (fun _ => ?_) | refine ACall.of (law54_sane) ?_ | refine APCall.of (law54_sane) ?_ | refine ACall.of (hF) ?_ | refine APCall.of (hF) ?_ | refine ACall.of (k1) ?_ | refine APCall.of (k1) ?_ | refine ACall.of (sz) ?_ | refine APCall.of (sz) ?_ | fail)
        all_goals first | (exfalso; omega) | skip
        all_goals (conv => whnf)
        all_goals first | exact DLe.refl _
    · rw [show dropM b no = (Brn.zero, 540) by unfold dropM; rw [if_neg hv]] at k1
      repeat' ((conv => whnf); first | refine Dec.t (of_decide_eq_true (Eq.refl true)) ?_ | refine Dec.f (of_decide_eq_false (Eq.refl false)) ?_ | with_reducible refine Dec.t (show true = true from rfl) ?_ | with_reducible refine Dec.t (show false = false from rfl) ?_ | with_reducible refine Dec.f (show ¬ (true = false) by decide) ?_ | with_reducible refine Dec.f (show ¬ (false = true) by decide) ?_ | refine Dec.t (by omega) ?_ | refine Dec.f (by omega) ?_ | refine Dec.split (fun _ => ?_) (fun _ => ?_) | refine Wr.id (by omega) ?_ | refine Chk.mk (by first | omega | exact rfl | (simp only [List.length_map]; omega) | (simp [room]; done) | (simp [room]; omega) | (simp [dropL, room]; done) | (simp [dropL, room]; omega)) ?_ | refine Nam.mk (List.length_map _) ?_ | refine Prep.skip ?_ | refine Eith.l ?_ | refine chk_t (x := D.flat _) (by assumption) ?_ | refine br_mk (fun _ => ?_) (fun _ => ?_) | refine ACall.of (law54_sane) ?_ | refine APCall.of (law54_sane) ?_ | refine ACall.of (hF) ?_ | refine APCall.of (hF) ?_ | refine ACall.of (k1) ?_ | refine APCall.of (k1) ?_ | refine ACall.of (sz) ?_ | refine APCall.of (sz) ?_ | fail)
      all_goals first | (exfalso; omega) | skip
      all_goals (conv => whnf)
      all_goals first | exact DLe.refl _
  · rw [decide_eq_false hf] at hF
    repeat' ((conv => whnf); first | with_reducible refine Dec.t (show true = true from rfl) ?_ | with_reducible refine Dec.t (show false = false from rfl) ?_ | with_reducible refine Dec.f (show ¬ (true = false) by decide) ?_ | with_reducible refine Dec.f (show ¬ (false = true) by decide) ?_ | refine Dec.t (by omega) ?_ | refine Dec.f (by omega) ?_ | refine Dec.split (fun _ => ?_) (fun _ => ?_) | refine Wr.id (by omega) ?_ | refine Chk.mk (by first | omega | exact rfl | (simp only [List.length_map]; omega) | (simp [room]; done) | (simp [room]; omega) | (simp [dropL, room]; done) | (simp [dropL, room]; omega)) ?_ | refine Nam.mk (List.length_map _) ?_ | refine Prep.skip ?_ | refine Eith.l ?_ | refine chk_t (x := D.flat _) (by assumption) ?_ | refine br_mk (fun _ => ?_) (fun _ => ?_) | refine ACall.of (law54_sane) ?_ | refine APCall.of (law54_sane) ?_ | refine ACall.of (hF) ?_ | refine APCall.of (hF) ?_ | fail)
    all_goals first | (exfalso; omega) | skip
    all_goals (conv => whnf)
    all_goals first | exact DLe.refl _
end Go.PM

