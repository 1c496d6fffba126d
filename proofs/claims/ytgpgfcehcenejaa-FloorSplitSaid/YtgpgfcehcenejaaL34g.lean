/- The statements of floors: Split. -/
import Derived.Test.YtgpgfcehcenejaaL34f
namespace Go.PM
open Go.Proofs
set_option maxRecDepth 10000
set_option maxHeartbeats 8000000

theorem pick {x : Int} (hx : 0 ≤ x) {k : Nat} (hk : 0 < k) : ∃ i : Nat, x.tmod (k : Int) = i ∧ i < k := by
  refine ⟨(x.tmod k).toNat, ?_, ?_⟩
  · have := Int.tmod_nonneg (a := x) (b := k) hx; omega
  · have := Int.tmod_lt_of_pos x (b := k) (by omega)
    have := Int.tmod_nonneg (a := x) (b := k) hx; omega
theorem law34_Split (h : Hist) (i part : Int) (hw : WidH h) (hi : 0 ≤ i ∧ i < 256) (hamt : ∀ f ∈ h.fl, f.amt ≤ 9223372036854775807) : CallP Try.prog 7 [.d h.d, .d (.i .u8 i), .d (I part)] (retD [.b true]) := by
  have hwo := hw.o
  have hwf := hw.f
  have hF := ref34_Few h hw
  have a1 := floor_Amounts h hw
  obtain ⟨t1, t2⟩ := amtsT_rows h
  have s1 := ref34_SameAmounts (amtsT h) (amtsT h) (by omega) (by omega) (fun x hx => by have := t2 x hx; omega) (fun x hx => by have := t2 x hx; omega)
  rw [decide_eq_true rfl] at s1
  refine exPure_sound (E := envOf Try.prog tt Try.f7.ntmps) (envOf_ok ttok mixed) Try.func7 (by rfl) rfl rfl (Nat.le_of_ble_eq_true rfl) ?_
  by_cases hf : h.op.length ≤ 20 ∧ h.fl.length ≤ 70
  · rw [decide_eq_true hf] at hF
    by_cases hz : 0 < h.fl.length ∧ h.fl.length < 64
    · obtain ⟨k, hk, hkl⟩ := pick hi.1 hz.1
      obtain ⟨f, hx, _⟩ := drop_get hkl
      have ham := hamt f (List.mem_of_getElem? hx)
      clear hamt
      have hk0 : (i.tmod ((h.fl.map Flow.d).length : Int)) = k := by rw [List.length_map]; exact hk
      have g0 : (h.fl.map Flow.d)[(i.tmod (h.fl.length : Int)).toNat]? = some f.d := by rw [hk, Int.toNat_natCast, List.getElem?_map, hx]; rfl
      have nk : 0 ≤ i.tmod (h.fl.length : Int) ∧ i.tmod (h.fl.length : Int) < h.fl.length := by omega
      have l3 : 0 + (i.tmod (h.fl.length : Int)).toNat < ([] ++ h.fl.map Flow.d).length := by rw [hk]; simpa using hkl
      have g1 : ([] ++ h.fl.map Flow.d)[0 + (i.tmod (h.fl.length : Int)).toNat]? = some f.d := by rw [Nat.zero_add]; exact g0
      have s4 : ([] ++ h.fl.map Flow.d).set (0 + (i.tmod (h.fl.length : Int)).toNat) (f.amt1 (f.amt - part)).d = (h.fl.set k (f.amt1 (f.amt - part))).map Flow.d := by rw [hk, Int.toNat_natCast, Nat.zero_add, List.nil_append, List.map_set]
      obtain ⟨X, hX⟩ : ∃ X : Hist, X = ⟨h.op, h.per, spl h.fl k f (f.amt - part) part⟩ := ⟨_, rfl⟩
      have hwX : WidH X := by rw [hX]; exact ⟨hwo, by simp [spl]; omega⟩
      have b1 := floor_Amounts X hwX
      by_cases hg : ¬ f.kind = 3 ∧ 1 ≤ part ∧ part < f.amt
      · by_cases hm : f.amt ≤ 1048576
        · have hA := spl_alike (op := h.op) (per := h.per) hx hg.1 (show f.amt = (f.amt - part) + part by omega) (by omega) hg.2.1 hm hz.2
          rw [← hX] at hA
          have e1 : amtsT X = amtsT h := hA.1
          have e2 : amtsE X = amtsE h := hA.2
          rw [e1, e2, hX] at b1
          repeat' ((conv => whnf); first | with_reducible refine Dec.t (show true = true from rfl) ?_ | with_reducible refine Dec.t (show false = false from rfl) ?_ | with_reducible refine Dec.f (show ¬ (true = false) by decide) ?_ | with_reducible refine Dec.f (show ¬ (false = true) by decide) ?_ | refine Dec.t (by omega) ?_ | refine Dec.f (by omega) ?_ | refine Dec.split (fun _ => ?_) (fun _ => ?_) | refine Wr.id (by omega) ?_ | refine Chk.mk (by first | omega | exact rfl | (simp only [List.length_map]; omega) | (simp [room]; done) | (simp [room]; omega) | (simp [dropL, room]; done) | (simp [dropL, room]; omega)) ?_ | refine Nam.mk (List.length_map _) ?_ | refine Prep.skip ?_ | refine Eith.l ?_ | refine chk_t (x := D.flat _) (by assumption) ?_ | refine br_mk (fun _ => ?_) (fun _ => ?_) | refine ACall.of (law34_sane) ?_ | refine APCall.of (law34_sane) ?_ | refine ACall.of (hF) ?_ | refine APCall.of (hF) ?_ | refine nthK_mk g0 ?_ | refine nthK_mk g1 ?_ | refine setK_to l3 s4 ?_ | refine Chk.mk ⟨rfl, by simp, by simp [room]; omega⟩ ?_ | refine Nam.mk (y := (spl h.fl k f (f.amt - part) part).map Flow.d) (by rw [List.drop_zero]; exact (List.take_of_length_le (by simp [dropL])).trans (by simp [spl, dropL]; rfl)) ?_ | refine Chk.mk ⟨rfl, by simp [dropL]⟩ ?_ | refine ACall.of (a1) ?_ | refine APCall.of (a1) ?_ | refine ACall.of (b1) ?_ | refine APCall.of (b1) ?_ | refine ACall.of (s1) ?_ | refine APCall.of (s1) ?_ | refine ACall.lift ?_ | fail)
          all_goals first | (exfalso; omega) | skip
          all_goals (conv => whnf)
          all_goals first | exact DLe.refl _
        · have e2 : amtsE h = 340 := by unfold amtsE; rw [if_neg (fun hok => hm (by have := hok.fl f (List.mem_of_getElem? hx); unfold Flow.ok at this; omega))]
          rw [e2] at a1
          rw [hX] at b1
          repeat' ((conv => whnf); first | with_reducible refine Dec.t (show true = true from rfl) ?_ | with_reducible refine Dec.t (show false = false from rfl) ?_ | with_reducible refine Dec.f (show ¬ (true = false) by decide) ?_ | with_reducible refine Dec.f (show ¬ (false = true) by decide) ?_ | refine Dec.t (by omega) ?_ | refine Dec.f (by omega) ?_ | refine Dec.split (fun _ => ?_) (fun _ => ?_) | refine Wr.id (by omega) ?_ | refine Chk.mk (by first | omega | exact rfl | (simp only [List.length_map]; omega) | (simp [room]; done) | (simp [room]; omega) | (simp [dropL, room]; done) | (simp [dropL, room]; omega)) ?_ | refine Nam.mk (List.length_map _) ?_ | refine Prep.skip ?_ | refine Eith.l ?_ | refine chk_t (x := D.flat _) (by assumption) ?_ | refine br_mk (fun _ => ?_) (fun _ => ?_) | refine ACall.of (law34_sane) ?_ | refine APCall.of (law34_sane) ?_ | refine ACall.of (hF) ?_ | refine APCall.of (hF) ?_ | refine nthK_mk g0 ?_ | refine nthK_mk g1 ?_ | refine setK_to l3 s4 ?_ | refine Chk.mk ⟨rfl, by simp, by simp [room]; omega⟩ ?_ | refine Nam.mk (y := (spl h.fl k f (f.amt - part) part).map Flow.d) (by rw [List.drop_zero]; exact (List.take_of_length_le (by simp [dropL])).trans (by simp [spl, dropL]; rfl)) ?_ | refine Chk.mk ⟨rfl, by simp [dropL]⟩ ?_ | refine ACall.of (a1) ?_ | refine APCall.of (a1) ?_ | refine ACall.of (b1) ?_ | refine APCall.of (b1) ?_ | refine ACall.lift ?_ | fail)
          all_goals first | (exfalso; omega) | skip
          all_goals (conv => whnf)
          all_goals first | exact DLe.refl _
      · repeat' ((conv => whnf); first | with_reducible refine Dec.t (show true = true from rfl) ?_ | with_reducible refine Dec.t (show false = false from rfl) ?_ | with_reducible refine Dec.f (show ¬ (true = false) by decide) ?_ | with_reducible refine Dec.f (show ¬ (false = true) by decide) ?_ | refine Dec.t (by omega) ?_ | refine Dec.f (by omega) ?_ | refine Dec.split (fun _ => ?_) (fun _ => ?_) | refine Wr.id (by omega) ?_ | refine Chk.mk (by first | omega | exact rfl | (simp only [List.length_map]; omega) | (simp [room]; done) | (simp [room]; omega) | (simp [dropL, room]; done) | (simp [dropL, room]; omega)) ?_ | refine Nam.mk (List.length_map _) ?_ | refine Prep.skip ?_ | refine Eith.l ?_ | refine chk_t (x := D.flat _) (by assumption) ?_ | refine br_mk (fun _ => ?_) (fun _ => ?_) | refine ACall.of (law34_sane) ?_ | refine APCall.of (law34_sane) ?_ | refine ACall.of (hF) ?_ | refine APCall.of (hF) ?_ | refine nthK_mk g0 ?_ | fail)
        all_goals first | (exfalso; omega) | skip
        all_goals (conv => whnf)
        all_goals first | exact DLe.refl _
    · repeat' ((conv => whnf); first | with_reducible refine Dec.t (show true = true from rfl) ?_ | with_reducible refine Dec.t (show false = false from rfl) ?_ | with_reducible refine Dec.f (show ¬ (true = false) by decide) ?_ | with_reducible refine Dec.f (show ¬ (false = true) by decide) ?_ | refine Dec.t (by omega) ?_ | refine Dec.f (by omega) ?_ | refine Dec.split (fun _ => ?_) (fun _ => ?_) | refine Wr.id (by omega) ?_ | refine Chk.mk (by first | omega | exact rfl | (simp only [List.length_map]; omega) | (simp [room]; done) | (simp [room]; omega) | (simp [dropL, room]; done) | (simp [dropL, room]; omega)) ?_ | refine Nam.mk (List.length_map _) ?_ | refine Prep.skip ?_ | refine Eith.l ?_ | refine chk_t (x := D.flat _) (by assumption) ?_ | refine br_mk (fun _ => ?_) (fun _ => ?_) | refine ACall.of (law34_sane) ?_ | refine APCall.of (law34_sane) ?_ | refine ACall.of (hF) ?_ | refine APCall.of (hF) ?_ | fail)
      all_goals first | (exfalso; omega) | skip
      all_goals (conv => whnf)
      all_goals first | exact DLe.refl _
  · rw [decide_eq_false hf] at hF
    repeat' ((conv => whnf); first | with_reducible refine Dec.t (show true = true from rfl) ?_ | with_reducible refine Dec.t (show false = false from rfl) ?_ | with_reducible refine Dec.f (show ¬ (true = false) by decide) ?_ | with_reducible refine Dec.f (show ¬ (false = true) by decide) ?_ | refine Dec.t (by omega) ?_ | refine Dec.f (by omega) ?_ | refine Dec.split (fun _ => ?_) (fun _ => ?_) | refine Wr.id (by omega) ?_ | refine Chk.mk (by first | omega | exact rfl | (simp only [List.length_map]; omega) | (simp [room]; done) | (simp [room]; omega) | (simp [dropL, room]; done) | (simp [dropL, room]; omega)) ?_ | refine Nam.mk (List.length_map _) ?_ | refine Prep.skip ?_ | refine Eith.l ?_ | refine chk_t (x := D.flat _) (by assumption) ?_ | refine br_mk (fun _ => ?_) (fun _ => ?_) | refine ACall.of (law34_sane) ?_ | refine APCall.of (law34_sane) ?_ | refine ACall.of (hF) ?_ | refine APCall.of (hF) ?_ | fail)
    all_goals first | (exfalso; omega) | skip
    all_goals (conv => whnf)
    all_goals first | exact DLe.refl _
end Go.PM

