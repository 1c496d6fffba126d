/- The statements of floors: sane. -/
import Derived.Test.YtgpgfcehcenejaaW34m
import Derived.Test.YtgpgfcehcenejaaPmBor
namespace Go.PM
open Go.Proofs
set_option maxRecDepth 10000
set_option maxHeartbeats 8000000

theorem Wr.lit {n : Int} {K : Int → Prop} (m : Int) (h : n = m) (hw : IntKind.i64.wrap m = m) (a : K m) : Wr .i64 n K := by subst h; exact .keep (by rw [hw]; exact a)
theorem le_tab1 (a b : Int) : DLe (.sl 1 true [.sl 1 true [I a, I b]]) (tabD [[a, b]]) := by
  refine DLe.trans (DLe.full 1 true _) (DLe.sl ⟨rfl, fun j x y hx hy => ?_⟩)
  cases j with
  | zero => simp at hx hy; subst hx; subst hy; exact ⟨DLe.full _ _ _, rfl⟩
  | succ j => simp at hx
theorem law34_move (a b c d : Int) : CallP Try.prog 20 [.d (I a), .d (I b), .d (I c), .d (I d)] (retD [(⟨2, a, b, c, d, 0⟩ : Flow).d]) := by
  refine exPure_sound (E := envOf Try.prog tt Try.f20.ntmps) (envOf_ok ttok mixed) Try.func20 (by rfl) rfl rfl (Nat.le_of_ble_eq_true rfl) ?_
  repeat' ((conv => whnf); first | with_reducible refine Dec.t (show true = true from rfl) ?_ | with_reducible refine Dec.t (show false = false from rfl) ?_ | with_reducible refine Dec.f (show ¬ (true = false) by decide) ?_ | with_reducible refine Dec.f (show ¬ (false = true) by decide) ?_ | refine Dec.t (by omega) ?_ | refine Dec.f (by omega) ?_ | refine Dec.split (fun _ => ?_) (fun _ => ?_) | refine Wr.id (by omega) ?_ | refine Chk.mk (by first | omega | exact rfl | (simp only [List.length_map]; omega) | (simp [room]; done) | (simp [room]; omega) | (simp [dropL, room]; done) | (simp [dropL, room]; omega)) ?_ | refine Nam.mk (List.length_map _) ?_ | refine Prep.skip ?_ | refine Eith.l ?_ | refine chk_t (x := D.flat _) (by assumption) ?_ | refine br_mk (fun _ => ?_) (fun _ => ?_) | fail)
  all_goals (conv => whnf)
  exact DLe.refl _
def oneH : Hist := ⟨[5, 0], 1, [⟨2, 0, 0, 1, 3, 0⟩]⟩
def lostH : Hist := ⟨[2], 1, [⟨4, 0, 0, 0, 3, 0⟩]⟩
def ringH : Hist := ⟨[0, 0], 1, [⟨2, 0, 0, 1, 5, 0⟩, ⟨2, 0, 1, 0, 5, 0⟩]⟩
def fed1H : Hist := ⟨[0, 0], 1, [⟨1, 0, 0, 1, 4, -1⟩, ⟨3, 0, 0, 0, 1, 9⟩, ⟨3, 0, 1, 0, 2, 3⟩, ⟨2, 0, 0, 1, 5, 0⟩, ⟨2, 0, 1, 0, 5, 0⟩]⟩
def fed2H : Hist := ⟨[0, 0], 1, [⟨1, 0, 0, 1, 4, -1⟩, ⟨3, 0, 0, 0, 1, 9⟩, ⟨3, 0, 1, 0, 2, 3⟩, ⟨2, 0, 0, 1, 6, 0⟩, ⟨2, 0, 1, 0, 7, 0⟩]⟩
def noneH : Hist := ⟨[], 0, []⟩
def badH : Hist := ⟨[], -1, []⟩
theorem law34_sane : CallP Try.prog 9 [] (retD [.b true]) := by
  have c1 := floor_Amounts oneH ⟨by decide, by decide⟩
  rw [show amtsT oneH = [[2, 3]] by decide +kernel, show amtsE oneH = 0 by decide +kernel] at c1
  have c2 := floor_Amounts fed1H ⟨by decide, by decide⟩
  rw [show amtsT fed1H = [] by decide +kernel, show amtsE fed1H = 341 by decide +kernel] at c2
  have c3 := floor_Shipped fed1H ⟨by decide, by decide⟩
  rw [show shipL fed1H = [] by decide +kernel, show shipA fed1H = [] by decide +kernel, show amtsE fed1H = 341 by decide +kernel] at c3
  have c4 := floor_Amounts lostH ⟨by decide, by decide⟩
  rw [show amtsT lostH = [] by decide +kernel, show amtsE lostH = 341 by decide +kernel] at c4
  have c5 := floor_Amounts fed2H ⟨by decide, by decide⟩
  rw [show amtsT fed2H = [[0, 1]] by decide +kernel, show amtsE fed2H = 0 by decide +kernel] at c5
  have c6 := floor_Shipped fed2H ⟨by decide, by decide⟩
  rw [show shipL fed2H = [3, 9] by decide +kernel, show shipA fed2H = [2, 1] by decide +kernel, show amtsE fed2H = 0 by decide +kernel] at c6
  have d1 := floor_Check noneH ⟨by decide, by decide⟩
  rw [show amtsE noneH = 0 by decide +kernel] at d1
  have d2 := floor_Check lostH ⟨by decide, by decide⟩
  rw [show amtsE lostH = 341 by decide +kernel] at d2
  have d3 := floor_Check ringH ⟨by decide, by decide⟩
  rw [show amtsE ringH = 341 by decide +kernel] at d3
  have d4 := floor_Check badH ⟨by decide, by decide⟩
  rw [show amtsE badH = 340 by decide +kernel] at d4
  have s1 := ref34_SameAmounts [[2, 3]] [[2, 3]] (by decide) (by decide) (by decide) (by decide)
  rw [decide_eq_true rfl] at s1
  have s2 := ref34_SameAmounts [[0, 1]] [[0, 1]] (by decide) (by decide) (by decide) (by decide)
  rw [decide_eq_true rfl] at s2
  have s3 := ref34_SameInts [3, 9] [3, 9] (by decide) (by decide)
  rw [decide_eq_true rfl] at s3
  have s4 := ref34_SameInts [2, 1] [2, 1] (by decide) (by decide)
  rw [decide_eq_true rfl] at s4
  refine exPure_sound (E := envOf Try.prog tt Try.f9.ntmps) (envOf_ok ttok mixed) Try.func9 (by rfl) rfl rfl (Nat.le_of_ble_eq_true rfl) ?_
  repeat' ((conv => whnf); first | refine Dec.t (of_decide_eq_true (Eq.refl true)) ?_ | refine Dec.f (of_decide_eq_false (Eq.refl false)) ?_ | with_reducible refine Dec.t (show true = true from rfl) ?_ | with_reducible refine Dec.t (show false = false from rfl) ?_ | with_reducible refine Dec.f (show ¬ (true = false) by decide) ?_ | with_reducible refine Dec.f (show ¬ (false = true) by decide) ?_ | refine Dec.t (by omega) ?_ | refine Dec.f (by omega) ?_ | refine Dec.split (fun _ => ?_) (fun _ => ?_) | refine Wr.id (by omega) ?_ | refine Chk.mk (by first | omega | exact rfl | (simp only [List.length_map]; omega) | (simp [room]; done) | (simp [room]; omega) | (simp [dropL, room]; done) | (simp [dropL, room]; omega)) ?_ | refine Nam.mk (List.length_map _) ?_ | refine Prep.skip ?_ | refine Eith.l ?_ | refine chk_t (x := D.flat _) (by assumption) ?_ | refine br_mk (fun _ => ?_) (fun _ => ?_) | refine Nam.mk (y := true) rfl ?_ | refine Nam.mk (y := false) rfl ?_ | refine ACall.of (law34_move _ _ _ _) ?_ | refine APCall.of (law34_move _ _ _ _) ?_ | fail)
  all_goals (conv => whnf)
  refine ACall.le ?_ c1 ?_
  · exact ⟨VLe.d (DLe.agg ⟨DLe.full _ _ _, DLe.refl _, DLe.full _ _ _, rfl⟩), rfl⟩
  repeat' ((conv => whnf); first | refine Dec.t (of_decide_eq_true (Eq.refl true)) ?_ | refine Dec.f (of_decide_eq_false (Eq.refl false)) ?_ | with_reducible refine Dec.t (show true = true from rfl) ?_ | with_reducible refine Dec.t (show false = false from rfl) ?_ | with_reducible refine Dec.f (show ¬ (true = false) by decide) ?_ | with_reducible refine Dec.f (show ¬ (false = true) by decide) ?_ | refine Dec.t (by omega) ?_ | refine Dec.f (by omega) ?_ | refine Dec.split (fun _ => ?_) (fun _ => ?_) | refine Wr.id (by omega) ?_ | refine Chk.mk (by first | omega | exact rfl | (simp only [List.length_map]; omega) | (simp [room]; done) | (simp [room]; omega) | (simp [dropL, room]; done) | (simp [dropL, room]; omega)) ?_ | refine Nam.mk (List.length_map _) ?_ | refine Prep.skip ?_ | refine Eith.l ?_ | refine chk_t (x := D.flat _) (by assumption) ?_ | refine br_mk (fun _ => ?_) (fun _ => ?_) | refine Nam.mk (y := true) rfl ?_ | refine Nam.mk (y := false) rfl ?_ | refine ACall.of (law34_move _ _ _ _) ?_ | refine APCall.of (law34_move _ _ _ _) ?_ | fail)
  all_goals (conv => whnf)
  refine ACall.borrow c2 rfl ?_ ?_
  · conv => whnf
    refine Chk.mk ⟨rfl, by decide⟩ ?_
    refine Nam.mk (y := fed1H.fl.map Flow.d) rfl ?_
    conv => whnf
    exact ⟨rfl, VLe.d (DLe.agg ⟨DLe.full _ _ _, DLe.refl _, DLe.refl _, rfl⟩), rfl⟩
  repeat' ((conv => whnf); first | refine Dec.t (of_decide_eq_true (Eq.refl true)) ?_ | refine Dec.f (of_decide_eq_false (Eq.refl false)) ?_ | with_reducible refine Dec.t (show true = true from rfl) ?_ | with_reducible refine Dec.t (show false = false from rfl) ?_ | with_reducible refine Dec.f (show ¬ (true = false) by decide) ?_ | with_reducible refine Dec.f (show ¬ (false = true) by decide) ?_ | refine Dec.t (by omega) ?_ | refine Dec.f (by omega) ?_ | refine Dec.split (fun _ => ?_) (fun _ => ?_) | refine Wr.id (by omega) ?_ | refine Chk.mk (by first | omega | exact rfl | (simp only [List.length_map]; omega) | (simp [room]; done) | (simp [room]; omega) | (simp [dropL, room]; done) | (simp [dropL, room]; omega)) ?_ | refine Nam.mk (List.length_map _) ?_ | refine Prep.skip ?_ | refine Eith.l ?_ | refine chk_t (x := D.flat _) (by assumption) ?_ | refine br_mk (fun _ => ?_) (fun _ => ?_) | refine Nam.mk (y := true) rfl ?_ | refine Nam.mk (y := false) rfl ?_ | refine ACall.of (law34_move _ _ _ _) ?_ | refine APCall.of (law34_move _ _ _ _) ?_ | fail)
  all_goals (conv => whnf)
  refine ACall.borrow c3 rfl ?_ ?_
  · conv => whnf
    refine Chk.mk ⟨rfl, by decide⟩ ?_
    refine Nam.mk (y := fed1H.fl.map Flow.d) rfl ?_
    conv => whnf
    exact ⟨rfl, VLe.d (DLe.agg ⟨DLe.full _ _ _, DLe.refl _, DLe.refl _, rfl⟩), rfl⟩
  repeat' ((conv => whnf); first | refine Dec.t (of_decide_eq_true (Eq.refl true)) ?_ | refine Dec.f (of_decide_eq_false (Eq.refl false)) ?_ | with_reducible refine Dec.t (show true = true from rfl) ?_ | with_reducible refine Dec.t (show false = false from rfl) ?_ | with_reducible refine Dec.f (show ¬ (true = false) by decide) ?_ | with_reducible refine Dec.f (show ¬ (false = true) by decide) ?_ | refine Dec.t (by omega) ?_ | refine Dec.f (by omega) ?_ | refine Dec.split (fun _ => ?_) (fun _ => ?_) | refine Wr.id (by omega) ?_ | refine Chk.mk (by first | omega | exact rfl | (simp only [List.length_map]; omega) | (simp [room]; done) | (simp [room]; omega) | (simp [dropL, room]; done) | (simp [dropL, room]; omega)) ?_ | refine Nam.mk (List.length_map _) ?_ | refine Prep.skip ?_ | refine Eith.l ?_ | refine chk_t (x := D.flat _) (by assumption) ?_ | refine br_mk (fun _ => ?_) (fun _ => ?_) | refine Nam.mk (y := true) rfl ?_ | refine Nam.mk (y := false) rfl ?_ | refine ACall.of (law34_move _ _ _ _) ?_ | refine APCall.of (law34_move _ _ _ _) ?_ | fail)
  all_goals (conv => whnf)
  refine ACall.le ?_ c4 ?_
  · exact ⟨VLe.d (DLe.agg ⟨DLe.full _ _ _, DLe.refl _, DLe.full _ _ _, rfl⟩), rfl⟩
  repeat' ((conv => whnf); first | refine Dec.t (of_decide_eq_true (Eq.refl true)) ?_ | refine Dec.f (of_decide_eq_false (Eq.refl false)) ?_ | with_reducible refine Dec.t (show true = true from rfl) ?_ | with_reducible refine Dec.t (show false = false from rfl) ?_ | with_reducible refine Dec.f (show ¬ (true = false) by decide) ?_ | with_reducible refine Dec.f (show ¬ (false = true) by decide) ?_ | refine Dec.t (by omega) ?_ | refine Dec.f (by omega) ?_ | refine Dec.split (fun _ => ?_) (fun _ => ?_) | refine Wr.id (by omega) ?_ | refine Chk.mk (by first | omega | exact rfl | (simp only [List.length_map]; omega) | (simp [room]; done) | (simp [room]; omega) | (simp [dropL, room]; done) | (simp [dropL, room]; omega)) ?_ | refine Nam.mk (List.length_map _) ?_ | refine Prep.skip ?_ | refine Eith.l ?_ | refine chk_t (x := D.flat _) (by assumption) ?_ | refine br_mk (fun _ => ?_) (fun _ => ?_) | refine Nam.mk (y := true) rfl ?_ | refine Nam.mk (y := false) rfl ?_ | refine ACall.of (law34_move _ _ _ _) ?_ | refine APCall.of (law34_move _ _ _ _) ?_ | refine Wr.lit 0 rfl rfl ?_ | fail)
  all_goals (conv => whnf)
  refine ACall.lift ?_
  conv => whnf
  refine Chk.mk ⟨rfl, by decide⟩ ?_
  refine Nam.mk (y := fed2H.fl.map Flow.d) rfl ?_
  conv => whnf
  refine ACall.le ?_ c5 ?_
  · exact ⟨VLe.d (DLe.agg ⟨DLe.full _ _ _, DLe.refl _, DLe.refl _, rfl⟩), rfl⟩
  repeat' ((conv => whnf); first | refine Dec.t (of_decide_eq_true (Eq.refl true)) ?_ | refine Dec.f (of_decide_eq_false (Eq.refl false)) ?_ | with_reducible refine Dec.t (show true = true from rfl) ?_ | with_reducible refine Dec.t (show false = false from rfl) ?_ | with_reducible refine Dec.f (show ¬ (true = false) by decide) ?_ | with_reducible refine Dec.f (show ¬ (false = true) by decide) ?_ | refine Dec.t (by omega) ?_ | refine Dec.f (by omega) ?_ | refine Dec.split (fun _ => ?_) (fun _ => ?_) | refine Wr.id (by omega) ?_ | refine Chk.mk (by first | omega | exact rfl | (simp only [List.length_map]; omega) | (simp [room]; done) | (simp [room]; omega) | (simp [dropL, room]; done) | (simp [dropL, room]; omega)) ?_ | refine Nam.mk (List.length_map _) ?_ | refine Prep.skip ?_ | refine Eith.l ?_ | refine chk_t (x := D.flat _) (by assumption) ?_ | refine br_mk (fun _ => ?_) (fun _ => ?_) | refine Nam.mk (y := true) rfl ?_ | refine Nam.mk (y := false) rfl ?_ | fail)
  all_goals (conv => whnf)
  refine ACall.lift ?_
  conv => whnf
  refine Chk.mk ⟨rfl, by decide⟩ ?_
  refine Nam.mk (y := fed2H.fl.map Flow.d) rfl ?_
  conv => whnf
  refine ACall.le ?_ c6 ?_
  · exact ⟨VLe.d (DLe.agg ⟨DLe.full _ _ _, DLe.refl _, DLe.refl _, rfl⟩), rfl⟩
  repeat' ((conv => whnf); first | refine Dec.t (of_decide_eq_true (Eq.refl true)) ?_ | refine Dec.f (of_decide_eq_false (Eq.refl false)) ?_ | with_reducible refine Dec.t (show true = true from rfl) ?_ | with_reducible refine Dec.t (show false = false from rfl) ?_ | with_reducible refine Dec.f (show ¬ (true = false) by decide) ?_ | with_reducible refine Dec.f (show ¬ (false = true) by decide) ?_ | refine Dec.t (by omega) ?_ | refine Dec.f (by omega) ?_ | refine Dec.split (fun _ => ?_) (fun _ => ?_) | refine Wr.id (by omega) ?_ | refine Chk.mk (by first | omega | exact rfl | (simp only [List.length_map]; omega) | (simp [room]; done) | (simp [room]; omega) | (simp [dropL, room]; done) | (simp [dropL, room]; omega)) ?_ | refine Nam.mk (List.length_map _) ?_ | refine Prep.skip ?_ | refine Eith.l ?_ | refine chk_t (x := D.flat _) (by assumption) ?_ | refine br_mk (fun _ => ?_) (fun _ => ?_) | refine Nam.mk (y := true) rfl ?_ | refine Nam.mk (y := false) rfl ?_ | (refine ACall.le ?_ s1 ?_; exact ⟨VLe.refl _, VLe.d (le_tab1 _ _), rfl⟩) | (refine APCall.le ?_ s1 ?_; exact ⟨VLe.refl _, VLe.d (le_tab1 _ _), rfl⟩) | (refine ACall.le ?_ s2 ?_; exact ⟨VLe.refl _, VLe.d (le_tab1 _ _), rfl⟩) | (refine APCall.le ?_ s2 ?_; exact ⟨VLe.refl _, VLe.d (le_tab1 _ _), rfl⟩) | (refine ACall.le ?_ s3 ?_; exact ⟨VLe.refl _, VLe.d (DLe.full _ _ _), rfl⟩) | (refine APCall.le ?_ s3 ?_; exact ⟨VLe.refl _, VLe.d (DLe.full _ _ _), rfl⟩) | (refine ACall.le ?_ s4 ?_; exact ⟨VLe.refl _, VLe.d (DLe.full _ _ _), rfl⟩) | (refine APCall.le ?_ s4 ?_; exact ⟨VLe.refl _, VLe.d (DLe.full _ _ _), rfl⟩) | (refine ACall.le ?_ d1 ?_; exact ⟨VLe.d (DLe.agg ⟨DLe.nil _ _ _, DLe.refl _, DLe.nil _ _ _, rfl⟩), rfl⟩) | (refine APCall.le ?_ d1 ?_; exact ⟨VLe.d (DLe.agg ⟨DLe.nil _ _ _, DLe.refl _, DLe.nil _ _ _, rfl⟩), rfl⟩) | (refine ACall.le ?_ d2 ?_; exact ⟨VLe.d (DLe.agg ⟨DLe.full _ _ _, DLe.refl _, DLe.full _ _ _, rfl⟩), rfl⟩) | (refine APCall.le ?_ d2 ?_; exact ⟨VLe.d (DLe.agg ⟨DLe.full _ _ _, DLe.refl _, DLe.full _ _ _, rfl⟩), rfl⟩) | (refine ACall.le ?_ d3 ?_; exact ⟨VLe.d (DLe.agg ⟨DLe.full _ _ _, DLe.refl _, DLe.full _ _ _, rfl⟩), rfl⟩) | (refine APCall.le ?_ d3 ?_; exact ⟨VLe.d (DLe.agg ⟨DLe.full _ _ _, DLe.refl _, DLe.full _ _ _, rfl⟩), rfl⟩) | (refine ACall.le ?_ d4 ?_; exact ⟨VLe.d (DLe.agg ⟨DLe.nil _ _ _, DLe.refl _, DLe.nil _ _ _, rfl⟩), rfl⟩) | (refine APCall.le ?_ d4 ?_; exact ⟨VLe.d (DLe.agg ⟨DLe.nil _ _ _, DLe.refl _, DLe.nil _ _ _, rfl⟩), rfl⟩) | fail)
  all_goals (conv => whnf)
  exact DLe.refl _
end Go.PM

