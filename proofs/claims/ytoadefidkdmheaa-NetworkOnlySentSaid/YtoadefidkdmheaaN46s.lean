/- The statements of layer 46: sane. -/
import Derived.Test.YtoadefidkdmheaaN46h
namespace Go.PM
open Go.Proofs
set_option maxRecDepth 10000
set_option maxHeartbeats 8000000

theorem net_New : CallP Try.prog 16 [] (retD [Net.zero.d]) := by
  refine exPure_sound (E := envOf Try.prog tt Try.f16.ntmps) (envOf_ok ttok mixed) Try.func16 (by rfl) rfl rfl (Nat.le_of_ble_eq_true rfl) ?_
  repeat' ((conv => whnf); first | with_reducible refine Dec.t (show true = true from rfl) ?_ | with_reducible refine Dec.t (show false = false from rfl) ?_ | with_reducible refine Dec.f (show ¬ (true = false) by decide) ?_ | with_reducible refine Dec.f (show ¬ (false = true) by decide) ?_ | refine Dec.t (by omega) ?_ | refine Dec.f (by omega) ?_ | refine Dec.split (fun _ => ?_) (fun _ => ?_) | refine Wr.id (by omega) ?_ | refine Chk.mk (by first | omega | exact rfl | (simp only [List.length_map]; omega) | (simp [room]; done) | (simp [room]; omega) | (simp [dropL, room]; done) | (simp [dropL, room]; omega)) ?_ | refine Nam.mk (List.length_map _) ?_ | refine Prep.skip ?_ | refine Eith.l ?_ | refine chk_t (x := D.flat _) (by assumption) ?_ | refine br_mk (fun _ => ?_) (fun _ => ?_) | fail)
  all_goals (conv => whnf)
  exact net0
theorem ref46_New : CallP Try.prog 17 [] (retD [Net.zero.d]) := by
  refine exPure_sound (E := envOf Try.prog tt Try.f17.ntmps) (envOf_ok ttok mixed) Try.func17 (by rfl) rfl rfl (Nat.le_of_ble_eq_true rfl) ?_
  repeat' ((conv => whnf); first | with_reducible refine Dec.t (show true = true from rfl) ?_ | with_reducible refine Dec.t (show false = false from rfl) ?_ | with_reducible refine Dec.f (show ¬ (true = false) by decide) ?_ | with_reducible refine Dec.f (show ¬ (false = true) by decide) ?_ | refine Dec.t (by omega) ?_ | refine Dec.f (by omega) ?_ | refine Dec.split (fun _ => ?_) (fun _ => ?_) | refine Wr.id (by omega) ?_ | refine Chk.mk (by first | omega | exact rfl | (simp only [List.length_map]; omega) | (simp [room]; done) | (simp [room]; omega) | (simp [dropL, room]; done) | (simp [dropL, room]; omega)) ?_ | refine Nam.mk (List.length_map _) ?_ | refine Prep.skip ?_ | refine Eith.l ?_ | refine chk_t (x := D.flat _) (by assumption) ?_ | refine br_mk (fun _ => ?_) (fun _ => ?_) | fail)
  all_goals (conv => whnf)
  exact net0
def pP : Pkt := ⟨1, 3, [7]⟩
def aN : Net := ⟨[pP], []⟩
def bN : Net := ⟨[pP, pP], []⟩
def cN : Net := ⟨[pP, pP], [⟨1, 3⟩]⟩
theorem wid0 : Wid Net.zero := ⟨by decide, by decide⟩
theorem widA : Wid aN := ⟨by decide, by decide⟩
theorem widB : Wid bN := ⟨by decide, by decide⟩
theorem widC : Wid cN := ⟨by decide, by decide⟩
theorem leP : DLe (.agg [I 1, I 3, .sl 1 true [.i .u8 7]]) pP.d := DLe.agg ⟨DLe.refl _, DLe.refl _, DLe.full _ _ _, rfl⟩
theorem leP3 : DLe (.agg [I 3, I 3, .sl 0 true []]) (⟨3, 3, []⟩ : Pkt).d := DLe.agg ⟨DLe.refl _, DLe.refl _, DLe.nil _ _ _, rfl⟩
theorem law46_sane : CallP Try.prog 9 [] (retD [.b true]) := by
  have c1 := net_Deliver Net.zero 0 wid0
  rw [show gotM Net.zero 0 = Pkt.zero by decide +kernel, show loseM Net.zero 0 = (Net.zero, 1) by decide +kernel] at c1
  have c2 := net_Send Net.zero ⟨3, 3, []⟩ wid0
  rw [show sendM Net.zero ⟨3, 3, []⟩ = (Net.zero, 460) by decide +kernel] at c2
  have c3 := net_Cut Net.zero 2 2 true wid0 (by decide)
  rw [show cutM Net.zero 2 2 true = (Net.zero, 1) by decide +kernel] at c3
  have c4 := net_Send Net.zero pP wid0
  rw [show sendM Net.zero pP = (aN, 0) by decide +kernel] at c4
  have c5 := net_Repeat aN 0 widA
  rw [show repeatM aN 0 = (bN, 0) by decide +kernel] at c5
  have c6 := net_Cut bN 3 1 true widB (by decide)
  rw [show cutM bN 3 1 true = (cN, 0) by decide +kernel] at c6
  have c7 := net_Deliver bN 0 widB
  rw [show gotM bN 0 = pP by decide +kernel, show loseM bN 0 = (aN, 0) by decide +kernel] at c7
  have c8 := net_Deliver cN 1 widC
  rw [show gotM cN 1 = Pkt.zero by decide +kernel] at c8
  have e8 : (loseM cN 1).2 = 0 := by decide +kernel
  rw [e8] at c8
  have c9 := net_Check Net.zero wid0
  rw [show checkN Net.zero = 0 by decide +kernel] at c9
  have c10 := ref46_SamePacket pP pP
  rw [decide_eq_true rfl] at c10
  have c11 := ref46_SamePacket Pkt.zero Pkt.zero
  rw [decide_eq_true rfl] at c11
  have c12 := ref46_Same aN aN widA
  rw [decide_eq_true ⟨rfl, rfl⟩] at c12
  refine exPure_sound (E := envOf Try.prog tt Try.f9.ntmps) (envOf_ok ttok mixed) Try.func9 (by rfl) rfl rfl (Nat.le_of_ble_eq_true rfl) ?_
  repeat' ((conv => whnf); first | refine Dec.t (of_decide_eq_true (Eq.refl true)) ?_ | refine Dec.f (of_decide_eq_false (Eq.refl false)) ?_ | with_reducible refine Dec.t (show true = true from rfl) ?_ | with_reducible refine Dec.t (show false = false from rfl) ?_ | with_reducible refine Dec.f (show ¬ (true = false) by decide) ?_ | with_reducible refine Dec.f (show ¬ (false = true) by decide) ?_ | refine Dec.t (by omega) ?_ | refine Dec.f (by omega) ?_ | refine Dec.split (fun _ => ?_) (fun _ => ?_) | refine Wr.id (by omega) ?_ | refine Chk.mk (by first | omega | exact rfl | (simp only [List.length_map]; omega) | (simp [room]; done) | (simp [room]; omega) | (simp [dropL, room]; done) | (simp [dropL, room]; omega)) ?_ | refine Nam.mk (List.length_map _) ?_ | refine Prep.skip ?_ | refine Eith.l ?_ | refine chk_t (x := D.flat _) (by assumption) ?_ | refine br_mk (fun _ => ?_) (fun _ => ?_) | refine Nam.mk (y := 1) rfl ?_ | refine Nam.mk (y := 2) rfl ?_ | refine Nam.mk (y := true) rfl ?_ | refine Nam.mk (y := false) rfl ?_ | refine ACall.of (net_New) ?_ | refine APCall.of (net_New) ?_ | (refine ACall.le ?_ c1 ?_; exact ⟨VLe.refl _, VLe.refl _, rfl⟩) | (refine APCall.le ?_ c1 ?_; exact ⟨VLe.refl _, VLe.refl _, rfl⟩) | (refine ACall.le ?_ c2 ?_; exact ⟨VLe.refl _, VLe.d leP3, rfl⟩) | (refine APCall.le ?_ c2 ?_; exact ⟨VLe.refl _, VLe.d leP3, rfl⟩) | (refine ACall.le ?_ c3 ?_; exact ⟨VLe.refl _, VLe.refl _, VLe.refl _, VLe.refl _, rfl⟩) | (refine APCall.le ?_ c3 ?_; exact ⟨VLe.refl _, VLe.refl _, VLe.refl _, VLe.refl _, rfl⟩) | (refine ACall.le ?_ c4 ?_; exact ⟨VLe.refl _, VLe.d leP, rfl⟩) | (refine APCall.le ?_ c4 ?_; exact ⟨VLe.refl _, VLe.d leP, rfl⟩) | (refine ACall.le ?_ c5 ?_; exact ⟨VLe.refl _, VLe.refl _, rfl⟩) | (refine APCall.le ?_ c5 ?_; exact ⟨VLe.refl _, VLe.refl _, rfl⟩) | (refine ACall.le ?_ c6 ?_; exact ⟨VLe.refl _, VLe.refl _, VLe.refl _, VLe.refl _, rfl⟩) | (refine APCall.le ?_ c6 ?_; exact ⟨VLe.refl _, VLe.refl _, VLe.refl _, VLe.refl _, rfl⟩) | (refine ACall.le ?_ c7 ?_; exact ⟨VLe.refl _, VLe.refl _, rfl⟩) | (refine APCall.le ?_ c7 ?_; exact ⟨VLe.refl _, VLe.refl _, rfl⟩) | (refine ACall.le ?_ c8 ?_; exact ⟨VLe.refl _, VLe.refl _, rfl⟩) | (refine APCall.le ?_ c8 ?_; exact ⟨VLe.refl _, VLe.refl _, rfl⟩) | (refine ACall.le ?_ c9 ?_; exact ⟨VLe.refl _, rfl⟩) | (refine APCall.le ?_ c9 ?_; exact ⟨VLe.refl _, rfl⟩) | (refine ACall.le ?_ c10 ?_; exact ⟨VLe.d leP, VLe.refl _, rfl⟩) | (refine APCall.le ?_ c10 ?_; exact ⟨VLe.d leP, VLe.refl _, rfl⟩) | (refine ACall.le ?_ c11 ?_; exact ⟨VLe.refl _, VLe.d pkt0, rfl⟩) | (refine APCall.le ?_ c11 ?_; exact ⟨VLe.refl _, VLe.d pkt0, rfl⟩) | (refine ACall.le ?_ c12 ?_; exact ⟨VLe.refl _, VLe.refl _, rfl⟩) | (refine APCall.le ?_ c12 ?_; exact ⟨VLe.refl _, VLe.refl _, rfl⟩) | fail)
  all_goals (conv => whnf)
  exact DLe.refl _
end Go.PM

