/- The statements of layer 46: what happens. -/
import Derived.Test.YtoadefidkdmheaaL46a
namespace Go.PM
open Go.Proofs
set_option maxRecDepth 10000
set_option maxHeartbeats 8000000

structure Mv where
  kind : UInt8
  at_ : UInt8
  a : UInt8
  b : UInt8
  data : UInt8
def Mv.d (m : Mv) : D := .agg [U8 m.kind, U8 m.at_, U8 m.a, U8 m.b, U8 m.data]
abbrev nat8 (x : UInt8) : Int := (x.toNat : Int)
def Mv.place (m : Mv) (n : Net) : Int := if 0 < n.queue.length then (nat8 m.at_).tmod (n.queue.length : Int) else 0
def Mv.x (m : Mv) : Int := (nat8 m.a).tmod 16
def Mv.y (m : Mv) : Int := (nat8 m.b).tmod 16
def Mv.sort (m : Mv) : Int := (nat8 m.kind).tmod 6
def happM (n : Net) (m : Mv) : Net × Pkt × Int :=
  if m.sort = 0 then ((sendM n ⟨m.x, m.y, [m.data]⟩).1, Pkt.zero, (sendM n ⟨m.x, m.y, [m.data]⟩).2)
  else if m.sort = 1 then ((loseM n (m.place n)).1, gotM n (m.place n), (loseM n (m.place n)).2)
  else if m.sort = 2 then ((loseM n (m.place n)).1, Pkt.zero, (loseM n (m.place n)).2)
  else if m.sort = 3 then ((repeatM n (m.place n)).1, Pkt.zero, (repeatM n (m.place n)).2)
  else if m.sort = 4 then ((cutM n m.x m.y true).1, Pkt.zero, (cutM n m.x m.y true).2)
  else ((cutM n m.x m.y false).1, Pkt.zero, (cutM n m.x m.y false).2)
theorem sort_case (m : Mv) : m.sort = 0 ∨ m.sort = 1 ∨ m.sort = 2 ∨ m.sort = 3 ∨ m.sort = 4 ∨ m.sort = 5 := by
  unfold Mv.sort
  have h1 : 0 ≤ nat8 m.kind := Int.natCast_nonneg _
  rw [Int.tmod_eq_emod_of_nonneg h1]
  omega
theorem mod16 (x : UInt8) : 0 ≤ (nat8 x).tmod 16 ∧ (nat8 x).tmod 16 < 16 := by
  have h1 : 0 ≤ nat8 x := Int.natCast_nonneg _
  rw [Int.tmod_eq_emod_of_nonneg h1]
  omega
theorem law46_happens (n : Net) (m : Mv) (hf : Fw n) : CallP Try.prog 27 [.d n.d, .d m.d] (retD [(happM n m).1.d, (happM n m).2.1.d, I (happM n m).2.2]) := by
  have hw := hf.wid
  have hq := hf.q
  have hn8 := m.at_.toNat_lt
  have ha8 := m.a.toNat_lt
  have hb8 := m.b.toNat_lt
  have hx := mod16 m.a
  have hy := mod16 m.b
  have c0 := net_Send n ⟨m.x, m.y, [m.data]⟩ hw
  have c0 : CallP Try.prog 11 [.d n.d, .d (.agg [I m.x, I m.y, .sl 1 true [U8 m.data]])] (retD [(sendM n ⟨m.x, m.y, [m.data]⟩).1.d, I (sendM n ⟨m.x, m.y, [m.data]⟩).2]) := by
    refine CallP.le ?_ c0
    exact ⟨VLe.refl _, VLe.d (DLe.agg ⟨DLe.refl _, DLe.refl _, DLe.full _ _ _, rfl⟩), rfl⟩
  have c4 := net_Cut n m.x m.y true hw (Nat.le_trans hf.a (by decide))
  have c5 := net_Cut n m.x m.y false hw (Nat.le_trans hf.a (by decide))
  have c1 := net_Deliver n (m.place n) hw
  have c2 := net_Lose n (m.place n) hw
  have c3 := net_Repeat n (m.place n) hw
  by_cases h0 : 0 < n.queue.length
  · have hpl : m.place n = (nat8 m.at_).tmod (n.queue.length : Int) := if_pos h0
    have c1 : CallP Try.prog 18 [.d n.d, .d (I ((nat8 m.at_).tmod (n.queue.length : Int)))] (retD [(gotM n (m.place n)).d, (loseM n (m.place n)).1.d, I (loseM n (m.place n)).2]) := by rw [← hpl]; exact c1
    have c2 : CallP Try.prog 23 [.d n.d, .d (I ((nat8 m.at_).tmod (n.queue.length : Int)))] (retD [(loseM n (m.place n)).1.d, I (loseM n (m.place n)).2]) := by rw [← hpl]; exact c2
    have c3 : CallP Try.prog 25 [.d n.d, .d (I ((nat8 m.at_).tmod (n.queue.length : Int)))] (retD [(repeatM n (m.place n)).1.d, I (repeatM n (m.place n)).2]) := by rw [← hpl]; exact c3
    rcases sort_case m with h | h | h | h | h | h
    · rw [show happM n m = ((sendM n ⟨m.x, m.y, [m.data]⟩).1, Pkt.zero, (sendM n ⟨m.x, m.y, [m.data]⟩).2) by unfold happM; simp [h]]
      have h : (m.kind.toNat : Int).tmod 6 = 0 := h
      refine exPure_sound (E := envOf Try.prog tt Try.f27.ntmps) (envOf_ok ttok mixed) Try.func27 (by rfl) rfl rfl (Nat.le_of_ble_eq_true rfl) ?_
      repeat' ((conv => whnf); first | refine Dec.t h ?_ | refine Dec.f (by rw [h]; decide) ?_ | refine Dec.t (by omega) ?_ | refine Dec.f (by omega) ?_ | with_reducible refine Dec.t (show true = true from rfl) ?_ | with_reducible refine Dec.t (show false = false from rfl) ?_ | with_reducible refine Dec.f (show ¬ (true = false) by decide) ?_ | with_reducible refine Dec.f (show ¬ (false = true) by decide) ?_ | refine Dec.t (by omega) ?_ | refine Dec.f (by omega) ?_ | refine Dec.split (fun _ => ?_) (fun _ => ?_) | refine Wr.id (by omega) ?_ | refine Chk.mk (by first | omega | exact rfl | (simp only [List.length_map]; omega) | (simp [room]; done) | (simp [room]; omega) | (simp [dropL, room]; done) | (simp [dropL, room]; omega)) ?_ | refine Nam.mk (List.length_map _) ?_ | refine Prep.skip ?_ | refine Eith.l ?_ | refine chk_t (x := D.flat _) (by assumption) ?_ | refine br_mk (fun _ => ?_) (fun _ => ?_) | refine ACall.of (c0) ?_ | refine APCall.of (c0) ?_ | fail)
      all_goals (conv => whnf)
      all_goals first | exact ⟨DLe.refl _, pkt0, DLe.refl _, rfl⟩
    · rw [show happM n m = ((loseM n (m.place n)).1, gotM n (m.place n), (loseM n (m.place n)).2) by unfold happM; simp [h]]
      have h : (m.kind.toNat : Int).tmod 6 = 1 := h
      refine exPure_sound (E := envOf Try.prog tt Try.f27.ntmps) (envOf_ok ttok mixed) Try.func27 (by rfl) rfl rfl (Nat.le_of_ble_eq_true rfl) ?_
      repeat' ((conv => whnf); first | refine Dec.t h ?_ | refine Dec.f (by rw [h]; decide) ?_ | refine Dec.t (by omega) ?_ | refine Dec.f (by omega) ?_ | with_reducible refine Dec.t (show true = true from rfl) ?_ | with_reducible refine Dec.t (show false = false from rfl) ?_ | with_reducible refine Dec.f (show ¬ (true = false) by decide) ?_ | with_reducible refine Dec.f (show ¬ (false = true) by decide) ?_ | refine Dec.t (by omega) ?_ | refine Dec.f (by omega) ?_ | refine Dec.split (fun _ => ?_) (fun _ => ?_) | refine Wr.id (by omega) ?_ | refine Chk.mk (by first | omega | exact rfl | (simp only [List.length_map]; omega) | (simp [room]; done) | (simp [room]; omega) | (simp [dropL, room]; done) | (simp [dropL, room]; omega)) ?_ | refine Nam.mk (List.length_map _) ?_ | refine Prep.skip ?_ | refine Eith.l ?_ | refine chk_t (x := D.flat _) (by assumption) ?_ | refine br_mk (fun _ => ?_) (fun _ => ?_) | refine ACall.of (c1) ?_ | refine APCall.of (c1) ?_ | fail)
      all_goals (conv => whnf)
      all_goals first | exact ⟨DLe.refl _, DLe.refl _, DLe.refl _, rfl⟩
    · rw [show happM n m = ((loseM n (m.place n)).1, Pkt.zero, (loseM n (m.place n)).2) by unfold happM; simp [h]]
      have h : (m.kind.toNat : Int).tmod 6 = 2 := h
      refine exPure_sound (E := envOf Try.prog tt Try.f27.ntmps) (envOf_ok ttok mixed) Try.func27 (by rfl) rfl rfl (Nat.le_of_ble_eq_true rfl) ?_
      repeat' ((conv => whnf); first | refine Dec.t h ?_ | refine Dec.f (by rw [h]; decide) ?_ | refine Dec.t (by omega) ?_ | refine Dec.f (by omega) ?_ | with_reducible refine Dec.t (show true = true from rfl) ?_ | with_reducible refine Dec.t (show false = false from rfl) ?_ | with_reducible refine Dec.f (show ¬ (true = false) by decide) ?_ | with_reducible refine Dec.f (show ¬ (false = true) by decide) ?_ | refine Dec.t (by omega) ?_ | refine Dec.f (by omega) ?_ | refine Dec.split (fun _ => ?_) (fun _ => ?_) | refine Wr.id (by omega) ?_ | refine Chk.mk (by first | omega | exact rfl | (simp only [List.length_map]; omega) | (simp [room]; done) | (simp [room]; omega) | (simp [dropL, room]; done) | (simp [dropL, room]; omega)) ?_ | refine Nam.mk (List.length_map _) ?_ | refine Prep.skip ?_ | refine Eith.l ?_ | refine chk_t (x := D.flat _) (by assumption) ?_ | refine br_mk (fun _ => ?_) (fun _ => ?_) | refine ACall.of (c2) ?_ | refine APCall.of (c2) ?_ | fail)
      all_goals (conv => whnf)
      all_goals first | exact ⟨DLe.refl _, pkt0, DLe.refl _, rfl⟩
    · rw [show happM n m = ((repeatM n (m.place n)).1, Pkt.zero, (repeatM n (m.place n)).2) by unfold happM; simp [h]]
      have h : (m.kind.toNat : Int).tmod 6 = 3 := h
      refine exPure_sound (E := envOf Try.prog tt Try.f27.ntmps) (envOf_ok ttok mixed) Try.func27 (by rfl) rfl rfl (Nat.le_of_ble_eq_true rfl) ?_
      repeat' ((conv => whnf); first | refine Dec.t h ?_ | refine Dec.f (by rw [h]; decide) ?_ | refine Dec.t (by omega) ?_ | refine Dec.f (by omega) ?_ | with_reducible refine Dec.t (show true = true from rfl) ?_ | with_reducible refine Dec.t (show false = false from rfl) ?_ | with_reducible refine Dec.f (show ¬ (true = false) by decide) ?_ | with_reducible refine Dec.f (show ¬ (false = true) by decide) ?_ | refine Dec.t (by omega) ?_ | refine Dec.f (by omega) ?_ | refine Dec.split (fun _ => ?_) (fun _ => ?_) | refine Wr.id (by omega) ?_ | refine Chk.mk (by first | omega | exact rfl | (simp only [List.length_map]; omega) | (simp [room]; done) | (simp [room]; omega) | (simp [dropL, room]; done) | (simp [dropL, room]; omega)) ?_ | refine Nam.mk (List.length_map _) ?_ | refine Prep.skip ?_ | refine Eith.l ?_ | refine chk_t (x := D.flat _) (by assumption) ?_ | refine br_mk (fun _ => ?_) (fun _ => ?_) | refine ACall.of (c3) ?_ | refine APCall.of (c3) ?_ | fail)
      all_goals (conv => whnf)
      all_goals first | exact ⟨DLe.refl _, pkt0, DLe.refl _, rfl⟩
    · rw [show happM n m = ((cutM n m.x m.y true).1, Pkt.zero, (cutM n m.x m.y true).2) by unfold happM; simp [h]]
      have h : (m.kind.toNat : Int).tmod 6 = 4 := h
      refine exPure_sound (E := envOf Try.prog tt Try.f27.ntmps) (envOf_ok ttok mixed) Try.func27 (by rfl) rfl rfl (Nat.le_of_ble_eq_true rfl) ?_
      repeat' ((conv => whnf); first | refine Dec.t h ?_ | refine Dec.f (by rw [h]; decide) ?_ | refine Dec.t (by omega) ?_ | refine Dec.f (by omega) ?_ | with_reducible refine Dec.t (show true = true from rfl) ?_ | with_reducible refine Dec.t (show false = false from rfl) ?_ | with_reducible refine Dec.f (show ¬ (true = false) by decide) ?_ | with_reducible refine Dec.f (show ¬ (false = true) by decide) ?_ | refine Dec.t (by omega) ?_ | refine Dec.f (by omega) ?_ | refine Dec.split (fun _ => ?_) (fun _ => ?_) | refine Wr.id (by omega) ?_ | refine Chk.mk (by first | omega | exact rfl | (simp only [List.length_map]; omega) | (simp [room]; done) | (simp [room]; omega) | (simp [dropL, room]; done) | (simp [dropL, room]; omega)) ?_ | refine Nam.mk (List.length_map _) ?_ | refine Prep.skip ?_ | refine Eith.l ?_ | refine chk_t (x := D.flat _) (by assumption) ?_ | refine br_mk (fun _ => ?_) (fun _ => ?_) | refine ACall.of (c4) ?_ | refine APCall.of (c4) ?_ | fail)
      all_goals (conv => whnf)
      all_goals first | exact ⟨DLe.refl _, pkt0, DLe.refl _, rfl⟩
    · rw [show happM n m = ((cutM n m.x m.y false).1, Pkt.zero, (cutM n m.x m.y false).2) by unfold happM; simp [h]]
      have h : (m.kind.toNat : Int).tmod 6 = 5 := h
      refine exPure_sound (E := envOf Try.prog tt Try.f27.ntmps) (envOf_ok ttok mixed) Try.func27 (by rfl) rfl rfl (Nat.le_of_ble_eq_true rfl) ?_
      repeat' ((conv => whnf); first | refine Dec.t h ?_ | refine Dec.f (by rw [h]; decide) ?_ | refine Dec.t (by omega) ?_ | refine Dec.f (by omega) ?_ | with_reducible refine Dec.t (show true = true from rfl) ?_ | with_reducible refine Dec.t (show false = false from rfl) ?_ | with_reducible refine Dec.f (show ¬ (true = false) by decide) ?_ | with_reducible refine Dec.f (show ¬ (false = true) by decide) ?_ | refine Dec.t (by omega) ?_ | refine Dec.f (by omega) ?_ | refine Dec.split (fun _ => ?_) (fun _ => ?_) | refine Wr.id (by omega) ?_ | refine Chk.mk (by first | omega | exact rfl | (simp only [List.length_map]; omega) | (simp [room]; done) | (simp [room]; omega) | (simp [dropL, room]; done) | (simp [dropL, room]; omega)) ?_ | refine Nam.mk (List.length_map _) ?_ | refine Prep.skip ?_ | refine Eith.l ?_ | refine chk_t (x := D.flat _) (by assumption) ?_ | refine br_mk (fun _ => ?_) (fun _ => ?_) | refine ACall.of (c5) ?_ | refine APCall.of (c5) ?_ | fail)
      all_goals (conv => whnf)
      all_goals first | exact ⟨DLe.refl _, pkt0, DLe.refl _, rfl⟩
  · have hpl : m.place n = 0 := if_neg h0
    have c1 : CallP Try.prog 18 [.d n.d, .d (I (0))] (retD [(gotM n (m.place n)).d, (loseM n (m.place n)).1.d, I (loseM n (m.place n)).2]) := by rw [← hpl]; exact c1
    have c2 : CallP Try.prog 23 [.d n.d, .d (I (0))] (retD [(loseM n (m.place n)).1.d, I (loseM n (m.place n)).2]) := by rw [← hpl]; exact c2
    have c3 : CallP Try.prog 25 [.d n.d, .d (I (0))] (retD [(repeatM n (m.place n)).1.d, I (repeatM n (m.place n)).2]) := by rw [← hpl]; exact c3
    rcases sort_case m with h | h | h | h | h | h
    · rw [show happM n m = ((sendM n ⟨m.x, m.y, [m.data]⟩).1, Pkt.zero, (sendM n ⟨m.x, m.y, [m.data]⟩).2) by unfold happM; simp [h]]
      have h : (m.kind.toNat : Int).tmod 6 = 0 := h
      refine exPure_sound (E := envOf Try.prog tt Try.f27.ntmps) (envOf_ok ttok mixed) Try.func27 (by rfl) rfl rfl (Nat.le_of_ble_eq_true rfl) ?_
      repeat' ((conv => whnf); first | refine Dec.t h ?_ | refine Dec.f (by rw [h]; decide) ?_ | refine Dec.t (by omega) ?_ | refine Dec.f (by omega) ?_ | with_reducible refine Dec.t (show true = true from rfl) ?_ | with_reducible refine Dec.t (show false = false from rfl) ?_ | with_reducible refine Dec.f (show ¬ (true = false) by decide) ?_ | with_reducible refine Dec.f (show ¬ (false = true) by decide) ?_ | refine Dec.t (by omega) ?_ | refine Dec.f (by omega) ?_ | refine Dec.split (fun _ => ?_) (fun _ => ?_) | refine Wr.id (by omega) ?_ | refine Chk.mk (by first | omega | exact rfl | (simp only [List.length_map]; omega) | (simp [room]; done) | (simp [room]; omega) | (simp [dropL, room]; done) | (simp [dropL, room]; omega)) ?_ | refine Nam.mk (List.length_map _) ?_ | refine Prep.skip ?_ | refine Eith.l ?_ | refine chk_t (x := D.flat _) (by assumption) ?_ | refine br_mk (fun _ => ?_) (fun _ => ?_) | refine ACall.of (c0) ?_ | refine APCall.of (c0) ?_ | fail)
      all_goals (conv => whnf)
      all_goals first | exact ⟨DLe.refl _, pkt0, DLe.refl _, rfl⟩
    · rw [show happM n m = ((loseM n (m.place n)).1, gotM n (m.place n), (loseM n (m.place n)).2) by unfold happM; simp [h]]
      have h : (m.kind.toNat : Int).tmod 6 = 1 := h
      refine exPure_sound (E := envOf Try.prog tt Try.f27.ntmps) (envOf_ok ttok mixed) Try.func27 (by rfl) rfl rfl (Nat.le_of_ble_eq_true rfl) ?_
      repeat' ((conv => whnf); first | refine Dec.t h ?_ | refine Dec.f (by rw [h]; decide) ?_ | refine Dec.t (by omega) ?_ | refine Dec.f (by omega) ?_ | with_reducible refine Dec.t (show true = true from rfl) ?_ | with_reducible refine Dec.t (show false = false from rfl) ?_ | with_reducible refine Dec.f (show ¬ (true = false) by decide) ?_ | with_reducible refine Dec.f (show ¬ (false = true) by decide) ?_ | refine Dec.t (by omega) ?_ | refine Dec.f (by omega) ?_ | refine Dec.split (fun _ => ?_) (fun _ => ?_) | refine Wr.id (by omega) ?_ | refine Chk.mk (by first | omega | exact rfl | (simp only [List.length_map]; omega) | (simp [room]; done) | (simp [room]; omega) | (simp [dropL, room]; done) | (simp [dropL, room]; omega)) ?_ | refine Nam.mk (List.length_map _) ?_ | refine Prep.skip ?_ | refine Eith.l ?_ | refine chk_t (x := D.flat _) (by assumption) ?_ | refine br_mk (fun _ => ?_) (fun _ => ?_) | refine ACall.of (c1) ?_ | refine APCall.of (c1) ?_ | fail)
      all_goals (conv => whnf)
      all_goals first | exact ⟨DLe.refl _, DLe.refl _, DLe.refl _, rfl⟩
    · rw [show happM n m = ((loseM n (m.place n)).1, Pkt.zero, (loseM n (m.place n)).2) by unfold happM; simp [h]]
      have h : (m.kind.toNat : Int).tmod 6 = 2 := h
      refine exPure_sound (E := envOf Try.prog tt Try.f27.ntmps) (envOf_ok ttok mixed) Try.func27 (by rfl) rfl rfl (Nat.le_of_ble_eq_true rfl) ?_
      repeat' ((conv => whnf); first | refine Dec.t h ?_ | refine Dec.f (by rw [h]; decide) ?_ | refine Dec.t (by omega) ?_ | refine Dec.f (by omega) ?_ | with_reducible refine Dec.t (show true = true from rfl) ?_ | with_reducible refine Dec.t (show false = false from rfl) ?_ | with_reducible refine Dec.f (show ¬ (true = false) by decide) ?_ | with_reducible refine Dec.f (show ¬ (false = true) by decide) ?_ | refine Dec.t (by omega) ?_ | refine Dec.f (by omega) ?_ | refine Dec.split (fun _ => ?_) (fun _ => ?_) | refine Wr.id (by omega) ?_ | refine Chk.mk (by first | omega | exact rfl | (simp only [List.length_map]; omega) | (simp [room]; done) | (simp [room]; omega) | (simp [dropL, room]; done) | (simp [dropL, room]; omega)) ?_ | refine Nam.mk (List.length_map _) ?_ | refine Prep.skip ?_ | refine Eith.l ?_ | refine chk_t (x := D.flat _) (by assumption) ?_ | refine br_mk (fun _ => ?_) (fun _ => ?_) | refine ACall.of (c2) ?_ | refine APCall.of (c2) ?_ | fail)
      all_goals (conv => whnf)
      all_goals first | exact ⟨DLe.refl _, pkt0, DLe.refl _, rfl⟩
    · rw [show happM n m = ((repeatM n (m.place n)).1, Pkt.zero, (repeatM n (m.place n)).2) by unfold happM; simp [h]]
      have h : (m.kind.toNat : Int).tmod 6 = 3 := h
      refine exPure_sound (E := envOf Try.prog tt Try.f27.ntmps) (envOf_ok ttok mixed) Try.func27 (by rfl) rfl rfl (Nat.le_of_ble_eq_true rfl) ?_
      repeat' ((conv => whnf); first | refine Dec.t h ?_ | refine Dec.f (by rw [h]; decide) ?_ | refine Dec.t (by omega) ?_ | refine Dec.f (by omega) ?_ | with_reducible refine Dec.t (show true = true from rfl) ?_ | with_reducible refine Dec.t (show false = false from rfl) ?_ | with_reducible refine Dec.f (show ¬ (true = false) by decide) ?_ | with_reducible refine Dec.f (show ¬ (false = true) by decide) ?_ | refine Dec.t (by omega) ?_ | refine Dec.f (by omega) ?_ | refine Dec.split (fun _ => ?_) (fun _ => ?_) | refine Wr.id (by omega) ?_ | refine Chk.mk (by first | omega | exact rfl | (simp only [List.length_map]; omega) | (simp [room]; done) | (simp [room]; omega) | (simp [dropL, room]; done) | (simp [dropL, room]; omega)) ?_ | refine Nam.mk (List.length_map _) ?_ | refine Prep.skip ?_ | refine Eith.l ?_ | refine chk_t (x := D.flat _) (by assumption) ?_ | refine br_mk (fun _ => ?_) (fun _ => ?_) | refine ACall.of (c3) ?_ | refine APCall.of (c3) ?_ | fail)
      all_goals (conv => whnf)
      all_goals first | exact ⟨DLe.refl _, pkt0, DLe.refl _, rfl⟩
    · rw [show happM n m = ((cutM n m.x m.y true).1, Pkt.zero, (cutM n m.x m.y true).2) by unfold happM; simp [h]]
      have h : (m.kind.toNat : Int).tmod 6 = 4 := h
      refine exPure_sound (E := envOf Try.prog tt Try.f27.ntmps) (envOf_ok ttok mixed) Try.func27 (by rfl) rfl rfl (Nat.le_of_ble_eq_true rfl) ?_
      repeat' ((conv => whnf); first | refine Dec.t h ?_ | refine Dec.f (by rw [h]; decide) ?_ | refine Dec.t (by omega) ?_ | refine Dec.f (by omega) ?_ | with_reducible refine Dec.t (show true = true from rfl) ?_ | with_reducible refine Dec.t (show false = false from rfl) ?_ | with_reducible refine Dec.f (show ¬ (true = false) by decide) ?_ | with_reducible refine Dec.f (show ¬ (false = true) by decide) ?_ | refine Dec.t (by omega) ?_ | refine Dec.f (by omega) ?_ | refine Dec.split (fun _ => ?_) (fun _ => ?_) | refine Wr.id (by omega) ?_ | refine Chk.mk (by first | omega | exact rfl | (simp only [List.length_map]; omega) | (simp [room]; done) | (simp [room]; omega) | (simp [dropL, room]; done) | (simp [dropL, room]; omega)) ?_ | refine Nam.mk (List.length_map _) ?_ | refine Prep.skip ?_ | refine Eith.l ?_ | refine chk_t (x := D.flat _) (by assumption) ?_ | refine br_mk (fun _ => ?_) (fun _ => ?_) | refine ACall.of (c4) ?_ | refine APCall.of (c4) ?_ | fail)
      all_goals (conv => whnf)
      all_goals first | exact ⟨DLe.refl _, pkt0, DLe.refl _, rfl⟩
    · rw [show happM n m = ((cutM n m.x m.y false).1, Pkt.zero, (cutM n m.x m.y false).2) by unfold happM; simp [h]]
      have h : (m.kind.toNat : Int).tmod 6 = 5 := h
      refine exPure_sound (E := envOf Try.prog tt Try.f27.ntmps) (envOf_ok ttok mixed) Try.func27 (by rfl) rfl rfl (Nat.le_of_ble_eq_true rfl) ?_
      repeat' ((conv => whnf); first | refine Dec.t h ?_ | refine Dec.f (by rw [h]; decide) ?_ | refine Dec.t (by omega) ?_ | refine Dec.f (by omega) ?_ | with_reducible refine Dec.t (show true = true from rfl) ?_ | with_reducible refine Dec.t (show false = false from rfl) ?_ | with_reducible refine Dec.f (show ¬ (true = false) by decide) ?_ | with_reducible refine Dec.f (show ¬ (false = true) by decide) ?_ | refine Dec.t (by omega) ?_ | refine Dec.f (by omega) ?_ | refine Dec.split (fun _ => ?_) (fun _ => ?_) | refine Wr.id (by omega) ?_ | refine Chk.mk (by first | omega | exact rfl | (simp only [List.length_map]; omega) | (simp [room]; done) | (simp [room]; omega) | (simp [dropL, room]; done) | (simp [dropL, room]; omega)) ?_ | refine Nam.mk (List.length_map _) ?_ | refine Prep.skip ?_ | refine Eith.l ?_ | refine chk_t (x := D.flat _) (by assumption) ?_ | refine br_mk (fun _ => ?_) (fun _ => ?_) | refine ACall.of (c5) ?_ | refine APCall.of (c5) ?_ | fail)
      all_goals (conv => whnf)
      all_goals first | exact ⟨DLe.refl _, pkt0, DLe.refl _, rfl⟩
end Go.PM

