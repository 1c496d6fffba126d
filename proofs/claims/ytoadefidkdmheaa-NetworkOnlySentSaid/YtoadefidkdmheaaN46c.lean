/- Package network and its reference: Send, Deliver, Lose, Repeat and what they lean on. -/
import Derived.Test.YtoadefidkdmheaaN46b
namespace Go.PM
open Go.Proofs
set_option maxRecDepth 10000
set_option maxHeartbeats 4000000

def Pkt.zero : Pkt := ⟨0, 0, []⟩
def Net.zero : Net := ⟨[], []⟩
theorem pkt0 : DLe (.agg [I 0, I 0, .sl 0 true []]) Pkt.zero.d := DLe.agg ⟨DLe.refl _, DLe.refl _, DLe.nil _ _ _, rfl⟩
theorem net0 : DLe (.agg [.sl 0 true [], .sl 0 true []]) Net.zero.d := DLe.agg ⟨DLe.nil _ _ _, DLe.nil _ _ _, rfl⟩
theorem zero_ok : Net.zero.ok := by decide
def sendM (n : Net) (p : Pkt) : Net × Int :=
  if n.ok then (if p.ok then (if n.queue.length < 4096 then (⟨n.queue ++ [p], n.apart⟩, 0) else (Net.zero, 2)) else (Net.zero, 460)) else (Net.zero, 460)
def lookM (n : Net) (at_ : Int) : Int := if n.ok then (if 0 ≤ at_ ∧ at_ < n.queue.length then 0 else 1) else 460
def Net.cutAt (n : Net) (i : Nat) : Net := ⟨n.queue.take i ++ n.queue.drop (i + 1), n.apart⟩
theorem clip (l : List Pkt) : CallP Try.prog 44 [.d (SL 3 (l.map Pkt.d))] (retD [.sl 3 true (l.map Pkt.d)]) := by
  refine exPure_sound (E := envOf Try.prog tt Try.f44.ntmps) (envOf_ok ttok mixed) Try.func44 (by rfl) rfl rfl (Nat.le_of_ble_eq_true rfl) ?_
  repeat' ((conv => whnf); first | with_reducible refine Dec.t (show true = true from rfl) ?_ | with_reducible refine Dec.t (show false = false from rfl) ?_ | with_reducible refine Dec.f (show ¬ (true = false) by decide) ?_ | with_reducible refine Dec.f (show ¬ (false = true) by decide) ?_ | refine Dec.t (by omega) ?_ | refine Dec.f (by omega) ?_ | refine Dec.split (fun _ => ?_) (fun _ => ?_) | refine Wr.id (by omega) ?_ | refine Chk.mk (by first | omega | exact rfl | (simp only [List.length_map]; omega) | (simp [room]; done) | (simp [room]; omega) | (simp [dropL, room]; done) | (simp [dropL, room]; omega)) ?_ | refine Nam.mk (List.length_map _) ?_ | refine Prep.skip ?_ | refine Eith.l ?_ | refine chk_t (x := D.flat _) (by assumption) ?_ | refine br_mk (fun _ => ?_) (fun _ => ?_) | fail)
  all_goals (conv => whnf)
  rw [List.take_of_length_le (by simp)]; exact DLe.refl _
theorem net_add (n : Net) (p : Pkt) (hw : Wid n) : CallP Try.prog 29 [.d n.d, .d p.d] (if n.queue.length < 4096 then retD [(⟨n.queue ++ [p], n.apart⟩ : Net).d, I 0] else retD [Net.zero.d, I 2]) := by
  by_cases h : n.queue.length < 4096
  · rw [if_pos h]
    refine exPure_sound (E := envOf Try.prog tt Try.f29.ntmps) (envOf_ok ttok mixed) Try.func29 (by rfl) rfl rfl (Nat.le_of_ble_eq_true rfl) ?_
    repeat' ((conv => whnf); first | with_reducible refine Dec.t (show true = true from rfl) ?_ | with_reducible refine Dec.t (show false = false from rfl) ?_ | with_reducible refine Dec.f (show ¬ (true = false) by decide) ?_ | with_reducible refine Dec.f (show ¬ (false = true) by decide) ?_ | refine Dec.t (by omega) ?_ | refine Dec.f (by omega) ?_ | refine Dec.split (fun _ => ?_) (fun _ => ?_) | refine Wr.id (by omega) ?_ | refine Chk.mk (by first | omega | exact rfl | (simp only [List.length_map]; omega) | (simp [room]; done) | (simp [room]; omega) | (simp [dropL, room]; done) | (simp [dropL, room]; omega)) ?_ | refine Nam.mk (List.length_map _) ?_ | refine Prep.skip ?_ | refine Eith.l ?_ | refine chk_t (x := D.flat _) (by assumption) ?_ | refine br_mk (fun _ => ?_) (fun _ => ?_) | refine ACall.of (clip n.queue) ?_ | refine APCall.of (clip n.queue) ?_ | refine Nam.mk (y := (n.queue ++ [p]).map Pkt.d) (by rw [List.drop_zero, List.take_of_length_le (by simp), List.map_append]; rfl) ?_ | fail)
    all_goals (conv => whnf)
    exact ⟨DLe.refl _, DLe.refl _, rfl⟩
  · rw [if_neg h]
    refine exPure_sound (E := envOf Try.prog tt Try.f29.ntmps) (envOf_ok ttok mixed) Try.func29 (by rfl) rfl rfl (Nat.le_of_ble_eq_true rfl) ?_
    repeat' ((conv => whnf); first | with_reducible refine Dec.t (show true = true from rfl) ?_ | with_reducible refine Dec.t (show false = false from rfl) ?_ | with_reducible refine Dec.f (show ¬ (true = false) by decide) ?_ | with_reducible refine Dec.f (show ¬ (false = true) by decide) ?_ | refine Dec.t (by omega) ?_ | refine Dec.f (by omega) ?_ | refine Dec.split (fun _ => ?_) (fun _ => ?_) | refine Wr.id (by omega) ?_ | refine Chk.mk (by first | omega | exact rfl | (simp only [List.length_map]; omega) | (simp [room]; done) | (simp [room]; omega) | (simp [dropL, room]; done) | (simp [dropL, room]; omega)) ?_ | refine Nam.mk (List.length_map _) ?_ | refine Prep.skip ?_ | refine Eith.l ?_ | refine chk_t (x := D.flat _) (by assumption) ?_ | refine br_mk (fun _ => ?_) (fun _ => ?_) | refine ACall.of (clip n.queue) ?_ | refine APCall.of (clip n.queue) ?_ | fail)
    all_goals (conv => whnf)
    exact ⟨net0, DLe.refl _, rfl⟩
theorem net_look (n : Net) (a : Int) (hw : Wid n) : CallP Try.prog 34 [.d n.d, .d (I a)] (retD [I (lookM n a)]) := by
  refine exPure_sound (E := envOf Try.prog tt Try.f34.ntmps) (envOf_ok ttok mixed) Try.func34 (by rfl) rfl rfl (Nat.le_of_ble_eq_true rfl) ?_
  have hwq := hw.q
  by_cases h : n.ok
  · have hC := net_Check n hw
    rw [check_ok h] at hC
    have e : lookM n a = if 0 ≤ a ∧ a < n.queue.length then 0 else 1 := if_pos h
    rw [e]
    repeat' ((conv => whnf); first | with_reducible refine Dec.t (show true = true from rfl) ?_ | with_reducible refine Dec.t (show false = false from rfl) ?_ | with_reducible refine Dec.f (show ¬ (true = false) by decide) ?_ | with_reducible refine Dec.f (show ¬ (false = true) by decide) ?_ | refine Dec.t (by omega) ?_ | refine Dec.f (by omega) ?_ | refine Dec.split (fun _ => ?_) (fun _ => ?_) | refine Wr.id (by omega) ?_ | refine Chk.mk (by first | omega | exact rfl | (simp only [List.length_map]; omega) | (simp [room]; done) | (simp [room]; omega) | (simp [dropL, room]; done) | (simp [dropL, room]; omega)) ?_ | refine Nam.mk (List.length_map _) ?_ | refine Prep.skip ?_ | refine Eith.l ?_ | refine chk_t (x := D.flat _) (by assumption) ?_ | refine br_mk (fun _ => ?_) (fun _ => ?_) | refine ACall.of (hC) ?_ | refine APCall.of (hC) ?_ | fail)
    all_goals (conv => whnf)
    all_goals first | (rw [if_pos (by omega)]; exact DLe.refl _) | (rw [if_neg (by omega)]; exact DLe.refl _) | trace_state
  · have hC := net_Check n hw
    rw [check_bad h] at hC
    have e : lookM n a = 460 := if_neg h
    rw [e]
    repeat' ((conv => whnf); first | with_reducible refine Dec.t (show true = true from rfl) ?_ | with_reducible refine Dec.t (show false = false from rfl) ?_ | with_reducible refine Dec.f (show ¬ (true = false) by decide) ?_ | with_reducible refine Dec.f (show ¬ (false = true) by decide) ?_ | refine Dec.t (by omega) ?_ | refine Dec.f (by omega) ?_ | refine Dec.split (fun _ => ?_) (fun _ => ?_) | refine Wr.id (by omega) ?_ | refine Chk.mk (by first | omega | exact rfl | (simp only [List.length_map]; omega) | (simp [room]; done) | (simp [room]; omega) | (simp [dropL, room]; done) | (simp [dropL, room]; omega)) ?_ | refine Nam.mk (List.length_map _) ?_ | refine Prep.skip ?_ | refine Eith.l ?_ | refine chk_t (x := D.flat _) (by assumption) ?_ | refine br_mk (fun _ => ?_) (fun _ => ?_) | refine ACall.of (hC) ?_ | refine APCall.of (hC) ?_ | fail)
    all_goals (conv => whnf)
    all_goals first | exact DLe.refl _ | trace_state
theorem ref46_asked (n : Net) (a : Int) (hw : Wid n) : CallP Try.prog 42 [.d n.d, .d (I a)] (retD [I (lookM n a)]) := by
  refine exPure_sound (E := envOf Try.prog tt Try.f42.ntmps) (envOf_ok ttok mixed) Try.func42 (by rfl) rfl rfl (Nat.le_of_ble_eq_true rfl) ?_
  have hwq := hw.q
  by_cases h : n.ok
  · have hC := ref46_Check n hw
    rw [check_ok h] at hC
    have e : lookM n a = if 0 ≤ a ∧ a < n.queue.length then 0 else 1 := if_pos h
    rw [e]
    repeat' ((conv => whnf); first | with_reducible refine Dec.t (show true = true from rfl) ?_ | with_reducible refine Dec.t (show false = false from rfl) ?_ | with_reducible refine Dec.f (show ¬ (true = false) by decide) ?_ | with_reducible refine Dec.f (show ¬ (false = true) by decide) ?_ | refine Dec.t (by omega) ?_ | refine Dec.f (by omega) ?_ | refine Dec.split (fun _ => ?_) (fun _ => ?_) | refine Wr.id (by omega) ?_ | refine Chk.mk (by first | omega | exact rfl | (simp only [List.length_map]; omega) | (simp [room]; done) | (simp [room]; omega) | (simp [dropL, room]; done) | (simp [dropL, room]; omega)) ?_ | refine Nam.mk (List.length_map _) ?_ | refine Prep.skip ?_ | refine Eith.l ?_ | refine chk_t (x := D.flat _) (by assumption) ?_ | refine br_mk (fun _ => ?_) (fun _ => ?_) | refine ACall.of (hC) ?_ | refine APCall.of (hC) ?_ | fail)
    all_goals (conv => whnf)
    all_goals first | (rw [if_pos (by omega)]; exact DLe.refl _) | (rw [if_neg (by omega)]; exact DLe.refl _) | trace_state
  · have hC := ref46_Check n hw
    rw [check_bad h] at hC
    have e : lookM n a = 460 := if_neg h
    rw [e]
    repeat' ((conv => whnf); first | with_reducible refine Dec.t (show true = true from rfl) ?_ | with_reducible refine Dec.t (show false = false from rfl) ?_ | with_reducible refine Dec.f (show ¬ (true = false) by decide) ?_ | with_reducible refine Dec.f (show ¬ (false = true) by decide) ?_ | refine Dec.t (by omega) ?_ | refine Dec.f (by omega) ?_ | refine Dec.split (fun _ => ?_) (fun _ => ?_) | refine Wr.id (by omega) ?_ | refine Chk.mk (by first | omega | exact rfl | (simp only [List.length_map]; omega) | (simp [room]; done) | (simp [room]; omega) | (simp [dropL, room]; done) | (simp [dropL, room]; omega)) ?_ | refine Nam.mk (List.length_map _) ?_ | refine Prep.skip ?_ | refine Eith.l ?_ | refine chk_t (x := D.flat _) (by assumption) ?_ | refine br_mk (fun _ => ?_) (fun _ => ?_) | refine ACall.of (hC) ?_ | refine APCall.of (hC) ?_ | fail)
    all_goals (conv => whnf)
    all_goals first | exact DLe.refl _ | trace_state
theorem cut_map (n : Net) (i : Nat) : ((n.queue.map Pkt.d).take ((i : Int)).toNat) ++ ((n.queue.map Pkt.d).drop ((i : Int) + 1).toNat) = (n.cutAt i).queue.map Pkt.d := by
  rw [show ((i : Int)).toNat = i by omega, show ((i : Int) + 1).toNat = i + 1 by omega]
  simp [Net.cutAt, List.map_take, List.map_drop]
theorem net_without (n : Net) (i : Nat) (hw : n.queue.length ≤ 4096) (hi : i < n.queue.length) : CallP Try.prog 37 [.d n.d, .d (I i)] (retD [(n.cutAt i).d]) := by
  have hcm := cut_map n i
  have hl1 : ((n.queue.map Pkt.d).take ((i : Int)).toNat).length ≤ 4096 := by simp; omega
  have hl2 : ((n.queue.map Pkt.d).drop ((i : Int) + 1).toNat).length ≤ 4096 := by simp; omega
  by_cases hd : (n.queue.map Pkt.d).drop ((i : Int) + 1).toNat = []
  · rw [hd, List.append_nil] at hcm
    refine exPure_sound (E := envOf Try.prog tt Try.f37.ntmps) (envOf_ok ttok mixed) Try.func37 (by rfl) rfl rfl (Nat.le_of_ble_eq_true rfl) ?_
    repeat' ((conv => whnf); first | refine Eith.r (Chk.mk (by assumption) ?_) | with_reducible refine Dec.t (show true = true from rfl) ?_ | with_reducible refine Dec.t (show false = false from rfl) ?_ | with_reducible refine Dec.f (show ¬ (true = false) by decide) ?_ | with_reducible refine Dec.f (show ¬ (false = true) by decide) ?_ | refine Dec.t (by omega) ?_ | refine Dec.f (by omega) ?_ | refine Dec.split (fun _ => ?_) (fun _ => ?_) | refine Wr.id (by omega) ?_ | refine Chk.mk (by first | omega | exact rfl | (simp only [List.length_map]; omega) | (simp [room]; done) | (simp [room]; omega) | (simp [dropL, room]; done) | (simp [dropL, room]; omega)) ?_ | refine Nam.mk (List.length_map _) ?_ | refine Prep.skip ?_ | refine Eith.l ?_ | refine chk_t (x := D.flat _) (by assumption) ?_ | refine br_mk (fun _ => ?_) (fun _ => ?_) | fail)
    all_goals (conv => whnf)
    show DLe _ (.agg [SL 3 ((n.cutAt i).queue.map Pkt.d), SL 2 (n.apart.map Pair.d)])
    rw [← hcm]
    exact DLe.agg ⟨DLe.full _ _ _, DLe.refl _, rfl⟩
  · refine exPure_sound (E := envOf Try.prog tt Try.f37.ntmps) (envOf_ok ttok mixed) Try.func37 (by rfl) rfl rfl (Nat.le_of_ble_eq_true rfl) ?_
    repeat' ((conv => whnf); first | with_reducible refine Dec.t (show true = true from rfl) ?_ | with_reducible refine Dec.t (show false = false from rfl) ?_ | with_reducible refine Dec.f (show ¬ (true = false) by decide) ?_ | with_reducible refine Dec.f (show ¬ (false = true) by decide) ?_ | refine Dec.t (by omega) ?_ | refine Dec.f (by omega) ?_ | refine Dec.split (fun _ => ?_) (fun _ => ?_) | refine Wr.id (by omega) ?_ | refine Chk.mk (by first | omega | exact rfl | (simp only [List.length_map]; omega) | (simp [room]; done) | (simp [room]; omega) | (simp [dropL, room]; done) | (simp [dropL, room]; omega)) ?_ | refine Nam.mk (List.length_map _) ?_ | refine Prep.skip ?_ | refine Eith.l ?_ | refine chk_t (x := D.flat _) (by assumption) ?_ | refine br_mk (fun _ => ?_) (fun _ => ?_) | refine Chk.mk ⟨.inr hd, by simp only [room]; omega⟩ ?_ | refine Nam.mk (y := (n.cutAt i).queue.map Pkt.d) (by rw [← hcm]; simp only [List.drop_zero]; exact List.take_of_length_le (by simp only [List.length_append]; omega)) ?_ | fail)
    all_goals (conv => whnf)
    exact DLe.refl _
theorem ref46_without (n : Net) (i : Nat) (hw : n.queue.length ≤ 4096) (hi : i < n.queue.length) : CallP Try.prog 43 [.d n.d, .d (I i)] (retD [(n.cutAt i).d]) := by
  have hcm := cut_map n i
  have hl1 : ((n.queue.map Pkt.d).take ((i : Int)).toNat).length ≤ 4096 := by simp; omega
  have hl2 : ((n.queue.map Pkt.d).drop ((i : Int) + 1).toNat).length ≤ 4096 := by simp; omega
  refine exPure_sound (E := envOf Try.prog tt Try.f43.ntmps) (envOf_ok ttok mixed) Try.func43 (by rfl) rfl rfl (Nat.le_of_ble_eq_true rfl) ?_
  repeat' ((conv => whnf); first | with_reducible refine Dec.t (show true = true from rfl) ?_ | with_reducible refine Dec.t (show false = false from rfl) ?_ | with_reducible refine Dec.f (show ¬ (true = false) by decide) ?_ | with_reducible refine Dec.f (show ¬ (false = true) by decide) ?_ | refine Dec.t (by omega) ?_ | refine Dec.f (by omega) ?_ | refine Dec.split (fun _ => ?_) (fun _ => ?_) | refine Wr.id (by omega) ?_ | refine Chk.mk (by first | omega | exact rfl | (simp only [List.length_map]; omega) | (simp [room]; done) | (simp [room]; omega) | (simp [dropL, room]; done) | (simp [dropL, room]; omega)) ?_ | refine Nam.mk (List.length_map _) ?_ | refine Prep.skip ?_ | refine Eith.l ?_ | refine chk_t (x := D.flat _) (by assumption) ?_ | refine br_mk (fun _ => ?_) (fun _ => ?_) | refine Nam.mk (y := (n.cutAt i).queue.map Pkt.d) (by rw [← hcm]; simp only [List.drop_zero, List.nil_append, dropL, List.append_assoc]; exact List.take_of_length_le (by simp only [List.length_append, List.length_nil]; omega)) ?_ | fail)
  all_goals (conv => whnf)
  exact DLe.refl _
end Go.PM

