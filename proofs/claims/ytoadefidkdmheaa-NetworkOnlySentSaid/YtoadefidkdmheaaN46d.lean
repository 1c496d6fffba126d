/- Package network and its reference: Send, Deliver, Lose, Repeat. -/
import Derived.Test.YtoadefidkdmheaaN46c
namespace Go.PM
open Go.Proofs
set_option maxRecDepth 10000
set_option maxHeartbeats 4000000

theorem send_bad {n : Net} {p : Pkt} (h : ¬ (n.ok ∧ p.ok)) : sendM n p = (Net.zero, 460) := by
  unfold sendM
  by_cases h1 : n.ok
  · rw [if_pos h1, if_neg (fun h2 => h ⟨h1, h2⟩)]
  · rw [if_neg h1]
theorem net_Send (n : Net) (p : Pkt) (hw : Wid n) : CallP Try.prog 11 [.d n.d, .d p.d] (retD [(sendM n p).1.d, I (sendM n p).2]) := by
  have hC := net_Check n hw
  by_cases h : n.ok
  · rw [check_ok h] at hC
    by_cases hp : p.ok
    · have hA := net_add n p hw
      unfold sendM
      rw [if_pos h, if_pos hp]
      by_cases hl : n.queue.length < 4096
      · rw [if_pos hl] at hA ⊢
        refine exPure_sound (E := envOf Try.prog tt Try.f11.ntmps) (envOf_ok ttok mixed) Try.func11 (by rfl) rfl rfl (Nat.le_of_ble_eq_true rfl) ?_
        repeat' ((conv => whnf); first | with_reducible refine Dec.t (show true = true from rfl) ?_ | with_reducible refine Dec.t (show false = false from rfl) ?_ | with_reducible refine Dec.f (show ¬ (true = false) by decide) ?_ | with_reducible refine Dec.f (show ¬ (false = true) by decide) ?_ | refine Dec.t (by omega) ?_ | refine Dec.f (by omega) ?_ | refine Dec.split (fun _ => ?_) (fun _ => ?_) | refine Wr.id (by omega) ?_ | refine Chk.mk (by first | omega | exact rfl | (simp only [List.length_map]; omega) | (simp [room]; done) | (simp [room]; omega) | (simp [dropL, room]; done) | (simp [dropL, room]; omega)) ?_ | refine Nam.mk (List.length_map _) ?_ | refine Prep.skip ?_ | refine Eith.l ?_ | refine chk_t (x := D.flat _) (by assumption) ?_ | refine br_mk (fun _ => ?_) (fun _ => ?_) | refine ACall.of (hC) ?_ | refine APCall.of (hC) ?_ | refine ACall.ofB (net_right p) (fun _ => ?_) (fun h => absurd hp (of_decide_eq_false h)) | refine ACall.of (hA) ?_ | refine APCall.of (hA) ?_ | fail)
        all_goals (conv => whnf)
        all_goals first | exact ⟨DLe.refl _, DLe.refl _, rfl⟩ | trace_state
      · rw [if_neg hl] at hA ⊢
        refine exPure_sound (E := envOf Try.prog tt Try.f11.ntmps) (envOf_ok ttok mixed) Try.func11 (by rfl) rfl rfl (Nat.le_of_ble_eq_true rfl) ?_
        repeat' ((conv => whnf); first | with_reducible refine Dec.t (show true = true from rfl) ?_ | with_reducible refine Dec.t (show false = false from rfl) ?_ | with_reducible refine Dec.f (show ¬ (true = false) by decide) ?_ | with_reducible refine Dec.f (show ¬ (false = true) by decide) ?_ | refine Dec.t (by omega) ?_ | refine Dec.f (by omega) ?_ | refine Dec.split (fun _ => ?_) (fun _ => ?_) | refine Wr.id (by omega) ?_ | refine Chk.mk (by first | omega | exact rfl | (simp only [List.length_map]; omega) | (simp [room]; done) | (simp [room]; omega) | (simp [dropL, room]; done) | (simp [dropL, room]; omega)) ?_ | refine Nam.mk (List.length_map _) ?_ | refine Prep.skip ?_ | refine Eith.l ?_ | refine chk_t (x := D.flat _) (by assumption) ?_ | refine br_mk (fun _ => ?_) (fun _ => ?_) | refine ACall.of (hC) ?_ | refine APCall.of (hC) ?_ | refine ACall.ofB (net_right p) (fun _ => ?_) (fun h => absurd hp (of_decide_eq_false h)) | refine ACall.of (hA) ?_ | refine APCall.of (hA) ?_ | fail)
        all_goals (conv => whnf)
        all_goals first | exact ⟨DLe.refl _, DLe.refl _, rfl⟩ | trace_state
    · rw [send_bad (fun hh => hp hh.2)]
      refine exPure_sound (E := envOf Try.prog tt Try.f11.ntmps) (envOf_ok ttok mixed) Try.func11 (by rfl) rfl rfl (Nat.le_of_ble_eq_true rfl) ?_
      repeat' ((conv => whnf); first | with_reducible refine Dec.t (show true = true from rfl) ?_ | with_reducible refine Dec.t (show false = false from rfl) ?_ | with_reducible refine Dec.f (show ¬ (true = false) by decide) ?_ | with_reducible refine Dec.f (show ¬ (false = true) by decide) ?_ | refine Dec.t (by omega) ?_ | refine Dec.f (by omega) ?_ | refine Dec.split (fun _ => ?_) (fun _ => ?_) | refine Wr.id (by omega) ?_ | refine Chk.mk (by first | omega | exact rfl | (simp only [List.length_map]; omega) | (simp [room]; done) | (simp [room]; omega) | (simp [dropL, room]; done) | (simp [dropL, room]; omega)) ?_ | refine Nam.mk (List.length_map _) ?_ | refine Prep.skip ?_ | refine Eith.l ?_ | refine chk_t (x := D.flat _) (by assumption) ?_ | refine br_mk (fun _ => ?_) (fun _ => ?_) | refine ACall.of (hC) ?_ | refine APCall.of (hC) ?_ | refine ACall.ofB (net_right p) (fun h => absurd (of_decide_eq_true h) hp) (fun _ => ?_) | fail)
      all_goals (conv => whnf)
      all_goals first | exact ⟨net0, DLe.refl _, rfl⟩ | trace_state
  · rw [check_bad h] at hC
    rw [send_bad (fun hh => h hh.1)]
    refine exPure_sound (E := envOf Try.prog tt Try.f11.ntmps) (envOf_ok ttok mixed) Try.func11 (by rfl) rfl rfl (Nat.le_of_ble_eq_true rfl) ?_
    repeat' ((conv => whnf); first | with_reducible refine Dec.t (show true = true from rfl) ?_ | with_reducible refine Dec.t (show false = false from rfl) ?_ | with_reducible refine Dec.f (show ¬ (true = false) by decide) ?_ | with_reducible refine Dec.f (show ¬ (false = true) by decide) ?_ | refine Dec.t (by omega) ?_ | refine Dec.f (by omega) ?_ | refine Dec.split (fun _ => ?_) (fun _ => ?_) | refine Wr.id (by omega) ?_ | refine Chk.mk (by first | omega | exact rfl | (simp only [List.length_map]; omega) | (simp [room]; done) | (simp [room]; omega) | (simp [dropL, room]; done) | (simp [dropL, room]; omega)) ?_ | refine Nam.mk (List.length_map _) ?_ | refine Prep.skip ?_ | refine Eith.l ?_ | refine chk_t (x := D.flat _) (by assumption) ?_ | refine br_mk (fun _ => ?_) (fun _ => ?_) | refine ACall.of (hC) ?_ | refine APCall.of (hC) ?_ | fail)
    all_goals (conv => whnf)
    all_goals first | exact ⟨net0, DLe.refl _, rfl⟩ | trace_state
theorem ref46_Send (n : Net) (p : Pkt) (hw : Wid n) : CallP Try.prog 12 [.d n.d, .d p.d] (retD [(sendM n p).1.d, I (sendM n p).2]) := by
  have hC := ref46_Check n hw
  by_cases h : n.ok
  · rw [check_ok h] at hC
    have h4 := h.len
    by_cases hp : p.ok
    · unfold sendM
      rw [if_pos h, if_pos hp]
      by_cases hl : n.queue.length < 4096
      · rw [if_pos hl]
        refine exPure_sound (E := envOf Try.prog tt Try.f12.ntmps) (envOf_ok ttok mixed) Try.func12 (by rfl) rfl rfl (Nat.le_of_ble_eq_true rfl) ?_
        repeat' ((conv => whnf); first | with_reducible refine Dec.t (show true = true from rfl) ?_ | with_reducible refine Dec.t (show false = false from rfl) ?_ | with_reducible refine Dec.f (show ¬ (true = false) by decide) ?_ | with_reducible refine Dec.f (show ¬ (false = true) by decide) ?_ | refine Dec.t (by omega) ?_ | refine Dec.f (by omega) ?_ | refine Dec.split (fun _ => ?_) (fun _ => ?_) | refine Wr.id (by omega) ?_ | refine Chk.mk (by first | omega | exact rfl | (simp only [List.length_map]; omega) | (simp [room]; done) | (simp [room]; omega) | (simp [dropL, room]; done) | (simp [dropL, room]; omega)) ?_ | refine Nam.mk (List.length_map _) ?_ | refine Prep.skip ?_ | refine Eith.l ?_ | refine chk_t (x := D.flat _) (by assumption) ?_ | refine br_mk (fun _ => ?_) (fun _ => ?_) | refine ACall.of (hC) ?_ | refine APCall.of (hC) ?_ | refine ACall.ofB (ref46_Packet p) (fun _ => ?_) (fun h => absurd hp (of_decide_eq_false h)) | refine Nam.mk (y := (n.queue ++ [p]).map Pkt.d) (by simp only [List.drop_zero, List.nil_append, dropL]; rw [List.take_of_length_le (by simp), List.map_append]; rfl) ?_ | fail)
        all_goals (conv => whnf)
        all_goals first | exact ⟨DLe.refl _, DLe.refl _, rfl⟩ | (exfalso; omega) | trace_state
      · rw [if_neg hl]
        refine exPure_sound (E := envOf Try.prog tt Try.f12.ntmps) (envOf_ok ttok mixed) Try.func12 (by rfl) rfl rfl (Nat.le_of_ble_eq_true rfl) ?_
        repeat' ((conv => whnf); first | with_reducible refine Dec.t (show true = true from rfl) ?_ | with_reducible refine Dec.t (show false = false from rfl) ?_ | with_reducible refine Dec.f (show ¬ (true = false) by decide) ?_ | with_reducible refine Dec.f (show ¬ (false = true) by decide) ?_ | refine Dec.t (by omega) ?_ | refine Dec.f (by omega) ?_ | refine Dec.split (fun _ => ?_) (fun _ => ?_) | refine Wr.id (by omega) ?_ | refine Chk.mk (by first | omega | exact rfl | (simp only [List.length_map]; omega) | (simp [room]; done) | (simp [room]; omega) | (simp [dropL, room]; done) | (simp [dropL, room]; omega)) ?_ | refine Nam.mk (List.length_map _) ?_ | refine Prep.skip ?_ | refine Eith.l ?_ | refine chk_t (x := D.flat _) (by assumption) ?_ | refine br_mk (fun _ => ?_) (fun _ => ?_) | refine ACall.of (hC) ?_ | refine APCall.of (hC) ?_ | refine ACall.ofB (ref46_Packet p) (fun _ => ?_) (fun h => absurd hp (of_decide_eq_false h)) | fail)
        all_goals first | (exfalso; omega) | skip
        all_goals (conv => whnf)
        all_goals first | exact ⟨net0, DLe.refl _, rfl⟩ | trace_state
    · rw [send_bad (fun hh => hp hh.2)]
      refine exPure_sound (E := envOf Try.prog tt Try.f12.ntmps) (envOf_ok ttok mixed) Try.func12 (by rfl) rfl rfl (Nat.le_of_ble_eq_true rfl) ?_
      repeat' ((conv => whnf); first | with_reducible refine Dec.t (show true = true from rfl) ?_ | with_reducible refine Dec.t (show false = false from rfl) ?_ | with_reducible refine Dec.f (show ¬ (true = false) by decide) ?_ | with_reducible refine Dec.f (show ¬ (false = true) by decide) ?_ | refine Dec.t (by omega) ?_ | refine Dec.f (by omega) ?_ | refine Dec.split (fun _ => ?_) (fun _ => ?_) | refine Wr.id (by omega) ?_ | refine Chk.mk (by first | omega | exact rfl | (simp only [List.length_map]; omega) | (simp [room]; done) | (simp [room]; omega) | (simp [dropL, room]; done) | (simp [dropL, room]; omega)) ?_ | refine Nam.mk (List.length_map _) ?_ | refine Prep.skip ?_ | refine Eith.l ?_ | refine chk_t (x := D.flat _) (by assumption) ?_ | refine br_mk (fun _ => ?_) (fun _ => ?_) | refine ACall.of (hC) ?_ | refine APCall.of (hC) ?_ | refine ACall.ofB (ref46_Packet p) (fun h => absurd (of_decide_eq_true h) hp) (fun _ => ?_) | fail)
      all_goals (conv => whnf)
      all_goals first | exact ⟨net0, DLe.refl _, rfl⟩ | trace_state
  · rw [check_bad h] at hC
    rw [send_bad (fun hh => h hh.1)]
    refine exPure_sound (E := envOf Try.prog tt Try.f12.ntmps) (envOf_ok ttok mixed) Try.func12 (by rfl) rfl rfl (Nat.le_of_ble_eq_true rfl) ?_
    repeat' ((conv => whnf); first | with_reducible refine Dec.t (show true = true from rfl) ?_ | with_reducible refine Dec.t (show false = false from rfl) ?_ | with_reducible refine Dec.f (show ¬ (true = false) by decide) ?_ | with_reducible refine Dec.f (show ¬ (false = true) by decide) ?_ | refine Dec.t (by omega) ?_ | refine Dec.f (by omega) ?_ | refine Dec.split (fun _ => ?_) (fun _ => ?_) | refine Wr.id (by omega) ?_ | refine Chk.mk (by first | omega | exact rfl | (simp only [List.length_map]; omega) | (simp [room]; done) | (simp [room]; omega) | (simp [dropL, room]; done) | (simp [dropL, room]; omega)) ?_ | refine Nam.mk (List.length_map _) ?_ | refine Prep.skip ?_ | refine Eith.l ?_ | refine chk_t (x := D.flat _) (by assumption) ?_ | refine br_mk (fun _ => ?_) (fun _ => ?_) | refine ACall.of (hC) ?_ | refine APCall.of (hC) ?_ | fail)
    all_goals (conv => whnf)
    all_goals first | exact ⟨net0, DLe.refl _, rfl⟩ | trace_state
def loseM (n : Net) (a : Int) : Net × Int := if lookM n a = 0 then (n.cutAt a.toNat, 0) else (Net.zero, lookM n a)
theorem look_ok {n : Net} {a : Int} (h : lookM n a = 0) : n.ok ∧ 0 ≤ a ∧ a < n.queue.length := by
  unfold lookM at h
  by_cases h1 : n.ok
  · rw [if_pos h1] at h
    by_cases h2 : 0 ≤ a ∧ a < n.queue.length
    · exact ⟨h1, h2⟩
    · rw [if_neg h2] at h; exact absurd h (by decide)
  · rw [if_neg h1] at h; exact absurd h (by decide)
theorem net_Lose (n : Net) (a : Int) (hw : Wid n) : CallP Try.prog 23 [.d n.d, .d (I a)] (retD [(loseM n a).1.d, I (loseM n a).2]) := by
  have hL := net_look n a hw
  unfold loseM
  by_cases h : lookM n a = 0
  · rw [if_pos h]
    rw [h] at hL
    obtain ⟨h1, h2, h3⟩ := look_ok h
    have hW := net_without n a.toNat h1.len (by omega)
    rw [show ((a.toNat : Nat) : Int) = a by omega] at hW
    refine exPure_sound (E := envOf Try.prog tt Try.f23.ntmps) (envOf_ok ttok mixed) Try.func23 (by rfl) rfl rfl (Nat.le_of_ble_eq_true rfl) ?_
    repeat' ((conv => whnf); first | with_reducible refine Dec.t (show true = true from rfl) ?_ | with_reducible refine Dec.t (show false = false from rfl) ?_ | with_reducible refine Dec.f (show ¬ (true = false) by decide) ?_ | with_reducible refine Dec.f (show ¬ (false = true) by decide) ?_ | refine Dec.t (by omega) ?_ | refine Dec.f (by omega) ?_ | refine Dec.split (fun _ => ?_) (fun _ => ?_) | refine Wr.id (by omega) ?_ | refine Chk.mk (by first | omega | exact rfl | (simp only [List.length_map]; omega) | (simp [room]; done) | (simp [room]; omega) | (simp [dropL, room]; done) | (simp [dropL, room]; omega)) ?_ | refine Nam.mk (List.length_map _) ?_ | refine Prep.skip ?_ | refine Eith.l ?_ | refine chk_t (x := D.flat _) (by assumption) ?_ | refine br_mk (fun _ => ?_) (fun _ => ?_) | refine ACall.of (hL) ?_ | refine APCall.of (hL) ?_ | refine ACall.of (hW) ?_ | refine APCall.of (hW) ?_ | fail)
    all_goals (conv => whnf)
    all_goals first | exact ⟨DLe.refl _, DLe.refl _, rfl⟩ | trace_state
  · rw [if_neg h]
    refine exPure_sound (E := envOf Try.prog tt Try.f23.ntmps) (envOf_ok ttok mixed) Try.func23 (by rfl) rfl rfl (Nat.le_of_ble_eq_true rfl) ?_
    repeat' ((conv => whnf); first | with_reducible refine Dec.t (show true = true from rfl) ?_ | with_reducible refine Dec.t (show false = false from rfl) ?_ | with_reducible refine Dec.f (show ¬ (true = false) by decide) ?_ | with_reducible refine Dec.f (show ¬ (false = true) by decide) ?_ | refine Dec.t (by omega) ?_ | refine Dec.f (by omega) ?_ | refine Dec.split (fun _ => ?_) (fun _ => ?_) | refine Wr.id (by omega) ?_ | refine Chk.mk (by first | omega | exact rfl | (simp only [List.length_map]; omega) | (simp [room]; done) | (simp [room]; omega) | (simp [dropL, room]; done) | (simp [dropL, room]; omega)) ?_ | refine Nam.mk (List.length_map _) ?_ | refine Prep.skip ?_ | refine Eith.l ?_ | refine chk_t (x := D.flat _) (by assumption) ?_ | refine br_mk (fun _ => ?_) (fun _ => ?_) | refine ACall.of (hL) ?_ | refine APCall.of (hL) ?_ | fail)
    all_goals first | (exfalso; rename_i hh; exact h hh) | skip
    all_goals (conv => whnf)
    all_goals first | exact ⟨net0, DLe.refl _, rfl⟩ | trace_state
theorem ref46_Lose (n : Net) (a : Int) (hw : Wid n) : CallP Try.prog 24 [.d n.d, .d (I a)] (retD [(loseM n a).1.d, I (loseM n a).2]) := by
  have hL := ref46_asked n a hw
  unfold loseM
  by_cases h : lookM n a = 0
  · rw [if_pos h]
    rw [h] at hL
    obtain ⟨h1, h2, h3⟩ := look_ok h
    have hW := ref46_without n a.toNat h1.len (by omega)
    rw [show ((a.toNat : Nat) : Int) = a by omega] at hW
    refine exPure_sound (E := envOf Try.prog tt Try.f24.ntmps) (envOf_ok ttok mixed) Try.func24 (by rfl) rfl rfl (Nat.le_of_ble_eq_true rfl) ?_
    repeat' ((conv => whnf); first | with_reducible refine Dec.t (show true = true from rfl) ?_ | with_reducible refine Dec.t (show false = false from rfl) ?_ | with_reducible refine Dec.f (show ¬ (true = false) by decide) ?_ | with_reducible refine Dec.f (show ¬ (false = true) by decide) ?_ | refine Dec.t (by omega) ?_ | refine Dec.f (by omega) ?_ | refine Dec.split (fun _ => ?_) (fun _ => ?_) | refine Wr.id (by omega) ?_ | refine Chk.mk (by first | omega | exact rfl | (simp only [List.length_map]; omega) | (simp [room]; done) | (simp [room]; omega) | (simp [dropL, room]; done) | (simp [dropL, room]; omega)) ?_ | refine Nam.mk (List.length_map _) ?_ | refine Prep.skip ?_ | refine Eith.l ?_ | refine chk_t (x := D.flat _) (by assumption) ?_ | refine br_mk (fun _ => ?_) (fun _ => ?_) | refine ACall.of (hL) ?_ | refine APCall.of (hL) ?_ | refine ACall.of (hW) ?_ | refine APCall.of (hW) ?_ | fail)
    all_goals (conv => whnf)
    all_goals first | exact ⟨DLe.refl _, DLe.refl _, rfl⟩ | trace_state
  · rw [if_neg h]
    refine exPure_sound (E := envOf Try.prog tt Try.f24.ntmps) (envOf_ok ttok mixed) Try.func24 (by rfl) rfl rfl (Nat.le_of_ble_eq_true rfl) ?_
    repeat' ((conv => whnf); first | with_reducible refine Dec.t (show true = true from rfl) ?_ | with_reducible refine Dec.t (show false = false from rfl) ?_ | with_reducible refine Dec.f (show ¬ (true = false) by decide) ?_ | with_reducible refine Dec.f (show ¬ (false = true) by decide) ?_ | refine Dec.t (by omega) ?_ | refine Dec.f (by omega) ?_ | refine Dec.split (fun _ => ?_) (fun _ => ?_) | refine Wr.id (by omega) ?_ | refine Chk.mk (by first | omega | exact rfl | (simp only [List.length_map]; omega) | (simp [room]; done) | (simp [room]; omega) | (simp [dropL, room]; done) | (simp [dropL, room]; omega)) ?_ | refine Nam.mk (List.length_map _) ?_ | refine Prep.skip ?_ | refine Eith.l ?_ | refine chk_t (x := D.flat _) (by assumption) ?_ | refine br_mk (fun _ => ?_) (fun _ => ?_) | refine ACall.of (hL) ?_ | refine APCall.of (hL) ?_ | fail)
    all_goals first | (exfalso; rename_i hh; exact h hh) | skip
    all_goals (conv => whnf)
    all_goals first | exact ⟨net0, DLe.refl _, rfl⟩ | trace_state
end Go.PM

