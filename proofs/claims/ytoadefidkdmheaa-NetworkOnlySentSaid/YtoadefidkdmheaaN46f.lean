/- Package network and its reference: Repeat, Deliver. -/
import Derived.Test.YtoadefidkdmheaaN46e
namespace Go.PM
open Go.Proofs
set_option maxRecDepth 10000
set_option maxHeartbeats 4000000

def pktAt (n : Net) (a : Int) : Pkt := (n.queue[a.toNat]?).getD Pkt.zero
def repeatM (n : Net) (a : Int) : Net × Int := if lookM n a = 0 then sendM n (pktAt n a) else (Net.zero, lookM n a)
def gotM (n : Net) (a : Int) : Pkt := if lookM n a = 0 then (if linkM (pktAt n a).src (pktAt n a).dst ∈ n.apart then Pkt.zero else pktAt n a) else Pkt.zero
theorem look_at {n : Net} {a : Int} (h : lookM n a = 0) : ∃ p, n.queue[a.toNat]? = some p ∧ pktAt n a = p ∧ p.ok := by
  obtain ⟨h1, h2, h3⟩ := look_ok h
  have hl : a.toNat < n.queue.length := by omega
  refine ⟨_, List.getElem?_eq_getElem hl, ?_, h1.pk _ (List.getElem_mem hl)⟩
  unfold pktAt
  rw [List.getElem?_eq_getElem hl]; rfl
theorem look_ge {n : Net} {a : Int} (h : lookM n a = 0) : 0 ≤ a := (look_ok h).2.1
theorem add_send {n : Net} {p : Pkt} (hn : n.ok) (hp : p.ok) : (if n.queue.length < 4096 then retD [(⟨n.queue ++ [p], n.apart⟩ : Net).d, I 0] else retD [Net.zero.d, I 2]) = retD [(sendM n p).1.d, I (sendM n p).2] := by
  unfold sendM
  rw [if_pos hn, if_pos hp]
  by_cases h : n.queue.length < 4096
  · rw [if_pos h, if_pos h]
  · rw [if_neg h, if_neg h]
theorem net_Repeat (n : Net) (a : Int) (hw : Wid n) : CallP Try.prog 25 [.d n.d, .d (I a)] (retD [(repeatM n a).1.d, I (repeatM n a).2]) := by
  have hL := net_look n a hw
  unfold repeatM
  by_cases h : lookM n a = 0
  · rw [if_pos h]
    rw [h] at hL
    obtain ⟨p, h1, h2, h3⟩ := look_at h
    rw [h2]
    have hA := net_add n p hw
    rw [add_send (look_ok h).1 h3] at hA
    have hg := look_ge h
    have hk : (n.queue.map Pkt.d)[a.toNat]? = some p.d := by rw [List.getElem?_map, h1]; rfl
    refine exPure_sound (E := envOf Try.prog tt Try.f25.ntmps) (envOf_ok ttok mixed) Try.func25 (by rfl) rfl rfl (Nat.le_of_ble_eq_true rfl) ?_
    repeat' ((conv => whnf); first | with_reducible refine Dec.t (show true = true from rfl) ?_ | with_reducible refine Dec.t (show false = false from rfl) ?_ | with_reducible refine Dec.f (show ¬ (true = false) by decide) ?_ | with_reducible refine Dec.f (show ¬ (false = true) by decide) ?_ | refine Dec.t (by omega) ?_ | refine Dec.f (by omega) ?_ | refine Dec.split (fun _ => ?_) (fun _ => ?_) | refine Wr.id (by omega) ?_ | refine Chk.mk (by first | omega | exact rfl | (simp only [List.length_map]; omega) | (simp [room]; done) | (simp [room]; omega) | (simp [dropL, room]; done) | (simp [dropL, room]; omega)) ?_ | refine Nam.mk (List.length_map _) ?_ | refine Prep.skip ?_ | refine Eith.l ?_ | refine chk_t (x := D.flat _) (by assumption) ?_ | refine br_mk (fun _ => ?_) (fun _ => ?_) | refine ACall.of (hL) ?_ | refine APCall.of (hL) ?_ | refine nthK_mk hk ?_ | refine ACall.of (hA) ?_ | refine APCall.of (hA) ?_ | fail)
    all_goals (conv => whnf)
    all_goals first | exact ⟨DLe.refl _, DLe.refl _, rfl⟩ | trace_state
  · rw [if_neg h]
    refine exPure_sound (E := envOf Try.prog tt Try.f25.ntmps) (envOf_ok ttok mixed) Try.func25 (by rfl) rfl rfl (Nat.le_of_ble_eq_true rfl) ?_
    repeat' ((conv => whnf); first | with_reducible refine Dec.t (show true = true from rfl) ?_ | with_reducible refine Dec.t (show false = false from rfl) ?_ | with_reducible refine Dec.f (show ¬ (true = false) by decide) ?_ | with_reducible refine Dec.f (show ¬ (false = true) by decide) ?_ | refine Dec.t (by omega) ?_ | refine Dec.f (by omega) ?_ | refine Dec.split (fun _ => ?_) (fun _ => ?_) | refine Wr.id (by omega) ?_ | refine Chk.mk (by first | omega | exact rfl | (simp only [List.length_map]; omega) | (simp [room]; done) | (simp [room]; omega) | (simp [dropL, room]; done) | (simp [dropL, room]; omega)) ?_ | refine Nam.mk (List.length_map _) ?_ | refine Prep.skip ?_ | refine Eith.l ?_ | refine chk_t (x := D.flat _) (by assumption) ?_ | refine br_mk (fun _ => ?_) (fun _ => ?_) | refine ACall.of (hL) ?_ | refine APCall.of (hL) ?_ | fail)
    all_goals first | (exfalso; rename_i hh; exact h hh) | skip
    all_goals (conv => whnf)
    all_goals first | exact ⟨net0, DLe.refl _, rfl⟩ | trace_state
theorem ref46_Repeat (n : Net) (a : Int) (hw : Wid n) : CallP Try.prog 26 [.d n.d, .d (I a)] (retD [(repeatM n a).1.d, I (repeatM n a).2]) := by
  have hL := ref46_asked n a hw
  unfold repeatM
  by_cases h : lookM n a = 0
  · rw [if_pos h]
    rw [h] at hL
    obtain ⟨p, h1, h2, h3⟩ := look_at h
    rw [h2]
    have hA := ref46_Send n p hw
    have hg := look_ge h
    have hk : (n.queue.map Pkt.d)[a.toNat]? = some p.d := by rw [List.getElem?_map, h1]; rfl
    refine exPure_sound (E := envOf Try.prog tt Try.f26.ntmps) (envOf_ok ttok mixed) Try.func26 (by rfl) rfl rfl (Nat.le_of_ble_eq_true rfl) ?_
    repeat' ((conv => whnf); first | with_reducible refine Dec.t (show true = true from rfl) ?_ | with_reducible refine Dec.t (show false = false from rfl) ?_ | with_reducible refine Dec.f (show ¬ (true = false) by decide) ?_ | with_reducible refine Dec.f (show ¬ (false = true) by decide) ?_ | refine Dec.t (by omega) ?_ | refine Dec.f (by omega) ?_ | refine Dec.split (fun _ => ?_) (fun _ => ?_) | refine Wr.id (by omega) ?_ | refine Chk.mk (by first | omega | exact rfl | (simp only [List.length_map]; omega) | (simp [room]; done) | (simp [room]; omega) | (simp [dropL, room]; done) | (simp [dropL, room]; omega)) ?_ | refine Nam.mk (List.length_map _) ?_ | refine Prep.skip ?_ | refine Eith.l ?_ | refine chk_t (x := D.flat _) (by assumption) ?_ | refine br_mk (fun _ => ?_) (fun _ => ?_) | refine ACall.of (hL) ?_ | refine APCall.of (hL) ?_ | refine nthK_mk hk ?_ | refine ACall.of (hA) ?_ | refine APCall.of (hA) ?_ | fail)
    all_goals (conv => whnf)
    all_goals first | exact ⟨DLe.refl _, DLe.refl _, rfl⟩ | trace_state
  · rw [if_neg h]
    refine exPure_sound (E := envOf Try.prog tt Try.f26.ntmps) (envOf_ok ttok mixed) Try.func26 (by rfl) rfl rfl (Nat.le_of_ble_eq_true rfl) ?_
    repeat' ((conv => whnf); first | with_reducible refine Dec.t (show true = true from rfl) ?_ | with_reducible refine Dec.t (show false = false from rfl) ?_ | with_reducible refine Dec.f (show ¬ (true = false) by decide) ?_ | with_reducible refine Dec.f (show ¬ (false = true) by decide) ?_ | refine Dec.t (by omega) ?_ | refine Dec.f (by omega) ?_ | refine Dec.split (fun _ => ?_) (fun _ => ?_) | refine Wr.id (by omega) ?_ | refine Chk.mk (by first | omega | exact rfl | (simp only [List.length_map]; omega) | (simp [room]; done) | (simp [room]; omega) | (simp [dropL, room]; done) | (simp [dropL, room]; omega)) ?_ | refine Nam.mk (List.length_map _) ?_ | refine Prep.skip ?_ | refine Eith.l ?_ | refine chk_t (x := D.flat _) (by assumption) ?_ | refine br_mk (fun _ => ?_) (fun _ => ?_) | refine ACall.of (hL) ?_ | refine APCall.of (hL) ?_ | fail)
    all_goals first | (exfalso; rename_i hh; exact h hh) | skip
    all_goals (conv => whnf)
    all_goals first | exact ⟨net0, DLe.refl _, rfl⟩ | trace_state
theorem net_Deliver (n : Net) (a : Int) (hw : Wid n) : CallP Try.prog 18 [.d n.d, .d (I a)] (retD [(gotM n a).d, (loseM n a).1.d, I (loseM n a).2]) := by
  have hL := net_look n a hw
  unfold loseM gotM
  by_cases h : lookM n a = 0
  · rw [if_pos h, if_pos h]
    rw [h] at hL
    obtain ⟨p, h1, h2, h3⟩ := look_at h
    rw [h2]
    have hC := net_Contains n.apart (linkM p.src p.dst) hw.a
    have hW := net_without n a.toNat (look_ok h).1.len (by have := look_ok h; omega)
    rw [show ((a.toNat : Nat) : Int) = a by have := look_ge h; omega] at hW
    have hg := look_ge h
    have hk : (n.queue.map Pkt.d)[a.toNat]? = some p.d := by rw [List.getElem?_map, h1]; rfl
    by_cases hc : linkM p.src p.dst ∈ n.apart
    · rw [if_pos hc]
      rw [decide_eq_true hc] at hC
      refine exPure_sound (E := envOf Try.prog tt Try.f18.ntmps) (envOf_ok ttok mixed) Try.func18 (by rfl) rfl rfl (Nat.le_of_ble_eq_true rfl) ?_
      repeat' ((conv => whnf); first | with_reducible refine Dec.t (show true = true from rfl) ?_ | with_reducible refine Dec.t (show false = false from rfl) ?_ | with_reducible refine Dec.f (show ¬ (true = false) by decide) ?_ | with_reducible refine Dec.f (show ¬ (false = true) by decide) ?_ | refine Dec.t (by omega) ?_ | refine Dec.f (by omega) ?_ | refine Dec.split (fun _ => ?_) (fun _ => ?_) | refine Wr.id (by omega) ?_ | refine Chk.mk (by first | omega | exact rfl | (simp only [List.length_map]; omega) | (simp [room]; done) | (simp [room]; omega) | (simp [dropL, room]; done) | (simp [dropL, room]; omega)) ?_ | refine Nam.mk (List.length_map _) ?_ | refine Prep.skip ?_ | refine Eith.l ?_ | refine chk_t (x := D.flat _) (by assumption) ?_ | refine br_mk (fun _ => ?_) (fun _ => ?_) | refine ACall.of (hL) ?_ | refine APCall.of (hL) ?_ | refine nthK_mk hk ?_ | refine ACall.of (net_link p.src p.dst) ?_ | refine APCall.of (net_link p.src p.dst) ?_ | refine ACall.of (hC) ?_ | refine APCall.of (hC) ?_ | refine ACall.of (hW) ?_ | refine APCall.of (hW) ?_ | fail)
      all_goals (conv => whnf)
      all_goals first | exact ⟨pkt0, DLe.refl _, DLe.refl _, rfl⟩ | trace_state
    · rw [if_neg hc]
      rw [decide_eq_false hc] at hC
      refine exPure_sound (E := envOf Try.prog tt Try.f18.ntmps) (envOf_ok ttok mixed) Try.func18 (by rfl) rfl rfl (Nat.le_of_ble_eq_true rfl) ?_
      repeat' ((conv => whnf); first | with_reducible refine Dec.t (show true = true from rfl) ?_ | with_reducible refine Dec.t (show false = false from rfl) ?_ | with_reducible refine Dec.f (show ¬ (true = false) by decide) ?_ | with_reducible refine Dec.f (show ¬ (false = true) by decide) ?_ | refine Dec.t (by omega) ?_ | refine Dec.f (by omega) ?_ | refine Dec.split (fun _ => ?_) (fun _ => ?_) | refine Wr.id (by omega) ?_ | refine Chk.mk (by first | omega | exact rfl | (simp only [List.length_map]; omega) | (simp [room]; done) | (simp [room]; omega) | (simp [dropL, room]; done) | (simp [dropL, room]; omega)) ?_ | refine Nam.mk (List.length_map _) ?_ | refine Prep.skip ?_ | refine Eith.l ?_ | refine chk_t (x := D.flat _) (by assumption) ?_ | refine br_mk (fun _ => ?_) (fun _ => ?_) | refine ACall.of (hL) ?_ | refine APCall.of (hL) ?_ | refine nthK_mk hk ?_ | refine ACall.of (net_link p.src p.dst) ?_ | refine APCall.of (net_link p.src p.dst) ?_ | refine ACall.of (hC) ?_ | refine APCall.of (hC) ?_ | refine ACall.of (hW) ?_ | refine APCall.of (hW) ?_ | fail)
      all_goals (conv => whnf)
      all_goals first | exact ⟨DLe.refl _, DLe.refl _, DLe.refl _, rfl⟩ | trace_state
  · rw [if_neg h, if_neg h]
    refine exPure_sound (E := envOf Try.prog tt Try.f18.ntmps) (envOf_ok ttok mixed) Try.func18 (by rfl) rfl rfl (Nat.le_of_ble_eq_true rfl) ?_
    repeat' ((conv => whnf); first | with_reducible refine Dec.t (show true = true from rfl) ?_ | with_reducible refine Dec.t (show false = false from rfl) ?_ | with_reducible refine Dec.f (show ¬ (true = false) by decide) ?_ | with_reducible refine Dec.f (show ¬ (false = true) by decide) ?_ | refine Dec.t (by omega) ?_ | refine Dec.f (by omega) ?_ | refine Dec.split (fun _ => ?_) (fun _ => ?_) | refine Wr.id (by omega) ?_ | refine Chk.mk (by first | omega | exact rfl | (simp only [List.length_map]; omega) | (simp [room]; done) | (simp [room]; omega) | (simp [dropL, room]; done) | (simp [dropL, room]; omega)) ?_ | refine Nam.mk (List.length_map _) ?_ | refine Prep.skip ?_ | refine Eith.l ?_ | refine chk_t (x := D.flat _) (by assumption) ?_ | refine br_mk (fun _ => ?_) (fun _ => ?_) | refine ACall.of (hL) ?_ | refine APCall.of (hL) ?_ | fail)
    all_goals first | (exfalso; rename_i hh; exact h hh) | skip
    all_goals (conv => whnf)
    all_goals first | exact ⟨pkt0, net0, DLe.refl _, rfl⟩ | trace_state
theorem ref46_Deliver (n : Net) (a : Int) (hw : Wid n) : CallP Try.prog 22 [.d n.d, .d (I a)] (retD [(gotM n a).d, (loseM n a).1.d, I (loseM n a).2]) := by
  have hL := ref46_asked n a hw
  unfold loseM gotM
  by_cases h : lookM n a = 0
  · rw [if_pos h, if_pos h]
    rw [h] at hL
    obtain ⟨p, h1, h2, h3⟩ := look_at h
    rw [h2]
    have hC := ref46_IsCut n p.src p.dst hw
    have hW := ref46_without n a.toNat (look_ok h).1.len (by have := look_ok h; omega)
    rw [show ((a.toNat : Nat) : Int) = a by have := look_ge h; omega] at hW
    have hg := look_ge h
    have hk : (n.queue.map Pkt.d)[a.toNat]? = some p.d := by rw [List.getElem?_map, h1]; rfl
    by_cases hc : linkM p.src p.dst ∈ n.apart
    · rw [if_pos hc]
      rw [decide_eq_true hc] at hC
      refine exPure_sound (E := envOf Try.prog tt Try.f22.ntmps) (envOf_ok ttok mixed) Try.func22 (by rfl) rfl rfl (Nat.le_of_ble_eq_true rfl) ?_
      repeat' ((conv => whnf); first | with_reducible refine Dec.t (show true = true from rfl) ?_ | with_reducible refine Dec.t (show false = false from rfl) ?_ | with_reducible refine Dec.f (show ¬ (true = false) by decide) ?_ | with_reducible refine Dec.f (show ¬ (false = true) by decide) ?_ | refine Dec.t (by omega) ?_ | refine Dec.f (by omega) ?_ | refine Dec.split (fun _ => ?_) (fun _ => ?_) | refine Wr.id (by omega) ?_ | refine Chk.mk (by first | omega | exact rfl | (simp only [List.length_map]; omega) | (simp [room]; done) | (simp [room]; omega) | (simp [dropL, room]; done) | (simp [dropL, room]; omega)) ?_ | refine Nam.mk (List.length_map _) ?_ | refine Prep.skip ?_ | refine Eith.l ?_ | refine chk_t (x := D.flat _) (by assumption) ?_ | refine br_mk (fun _ => ?_) (fun _ => ?_) | refine ACall.of (hL) ?_ | refine APCall.of (hL) ?_ | refine nthK_mk hk ?_ | refine ACall.of (hC) ?_ | refine APCall.of (hC) ?_ | refine ACall.of (hW) ?_ | refine APCall.of (hW) ?_ | fail)
      all_goals (conv => whnf)
      all_goals first | exact ⟨pkt0, DLe.refl _, DLe.refl _, rfl⟩ | trace_state
    · rw [if_neg hc]
      rw [decide_eq_false hc] at hC
      refine exPure_sound (E := envOf Try.prog tt Try.f22.ntmps) (envOf_ok ttok mixed) Try.func22 (by rfl) rfl rfl (Nat.le_of_ble_eq_true rfl) ?_
      repeat' ((conv => whnf); first | with_reducible refine Dec.t (show true = true from rfl) ?_ | with_reducible refine Dec.t (show false = false from rfl) ?_ | with_reducible refine Dec.f (show ¬ (true = false) by decide) ?_ | with_reducible refine Dec.f (show ¬ (false = true) by decide) ?_ | refine Dec.t (by omega) ?_ | refine Dec.f (by omega) ?_ | refine Dec.split (fun _ => ?_) (fun _ => ?_) | refine Wr.id (by omega) ?_ | refine Chk.mk (by first | omega | exact rfl | (simp only [List.length_map]; omega) | (simp [room]; done) | (simp [room]; omega) | (simp [dropL, room]; done) | (simp [dropL, room]; omega)) ?_ | refine Nam.mk (List.length_map _) ?_ | refine Prep.skip ?_ | refine Eith.l ?_ | refine chk_t (x := D.flat _) (by assumption) ?_ | refine br_mk (fun _ => ?_) (fun _ => ?_) | refine ACall.of (hL) ?_ | refine APCall.of (hL) ?_ | refine nthK_mk hk ?_ | refine ACall.of (hC) ?_ | refine APCall.of (hC) ?_ | refine ACall.of (hW) ?_ | refine APCall.of (hW) ?_ | fail)
      all_goals (conv => whnf)
      all_goals first | exact ⟨DLe.refl _, DLe.refl _, DLe.refl _, rfl⟩ | trace_state
  · rw [if_neg h, if_neg h]
    refine exPure_sound (E := envOf Try.prog tt Try.f22.ntmps) (envOf_ok ttok mixed) Try.func22 (by rfl) rfl rfl (Nat.le_of_ble_eq_true rfl) ?_
    repeat' ((conv => whnf); first | with_reducible refine Dec.t (show true = true from rfl) ?_ | with_reducible refine Dec.t (show false = false from rfl) ?_ | with_reducible refine Dec.f (show ¬ (true = false) by decide) ?_ | with_reducible refine Dec.f (show ¬ (false = true) by decide) ?_ | refine Dec.t (by omega) ?_ | refine Dec.f (by omega) ?_ | refine Dec.split (fun _ => ?_) (fun _ => ?_) | refine Wr.id (by omega) ?_ | refine Chk.mk (by first | omega | exact rfl | (simp only [List.length_map]; omega) | (simp [room]; done) | (simp [room]; omega) | (simp [dropL, room]; done) | (simp [dropL, room]; omega)) ?_ | refine Nam.mk (List.length_map _) ?_ | refine Prep.skip ?_ | refine Eith.l ?_ | refine chk_t (x := D.flat _) (by assumption) ?_ | refine br_mk (fun _ => ?_) (fun _ => ?_) | refine ACall.of (hL) ?_ | refine APCall.of (hL) ?_ | fail)
    all_goals first | (exfalso; rename_i hh; exact h hh) | skip
    all_goals (conv => whnf)
    all_goals first | exact ⟨pkt0, net0, DLe.refl _, rfl⟩ | trace_state
end Go.PM

