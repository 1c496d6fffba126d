/- The statements of layer 46: NetworkSpec, NetworkLost, their contracts. -/
import Derived.Test.YtoadefidkdmheaaN46s
namespace Go.PM
open Go.Proofs
set_option maxRecDepth 10000
set_option maxHeartbeats 8000000

structure Fw (n : Net) : Prop where
  q : n.queue.length ≤ 64
  a : n.apart.length ≤ 120
theorem Fw.wid {n : Net} (h : Fw n) : Wid n := ⟨by have := h.q; omega, by have := h.a; omega⟩
theorem fw0 : Fw Net.zero := ⟨by decide, by decide⟩
theorem same_t (m : Net) (h : Wid m) : CallP Try.prog 15 [.d m.d, .d m.d] (retD [.b true]) := by
  have h := ref46_Same m m h
  rwa [decide_eq_true ⟨rfl, rfl⟩] at h
theorem pkt_t (p : Pkt) : CallP Try.prog 19 [.d p.d, .d p.d] (retD [.b true]) := by
  have h := ref46_SamePacket p p
  rwa [decide_eq_true rfl] at h
theorem send_fw {n : Net} (p : Pkt) (h : n.queue.length ≤ 63 ∧ n.apart.length ≤ 120) : Fw (sendM n p).1 := by
  unfold sendM
  repeat' split
  all_goals first | exact fw0 | exact ⟨by simp; omega, h.2⟩
theorem lose_fw {n : Net} (a : Int) (h : Fw n) : Fw (loseM n a).1 := by
  unfold loseM
  split
  · refine ⟨?_, h.a⟩
    have := h.q
    simp only [Net.cutAt, List.length_append, List.length_take, List.length_drop]
    omega
  · exact fw0
theorem repeat_fw {n : Net} (a : Int) (h : n.queue.length ≤ 63 ∧ n.apart.length ≤ 120) : Fw (repeatM n a).1 := by
  unfold repeatM
  split
  · exact send_fw _ h
  · exact fw0
theorem allP_len : allP.length = 120 := by decide +kernel
theorem cut_fw {n : Net} (a b : Int) (on : Bool) (h : Fw n) : Fw (cutM n a b on).1 := by
  unfold cutM
  repeat' split
  · exact ⟨h.q, Nat.le_trans (List.length_filter_le _ _) (Nat.le_of_eq allP_len)⟩
  · exact fw0
  · exact fw0
theorem law46_Spec (n : Net) (p : Pkt) (hw : Wid n) : CallP Try.prog 3 [.d n.d, .d p.d] (retD [.b true]) := by
  by_cases hf : n.queue.length ≤ 40 ∧ n.apart.length ≤ 40
  · have hA := net_Send n p hw
    have hB := ref46_Send n p hw
    have hS := same_t (sendM n p).1 (send_fw p (by omega)).wid
    have hZ := same_t Net.zero wid0
    have hC := net_Check n hw
    have hD := ref46_Check n hw
    refine exPure_sound (E := envOf Try.prog tt Try.f3.ntmps) (envOf_ok ttok mixed) Try.func3 (by rfl) rfl rfl (Nat.le_of_ble_eq_true rfl) ?_
    repeat' ((conv => whnf); first | with_reducible refine Dec.t (show true = true from rfl) ?_ | with_reducible refine Dec.t (show false = false from rfl) ?_ | with_reducible refine Dec.f (show ¬ (true = false) by decide) ?_ | with_reducible refine Dec.f (show ¬ (false = true) by decide) ?_ | refine Dec.t (by omega) ?_ | refine Dec.f (by omega) ?_ | refine Dec.split (fun _ => ?_) (fun _ => ?_) | refine Wr.id (by omega) ?_ | refine Chk.mk (by first | omega | exact rfl | (simp only [List.length_map]; omega) | (simp [room]; done) | (simp [room]; omega) | (simp [dropL, room]; done) | (simp [dropL, room]; omega)) ?_ | refine Nam.mk (List.length_map _) ?_ | refine Prep.skip ?_ | refine Eith.l ?_ | refine chk_t (x := D.flat _) (by assumption) ?_ | refine br_mk (fun _ => ?_) (fun _ => ?_) | refine ACall.of (law46_sane) ?_ | refine APCall.of (law46_sane) ?_ | refine ACall.ofB (ref46_Few n hw) (fun _ => ?_) (fun h => absurd hf (of_decide_eq_false h)) | refine ACall.of (hA) ?_ | refine APCall.of (hA) ?_ | refine ACall.of (hB) ?_ | refine APCall.of (hB) ?_ | refine ACall.of (hC) ?_ | refine APCall.of (hC) ?_ | refine ACall.of (hD) ?_ | refine APCall.of (hD) ?_ | refine ACall.of (net_New) ?_ | refine APCall.of (net_New) ?_ | refine ACall.of (ref46_New) ?_ | refine APCall.of (ref46_New) ?_ | refine ACall.of (hS) ?_ | refine APCall.of (hS) ?_ | refine ACall.of (hZ) ?_ | refine APCall.of (hZ) ?_ | fail)
    all_goals first | (exfalso; rename_i h; exact h rfl) | skip
    all_goals (conv => whnf)
    all_goals first | exact DLe.refl _ | trace_state
  · refine exPure_sound (E := envOf Try.prog tt Try.f3.ntmps) (envOf_ok ttok mixed) Try.func3 (by rfl) rfl rfl (Nat.le_of_ble_eq_true rfl) ?_
    repeat' ((conv => whnf); first | with_reducible refine Dec.t (show true = true from rfl) ?_ | with_reducible refine Dec.t (show false = false from rfl) ?_ | with_reducible refine Dec.f (show ¬ (true = false) by decide) ?_ | with_reducible refine Dec.f (show ¬ (false = true) by decide) ?_ | refine Dec.t (by omega) ?_ | refine Dec.f (by omega) ?_ | refine Dec.split (fun _ => ?_) (fun _ => ?_) | refine Wr.id (by omega) ?_ | refine Chk.mk (by first | omega | exact rfl | (simp only [List.length_map]; omega) | (simp [room]; done) | (simp [room]; omega) | (simp [dropL, room]; done) | (simp [dropL, room]; omega)) ?_ | refine Nam.mk (List.length_map _) ?_ | refine Prep.skip ?_ | refine Eith.l ?_ | refine chk_t (x := D.flat _) (by assumption) ?_ | refine br_mk (fun _ => ?_) (fun _ => ?_) | refine ACall.of (law46_sane) ?_ | refine APCall.of (law46_sane) ?_ | refine ACall.ofB (ref46_Few n hw) (fun h => absurd (of_decide_eq_true h) hf) (fun _ => ?_) | fail)
    all_goals (conv => whnf)
    all_goals exact DLe.refl _
theorem wrap_u64 {n : Int} (h : 0 ≤ n ∧ n < 18446744073709551616) : IntKind.u64.wrap n = n := by
  simp [IntKind.wrap, IntKind.bits, IntKind.signed]
  omega
theorem Wr.u64 {n : Int} {K : Int → Prop} (m : Int) (e : n = m) (h : 0 ≤ m ∧ m < 18446744073709551616) (a : K m) : Wr .u64 n K := .keep (by rw [e, wrap_u64 h]; exact a)
theorem pick {x : Int} (hx : 0 ≤ x) {k : Nat} (hk : 0 < k) : ∃ i : Nat, x.tmod (k : Int) = i ∧ i < k := by
  rw [Int.tmod_eq_emod_of_nonneg hx]
  have h1 := Int.emod_nonneg x (b := (k : Int)) (by omega)
  have h2 := Int.emod_lt_of_pos x (b := (k : Int)) (by omega)
  exact ⟨(x % (k : Int)).toNat, by omega, by omega⟩
theorem look_in {n : Net} (hn : n.ok) {i : Nat} (hi : i < n.queue.length) : lookM n i = 0 := by
  unfold lookM
  rw [if_pos hn, if_pos (by omega)]
theorem cut_ok {n : Net} (hn : n.ok) (i : Nat) : (n.cutAt i).ok :=
  ⟨by have := hn.len; simp only [Net.cutAt, List.length_append, List.length_take, List.length_drop]; omega,
   fun p hp => by
     simp only [Net.cutAt, List.mem_append] at hp
     rcases hp with hp | hp
     · exact hn.pk p (List.mem_of_mem_take hp)
     · exact hn.pk p (List.mem_of_mem_drop hp), hn.pr, hn.ch⟩
theorem send_ok {n : Net} {p : Pkt} (hn : n.ok) (hp : p.ok) (hl : n.queue.length < 4096) : sendM n p = (⟨n.queue ++ [p], n.apart⟩, 0) ∧ (⟨n.queue ++ [p], n.apart⟩ : Net).ok := by
  refine ⟨by unfold sendM; rw [if_pos hn, if_pos hp, if_pos hl], ⟨by simp; omega, fun q hq => ?_, hn.pr, hn.ch⟩⟩
  rcases List.mem_append.1 hq with hq | hq
  · exact hn.pk q hq
  · rw [List.mem_singleton.1 hq]; exact hp
theorem lose_in {n : Net} (hn : n.ok) {i : Nat} (hi : i < n.queue.length) : loseM n i = (n.cutAt i, 0) := by
  unfold loseM
  rw [if_pos (look_in hn hi), Int.toNat_natCast]
theorem law46_Lost (n : Net) (x : Int) (hw : Wid n) (hx : 0 ≤ x) : CallP Try.prog 8 [.d n.d, .d (.i .u64 x)] (retD [.b true]) := by
  have hC := net_Check n hw
  by_cases hf : n.queue.length ≤ 40 ∧ n.apart.length ≤ 40
  · by_cases hn : n.ok
    · rw [check_ok hn] at hC
      by_cases h0 : n.queue.length = 0
      · refine exPure_sound (E := envOf Try.prog tt Try.f8.ntmps) (envOf_ok ttok mixed) Try.func8 (by rfl) rfl rfl (Nat.le_of_ble_eq_true rfl) ?_
        repeat' ((conv => whnf); first | with_reducible refine Dec.t (show true = true from rfl) ?_ | with_reducible refine Dec.t (show false = false from rfl) ?_ | with_reducible refine Dec.f (show ¬ (true = false) by decide) ?_ | with_reducible refine Dec.f (show ¬ (false = true) by decide) ?_ | refine Dec.t (by omega) ?_ | refine Dec.f (by omega) ?_ | refine Dec.split (fun _ => ?_) (fun _ => ?_) | refine Wr.id (by omega) ?_ | refine Chk.mk (by first | omega | exact rfl | (simp only [List.length_map]; omega) | (simp [room]; done) | (simp [room]; omega) | (simp [dropL, room]; done) | (simp [dropL, room]; omega)) ?_ | refine Nam.mk (List.length_map _) ?_ | refine Prep.skip ?_ | refine Eith.l ?_ | refine chk_t (x := D.flat _) (by assumption) ?_ | refine br_mk (fun _ => ?_) (fun _ => ?_) | refine ACall.of (law46_sane) ?_ | refine APCall.of (law46_sane) ?_ | refine ACall.ofB (ref46_Few n hw) (fun _ => ?_) (fun h => absurd hf (of_decide_eq_false h)) | refine ACall.of (hC) ?_ | refine APCall.of (hC) ?_ | fail)
        all_goals first | (exfalso; rename_i h; exact h (by omega)) | skip
        all_goals (conv => whnf)
        all_goals exact DLe.refl _
      · obtain ⟨i, hi, hil⟩ := pick hx (k := n.queue.length) (by omega)
        have hqi := List.getElem?_eq_getElem hil
        generalize n.queue[i] = p at hqi
        have hp : p.ok := hn.pk p (List.mem_of_getElem? hqi)
        have hpa : pktAt n i = p := by unfold pktAt; rw [Int.toNat_natCast, hqi]; rfl
        have hk : (n.queue.map Pkt.d)[((i : Nat) : Int).toNat]? = some p.d := by rw [Int.toNat_natCast, List.getElem?_map, hqi]; rfl
        obtain ⟨s1, s2⟩ := send_ok hn hp (by omega)
        have c1 := net_Deliver n i hw
        have c2 := net_Lose n i hw
        have c3 := net_Repeat n i hw
        rw [lose_in hn hil] at c1 c2
        rw [show repeatM n i = (⟨n.queue ++ [p], n.apart⟩, 0) by unfold repeatM; rw [if_pos (look_in hn hil), hpa, s1]] at c3
        have w3 : Wid (⟨n.queue ++ [p], n.apart⟩ : Net) := ⟨by simp; omega, by simp only; omega⟩
        have c4 := net_Lose ⟨n.queue ++ [p], n.apart⟩ i w3
        rw [lose_in s2 (by simp; omega)] at c4
        have wc : Wid (n.cutAt i) := ⟨by simp only [Net.cutAt, List.length_append, List.length_take, List.length_drop]; omega, by simp only [Net.cutAt]; omega⟩
        have c5 := net_Send (n.cutAt i) p wc
        obtain ⟨t1, t2⟩ := send_ok (cut_ok hn i) hp (by simp only [Net.cutAt, List.length_append, List.length_take, List.length_drop]; omega)
        rw [t1] at c5
        have e : (⟨n.queue ++ [p], n.apart⟩ : Net).cutAt i = ⟨(n.cutAt i).queue ++ [p], (n.cutAt i).apart⟩ := by
          unfold Net.cutAt
          rw [List.take_append_of_le_length (by omega), List.drop_append_of_le_length (by omega), List.append_assoc]
        rw [e] at c4
        have d1 := same_t (n.cutAt i) wc
        have d2 := same_t ⟨(n.cutAt i).queue ++ [p], (n.cutAt i).apart⟩ ⟨by simp only [Net.cutAt, List.length_append, List.length_take, List.length_drop, List.length_singleton]; omega, by simp only [Net.cutAt]; omega⟩
        rw [← hi] at c1 c2 c3 c4 hk
        refine exPure_sound (E := envOf Try.prog tt Try.f8.ntmps) (envOf_ok ttok mixed) Try.func8 (by rfl) rfl rfl (Nat.le_of_ble_eq_true rfl) ?_
        repeat' ((conv => whnf); first | with_reducible refine Dec.t (show true = true from rfl) ?_ | with_reducible refine Dec.t (show false = false from rfl) ?_ | with_reducible refine Dec.f (show ¬ (true = false) by decide) ?_ | with_reducible refine Dec.f (show ¬ (false = true) by decide) ?_ | refine Dec.t (by omega) ?_ | refine Dec.f (by omega) ?_ | refine Dec.split (fun _ => ?_) (fun _ => ?_) | refine Wr.id (by omega) ?_ | refine Chk.mk (by first | omega | exact rfl | (simp only [List.length_map]; omega) | (simp [room]; done) | (simp [room]; omega) | (simp [dropL, room]; done) | (simp [dropL, room]; omega)) ?_ | refine Nam.mk (List.length_map _) ?_ | refine Prep.skip ?_ | refine Eith.l ?_ | refine chk_t (x := D.flat _) (by assumption) ?_ | refine br_mk (fun _ => ?_) (fun _ => ?_) | refine ACall.of (law46_sane) ?_ | refine APCall.of (law46_sane) ?_ | refine ACall.ofB (ref46_Few n hw) (fun _ => ?_) (fun h => absurd hf (of_decide_eq_false h)) | refine ACall.of (hC) ?_ | refine APCall.of (hC) ?_ | refine Wr.u64 _ rfl (by omega) ?_ | refine ACall.of (c1) ?_ | refine APCall.of (c1) ?_ | refine ACall.of (c2) ?_ | refine APCall.of (c2) ?_ | refine ACall.of (c3) ?_ | refine APCall.of (c3) ?_ | refine ACall.of (c4) ?_ | refine APCall.of (c4) ?_ | refine ACall.of (c5) ?_ | refine APCall.of (c5) ?_ | refine nthK_mk hk ?_ | refine ACall.of (d1) ?_ | refine APCall.of (d1) ?_ | refine ACall.of (d2) ?_ | refine APCall.of (d2) ?_ | fail)
        all_goals first | (exfalso; rename_i h; simp at h; done) | skip
        all_goals (conv => whnf)
        all_goals first | exact DLe.refl _ | trace_state
    · rw [check_bad hn] at hC
      refine exPure_sound (E := envOf Try.prog tt Try.f8.ntmps) (envOf_ok ttok mixed) Try.func8 (by rfl) rfl rfl (Nat.le_of_ble_eq_true rfl) ?_
      repeat' ((conv => whnf); first | with_reducible refine Dec.t (show true = true from rfl) ?_ | with_reducible refine Dec.t (show false = false from rfl) ?_ | with_reducible refine Dec.f (show ¬ (true = false) by decide) ?_ | with_reducible refine Dec.f (show ¬ (false = true) by decide) ?_ | refine Dec.t (by omega) ?_ | refine Dec.f (by omega) ?_ | refine Dec.split (fun _ => ?_) (fun _ => ?_) | refine Wr.id (by omega) ?_ | refine Chk.mk (by first | omega | exact rfl | (simp only [List.length_map]; omega) | (simp [room]; done) | (simp [room]; omega) | (simp [dropL, room]; done) | (simp [dropL, room]; omega)) ?_ | refine Nam.mk (List.length_map _) ?_ | refine Prep.skip ?_ | refine Eith.l ?_ | refine chk_t (x := D.flat _) (by assumption) ?_ | refine br_mk (fun _ => ?_) (fun _ => ?_) | refine ACall.of (law46_sane) ?_ | refine APCall.of (law46_sane) ?_ | refine ACall.ofB (ref46_Few n hw) (fun _ => ?_) (fun h => absurd hf (of_decide_eq_false h)) | refine ACall.of (hC) ?_ | refine APCall.of (hC) ?_ | fail)
      all_goals (conv => whnf)
      all_goals exact DLe.refl _
  · refine exPure_sound (E := envOf Try.prog tt Try.f8.ntmps) (envOf_ok ttok mixed) Try.func8 (by rfl) rfl rfl (Nat.le_of_ble_eq_true rfl) ?_
    repeat' ((conv => whnf); first | with_reducible refine Dec.t (show true = true from rfl) ?_ | with_reducible refine Dec.t (show false = false from rfl) ?_ | with_reducible refine Dec.f (show ¬ (true = false) by decide) ?_ | with_reducible refine Dec.f (show ¬ (false = true) by decide) ?_ | refine Dec.t (by omega) ?_ | refine Dec.f (by omega) ?_ | refine Dec.split (fun _ => ?_) (fun _ => ?_) | refine Wr.id (by omega) ?_ | refine Chk.mk (by first | omega | exact rfl | (simp only [List.length_map]; omega) | (simp [room]; done) | (simp [room]; omega) | (simp [dropL, room]; done) | (simp [dropL, room]; omega)) ?_ | refine Nam.mk (List.length_map _) ?_ | refine Prep.skip ?_ | refine Eith.l ?_ | refine chk_t (x := D.flat _) (by assumption) ?_ | refine br_mk (fun _ => ?_) (fun _ => ?_) | refine ACall.of (law46_sane) ?_ | refine APCall.of (law46_sane) ?_ | refine ACall.ofB (ref46_Few n hw) (fun h => absurd (of_decide_eq_true h) hf) (fun _ => ?_) | fail)
    all_goals (conv => whnf)
    all_goals exact DLe.refl _
end Go.PM

