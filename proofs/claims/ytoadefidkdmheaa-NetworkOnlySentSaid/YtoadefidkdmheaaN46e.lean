/- Package network and its reference: Contains, IsCut, Repeat, Deliver, Same. -/
import Derived.Test.YtoadefidkdmheaaN46d
namespace Go.PM
open Go.Proofs
set_option maxRecDepth 10000
set_option maxHeartbeats 4000000

theorem eqPair (x y : Pair) : (x.a == y.a && x.b == y.b) = decide (x = y) := by
  rw [Bool.eq_iff_iff]
  cases x; cases y
  simp
theorem bytes_map : ∀ l : List UInt8, bytesL (l.map U8) = some l
  | [] => rfl
  | b :: l => by
    show (match bytesL (l.map U8) with
      | some l => some (UInt8.ofNat ((b.toNat : Int)).toNat :: l)
      | none => none) = _
    rw [bytes_map l]
    simp
theorem toList_mk (l : List UInt8) : (⟨l.toArray⟩ : ByteArray).toList = l := by rw [ByteArray.toList_eq]
theorem net_Index (l : List Pair) (q : Pair) (hl : l.length < 2 ^ 63) : CallP Try.prog 47 [.d (SL 2 (l.map Pair.d)), .d q.d] (retD [I (idxM (fun x => q = x) l)]) := by
  refine exPure_sound (E := envOf Try.prog tt Try.f47.ntmps) (envOf_ok ttok mixed) Try.func47 (by rfl) rfl rfl (Nat.le_of_ble_eq_true rfl) ?_
  repeat' ((conv => whnf); first | with_reducible refine Dec.t (show true = true from rfl) ?_ | with_reducible refine Dec.t (show false = false from rfl) ?_ | with_reducible refine Dec.f (show ¬ (true = false) by decide) ?_ | with_reducible refine Dec.f (show ¬ (false = true) by decide) ?_ | refine Dec.t (by omega) ?_ | refine Dec.f (by omega) ?_ | refine Dec.split (fun _ => ?_) (fun _ => ?_) | refine Wr.id (by omega) ?_ | refine Chk.mk (by first | omega | exact rfl | (simp only [List.length_map]; omega) | (simp [room]; done) | (simp [room]; omega) | (simp [dropL, room]; done) | (simp [dropL, room]; omega)) ?_ | refine Nam.mk (List.length_map _) ?_ | refine Prep.skip ?_ | refine Eith.l ?_ | refine chk_t (x := D.flat _) (by assumption) ?_ | refine br_mk (fun _ => ?_) (fun _ => ?_) | fail)
  conv => whnf
  refine ALoop.at (E := envOf Try.prog tt Try.f47.ntmps) (envOf_ok ttok mixed) (X := Nat) (fun i => [(8, .d (I i))]) (fun _ => []) (fun i => i ≤ l.length ∧ idxFrom (fun x => q = x) (l.drop i) i = idxM (fun x => q = x) l) (fun i => l.length - i) 0 (by repeat (first | exact trivial | refine And.intro rfl ?_ | refine And.intro (congrArg (fun n => V.d (I n)) (wrap_nat _ (by omega))) ?_)) rfl ⟨Nat.zero_le _, rfl⟩ ?_
  rintro i ⟨hi, hm⟩
  by_cases hlt : i < l.length
  · obtain ⟨x, hx, hd⟩ := drop_get hlt
    rw [hd, idxFrom] at hm
    repeat' ((conv => whnf); first | with_reducible refine Dec.t (show true = true from rfl) ?_ | with_reducible refine Dec.t (show false = false from rfl) ?_ | with_reducible refine Dec.f (show ¬ (true = false) by decide) ?_ | with_reducible refine Dec.f (show ¬ (false = true) by decide) ?_ | refine Dec.t (by omega) ?_ | refine Dec.f (by omega) ?_ | refine Dec.split (fun _ => ?_) (fun _ => ?_) | refine Wr.id (by omega) ?_ | refine Chk.mk (by first | omega | exact rfl | (simp only [List.length_map]; omega) | (simp [room]; done) | (simp [room]; omega) | (simp [dropL, room]; done) | (simp [dropL, room]; omega)) ?_ | refine Nam.mk (List.length_map _) ?_ | refine Prep.skip ?_ | refine Eith.l ?_ | refine chk_t (x := D.flat _) (by assumption) ?_ | refine br_mk (fun _ => ?_) (fun _ => ?_) | refine nthK_mk (map_get hx) ?_ | refine Nam.dec (eqPair q x) (fun _ => ?_) (fun _ => ?_) | fail)
    all_goals (conv => whnf)
    · rename_i h
      rw [if_pos h] at hm
      rw [← hm]; exact DLe.refl _
    · rename_i h
      rw [if_neg h] at hm
      exact ⟨i + 1, Wm.end (by repeat (first | exact trivial | refine And.intro rfl ?_ | refine And.intro (congrArg (fun n => V.d (I n)) (wrap_nat _ (by omega))) ?_)) rfl rfl rfl, ⟨hlt, hm⟩, by omega⟩
  · have : i = l.length := by omega
    subst this
    rw [List.drop_length] at hm
    rw [← hm]
    repeat' ((conv => whnf); first | with_reducible refine Dec.t (show true = true from rfl) ?_ | with_reducible refine Dec.t (show false = false from rfl) ?_ | with_reducible refine Dec.f (show ¬ (true = false) by decide) ?_ | with_reducible refine Dec.f (show ¬ (false = true) by decide) ?_ | refine Dec.t (by omega) ?_ | refine Dec.f (by omega) ?_ | refine Dec.split (fun _ => ?_) (fun _ => ?_) | refine Wr.id (by omega) ?_ | refine Chk.mk (by first | omega | exact rfl | (simp only [List.length_map]; omega) | (simp [room]; done) | (simp [room]; omega) | (simp [dropL, room]; done) | (simp [dropL, room]; omega)) ?_ | refine Nam.mk (List.length_map _) ?_ | refine Prep.skip ?_ | refine Eith.l ?_ | refine chk_t (x := D.flat _) (by assumption) ?_ | refine br_mk (fun _ => ?_) (fun _ => ?_))
    all_goals (conv => whnf)
    exact DLe.refl _
theorem net_Contains (l : List Pair) (q : Pair) (hl : l.length < 2 ^ 63) : CallP Try.prog 35 [.d (SL 2 (l.map Pair.d)), .d q.d] (retD [.b (decide (q ∈ l))]) := by
  refine exPure_sound (E := envOf Try.prog tt Try.f35.ntmps) (envOf_ok ttok mixed) Try.func35 (by rfl) rfl rfl (Nat.le_of_ble_eq_true rfl) ?_
  have hI := net_Index l q hl
  by_cases h : q ∈ l
  · have h0 := (idxM_nonneg (p := fun x => q = x) l).2 ⟨q, h, rfl⟩
    rw [decide_eq_true h]
    repeat' ((conv => whnf); first | with_reducible refine Dec.t (show true = true from rfl) ?_ | with_reducible refine Dec.t (show false = false from rfl) ?_ | with_reducible refine Dec.f (show ¬ (true = false) by decide) ?_ | with_reducible refine Dec.f (show ¬ (false = true) by decide) ?_ | refine Dec.t (by omega) ?_ | refine Dec.f (by omega) ?_ | refine Dec.split (fun _ => ?_) (fun _ => ?_) | refine Wr.id (by omega) ?_ | refine Chk.mk (by first | omega | exact rfl | (simp only [List.length_map]; omega) | (simp [room]; done) | (simp [room]; omega) | (simp [dropL, room]; done) | (simp [dropL, room]; omega)) ?_ | refine Nam.mk (List.length_map _) ?_ | refine Prep.skip ?_ | refine Eith.l ?_ | refine chk_t (x := D.flat _) (by assumption) ?_ | refine br_mk (fun _ => ?_) (fun _ => ?_) | refine ACall.of (hI) ?_ | refine APCall.of (hI) ?_ | fail)
    all_goals (conv => whnf)
    exact DLe.refl _
  · have h0 : ¬ 0 ≤ idxM (fun x => q = x) l := fun hh => by
      obtain ⟨x, hx, rfl⟩ := (idxM_nonneg (p := fun x => q = x) l).1 hh
      exact h hx
    rw [decide_eq_false h]
    repeat' ((conv => whnf); first | with_reducible refine Dec.t (show true = true from rfl) ?_ | with_reducible refine Dec.t (show false = false from rfl) ?_ | with_reducible refine Dec.f (show ¬ (true = false) by decide) ?_ | with_reducible refine Dec.f (show ¬ (false = true) by decide) ?_ | refine Dec.t (by omega) ?_ | refine Dec.f (by omega) ?_ | refine Dec.split (fun _ => ?_) (fun _ => ?_) | refine Wr.id (by omega) ?_ | refine Chk.mk (by first | omega | exact rfl | (simp only [List.length_map]; omega) | (simp [room]; done) | (simp [room]; omega) | (simp [dropL, room]; done) | (simp [dropL, room]; omega)) ?_ | refine Nam.mk (List.length_map _) ?_ | refine Prep.skip ?_ | refine Eith.l ?_ | refine chk_t (x := D.flat _) (by assumption) ?_ | refine br_mk (fun _ => ?_) (fun _ => ?_) | refine ACall.of (hI) ?_ | refine APCall.of (hI) ?_ | fail)
    all_goals (conv => whnf)
    exact DLe.refl _
theorem ref46_IsCut (n : Net) (a b : Int) (hw : Wid n) : CallP Try.prog 41 [.d n.d, .d (I a), .d (I b)] (retD [.b (decide (linkM a b ∈ n.apart))]) := by
  have hwa := hw.a
  refine exPure_sound (E := envOf Try.prog tt Try.f41.ntmps) (envOf_ok ttok mixed) Try.func41 (by rfl) rfl rfl (Nat.le_of_ble_eq_true rfl) ?_
  repeat' ((conv => whnf); first | with_reducible refine Dec.t (show true = true from rfl) ?_ | with_reducible refine Dec.t (show false = false from rfl) ?_ | with_reducible refine Dec.f (show ¬ (true = false) by decide) ?_ | with_reducible refine Dec.f (show ¬ (false = true) by decide) ?_ | refine Dec.t (by omega) ?_ | refine Dec.f (by omega) ?_ | refine Dec.split (fun _ => ?_) (fun _ => ?_) | refine Wr.id (by omega) ?_ | refine Chk.mk (by first | omega | exact rfl | (simp only [List.length_map]; omega) | (simp [room]; done) | (simp [room]; omega) | (simp [dropL, room]; done) | (simp [dropL, room]; omega)) ?_ | refine Nam.mk (List.length_map _) ?_ | refine Prep.skip ?_ | refine Eith.l ?_ | refine chk_t (x := D.flat _) (by assumption) ?_ | refine br_mk (fun _ => ?_) (fun _ => ?_) | fail)
  conv => whnf
  refine ALoop.at (E := envOf Try.prog tt Try.f41.ntmps) (envOf_ok ttok mixed) (X := Nat) (fun i => [(7, .d (I i))]) (fun _ => []) (fun i => i ≤ n.apart.length ∧ ∀ x ∈ n.apart.take i, ¬ x = linkM a b) (fun i => n.apart.length - i) 0 (by repeat (first | exact trivial | refine And.intro rfl ?_ | refine And.intro (congrArg (fun n => V.d (I n)) (wrap_nat _ (by omega))) ?_)) rfl ⟨Nat.zero_le _, by simp⟩ ?_
  rintro i ⟨hi, hm⟩
  by_cases hlt : i < n.apart.length
  · obtain ⟨x, hx, _⟩ := drop_get hlt
    have hxm := List.mem_of_getElem? hx
    obtain ⟨x1, x2⟩ := x
    repeat' ((conv => whnf); first | with_reducible refine Dec.t (show true = true from rfl) ?_ | with_reducible refine Dec.t (show false = false from rfl) ?_ | with_reducible refine Dec.f (show ¬ (true = false) by decide) ?_ | with_reducible refine Dec.f (show ¬ (false = true) by decide) ?_ | refine Dec.t (by omega) ?_ | refine Dec.f (by omega) ?_ | refine Dec.split (fun _ => ?_) (fun _ => ?_) | refine Wr.id (by omega) ?_ | refine Chk.mk (by first | omega | exact rfl | (simp only [List.length_map]; omega) | (simp [room]; done) | (simp [room]; omega) | (simp [dropL, room]; done) | (simp [dropL, room]; omega)) ?_ | refine Nam.mk (List.length_map _) ?_ | refine Prep.skip ?_ | refine Eith.l ?_ | refine chk_t (x := D.flat _) (by assumption) ?_ | refine br_mk (fun _ => ?_) (fun _ => ?_) | refine nthK_mk (map_get hx) ?_ | fail)
    all_goals (conv => whnf)
    all_goals first
      | (have e : (⟨x1, x2⟩ : Pair) = linkM a b := by unfold linkM; simp only [Pair.mk.injEq]; exact ⟨by assumption, by assumption⟩
         rw [decide_eq_true (by rw [← e]; exact hxm)]; exact DLe.refl _)
      | (have e : ¬ (⟨x1, x2⟩ : Pair) = linkM a b := by unfold linkM; simp only [Pair.mk.injEq]; intro hh; first | (rename_i h; exact h hh.2) | (rename_i h; exact h hh.1)
         exact ⟨i + 1, Wm.end (by repeat (first | exact trivial | refine And.intro rfl ?_ | refine And.intro (congrArg (fun n => V.d (I n)) (wrap_nat _ (by omega))) ?_)) rfl rfl rfl, ⟨hlt, snoc_all hx e hm⟩, by omega⟩)
      | trace_state
  · have : i = n.apart.length := by omega
    subst this
    rw [List.take_length] at hm
    rw [decide_eq_false (fun h => hm _ h rfl)]
    repeat' ((conv => whnf); first | with_reducible refine Dec.t (show true = true from rfl) ?_ | with_reducible refine Dec.t (show false = false from rfl) ?_ | with_reducible refine Dec.f (show ¬ (true = false) by decide) ?_ | with_reducible refine Dec.f (show ¬ (false = true) by decide) ?_ | refine Dec.t (by omega) ?_ | refine Dec.f (by omega) ?_ | refine Dec.split (fun _ => ?_) (fun _ => ?_) | refine Wr.id (by omega) ?_ | refine Chk.mk (by first | omega | exact rfl | (simp only [List.length_map]; omega) | (simp [room]; done) | (simp [room]; omega) | (simp [dropL, room]; done) | (simp [dropL, room]; omega)) ?_ | refine Nam.mk (List.length_map _) ?_ | refine Prep.skip ?_ | refine Eith.l ?_ | refine chk_t (x := D.flat _) (by assumption) ?_ | refine br_mk (fun _ => ?_) (fun _ => ?_) | fail)
    all_goals (conv => whnf)
    exact DLe.refl _
theorem ref46_SamePacket (p q : Pkt) : CallP Try.prog 19 [.d p.d, .d q.d] (retD [.b (decide (p = q))]) := by
  obtain ⟨a, b, c⟩ := p
  obtain ⟨x, y, z⟩ := q
  refine exPure_sound (E := envOf Try.prog tt Try.f19.ntmps) (envOf_ok ttok mixed) Try.func19 (by rfl) rfl rfl (Nat.le_of_ble_eq_true rfl) ?_
  repeat' ((conv => whnf); first | with_reducible refine Dec.t (show true = true from rfl) ?_ | with_reducible refine Dec.t (show false = false from rfl) ?_ | with_reducible refine Dec.f (show ¬ (true = false) by decide) ?_ | with_reducible refine Dec.f (show ¬ (false = true) by decide) ?_ | refine Dec.t (by omega) ?_ | refine Dec.f (by omega) ?_ | refine Dec.split (fun _ => ?_) (fun _ => ?_) | refine Wr.id (by omega) ?_ | refine Chk.mk (by first | omega | exact rfl | (simp only [List.length_map]; omega) | (simp [room]; done) | (simp [room]; omega) | (simp [dropL, room]; done) | (simp [dropL, room]; omega)) ?_ | refine Nam.mk (List.length_map _) ?_ | refine Prep.skip ?_ | refine Eith.l ?_ | refine chk_t (x := D.flat _) (by assumption) ?_ | refine br_mk (fun _ => ?_) (fun _ => ?_) | refine Nam.mk (bytes_map _) ?_ | fail)
  all_goals (conv => whnf)
  all_goals simp only [toList_mk] at *
  all_goals first
    | (rw [decide_eq_true (by simp only [Pkt.mk.injEq]; exact ⟨by assumption, by assumption, by assumption⟩)]; exact DLe.refl _)
    | (rw [decide_eq_false (by simp only [Pkt.mk.injEq]; intro hh; first | (rename_i h; exact h hh.2.2) | (rename_i h; exact h hh.2.1) | (rename_i h; exact h hh.1))]; exact DLe.refl _)
    | trace_state
theorem ref46_Few (n : Net) (hw : Wid n) : CallP Try.prog 10 [.d n.d] (retD [.b (decide (n.queue.length ≤ 40 ∧ n.apart.length ≤ 40))]) := by
  have hwq := hw.q
  have hwa := hw.a
  refine exPure_sound (E := envOf Try.prog tt Try.f10.ntmps) (envOf_ok ttok mixed) Try.func10 (by rfl) rfl rfl (Nat.le_of_ble_eq_true rfl) ?_
  repeat' ((conv => whnf); first | with_reducible refine Dec.t (show true = true from rfl) ?_ | with_reducible refine Dec.t (show false = false from rfl) ?_ | with_reducible refine Dec.f (show ¬ (true = false) by decide) ?_ | with_reducible refine Dec.f (show ¬ (false = true) by decide) ?_ | refine Dec.t (by omega) ?_ | refine Dec.f (by omega) ?_ | refine Dec.split (fun _ => ?_) (fun _ => ?_) | refine Wr.id (by omega) ?_ | refine Chk.mk (by first | omega | exact rfl | (simp only [List.length_map]; omega) | (simp [room]; done) | (simp [room]; omega) | (simp [dropL, room]; done) | (simp [dropL, room]; omega)) ?_ | refine Nam.mk (List.length_map _) ?_ | refine Prep.skip ?_ | refine Eith.l ?_ | refine chk_t (x := D.flat _) (by assumption) ?_ | refine br_mk (fun _ => ?_) (fun _ => ?_) | fail)
  all_goals (conv => whnf)
  all_goals first | (rw [decide_eq_true (by omega)]; exact DLe.refl _) | (rw [decide_eq_false (by omega)]; exact DLe.refl _)
theorem ref46_Same (m n : Net) (hm : Wid m) : CallP Try.prog 15 [.d m.d, .d n.d] (retD [.b (decide (m.queue = n.queue ∧ m.apart = n.apart))]) := by
  have hwq := hm.q
  have hwa := hm.a
  refine exPure_sound (E := envOf Try.prog tt Try.f15.ntmps) (envOf_ok ttok mixed) Try.func15 (by rfl) rfl rfl (Nat.le_of_ble_eq_true rfl) ?_
  by_cases he : m.queue.length = n.queue.length
  · by_cases hf : m.apart.length = n.apart.length
    · repeat' ((conv => whnf); first | with_reducible refine Dec.t (show true = true from rfl) ?_ | with_reducible refine Dec.t (show false = false from rfl) ?_ | with_reducible refine Dec.f (show ¬ (true = false) by decide) ?_ | with_reducible refine Dec.f (show ¬ (false = true) by decide) ?_ | refine Dec.t (by omega) ?_ | refine Dec.f (by omega) ?_ | refine Dec.split (fun _ => ?_) (fun _ => ?_) | refine Wr.id (by omega) ?_ | refine Chk.mk (by first | omega | exact rfl | (simp only [List.length_map]; omega) | (simp [room]; done) | (simp [room]; omega) | (simp [dropL, room]; done) | (simp [dropL, room]; omega)) ?_ | refine Nam.mk (List.length_map _) ?_ | refine Prep.skip ?_ | refine Eith.l ?_ | refine chk_t (x := D.flat _) (by assumption) ?_ | refine br_mk (fun _ => ?_) (fun _ => ?_) | fail)
      all_goals (conv => whnf)
      refine ALoop.at (E := envOf Try.prog tt Try.f15.ntmps) (envOf_ok ttok mixed) (X := Nat) (fun i => [(5, .d (I i))]) (fun _ => []) (fun i => i ≤ m.queue.length ∧ m.queue.take i = n.queue.take i) (fun i => m.queue.length - i) 0 (by repeat (first | exact trivial | refine And.intro rfl ?_ | refine And.intro (congrArg (fun n => V.d (I n)) (wrap_nat _ (by omega))) ?_)) rfl ⟨Nat.zero_le _, rfl⟩ ?_
      rintro i ⟨hi, hm1⟩
      by_cases hlt : i < m.queue.length
      · obtain ⟨x, hx, _⟩ := drop_get hlt
        obtain ⟨y, hy, _⟩ := drop_get (l := n.queue) (i := i) (by omega)
        repeat' ((conv => whnf); first | with_reducible refine Dec.t (show true = true from rfl) ?_ | with_reducible refine Dec.t (show false = false from rfl) ?_ | with_reducible refine Dec.f (show ¬ (true = false) by decide) ?_ | with_reducible refine Dec.f (show ¬ (false = true) by decide) ?_ | refine Dec.t (by omega) ?_ | refine Dec.f (by omega) ?_ | refine Dec.split (fun _ => ?_) (fun _ => ?_) | refine Wr.id (by omega) ?_ | refine Chk.mk (by first | omega | exact rfl | (simp only [List.length_map]; omega) | (simp [room]; done) | (simp [room]; omega) | (simp [dropL, room]; done) | (simp [dropL, room]; omega)) ?_ | refine Nam.mk (List.length_map _) ?_ | refine Prep.skip ?_ | refine Eith.l ?_ | refine chk_t (x := D.flat _) (by assumption) ?_ | refine br_mk (fun _ => ?_) (fun _ => ?_) | refine nthK_mk (map_get hx) ?_ | refine nthK_mk (map_get hy) ?_ | refine ACall.ofB (ref46_SamePacket x y) (fun _ => ?_) (fun _ => ?_) | refine APCall.ofB (ref46_SamePacket x y) (fun _ => ?_) (fun _ => ?_) | fail)
        all_goals (conv => whnf)
        all_goals try simp only [decide_eq_true_eq, decide_eq_false_iff_not] at *
        · rename_i h
          subst h
          refine ⟨i + 1, Wm.end (by repeat (first | exact trivial | refine And.intro rfl ?_ | refine And.intro (congrArg (fun n => V.d (I n)) (wrap_nat _ (by omega))) ?_)) rfl rfl rfl, ⟨hlt, ?_⟩, by omega⟩
          rw [List.take_add_one, List.take_add_one, hm1, hx, hy]
        · rename_i h
          rw [decide_eq_false (fun hh => h (by rw [hh.1] at hx; rw [hx] at hy; exact Option.some.inj hy))]; exact DLe.refl _
      · have : i = m.queue.length := by omega
        subst this
        rw [List.take_length, he, List.take_length] at hm1
        clear hlt hi
        repeat' ((conv => whnf); first | with_reducible refine Dec.t (show true = true from rfl) ?_ | with_reducible refine Dec.t (show false = false from rfl) ?_ | with_reducible refine Dec.f (show ¬ (true = false) by decide) ?_ | with_reducible refine Dec.f (show ¬ (false = true) by decide) ?_ | refine Dec.t (by omega) ?_ | refine Dec.f (by omega) ?_ | refine Dec.split (fun _ => ?_) (fun _ => ?_) | refine Wr.id (by omega) ?_ | refine Chk.mk (by first | omega | exact rfl | (simp only [List.length_map]; omega) | (simp [room]; done) | (simp [room]; omega) | (simp [dropL, room]; done) | (simp [dropL, room]; omega)) ?_ | refine Nam.mk (List.length_map _) ?_ | refine Prep.skip ?_ | refine Eith.l ?_ | refine chk_t (x := D.flat _) (by assumption) ?_ | refine br_mk (fun _ => ?_) (fun _ => ?_) | fail)
        all_goals (conv => whnf)
        refine ALoop.at (E := envOf Try.prog tt Try.f15.ntmps) (envOf_ok ttok mixed) (X := Nat) (fun i => [(6, .d (I i))]) (fun _ => []) (fun i => i ≤ m.apart.length ∧ m.apart.take i = n.apart.take i) (fun i => m.apart.length - i) 0 (by repeat (first | exact trivial | refine And.intro rfl ?_ | refine And.intro (congrArg (fun n => V.d (I n)) (wrap_nat _ (by omega))) ?_)) rfl ⟨Nat.zero_le _, rfl⟩ ?_
        rintro i ⟨hi, hm2⟩
        by_cases hlt : i < m.apart.length
        · obtain ⟨x, hx, _⟩ := drop_get hlt
          obtain ⟨y, hy, _⟩ := drop_get (l := n.apart) (i := i) (by omega)
          repeat' ((conv => whnf); first | with_reducible refine Dec.t (show true = true from rfl) ?_ | with_reducible refine Dec.t (show false = false from rfl) ?_ | with_reducible refine Dec.f (show ¬ (true = false) by decide) ?_ | with_reducible refine Dec.f (show ¬ (false = true) by decide) ?_ | refine Dec.t (by omega) ?_ | refine Dec.f (by omega) ?_ | refine Dec.split (fun _ => ?_) (fun _ => ?_) | refine Wr.id (by omega) ?_ | refine Chk.mk (by first | omega | exact rfl | (simp only [List.length_map]; omega) | (simp [room]; done) | (simp [room]; omega) | (simp [dropL, room]; done) | (simp [dropL, room]; omega)) ?_ | refine Nam.mk (List.length_map _) ?_ | refine Prep.skip ?_ | refine Eith.l ?_ | refine chk_t (x := D.flat _) (by assumption) ?_ | refine br_mk (fun _ => ?_) (fun _ => ?_) | refine nthK_mk (map_get hx) ?_ | refine nthK_mk (map_get hy) ?_ | refine Nam.dec (eqPair x y) (fun _ => ?_) (fun _ => ?_) | fail)
          all_goals (conv => whnf)
          all_goals first
            | (have h : x = y := by assumption
               subst h
               refine ⟨i + 1, Wm.end (by repeat (first | exact trivial | refine And.intro rfl ?_ | refine And.intro (congrArg (fun n => V.d (I n)) (wrap_nat _ (by omega))) ?_)) rfl rfl rfl, ⟨hlt, ?_⟩, by omega⟩
               rw [List.take_add_one, List.take_add_one, hm2, hx, hy])
            | (have h : ¬ x = y := by assumption
               rw [decide_eq_false (fun hh => h (by rw [hh.2] at hx; rw [hx] at hy; exact Option.some.inj hy))]; exact DLe.refl _)
            | trace_state
        · have : i = m.apart.length := by omega
          subst this
          rw [List.take_length, hf, List.take_length] at hm2
          repeat' ((conv => whnf); first | with_reducible refine Dec.t (show true = true from rfl) ?_ | with_reducible refine Dec.t (show false = false from rfl) ?_ | with_reducible refine Dec.f (show ¬ (true = false) by decide) ?_ | with_reducible refine Dec.f (show ¬ (false = true) by decide) ?_ | refine Dec.t (by omega) ?_ | refine Dec.f (by omega) ?_ | refine Dec.split (fun _ => ?_) (fun _ => ?_) | refine Wr.id (by omega) ?_ | refine Chk.mk (by first | omega | exact rfl | (simp only [List.length_map]; omega) | (simp [room]; done) | (simp [room]; omega) | (simp [dropL, room]; done) | (simp [dropL, room]; omega)) ?_ | refine Nam.mk (List.length_map _) ?_ | refine Prep.skip ?_ | refine Eith.l ?_ | refine chk_t (x := D.flat _) (by assumption) ?_ | refine br_mk (fun _ => ?_) (fun _ => ?_) | fail)
          all_goals (conv => whnf)
          rw [decide_eq_true ⟨hm1, hm2⟩]; exact DLe.refl _
    · repeat' ((conv => whnf); first | with_reducible refine Dec.t (show true = true from rfl) ?_ | with_reducible refine Dec.t (show false = false from rfl) ?_ | with_reducible refine Dec.f (show ¬ (true = false) by decide) ?_ | with_reducible refine Dec.f (show ¬ (false = true) by decide) ?_ | refine Dec.t (by omega) ?_ | refine Dec.f (by omega) ?_ | refine Dec.split (fun _ => ?_) (fun _ => ?_) | refine Wr.id (by omega) ?_ | refine Chk.mk (by first | omega | exact rfl | (simp only [List.length_map]; omega) | (simp [room]; done) | (simp [room]; omega) | (simp [dropL, room]; done) | (simp [dropL, room]; omega)) ?_ | refine Nam.mk (List.length_map _) ?_ | refine Prep.skip ?_ | refine Eith.l ?_ | refine chk_t (x := D.flat _) (by assumption) ?_ | refine br_mk (fun _ => ?_) (fun _ => ?_) | fail)
      all_goals (conv => whnf)
      rw [decide_eq_false (fun h => hf (by rw [h.2]))]; exact DLe.refl _
  · repeat' ((conv => whnf); first | with_reducible refine Dec.t (show true = true from rfl) ?_ | with_reducible refine Dec.t (show false = false from rfl) ?_ | with_reducible refine Dec.f (show ¬ (true = false) by decide) ?_ | with_reducible refine Dec.f (show ¬ (false = true) by decide) ?_ | refine Dec.t (by omega) ?_ | refine Dec.f (by omega) ?_ | refine Dec.split (fun _ => ?_) (fun _ => ?_) | refine Wr.id (by omega) ?_ | refine Chk.mk (by first | omega | exact rfl | (simp only [List.length_map]; omega) | (simp [room]; done) | (simp [room]; omega) | (simp [dropL, room]; done) | (simp [dropL, room]; omega)) ?_ | refine Nam.mk (List.length_map _) ?_ | refine Prep.skip ?_ | refine Eith.l ?_ | refine chk_t (x := D.flat _) (by assumption) ?_ | refine br_mk (fun _ => ?_) (fun _ => ?_) | fail)
    all_goals (conv => whnf)
    rw [decide_eq_false (fun h => he (by rw [h.1]))]; exact DLe.refl _
end Go.PM

