/- Package corrections and its reference: Physical, Few, Same, Effect, Back. -/
import Derived.Test.YtfbngjofngmbdaaC41c
import Derived.Test.YtfbngjofngmbdaaF04f
namespace Go.PM
open Go.Proofs
set_option maxRecDepth 10000
set_option maxHeartbeats 8000000

def phys (k : Key) : Prop := k.kind = 1 ∧ (k.obj = 2 ∨ k.obj = 4) ∨ k.kind = 8
instance (k : Key) : Decidable (phys k) := by unfold phys; infer_instance
theorem corr_Physical (k : Key) : CallP Try.prog 18 [.d k.d] (retD [.b (decide (phys k))]) := by
  obtain ⟨a, b, c⟩ := k
  refine exPure_sound (E := envOf Try.prog tt Try.f18.ntmps) (envOf_ok ttok mixed) Try.func18 (by rfl) rfl rfl (Nat.le_of_ble_eq_true rfl) ?_
  repeat' ((conv => whnf); first | with_reducible refine Dec.t (show true = true from rfl) ?_ | with_reducible refine Dec.t (show false = false from rfl) ?_ | with_reducible refine Dec.f (show ¬ (true = false) by decide) ?_ | with_reducible refine Dec.f (show ¬ (false = true) by decide) ?_ | refine Dec.t (by omega) ?_ | refine Dec.f (by omega) ?_ | refine Dec.split (fun _ => ?_) (fun _ => ?_) | refine Wr.id (by omega) ?_ | refine Chk.mk (by first | omega | exact rfl | (simp only [List.length_map]; omega) | (simp [room]; done) | (simp [room]; omega) | (simp [dropL, room]; done) | (simp [dropL, room]; omega)) ?_ | refine Nam.mk (List.length_map _) ?_ | refine Prep.skip ?_ | refine Eith.l ?_ | refine chk_t (x := D.flat _) (by assumption) ?_ | refine br_mk (fun _ => ?_) (fun _ => ?_) | refine Nam.dec (eqKey ⟨a, b, c⟩ ⟨1, b, 2⟩) (fun _ => ?_) (fun _ => ?_) | refine Nam.dec (eqKey ⟨a, b, c⟩ ⟨1, b, 4⟩) (fun _ => ?_) (fun _ => ?_) | refine Nam.dec (eqKey ⟨a, b, c⟩ ⟨8, b, c⟩) (fun _ => ?_) (fun _ => ?_) | fail)
  all_goals (conv => whnf)
  all_goals try simp only [decide_eq_true_eq, decide_eq_false_iff_not] at *
  all_goals simp only [Key.mk.injEq, true_and, and_true] at *
  all_goals first | (rw [decide_eq_true (by unfold phys; simp only; omega)]; exact DLe.refl _) | (rw [decide_eq_false (by unfold phys; simp only; omega)]; exact DLe.refl _)
theorem ref41_Few (w : CWorld) (cs : List Corr) (hl : w.facts.length < 2 ^ 63) : CallP Try.prog 11 [.d w.d, .d (SL 6 (cs.map Corr.d))] (retD [.b (decide (w.facts.length ≤ 30 ∧ cs.length ≤ 8))]) := by
  refine exPure_sound (E := envOf Try.prog tt Try.f11.ntmps) (envOf_ok ttok mixed) Try.func11 (by rfl) rfl rfl (Nat.le_of_ble_eq_true rfl) ?_
  repeat' ((conv => whnf); first | with_reducible refine Dec.t (show true = true from rfl) ?_ | with_reducible refine Dec.t (show false = false from rfl) ?_ | with_reducible refine Dec.f (show ¬ (true = false) by decide) ?_ | with_reducible refine Dec.f (show ¬ (false = true) by decide) ?_ | refine Dec.t (by omega) ?_ | refine Dec.f (by omega) ?_ | refine Dec.split (fun _ => ?_) (fun _ => ?_) | refine Wr.id (by omega) ?_ | refine Chk.mk (by first | omega | exact rfl | (simp only [List.length_map]; omega) | (simp [room]; done) | (simp [room]; omega) | (simp [dropL, room]; done) | (simp [dropL, room]; omega)) ?_ | refine Nam.mk (List.length_map _) ?_ | refine Prep.skip ?_ | refine Eith.l ?_ | refine chk_t (x := D.flat _) (by assumption) ?_ | refine br_mk (fun _ => ?_) (fun _ => ?_) | refine ACall.ofB (ref04_Few w.facts hl) (fun _ => ?_) (fun _ => ?_) | refine APCall.ofB (ref04_Few w.facts hl) (fun _ => ?_) (fun _ => ?_) | fail)
  all_goals (conv => whnf)
  all_goals try simp only [decide_eq_true_eq, decide_eq_false_iff_not] at *
  all_goals first | (rw [decide_eq_true (by omega)]; exact DLe.refl _) | (rw [decide_eq_false (by omega)]; exact DLe.refl _)
theorem eqCorr (k k' : Corr) : eqD tt 4 57 k.d.cells k'.d.cells = decide (k = k') := by
  rw [show eqD tt 4 57 k.d.cells k'.d.cells = ((k.kind == k'.kind && (k.subj == k'.subj && (k.obj == k'.obj && true))) && (k.value == k'.value && ((k.from_ == k'.from_ && (k.to_ == k'.to_ && true)) && true))) from rfl]
  rw [Bool.eq_iff_iff]
  cases k; cases k'
  simp [and_assoc]

theorem ref41_Same (a b : List (Corr)) (hl : a.length < 2 ^ 40)  : CallP Try.prog 17 [.d (SL 6 (a.map Corr.d)), .d (SL 6 (b.map Corr.d))] (retD [.b (decide (a = b))]) := by
  refine exPure_sound (E := envOf Try.prog tt Try.f17.ntmps) (envOf_ok ttok mixed) Try.func17 (by rfl) rfl rfl (Nat.le_of_ble_eq_true rfl) ?_
  by_cases he : a.length = b.length
  · repeat' ((conv => whnf); first | with_reducible refine Dec.t (show true = true from rfl) ?_ | with_reducible refine Dec.t (show false = false from rfl) ?_ | with_reducible refine Dec.f (show ¬ (true = false) by decide) ?_ | with_reducible refine Dec.f (show ¬ (false = true) by decide) ?_ | refine Dec.t (by omega) ?_ | refine Dec.f (by omega) ?_ | refine Dec.split (fun _ => ?_) (fun _ => ?_) | refine Wr.id (by omega) ?_ | refine Chk.mk (by first | omega | exact rfl | (simp only [List.length_map]; omega) | (simp [room]; done) | (simp [room]; omega) | (simp [dropL, room]; done) | (simp [dropL, room]; omega)) ?_ | refine Nam.mk (List.length_map _) ?_ | refine Prep.skip ?_ | refine Eith.l ?_ | refine chk_t (x := D.flat _) (by assumption) ?_ | refine br_mk (fun _ => ?_) (fun _ => ?_))
    conv => whnf
    refine ALoop.at (E := envOf Try.prog tt Try.f17.ntmps) (envOf_ok ttok mixed) (X := Nat) (fun i => [(5, .d (I i))]) (fun _ => []) (fun i => i ≤ a.length ∧ a.take i = b.take i) (fun i => a.length - i) 0 (by repeat (first | exact trivial | refine And.intro rfl ?_ | refine And.intro (congrArg (fun n => V.d (I n)) (wrap_nat _ (by omega))) ?_)) rfl ⟨Nat.zero_le _, rfl⟩ ?_
    rintro i ⟨hi, hm⟩
    by_cases hlt : i < a.length
    · obtain ⟨x, hx, _⟩ := drop_get hlt
      obtain ⟨y, hy, _⟩ := drop_get (l := b) (i := i) (by omega)
      repeat' ((conv => whnf); first | with_reducible refine Dec.t (show true = true from rfl) ?_ | with_reducible refine Dec.t (show false = false from rfl) ?_ | with_reducible refine Dec.f (show ¬ (true = false) by decide) ?_ | with_reducible refine Dec.f (show ¬ (false = true) by decide) ?_ | refine Dec.t (by omega) ?_ | refine Dec.f (by omega) ?_ | refine Dec.split (fun _ => ?_) (fun _ => ?_) | refine Wr.id (by omega) ?_ | refine Chk.mk (by first | omega | exact rfl | (simp only [List.length_map]; omega) | (simp [room]; done) | (simp [room]; omega) | (simp [dropL, room]; done) | (simp [dropL, room]; omega)) ?_ | refine Nam.mk (List.length_map _) ?_ | refine Prep.skip ?_ | refine Eith.l ?_ | refine chk_t (x := D.flat _) (by assumption) ?_ | refine br_mk (fun _ => ?_) (fun _ => ?_) | refine nthK_mk (map_get hx) ?_ | refine nthK_mk (map_get hy) ?_ | refine Nam.dec (eqCorr x y) (fun _ => ?_) (fun _ => ?_))
      all_goals (conv => whnf)
      all_goals try simp only [decide_eq_true_eq, decide_eq_false_iff_not] at *
      all_goals first
        | (have e : x = y := by first | assumption | (simp_all; done)
           subst e
           refine ⟨i + 1, Wm.end (by repeat (first | exact trivial | refine And.intro rfl ?_ | refine And.intro (congrArg (fun n => V.d (I n)) (wrap_nat _ (by omega))) ?_)) rfl rfl rfl, ⟨hlt, ?_⟩, by omega⟩
           rw [List.take_add_one, List.take_add_one, hm, hx, hy])
        | (have e : ¬ x = y := by first | assumption | (simp_all; done)
           rw [decide_eq_false (fun h => e (by subst h; rw [hx] at hy; exact Option.some.inj hy))]; exact DLe.refl _)
    · have : i = a.length := by omega
      subst this
      rw [List.take_length, he, List.take_length] at hm
      repeat' ((conv => whnf); first | with_reducible refine Dec.t (show true = true from rfl) ?_ | with_reducible refine Dec.t (show false = false from rfl) ?_ | with_reducible refine Dec.f (show ¬ (true = false) by decide) ?_ | with_reducible refine Dec.f (show ¬ (false = true) by decide) ?_ | refine Dec.t (by omega) ?_ | refine Dec.f (by omega) ?_ | refine Dec.split (fun _ => ?_) (fun _ => ?_) | refine Wr.id (by omega) ?_ | refine Chk.mk (by first | omega | exact rfl | (simp only [List.length_map]; omega) | (simp [room]; done) | (simp [room]; omega) | (simp [dropL, room]; done) | (simp [dropL, room]; omega)) ?_ | refine Nam.mk (List.length_map _) ?_ | refine Prep.skip ?_ | refine Eith.l ?_ | refine chk_t (x := D.flat _) (by assumption) ?_ | refine br_mk (fun _ => ?_) (fun _ => ?_))
      all_goals (conv => whnf)
      rw [decide_eq_true hm]; exact DLe.refl _
  · repeat' ((conv => whnf); first | with_reducible refine Dec.t (show true = true from rfl) ?_ | with_reducible refine Dec.t (show false = false from rfl) ?_ | with_reducible refine Dec.f (show ¬ (true = false) by decide) ?_ | with_reducible refine Dec.f (show ¬ (false = true) by decide) ?_ | refine Dec.t (by omega) ?_ | refine Dec.f (by omega) ?_ | refine Dec.split (fun _ => ?_) (fun _ => ?_) | refine Wr.id (by omega) ?_ | refine Chk.mk (by first | omega | exact rfl | (simp only [List.length_map]; omega) | (simp [room]; done) | (simp [room]; omega) | (simp [dropL, room]; done) | (simp [dropL, room]; omega)) ?_ | refine Nam.mk (List.length_map _) ?_ | refine Prep.skip ?_ | refine Eith.l ?_ | refine chk_t (x := D.flat _) (by assumption) ?_ | refine br_mk (fun _ => ?_) (fun _ => ?_))
    all_goals (conv => whnf)
    rw [decide_eq_false (fun h => he (by rw [h]))]; exact DLe.refl _

structure XE where
  i : Nat
  v1 : Nat
  l1 : Nat
  d1 : List D
  v2 : Nat
  l2 : Nat
  d2 : List D
theorem corr_Effect (w : CWorld) (b a : Int) (hl : w.facts.length < 2 ^ 20) : CallP Try.prog 15 [.d w.d, .d (I b), .d (I a)] (retD [SL 4 ((((changedM w.facts b a).filter fun x => decide (phys x.key)) ++ (changedM w.facts b a).filter fun x => decide (¬ phys x.key)).map Dif.d)]) := by
  refine exPure_sound (E := envOf Try.prog tt Try.f15.ntmps) (envOf_ok ttok mixed) Try.func15 (by rfl) rfl rfl (Nat.le_of_ble_eq_true rfl) ?_
  have hC := facts_Changed w.facts b a hl
  have hcl : (changedM w.facts b a).length < 2 ^ 20 := Nat.lt_of_le_of_lt (Nat.le_trans (List.length_filterMap_le _ _) (keysR_len _)) hl
  generalize changedM w.facts b a = l at hC hcl
  repeat' ((conv => whnf); first | with_reducible refine Dec.t (show true = true from rfl) ?_ | with_reducible refine Dec.t (show false = false from rfl) ?_ | with_reducible refine Dec.f (show ¬ (true = false) by decide) ?_ | with_reducible refine Dec.f (show ¬ (false = true) by decide) ?_ | refine Dec.t (by omega) ?_ | refine Dec.f (by omega) ?_ | refine Dec.split (fun _ => ?_) (fun _ => ?_) | refine Wr.id (by omega) ?_ | refine Chk.mk (by first | omega | exact rfl | (simp only [List.length_map]; omega) | (simp [room]; done) | (simp [room]; omega) | (simp [dropL, room]; done) | (simp [dropL, room]; omega)) ?_ | refine Nam.mk (List.length_map _) ?_ | refine Prep.skip ?_ | refine Eith.l ?_ | refine chk_t (x := D.flat _) (by assumption) ?_ | refine br_mk (fun _ => ?_) (fun _ => ?_) | refine ACall.of (hC) ?_ | refine APCall.of (hC) ?_ | fail)
  all_goals (conv => whnf)
  refine ALoop.virt 6 0 4 false (by decide) rfl ?_
  conv => whnf
  refine ALoop.virt 7 0 4 false (by decide) rfl ?_
  conv => whnf
  refine ALoop.at (E := envOf Try.prog tt Try.f15.ntmps) (envOf_ok ttok mixed) (X := XE) (fun x => [(16, .d (I x.i)), (6, .sref 1 x.v1 0 x.l1 false), (7, .sref 2 x.v2 0 x.l2 false)]) (fun x => [(1, .row x.v1 4 false x.d1), (2, .row x.v2 4 false x.d2)])
    (fun x => x.i ≤ l.length ∧ (x.d1 = ((l.take x.i).filter fun x => decide (phys x.key)).map Dif.d ∧ x.l1 = x.d1.length) ∧ (x.d2 = ((l.take x.i).filter fun x => decide (¬ phys x.key)).map Dif.d ∧ x.l2 = x.d2.length)) (fun x => l.length - x.i) ⟨0, 0, 0, [], 0, 0, []⟩ (by repeat (first | exact trivial | refine And.intro rfl ?_ | refine And.intro (congrArg (fun n => V.d (I n)) (wrap_nat _ (by omega))) ?_)) rfl ⟨Nat.zero_le _, ⟨rfl, rfl⟩, ⟨rfl, rfl⟩⟩ ?_
  rintro ⟨i, v1, l1, d1, v2, l2, d2⟩ ⟨hi, ⟨g1, g2⟩, ⟨g3, g4⟩⟩
  simp only at hi g1 g2 g3 g4
  dsimp only
  have hd1 : d1.length ≤ i := by rw [g1, List.length_map]; exact Nat.le_trans (List.length_filter_le _ _) (by simp; omega)
  have hd2 : d2.length ≤ i := by rw [g3, List.length_map]; exact Nat.le_trans (List.length_filter_le _ _) (by simp; omega)
  by_cases hlt : i < l.length
  · obtain ⟨x, hx, _⟩ := drop_get hlt
    have hs1 : (l.take (i + 1)).filter (fun x => decide (phys x.key)) = (l.take i).filter (fun x => decide (phys x.key)) ++ [x].filter (fun x => decide (phys x.key)) := by rw [List.take_add_one, hx, List.filter_append]; rfl
    have hs2 : (l.take (i + 1)).filter (fun x => decide (¬ phys x.key)) = (l.take i).filter (fun x => decide (¬ phys x.key)) ++ [x].filter (fun x => decide (¬ phys x.key)) := by rw [List.take_add_one, hx, List.filter_append]; rfl
    repeat' ((conv => whnf); first | with_reducible refine Dec.t (show true = true from rfl) ?_ | with_reducible refine Dec.t (show false = false from rfl) ?_ | with_reducible refine Dec.f (show ¬ (true = false) by decide) ?_ | with_reducible refine Dec.f (show ¬ (false = true) by decide) ?_ | refine Dec.t (by omega) ?_ | refine Dec.f (by omega) ?_ | refine Dec.split (fun _ => ?_) (fun _ => ?_) | refine Wr.id (by omega) ?_ | refine Chk.mk (by first | omega | exact rfl | (simp only [List.length_map]; omega) | (simp [room]; done) | (simp [room]; omega) | (simp [dropL, room]; done) | (simp [dropL, room]; omega)) ?_ | refine Nam.mk (List.length_map _) ?_ | refine Prep.skip ?_ | refine Eith.l ?_ | refine chk_t (x := D.flat _) (by assumption) ?_ | refine br_mk (fun _ => ?_) (fun _ => ?_) | refine nthK_mk (map_get hx) ?_ | refine ACall.ofB (corr_Physical x.key) (fun _ => ?_) (fun _ => ?_) | refine APCall.ofB (corr_Physical x.key) (fun _ => ?_) (fun _ => ?_) | fail)
    all_goals (conv => whnf)
    all_goals try simp only [decide_eq_true_eq, decide_eq_false_iff_not] at *
    · rename_i h
      rw [show [x].filter (fun x => decide (phys x.key)) = [x] by simp [h]] at hs1
      rw [show [x].filter (fun x => decide (¬ phys x.key)) = [] by simp [h], List.append_nil] at hs2
      exact ⟨⟨i + 1, v1 + 1, l1 + 1, d1 ++ [x.d], v2, l2, d2⟩, Wm.end (by repeat (first | exact trivial | refine And.intro rfl ?_ | refine And.intro (congrArg (fun n => V.d (I n)) (wrap_nat _ (by omega))) ?_)) rfl rfl rfl, ⟨hlt, ⟨by simp only; rw [hs1, List.map_append, ← g1]; rfl, by simp only; rw [List.length_append, ← g2]; rfl⟩, ⟨by simp only; rw [hs2]; exact g3, g4⟩⟩, by simp only; omega⟩
    · rename_i h
      rw [show [x].filter (fun x => decide (phys x.key)) = [] by simp [h], List.append_nil] at hs1
      rw [show [x].filter (fun x => decide (¬ phys x.key)) = [x] by simp [h]] at hs2
      exact ⟨⟨i + 1, v1, l1, d1, v2 + 1, l2 + 1, d2 ++ [x.d]⟩, Wm.end (by repeat (first | exact trivial | refine And.intro rfl ?_ | refine And.intro (congrArg (fun n => V.d (I n)) (wrap_nat _ (by omega))) ?_)) rfl rfl rfl, ⟨hlt, ⟨by simp only; rw [hs1]; exact g1, g2⟩, ⟨by simp only; rw [hs2, List.map_append, ← g3]; rfl, by simp only; rw [List.length_append, ← g4]; rfl⟩⟩, by simp only; omega⟩
  · have : i = l.length := by omega
    subst this
    rw [List.take_length] at g1 g3
    have hfin : ((dropL d1 0 ++ d2).drop 0).take (l1 + d2.length) = (l.filter (fun x => decide (phys x.key)) ++ l.filter (fun x => decide (¬ phys x.key))).map Dif.d := by
      rw [List.map_append, ← g1, ← g3, g2]
      simp only [dropL, List.drop_zero]
      exact List.take_of_length_le (by rw [List.length_append]; exact Nat.le_refl _)
    repeat' ((conv => whnf); first | with_reducible refine Dec.t (show true = true from rfl) ?_ | with_reducible refine Dec.t (show false = false from rfl) ?_ | with_reducible refine Dec.f (show ¬ (true = false) by decide) ?_ | with_reducible refine Dec.f (show ¬ (false = true) by decide) ?_ | refine Dec.t (by omega) ?_ | refine Dec.f (by omega) ?_ | refine Dec.split (fun _ => ?_) (fun _ => ?_) | refine Wr.id (by omega) ?_ | refine Chk.mk (by first | omega | exact rfl | (simp only [List.length_map]; omega) | (simp [room]; done) | (simp [room]; omega) | (simp [dropL, room]; done) | (simp [dropL, room]; omega)) ?_ | refine Nam.mk (List.length_map _) ?_ | refine Prep.skip ?_ | refine Eith.l ?_ | refine chk_t (x := D.flat _) (by assumption) ?_ | refine br_mk (fun _ => ?_) (fun _ => ?_) | refine Nam.mk (y := d2) (by rw [g4, List.take_length]) ?_ | refine Chk.mk ⟨rfl, by omega, by simp only [room]; omega⟩ ?_ | refine Nam.mk hfin ?_ | fail)
    all_goals (conv => whnf)
    exact (by repeat (first | exact trivial | exact rfl | exact DLe.refl _ | exact DLe.full _ _ _ | exact DLe.nil _ _ _ | exact VLe.refl _ | refine And.intro ?_ ?_ | refine VLe.d ?_ | refine DLe.agg ?_))
theorem law41_known (w : CWorld) (k : Key) (d a : Int) (hl : w.facts.length < 2 ^ 20) : CallP Try.prog 13 [.d w.d, .d k.d, .d (I d), .d (I a)] (retD [I ((atM w.facts k d a).getD (-1))]) := by
  refine exPure_sound (E := envOf Try.prog tt Try.f13.ntmps) (envOf_ok ttok mixed) Try.func13 (by rfl) rfl rfl (Nat.le_of_ble_eq_true rfl) ?_
  have hA := facts_At w.facts k d a (by omega)
  cases h : atM w.facts k d a with
  | none =>
    rw [h] at hA
    repeat' ((conv => whnf); first | with_reducible refine Dec.t (show true = true from rfl) ?_ | with_reducible refine Dec.t (show false = false from rfl) ?_ | with_reducible refine Dec.f (show ¬ (true = false) by decide) ?_ | with_reducible refine Dec.f (show ¬ (false = true) by decide) ?_ | refine Dec.t (by omega) ?_ | refine Dec.f (by omega) ?_ | refine Dec.split (fun _ => ?_) (fun _ => ?_) | refine Wr.id (by omega) ?_ | refine Chk.mk (by first | omega | exact rfl | (simp only [List.length_map]; omega) | (simp [room]; done) | (simp [room]; omega) | (simp [dropL, room]; done) | (simp [dropL, room]; omega)) ?_ | refine Nam.mk (List.length_map _) ?_ | refine Prep.skip ?_ | refine Eith.l ?_ | refine chk_t (x := D.flat _) (by assumption) ?_ | refine br_mk (fun _ => ?_) (fun _ => ?_) | refine ACall.of (hA) ?_ | refine APCall.of (hA) ?_ | fail)
    all_goals (conv => whnf)
    exact DLe.refl _
  | some v =>
    rw [h] at hA
    repeat' ((conv => whnf); first | with_reducible refine Dec.t (show true = true from rfl) ?_ | with_reducible refine Dec.t (show false = false from rfl) ?_ | with_reducible refine Dec.f (show ¬ (true = false) by decide) ?_ | with_reducible refine Dec.f (show ¬ (false = true) by decide) ?_ | refine Dec.t (by omega) ?_ | refine Dec.f (by omega) ?_ | refine Dec.split (fun _ => ?_) (fun _ => ?_) | refine Wr.id (by omega) ?_ | refine Chk.mk (by first | omega | exact rfl | (simp only [List.length_map]; omega) | (simp [room]; done) | (simp [room]; omega) | (simp [dropL, room]; done) | (simp [dropL, room]; omega)) ?_ | refine Nam.mk (List.length_map _) ?_ | refine Prep.skip ?_ | refine Eith.l ?_ | refine chk_t (x := D.flat _) (by assumption) ?_ | refine br_mk (fun _ => ?_) (fun _ => ?_) | refine ACall.of (hA) ?_ | refine APCall.of (hA) ?_ | fail)
    all_goals (conv => whnf)
    exact DLe.refl _
theorem law41_keys (w : CWorld) (cs : List Corr) (hl : w.facts.length < 2 ^ 20) (hc : cs.length < 2 ^ 20) : CallP Try.prog 12 [.d w.d, .d (SL 6 (cs.map Corr.d))] (retD [SL 3 ((w.facts.map Fact.key ++ cs.map Corr.key).map Key.d)]) := by
  refine exPure_sound (E := envOf Try.prog tt Try.f12.ntmps) (envOf_ok ttok mixed) Try.func12 (by rfl) rfl rfl (Nat.le_of_ble_eq_true rfl) ?_
  repeat' ((conv => whnf); first | with_reducible refine Dec.t (show true = true from rfl) ?_ | with_reducible refine Dec.t (show false = false from rfl) ?_ | with_reducible refine Dec.f (show ¬ (true = false) by decide) ?_ | with_reducible refine Dec.f (show ¬ (false = true) by decide) ?_ | refine Dec.t (by omega) ?_ | refine Dec.f (by omega) ?_ | refine Dec.split (fun _ => ?_) (fun _ => ?_) | refine Wr.id (by omega) ?_ | refine Chk.mk (by first | omega | exact rfl | (simp only [List.length_map]; omega) | (simp [room]; done) | (simp [room]; omega) | (simp [dropL, room]; done) | (simp [dropL, room]; omega)) ?_ | refine Nam.mk (List.length_map _) ?_ | refine Prep.skip ?_ | refine Eith.l ?_ | refine chk_t (x := D.flat _) (by assumption) ?_ | refine br_mk (fun _ => ?_) (fun _ => ?_) | fail)
  all_goals (conv => whnf)
  refine ALoop.virt 4 0 3 false (by decide) rfl ?_
  conv => whnf
  refine ALoop.at (E := envOf Try.prog tt Try.f12.ntmps) (envOf_ok ttok mixed) (X := XP) (fun x => [(12, .d (I x.i)), (4, .sref 1 x.vr 0 x.lr false)]) (fun x => [(1, .row x.vr 3 false x.dp)])
    (fun x => x.i ≤ w.facts.length ∧ x.dp = ((w.facts.take x.i).map Fact.key).map Key.d ∧ x.lr = x.dp.length) (fun x => w.facts.length - x.i) ⟨0, 0, 0, []⟩ (by repeat (first | exact trivial | refine And.intro rfl ?_ | refine And.intro (congrArg (fun n => V.d (I n)) (wrap_nat _ (by omega))) ?_)) rfl ⟨Nat.zero_le _, rfl, rfl⟩ ?_
  rintro ⟨i, vr, lr, dp⟩ ⟨hi, g1, g2⟩
  simp only at hi g1 g2
  dsimp only
  have hdl : dp.length = i := by rw [g1]; simp; omega
  by_cases hlt : i < w.facts.length
  · obtain ⟨f, hx, _⟩ := drop_get hlt
    repeat' ((conv => whnf); first | with_reducible refine Dec.t (show true = true from rfl) ?_ | with_reducible refine Dec.t (show false = false from rfl) ?_ | with_reducible refine Dec.f (show ¬ (true = false) by decide) ?_ | with_reducible refine Dec.f (show ¬ (false = true) by decide) ?_ | refine Dec.t (by omega) ?_ | refine Dec.f (by omega) ?_ | refine Dec.split (fun _ => ?_) (fun _ => ?_) | refine Wr.id (by omega) ?_ | refine Chk.mk (by first | omega | exact rfl | (simp only [List.length_map]; omega) | (simp [room]; done) | (simp [room]; omega) | (simp [dropL, room]; done) | (simp [dropL, room]; omega)) ?_ | refine Nam.mk (List.length_map _) ?_ | refine Prep.skip ?_ | refine Eith.l ?_ | refine chk_t (x := D.flat _) (by assumption) ?_ | refine br_mk (fun _ => ?_) (fun _ => ?_) | refine nthK_mk (map_get hx) ?_ | fail)
    all_goals (conv => whnf)
    exact ⟨⟨i + 1, vr + 1, lr + 1, dp ++ [f.key.d]⟩, Wm.end (by repeat (first | exact trivial | refine And.intro rfl ?_ | refine And.intro (congrArg (fun n => V.d (I n)) (wrap_nat _ (by omega))) ?_)) rfl rfl rfl, ⟨hlt, by simp only; rw [List.take_add_one, hx, List.map_append, List.map_append, ← g1]; rfl, by simp only; rw [List.length_append, ← g2]; rfl⟩, by simp only; omega⟩
  · have : i = w.facts.length := by omega
    subst this
    rw [List.take_length] at g1
    repeat' ((conv => whnf); first | with_reducible refine Dec.t (show true = true from rfl) ?_ | with_reducible refine Dec.t (show false = false from rfl) ?_ | with_reducible refine Dec.f (show ¬ (true = false) by decide) ?_ | with_reducible refine Dec.f (show ¬ (false = true) by decide) ?_ | refine Dec.t (by omega) ?_ | refine Dec.f (by omega) ?_ | refine Dec.split (fun _ => ?_) (fun _ => ?_) | refine Wr.id (by omega) ?_ | refine Chk.mk (by first | omega | exact rfl | (simp only [List.length_map]; omega) | (simp [room]; done) | (simp [room]; omega) | (simp [dropL, room]; done) | (simp [dropL, room]; omega)) ?_ | refine Nam.mk (List.length_map _) ?_ | refine Prep.skip ?_ | refine Eith.l ?_ | refine chk_t (x := D.flat _) (by assumption) ?_ | refine br_mk (fun _ => ?_) (fun _ => ?_) | fail)
    all_goals (conv => whnf)
    refine ALoop.at (E := envOf Try.prog tt Try.f12.ntmps) (envOf_ok ttok mixed) (X := XP) (fun x => [(24, .d (I x.i)), (4, .sref 1 x.vr 0 x.lr false)]) (fun x => [(1, .row x.vr 3 false x.dp)])
      (fun x => x.i ≤ cs.length ∧ x.dp = (w.facts.map Fact.key ++ (cs.take x.i).map Corr.key).map Key.d ∧ x.lr = x.dp.length) (fun x => cs.length - x.i) ⟨0, vr, lr, dp⟩ (by repeat (first | exact trivial | refine And.intro rfl ?_ | refine And.intro (congrArg (fun n => V.d (I n)) (wrap_nat _ (by omega))) ?_)) rfl ⟨Nat.zero_le _, by simp only [List.take_zero, List.map_nil, List.append_nil]; exact g1, g2⟩ ?_
    clear g1 g2 hdl
    rintro ⟨i, vr, lr, dp⟩ ⟨hi, g1, g2⟩
    simp only at hi g1 g2
    dsimp only
    have hdl : dp.length = w.facts.length + i := by rw [g1]; simp; omega
    by_cases hlt : i < cs.length
    · obtain ⟨f, hx, _⟩ := drop_get hlt
      repeat' ((conv => whnf); first | with_reducible refine Dec.t (show true = true from rfl) ?_ | with_reducible refine Dec.t (show false = false from rfl) ?_ | with_reducible refine Dec.f (show ¬ (true = false) by decide) ?_ | with_reducible refine Dec.f (show ¬ (false = true) by decide) ?_ | refine Dec.t (by omega) ?_ | refine Dec.f (by omega) ?_ | refine Dec.split (fun _ => ?_) (fun _ => ?_) | refine Wr.id (by omega) ?_ | refine Chk.mk (by first | omega | exact rfl | (simp only [List.length_map]; omega) | (simp [room]; done) | (simp [room]; omega) | (simp [dropL, room]; done) | (simp [dropL, room]; omega)) ?_ | refine Nam.mk (List.length_map _) ?_ | refine Prep.skip ?_ | refine Eith.l ?_ | refine chk_t (x := D.flat _) (by assumption) ?_ | refine br_mk (fun _ => ?_) (fun _ => ?_) | refine nthK_mk (map_get hx) ?_ | fail)
      all_goals (conv => whnf)
      exact ⟨⟨i + 1, vr + 1, lr + 1, dp ++ [f.key.d]⟩, Wm.end (by repeat (first | exact trivial | refine And.intro rfl ?_ | refine And.intro (congrArg (fun n => V.d (I n)) (wrap_nat _ (by omega))) ?_)) rfl rfl rfl, ⟨hlt, by simp only; rw [List.take_add_one, hx, g1]; simp, by simp only; rw [List.length_append, ← g2]; rfl⟩, by simp only; omega⟩
    · have : i = cs.length := by omega
      subst this
      rw [List.take_length] at g1
      repeat' ((conv => whnf); first | with_reducible refine Dec.t (show true = true from rfl) ?_ | with_reducible refine Dec.t (show false = false from rfl) ?_ | with_reducible refine Dec.f (show ¬ (true = false) by decide) ?_ | with_reducible refine Dec.f (show ¬ (false = true) by decide) ?_ | refine Dec.t (by omega) ?_ | refine Dec.f (by omega) ?_ | refine Dec.split (fun _ => ?_) (fun _ => ?_) | refine Wr.id (by omega) ?_ | refine Chk.mk (by first | omega | exact rfl | (simp only [List.length_map]; omega) | (simp [room]; done) | (simp [room]; omega) | (simp [dropL, room]; done) | (simp [dropL, room]; omega)) ?_ | refine Nam.mk (List.length_map _) ?_ | refine Prep.skip ?_ | refine Eith.l ?_ | refine chk_t (x := D.flat _) (by assumption) ?_ | refine br_mk (fun _ => ?_) (fun _ => ?_) | refine Nam.mk ((whole g2).trans g1) ?_ | fail)
      all_goals (conv => whnf)
      exact (by repeat (first | exact trivial | exact rfl | exact DLe.refl _ | exact DLe.full _ _ _ | exact DLe.nil _ _ _ | exact VLe.refl _ | refine And.intro ?_ ?_ | refine VLe.d ?_ | refine DLe.agg ?_))
end Go.PM

