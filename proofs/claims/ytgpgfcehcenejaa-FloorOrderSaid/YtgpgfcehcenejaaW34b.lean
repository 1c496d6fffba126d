/- Package floor and its reference: formed histories. -/
import Derived.Test.YtgpgfcehcenejaaW34a
namespace Go.PM
open Go.Proofs
set_option maxRecDepth 10000
set_option maxHeartbeats 4000000

def usedE (l : List Int) : List (D × D) := l.map fun n => (I n, D.b true)
theorem used_find (n : Int) : ∀ l : List Int, mapFind tt 3 (I n) (usedE l) = if n ∈ l then some (.b true) else none
  | [] => rfl
  | m :: l => by
    have ih := used_find n l
    show (if eqD tt 4 3 [I n] [I m] then some (.b true) else mapFind tt 3 (I n) (usedE l)) = _
    rw [show eqD tt 4 3 [I n] [I m] = (n == m) from rfl, ih]
    by_cases h : n = m
    · simp [h]
    · simp [h]
theorem used_put (n : Int) : ∀ l : List Int, n ∉ l → mapPut tt 3 (I n) (.b true) (usedE l) = usedE (l ++ [n])
  | [], _ => rfl
  | m :: l, h => by
    have ih := used_put n l fun hh => h (.tail _ hh)
    show (if eqD tt 4 3 [I n] [I m] then (I n, D.b true) :: usedE l else (I m, D.b true) :: mapPut tt 3 (I n) (.b true) (usedE l)) = _
    rw [show eqD tt 4 3 [I n] [I m] = (n == m) from rfl, if_neg (by simp; exact fun e => h (e ▸ .head _)), ih]
    rfl

def twice (f g : Flow) : Prop := f.kind = 3 ∧ g.kind = 3 ∧ f.label = g.label
instance (f g : Flow) : Decidable (twice f g) := by unfold twice; infer_instance
structure Hist.ok (h : Hist) : Prop where
  nv : h.op.length ≤ 16
  np : 0 ≤ h.per ∧ h.per ≤ 16
  nf : h.fl.length ≤ 64
  op : ∀ n ∈ h.op, 0 ≤ n ∧ n ≤ 1048576
  fl : ∀ f ∈ h.fl, f.ok h.op.length h.per
  lab : h.fl.Pairwise fun f g => ¬ twice f g
instance (h : Hist) : Decidable h.ok := decidable_of_iff (h.op.length ≤ 16 ∧ (0 ≤ h.per ∧ h.per ≤ 16) ∧ h.fl.length ≤ 64 ∧ (∀ n ∈ h.op, 0 ≤ n ∧ n ≤ 1048576) ∧ (∀ f ∈ h.fl, f.ok h.op.length h.per) ∧ h.fl.Pairwise fun f g => ¬ twice f g)
  ⟨fun ⟨a, b, c, d, e, f⟩ => ⟨a, b, c, d, e, f⟩, fun ⟨a, b, c, d, e, f⟩ => ⟨a, b, c, d, e, f⟩⟩
structure WidH (h : Hist) : Prop where
  o : h.op.length < 2 ^ 63
  f : h.fl.length < 2 ^ 63
theorem snoc_all {α : Type} {p : α → Prop} {l : List α} {i : Nat} {x : α} (hx : l[i]? = some x) (hp : p x) (h : ∀ y ∈ l.take i, p y) : ∀ y ∈ l.take (i + 1), p y := fun y hy => by
  rw [List.take_add_one, hx, List.mem_append] at hy
  rcases hy with hy | hy
  · exact h y hy
  · simp at hy; subst hy; exact hp
theorem snoc_pair {α : Type} {r : α → α → Prop} {l : List α} {i : Nat} {x : α} (hx : l[i]? = some x) (hp : ∀ y ∈ l.take i, r y x) (h : (l.take i).Pairwise r) : (l.take (i + 1)).Pairwise r := by
  rw [List.take_add_one, hx, List.pairwise_append]
  exact ⟨h, List.pairwise_singleton _ _, fun y hy z hz => by simp at hz; subst hz; exact hp y hy⟩
theorem pair_at {α : Type} {r : α → α → Prop} {l : List α} {i j : Nat} {x y : α} (h : l.Pairwise r) (hij : i < j) (hx : l[i]? = some x) (hy : l[j]? = some y) : r x y := by
  obtain ⟨h1, rfl⟩ := List.getElem?_eq_some_iff.1 hx
  obtain ⟨h2, rfl⟩ := List.getElem?_eq_some_iff.1 hy
  exact List.pairwise_iff_getElem.1 h i j h1 h2 hij
/-- The labels of what was sent. -/
def labs (l : List Flow) : List Int := (l.filter fun f => decide (f.kind = 3)).map Flow.label
theorem floor_formed (h : Hist) (hw : WidH h) : CallP Try.prog 21 [.d h.d] (retD [.b (decide h.ok)]) := by
  have hwo := hw.o
  have hwf := hw.f
  refine exPure_sound (E := envOf Try.prog tt Try.f21.ntmps) (envOf_ok ttok mixed) Try.func21 (by rfl) rfl rfl (Nat.le_of_ble_eq_true rfl) ?_
  repeat' ((conv => whnf); first | with_reducible refine Dec.t (show true = true from rfl) ?_ | with_reducible refine Dec.t (show false = false from rfl) ?_ | with_reducible refine Dec.f (show ¬ (true = false) by decide) ?_ | with_reducible refine Dec.f (show ¬ (false = true) by decide) ?_ | refine Dec.t (by omega) ?_ | refine Dec.f (by omega) ?_ | refine Dec.split (fun _ => ?_) (fun _ => ?_) | refine Wr.id (by omega) ?_ | refine Chk.mk (by first | omega | exact rfl | (simp only [List.length_map]; omega) | (simp [room]; done) | (simp [room]; omega) | (simp [dropL, room]; done) | (simp [dropL, room]; omega)) ?_ | refine Nam.mk (List.length_map _) ?_ | refine Prep.skip ?_ | refine Eith.l ?_ | refine chk_t (x := D.flat _) (by assumption) ?_ | refine br_mk (fun _ => ?_) (fun _ => ?_) | refine ACall.ofB (floor_between _ _ _) (fun _ => ?_) (fun _ => ?_) | refine APCall.ofB (floor_between _ _ _) (fun _ => ?_) (fun _ => ?_) | fail)
  all_goals (conv => whnf)
  all_goals try simp only [decide_eq_true_eq, decide_eq_false_iff_not] at *
  all_goals try first
    | (rw [decide_eq_false (fun hh : h.ok => by have := hh.nv; omega)]; exact DLe.refl _)
    | (rw [decide_eq_false (fun hh : h.ok => by have := hh.nf; omega)]; exact DLe.refl _)
    | (rename_i hx; rw [decide_eq_false (fun hh : h.ok => hx hh.np)]; exact DLe.refl _)
  rename_i g1 g2 g3
  refine ALoop.at (E := envOf Try.prog tt Try.f21.ntmps) (envOf_ok ttok mixed) (X := Nat) (fun i => [(27, .d (I i))]) (fun _ => []) (fun i => i ≤ h.op.length ∧ ∀ n ∈ h.op.take i, 0 ≤ n ∧ n ≤ 1048576) (fun i => h.op.length - i) 0 (by repeat (first | exact trivial | refine And.intro rfl ?_ | refine And.intro (congrArg (fun n => V.d (I n)) (wrap_nat _ (by omega))) ?_)) rfl ⟨Nat.zero_le _, by simp⟩ ?_
  rintro i ⟨hi, hm⟩
  by_cases hlt : i < h.op.length
  · obtain ⟨n, hx, _⟩ := drop_get hlt
    repeat' ((conv => whnf); first | with_reducible refine Dec.t (show true = true from rfl) ?_ | with_reducible refine Dec.t (show false = false from rfl) ?_ | with_reducible refine Dec.f (show ¬ (true = false) by decide) ?_ | with_reducible refine Dec.f (show ¬ (false = true) by decide) ?_ | refine Dec.t (by omega) ?_ | refine Dec.f (by omega) ?_ | refine Dec.split (fun _ => ?_) (fun _ => ?_) | refine Wr.id (by omega) ?_ | refine Chk.mk (by first | omega | exact rfl | (simp only [List.length_map]; omega) | (simp [room]; done) | (simp [room]; omega) | (simp [dropL, room]; done) | (simp [dropL, room]; omega)) ?_ | refine Nam.mk (List.length_map _) ?_ | refine Prep.skip ?_ | refine Eith.l ?_ | refine chk_t (x := D.flat _) (by assumption) ?_ | refine br_mk (fun _ => ?_) (fun _ => ?_) | refine nthK_mk (map_get hx) ?_ | refine ACall.ofB (floor_between _ _ _) (fun _ => ?_) (fun _ => ?_) | refine APCall.ofB (floor_between _ _ _) (fun _ => ?_) (fun _ => ?_) | fail)
    all_goals (conv => whnf)
    all_goals try simp only [decide_eq_true_eq, decide_eq_false_iff_not] at *
    all_goals first
      | (have hn : 0 ≤ n ∧ n ≤ 1048576 := by assumption
         exact ⟨i + 1, Wm.end (by repeat (first | exact trivial | refine And.intro rfl ?_ | refine And.intro (congrArg (fun n => V.d (I n)) (wrap_nat _ (by omega))) ?_)) rfl rfl rfl, ⟨hlt, snoc_all hx hn hm⟩, by omega⟩)
      | (have hn : ¬ (0 ≤ n ∧ n ≤ 1048576) := by assumption
         rw [decide_eq_false (fun hh : h.ok => hn (hh.op n (List.mem_of_getElem? hx)))]; exact DLe.refl _)
  · have : i = h.op.length := by omega
    subst this
    rw [List.take_length] at hm
    clear hi hlt
    repeat' ((conv => whnf); first | with_reducible refine Dec.t (show true = true from rfl) ?_ | with_reducible refine Dec.t (show false = false from rfl) ?_ | with_reducible refine Dec.f (show ¬ (true = false) by decide) ?_ | with_reducible refine Dec.f (show ¬ (false = true) by decide) ?_ | refine Dec.t (by omega) ?_ | refine Dec.f (by omega) ?_ | refine Dec.split (fun _ => ?_) (fun _ => ?_) | refine Wr.id (by omega) ?_ | refine Chk.mk (by first | omega | exact rfl | (simp only [List.length_map]; omega) | (simp [room]; done) | (simp [room]; omega) | (simp [dropL, room]; done) | (simp [dropL, room]; omega)) ?_ | refine Nam.mk (List.length_map _) ?_ | refine Prep.skip ?_ | refine Eith.l ?_ | refine chk_t (x := D.flat _) (by assumption) ?_ | refine br_mk (fun _ => ?_) (fun _ => ?_) | fail)
    all_goals (conv => whnf)
    refine ALoop.at (E := envOf Try.prog tt Try.f21.ntmps) (envOf_ok ttok mixed) (X := Nat) (fun i => [(39, .d (I i))]) (fun i => [(1, .map tt 3 (usedE (labs (h.fl.take i))))]) (fun i => i ≤ h.fl.length ∧ (∀ f ∈ h.fl.take i, f.ok h.op.length h.per) ∧ (h.fl.take i).Pairwise fun f g => ¬ twice f g) (fun i => h.fl.length - i) 0 (by repeat (first | exact trivial | refine And.intro rfl ?_ | refine And.intro (congrArg (fun n => V.d (I n)) (wrap_nat _ (by omega))) ?_)) rfl ⟨Nat.zero_le _, by simp, by simp⟩ ?_
    rintro i ⟨hi, hm2, hp⟩
    by_cases hlt : i < h.fl.length
    · obtain ⟨f, hx, _⟩ := drop_get hlt
      have hl : labs (h.fl.take (i + 1)) = labs (h.fl.take i) ++ labs [f] := by unfold labs; rw [List.take_add_one, hx, List.filter_append, List.map_append]; rfl
      have hmem : f.label ∈ labs (h.fl.take i) ↔ ∃ g ∈ h.fl.take i, g.kind = 3 ∧ g.label = f.label := by
        unfold labs
        simp only [List.mem_map, List.mem_filter, decide_eq_true_eq]
        constructor
        · rintro ⟨g, ⟨a, b⟩, c⟩; exact ⟨g, a, b, c⟩
        · rintro ⟨g, a, b, c⟩; exact ⟨g, ⟨a, b⟩, c⟩
      have hF := floor_formedFlow h f (by omega) (by omega)
      by_cases hfo : f.ok h.op.length h.per
      · rw [decide_eq_true hfo] at hF
        by_cases hk : f.kind = 3
        · by_cases hin : f.label ∈ labs (h.fl.take i)
          · have hget : (mapFind tt 3 (I f.label) (usedE (labs (h.fl.take i)))).getD (.b false) = .b true := by rw [used_find, if_pos hin]; rfl
            obtain ⟨g, g1, g2, g3⟩ := hmem.1 hin
            have hno : ¬ h.ok := fun hh => by
              obtain ⟨j, hj⟩ := List.mem_iff_getElem?.1 g1
              have hji : j < i := by
                have := (List.getElem?_eq_some_iff.1 hj).1
                rw [List.length_take] at this; omega
              rw [List.getElem?_take_of_lt hji] at hj
              exact pair_at hh.lab hji hj hx ⟨g2, hk, g3⟩
            rw [decide_eq_false hno]
            repeat' ((conv => whnf); first | with_reducible refine Dec.t (show true = true from rfl) ?_ | with_reducible refine Dec.t (show false = false from rfl) ?_ | with_reducible refine Dec.f (show ¬ (true = false) by decide) ?_ | with_reducible refine Dec.f (show ¬ (false = true) by decide) ?_ | refine Dec.t (by omega) ?_ | refine Dec.f (by omega) ?_ | refine Dec.split (fun _ => ?_) (fun _ => ?_) | refine Wr.id (by omega) ?_ | refine Chk.mk (by first | omega | exact rfl | (simp only [List.length_map]; omega) | (simp [room]; done) | (simp [room]; omega) | (simp [dropL, room]; done) | (simp [dropL, room]; omega)) ?_ | refine Nam.mk (List.length_map _) ?_ | refine Prep.skip ?_ | refine Eith.l ?_ | refine chk_t (x := D.flat _) (by assumption) ?_ | refine br_mk (fun _ => ?_) (fun _ => ?_) | refine nthK_mk (map_get hx) ?_ | refine ACall.of (hF) ?_ | refine APCall.of (hF) ?_ | refine Nam.mk hget ?_ | fail)
            all_goals first | (exfalso; omega) | skip
            all_goals (conv => whnf)
            all_goals first | exact DLe.refl _
          · have hget : (mapFind tt 3 (I f.label) (usedE (labs (h.fl.take i)))).getD (.b false) = .b false := by rw [used_find, if_neg hin]; rfl
            have hput : mapPut tt 3 (I f.label) (.b true) (usedE (labs (h.fl.take i))) = usedE (labs (h.fl.take (i + 1))) := by
              rw [used_put _ _ hin, hl]
              simp [labs, hk]
            repeat' ((conv => whnf); first | with_reducible refine Dec.t (show true = true from rfl) ?_ | with_reducible refine Dec.t (show false = false from rfl) ?_ | with_reducible refine Dec.f (show ¬ (true = false) by decide) ?_ | with_reducible refine Dec.f (show ¬ (false = true) by decide) ?_ | refine Dec.t (by omega) ?_ | refine Dec.f (by omega) ?_ | refine Dec.split (fun _ => ?_) (fun _ => ?_) | refine Wr.id (by omega) ?_ | refine Chk.mk (by first | omega | exact rfl | (simp only [List.length_map]; omega) | (simp [room]; done) | (simp [room]; omega) | (simp [dropL, room]; done) | (simp [dropL, room]; omega)) ?_ | refine Nam.mk (List.length_map _) ?_ | refine Prep.skip ?_ | refine Eith.l ?_ | refine chk_t (x := D.flat _) (by assumption) ?_ | refine br_mk (fun _ => ?_) (fun _ => ?_) | refine nthK_mk (map_get hx) ?_ | refine ACall.of (hF) ?_ | refine APCall.of (hF) ?_ | refine Nam.mk hget ?_ | fail)
            all_goals first | (exfalso; omega) | skip
            all_goals (conv => whnf)
            all_goals first
              | exact ⟨i + 1, Wm.end (by repeat (first | exact trivial | refine And.intro rfl ?_ | refine And.intro (congrArg (fun n => V.d (I n)) (wrap_nat _ (by omega))) ?_)) (congrArg (fun es => [Blk.vard h.d.cells, Blk.map tt 3 es]) hput) rfl rfl, ⟨hlt, snoc_all hx hfo hm2, snoc_pair hx (fun g hg ht => hin (hmem.2 ⟨g, hg, ht.1, ht.2.2⟩)) hp⟩, by omega⟩
        · have hl' : labs (h.fl.take (i + 1)) = labs (h.fl.take i) := by rw [hl]; simp [labs, hk]
          repeat' ((conv => whnf); first | with_reducible refine Dec.t (show true = true from rfl) ?_ | with_reducible refine Dec.t (show false = false from rfl) ?_ | with_reducible refine Dec.f (show ¬ (true = false) by decide) ?_ | with_reducible refine Dec.f (show ¬ (false = true) by decide) ?_ | refine Dec.t (by omega) ?_ | refine Dec.f (by omega) ?_ | refine Dec.split (fun _ => ?_) (fun _ => ?_) | refine Wr.id (by omega) ?_ | refine Chk.mk (by first | omega | exact rfl | (simp only [List.length_map]; omega) | (simp [room]; done) | (simp [room]; omega) | (simp [dropL, room]; done) | (simp [dropL, room]; omega)) ?_ | refine Nam.mk (List.length_map _) ?_ | refine Prep.skip ?_ | refine Eith.l ?_ | refine chk_t (x := D.flat _) (by assumption) ?_ | refine br_mk (fun _ => ?_) (fun _ => ?_) | refine nthK_mk (map_get hx) ?_ | refine ACall.of (hF) ?_ | refine APCall.of (hF) ?_ | fail)
          all_goals first | (exfalso; omega) | skip
          all_goals (conv => whnf)
          all_goals first
            | exact ⟨i + 1, Wm.end (by repeat (first | exact trivial | refine And.intro rfl ?_ | refine And.intro (congrArg (fun n => V.d (I n)) (wrap_nat _ (by omega))) ?_)) (congrArg (fun es => [Blk.vard h.d.cells, Blk.map tt 3 (usedE es)]) hl'.symm) rfl rfl, ⟨hlt, snoc_all hx hfo hm2, snoc_pair hx (fun g hg ht => hk ht.2.1) hp⟩, by omega⟩
      · rw [decide_eq_false hfo] at hF
        rw [decide_eq_false (fun hh : h.ok => hfo (hh.fl f (List.mem_of_getElem? hx)))]
        repeat' ((conv => whnf); first | with_reducible refine Dec.t (show true = true from rfl) ?_ | with_reducible refine Dec.t (show false = false from rfl) ?_ | with_reducible refine Dec.f (show ¬ (true = false) by decide) ?_ | with_reducible refine Dec.f (show ¬ (false = true) by decide) ?_ | refine Dec.t (by omega) ?_ | refine Dec.f (by omega) ?_ | refine Dec.split (fun _ => ?_) (fun _ => ?_) | refine Wr.id (by omega) ?_ | refine Chk.mk (by first | omega | exact rfl | (simp only [List.length_map]; omega) | (simp [room]; done) | (simp [room]; omega) | (simp [dropL, room]; done) | (simp [dropL, room]; omega)) ?_ | refine Nam.mk (List.length_map _) ?_ | refine Prep.skip ?_ | refine Eith.l ?_ | refine chk_t (x := D.flat _) (by assumption) ?_ | refine br_mk (fun _ => ?_) (fun _ => ?_) | refine nthK_mk (map_get hx) ?_ | refine ACall.of (hF) ?_ | refine APCall.of (hF) ?_ | fail)
        all_goals first | (exfalso; omega) | skip
        all_goals (conv => whnf)
        all_goals first | exact DLe.refl _
    · have : i = h.fl.length := by omega
      subst this
      rw [List.take_length] at hm2 hp
      rw [decide_eq_true (show h.ok from ⟨by omega, g3, by omega, hm, hm2, hp⟩)]
      repeat' ((conv => whnf); first | with_reducible refine Dec.t (show true = true from rfl) ?_ | with_reducible refine Dec.t (show false = false from rfl) ?_ | with_reducible refine Dec.f (show ¬ (true = false) by decide) ?_ | with_reducible refine Dec.f (show ¬ (false = true) by decide) ?_ | refine Dec.t (by omega) ?_ | refine Dec.f (by omega) ?_ | refine Dec.split (fun _ => ?_) (fun _ => ?_) | refine Wr.id (by omega) ?_ | refine Chk.mk (by first | omega | exact rfl | (simp only [List.length_map]; omega) | (simp [room]; done) | (simp [room]; omega) | (simp [dropL, room]; done) | (simp [dropL, room]; omega)) ?_ | refine Nam.mk (List.length_map _) ?_ | refine Prep.skip ?_ | refine Eith.l ?_ | refine chk_t (x := D.flat _) (by assumption) ?_ | refine br_mk (fun _ => ?_) (fun _ => ?_) | fail)
      all_goals first | (exfalso; omega) | skip
      all_goals (conv => whnf)
      all_goals exact DLe.refl _
theorem ref34_formed (h : Hist) (hw : WidH h) : CallP Try.prog 29 [.d h.d] (retD [.b (decide h.ok)]) := by
  have hwo := hw.o
  have hwf := hw.f
  refine exPure_sound (E := envOf Try.prog tt Try.f29.ntmps) (envOf_ok ttok mixed) Try.func29 (by rfl) rfl rfl (Nat.le_of_ble_eq_true rfl) ?_
  repeat' ((conv => whnf); first | with_reducible refine Dec.t (show true = true from rfl) ?_ | with_reducible refine Dec.t (show false = false from rfl) ?_ | with_reducible refine Dec.f (show ¬ (true = false) by decide) ?_ | with_reducible refine Dec.f (show ¬ (false = true) by decide) ?_ | refine Dec.t (by omega) ?_ | refine Dec.f (by omega) ?_ | refine Dec.split (fun _ => ?_) (fun _ => ?_) | refine Wr.id (by omega) ?_ | refine Chk.mk (by first | omega | exact rfl | (simp only [List.length_map]; omega) | (simp [room]; done) | (simp [room]; omega) | (simp [dropL, room]; done) | (simp [dropL, room]; omega)) ?_ | refine Nam.mk (List.length_map _) ?_ | refine Prep.skip ?_ | refine Eith.l ?_ | refine chk_t (x := D.flat _) (by assumption) ?_ | refine br_mk (fun _ => ?_) (fun _ => ?_) | refine ACall.ofB (ref34_in _ _ _) (fun _ => ?_) (fun _ => ?_) | refine APCall.ofB (ref34_in _ _ _) (fun _ => ?_) (fun _ => ?_) | fail)
  all_goals (conv => whnf)
  all_goals try simp only [decide_eq_true_eq, decide_eq_false_iff_not] at *
  all_goals try first
    | (rw [decide_eq_false (fun hh : h.ok => by have := hh.nv; omega)]; exact DLe.refl _)
    | (rw [decide_eq_false (fun hh : h.ok => by have := hh.nf; omega)]; exact DLe.refl _)
    | (rename_i hx; rw [decide_eq_false (fun hh : h.ok => hx hh.np)]; exact DLe.refl _)
  rename_i g1 g2 g3
  refine ALoop.at (E := envOf Try.prog tt Try.f29.ntmps) (envOf_ok ttok mixed) (X := Nat) (fun i => [(3, .d (I i))]) (fun _ => []) (fun i => i ≤ h.op.length ∧ ∀ n ∈ h.op.take i, 0 ≤ n ∧ n ≤ 1048576) (fun i => h.op.length - i) 0 (by repeat (first | exact trivial | refine And.intro rfl ?_ | refine And.intro (congrArg (fun n => V.d (I n)) (wrap_nat _ (by omega))) ?_)) rfl ⟨Nat.zero_le _, by simp⟩ ?_
  rintro i ⟨hi, hm⟩
  by_cases hlt : i < h.op.length
  · obtain ⟨n, hx, _⟩ := drop_get hlt
    repeat' ((conv => whnf); first | with_reducible refine Dec.t (show true = true from rfl) ?_ | with_reducible refine Dec.t (show false = false from rfl) ?_ | with_reducible refine Dec.f (show ¬ (true = false) by decide) ?_ | with_reducible refine Dec.f (show ¬ (false = true) by decide) ?_ | refine Dec.t (by omega) ?_ | refine Dec.f (by omega) ?_ | refine Dec.split (fun _ => ?_) (fun _ => ?_) | refine Wr.id (by omega) ?_ | refine Chk.mk (by first | omega | exact rfl | (simp only [List.length_map]; omega) | (simp [room]; done) | (simp [room]; omega) | (simp [dropL, room]; done) | (simp [dropL, room]; omega)) ?_ | refine Nam.mk (List.length_map _) ?_ | refine Prep.skip ?_ | refine Eith.l ?_ | refine chk_t (x := D.flat _) (by assumption) ?_ | refine br_mk (fun _ => ?_) (fun _ => ?_) | refine nthK_mk (map_get hx) ?_ | refine ACall.ofB (ref34_in _ _ _) (fun _ => ?_) (fun _ => ?_) | refine APCall.ofB (ref34_in _ _ _) (fun _ => ?_) (fun _ => ?_) | fail)
    all_goals (conv => whnf)
    all_goals try simp only [decide_eq_true_eq, decide_eq_false_iff_not] at *
    all_goals first
      | (have hn : 0 ≤ n ∧ n ≤ 1048576 := by assumption
         exact ⟨i + 1, Wm.end (by repeat (first | exact trivial | refine And.intro rfl ?_ | refine And.intro (congrArg (fun n => V.d (I n)) (wrap_nat _ (by omega))) ?_)) rfl rfl rfl, ⟨hlt, snoc_all hx hn hm⟩, by omega⟩)
      | (have hn : ¬ (0 ≤ n ∧ n ≤ 1048576) := by assumption
         rw [decide_eq_false (fun hh : h.ok => hn (hh.op n (List.mem_of_getElem? hx)))]; exact DLe.refl _)
  · have : i = h.op.length := by omega
    subst this
    rw [List.take_length] at hm
    clear hi hlt
    repeat' ((conv => whnf); first | with_reducible refine Dec.t (show true = true from rfl) ?_ | with_reducible refine Dec.t (show false = false from rfl) ?_ | with_reducible refine Dec.f (show ¬ (true = false) by decide) ?_ | with_reducible refine Dec.f (show ¬ (false = true) by decide) ?_ | refine Dec.t (by omega) ?_ | refine Dec.f (by omega) ?_ | refine Dec.split (fun _ => ?_) (fun _ => ?_) | refine Wr.id (by omega) ?_ | refine Chk.mk (by first | omega | exact rfl | (simp only [List.length_map]; omega) | (simp [room]; done) | (simp [room]; omega) | (simp [dropL, room]; done) | (simp [dropL, room]; omega)) ?_ | refine Nam.mk (List.length_map _) ?_ | refine Prep.skip ?_ | refine Eith.l ?_ | refine chk_t (x := D.flat _) (by assumption) ?_ | refine br_mk (fun _ => ?_) (fun _ => ?_) | fail)
    all_goals (conv => whnf)
    refine ALoop.at (E := envOf Try.prog tt Try.f29.ntmps) (envOf_ok ttok mixed) (X := Nat) (fun i => [(4, .d (I i))]) (fun _ => []) (fun i => i ≤ h.fl.length ∧ (∀ f ∈ h.fl.take i, f.ok h.op.length h.per) ∧ (h.fl.take i).Pairwise fun f g => ¬ twice f g) (fun i => h.fl.length - i) 0 (by repeat (first | exact trivial | refine And.intro rfl ?_ | refine And.intro (congrArg (fun n => V.d (I n)) (wrap_nat _ (by omega))) ?_)) rfl ⟨Nat.zero_le _, by simp, by simp⟩ ?_
    rintro i ⟨hi, hm2, hp⟩
    by_cases hlt : i < h.fl.length
    · obtain ⟨f, hx, _⟩ := drop_get hlt
      have hF := ref34_Formed f h.op.length h.per (by omega) (by omega)
      by_cases hfo : f.ok h.op.length h.per
      · rw [decide_eq_true hfo] at hF
        repeat' ((conv => whnf); first | with_reducible refine Dec.t (show true = true from rfl) ?_ | with_reducible refine Dec.t (show false = false from rfl) ?_ | with_reducible refine Dec.f (show ¬ (true = false) by decide) ?_ | with_reducible refine Dec.f (show ¬ (false = true) by decide) ?_ | refine Dec.t (by omega) ?_ | refine Dec.f (by omega) ?_ | refine Dec.split (fun _ => ?_) (fun _ => ?_) | refine Wr.id (by omega) ?_ | refine Chk.mk (by first | omega | exact rfl | (simp only [List.length_map]; omega) | (simp [room]; done) | (simp [room]; omega) | (simp [dropL, room]; done) | (simp [dropL, room]; omega)) ?_ | refine Nam.mk (List.length_map _) ?_ | refine Prep.skip ?_ | refine Eith.l ?_ | refine chk_t (x := D.flat _) (by assumption) ?_ | refine br_mk (fun _ => ?_) (fun _ => ?_) | refine nthK_mk (map_get hx) ?_ | refine ACall.of (hF) ?_ | refine APCall.of (hF) ?_ | fail)
        all_goals first | (exfalso; omega) | skip
        all_goals (conv => whnf)
        refine ALoop.at (E := envOf Try.prog tt Try.f29.ntmps) (envOf_ok ttok mixed) (X := Nat) (fun k => [(5, .d (I k))]) (fun _ => []) (fun k => k ≤ i ∧ ∀ g ∈ h.fl.take k, ¬ twice g f) (fun k => i - k) 0 (by repeat (first | exact trivial | refine And.intro rfl ?_ | refine And.intro (congrArg (fun n => V.d (I n)) (wrap_nat _ (by omega))) ?_)) rfl ⟨Nat.zero_le _, by simp⟩ ?_
        rintro k ⟨hk, hq⟩
        by_cases hlk : k < i
        · obtain ⟨g, hy, _⟩ := drop_get (l := h.fl) (i := k) (by omega)
          repeat' ((conv => whnf); first | with_reducible refine Dec.t (show true = true from rfl) ?_ | with_reducible refine Dec.t (show false = false from rfl) ?_ | with_reducible refine Dec.f (show ¬ (true = false) by decide) ?_ | with_reducible refine Dec.f (show ¬ (false = true) by decide) ?_ | refine Dec.t (by omega) ?_ | refine Dec.f (by omega) ?_ | refine Dec.split (fun _ => ?_) (fun _ => ?_) | refine Wr.id (by omega) ?_ | refine Chk.mk (by first | omega | exact rfl | (simp only [List.length_map]; omega) | (simp [room]; done) | (simp [room]; omega) | (simp [dropL, room]; done) | (simp [dropL, room]; omega)) ?_ | refine Nam.mk (List.length_map _) ?_ | refine Prep.skip ?_ | refine Eith.l ?_ | refine chk_t (x := D.flat _) (by assumption) ?_ | refine br_mk (fun _ => ?_) (fun _ => ?_) | refine nthK_mk (map_get hx) ?_ | refine nthK_mk (map_get hy) ?_ | fail)
          all_goals first | (exfalso; omega) | skip
          all_goals (conv => whnf)
          all_goals first
            | (have ht : twice g f := by unfold twice; omega
               rw [decide_eq_false (fun hh : h.ok => pair_at hh.lab hlk hy hx ht)]; exact DLe.refl _)
            | (have ht : ¬ twice g f := by unfold twice; omega
               exact ⟨k + 1, Wm.end (by repeat (first | exact trivial | refine And.intro rfl ?_ | refine And.intro (congrArg (fun n => V.d (I n)) (wrap_nat _ (by omega))) ?_)) rfl rfl rfl, ⟨hlk, snoc_all hy ht hq⟩, by omega⟩)
        · have : k = i := by omega
          subst this
          repeat' ((conv => whnf); first | with_reducible refine Dec.t (show true = true from rfl) ?_ | with_reducible refine Dec.t (show false = false from rfl) ?_ | with_reducible refine Dec.f (show ¬ (true = false) by decide) ?_ | with_reducible refine Dec.f (show ¬ (false = true) by decide) ?_ | refine Dec.t (by omega) ?_ | refine Dec.f (by omega) ?_ | refine Dec.split (fun _ => ?_) (fun _ => ?_) | refine Wr.id (by omega) ?_ | refine Chk.mk (by first | omega | exact rfl | (simp only [List.length_map]; omega) | (simp [room]; done) | (simp [room]; omega) | (simp [dropL, room]; done) | (simp [dropL, room]; omega)) ?_ | refine Nam.mk (List.length_map _) ?_ | refine Prep.skip ?_ | refine Eith.l ?_ | refine chk_t (x := D.flat _) (by assumption) ?_ | refine br_mk (fun _ => ?_) (fun _ => ?_) | fail)
          all_goals first | (exfalso; omega) | skip
          all_goals (conv => whnf)
          all_goals first | exact ⟨k + 1, Wm.end (by repeat (first | exact trivial | refine And.intro rfl ?_ | refine And.intro (congrArg (fun n => V.d (I n)) (wrap_nat _ (by omega))) ?_)) rfl rfl rfl, ⟨hlt, snoc_all hx hfo hm2, snoc_pair hx hq hp⟩, by omega⟩
      · rw [decide_eq_false hfo] at hF
        rw [decide_eq_false (fun hh : h.ok => hfo (hh.fl f (List.mem_of_getElem? hx)))]
        repeat' ((conv => whnf); first | with_reducible refine Dec.t (show true = true from rfl) ?_ | with_reducible refine Dec.t (show false = false from rfl) ?_ | with_reducible refine Dec.f (show ¬ (true = false) by decide) ?_ | with_reducible refine Dec.f (show ¬ (false = true) by decide) ?_ | refine Dec.t (by omega) ?_ | refine Dec.f (by omega) ?_ | refine Dec.split (fun _ => ?_) (fun _ => ?_) | refine Wr.id (by omega) ?_ | refine Chk.mk (by first | omega | exact rfl | (simp only [List.length_map]; omega) | (simp [room]; done) | (simp [room]; omega) | (simp [dropL, room]; done) | (simp [dropL, room]; omega)) ?_ | refine Nam.mk (List.length_map _) ?_ | refine Prep.skip ?_ | refine Eith.l ?_ | refine chk_t (x := D.flat _) (by assumption) ?_ | refine br_mk (fun _ => ?_) (fun _ => ?_) | refine nthK_mk (map_get hx) ?_ | refine ACall.of (hF) ?_ | refine APCall.of (hF) ?_ | fail)
        all_goals first | (exfalso; omega) | skip
        all_goals (conv => whnf)
        all_goals first | exact DLe.refl _
    · have : i = h.fl.length := by omega
      subst this
      rw [List.take_length] at hm2 hp
      rw [decide_eq_true (show h.ok from ⟨by omega, g3, by omega, hm, hm2, hp⟩)]
      repeat' ((conv => whnf); first | with_reducible refine Dec.t (show true = true from rfl) ?_ | with_reducible refine Dec.t (show false = false from rfl) ?_ | with_reducible refine Dec.f (show ¬ (true = false) by decide) ?_ | with_reducible refine Dec.f (show ¬ (false = true) by decide) ?_ | refine Dec.t (by omega) ?_ | refine Dec.f (by omega) ?_ | refine Dec.split (fun _ => ?_) (fun _ => ?_) | refine Wr.id (by omega) ?_ | refine Chk.mk (by first | omega | exact rfl | (simp only [List.length_map]; omega) | (simp [room]; done) | (simp [room]; omega) | (simp [dropL, room]; done) | (simp [dropL, room]; omega)) ?_ | refine Nam.mk (List.length_map _) ?_ | refine Prep.skip ?_ | refine Eith.l ?_ | refine chk_t (x := D.flat _) (by assumption) ?_ | refine br_mk (fun _ => ?_) (fun _ => ?_) | fail)
      all_goals first | (exfalso; omega) | skip
      all_goals (conv => whnf)
      all_goals exact DLe.refl _
end Go.PM

