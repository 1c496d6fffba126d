/- Package facts: Points, Alike, Upto. -/
import Derived.Test.YtghlkcnmocgkaaaF04b
namespace Go.PM
open Go.Proofs
set_option maxRecDepth 10000
set_option maxHeartbeats 1000000

structure Pt where
  day : Int
  value : Int
  deriving DecidableEq
def Pt.d (p : Pt) : D := .agg [I p.day, I p.value]
theorem valOf_vOf (o : Option Fact) : valOf o = if 0 ≤ vOf o then some (vOf o) else none := by
  cases o with
  | none => rfl
  | some f =>
    by_cases h : f.value < 0
    · have : ¬ 0 ≤ vOf (some f) := by rw [show vOf (some f) = if -1 > f.value then -1 else f.value from rfl]; split <;> omega
      rw [if_neg this]; exact if_pos h
    · have e : vOf (some f) = f.value := by rw [show vOf (some f) = if -1 > f.value then -1 else f.value from rfl, if_neg (by omega)]
      rw [e, if_pos (by omega)]; exact if_neg h
def ptOf (day : Int) (o : Option Int) : Option Pt := o.map fun v => ⟨day, v⟩
def pointsF (l : List Fact) (k : Key) (A : Int) (known : Int) (n : Nat) : List Pt := (List.range n).filterMap fun (i : Nat) => ptOf (A + i) (atM l k (A + i) known)
def pointsM (l : List Fact) (k : Key) (a b known : Int) : List Pt := pointsF l k (lo0 a) known (daysN a b)
theorem points_succ (l : List Fact) (k : Key) (A known : Int) (n : Nat) : pointsF l k A known (n + 1) = pointsF l k A known n ++ (ptOf (A + n) (atM l k (A + n) known)).toList := by
  unfold pointsF
  rw [List.range_succ, List.filterMap_append]
  simp only [List.filterMap_cons, List.filterMap_nil]
  cases ptOf (A + n) (atM l k (A + n) known) <;> rfl
theorem points_len (l : List Fact) (k : Key) (A known : Int) : ∀ (n : Nat), (pointsF l k A known n).length ≤ n
  | 0 => by simp [pointsF]
  | n + 1 => by
    rw [points_succ, List.length_append]
    have := points_len l k A known n
    cases ptOf (A + n) (atM l k (A + n) known) <;> simp <;> omega

structure XP where
  i : Nat
  vr : Nat
  lr : Nat
  dp : List D
theorem facts_Points (l : List Fact) (k : Key) (a b known : Int) (hl : l.length < 2 ^ 40) : CallP Try.prog 73 [.d (SL 8 (l.map Fact.d)), .d k.d, .d (I a), .d (I b), .d (I known)] (retD [SL 2 ((pointsM l k a b known).map Pt.d)]) := by
  refine exPure_sound (E := envOf Try.prog tt Try.f73.ntmps) (envOf_ok ttok mixed) Try.func73 (by rfl) rfl rfl (Nat.le_of_ble_eq_true rfl) ?_
  have hvl : (valuesM l k a b known).length = daysN a b := by simp [valuesM]
  have hdn : daysN a b ≤ 1024 := by unfold daysN hi0 lo0; split <;> split <;> omega
  repeat' ((conv => whnf); first | with_reducible refine Dec.t (show true = true from rfl) ?_ | with_reducible refine Dec.t (show false = false from rfl) ?_ | with_reducible refine Dec.f (show ¬ (true = false) by decide) ?_ | with_reducible refine Dec.f (show ¬ (false = true) by decide) ?_ | refine Dec.t (by omega) ?_ | refine Dec.f (by omega) ?_ | refine Dec.split (fun _ => ?_) (fun _ => ?_) | refine Wr.id (by omega) ?_ | refine Chk.mk (by first | omega | exact rfl | (simp only [List.length_map]; omega) | (simp [room]; done) | (simp [room]; omega) | (simp [dropL, room]; done) | (simp [dropL, room]; omega)) ?_ | refine Nam.mk (List.length_map _) ?_ | refine Prep.skip ?_ | refine Eith.l ?_ | refine chk_t (x := D.flat _) (by assumption) ?_ | refine br_mk (fun _ => ?_) (fun _ => ?_) | refine ACall.of (facts_values l k a b known hl) ?_ | refine APCall.of (facts_values l k a b known hl) ?_ | fail)
  all_goals (conv => whnf)
  refine ALoop.virt 10 0 2 false (by decide) rfl ?_
  conv => whnf
  refine ALoop.at (E := envOf Try.prog tt Try.f73.ntmps) (envOf_ok ttok mixed) (X := XP) (fun x => [(26, .d (I x.i)), (10, .sref 1 x.vr 0 x.lr false)]) (fun x => [(1, .row x.vr 2 false x.dp)])
    (fun x => x.i ≤ daysN a b ∧ x.dp = (pointsF l k (lo0 a) known x.i).map Pt.d ∧ x.lr = (pointsF l k (lo0 a) known x.i).length) (fun x => daysN a b - x.i) ⟨0, 0, 0, []⟩ (by repeat (first | exact trivial | refine And.intro rfl ?_ | refine And.intro (congrArg (fun n => V.d (I n)) (wrap_nat _ (by omega))) ?_)) rfl ⟨Nat.zero_le _, rfl, rfl⟩ ?_
  rintro ⟨i, vr, lr, dp⟩ ⟨hi, g1, g2⟩
  simp only at hi g1 g2
  dsimp only
  have hpl := points_len l k (lo0 a) known i
  have hdl : dp.length = lr := by rw [g1, g2, List.length_map]
  by_cases hlt : i < daysN a b
  · have hf : firstM a b = lo0 a := by unfold firstM; rw [if_pos (by unfold daysN at hlt; omega)]
    have hA : 0 ≤ lo0 a ∧ lo0 a ≤ 1024 := by unfold daysN at hlt; unfold lo0 hi0 at *; split at hlt <;> split at hlt <;> split <;> omega
    have hv : ((valuesM l k a b known).map I)[((i : Nat) : Int).toNat]? = some (I (vOf (atF l k (lo0 a + i) known))) := by rw [Int.toNat_natCast, List.getElem?_map, valuesM, range_get _ hlt]; rfl
    have hs := points_succ l k (lo0 a) known i
    have hat : atM l k (lo0 a + i) known = if 0 ≤ vOf (atF l k (lo0 a + i) known) then some (vOf (atF l k (lo0 a + i) known)) else none := valOf_vOf _
    rw [hat] at hs
    rw [hf]
    generalize vOf (atF l k (lo0 a + i) known) = v at hv hs
    repeat' ((conv => whnf); first | with_reducible refine Dec.t (show true = true from rfl) ?_ | with_reducible refine Dec.t (show false = false from rfl) ?_ | with_reducible refine Dec.f (show ¬ (true = false) by decide) ?_ | with_reducible refine Dec.f (show ¬ (false = true) by decide) ?_ | refine Dec.t (by omega) ?_ | refine Dec.f (by omega) ?_ | refine Dec.split (fun _ => ?_) (fun _ => ?_) | refine Wr.id (by omega) ?_ | refine Chk.mk (by first | omega | exact rfl | (simp only [List.length_map]; omega) | (simp [room]; done) | (simp [room]; omega) | (simp [dropL, room]; done) | (simp [dropL, room]; omega)) ?_ | refine Nam.mk (List.length_map _) ?_ | refine Prep.skip ?_ | refine Eith.l ?_ | refine chk_t (x := D.flat _) (by assumption) ?_ | refine br_mk (fun _ => ?_) (fun _ => ?_) | refine nthK_mk hv ?_ | fail)
    all_goals (conv => whnf)
    · rename_i h
      rw [if_pos h] at hs
      exact ⟨⟨i + 1, vr + 1, lr + 1, dp ++ [Pt.d ⟨lo0 a + i, v⟩]⟩, Wm.end (by repeat (first | exact trivial | refine And.intro rfl ?_ | refine And.intro (congrArg (fun n => V.d (I n)) (wrap_nat _ (by omega))) ?_)) rfl rfl rfl, ⟨hlt, by simp only; rw [hs, List.map_append, ← g1]; rfl, by simp only; rw [hs, List.length_append, ← g2]; rfl⟩, by simp only; omega⟩
    · rename_i h
      rw [if_neg h] at hs
      have hs : pointsF l k (lo0 a) known (i + 1) = pointsF l k (lo0 a) known i := by rw [hs]; simp [ptOf]
      exact ⟨⟨i + 1, vr, lr, dp⟩, Wm.end (by repeat (first | exact trivial | refine And.intro rfl ?_ | refine And.intro (congrArg (fun n => V.d (I n)) (wrap_nat _ (by omega))) ?_)) rfl rfl rfl, ⟨hlt, by simp only; rw [hs]; exact g1, by simp only; rw [hs]; exact g2⟩, by simp only; omega⟩
  · have : i = daysN a b := by omega
    subst this
    repeat' ((conv => whnf); first | with_reducible refine Dec.t (show true = true from rfl) ?_ | with_reducible refine Dec.t (show false = false from rfl) ?_ | with_reducible refine Dec.f (show ¬ (true = false) by decide) ?_ | with_reducible refine Dec.f (show ¬ (false = true) by decide) ?_ | refine Dec.t (by omega) ?_ | refine Dec.f (by omega) ?_ | refine Dec.split (fun _ => ?_) (fun _ => ?_) | refine Wr.id (by omega) ?_ | refine Chk.mk (by first | omega | exact rfl | (simp only [List.length_map]; omega) | (simp [room]; done) | (simp [room]; omega) | (simp [dropL, room]; done) | (simp [dropL, room]; omega)) ?_ | refine Nam.mk (List.length_map _) ?_ | refine Prep.skip ?_ | refine Eith.l ?_ | refine chk_t (x := D.flat _) (by assumption) ?_ | refine br_mk (fun _ => ?_) (fun _ => ?_) | refine Nam.mk ((whole hdl.symm).trans g1) ?_ | fail)
    all_goals (conv => whnf)
    exact (by repeat (first | exact trivial | exact rfl | exact DLe.refl _ | exact DLe.full _ _ _ | exact DLe.nil _ _ _ | exact VLe.refl _ | refine And.intro ?_ ?_ | refine VLe.d ?_ | refine DLe.agg ?_))

theorem slices_Equal_int (a b : List (Int)) (hl : a.length < 2 ^ 40)  : CallP Try.prog 49 [.d (SL 1 (a.map I)), .d (SL 1 (b.map I))] (retD [.b (decide (a = b))]) := by
  refine exPure_sound (E := envOf Try.prog tt Try.f49.ntmps) (envOf_ok ttok mixed) Try.func49 (by rfl) rfl rfl (Nat.le_of_ble_eq_true rfl) ?_
  by_cases he : a.length = b.length
  · repeat' ((conv => whnf); first | with_reducible refine Dec.t (show true = true from rfl) ?_ | with_reducible refine Dec.t (show false = false from rfl) ?_ | with_reducible refine Dec.f (show ¬ (true = false) by decide) ?_ | with_reducible refine Dec.f (show ¬ (false = true) by decide) ?_ | refine Dec.t (by omega) ?_ | refine Dec.f (by omega) ?_ | refine Dec.split (fun _ => ?_) (fun _ => ?_) | refine Wr.id (by omega) ?_ | refine Chk.mk (by first | omega | exact rfl | (simp only [List.length_map]; omega) | (simp [room]; done) | (simp [room]; omega) | (simp [dropL, room]; done) | (simp [dropL, room]; omega)) ?_ | refine Nam.mk (List.length_map _) ?_ | refine Prep.skip ?_ | refine Eith.l ?_ | refine chk_t (x := D.flat _) (by assumption) ?_ | refine br_mk (fun _ => ?_) (fun _ => ?_))
    conv => whnf
    refine ALoop.at (E := envOf Try.prog tt Try.f49.ntmps) (envOf_ok ttok mixed) (X := Nat) (fun i => [(13, .d (I i))]) (fun _ => []) (fun i => i ≤ a.length ∧ a.take i = b.take i) (fun i => a.length - i) 0 (by repeat (first | exact trivial | refine And.intro rfl ?_ | refine And.intro (congrArg (fun n => V.d (I n)) (wrap_nat _ (by omega))) ?_)) rfl ⟨Nat.zero_le _, rfl⟩ ?_
    rintro i ⟨hi, hm⟩
    by_cases hlt : i < a.length
    · obtain ⟨x, hx, _⟩ := drop_get hlt
      obtain ⟨y, hy, _⟩ := drop_get (l := b) (i := i) (by omega)
      repeat' ((conv => whnf); first | with_reducible refine Dec.t (show true = true from rfl) ?_ | with_reducible refine Dec.t (show false = false from rfl) ?_ | with_reducible refine Dec.f (show ¬ (true = false) by decide) ?_ | with_reducible refine Dec.f (show ¬ (false = true) by decide) ?_ | refine Dec.t (by omega) ?_ | refine Dec.f (by omega) ?_ | refine Dec.split (fun _ => ?_) (fun _ => ?_) | refine Wr.id (by omega) ?_ | refine Chk.mk (by first | omega | exact rfl | (simp only [List.length_map]; omega) | (simp [room]; done) | (simp [room]; omega) | (simp [dropL, room]; done) | (simp [dropL, room]; omega)) ?_ | refine Nam.mk (List.length_map _) ?_ | refine Prep.skip ?_ | refine Eith.l ?_ | refine chk_t (x := D.flat _) (by assumption) ?_ | refine br_mk (fun _ => ?_) (fun _ => ?_) | refine nthK_mk (map_get hx) ?_ | refine nthK_mk (map_get hy) ?_ | fail)
      all_goals (conv => whnf)
      all_goals try simp only [decide_eq_true_eq, decide_eq_false_iff_not] at *
      all_goals first
        | (have e : x = y := by first | assumption | (simp_all; done)
           subst e
           refine ⟨i + 1, Wm.end (by repeat (first | exact trivial | refine And.intro rfl ?_ | refine And.intro (congrArg (fun n => V.d (I n)) (wrap_nat _ (by omega))) ?_)) rfl rfl rfl, ⟨hlt, ?_⟩, by omega⟩
           rw [List.take_add_one, List.take_add_one, hm, hx, hy])
        | (have e : ¬ x = y := by first | assumption | (simp_all; done)
           rw [decide_eq_false (fun h => e (by subst h; rw [hx] at hy; exact Option.some.inj hy))]; exact DLe.refl _)
    · have : i = a.length := by omega
      subst this
      rw [List.take_length, he, List.take_length] at hm
      repeat' ((conv => whnf); first | with_reducible refine Dec.t (show true = true from rfl) ?_ | with_reducible refine Dec.t (show false = false from rfl) ?_ | with_reducible refine Dec.f (show ¬ (true = false) by decide) ?_ | with_reducible refine Dec.f (show ¬ (false = true) by decide) ?_ | refine Dec.t (by omega) ?_ | refine Dec.f (by omega) ?_ | refine Dec.split (fun _ => ?_) (fun _ => ?_) | refine Wr.id (by omega) ?_ | refine Chk.mk (by first | omega | exact rfl | (simp only [List.length_map]; omega) | (simp [room]; done) | (simp [room]; omega) | (simp [dropL, room]; done) | (simp [dropL, room]; omega)) ?_ | refine Nam.mk (List.length_map _) ?_ | refine Prep.skip ?_ | refine Eith.l ?_ | refine chk_t (x := D.flat _) (by assumption) ?_ | refine br_mk (fun _ => ?_) (fun _ => ?_))
      all_goals (conv => whnf)
      rw [decide_eq_true hm]; exact DLe.refl _
  · repeat' ((conv => whnf); first | with_reducible refine Dec.t (show true = true from rfl) ?_ | with_reducible refine Dec.t (show false = false from rfl) ?_ | with_reducible refine Dec.f (show ¬ (true = false) by decide) ?_ | with_reducible refine Dec.f (show ¬ (false = true) by decide) ?_ | refine Dec.t (by omega) ?_ | refine Dec.f (by omega) ?_ | refine Dec.split (fun _ => ?_) (fun _ => ?_) | refine Wr.id (by omega) ?_ | refine Chk.mk (by first | omega | exact rfl | (simp only [List.length_map]; omega) | (simp [room]; done) | (simp [room]; omega) | (simp [dropL, room]; done) | (simp [dropL, room]; omega)) ?_ | refine Nam.mk (List.length_map _) ?_ | refine Prep.skip ?_ | refine Eith.l ?_ | refine chk_t (x := D.flat _) (by assumption) ?_ | refine br_mk (fun _ => ?_) (fun _ => ?_))
    all_goals (conv => whnf)
    rw [decide_eq_false (fun h => he (by rw [h]))]; exact DLe.refl _

theorem facts_Upto (l : List Fact) (known : Int) (hl : l.length < 2 ^ 20) : CallP Try.prog 24 [.d (SL 8 (l.map Fact.d)), .d (I known)] (retD [SL 8 ((l.filter fun f => f.known ≤ known).map Fact.d)]) := by
  refine exPure_sound (E := envOf Try.prog tt Try.f24.ntmps) (envOf_ok ttok mixed) Try.func24 (by rfl) rfl rfl (Nat.le_of_ble_eq_true rfl) ?_
  repeat' ((conv => whnf); first | with_reducible refine Dec.t (show true = true from rfl) ?_ | with_reducible refine Dec.t (show false = false from rfl) ?_ | with_reducible refine Dec.f (show ¬ (true = false) by decide) ?_ | with_reducible refine Dec.f (show ¬ (false = true) by decide) ?_ | refine Dec.t (by omega) ?_ | refine Dec.f (by omega) ?_ | refine Dec.split (fun _ => ?_) (fun _ => ?_) | refine Wr.id (by omega) ?_ | refine Chk.mk (by first | omega | exact rfl | (simp only [List.length_map]; omega) | (simp [room]; done) | (simp [room]; omega) | (simp [dropL, room]; done) | (simp [dropL, room]; omega)) ?_ | refine Nam.mk (List.length_map _) ?_ | refine Prep.skip ?_ | refine Eith.l ?_ | refine chk_t (x := D.flat _) (by assumption) ?_ | refine br_mk (fun _ => ?_) (fun _ => ?_) | fail)
  all_goals (conv => whnf)
  refine ALoop.virt 4 0 8 false (by decide) rfl ?_
  conv => whnf
  refine ALoop.at (E := envOf Try.prog tt Try.f24.ntmps) (envOf_ok ttok mixed) (X := XP) (fun x => [(9, .d (I x.i)), (4, .sref 0 x.vr 0 x.lr false)]) (fun x => [(0, .row x.vr 8 false x.dp)])
    (fun x => x.i ≤ l.length ∧ x.dp = ((l.take x.i).filter fun f => decide (f.known ≤ known)).map Fact.d ∧ x.lr = ((l.take x.i).filter fun f => decide (f.known ≤ known)).length) (fun x => l.length - x.i) ⟨0, 0, 0, []⟩ (by repeat (first | exact trivial | refine And.intro rfl ?_ | refine And.intro (congrArg (fun n => V.d (I n)) (wrap_nat _ (by omega))) ?_)) rfl ⟨Nat.zero_le _, rfl, rfl⟩ ?_
  rintro ⟨i, vr, lr, dp⟩ ⟨hi, g1, g2⟩
  simp only at hi g1 g2
  dsimp only
  have hdl : dp.length = lr := by rw [g1, g2, List.length_map]
  have hle : lr ≤ i := by rw [g2]; exact Nat.le_trans (List.length_filter_le _ _) (by simp; omega)
  by_cases hlt : i < l.length
  · obtain ⟨f, hx, _⟩ := drop_get hlt
    have hs : (l.take (i + 1)).filter (fun f => decide (f.known ≤ known)) = (l.take i).filter (fun f => decide (f.known ≤ known)) ++ [f].filter (fun f => decide (f.known ≤ known)) := by rw [List.take_add_one, hx, List.filter_append]; rfl
    repeat' ((conv => whnf); first | with_reducible refine Dec.t (show true = true from rfl) ?_ | with_reducible refine Dec.t (show false = false from rfl) ?_ | with_reducible refine Dec.f (show ¬ (true = false) by decide) ?_ | with_reducible refine Dec.f (show ¬ (false = true) by decide) ?_ | refine Dec.t (by omega) ?_ | refine Dec.f (by omega) ?_ | refine Dec.split (fun _ => ?_) (fun _ => ?_) | refine Wr.id (by omega) ?_ | refine Chk.mk (by first | omega | exact rfl | (simp only [List.length_map]; omega) | (simp [room]; done) | (simp [room]; omega) | (simp [dropL, room]; done) | (simp [dropL, room]; omega)) ?_ | refine Nam.mk (List.length_map _) ?_ | refine Prep.skip ?_ | refine Eith.l ?_ | refine chk_t (x := D.flat _) (by assumption) ?_ | refine br_mk (fun _ => ?_) (fun _ => ?_) | refine nthK_mk (map_get hx) ?_ | fail)
    all_goals (conv => whnf)
    · rename_i h
      have hs2 : [f].filter (fun f => decide (f.known ≤ known)) = [f] := by simp [h]
      rw [hs2] at hs
      exact ⟨⟨i + 1, vr + 1, lr + 1, dp ++ [f.d]⟩, Wm.end (by repeat (first | exact trivial | refine And.intro rfl ?_ | refine And.intro (congrArg (fun n => V.d (I n)) (wrap_nat _ (by omega))) ?_)) rfl rfl rfl, ⟨hlt, by simp only; rw [hs, List.map_append, ← g1]; rfl, by simp only; rw [hs, List.length_append, ← g2]; rfl⟩, by simp only; omega⟩
    · rename_i h
      have hs2 : [f].filter (fun f => decide (f.known ≤ known)) = [] := by simp; omega
      rw [hs2, List.append_nil] at hs
      exact ⟨⟨i + 1, vr, lr, dp⟩, Wm.end (by repeat (first | exact trivial | refine And.intro rfl ?_ | refine And.intro (congrArg (fun n => V.d (I n)) (wrap_nat _ (by omega))) ?_)) rfl rfl rfl, ⟨hlt, by simp only; rw [hs]; exact g1, by simp only; rw [hs]; exact g2⟩, by simp only; omega⟩
  · have : i = l.length := by omega
    subst this
    rw [List.take_length] at g1
    repeat' ((conv => whnf); first | with_reducible refine Dec.t (show true = true from rfl) ?_ | with_reducible refine Dec.t (show false = false from rfl) ?_ | with_reducible refine Dec.f (show ¬ (true = false) by decide) ?_ | with_reducible refine Dec.f (show ¬ (false = true) by decide) ?_ | refine Dec.t (by omega) ?_ | refine Dec.f (by omega) ?_ | refine Dec.split (fun _ => ?_) (fun _ => ?_) | refine Wr.id (by omega) ?_ | refine Chk.mk (by first | omega | exact rfl | (simp only [List.length_map]; omega) | (simp [room]; done) | (simp [room]; omega) | (simp [dropL, room]; done) | (simp [dropL, room]; omega)) ?_ | refine Nam.mk (List.length_map _) ?_ | refine Prep.skip ?_ | refine Eith.l ?_ | refine chk_t (x := D.flat _) (by assumption) ?_ | refine br_mk (fun _ => ?_) (fun _ => ?_) | refine Nam.mk ((whole hdl.symm).trans g1) ?_ | fail)
    all_goals (conv => whnf)
    exact (by repeat (first | exact trivial | exact rfl | exact DLe.refl _ | exact DLe.full _ _ _ | exact DLe.nil _ _ _ | exact VLe.refl _ | refine And.intro ?_ ?_ | refine VLe.d ?_ | refine DLe.agg ?_))
/-- All that was looked at is known alike. -/
def alikeM (l : List Fact) (rs : List Read) (a b : Int) : Prop := ∀ r ∈ rs, valuesM l r.key r.from_ r.to_ a = valuesM l r.key r.from_ r.to_ b
instance (l : List Fact) (rs : List Read) (a b : Int) : Decidable (alikeM l rs a b) := by unfold alikeM; infer_instance
theorem facts_Alike (l : List Fact) (rs : List Read) (a b : Int) (hl : l.length < 2 ^ 40) (hr : rs.length < 2 ^ 40) : CallP Try.prog 25 [.d (SL 8 (l.map Fact.d)), .d (SL 5 (rs.map Read.d)), .d (I a), .d (I b)] (retD [.b (decide (alikeM l rs a b))]) := by
  refine exPure_sound (E := envOf Try.prog tt Try.f25.ntmps) (envOf_ok ttok mixed) Try.func25 (by rfl) rfl rfl (Nat.le_of_ble_eq_true rfl) ?_
  repeat' ((conv => whnf); first | with_reducible refine Dec.t (show true = true from rfl) ?_ | with_reducible refine Dec.t (show false = false from rfl) ?_ | with_reducible refine Dec.f (show ¬ (true = false) by decide) ?_ | with_reducible refine Dec.f (show ¬ (false = true) by decide) ?_ | refine Dec.t (by omega) ?_ | refine Dec.f (by omega) ?_ | refine Dec.split (fun _ => ?_) (fun _ => ?_) | refine Wr.id (by omega) ?_ | refine Chk.mk (by first | omega | exact rfl | (simp only [List.length_map]; omega) | (simp [room]; done) | (simp [room]; omega) | (simp [dropL, room]; done) | (simp [dropL, room]; omega)) ?_ | refine Nam.mk (List.length_map _) ?_ | refine Prep.skip ?_ | refine Eith.l ?_ | refine chk_t (x := D.flat _) (by assumption) ?_ | refine br_mk (fun _ => ?_) (fun _ => ?_) | fail)
  all_goals (conv => whnf)
  refine ALoop.at (E := envOf Try.prog tt Try.f25.ntmps) (envOf_ok ttok mixed) (X := Nat) (fun i => [(17, .d (I i))]) (fun _ => []) (fun i => i ≤ rs.length ∧ alikeM l (rs.take i) a b) (fun i => rs.length - i) 0 (by repeat (first | exact trivial | refine And.intro rfl ?_ | refine And.intro (congrArg (fun n => V.d (I n)) (wrap_nat _ (by omega))) ?_)) rfl ⟨Nat.zero_le _, by simp [alikeM]⟩ ?_
  rintro i ⟨hi, hm⟩
  by_cases hlt : i < rs.length
  · obtain ⟨r, hx, _⟩ := drop_get hlt
    have hlen : ∀ t, (valuesM l r.key r.from_ r.to_ t).length < 2 ^ 40 := fun t => by
      have : daysN r.from_ r.to_ ≤ 1024 := by unfold daysN hi0 lo0; split <;> split <;> omega
      simp [valuesM]; omega
    repeat' ((conv => whnf); first | with_reducible refine Dec.t (show true = true from rfl) ?_ | with_reducible refine Dec.t (show false = false from rfl) ?_ | with_reducible refine Dec.f (show ¬ (true = false) by decide) ?_ | with_reducible refine Dec.f (show ¬ (false = true) by decide) ?_ | refine Dec.t (by omega) ?_ | refine Dec.f (by omega) ?_ | refine Dec.split (fun _ => ?_) (fun _ => ?_) | refine Wr.id (by omega) ?_ | refine Chk.mk (by first | omega | exact rfl | (simp only [List.length_map]; omega) | (simp [room]; done) | (simp [room]; omega) | (simp [dropL, room]; done) | (simp [dropL, room]; omega)) ?_ | refine Nam.mk (List.length_map _) ?_ | refine Prep.skip ?_ | refine Eith.l ?_ | refine chk_t (x := D.flat _) (by assumption) ?_ | refine br_mk (fun _ => ?_) (fun _ => ?_) | refine nthK_mk (map_get hx) ?_ | refine ACall.of (facts_values l r.key r.from_ r.to_ a hl) ?_ | refine APCall.of (facts_values l r.key r.from_ r.to_ a hl) ?_ | refine ACall.of (facts_values l r.key r.from_ r.to_ b hl) ?_ | refine APCall.of (facts_values l r.key r.from_ r.to_ b hl) ?_ | refine ACall.ofB (slices_Equal_int _ _ (hlen _)) (fun _ => ?_) (fun _ => ?_) | refine APCall.ofB (slices_Equal_int _ _ (hlen _)) (fun _ => ?_) (fun _ => ?_) | fail)
    all_goals (conv => whnf)
    all_goals try simp only [decide_eq_true_eq, decide_eq_false_iff_not] at *
    · rename_i h
      refine ⟨i + 1, Wm.end (by repeat (first | exact trivial | refine And.intro rfl ?_ | refine And.intro (congrArg (fun n => V.d (I n)) (wrap_nat _ (by omega))) ?_)) rfl rfl rfl, ⟨hlt, fun q hq => ?_⟩, by omega⟩
      rw [List.take_add_one, hx, List.mem_append] at hq
      rcases hq with hq | hq
      · exact hm q hq
      · simp at hq; subst hq; exact h
    · rename_i h
      rw [decide_eq_false (fun hh => h (hh r (List.mem_of_getElem? hx)))]; exact (by repeat (first | exact trivial | exact rfl | exact DLe.refl _ | exact DLe.full _ _ _ | exact DLe.nil _ _ _ | exact VLe.refl _ | refine And.intro ?_ ?_ | refine VLe.d ?_ | refine DLe.agg ?_))
  · have : i = rs.length := by omega
    subst this
    rw [List.take_length] at hm
    repeat' ((conv => whnf); first | with_reducible refine Dec.t (show true = true from rfl) ?_ | with_reducible refine Dec.t (show false = false from rfl) ?_ | with_reducible refine Dec.f (show ¬ (true = false) by decide) ?_ | with_reducible refine Dec.f (show ¬ (false = true) by decide) ?_ | refine Dec.t (by omega) ?_ | refine Dec.f (by omega) ?_ | refine Dec.split (fun _ => ?_) (fun _ => ?_) | refine Wr.id (by omega) ?_ | refine Chk.mk (by first | omega | exact rfl | (simp only [List.length_map]; omega) | (simp [room]; done) | (simp [room]; omega) | (simp [dropL, room]; done) | (simp [dropL, room]; omega)) ?_ | refine Nam.mk (List.length_map _) ?_ | refine Prep.skip ?_ | refine Eith.l ?_ | refine chk_t (x := D.flat _) (by assumption) ?_ | refine br_mk (fun _ => ?_) (fun _ => ?_) | fail)
    all_goals (conv => whnf)
    rw [decide_eq_true hm]; exact (by repeat (first | exact trivial | exact rfl | exact DLe.refl _ | exact DLe.full _ _ _ | exact DLe.nil _ _ _ | exact VLe.refl _ | refine And.intro ?_ ?_ | refine VLe.d ?_ | refine DLe.agg ?_))
end Go.PM

