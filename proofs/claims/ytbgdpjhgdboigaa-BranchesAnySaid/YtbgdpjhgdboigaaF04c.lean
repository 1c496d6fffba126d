/- Package facts: Points, Alike, Upto. -/
import Derived.Test.YtbgdpjhgdboigaaF04b
namespace Go.PM
open Go.Proofs
set_option maxRecDepth 10000
set_option maxHeartbeats 1000000

structure Pt where
  day : Int
  value : Int
  deriving DecidableEq
def Pt.d (p : Pt) : D := .agg [I p.day, I p.value]
theorem valOf_vOf (o : Option Fact) : valOf o = if 0 ≤ vOf o then some (vOf o) else none := by
  cases o with
  | none => rfl
  | some f =>
    by_cases h : f.value < 0
    · have : ¬ 0 ≤ vOf (some f) := by rw [show vOf (some f) = if -1 > f.value then -1 else f.value from rfl]; split <;> omega
      rw [if_neg this]; exact if_pos h
    · have e : vOf (some f) = f.value := by rw [show vOf (some f) = if -1 > f.value then -1 else f.value from rfl, if_neg (by omega)]
      rw [e, if_pos (by omega)]; exact if_neg h
def ptOf (day : Int) (o : Option Int) : Option Pt := o.map fun v => ⟨day, v⟩
def pointsF (l : List Fact) (k : Key) (A : Int) (known : Int) (n : Nat) : List Pt := (List.range n).filterMap fun (i : Nat) => ptOf (A + i) (atM l k (A + i) known)
def pointsM (l : List Fact) (k : Key) (a b known : Int) : List Pt := pointsF l k (lo0 a) known (daysN a b)
theorem points_succ (l : List Fact) (k : Key) (A known : Int) (n : Nat) : pointsF l k A known (n + 1) = pointsF l k A known n ++ (ptOf (A + n) (atM l k (A + n) known)).toList := by
  unfold pointsF
  rw [List.range_succ, List.filterMap_append]
  simp only [List.filterMap_cons, List.filterMap_nil]
  cases ptOf (A + n) (atM l k (A + n) known) <;> rfl
theorem points_len (l : List Fact) (k : Key) (A known : Int) : ∀ (n : Nat), (pointsF l k A known n).length ≤ n
  | 0 => by simp [pointsF]
  | n + 1 => by
    rw [points_succ, List.length_append]
    have := points_len l k A known n
    cases ptOf (A + n) (atM l k (A + n) known) <;> simp <;> omega

structure XP where
  i : Nat
  vr : Nat
  lr : Nat
  dp : List D
theorem facts_Points (l : List Fact) (k : Key) (a b known : Int) (hl : l.length < 2 ^ 40) : CallP Try.prog 59 [.d (SL 8 (l.map Fact.d)), .d k.d, .d (I a), .d (I b), .d (I known)] (retD [SL 2 ((pointsM l k a b known).map Pt.d)]) := by
  refine exPure_sound (E := envOf Try.prog tt Try.f59.ntmps) (envOf_ok ttok mixed) Try.func59 (by rfl) rfl rfl (Nat.le_of_ble_eq_true rfl) ?_
  have hvl : (valuesM l k a b known).length = daysN a b := by simp [valuesM]
  have hdn : daysN a b ≤ 1024 := by unfold daysN hi0 lo0; split <;> split <;> omega
  repeat' ((conv => whnf); first | with_reducible refine Dec.t (show true = true from rfl) ?_ | with_reducible refine Dec.t (show false = false from rfl) ?_ | with_reducible refine Dec.f (show ¬ (true = false) by decide) ?_ | with_reducible refine Dec.f (show ¬ (false = true) by decide) ?_ | refine Dec.t (by omega) ?_ | refine Dec.f (by omega) ?_ | refine Dec.split (fun _ => ?_) (fun _ => ?_) | refine Wr.id (by omega) ?_ | refine Chk.mk (by first | omega | exact rfl | (simp only [List.length_map]; omega) | (simp [room]; done) | (simp [room]; omega) | (simp [dropL, room]; done) | (simp [dropL, room]; omega)) ?_ | refine Nam.mk (List.length_map _) ?_ | refine Prep.skip ?_ | refine Eith.l ?_ | refine chk_t (x := D.flat _) (by assumption) ?_ | refine br_mk (fun _ => ?_) (fun _ => ?_) | refine ACall.of (facts_values l k a b known hl) ?_ | refine APCall.of (facts_values l k a b known hl) ?_ | fail)
  all_goals (conv => whnf)
  refine ALoop.virt 10 0 2 false (by decide) rfl ?_
  conv => whnf
  refine ALoop.at (E := envOf Try.prog tt Try.f59.ntmps) (envOf_ok ttok mixed) (X := XP) (fun x => [(26, .d (I x.i)), (10, .sref 1 x.vr 0 x.lr false)]) (fun x => [(1, .row x.vr 2 false x.dp)])
    (fun x => x.i ≤ daysN a b ∧ x.dp = (pointsF l k (lo0 a) known x.i).map Pt.d ∧ x.lr = (pointsF l k (lo0 a) known x.i).length) (fun x => daysN a b - x.i) ⟨0, 0, 0, []⟩ (by repeat (first | exact trivial | refine And.intro rfl ?_ | refine And.intro (congrArg (fun n => V.d (I n)) (wrap_nat _ (by omega))) ?_)) rfl ⟨Nat.zero_le _, rfl, rfl⟩ ?_
  rintro ⟨i, vr, lr, dp⟩ ⟨hi, g1, g2⟩
  simp only at hi g1 g2
  dsimp only
  have hpl := points_len l k (lo0 a) known i
  have hdl : dp.length = lr := by rw [g1, g2, List.length_map]
  by_cases hlt : i < daysN a b
  · have hf : firstM a b = lo0 a := by unfold firstM; rw [if_pos (by unfold daysN at hlt; omega)]
    have hA : 0 ≤ lo0 a ∧ lo0 a ≤ 1024 := by unfold daysN at hlt; unfold lo0 hi0 at *; split at hlt <;> split at hlt <;> split <;> omega
    have hv : ((valuesM l k a b known).map I)[((i : Nat) : Int).toNat]? = some (I (vOf (atF l k (lo0 a + i) known))) := by rw [Int.toNat_natCast, List.getElem?_map, valuesM, range_get _ hlt]; rfl
    have hs := points_succ l k (lo0 a) known i
    have hat : atM l k (lo0 a + i) known = if 0 ≤ vOf (atF l k (lo0 a + i) known) then some (vOf (atF l k (lo0 a + i) known)) else none := valOf_vOf _
    rw [hat] at hs
    rw [hf]
    generalize vOf (atF l k (lo0 a + i) known) = v at hv hs
    repeat' ((conv => whnf); first | with_reducible refine Dec.t (show true = true from rfl) ?_ | with_reducible refine Dec.t (show false = false from rfl) ?_ | with_reducible refine Dec.f (show ¬ (true = false) by decide) ?_ | with_reducible refine Dec.f (show ¬ (false = true) by decide) ?_ | refine Dec.t (by omega) ?_ | refine Dec.f (by omega) ?_ | refine Dec.split (fun _ => ?_) (fun _ => ?_) | refine Wr.id (by omega) ?_ | refine Chk.mk (by first | omega | exact rfl | (simp only [List.length_map]; omega) | (simp [room]; done) | (simp [room]; omega) | (simp [dropL, room]; done) | (simp [dropL, room]; omega)) ?_ | refine Nam.mk (List.length_map _) ?_ | refine Prep.skip ?_ | refine Eith.l ?_ | refine chk_t (x := D.flat _) (by assumption) ?_ | refine br_mk (fun _ => ?_) (fun _ => ?_) | refine nthK_mk hv ?_ | fail)
    all_goals (conv => whnf)
    · rename_i h
      rw [if_pos h] at hs
      exact ⟨⟨i + 1, vr + 1, lr + 1, dp ++ [Pt.d ⟨lo0 a + i, v⟩]⟩, Wm.end (by repeat (first | exact trivial | refine And.intro rfl ?_ | refine And.intro (congrArg (fun n => V.d (I n)) (wrap_nat _ (by omega))) ?_)) rfl rfl rfl, ⟨hlt, by simp only; rw [hs, List.map_append, ← g1]; rfl, by simp only; rw [hs, List.length_append, ← g2]; rfl⟩, by simp only; omega⟩
    · rename_i h
      rw [if_neg h] at hs
      have hs : pointsF l k (lo0 a) known (i + 1) = pointsF l k (lo0 a) known i := by rw [hs]; simp [ptOf]
      exact ⟨⟨i + 1, vr, lr, dp⟩, Wm.end (by repeat (first | exact trivial | refine And.intro rfl ?_ | refine And.intro (congrArg (fun n => V.d (I n)) (wrap_nat _ (by omega))) ?_)) rfl rfl rfl, ⟨hlt, by simp only; rw [hs]; exact g1, by simp only; rw [hs]; exact g2⟩, by simp only; omega⟩
  · have : i = daysN a b := by omega
    subst this
    repeat' ((conv => whnf); first | with_reducible refine Dec.t (show true = true from rfl) ?_ | with_reducible refine Dec.t (show false = false from rfl) ?_ | with_reducible refine Dec.f (show ¬ (true = false) by decide) ?_ | with_reducible refine Dec.f (show ¬ (false = true) by decide) ?_ | refine Dec.t (by omega) ?_ | refine Dec.f (by omega) ?_ | refine Dec.split (fun _ => ?_) (fun _ => ?_) | refine Wr.id (by omega) ?_ | refine Chk.mk (by first | omega | exact rfl | (simp only [List.length_map]; omega) | (simp [room]; done) | (simp [room]; omega) | (simp [dropL, room]; done) | (simp [dropL, room]; omega)) ?_ | refine Nam.mk (List.length_map _) ?_ | refine Prep.skip ?_ | refine Eith.l ?_ | refine chk_t (x := D.flat _) (by assumption) ?_ | refine br_mk (fun _ => ?_) (fun _ => ?_) | refine Nam.mk ((whole hdl.symm).trans g1) ?_ | fail)
    all_goals (conv => whnf)
    exact (by repeat (first | exact trivial | exact rfl | exact DLe.refl _ | exact DLe.full _ _ _ | exact DLe.nil _ _ _ | exact VLe.refl _ | refine And.intro ?_ ?_ | refine VLe.d ?_ | refine DLe.agg ?_))
/-- All that was looked at is known alike. -/
def alikeM (l : List Fact) (rs : List Read) (a b : Int) : Prop := ∀ r ∈ rs, valuesM l r.key r.from_ r.to_ a = valuesM l r.key r.from_ r.to_ b
instance (l : List Fact) (rs : List Read) (a b : Int) : Decidable (alikeM l rs a b) := by unfold alikeM; infer_instance
end Go.PM

