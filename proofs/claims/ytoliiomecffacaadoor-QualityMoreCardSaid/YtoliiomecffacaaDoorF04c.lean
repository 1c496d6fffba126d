/- Package facts: Points, Alike, Upto. -/
import Derived.Test.YtoliiomecffacaaDoorF04b
namespace Go.PM
open Go.Proofs
set_option maxRecDepth 10000
set_option maxHeartbeats 1000000

structure Pt where
  day : Int
  value : Int
  deriving DecidableEq
def Pt.d (p : Pt) : D := .agg [I p.day, I p.value]
theorem valOf_vOf (o : Option Fact) : valOf o = if 0 ≤ vOf o then some (vOf o) else none := by
  cases o with
  | none => rfl
  | some f =>
    by_cases h : f.value < 0
    · have : ¬ 0 ≤ vOf (some f) := by rw [show vOf (some f) = if -1 > f.value then -1 else f.value from rfl]; split <;> omega
      rw [if_neg this]; exact if_pos h
    · have e : vOf (some f) = f.value := by rw [show vOf (some f) = if -1 > f.value then -1 else f.value from rfl, if_neg (by omega)]
      rw [e, if_pos (by omega)]; exact if_neg h
def ptOf (day : Int) (o : Option Int) : Option Pt := o.map fun v => ⟨day, v⟩
def pointsF (l : List Fact) (k : Key) (A : Int) (known : Int) (n : Nat) : List Pt := (List.range n).filterMap fun (i : Nat) => ptOf (A + i) (atM l k (A + i) known)
def pointsM (l : List Fact) (k : Key) (a b known : Int) : List Pt := pointsF l k (lo0 a) known (daysN a b)
theorem points_succ (l : List Fact) (k : Key) (A known : Int) (n : Nat) : pointsF l k A known (n + 1) = pointsF l k A known n ++ (ptOf (A + n) (atM l k (A + n) known)).toList := by
  unfold pointsF
  rw [List.range_succ, List.filterMap_append]
  simp only [List.filterMap_cons, List.filterMap_nil]
  cases ptOf (A + n) (atM l k (A + n) known) <;> rfl
theorem points_len (l : List Fact) (k : Key) (A known : Int) : ∀ (n : Nat), (pointsF l k A known n).length ≤ n
  | 0 => by simp [pointsF]
  | n + 1 => by
    rw [points_succ, List.length_append]
    have := points_len l k A known n
    cases ptOf (A + n) (atM l k (A + n) known) <;> simp <;> omega

structure XP where
  i : Nat
  vr : Nat
  lr : Nat
  dp : List D

theorem slices_Equal_int (a b : List (Int)) (hl : a.length < 2 ^ 40)  : CallP Tryd.prog 44 [.d (SL 1 (a.map I)), .d (SL 1 (b.map I))] (retD [.b (decide (a = b))]) := by
  refine exPure_sound (E := envOf Tryd.prog tt Tryd.f44.ntmps) (envOf_ok ttok mixed) Tryd.func44 (by rfl) rfl rfl (Nat.le_of_ble_eq_true rfl) ?_
  by_cases he : a.length = b.length
  · repeat' ((conv => whnf); first | with_reducible refine Dec.t (show true = true from rfl) ?_ | with_reducible refine Dec.t (show false = false from rfl) ?_ | with_reducible refine Dec.f (show ¬ (true = false) by decide) ?_ | with_reducible refine Dec.f (show ¬ (false = true) by decide) ?_ | refine Dec.t (by omega) ?_ | refine Dec.f (by omega) ?_ | refine Dec.split (fun _ => ?_) (fun _ => ?_) | refine Wr.id (by omega) ?_ | refine Chk.mk (by first | omega | exact rfl | (simp only [List.length_map]; omega) | (simp [room]; done) | (simp [room]; omega) | (simp [dropL, room]; done) | (simp [dropL, room]; omega)) ?_ | refine Nam.mk (List.length_map _) ?_ | refine Prep.skip ?_ | refine chk_t (x := D.flat _) (by assumption) ?_ | refine br_mk (fun _ => ?_) (fun _ => ?_))
    conv => whnf
    refine ALoop.at (E := envOf Tryd.prog tt Tryd.f44.ntmps) (envOf_ok ttok mixed) (X := Nat) (fun i => [(13, .d (I i))]) (fun _ => []) (fun i => i ≤ a.length ∧ a.take i = b.take i) (fun i => a.length - i) 0 (by repeat (first | exact trivial | refine And.intro rfl ?_ | refine And.intro (congrArg (fun n => V.d (I n)) (wrap_nat _ (by omega))) ?_)) rfl ⟨Nat.zero_le _, rfl⟩ ?_
    rintro i ⟨hi, hm⟩
    by_cases hlt : i < a.length
    · obtain ⟨x, hx, _⟩ := drop_get hlt
      obtain ⟨y, hy, _⟩ := drop_get (l := b) (i := i) (by omega)
      repeat' ((conv => whnf); first | with_reducible refine Dec.t (show true = true from rfl) ?_ | with_reducible refine Dec.t (show false = false from rfl) ?_ | with_reducible refine Dec.f (show ¬ (true = false) by decide) ?_ | with_reducible refine Dec.f (show ¬ (false = true) by decide) ?_ | refine Dec.t (by omega) ?_ | refine Dec.f (by omega) ?_ | refine Dec.split (fun _ => ?_) (fun _ => ?_) | refine Wr.id (by omega) ?_ | refine Chk.mk (by first | omega | exact rfl | (simp only [List.length_map]; omega) | (simp [room]; done) | (simp [room]; omega) | (simp [dropL, room]; done) | (simp [dropL, room]; omega)) ?_ | refine Nam.mk (List.length_map _) ?_ | refine Prep.skip ?_ | refine chk_t (x := D.flat _) (by assumption) ?_ | refine br_mk (fun _ => ?_) (fun _ => ?_) | refine nthK_mk (map_get hx) ?_ | refine nthK_mk (map_get hy) ?_ | fail)
      all_goals (conv => whnf)
      all_goals try simp only [decide_eq_true_eq, decide_eq_false_iff_not] at *
      all_goals first
        | (have e : x = y := by first | assumption | (simp_all; done)
           subst e
           refine ⟨i + 1, Wm.end (by repeat (first | exact trivial | refine And.intro rfl ?_ | refine And.intro (congrArg (fun n => V.d (I n)) (wrap_nat _ (by omega))) ?_)) rfl rfl rfl, ⟨hlt, ?_⟩, by omega⟩
           rw [List.take_add_one, List.take_add_one, hm, hx, hy])
        | (have e : ¬ x = y := by first | assumption | (simp_all; done)
           rw [decide_eq_false (fun h => e (by subst h; rw [hx] at hy; exact Option.some.inj hy))]; exact DLe.refl _)
    · have : i = a.length := by omega
      subst this
      rw [List.take_length, he, List.take_length] at hm
      repeat' ((conv => whnf); first | with_reducible refine Dec.t (show true = true from rfl) ?_ | with_reducible refine Dec.t (show false = false from rfl) ?_ | with_reducible refine Dec.f (show ¬ (true = false) by decide) ?_ | with_reducible refine Dec.f (show ¬ (false = true) by decide) ?_ | refine Dec.t (by omega) ?_ | refine Dec.f (by omega) ?_ | refine Dec.split (fun _ => ?_) (fun _ => ?_) | refine Wr.id (by omega) ?_ | refine Chk.mk (by first | omega | exact rfl | (simp only [List.length_map]; omega) | (simp [room]; done) | (simp [room]; omega) | (simp [dropL, room]; done) | (simp [dropL, room]; omega)) ?_ | refine Nam.mk (List.length_map _) ?_ | refine Prep.skip ?_ | refine chk_t (x := D.flat _) (by assumption) ?_ | refine br_mk (fun _ => ?_) (fun _ => ?_))
      all_goals (conv => whnf)
      rw [decide_eq_true hm]; exact DLe.refl _
  · repeat' ((conv => whnf); first | with_reducible refine Dec.t (show true = true from rfl) ?_ | with_reducible refine Dec.t (show false = false from rfl) ?_ | with_reducible refine Dec.f (show ¬ (true = false) by decide) ?_ | with_reducible refine Dec.f (show ¬ (false = true) by decide) ?_ | refine Dec.t (by omega) ?_ | refine Dec.f (by omega) ?_ | refine Dec.split (fun _ => ?_) (fun _ => ?_) | refine Wr.id (by omega) ?_ | refine Chk.mk (by first | omega | exact rfl | (simp only [List.length_map]; omega) | (simp [room]; done) | (simp [room]; omega) | (simp [dropL, room]; done) | (simp [dropL, room]; omega)) ?_ | refine Nam.mk (List.length_map _) ?_ | refine Prep.skip ?_ | refine chk_t (x := D.flat _) (by assumption) ?_ | refine br_mk (fun _ => ?_) (fun _ => ?_))
    all_goals (conv => whnf)
    rw [decide_eq_false (fun h => he (by rw [h]))]; exact DLe.refl _

/-- All that was looked at is known alike. -/
def alikeM (l : List Fact) (rs : List Read) (a b : Int) : Prop := ∀ r ∈ rs, valuesM l r.key r.from_ r.to_ a = valuesM l r.key r.from_ r.to_ b
instance (l : List Fact) (rs : List Read) (a b : Int) : Decidable (alikeM l rs a b) := by unfold alikeM; infer_instance
theorem facts_Alike (l : List Fact) (rs : List Read) (a b : Int) (hl : l.length < 2 ^ 40) (hr : rs.length < 2 ^ 40) : CallP Tryd.prog 23 [.d (SL 8 (l.map Fact.d)), .d (SL 5 (rs.map Read.d)), .d (I a), .d (I b)] (retD [.b (decide (alikeM l rs a b))]) := by
  refine exPure_sound (E := envOf Tryd.prog tt Tryd.f23.ntmps) (envOf_ok ttok mixed) Tryd.func23 (by rfl) rfl rfl (Nat.le_of_ble_eq_true rfl) ?_
  repeat' ((conv => whnf); first | with_reducible refine Dec.t (show true = true from rfl) ?_ | with_reducible refine Dec.t (show false = false from rfl) ?_ | with_reducible refine Dec.f (show ¬ (true = false) by decide) ?_ | with_reducible refine Dec.f (show ¬ (false = true) by decide) ?_ | refine Dec.t (by omega) ?_ | refine Dec.f (by omega) ?_ | refine Dec.split (fun _ => ?_) (fun _ => ?_) | refine Wr.id (by omega) ?_ | refine Chk.mk (by first | omega | exact rfl | (simp only [List.length_map]; omega) | (simp [room]; done) | (simp [room]; omega) | (simp [dropL, room]; done) | (simp [dropL, room]; omega)) ?_ | refine Nam.mk (List.length_map _) ?_ | refine Prep.skip ?_ | refine chk_t (x := D.flat _) (by assumption) ?_ | refine br_mk (fun _ => ?_) (fun _ => ?_) | fail)
  all_goals (conv => whnf)
  refine ALoop.at (E := envOf Tryd.prog tt Tryd.f23.ntmps) (envOf_ok ttok mixed) (X := Nat) (fun i => [(17, .d (I i))]) (fun _ => []) (fun i => i ≤ rs.length ∧ alikeM l (rs.take i) a b) (fun i => rs.length - i) 0 (by repeat (first | exact trivial | refine And.intro rfl ?_ | refine And.intro (congrArg (fun n => V.d (I n)) (wrap_nat _ (by omega))) ?_)) rfl ⟨Nat.zero_le _, by simp [alikeM]⟩ ?_
  rintro i ⟨hi, hm⟩
  by_cases hlt : i < rs.length
  · obtain ⟨r, hx, _⟩ := drop_get hlt
    have hlen : ∀ t, (valuesM l r.key r.from_ r.to_ t).length < 2 ^ 40 := fun t => by
      have : daysN r.from_ r.to_ ≤ 1024 := by unfold daysN hi0 lo0; split <;> split <;> omega
      simp [valuesM]; omega
    repeat' ((conv => whnf); first | with_reducible refine Dec.t (show true = true from rfl) ?_ | with_reducible refine Dec.t (show false = false from rfl) ?_ | with_reducible refine Dec.f (show ¬ (true = false) by decide) ?_ | with_reducible refine Dec.f (show ¬ (false = true) by decide) ?_ | refine Dec.t (by omega) ?_ | refine Dec.f (by omega) ?_ | refine Dec.split (fun _ => ?_) (fun _ => ?_) | refine Wr.id (by omega) ?_ | refine Chk.mk (by first | omega | exact rfl | (simp only [List.length_map]; omega) | (simp [room]; done) | (simp [room]; omega) | (simp [dropL, room]; done) | (simp [dropL, room]; omega)) ?_ | refine Nam.mk (List.length_map _) ?_ | refine Prep.skip ?_ | refine chk_t (x := D.flat _) (by assumption) ?_ | refine br_mk (fun _ => ?_) (fun _ => ?_) | refine nthK_mk (map_get hx) ?_ | refine ACall.of (facts_values l r.key r.from_ r.to_ a hl) ?_ | refine APCall.of (facts_values l r.key r.from_ r.to_ a hl) ?_ | refine ACall.of (facts_values l r.key r.from_ r.to_ b hl) ?_ | refine APCall.of (facts_values l r.key r.from_ r.to_ b hl) ?_ | refine ACall.ofB (slices_Equal_int _ _ (hlen _)) (fun _ => ?_) (fun _ => ?_) | refine APCall.ofB (slices_Equal_int _ _ (hlen _)) (fun _ => ?_) (fun _ => ?_) | fail)
    all_goals (conv => whnf)
    all_goals try simp only [decide_eq_true_eq, decide_eq_false_iff_not] at *
    · rename_i h
      refine ⟨i + 1, Wm.end (by repeat (first | exact trivial | refine And.intro rfl ?_ | refine And.intro (congrArg (fun n => V.d (I n)) (wrap_nat _ (by omega))) ?_)) rfl rfl rfl, ⟨hlt, fun q hq => ?_⟩, by omega⟩
      rw [List.take_add_one, hx, List.mem_append] at hq
      rcases hq with hq | hq
      · exact hm q hq
      · simp at hq; subst hq; exact h
    · rename_i h
      rw [decide_eq_false (fun hh => h (hh r (List.mem_of_getElem? hx)))]; exact (by repeat (first | exact trivial | exact rfl | exact DLe.refl _ | exact DLe.full _ _ _ | exact DLe.nil _ _ _ | exact VLe.refl _ | refine And.intro ?_ ?_ | refine VLe.d ?_ | refine DLe.agg ?_))
  · have : i = rs.length := by omega
    subst this
    rw [List.take_length] at hm
    repeat' ((conv => whnf); first | with_reducible refine Dec.t (show true = true from rfl) ?_ | with_reducible refine Dec.t (show false = false from rfl) ?_ | with_reducible refine Dec.f (show ¬ (true = false) by decide) ?_ | with_reducible refine Dec.f (show ¬ (false = true) by decide) ?_ | refine Dec.t (by omega) ?_ | refine Dec.f (by omega) ?_ | refine Dec.split (fun _ => ?_) (fun _ => ?_) | refine Wr.id (by omega) ?_ | refine Chk.mk (by first | omega | exact rfl | (simp only [List.length_map]; omega) | (simp [room]; done) | (simp [room]; omega) | (simp [dropL, room]; done) | (simp [dropL, room]; omega)) ?_ | refine Nam.mk (List.length_map _) ?_ | refine Prep.skip ?_ | refine chk_t (x := D.flat _) (by assumption) ?_ | refine br_mk (fun _ => ?_) (fun _ => ?_) | fail)
    all_goals (conv => whnf)
    rw [decide_eq_true hm]; exact (by repeat (first | exact trivial | exact rfl | exact DLe.refl _ | exact DLe.full _ _ _ | exact DLe.nil _ _ _ | exact VLe.refl _ | refine And.intro ?_ ?_ | refine VLe.d ?_ | refine DLe.agg ?_))
end Go.PM

