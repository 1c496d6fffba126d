/- Package facts: contracts. -/
import Derived.Test.YtbifaidepiejeaaBase
namespace Go.PM
open Go.Proofs

def order (a b : Fact) : Int := orL [cmpI a.known b.known, cmpI a.no b.no]
theorem facts_order (a b : Fact) : CallP Try.prog 48 [.d a.d, .d b.d] (retD [I (order a b)]) := by
  refine exPure_sound (E := envOf Try.prog tt Try.f48.ntmps) (envOf_ok ttok mixed) Try.func48 (by rfl) rfl rfl (Nat.le_of_ble_eq_true rfl) ?_
  repeat' ((conv => whnf); first | with_reducible refine Dec.t (show true = true from rfl) ?_ | with_reducible refine Dec.t (show false = false from rfl) ?_ | with_reducible refine Dec.f (show ¬ (true = false) by decide) ?_ | with_reducible refine Dec.f (show ¬ (false = true) by decide) ?_ | refine Dec.t (by omega) ?_ | refine Dec.f (by omega) ?_ | refine Dec.split (fun _ => ?_) (fun _ => ?_) | refine Wr.id (by omega) ?_ | refine Chk.mk (by first | omega | exact rfl | (simp only [List.length_map]; omega) | (simp [room]; done) | (simp [room]; omega) | (simp [dropL, room]; done) | (simp [dropL, room]; omega)) ?_ | refine Nam.mk (List.length_map _) ?_ | refine Prep.skip ?_ | refine Eith.l ?_ | refine chk_t (x := D.flat _) (by assumption) ?_ | refine br_mk (fun _ => ?_) (fun _ => ?_) | refine APCall.of (cmp_Compare _ _) ?_ | refine APCall.le (by repeat (first | exact trivial | exact rfl | exact DLe.refl _ | exact DLe.full _ _ _ | exact DLe.nil _ _ _ | exact VLe.refl _ | refine And.intro ?_ ?_ | refine VLe.d ?_ | refine DLe.agg ?_)) (cmp_Or [_, _] (by simp)) ?_)
  conv => whnf
  exact DLe.refl _

/-! ### At -/

def newer (o : Option Fact) (f : Fact) : Prop := ∀ g, o = some g → order g f ≤ 0
instance (o : Option Fact) (f : Fact) : Decidable (newer o f) := match o with
  | none => .isTrue (by simp [newer])
  | some g => decidable_of_iff (order g f ≤ 0) (by simp [newer])
def hits (k : Key) (day known : Int) (o : Option Fact) (f : Fact) : Prop := f.key = k ∧ f.known ≤ known ∧ f.from_ ≤ day ∧ day < f.to_ ∧ newer o f
instance (k : Key) (day known : Int) (o : Option Fact) (f : Fact) : Decidable (hits k day known o f) := by unfold hits; infer_instance
def atStep (k : Key) (day known : Int) (o : Option Fact) (f : Fact) : Option Fact := if hits k day known o f then some f else o
def atF (l : List Fact) (k : Key) (day known : Int) : Option Fact := l.foldl (atStep k day known) none
def valOf : Option Fact → Option Int
  | none => none
  | some f => if f.value < 0 then none else some f.value
def atM (l : List Fact) (k : Key) (day known : Int) : Option Int := valOf (atF l k day known)

set_option maxRecDepth 10000 in
theorem facts_At (l : List Fact) (k : Key) (day known : Int) (hl : l.length < 2 ^ 40) : CallP Try.prog 23 [.d (SL 8 (l.map Fact.d)), .d k.d, .d (I day), .d (I known)] (retD [I ((atM l k day known).getD 0), .b (atM l k day known).isSome]) := by
  refine exPure_sound (E := envOf Try.prog tt Try.f23.ntmps) (envOf_ok ttok mixed) Try.func23 (by rfl) rfl rfl (Nat.le_of_ble_eq_true rfl) ?_
  repeat' ((conv => whnf); first | with_reducible refine Dec.t (show true = true from rfl) ?_ | with_reducible refine Dec.t (show false = false from rfl) ?_ | with_reducible refine Dec.f (show ¬ (true = false) by decide) ?_ | with_reducible refine Dec.f (show ¬ (false = true) by decide) ?_ | refine Dec.t (by omega) ?_ | refine Dec.f (by omega) ?_ | refine Dec.split (fun _ => ?_) (fun _ => ?_) | refine Wr.id (by omega) ?_ | refine Chk.mk (by first | omega | exact rfl | (simp only [List.length_map]; omega) | (simp [room]; done) | (simp [room]; omega) | (simp [dropL, room]; done) | (simp [dropL, room]; omega)) ?_ | refine Nam.mk (List.length_map _) ?_ | refine Prep.skip ?_ | refine Eith.l ?_ | refine chk_t (x := D.flat _) (by assumption) ?_ | refine br_mk (fun _ => ?_) (fun _ => ?_) | refine ACall.body (E := envOf Try.prog tt Try.f47.ntmps) (envOf_ok ttok mixed) Try.func47 (by rfl) rfl (Nat.le_of_ble_eq_true rfl) ?_ | refine ARange.body (E := envOf Try.prog tt Try.f23.ntmps) (envOf_ok ttok mixed) ttok mixed (by rfl) Try.func58 (by rfl) (Nat.le_of_ble_eq_true rfl) ?_)
  conv => whnf
  refine ALoop.at (E := envY Try.prog tt Try.f58.ntmps (yldIn (envOf Try.prog tt Try.f23.ntmps) 7)) (envY_ok (yldIn_ok (envOf_ok ttok mixed) 7) ttok mixed) (X := Nat × Option Fact)
    (fun x => [(9, .d (I x.1))]) (fun x => [(2, .vard (x.2.getD Fact.zero).d.cells), (3, .vard [.b x.2.isSome])])
    (fun x => x.1 ≤ l.length ∧ (l.drop x.1).foldl (atStep k day known) x.2 = atF l k day known) (fun x => l.length - x.1) (0, none) (by repeat (first | exact trivial | refine And.intro rfl ?_ | refine And.intro (congrArg (fun n => V.d (I n)) (wrap_nat _ (by omega))) ?_)) rfl ⟨Nat.zero_le _, rfl⟩ ?_
  rintro ⟨i, o⟩ ⟨hi, hm⟩
  simp only at hi hm
  by_cases hlt : i < l.length
  · obtain ⟨f, hx, hd⟩ := drop_get hlt
    rw [hd, List.foldl_cons] at hm
    have yes : hits k day known o f → (l.drop (i + 1)).foldl (atStep k day known) (some f) = atF l k day known := fun h => by rw [← hm, atStep, if_pos h]
    have no : ¬ hits k day known o f → (l.drop (i + 1)).foldl (atStep k day known) o = atF l k day known := fun h => by rw [← hm, atStep, if_neg h]
    clear hm hd
    cases o with
    | none =>
      repeat' ((conv => whnf); first | with_reducible refine Dec.t (show true = true from rfl) ?_ | with_reducible refine Dec.t (show false = false from rfl) ?_ | with_reducible refine Dec.f (show ¬ (true = false) by decide) ?_ | with_reducible refine Dec.f (show ¬ (false = true) by decide) ?_ | refine Dec.t (by omega) ?_ | refine Dec.f (by omega) ?_ | refine Dec.split (fun _ => ?_) (fun _ => ?_) | refine Wr.id (by omega) ?_ | refine Chk.mk (by first | omega | exact rfl | (simp only [List.length_map]; omega) | (simp [room]; done) | (simp [room]; omega) | (simp [dropL, room]; done) | (simp [dropL, room]; omega)) ?_ | refine Nam.mk (List.length_map _) ?_ | refine Prep.skip ?_ | refine Eith.l ?_ | refine chk_t (x := D.flat _) (by assumption) ?_ | refine br_mk (fun _ => ?_) (fun _ => ?_) | refine nthK_mk (map_get hx) ?_ | refine Nam.dec (eqKey f.key k) (fun _ => ?_) (fun _ => ?_))
      all_goals (conv => whnf)
      all_goals first
        | (have hh : hits k day known none f := ⟨by assumption, by assumption, by assumption, by assumption, by simp [newer]⟩; refine ⟨(i + 1, some f), Wm.end (by repeat (first | exact trivial | refine And.intro rfl ?_ | refine And.intro (congrArg (fun n => V.d (I n)) (wrap_nat _ (by omega))) ?_)) rfl rfl rfl, ⟨hlt, yes hh⟩, ?_⟩; simp only; omega)
        | (have hh : ¬ hits k day known none f := by (rintro ⟨h1, h2, h3, h4, h5⟩; first | contradiction | omega)
           refine ⟨(i + 1, none), Wm.end (by repeat (first | exact trivial | refine And.intro rfl ?_ | refine And.intro (congrArg (fun n => V.d (I n)) (wrap_nat _ (by omega))) ?_)) rfl rfl rfl, ⟨hlt, no hh⟩, ?_⟩; simp only; omega)
    | some g =>
      repeat' ((conv => whnf); first | with_reducible refine Dec.t (show true = true from rfl) ?_ | with_reducible refine Dec.t (show false = false from rfl) ?_ | with_reducible refine Dec.f (show ¬ (true = false) by decide) ?_ | with_reducible refine Dec.f (show ¬ (false = true) by decide) ?_ | refine Dec.t (by omega) ?_ | refine Dec.f (by omega) ?_ | refine Dec.split (fun _ => ?_) (fun _ => ?_) | refine Wr.id (by omega) ?_ | refine Chk.mk (by first | omega | exact rfl | (simp only [List.length_map]; omega) | (simp [room]; done) | (simp [room]; omega) | (simp [dropL, room]; done) | (simp [dropL, room]; omega)) ?_ | refine Nam.mk (List.length_map _) ?_ | refine Prep.skip ?_ | refine Eith.l ?_ | refine chk_t (x := D.flat _) (by assumption) ?_ | refine br_mk (fun _ => ?_) (fun _ => ?_) | refine nthK_mk (map_get hx) ?_ | refine Nam.dec (eqKey f.key k) (fun _ => ?_) (fun _ => ?_) | refine ACall.of (facts_order g f) ?_)
      all_goals (conv => whnf)
      all_goals first
        | (have hh : hits k day known (some g) f := ⟨by assumption, by assumption, by assumption, by assumption, by simp only [newer, Option.some.injEq, forall_eq']; assumption⟩; refine ⟨(i + 1, some f), Wm.end (by repeat (first | exact trivial | refine And.intro rfl ?_ | refine And.intro (congrArg (fun n => V.d (I n)) (wrap_nat _ (by omega))) ?_)) rfl rfl rfl, ⟨hlt, yes hh⟩, ?_⟩; simp only; omega)
        | (have hh : ¬ hits k day known (some g) f := by (rintro ⟨h1, h2, h3, h4, h5⟩; first | contradiction | omega | exact absurd (h5 g rfl) (by assumption))
           refine ⟨(i + 1, some g), Wm.end (by repeat (first | exact trivial | refine And.intro rfl ?_ | refine And.intro (congrArg (fun n => V.d (I n)) (wrap_nat _ (by omega))) ?_)) rfl rfl rfl, ⟨hlt, no hh⟩, ?_⟩; simp only; omega)
  · have : i = l.length := by omega
    subst this
    rw [List.drop_length, List.foldl_nil] at hm
    have e : atM l k day known = valOf o := by unfold atM; rw [← hm]
    clear hm
    rw [e]
    cases o with
    | none =>
      repeat' ((conv => whnf); first | with_reducible refine Dec.t (show true = true from rfl) ?_ | with_reducible refine Dec.t (show false = false from rfl) ?_ | with_reducible refine Dec.f (show ¬ (true = false) by decide) ?_ | with_reducible refine Dec.f (show ¬ (false = true) by decide) ?_ | refine Dec.t (by omega) ?_ | refine Dec.f (by omega) ?_ | refine Dec.split (fun _ => ?_) (fun _ => ?_) | refine Wr.id (by omega) ?_ | refine Chk.mk (by first | omega | exact rfl | (simp only [List.length_map]; omega) | (simp [room]; done) | (simp [room]; omega) | (simp [dropL, room]; done) | (simp [dropL, room]; omega)) ?_ | refine Nam.mk (List.length_map _) ?_ | refine Prep.skip ?_ | refine Eith.l ?_ | refine chk_t (x := D.flat _) (by assumption) ?_ | refine br_mk (fun _ => ?_) (fun _ => ?_))
      all_goals (conv => whnf)
      exact (by repeat (first | exact trivial | exact rfl | exact DLe.refl _ | exact DLe.full _ _ _ | exact DLe.nil _ _ _ | exact VLe.refl _ | refine And.intro ?_ ?_ | refine VLe.d ?_ | refine DLe.agg ?_))
    | some g =>
      repeat' ((conv => whnf); first | with_reducible refine Dec.t (show true = true from rfl) ?_ | with_reducible refine Dec.t (show false = false from rfl) ?_ | with_reducible refine Dec.f (show ¬ (true = false) by decide) ?_ | with_reducible refine Dec.f (show ¬ (false = true) by decide) ?_ | refine Dec.t (by omega) ?_ | refine Dec.f (by omega) ?_ | refine Dec.split (fun _ => ?_) (fun _ => ?_) | refine Wr.id (by omega) ?_ | refine Chk.mk (by first | omega | exact rfl | (simp only [List.length_map]; omega) | (simp [room]; done) | (simp [room]; omega) | (simp [dropL, room]; done) | (simp [dropL, room]; omega)) ?_ | refine Nam.mk (List.length_map _) ?_ | refine Prep.skip ?_ | refine Eith.l ?_ | refine chk_t (x := D.flat _) (by assumption) ?_ | refine br_mk (fun _ => ?_) (fun _ => ?_))
      all_goals (conv => whnf)
      all_goals (rename_i h)
      · have h : g.value < 0 := h
        rw [valOf, if_pos h]; exact (by repeat (first | exact trivial | exact rfl | exact DLe.refl _ | exact DLe.full _ _ _ | exact DLe.nil _ _ _ | exact VLe.refl _ | refine And.intro ?_ ?_ | refine VLe.d ?_ | refine DLe.agg ?_))
      · have h : ¬ g.value < 0 := h
        rw [valOf, if_neg h]; exact (by repeat (first | exact trivial | exact rfl | exact DLe.refl _ | exact DLe.full _ _ _ | exact DLe.nil _ _ _ | exact VLe.refl _ | refine And.intro ?_ ?_ | refine VLe.d ?_ | refine DLe.agg ?_))
end Go.PM

