/- The reference of package orders: fields. -/
import Derived.Test.YtghlkcnmocgkaaaO19f
namespace Go.PM
open Go.Proofs
set_option maxRecDepth 10000
set_option maxHeartbeats 4000000

def rdOf (k : Key) (day : Int) : Read := ⟨k.kind, k.subj, k.obj, day, day + 1⟩
def valsM (f : List Fact) (kind no day known : Int) : Nat → Nat → List Int
  | _, 0 => []
  | i, k + 1 => match atM f ⟨kind, no, i⟩ day known with
    | none => []
    | some v => v :: valsM f kind no day known (i + 1) k
def frdsM (f : List Fact) (kind no day known : Int) : Nat → Nat → List Read
  | _, 0 => []
  | i, k + 1 => rdOf ⟨kind, no, i⟩ day :: match atM f ⟨kind, no, i⟩ day known with
    | none => []
    | some _ => frdsM f kind no day known (i + 1) k
structure XF where
  i : Nat
  v1 : Nat
  l1 : Nat
  d1 : List D
  v2 : Nat
  l2 : Nat
  d2 : List D

theorem ref19_fields (w : OWorld) (kind no day known : Int) (k : Nat) (hk : k ≤ 7) (hl : w.facts.length < 2 ^ 40) (hd : day < 1024) (hd0 : 0 ≤ day) :
    CallP Try.prog 38 [.d w.d, .d (I kind), .d (I no), .d (I k), .d (I day), .d (I known)] (retD [SL 1 ((valsM w.facts kind no day known 0 k).map I), SL 5 ((frdsM w.facts kind no day known 0 k).map Read.d)]) := by
  refine exPure_sound (E := envOf Try.prog tt Try.f38.ntmps) (envOf_ok ttok mixed) Try.func38 (by rfl) rfl rfl (Nat.le_of_ble_eq_true rfl) ?_
  repeat' ((conv => whnf); first | with_reducible refine Dec.t (show true = true from rfl) ?_ | with_reducible refine Dec.t (show false = false from rfl) ?_ | with_reducible refine Dec.f (show ¬ (true = false) by decide) ?_ | with_reducible refine Dec.f (show ¬ (false = true) by decide) ?_ | refine Dec.t (by omega) ?_ | refine Dec.f (by omega) ?_ | refine Dec.split (fun _ => ?_) (fun _ => ?_) | refine Wr.id (by omega) ?_ | refine Chk.mk (by first | omega | exact rfl | (simp only [List.length_map]; omega) | (simp [room]; done) | (simp [room]; omega) | (simp [dropL, room]; done) | (simp [dropL, room]; omega)) ?_ | refine Nam.mk (List.length_map _) ?_ | refine Prep.skip ?_ | refine Eith.l ?_ | refine chk_t (x := D.flat _) (by assumption) ?_ | refine br_mk (fun _ => ?_) (fun _ => ?_) | fail)
  all_goals (conv => whnf)
  refine ALoop.virt 14 1 1 false (by decide) rfl ?_
  conv => whnf
  refine ALoop.virt 15 5 5 false (by decide) rfl ?_
  conv => whnf
  refine ALoop.at (E := envOf Try.prog tt Try.f38.ntmps) (envOf_ok ttok mixed) (X := XF) (fun x => [(16, .d (I x.i)), (14, .sref 1 x.v1 0 x.l1 false), (15, .sref 2 x.v2 0 x.l2 false)]) (fun x => [(1, .row x.v1 1 false x.d1), (2, .row x.v2 5 false x.d2)])
    (fun x => x.i ≤ k ∧ x.l1 = x.i ∧ x.l2 = x.i ∧ x.l1 = x.d1.length ∧ x.l2 = x.d2.length ∧ x.d1 ++ (valsM w.facts kind no day known x.i (k - x.i)).map I = (valsM w.facts kind no day known 0 k).map I ∧ x.d2 ++ (frdsM w.facts kind no day known x.i (k - x.i)).map Read.d = (frdsM w.facts kind no day known 0 k).map Read.d)
    (fun x => k - x.i) ⟨0, 0, 0, [], 0, 0, []⟩ (by repeat (first | exact trivial | refine And.intro rfl ?_ | refine And.intro (congrArg (fun n => V.d (I n)) (wrap_nat _ (by omega))) ?_)) rfl ⟨Nat.zero_le _, rfl, rfl, rfl, rfl, rfl, rfl⟩ ?_
  rintro ⟨i, v1, l1, d1, v2, l2, d2⟩ ⟨hi, e1, e2, h1, h2, hv, hr⟩
  simp only at hi e1 e2 h1 h2 hv hr
  subst e1
  dsimp only
  by_cases hlt : l1 < k
  · have hA := ref04_At w.facts ⟨kind, no, l1⟩ day known hl
    have hk1 : k - l1 = (k - (l1 + 1)) + 1 := by omega
    rw [hk1, valsM] at hv
    rw [hk1, frdsM] at hr
    rcases opt_cases (atM w.facts ⟨kind, no, l1⟩ day known) with hq | ⟨q, hq⟩
    · rw [hq] at hA
      simp only [hq, List.map_nil, List.append_nil, List.map_cons] at hv hr
      simp only [Option.getD_none, Option.isSome_none] at hA
      repeat' ((conv => whnf); first | with_reducible refine Dec.t (show true = true from rfl) ?_ | with_reducible refine Dec.t (show false = false from rfl) ?_ | with_reducible refine Dec.f (show ¬ (true = false) by decide) ?_ | with_reducible refine Dec.f (show ¬ (false = true) by decide) ?_ | refine Dec.t (by omega) ?_ | refine Dec.f (by omega) ?_ | refine Dec.split (fun _ => ?_) (fun _ => ?_) | refine Wr.id (by omega) ?_ | refine Chk.mk (by first | omega | exact rfl | (simp only [List.length_map]; omega) | (simp [room]; done) | (simp [room]; omega) | (simp [dropL, room]; done) | (simp [dropL, room]; omega)) ?_ | refine Nam.mk (List.length_map _) ?_ | refine Prep.skip ?_ | refine Eith.l ?_ | refine chk_t (x := D.flat _) (by assumption) ?_ | refine br_mk (fun _ => ?_) (fun _ => ?_) | refine ACall.of (hA) ?_ | refine APCall.of (hA) ?_ | refine Chk.mk ⟨rfl, by simp [h1], by simp [room]; omega⟩ ?_ | refine Chk.mk ⟨rfl, by simp [h2], by simp [room]; omega⟩ ?_ | refine Nam.mk ((whole h1).trans hv) ?_ | refine Nam.mk ((whole (by simp [h2, dropL])).trans hr) ?_ | fail)
      all_goals (conv => whnf)
      all_goals exact (by repeat (first | exact trivial | exact rfl | exact DLe.refl _ | exact DLe.full _ _ _ | exact DLe.nil _ _ _ | exact VLe.refl _ | refine And.intro ?_ ?_ | refine VLe.d ?_ | refine DLe.agg ?_))
    · rw [hq] at hA
      simp only [hq, List.map_cons] at hv hr
      simp only [Option.getD_some, Option.isSome_some] at hA
      repeat' ((conv => whnf); first | with_reducible refine Dec.t (show true = true from rfl) ?_ | with_reducible refine Dec.t (show false = false from rfl) ?_ | with_reducible refine Dec.f (show ¬ (true = false) by decide) ?_ | with_reducible refine Dec.f (show ¬ (false = true) by decide) ?_ | refine Dec.t (by omega) ?_ | refine Dec.f (by omega) ?_ | refine Dec.split (fun _ => ?_) (fun _ => ?_) | refine Wr.id (by omega) ?_ | refine Chk.mk (by first | omega | exact rfl | (simp only [List.length_map]; omega) | (simp [room]; done) | (simp [room]; omega) | (simp [dropL, room]; done) | (simp [dropL, room]; omega)) ?_ | refine Nam.mk (List.length_map _) ?_ | refine Prep.skip ?_ | refine Eith.l ?_ | refine chk_t (x := D.flat _) (by assumption) ?_ | refine br_mk (fun _ => ?_) (fun _ => ?_) | refine ACall.of (hA) ?_ | refine APCall.of (hA) ?_ | refine Chk.mk ⟨rfl, by simp [h1], by simp [room]; omega⟩ ?_ | refine Chk.mk ⟨rfl, by simp [h2], by simp [room]; omega⟩ ?_ | fail)
      all_goals (conv => whnf)
      exact ⟨⟨l1 + 1, v1 + 1, l1 + 1, d1 ++ [I q], v2 + 1, l2 + 1, d2 ++ [(rdOf ⟨kind, no, l1⟩ day).d]⟩, Wm.end (by repeat (first | exact trivial | refine And.intro rfl ?_ | refine And.intro (congrArg (fun n => V.d (I n)) (wrap_nat _ (by omega))) ?_)) rfl rfl rfl, ⟨hlt, rfl, by simp only; omega, by simp [h1], by simp [h2], by simpa using hv, by simpa using hr⟩, by simp only; omega⟩
  · have : l1 = k := by omega
    subst this
    rw [Nat.sub_self, valsM, List.map_nil, List.append_nil] at hv
    rw [Nat.sub_self, frdsM, List.map_nil, List.append_nil] at hr
    repeat' ((conv => whnf); first | with_reducible refine Dec.t (show true = true from rfl) ?_ | with_reducible refine Dec.t (show false = false from rfl) ?_ | with_reducible refine Dec.f (show ¬ (true = false) by decide) ?_ | with_reducible refine Dec.f (show ¬ (false = true) by decide) ?_ | refine Dec.t (by omega) ?_ | refine Dec.f (by omega) ?_ | refine Dec.split (fun _ => ?_) (fun _ => ?_) | refine Wr.id (by omega) ?_ | refine Chk.mk (by first | omega | exact rfl | (simp only [List.length_map]; omega) | (simp [room]; done) | (simp [room]; omega) | (simp [dropL, room]; done) | (simp [dropL, room]; omega)) ?_ | refine Nam.mk (List.length_map _) ?_ | refine Prep.skip ?_ | refine Eith.l ?_ | refine chk_t (x := D.flat _) (by assumption) ?_ | refine br_mk (fun _ => ?_) (fun _ => ?_) | refine Nam.mk ((whole h1).trans hv) ?_ | refine Nam.mk ((whole h2).trans hr) ?_ | fail)
    all_goals (conv => whnf)
    all_goals exact (by repeat (first | exact trivial | exact rfl | exact DLe.refl _ | exact DLe.full _ _ _ | exact DLe.nil _ _ _ | exact VLe.refl _ | refine And.intro ?_ ?_ | refine VLe.d ?_ | refine DLe.agg ?_))
end Go.PM

