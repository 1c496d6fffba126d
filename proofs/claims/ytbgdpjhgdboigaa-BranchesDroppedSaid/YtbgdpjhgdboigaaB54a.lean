/- Branches: data, copies. -/
import Derived.Test.YtbgdpjhgdboigaaF04d
namespace Go.PM
open Go.Proofs
set_option maxRecDepth 10000
set_option maxHeartbeats 8000000

structure Chg where
  kind : Int
  subj : Int
  obj : Int
  value : Int
  from_ : Int
  to_ : Int
  deriving DecidableEq
def Chg.d (c : Chg) : D := .agg [I c.kind, I c.subj, I c.obj, I c.value, I c.from_, I c.to_]
def Chg.key (c : Chg) : Key := ⟨c.kind, c.subj, c.obj⟩
def brD (l : List Chg) : D := SL 6 (l.map Chg.d)
structure Brn where
  base : List Fact
  br : List (List Chg)
  par : List Int
  forks : List Int
  done : List Bool
  deriving DecidableEq
def Brn.d (b : Brn) : D := .agg [SL 8 (b.base.map Fact.d), SL 1 (b.br.map brD), SL 1 (b.par.map I), SL 1 (b.forks.map I), SL 1 (b.done.map B)]

theorem over_all {z : D} {ys : List D} {n : Int} (h : n.toNat ≤ ys.length) : (List.replicate n.toNat z).take 0 ++ ys ++ (List.replicate n.toNat z).drop (0 + ys.length) = ys := by
  rw [List.take_zero, List.nil_append, List.drop_eq_nil_of_le (by simp; omega), List.append_nil]
theorem copied_Fact (l : List Fact) (hl : l.length < 2 ^ 26) : CallRow Try.prog 34 [.d (SL 8 (l.map Fact.d))] 8 (l.map Fact.d) := by
  refine exRow_sound (E := envOf Try.prog tt Try.f34.ntmps) (envOf_ok ttok mixed) Try.func34 (by rfl) rfl rfl (Nat.le_of_ble_eq_true rfl) ?_
  repeat' ((conv => whnf); first | with_reducible refine Dec.t (show true = true from rfl) ?_ | with_reducible refine Dec.t (show false = false from rfl) ?_ | with_reducible refine Dec.f (show ¬ (true = false) by decide) ?_ | with_reducible refine Dec.f (show ¬ (false = true) by decide) ?_ | refine Dec.t (by omega) ?_ | refine Dec.f (by omega) ?_ | refine Dec.split (fun _ => ?_) (fun _ => ?_) | refine Wr.id (by omega) ?_ | refine Chk.mk (by first | omega | exact rfl | (simp only [List.length_map]; omega) | (simp [room]; done) | (simp [room]; omega) | (simp [dropL, room]; done) | (simp [dropL, room]; omega)) ?_ | refine Nam.mk (List.length_map _) ?_ | refine Prep.skip ?_ | refine Eith.l ?_ | refine chk_t (x := D.flat _) (by assumption) ?_ | refine br_mk (fun _ => ?_) (fun _ => ?_) | refine Nam.mk (y := l.map Fact.d) (over_all (by simp)) ?_ | refine Chk.mk ⟨rfl, by simp⟩ ?_ | refine Alt.l ?_ | fail)
  all_goals first | (exfalso; omega) | skip
  all_goals (conv => whnf)
  all_goals first | rfl | exact Nam.mk (whole (by simp)) rfl
theorem copied_Chg (l : List Chg) (hl : l.length < 2 ^ 26) : CallRow Try.prog 64 [.d (SL 6 (l.map Chg.d))] 6 (l.map Chg.d) := by
  refine exRow_sound (E := envOf Try.prog tt Try.f64.ntmps) (envOf_ok ttok mixed) Try.func64 (by rfl) rfl rfl (Nat.le_of_ble_eq_true rfl) ?_
  repeat' ((conv => whnf); first | with_reducible refine Dec.t (show true = true from rfl) ?_ | with_reducible refine Dec.t (show false = false from rfl) ?_ | with_reducible refine Dec.f (show ¬ (true = false) by decide) ?_ | with_reducible refine Dec.f (show ¬ (false = true) by decide) ?_ | refine Dec.t (by omega) ?_ | refine Dec.f (by omega) ?_ | refine Dec.split (fun _ => ?_) (fun _ => ?_) | refine Wr.id (by omega) ?_ | refine Chk.mk (by first | omega | exact rfl | (simp only [List.length_map]; omega) | (simp [room]; done) | (simp [room]; omega) | (simp [dropL, room]; done) | (simp [dropL, room]; omega)) ?_ | refine Nam.mk (List.length_map _) ?_ | refine Prep.skip ?_ | refine Eith.l ?_ | refine chk_t (x := D.flat _) (by assumption) ?_ | refine br_mk (fun _ => ?_) (fun _ => ?_) | refine Nam.mk (y := l.map Chg.d) (over_all (by simp)) ?_ | refine Chk.mk ⟨rfl, by simp⟩ ?_ | refine Alt.l ?_ | fail)
  all_goals first | (exfalso; omega) | skip
  all_goals (conv => whnf)
  all_goals first | rfl | exact Nam.mk (whole (by simp)) rfl
theorem copied_int (l : List Int) (hl : l.length < 2 ^ 26) : CallRow Try.prog 39 [.d (SL 1 (l.map I))] 1 (l.map I) := by
  refine exRow_sound (E := envOf Try.prog tt Try.f39.ntmps) (envOf_ok ttok mixed) Try.func39 (by rfl) rfl rfl (Nat.le_of_ble_eq_true rfl) ?_
  repeat' ((conv => whnf); first | with_reducible refine Dec.t (show true = true from rfl) ?_ | with_reducible refine Dec.t (show false = false from rfl) ?_ | with_reducible refine Dec.f (show ¬ (true = false) by decide) ?_ | with_reducible refine Dec.f (show ¬ (false = true) by decide) ?_ | refine Dec.t (by omega) ?_ | refine Dec.f (by omega) ?_ | refine Dec.split (fun _ => ?_) (fun _ => ?_) | refine Wr.id (by omega) ?_ | refine Chk.mk (by first | omega | exact rfl | (simp only [List.length_map]; omega) | (simp [room]; done) | (simp [room]; omega) | (simp [dropL, room]; done) | (simp [dropL, room]; omega)) ?_ | refine Nam.mk (List.length_map _) ?_ | refine Prep.skip ?_ | refine Eith.l ?_ | refine chk_t (x := D.flat _) (by assumption) ?_ | refine br_mk (fun _ => ?_) (fun _ => ?_) | refine Nam.mk (y := l.map I) (over_all (by simp)) ?_ | refine Chk.mk ⟨rfl, by simp⟩ ?_ | refine Alt.l ?_ | fail)
  all_goals first | (exfalso; omega) | skip
  all_goals (conv => whnf)
  all_goals first | rfl | exact Nam.mk (whole (by simp)) rfl
theorem copied_bool (l : List Bool) (hl : l.length < 2 ^ 26) : CallRow Try.prog 41 [.d (SL 1 (l.map B))] 1 (l.map B) := by
  refine exRow_sound (E := envOf Try.prog tt Try.f41.ntmps) (envOf_ok ttok mixed) Try.func41 (by rfl) rfl rfl (Nat.le_of_ble_eq_true rfl) ?_
  repeat' ((conv => whnf); first | with_reducible refine Dec.t (show true = true from rfl) ?_ | with_reducible refine Dec.t (show false = false from rfl) ?_ | with_reducible refine Dec.f (show ¬ (true = false) by decide) ?_ | with_reducible refine Dec.f (show ¬ (false = true) by decide) ?_ | refine Dec.t (by omega) ?_ | refine Dec.f (by omega) ?_ | refine Dec.split (fun _ => ?_) (fun _ => ?_) | refine Wr.id (by omega) ?_ | refine Chk.mk (by first | omega | exact rfl | (simp only [List.length_map]; omega) | (simp [room]; done) | (simp [room]; omega) | (simp [dropL, room]; done) | (simp [dropL, room]; omega)) ?_ | refine Nam.mk (List.length_map _) ?_ | refine Prep.skip ?_ | refine Eith.l ?_ | refine chk_t (x := D.flat _) (by assumption) ?_ | refine br_mk (fun _ => ?_) (fun _ => ?_) | refine Nam.mk (y := l.map B) (over_all (by simp)) ?_ | refine Chk.mk ⟨rfl, by simp⟩ ?_ | refine Alt.l ?_ | fail)
  all_goals first | (exfalso; omega) | skip
  all_goals (conv => whnf)
  all_goals first | rfl | exact Nam.mk (whole (by simp)) rfl
theorem copied_Chgs (l : List (List Chg)) (hl : l.length < 2 ^ 26) : CallRow Try.prog 38 [.d (SL 1 (l.map brD))] 1 (l.map brD) := by
  refine exRow_sound (E := envOf Try.prog tt Try.f38.ntmps) (envOf_ok ttok mixed) Try.func38 (by rfl) rfl rfl (Nat.le_of_ble_eq_true rfl) ?_
  repeat' ((conv => whnf); first | with_reducible refine Dec.t (show true = true from rfl) ?_ | with_reducible refine Dec.t (show false = false from rfl) ?_ | with_reducible refine Dec.f (show ¬ (true = false) by decide) ?_ | with_reducible refine Dec.f (show ¬ (false = true) by decide) ?_ | refine Dec.t (by omega) ?_ | refine Dec.f (by omega) ?_ | refine Dec.split (fun _ => ?_) (fun _ => ?_) | refine Wr.id (by omega) ?_ | refine Chk.mk (by first | omega | exact rfl | (simp only [List.length_map]; omega) | (simp [room]; done) | (simp [room]; omega) | (simp [dropL, room]; done) | (simp [dropL, room]; omega)) ?_ | refine Nam.mk (List.length_map _) ?_ | refine Prep.skip ?_ | refine Eith.l ?_ | refine chk_t (x := D.flat _) (by assumption) ?_ | refine br_mk (fun _ => ?_) (fun _ => ?_) | refine Nam.mk (y := l.map brD) (over_all (by simp)) ?_ | refine Chk.mk ⟨rfl, by simp⟩ ?_ | refine Alt.l ?_ | fail)
  all_goals first | (exfalso; omega) | skip
  all_goals (conv => whnf)
  all_goals first | rfl | exact Nam.mk (whole (by simp)) rfl
end Go.PM

