/- classes.Merge and its reference. -/
import Derived.Test.YtbifaidepiejeaaTables
namespace Go.PM
open Go.Proofs
set_option maxRecDepth 10000

theorem slices_Clone_bool (r : List Bool) (hl : r.length < 2 ^ 20) : CallRow Try.prog 45 [.d (rowD r)] 1 (r.map B) := by
  refine exRow_sound (E := envOf Try.prog tt Try.f45.ntmps) (envOf_ok ttok mixed) Try.func45 (by rfl) rfl rfl (Nat.le_of_ble_eq_true rfl) ?_
  repeat' ((conv => whnf); first | with_reducible refine Dec.t (show true = true from rfl) ?_ | with_reducible refine Dec.t (show false = false from rfl) ?_ | with_reducible refine Dec.f (show ¬ (true = false) by decide) ?_ | with_reducible refine Dec.f (show ¬ (false = true) by decide) ?_ | refine Dec.t (by omega) ?_ | refine Dec.f (by omega) ?_ | refine Dec.split (fun _ => ?_) (fun _ => ?_) | refine Wr.id (by omega) ?_ | refine Chk.mk (by first | omega | exact rfl | (simp only [List.length_map]; omega) | (simp [room]; done) | (simp [room]; omega) | (simp [dropL, room]; done) | (simp [dropL, room]; omega)) ?_ | refine Nam.mk (List.length_map _) ?_ | refine Prep.skip ?_ | refine Eith.l ?_ | refine chk_t (x := D.flat _) (by assumption) ?_ | refine br_mk (fun _ => ?_) (fun _ => ?_) | refine NilQ.both (fun h => ?_) ?_)
  all_goals (conv => whnf)
  · have h : r = [] := by simpa using h
    subst h; rfl
  · exact Nam.mk (y := r.map B) (by simp only [List.length_nil, Nat.zero_add, List.nil_append, List.drop_zero, List.take_length]) rfl

theorem classes_index (rows : List (List Bool)) (row : List Bool) (hl : rows.length < 2 ^ 40) (hr : ∀ r ∈ rows, r.length < 2 ^ 40) : CallP Try.prog 44 [.d (SL 1 (rows.map rowD)), .d (rowD row)] (retD [I (idxM (· = row) rows)]) := by
  refine exPure_sound (E := envOf Try.prog tt Try.f44.ntmps) (envOf_ok ttok mixed) Try.func44 (by rfl) rfl rfl (Nat.le_of_ble_eq_true rfl) ?_
  repeat' ((conv => whnf); first | with_reducible refine Dec.t (show true = true from rfl) ?_ | with_reducible refine Dec.t (show false = false from rfl) ?_ | with_reducible refine Dec.f (show ¬ (true = false) by decide) ?_ | with_reducible refine Dec.f (show ¬ (false = true) by decide) ?_ | refine Dec.t (by omega) ?_ | refine Dec.f (by omega) ?_ | refine Dec.split (fun _ => ?_) (fun _ => ?_) | refine Wr.id (by omega) ?_ | refine Chk.mk (by first | omega | exact rfl | (simp only [List.length_map]; omega) | (simp [room]; done) | (simp [room]; omega) | (simp [dropL, room]; done) | (simp [dropL, room]; omega)) ?_ | refine Nam.mk (List.length_map _) ?_ | refine Prep.skip ?_ | refine Eith.l ?_ | refine chk_t (x := D.flat _) (by assumption) ?_ | refine br_mk (fun _ => ?_) (fun _ => ?_) | refine ACall.body (E := envOf Try.prog tt Try.f55.ntmps) (envOf_ok ttok mixed) Try.func55 (by rfl) rfl (Nat.le_of_ble_eq_true rfl) ?_)
  conv => whnf
  refine ALoop.at (E := envOf Try.prog tt Try.f55.ntmps) (envOf_ok ttok mixed) (X := Nat) (fun i => [(8, .d (I i))]) (fun _ => []) (fun i => i ≤ rows.length ∧ idxFrom (· = row) (rows.drop i) i = idxM (· = row) rows) (fun i => rows.length - i) 0 (by repeat (first | exact trivial | refine And.intro rfl ?_ | refine And.intro (congrArg (fun n => V.d (I n)) (wrap_nat _ (by omega))) ?_)) rfl ⟨Nat.zero_le _, rfl⟩ ?_
  rintro i ⟨hi, hm⟩
  by_cases hlt : i < rows.length
  · obtain ⟨x, hx, hd⟩ := drop_get hlt
    rw [hd, idxFrom] at hm
    repeat' ((conv => whnf); first | with_reducible refine Dec.t (show true = true from rfl) ?_ | with_reducible refine Dec.t (show false = false from rfl) ?_ | with_reducible refine Dec.f (show ¬ (true = false) by decide) ?_ | with_reducible refine Dec.f (show ¬ (false = true) by decide) ?_ | refine Dec.t (by omega) ?_ | refine Dec.f (by omega) ?_ | refine Dec.split (fun _ => ?_) (fun _ => ?_) | refine Wr.id (by omega) ?_ | refine Chk.mk (by first | omega | exact rfl | (simp only [List.length_map]; omega) | (simp [room]; done) | (simp [room]; omega) | (simp [dropL, room]; done) | (simp [dropL, room]; omega)) ?_ | refine Nam.mk (List.length_map _) ?_ | refine Prep.skip ?_ | refine Eith.l ?_ | refine chk_t (x := D.flat _) (by assumption) ?_ | refine br_mk (fun _ => ?_) (fun _ => ?_) | refine nthK_mk (map_get hx) ?_ | refine ACall.body (E := envOf Try.prog tt Try.f56.ntmps) (envOf_ok ttok mixed) Try.func56 (by rfl) rfl (Nat.le_of_ble_eq_true rfl) ?_ | refine ACall.ofB (slices_Equal_bool x row (hr x (List.mem_of_getElem? hx))) (fun _ => ?_) (fun _ => ?_))
    all_goals (conv => whnf)
    all_goals try simp only [decide_eq_true_eq, decide_eq_false_iff_not] at *
    · rename_i h
      rw [if_pos h] at hm
      rw [← hm]; exact DLe.refl _
    · rename_i h
      rw [if_neg h] at hm
      exact ⟨i + 1, Wm.end (by repeat (first | exact trivial | refine And.intro rfl ?_ | refine And.intro (congrArg (fun n => V.d (I n)) (wrap_nat _ (by omega))) ?_)) rfl rfl rfl, ⟨hlt, hm⟩, by omega⟩
  · have : i = rows.length := by omega
    subst this
    rw [List.drop_length] at hm
    rw [← hm]
    repeat' ((conv => whnf); first | with_reducible refine Dec.t (show true = true from rfl) ?_ | with_reducible refine Dec.t (show false = false from rfl) ?_ | with_reducible refine Dec.f (show ¬ (true = false) by decide) ?_ | with_reducible refine Dec.f (show ¬ (false = true) by decide) ?_ | refine Dec.t (by omega) ?_ | refine Dec.f (by omega) ?_ | refine Dec.split (fun _ => ?_) (fun _ => ?_) | refine Wr.id (by omega) ?_ | refine Chk.mk (by first | omega | exact rfl | (simp only [List.length_map]; omega) | (simp [room]; done) | (simp [room]; omega) | (simp [dropL, room]; done) | (simp [dropL, room]; omega)) ?_ | refine Nam.mk (List.length_map _) ?_ | refine Prep.skip ?_ | refine Eith.l ?_ | refine chk_t (x := D.flat _) (by assumption) ?_ | refine br_mk (fun _ => ?_) (fun _ => ?_))
    all_goals (conv => whnf)
    exact DLe.refl _

end Go.PM

