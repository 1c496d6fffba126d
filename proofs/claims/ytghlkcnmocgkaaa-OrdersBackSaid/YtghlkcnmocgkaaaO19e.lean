/- The reference of package options: Config. -/
import Derived.Test.YtghlkcnmocgkaaaO19d
namespace Go.PM
open Go.Proofs
set_option maxRecDepth 10000
set_option maxHeartbeats 4000000

theorem rest_iff (k : Nat) (n : Int) (hk : k ≤ 3) (hn : 0 ≤ n) : restM k n = 0 ↔ n < 4 ^ k := by
  match k, hk with
  | 0, _ => simp only [restM]; omega
  | 1, _ =>
    simp only [restM]; rw [Int.tdiv_eq_ediv_of_nonneg hn]; omega
  | 2, _ =>
    have h1 : 0 ≤ n / 4 := by omega
    simp only [restM]; rw [Int.tdiv_eq_ediv_of_nonneg hn, Int.tdiv_eq_ediv_of_nonneg h1]; omega
  | 3, _ =>
    have h1 : 0 ≤ n / 4 := by omega
    have h2 : 0 ≤ n / 4 / 4 := by omega
    simp only [restM]; rw [Int.tdiv_eq_ediv_of_nonneg hn, Int.tdiv_eq_ediv_of_nonneg h1, Int.tdiv_eq_ediv_of_nonneg h2]; omega

theorem dig_inj {k i j : Nat} (hk : k ≤ 3) (hi : i < 4 ^ k) (hj : j < 4 ^ k) (h : digM k i = digM k j) : i = j := by
  match k, hk with
  | 0, _ => simp at hi hj; omega
  | 1, _ =>
    simp only [digM, List.nil_append, List.cons.injEq, and_true] at h
    rw [Int.tmod_eq_emod_of_nonneg (by omega), Int.tmod_eq_emod_of_nonneg (by omega)] at h
    omega
  | 2, _ =>
    have a1 : (i : Int).tdiv 4 = i / 4 := Int.tdiv_eq_ediv_of_nonneg (by omega)
    have b1 : (j : Int).tdiv 4 = j / 4 := Int.tdiv_eq_ediv_of_nonneg (by omega)
    simp only [digM, List.nil_append, List.cons_append, List.cons.injEq, and_true] at h
    rw [a1, b1, Int.tmod_eq_emod_of_nonneg (by omega), Int.tmod_eq_emod_of_nonneg (by omega), Int.tmod_eq_emod_of_nonneg (by omega), Int.tmod_eq_emod_of_nonneg (by omega)] at h
    omega
  | 3, _ =>
    have a1 : (i : Int).tdiv 4 = i / 4 := Int.tdiv_eq_ediv_of_nonneg (by omega)
    have b1 : (j : Int).tdiv 4 = j / 4 := Int.tdiv_eq_ediv_of_nonneg (by omega)
    have a2 : ((i : Int) / 4).tdiv 4 = i / 4 / 4 := Int.tdiv_eq_ediv_of_nonneg (by omega)
    have b2 : ((j : Int) / 4).tdiv 4 = j / 4 / 4 := Int.tdiv_eq_ediv_of_nonneg (by omega)
    simp only [digM, List.nil_append, List.cons_append, List.cons.injEq, and_true] at h
    have m : ∀ {x : Int}, 0 ≤ x → x.tmod 4 = x % 4 := fun hx => Int.tmod_eq_emod_of_nonneg hx
    rw [a1, b1, a2, b2, m (show (0 : Int) ≤ i / 4 / 4 by omega), m (show (0 : Int) ≤ j / 4 / 4 by omega), m (show (0 : Int) ≤ i / 4 by omega), m (show (0 : Int) ≤ j / 4 by omega), m (show (0 : Int) ≤ i by omega), m (show (0 : Int) ≤ j by omega)] at h
    omega

theorem allM_mem (s : Src) (c : List Int) : c ∈ allM s ↔ ∃ j : Nat, j < 4 ^ s.opts.length ∧ c = digM s.opts.length j ∧ cfgM s c := by
  unfold allM uptoM
  simp only [List.mem_filter, List.mem_map, List.mem_range, decide_eq_true_eq]
  constructor
  · rintro ⟨⟨j, hj, rfl⟩, h⟩; exact ⟨j, hj, rfl, h⟩
  · rintro ⟨j, hj, rfl, h⟩; exact ⟨⟨j, hj, rfl⟩, h⟩

theorem ref13_Config (s : Src) (n : Int) (hf : s.few) : CallP Try.prog 71 [.d s.d, .d (I n)] (retD (cfgR (configM s n))) := by
  have hf1 := hf.1
  have hA := ref13_All s hf
  have hlen := allM_len s hf1
  have p1 := pw4 (x := s.opts.length) hf1
  refine exPure_sound (E := envOf Try.prog tt Try.f71.ntmps) (envOf_ok ttok mixed) Try.func71 (by rfl) rfl rfl (Nat.le_of_ble_eq_true rfl) ?_
  unfold allR at hA
  by_cases hok : s.ok
  · rw [if_pos hok] at hA
    repeat' ((conv => whnf); first | with_reducible refine Dec.t (show true = true from rfl) ?_ | with_reducible refine Dec.t (show false = false from rfl) ?_ | with_reducible refine Dec.f (show ¬ (true = false) by decide) ?_ | with_reducible refine Dec.f (show ¬ (false = true) by decide) ?_ | refine Dec.t (by omega) ?_ | refine Dec.f (by omega) ?_ | refine Dec.split (fun _ => ?_) (fun _ => ?_) | refine Wr.id (by omega) ?_ | refine Chk.mk (by first | omega | exact rfl | (simp only [List.length_map]; omega) | (simp [room]; done) | (simp [room]; omega) | (simp [dropL, room]; done) | (simp [dropL, room]; omega)) ?_ | refine Nam.mk (List.length_map _) ?_ | refine Prep.skip ?_ | refine Eith.l ?_ | refine chk_t (x := D.flat _) (by assumption) ?_ | refine br_mk (fun _ => ?_) (fun _ => ?_) | refine ACall.of hA ?_ | fail)
    all_goals (conv => whnf)
    refine ALoop.at (E := envOf Try.prog tt Try.f71.ntmps) (envOf_ok ttok mixed) (X := Nat) (fun i => [(8, .d (I i))]) (fun _ => []) (fun i => i ≤ (allM s).length ∧ ∀ j : Nat, j < 4 ^ s.opts.length → digM s.opts.length j ∈ (allM s).take i → (j : Int) ≠ n) (fun i => (allM s).length - i) 0 (by repeat (first | exact trivial | refine And.intro rfl ?_ | refine And.intro (congrArg (fun n => V.d (I n)) (wrap_nat _ (by omega))) ?_)) rfl ⟨Nat.zero_le _, by simp⟩ ?_
    rintro i ⟨hi, hm⟩
    by_cases hlt : i < (allM s).length
    · obtain ⟨x, hx, hd⟩ := drop_get hlt
      obtain ⟨j, hj, hxj, hcx⟩ := (allM_mem s x).1 (List.mem_of_getElem? hx)
      have hj' : (j : Int) < 4 ^ s.opts.length := by exact_mod_cast hj
      have hC := ref13_code s.opts.length j hf1 (by omega) hj'
      rw [← hxj] at hC
      repeat' ((conv => whnf); first | with_reducible refine Dec.t (show true = true from rfl) ?_ | with_reducible refine Dec.t (show false = false from rfl) ?_ | with_reducible refine Dec.f (show ¬ (true = false) by decide) ?_ | with_reducible refine Dec.f (show ¬ (false = true) by decide) ?_ | refine Dec.t (by omega) ?_ | refine Dec.f (by omega) ?_ | refine Dec.split (fun _ => ?_) (fun _ => ?_) | refine Wr.id (by omega) ?_ | refine Chk.mk (by first | omega | exact rfl | (simp only [List.length_map]; omega) | (simp [room]; done) | (simp [room]; omega) | (simp [dropL, room]; done) | (simp [dropL, room]; omega)) ?_ | refine Nam.mk (List.length_map _) ?_ | refine Prep.skip ?_ | refine Eith.l ?_ | refine chk_t (x := D.flat _) (by assumption) ?_ | refine br_mk (fun _ => ?_) (fun _ => ?_) | refine nthK_mk (map_get hx) ?_ | refine ACall.of (hC) ?_ | refine APCall.of (hC) ?_ | refine Nam.mk rfl ?_ | fail)
      all_goals (conv => whnf)
      · have e : configM s n = some x := by
          have hjn : (j : Int) = n := by assumption
          unfold configM
          rw [if_pos ⟨hok, by omega, (rest_iff _ n hf1 (by omega)).2 (by omega), by rw [← hjn, ← hxj]; exact hcx⟩, ← hjn, ← hxj]
        rw [e]
        exact (by repeat (first | exact trivial | exact rfl | exact DLe.refl _ | exact DLe.full _ _ _ | exact DLe.nil _ _ _ | exact VLe.refl _ | refine And.intro ?_ ?_ | refine VLe.d ?_ | refine DLe.agg ?_))
      · have hjn : ¬ (j : Int) = n := by assumption
        refine ⟨i + 1, Wm.end (by repeat (first | exact trivial | refine And.intro rfl ?_ | refine And.intro (congrArg (fun n => V.d (I n)) (wrap_nat _ (by omega))) ?_)) rfl rfl rfl, ⟨hlt, fun m hml hmm => ?_⟩, by omega⟩
        rw [List.take_add_one, hx] at hmm
        simp only [Option.toList_some, List.mem_append, List.mem_singleton] at hmm
        rcases hmm with hmm | hmm
        · exact hm m hml hmm
        · rw [hxj] at hmm
          rw [dig_inj hf1 hml hj hmm]; exact hjn
    · have : i = (allM s).length := by omega
      subst this
      rw [List.take_length] at hm
      have e : configM s n = none := by
        unfold configM
        refine if_neg fun h => ?_
        obtain ⟨_, h0, hr, hc⟩ := h
        have h1 := (rest_iff _ n hf1 h0).1 hr
        have h2 : ((n.toNat : Nat) : Int) = n := by omega
        have h3 : n.toNat < 4 ^ s.opts.length := by
          have : ((n.toNat : Nat) : Int) < ((4 ^ s.opts.length : Nat) : Int) := by rw [h2]; push_cast; exact h1
          exact_mod_cast this
        exact hm n.toNat h3 ((allM_mem s _).2 ⟨n.toNat, h3, rfl, by rw [h2]; exact hc⟩) h2
      rw [e]
      repeat' ((conv => whnf); first | with_reducible refine Dec.t (show true = true from rfl) ?_ | with_reducible refine Dec.t (show false = false from rfl) ?_ | with_reducible refine Dec.f (show ¬ (true = false) by decide) ?_ | with_reducible refine Dec.f (show ¬ (false = true) by decide) ?_ | refine Dec.t (by omega) ?_ | refine Dec.f (by omega) ?_ | refine Dec.split (fun _ => ?_) (fun _ => ?_) | refine Wr.id (by omega) ?_ | refine Chk.mk (by first | omega | exact rfl | (simp only [List.length_map]; omega) | (simp [room]; done) | (simp [room]; omega) | (simp [dropL, room]; done) | (simp [dropL, room]; omega)) ?_ | refine Nam.mk (List.length_map _) ?_ | refine Prep.skip ?_ | refine Eith.l ?_ | refine chk_t (x := D.flat _) (by assumption) ?_ | refine br_mk (fun _ => ?_) (fun _ => ?_) | fail)
      all_goals (conv => whnf)
      all_goals exact (by repeat (first | exact trivial | exact rfl | exact DLe.refl _ | exact DLe.full _ _ _ | exact DLe.nil _ _ _ | exact VLe.refl _ | refine And.intro ?_ ?_ | refine VLe.d ?_ | refine DLe.agg ?_))
  · rw [if_neg hok] at hA
    have e : configM s n = none := by unfold configM; exact if_neg fun h => hok h.1
    rw [e]
    repeat' ((conv => whnf); first | with_reducible refine Dec.t (show true = true from rfl) ?_ | with_reducible refine Dec.t (show false = false from rfl) ?_ | with_reducible refine Dec.f (show ¬ (true = false) by decide) ?_ | with_reducible refine Dec.f (show ¬ (false = true) by decide) ?_ | refine Dec.t (by omega) ?_ | refine Dec.f (by omega) ?_ | refine Dec.split (fun _ => ?_) (fun _ => ?_) | refine Wr.id (by omega) ?_ | refine Chk.mk (by first | omega | exact rfl | (simp only [List.length_map]; omega) | (simp [room]; done) | (simp [room]; omega) | (simp [dropL, room]; done) | (simp [dropL, room]; omega)) ?_ | refine Nam.mk (List.length_map _) ?_ | refine Prep.skip ?_ | refine Eith.l ?_ | refine chk_t (x := D.flat _) (by assumption) ?_ | refine br_mk (fun _ => ?_) (fun _ => ?_) | refine ACall.of hA ?_ | fail)
    all_goals (conv => whnf)
    all_goals exact (by repeat (first | exact trivial | exact rfl | exact DLe.refl _ | exact DLe.full _ _ _ | exact DLe.nil _ _ _ | exact VLe.refl _ | refine And.intro ?_ ?_ | refine VLe.d ?_ | refine DLe.agg ?_))
end Go.PM

