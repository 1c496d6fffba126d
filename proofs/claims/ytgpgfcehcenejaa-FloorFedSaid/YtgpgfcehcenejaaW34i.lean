/- The reference of floors: After. -/
import Derived.Test.YtgpgfcehcenejaaW34h
namespace Go.PM
open Go.Proofs
set_option maxRecDepth 10000
set_option maxHeartbeats 8000000

theorem ref34_Into (f : Flow) (v : Int) : CallP Try.prog 38 [.d f.d, .d (I v)] (retD [.b (decide ((f.kind = 1 ∨ f.kind = 2) ∧ f.dst = v))]) := by
  refine exPure_sound (E := envOf Try.prog tt Try.f38.ntmps) (envOf_ok ttok mixed) Try.func38 (by rfl) rfl rfl (Nat.le_of_ble_eq_true rfl) ?_
  repeat' ((conv => whnf); first | with_reducible refine Dec.t (show true = true from rfl) ?_ | with_reducible refine Dec.t (show false = false from rfl) ?_ | with_reducible refine Dec.f (show ¬ (true = false) by decide) ?_ | with_reducible refine Dec.f (show ¬ (false = true) by decide) ?_ | refine Dec.t (by omega) ?_ | refine Dec.f (by omega) ?_ | refine Dec.split (fun _ => ?_) (fun _ => ?_) | refine Wr.id (by omega) ?_ | refine Chk.mk (by first | omega | exact rfl | (simp only [List.length_map]; omega) | (simp [room]; done) | (simp [room]; omega) | (simp [dropL, room]; done) | (simp [dropL, room]; omega)) ?_ | refine Nam.mk (List.length_map _) ?_ | refine Prep.skip ?_ | refine Eith.l ?_ | refine chk_t (x := D.flat _) (by assumption) ?_ | refine br_mk (fun _ => ?_) (fun _ => ?_) | fail)
  all_goals (conv => whnf)
  all_goals try simp only [decide_eq_true_eq, decide_eq_false_iff_not] at *
  all_goals first | (rw [decide_eq_true (by omega)]; exact DLe.refl _) | (rw [decide_eq_false (by omega)]; exact DLe.refl _)
theorem ref34_Leaves (f : Flow) (v : Int) : CallP Try.prog 39 [.d f.d, .d (I v)] (retD [.b (decide (¬ f.kind = 1 ∧ f.src = v))]) := by
  refine exPure_sound (E := envOf Try.prog tt Try.f39.ntmps) (envOf_ok ttok mixed) Try.func39 (by rfl) rfl rfl (Nat.le_of_ble_eq_true rfl) ?_
  repeat' ((conv => whnf); first | with_reducible refine Dec.t (show true = true from rfl) ?_ | with_reducible refine Dec.t (show false = false from rfl) ?_ | with_reducible refine Dec.f (show ¬ (true = false) by decide) ?_ | with_reducible refine Dec.f (show ¬ (false = true) by decide) ?_ | refine Dec.t (by omega) ?_ | refine Dec.f (by omega) ?_ | refine Dec.split (fun _ => ?_) (fun _ => ?_) | refine Wr.id (by omega) ?_ | refine Chk.mk (by first | omega | exact rfl | (simp only [List.length_map]; omega) | (simp [room]; done) | (simp [room]; omega) | (simp [dropL, room]; done) | (simp [dropL, room]; omega)) ?_ | refine Nam.mk (List.length_map _) ?_ | refine Prep.skip ?_ | refine Eith.l ?_ | refine chk_t (x := D.flat _) (by assumption) ?_ | refine br_mk (fun _ => ?_) (fun _ => ?_) | fail)
  all_goals (conv => whnf)
  all_goals try simp only [decide_eq_true_eq, decide_eq_false_iff_not] at *
  all_goals first | (rw [decide_eq_true (by omega)]; exact DLe.refl _) | (rw [decide_eq_false (by omega)]; exact DLe.refl _)
/-- One vessel's amount through the flows. -/
def perI (p v : Int) (n : Int) (f : Flow) : Int := if f.per = p ∧ (f.kind = 1 ∨ f.kind = 2) ∧ f.dst = v then n + f.amt else n
def perV (p v : Int) (n : Int) (f : Flow) : Int := if f.per = p ∧ ¬ f.kind = 1 ∧ f.src = v then perI p v n f - f.amt else perI p v n f
theorem getD_setI (l : List Int) (i j : Nat) (x : Int) (hi : i < l.length) : (l.set i x).getD j 0 = if i = j then x else l.getD j 0 := by
  simp only [List.getD_eq_getElem?_getD, List.getElem?_set]
  split
  · simp [*]
  · rfl
theorem stepA_at {p : Int} {l : List Int} {f : Flow} {np : Int} (hf : f.ok l.length np) (v : Nat) : (stepA p l f).getD v 0 = perV p v (l.getD v 0) f := by
  unfold Flow.ok at hf
  unfold stepA addAt subAt
  by_cases hp : f.per = p
  · rw [if_pos hp]
    rcases hf.2.2 with h | h | h | h
    · rw [if_pos h.1, getD_setI _ _ _ _ (by omega)]
      by_cases e : f.dst.toNat = v
      · have r : perV p v (l.getD v 0) f = l.getD v 0 + f.amt := by unfold perV perI; rw [if_neg (by omega), if_pos (by omega)]
        rw [if_pos e, r, e]
      · have r : perV p v (l.getD v 0) f = l.getD v 0 := by unfold perV perI; rw [if_neg (by omega), if_neg (by omega)]
        rw [if_neg e, r]
    · rw [if_neg (by omega), if_pos h.1, getD_setI _ _ _ _ (by rw [List.length_set]; omega), getD_setI _ _ _ _ (by omega), getD_setI _ _ _ _ (by omega)]
      by_cases e : f.src.toNat = v
      · have r : perV p v (l.getD v 0) f = l.getD v 0 - f.amt := by unfold perV perI; rw [if_pos (by omega), if_neg (by omega)]
        rw [if_pos e, if_neg (by omega), r, e]
      · rw [if_neg e]
        by_cases e2 : f.dst.toNat = v
        · have r : perV p v (l.getD v 0) f = l.getD v 0 + f.amt := by unfold perV perI; rw [if_neg (by omega), if_pos (by omega)]
          rw [if_pos e2, r, e2]
        · have r : perV p v (l.getD v 0) f = l.getD v 0 := by unfold perV perI; rw [if_neg (by omega), if_neg (by omega)]
          rw [if_neg e2, r]
    all_goals
      rw [if_neg (by omega), if_neg (by omega), getD_setI _ _ _ _ (by omega)]
      by_cases e : f.src.toNat = v
      · have r : perV p v (l.getD v 0) f = l.getD v 0 - f.amt := by unfold perV perI; rw [if_pos (by omega), if_neg (by omega)]
        rw [if_pos e, r, e]
      · have r : perV p v (l.getD v 0) f = l.getD v 0 := by unfold perV perI; rw [if_neg (by omega), if_neg (by omega)]
        rw [if_neg e, r]
  · have r : perV p v (l.getD v 0) f = l.getD v 0 := by unfold perV perI; rw [if_neg (fun hh => hp hh.1), if_neg (fun hh => hp hh.1)]
    rw [if_neg hp, r]
theorem afterM_at {p np : Int} (v : Nat) : ∀ (fl : List Flow) {l : List Int}, (∀ f ∈ fl, f.ok l.length np) → (afterM fl p l).getD v 0 = fl.foldl (perV p v) (l.getD v 0)
  | [], l, _ => rfl
  | f :: fl, l, h => by
    show (afterM fl p (stepA p l f)).getD v 0 = fl.foldl (perV p v) (perV p v (l.getD v 0) f)
    rw [← stepA_at (h f (.head _))]
    exact afterM_at v fl fun g hg => by rw [stepA_len]; exact h g (.tail _ hg)
theorem afterM_get {p np : Int} {fl : List Flow} {l : List Int} (h : ∀ f ∈ fl, f.ok l.length np) {v : Nat} {n : Int} (hv : l[v]? = some n) : (afterM fl p l)[v]? = some (fl.foldl (perV p v) n) := by
  have hlt := (List.getElem?_eq_some_iff.1 hv).1
  have h1 := afterM_at (p := p) v fl h
  have h2 : v < (afterM fl p l).length := by rw [afterM_len]; exact hlt
  rw [List.getD_eq_getElem?_getD, List.getD_eq_getElem?_getD, hv, List.getElem?_eq_getElem h2] at h1
  rw [List.getElem?_eq_getElem h2]
  simpa using h1
structure XAf where
  v : Nat
  ver : Nat
  n : Nat
  d : List D
theorem ref34_After (h : Hist) (bef : List Int) (p : Int) (hok : h.ok) (hl : bef.length = h.op.length) (hb : ∀ n ∈ bef, -1099511627776 ≤ n ∧ n ≤ 1099511627776) :
    CallP Try.prog 25 [.d h.d, .d (SL 1 (bef.map I)), .d (I p)] (retD [rowD (afterM h.fl p bef)]) := by
  have hnf := hok.nf
  have hnv := hok.nv
  have hfl : ∀ f ∈ h.fl, f.ok bef.length h.per := by rw [hl]; exact hok.fl
  refine exPure_sound (E := envOf Try.prog tt Try.f25.ntmps) (envOf_ok ttok mixed) Try.func25 (by rfl) rfl rfl (Nat.le_of_ble_eq_true rfl) ?_
  repeat' ((conv => whnf); first | with_reducible refine Dec.t (show true = true from rfl) ?_ | with_reducible refine Dec.t (show false = false from rfl) ?_ | with_reducible refine Dec.f (show ¬ (true = false) by decide) ?_ | with_reducible refine Dec.f (show ¬ (false = true) by decide) ?_ | refine Dec.t (by omega) ?_ | refine Dec.f (by omega) ?_ | refine Dec.split (fun _ => ?_) (fun _ => ?_) | refine Wr.id (by omega) ?_ | refine Chk.mk (by first | omega | exact rfl | (simp only [List.length_map]; omega) | (simp [room]; done) | (simp [room]; omega) | (simp [dropL, room]; done) | (simp [dropL, room]; omega)) ?_ | refine Nam.mk (List.length_map _) ?_ | refine Prep.skip ?_ | refine Eith.l ?_ | refine chk_t (x := D.flat _) (by assumption) ?_ | refine br_mk (fun _ => ?_) (fun _ => ?_) | fail)
  all_goals (conv => whnf)
  refine ALoop.virt 7 1 1 false (by decide) rfl ?_
  conv => whnf
  refine ALoop.at (E := envOf Try.prog tt Try.f25.ntmps) (envOf_ok ttok mixed) (X := XAf) (fun x => [(8, .d (I x.v)), (7, .sref 1 x.ver 0 x.n false)]) (fun x => [(1, .row x.ver 1 false x.d)])
    (fun x => x.v ≤ bef.length ∧ x.v = x.n ∧ x.d = ((afterM h.fl p bef).take x.v).map I) (fun x => bef.length - x.v) ⟨0, 0, 0, []⟩ (by repeat (first | exact trivial | refine And.intro rfl ?_ | refine And.intro (congrArg (fun n => V.d (I n)) (wrap_nat _ (by omega))) ?_)) rfl ⟨Nat.zero_le _, rfl, rfl⟩ ?_
  rintro ⟨v, ver, n, d⟩ ⟨hv, e1, e2⟩
  simp only at hv e1 e2
  subst e1 e2
  dsimp only
  by_cases hlt : v < bef.length
  · obtain ⟨b, hx, _⟩ := drop_get hlt
    have hbb := hb b (List.mem_of_getElem? hx)
    have hg := afterM_get (p := p) hfl hx
    repeat' ((conv => whnf); first | with_reducible refine Dec.t (show true = true from rfl) ?_ | with_reducible refine Dec.t (show false = false from rfl) ?_ | with_reducible refine Dec.f (show ¬ (true = false) by decide) ?_ | with_reducible refine Dec.f (show ¬ (false = true) by decide) ?_ | refine Dec.t (by omega) ?_ | refine Dec.f (by omega) ?_ | refine Dec.split (fun _ => ?_) (fun _ => ?_) | refine Wr.id (by omega) ?_ | refine Chk.mk (by first | omega | exact rfl | (simp only [List.length_map]; omega) | (simp [room]; done) | (simp [room]; omega) | (simp [dropL, room]; done) | (simp [dropL, room]; omega)) ?_ | refine Nam.mk (List.length_map _) ?_ | refine Prep.skip ?_ | refine Eith.l ?_ | refine chk_t (x := D.flat _) (by assumption) ?_ | refine br_mk (fun _ => ?_) (fun _ => ?_) | refine nthK_mk (map_get hx) ?_ | fail)
    all_goals first | (exfalso; omega) | skip
    all_goals (conv => whnf)
    refine ALoop.at (E := envOf Try.prog tt Try.f25.ntmps) (envOf_ok ttok mixed) (X := Nat × Int) (fun x => [(10, .d (I x.1)), (9, .d (I x.2))]) (fun _ => []) (fun x => x.1 ≤ h.fl.length ∧ (h.fl.drop x.1).foldl (perV p v) x.2 = h.fl.foldl (perV p v) b ∧ (-1099511627776 - 2097152 * x.1 ≤ x.2 ∧ x.2 ≤ 1099511627776 + 2097152 * x.1)) (fun x => h.fl.length - x.1) (0, b) (by repeat (first | exact trivial | refine And.intro rfl ?_ | refine And.intro (congrArg (fun n => V.d (I n)) (wrap_nat _ (by omega))) ?_)) rfl
      ⟨Nat.zero_le _, rfl, by simp only; omega⟩ ?_
    rintro ⟨i, n⟩ ⟨hi, hm, hn⟩
    simp only at hi hm hn
    dsimp only
    by_cases hlt2 : i < h.fl.length
    · obtain ⟨f, hy, hd⟩ := drop_get hlt2
      have hfo := hfl f (List.mem_of_getElem? hy)
      unfold Flow.ok at hfo
      have hamt := hfo.2.1
      clear hfo
      rw [hd, List.foldl_cons] at hm
      repeat' ((conv => whnf); first | with_reducible refine Dec.t (show true = true from rfl) ?_ | with_reducible refine Dec.t (show false = false from rfl) ?_ | with_reducible refine Dec.f (show ¬ (true = false) by decide) ?_ | with_reducible refine Dec.f (show ¬ (false = true) by decide) ?_ | refine Dec.t (by omega) ?_ | refine Dec.f (by omega) ?_ | refine Dec.split (fun _ => ?_) (fun _ => ?_) | refine Wr.id (by omega) ?_ | refine Chk.mk (by first | omega | exact rfl | (simp only [List.length_map]; omega) | (simp [room]; done) | (simp [room]; omega) | (simp [dropL, room]; done) | (simp [dropL, room]; omega)) ?_ | refine Nam.mk (List.length_map _) ?_ | refine Prep.skip ?_ | refine Eith.l ?_ | refine chk_t (x := D.flat _) (by assumption) ?_ | refine br_mk (fun _ => ?_) (fun _ => ?_) | refine nthK_mk (map_get hy) ?_ | refine ACall.ofB (ref34_Into _ _) (fun _ => ?_) (fun _ => ?_) | refine APCall.ofB (ref34_Into _ _) (fun _ => ?_) (fun _ => ?_) | refine ACall.ofB (ref34_Leaves _ _) (fun _ => ?_) (fun _ => ?_) | refine APCall.ofB (ref34_Leaves _ _) (fun _ => ?_) (fun _ => ?_) | fail)
      all_goals first | (exfalso; omega) | skip
      all_goals (conv => whnf)
      all_goals try simp only [decide_eq_true_eq, decide_eq_false_iff_not] at *
      all_goals first
        | (have hs : perV p v n f = n := by unfold perV perI; rw [if_neg (by omega), if_neg (by omega)]
           rw [hs] at hm; exact ⟨(i + 1, n), Wm.end (by repeat (first | exact trivial | refine And.intro rfl ?_ | refine And.intro (congrArg (fun n => V.d (I n)) (wrap_nat _ (by omega))) ?_)) rfl rfl rfl, ⟨hlt2, hm, by simp only; omega⟩, by simp only; omega⟩)
        | (have hs : perV p v n f = n + f.amt := by unfold perV perI; rw [if_neg (by omega), if_pos (by omega)]
           rw [hs] at hm; exact ⟨(i + 1, n + f.amt), Wm.end (by repeat (first | exact trivial | refine And.intro rfl ?_ | refine And.intro (congrArg (fun n => V.d (I n)) (wrap_nat _ (by omega))) ?_)) rfl rfl rfl, ⟨hlt2, hm, by simp only; omega⟩, by simp only; omega⟩)
        | (have hs : perV p v n f = n - f.amt := by unfold perV perI; rw [if_pos (by omega), if_neg (by omega)]
           rw [hs] at hm; exact ⟨(i + 1, n - f.amt), Wm.end (by repeat (first | exact trivial | refine And.intro rfl ?_ | refine And.intro (congrArg (fun n => V.d (I n)) (wrap_nat _ (by omega))) ?_)) rfl rfl rfl, ⟨hlt2, hm, by simp only; omega⟩, by simp only; omega⟩)
        | (have hs : perV p v n f = n + f.amt - f.amt := by unfold perV perI; rw [if_pos (by omega), if_pos (by omega)]
           rw [hs] at hm; exact ⟨(i + 1, n + f.amt - f.amt), Wm.end (by repeat (first | exact trivial | refine And.intro rfl ?_ | refine And.intro (congrArg (fun n => V.d (I n)) (wrap_nat _ (by omega))) ?_)) rfl rfl rfl, ⟨hlt2, hm, by simp only; omega⟩, by simp only; omega⟩)
    · have : i = h.fl.length := by omega
      subst this
      rw [List.drop_length] at hm
      have hm : n = h.fl.foldl (perV p v) b := hm
      rw [← hm] at hg
      repeat' ((conv => whnf); first | with_reducible refine Dec.t (show true = true from rfl) ?_ | with_reducible refine Dec.t (show false = false from rfl) ?_ | with_reducible refine Dec.f (show ¬ (true = false) by decide) ?_ | with_reducible refine Dec.f (show ¬ (false = true) by decide) ?_ | refine Dec.t (by omega) ?_ | refine Dec.f (by omega) ?_ | refine Dec.split (fun _ => ?_) (fun _ => ?_) | refine Wr.id (by omega) ?_ | refine Chk.mk (by first | omega | exact rfl | (simp only [List.length_map]; omega) | (simp [room]; done) | (simp [room]; omega) | (simp [dropL, room]; done) | (simp [dropL, room]; omega)) ?_ | refine Nam.mk (List.length_map _) ?_ | refine Prep.skip ?_ | refine Eith.l ?_ | refine chk_t (x := D.flat _) (by assumption) ?_ | refine br_mk (fun _ => ?_) (fun _ => ?_) | refine Chk.mk ⟨rfl, by rw [List.length_map, List.length_take, afterM_len]; omega, by simp [room]; omega⟩ ?_ | fail)
      all_goals first | (exfalso; omega) | skip
      all_goals (conv => whnf)
      all_goals first
        | exact ⟨⟨v + 1, ver + 1, v + 1, ((afterM h.fl p bef).take v).map I ++ [I n]⟩, Wm.end (by repeat (first | exact trivial | refine And.intro rfl ?_ | refine And.intro (congrArg (fun n => V.d (I n)) (wrap_nat _ (by omega))) ?_)) rfl rfl rfl, ⟨hlt, rfl, by simp only; rw [List.take_add_one, hg, List.map_append]; rfl⟩, by simp only; omega⟩
  · have : v = bef.length := by omega
    subst this
    repeat' ((conv => whnf); first | with_reducible refine Dec.t (show true = true from rfl) ?_ | with_reducible refine Dec.t (show false = false from rfl) ?_ | with_reducible refine Dec.f (show ¬ (true = false) by decide) ?_ | with_reducible refine Dec.f (show ¬ (false = true) by decide) ?_ | refine Dec.t (by omega) ?_ | refine Dec.f (by omega) ?_ | refine Dec.split (fun _ => ?_) (fun _ => ?_) | refine Wr.id (by omega) ?_ | refine Chk.mk (by first | omega | exact rfl | (simp only [List.length_map]; omega) | (simp [room]; done) | (simp [room]; omega) | (simp [dropL, room]; done) | (simp [dropL, room]; omega)) ?_ | refine Nam.mk (List.length_map _) ?_ | refine Prep.skip ?_ | refine Eith.l ?_ | refine chk_t (x := D.flat _) (by assumption) ?_ | refine br_mk (fun _ => ?_) (fun _ => ?_) | refine Chk.mk ⟨rfl, by rw [List.length_map, List.length_take, afterM_len]; omega⟩ ?_ | refine Nam.mk (y := (afterM h.fl p bef).map I) (by rw [List.drop_zero, List.take_of_length_le (l := afterM h.fl p bef) (by rw [afterM_len]; exact Nat.le_refl _)]; exact List.take_of_length_le (by rw [List.length_map, afterM_len]; exact Nat.le_refl _)) ?_ | fail)
    all_goals first | (exfalso; omega) | skip
    all_goals (conv => whnf)
    all_goals first | exact DLe.refl _
end Go.PM

