/- The statements of layer 41: plain facts about what is recorded; CorrectionsApplySpec, its contract. -/
import Derived.Test.YtfbngjofngmbdaaC41f
namespace Go.PM
open Go.Proofs
set_option maxRecDepth 10000
set_option maxHeartbeats 8000000

theorem atF_mem {l : List Fact} {k : Key} {d t : Int} : ∀ (l : List Fact) (o : Option Fact) (f : Fact), l.foldl (atStep k d t) o = some f → f ∈ l ∨ o = some f
  | [], o, f, h => .inr h
  | x :: l, o, f, h => by
    rcases atF_mem (l := l) l _ f h with h | h
    · exact .inl (.tail _ h)
    · unfold atStep at h
      split at h
      · cases h; exact .inl (.head _)
      · exact .inr h
theorem before_trans {a b c : Fact} (h1 : before a b) (h2 : before b c) : before a c := by unfold before at *; omega
theorem rising_pair : ∀ l : List Fact, rising l → l.Pairwise before
  | [], _ => List.Pairwise.nil
  | [a], _ => List.pairwise_singleton _ _
  | a :: b :: r, h => by
    have ih := rising_pair (b :: r) h.2
    rw [List.pairwise_cons]
    refine ⟨fun x hx => ?_, ih⟩
    rcases List.mem_cons.1 hx with rfl | hx
    · exact h.1
    · exact before_trans h.1 ((List.pairwise_cons.1 ih).1 x hx)
theorem rising_snoc {f : Fact} : ∀ l : List Fact, rising l → (∀ g, l.getLast? = some g → before g f) → rising (l ++ [f])
  | [], _, _ => trivial
  | [a], _, h => ⟨h a rfl, trivial⟩
  | a :: b :: r, h, h2 => ⟨h.1, rising_snoc (b :: r) h.2 (fun g hg => h2 g (by simpa using hg))⟩
theorem check_all {l : List Fact} (h : checkM l = 0) : (∀ f ∈ l, f.ok) ∧ rising l := by
  unfold checkM at h
  by_cases h1 : ∀ f ∈ l, f.ok
  · by_cases h2 : rising l
    · exact ⟨h1, h2⟩
    · rw [if_pos h1, if_neg h2] at h; exact absurd h (by decide)
  · rw [if_neg h1] at h; exact absurd h (by decide)
theorem addM_check {l : List Fact} {f : Fact} (h : (addM l f).2 = 0) : checkM (l ++ [f]) = 0 := by
  obtain ⟨h1, h2, h3, _⟩ := addM_ok h
  obtain ⟨g1, g2⟩ := check_all h1
  unfold checkM
  rw [if_pos (fun g hg => by rcases List.mem_append.1 hg with hg | hg; exact g1 g hg; rw [List.mem_singleton.1 hg]; exact h2), if_pos (rising_snoc l g2 h3)]
theorem at_skip (l m : List Fact) (k : Key) (d t : Int) (h : ∀ f ∈ m, ¬ (f.key = k ∧ f.known ≤ t ∧ f.from_ ≤ d ∧ d < f.to_)) : atM (l ++ m) k d t = atM l k d t := by
  unfold atM atF
  rw [List.foldl_append]
  congr 1
  generalize l.foldl (atStep k d t) none = o
  induction m generalizing o with
  | nil => rfl
  | cons f m ih =>
    rw [List.foldl_cons]
    have : atStep k d t o f = o := by
      unfold atStep
      rw [if_neg (fun hh => h f (.head _) ⟨hh.1, hh.2.1, hh.2.2.1, hh.2.2.2.1⟩)]
    rw [this]
    exact ih (fun g hg => h g (.tail _ hg)) o
theorem at_last {l : List Fact} {f : Fact} {day t : Int} (hc : checkM (l ++ [f]) = 0) (h1 : f.known ≤ t) (h2 : f.from_ ≤ day) (h3 : day < f.to_) : atM (l ++ [f]) f.key day t = valOf (some f) := by
  have hp := rising_pair _ (check_all hc).2
  rw [List.pairwise_append] at hp
  unfold atM
  rw [atF_snoc]
  congr 1
  unfold atStep
  rw [if_pos]
  refine ⟨rfl, h1, h2, h3, fun g hg => ?_⟩
  rw [order_le]
  intro hb
  rcases atF_mem (l := l) l none g hg with h | h
  · have := before_trans (hp.2.2 g h f (.head _)) hb
    unfold before at this; omega
  · cases h
theorem now_le : ∀ (l : List Fact) (n t : Int), l.foldl stepN n ≤ t ↔ n ≤ t ∧ ∀ f ∈ l, f.known ≤ t
  | [], n, t => by simp
  | f :: l, n, t => by
    rw [List.foldl_cons, now_le l]
    unfold stepN
    constructor
    · rintro ⟨h1, h2⟩
      refine ⟨by split at h1 <;> omega, fun g hg => ?_⟩
      rcases List.mem_cons.1 hg with rfl | hg
      · split at h1 <;> omega
      · exact h2 g hg
    · rintro ⟨h1, h2⟩
      have := h2 f (.head _)
      exact ⟨by split <;> omega, fun g hg => h2 g (.tail _ hg)⟩
theorem recM_bad : ∀ (cs : List Corr) (l : List Fact) (t : Int), ¬ (recM l cs t).2 = 0 → (recM l cs t).1 = []
  | [], l, t, h => absurd rfl h
  | c :: cs, l, t, h => by
    unfold recM at h ⊢
    by_cases h1 : (addM l (corrFact c t (nextNo l t))).2 = 0
    · rw [if_pos h1] at h ⊢; exact recM_bad cs _ t h
    · rw [if_neg h1]
structure RecOk (l r : List Fact) (cs : List Corr) (t : Int) : Prop where
  check : checkM r = 0
  len : r.length = l.length + cs.length
  now : nowR l ≤ t → nowR r ≤ t
theorem recM_ok : ∀ (cs : List Corr) (l : List Fact) (t : Int), checkM l = 0 → (recM l cs t).2 = 0 → RecOk l (recM l cs t).1 cs t
  | [], l, t, hc, _ => ⟨hc, by simp [recM], fun h => h⟩
  | c :: cs, l, t, hc, h => by
    unfold recM at h ⊢
    by_cases h1 : (addM l (corrFact c t (nextNo l t))).2 = 0
    · rw [if_pos h1] at h ⊢
      have e := (addM_ok h1).2.2.2
      rw [e] at h ⊢
      have ih := recM_ok cs _ t (addM_check h1) h
      refine ⟨ih.check, by rw [ih.len]; simp; omega, fun hn => ih.now ?_⟩
      unfold nowR at hn ⊢
      rw [now_le] at hn ⊢
      refine ⟨hn.1, fun g hg => ?_⟩
      rcases List.mem_append.1 hg with hg | hg
      · exact hn.2 g hg
      · rw [List.mem_singleton.1 hg]; exact Int.le_refl _
    · rw [if_neg h1] at h; exact absurd h h1
theorem applyM_bad {l : List Fact} {cs : List Corr} {t : Int} (h : ¬ (applyM l cs t).2 = 0) : (applyM l cs t).1 = [] := by
  unfold applyM at h ⊢
  by_cases h1 : checkM l = 0
  · rw [if_pos h1] at h ⊢
    by_cases h2 : fit l cs t
    · rw [if_pos h2] at h ⊢; exact recM_bad _ _ _ h
    · rw [if_neg h2]
  · rw [if_neg h1]
theorem applyM_ok {l : List Fact} {cs : List Corr} {t : Int} (h : (applyM l cs t).2 = 0) : checkM l = 0 ∧ fit l cs t ∧ applyM l cs t = recM l cs t ∧ RecOk l (applyM l cs t).1 cs t := by
  by_cases h1 : checkM l = 0
  · by_cases h2 : fit l cs t
    · have e := apply_fit h1 h2
      rw [e] at h ⊢
      exact ⟨h1, h2, rfl, recM_ok _ _ _ h1 h⟩
    · rw [apply_unfit h1 h2] at h; exact absurd h (by decide)
  · rw [apply_bad h1] at h; exact absurd h h1
theorem applyM_len (l : List Fact) (cs : List Corr) (t : Int) : (applyM l cs t).1.length ≤ l.length + cs.length := by
  by_cases h : (applyM l cs t).2 = 0
  · rw [(applyM_ok h).2.2.2.len]; exact Nat.le_refl _
  · rw [applyM_bad h]; exact Nat.zero_le _
theorem put_facts (w : CWorld) (cs : List Corr) (t : Int) : (w.put (applyM w.facts cs t)).facts = (applyM w.facts cs t).1 := by
  unfold CWorld.put
  by_cases h : (applyM w.facts cs t).2 = 0
  · rw [if_pos h]
  · rw [if_neg h, applyM_bad h]; rfl
theorem same_facts (r : List Fact) (h : r.length < 2 ^ 40) : CallP Try.prog 10 [.d (SL 8 (r.map Fact.d)), .d (SL 8 (r.map Fact.d))] (retD [.b true]) := by
  have h := ref04_Same r r h
  rwa [decide_eq_true rfl] at h
theorem law41_ApplySpec (w : CWorld) (cs : List Corr) (t : Int) (hl : w.facts.length < 2 ^ 63) (hc : cs.length < 2 ^ 63) : CallP Try.prog 3 [.d w.d, .d (SL 6 (cs.map Corr.d)), .d (I t)] (retD [.b true]) := by
  by_cases hf : w.facts.length ≤ 30
  · by_cases h70 : cs.length ≤ 70
    · have hA := corr_Apply w cs t (by omega) (by omega)
      have hB := ref41_Apply w cs t (by omega) (by omega)
      have hS := same_facts (w.put (applyM w.facts cs t)).facts (by rw [put_facts]; have := applyM_len w.facts cs t; omega)
      refine exPure_sound (E := envOf Try.prog tt Try.f3.ntmps) (envOf_ok ttok mixed) Try.func3 (by rfl) rfl rfl (Nat.le_of_ble_eq_true rfl) ?_
      repeat' ((conv => whnf); first | with_reducible refine Dec.t (show true = true from rfl) ?_ | with_reducible refine Dec.t (show false = false from rfl) ?_ | with_reducible refine Dec.f (show ¬ (true = false) by decide) ?_ | with_reducible refine Dec.f (show ¬ (false = true) by decide) ?_ | refine Dec.t (by omega) ?_ | refine Dec.f (by omega) ?_ | refine Dec.split (fun _ => ?_) (fun _ => ?_) | refine Wr.id (by omega) ?_ | refine Chk.mk (by first | omega | exact rfl | (simp only [List.length_map]; omega) | (simp [room]; done) | (simp [room]; omega) | (simp [dropL, room]; done) | (simp [dropL, room]; omega)) ?_ | refine Nam.mk (List.length_map _) ?_ | refine Prep.skip ?_ | refine Eith.l ?_ | refine chk_t (x := D.flat _) (by assumption) ?_ | refine br_mk (fun _ => ?_) (fun _ => ?_) | refine ACall.of (law41_sane) ?_ | refine APCall.of (law41_sane) ?_ | refine ACall.ofB (ref04_Few w.facts hl) (fun _ => ?_) (fun _ => ?_) | refine APCall.ofB (ref04_Few w.facts hl) (fun _ => ?_) (fun _ => ?_) | refine ACall.of (hA) ?_ | refine APCall.of (hA) ?_ | refine ACall.of (hB) ?_ | refine APCall.of (hB) ?_ | refine ACall.of (hS) ?_ | refine APCall.of (hS) ?_ | fail)
      all_goals (conv => whnf)
      all_goals first | exact DLe.refl _ | (exfalso; rename_i h; exact h rfl) | trace_state
    · refine exPure_sound (E := envOf Try.prog tt Try.f3.ntmps) (envOf_ok ttok mixed) Try.func3 (by rfl) rfl rfl (Nat.le_of_ble_eq_true rfl) ?_
      repeat' ((conv => whnf); first | with_reducible refine Dec.t (show true = true from rfl) ?_ | with_reducible refine Dec.t (show false = false from rfl) ?_ | with_reducible refine Dec.f (show ¬ (true = false) by decide) ?_ | with_reducible refine Dec.f (show ¬ (false = true) by decide) ?_ | refine Dec.t (by omega) ?_ | refine Dec.f (by omega) ?_ | refine Dec.split (fun _ => ?_) (fun _ => ?_) | refine Wr.id (by omega) ?_ | refine Chk.mk (by first | omega | exact rfl | (simp only [List.length_map]; omega) | (simp [room]; done) | (simp [room]; omega) | (simp [dropL, room]; done) | (simp [dropL, room]; omega)) ?_ | refine Nam.mk (List.length_map _) ?_ | refine Prep.skip ?_ | refine Eith.l ?_ | refine chk_t (x := D.flat _) (by assumption) ?_ | refine br_mk (fun _ => ?_) (fun _ => ?_) | refine ACall.of (law41_sane) ?_ | refine APCall.of (law41_sane) ?_ | refine ACall.ofB (ref04_Few w.facts hl) (fun _ => ?_) (fun _ => ?_) | refine APCall.ofB (ref04_Few w.facts hl) (fun _ => ?_) (fun _ => ?_) | fail)
      all_goals first | (exfalso; rename_i h; omega) | skip
      all_goals (conv => whnf)
      all_goals exact DLe.refl _
  · refine exPure_sound (E := envOf Try.prog tt Try.f3.ntmps) (envOf_ok ttok mixed) Try.func3 (by rfl) rfl rfl (Nat.le_of_ble_eq_true rfl) ?_
    repeat' ((conv => whnf); first | with_reducible refine Dec.t (show true = true from rfl) ?_ | with_reducible refine Dec.t (show false = false from rfl) ?_ | with_reducible refine Dec.f (show ¬ (true = false) by decide) ?_ | with_reducible refine Dec.f (show ¬ (false = true) by decide) ?_ | refine Dec.t (by omega) ?_ | refine Dec.f (by omega) ?_ | refine Dec.split (fun _ => ?_) (fun _ => ?_) | refine Wr.id (by omega) ?_ | refine Chk.mk (by first | omega | exact rfl | (simp only [List.length_map]; omega) | (simp [room]; done) | (simp [room]; omega) | (simp [dropL, room]; done) | (simp [dropL, room]; omega)) ?_ | refine Nam.mk (List.length_map _) ?_ | refine Prep.skip ?_ | refine Eith.l ?_ | refine chk_t (x := D.flat _) (by assumption) ?_ | refine br_mk (fun _ => ?_) (fun _ => ?_) | refine ACall.of (law41_sane) ?_ | refine APCall.of (law41_sane) ?_ | refine ACall.ofB (ref04_Few w.facts hl) (fun h => absurd (of_decide_eq_true h) hf) (fun _ => ?_) | fail)
    all_goals (conv => whnf)
    all_goals exact DLe.refl _
end Go.PM

