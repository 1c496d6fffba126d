/- The statements of layer 4: Points. -/
import Derived.Test.YtnemmfoohmkcgaaL04a
namespace Go.PM
open Go.Proofs
set_option maxRecDepth 10000
set_option maxHeartbeats 4000000

theorem and31 (s : Int) : 0 ≤ bitsOp .and .i64 s 31 ∧ bitsOp .and .i64 s 31 ≤ 31 := by
  have h : (BitVec.ofInt 64 s &&& BitVec.ofInt 64 31).toNat ≤ 31 := by
    rw [BitVec.toNat_and, show (BitVec.ofInt 64 31).toNat = 31 from rfl]
    exact Nat.and_le_right
  have e : bitsOp .and .i64 s 31 = ((BitVec.ofInt 64 s &&& BitVec.ofInt 64 31).toNat : Int) := wrap_id (n := ((BitVec.ofInt 64 s &&& BitVec.ofInt 64 31).toNat : Int)) (by omega)
  rw [e]; omega
theorem key_pick {l : List Fact} {q : Int} (h : 0 < l.length) (h0 : 0 ≤ q) : 0 ≤ q.tmod l.length ∧ q.tmod l.length < l.length ∧ ∃ g : Fact, l[(q.tmod l.length).toNat]? = some g := by
  have h1 := Int.tmod_nonneg (l.length : Int) h0
  have h2 := Int.tmod_lt_of_pos q (show (0 : Int) < l.length by omega)
  exact ⟨h1, h2, l[(q.tmod l.length).toNat]'(by omega), List.getElem?_eq_getElem (by omega)⟩
def dayG (l : List Fact) (k : Key) (a b t : Int) (i : Nat) : Option Pt := if a ≤ (i : Int) ∧ (i : Int) < b then ptOf i (atM l k i t) else none
def dayP (l : List Fact) (k : Key) (a b t : Int) (n : Nat) : List Pt := (List.range n).filterMap (dayG l k a b t)
theorem dayP_succ (l : List Fact) (k : Key) (a b t : Int) (n : Nat) : dayP l k a b t (n + 1) = dayP l k a b t n ++ (dayG l k a b t n).toList := by
  unfold dayP
  rw [List.range_succ, List.filterMap_append]
  congr 1
theorem lo0_max (a : Int) : (0 ≤ a ∧ lo0 a = a) ∨ (a < 0 ∧ lo0 a = 0) := by unfold lo0; split <;> omega
theorem hi0_min (b : Int) : (b ≤ 1024 ∧ hi0 b = b) ∨ (1024 < b ∧ hi0 b = 1024) := by unfold hi0; split <;> omega
theorem dayP_eq (l : List Fact) (k : Key) (a b t : Int) : ∀ m : Nat, m ≤ 1024 → dayP l k a b t m = pointsF l k (lo0 a) t (min (daysN a b) ((m : Int) - lo0 a).toNat)
  | 0, _ => by
    have := lo0_max a
    rw [show min (daysN a b) (((0 : Nat) : Int) - lo0 a).toNat = 0 by omega]; rfl
  | m + 1, hm => by
    have h1 := lo0_max a
    have h2 := hi0_min b
    have hd : daysN a b = (hi0 b - lo0 a).toNat := rfl
    rw [dayP_succ, dayP_eq l k a b t m (by omega)]
    by_cases hin : a ≤ (m : Int) ∧ (m : Int) < b
    · obtain ⟨j, hj⟩ : ∃ j : Nat, (m : Int) = lo0 a + j := ⟨((m : Int) - lo0 a).toNat, by omega⟩
      rw [show min (daysN a b) ((m : Int) - lo0 a).toNat = j by omega, show min (daysN a b) (((m + 1 : Nat) : Int) - lo0 a).toNat = j + 1 by omega, points_succ, ← hj]
      unfold dayG
      rw [if_pos hin]
    · rw [show min (daysN a b) (((m + 1 : Nat) : Int) - lo0 a).toNat = min (daysN a b) ((m : Int) - lo0 a).toNat by omega]
      unfold dayG
      rw [if_neg hin]; simp
theorem points_all (l : List Fact) (k : Key) (a b t : Int) : pointsM l k a b t = dayP l k a b t 1024 := by
  rw [dayP_eq l k a b t 1024 (Nat.le_refl _)]
  have h1 := lo0_max a
  have h2 := hi0_min b
  have hd : daysN a b = (hi0 b - lo0 a).toNat := rfl
  rw [show min (daysN a b) (((1024 : Nat) : Int) - lo0 a).toNat = daysN a b by omega]; rfl
theorem dayP_add (l : List Fact) (k : Key) (a b t : Int) (n : Nat) : ∀ m : Nat, ∃ r, dayP l k a b t (n + m) = dayP l k a b t n ++ r
  | 0 => ⟨[], by simp⟩
  | m + 1 => by
    obtain ⟨r, hr⟩ := dayP_add l k a b t n m
    rw [← Nat.add_assoc, dayP_succ, hr]
    exact ⟨_, List.append_assoc _ _ _⟩
theorem dayP_pre (l : List Fact) (k : Key) (a b t : Int) {n : Nat} (h : n ≤ 1024) : ∃ r, dayP l k a b t 1024 = dayP l k a b t n ++ r := by
  have := dayP_add l k a b t n (1024 - n)
  rwa [Nat.add_sub_cancel' h] at this
theorem day_skip {l : List Fact} {k : Key} {a b t : Int} {d : Nat} (h : atM l k d t = none ∨ ¬ (a ≤ (d : Int) ∧ (d : Int) < b)) : dayP l k a b t (d + 1) = dayP l k a b t d := by
  rw [dayP_succ]
  unfold dayG
  rcases h with h | h
  · rw [h]; split <;> simp [ptOf]
  · rw [if_neg h]; simp
theorem day_put {l : List Fact} {k : Key} {a b t v : Int} {d : Nat} (h : atM l k d t = some v) (h2 : a ≤ (d : Int) ∧ (d : Int) < b) : dayP l k a b t (d + 1) = dayP l k a b t d ++ [⟨d, v⟩] := by
  rw [dayP_succ]
  unfold dayG
  rw [if_pos h2, h]; rfl
theorem day_get {l : List Fact} {k : Key} {a b t v : Int} {d : Nat} (hd : d < 1024) (h : atM l k d t = some v) (h2 : a ≤ (d : Int) ∧ (d : Int) < b) : (dayP l k a b t 1024)[(dayP l k a b t d).length]? = some ⟨d, v⟩ := by
  obtain ⟨r, hr⟩ := dayP_pre l k a b t (n := d + 1) (by omega)
  rw [hr, day_put h h2, List.append_assoc, List.getElem?_append_right (Nat.le_refl _)]; simp

theorem law04_Points (l : List Fact) (k : Key) (a b known : Int) (hl : l.length < 2 ^ 63) : CallP Try.prog 10 [.d (SL 8 (l.map Fact.d)), .d k.d, .d (I a), .d (I b), .d (I known)] (retD [.b true]) := by
  refine exPure_sound (E := envOf Try.prog tt Try.f10.ntmps) (envOf_ok ttok mixed) Try.func10 (by rfl) rfl rfl (Nat.le_of_ble_eq_true rfl) ?_
  have hFew := ref04_Few l hl
  by_cases hs : l.length ≤ 30
  · rw [decide_eq_true hs] at hFew
    by_cases hpos : 0 < l.length
    · repeat' ((conv => whnf); first | with_reducible refine Dec.t (show true = true from rfl) ?_ | with_reducible refine Dec.t (show false = false from rfl) ?_ | with_reducible refine Dec.f (show ¬ (true = false) by decide) ?_ | with_reducible refine Dec.f (show ¬ (false = true) by decide) ?_ | refine Dec.t (by omega) ?_ | refine Dec.f (by omega) ?_ | refine Dec.split (fun _ => ?_) (fun _ => ?_) | refine Wr.id (by omega) ?_ | refine Chk.mk (by first | omega | exact rfl | (simp only [List.length_map]; omega) | (simp [room]; done) | (simp [room]; omega) | (simp [dropL, room]; done) | (simp [dropL, room]; omega)) ?_ | refine Nam.mk (List.length_map _) ?_ | refine Prep.skip ?_ | refine Eith.l ?_ | refine chk_t (x := D.flat _) (by assumption) ?_ | refine br_mk (fun _ => ?_) (fun _ => ?_) | refine Nam.mk (List.length_map _) ?_ | refine ACall.of (law04_sane) ?_ | refine APCall.of (law04_sane) ?_ | refine ACall.of hFew ?_ | fail)
      all_goals (conv => whnf)
      obtain ⟨q0, q1⟩ := and31 k.subj
      generalize bitsOp .and .i64 k.subj 31 = q at q0 q1 ⊢
      obtain ⟨m0, m1, g, hg⟩ := key_pick hpos q0
      generalize q.tmod l.length = r at m0 m1 hg ⊢
      refine Chk.mk m0 ?_
      have hP := facts_Points l g.key a b known (by omega)
      rw [points_all] at hP
      repeat' ((conv => whnf); first | with_reducible refine Dec.t (show true = true from rfl) ?_ | with_reducible refine Dec.t (show false = false from rfl) ?_ | with_reducible refine Dec.f (show ¬ (true = false) by decide) ?_ | with_reducible refine Dec.f (show ¬ (false = true) by decide) ?_ | refine Dec.t (by omega) ?_ | refine Dec.f (by omega) ?_ | refine Dec.split (fun _ => ?_) (fun _ => ?_) | refine Wr.id (by omega) ?_ | refine Chk.mk (by first | omega | exact rfl | (simp only [List.length_map]; omega) | (simp [room]; done) | (simp [room]; omega) | (simp [dropL, room]; done) | (simp [dropL, room]; omega)) ?_ | refine Nam.mk (List.length_map _) ?_ | refine Prep.skip ?_ | refine Eith.l ?_ | refine chk_t (x := D.flat _) (by assumption) ?_ | refine br_mk (fun _ => ?_) (fun _ => ?_) | refine Nam.mk (List.length_map _) ?_ | refine nthK_mk (map_get hg) ?_ | refine ACall.of (hP) ?_ | refine APCall.of (hP) ?_ | fail)
      all_goals (conv => whnf)
      refine ALoop.at (E := envOf Try.prog tt Try.f10.ntmps) (envOf_ok ttok mixed) (X := Nat × Nat) (fun x => [(13, .d (I x.1)), (12, .d (I x.2))]) (fun _ => []) (fun x => x.1 ≤ 1024 ∧ x.2 = (dayP l g.key a b known x.1).length) (fun x => 1024 - x.1) (0, 0) (by repeat (first | exact trivial | refine And.intro rfl ?_ | refine And.intro (congrArg (fun n => V.d (I n)) (wrap_nat _ (by omega))) ?_)) rfl ⟨by omega, rfl⟩ ?_
      rintro ⟨d, n⟩ ⟨hd, hn⟩
      simp only at hd hn
      dsimp only
      by_cases hlt : d < 1024
      · have c := facts_At l g.key d known (by omega)
        cases ho : atM l g.key d known with
        | none =>
          rw [ho] at c
          have hs1 := day_skip (a := a) (b := b) (.inl ho)
          repeat' ((conv => whnf); first | with_reducible refine Dec.t (show true = true from rfl) ?_ | with_reducible refine Dec.t (show false = false from rfl) ?_ | with_reducible refine Dec.f (show ¬ (true = false) by decide) ?_ | with_reducible refine Dec.f (show ¬ (false = true) by decide) ?_ | refine Dec.t (by omega) ?_ | refine Dec.f (by omega) ?_ | refine Dec.split (fun _ => ?_) (fun _ => ?_) | refine Wr.id (by omega) ?_ | refine Chk.mk (by first | omega | exact rfl | (simp only [List.length_map]; omega) | (simp [room]; done) | (simp [room]; omega) | (simp [dropL, room]; done) | (simp [dropL, room]; omega)) ?_ | refine Nam.mk (List.length_map _) ?_ | refine Prep.skip ?_ | refine Eith.l ?_ | refine chk_t (x := D.flat _) (by assumption) ?_ | refine br_mk (fun _ => ?_) (fun _ => ?_) | refine ACall.of (c) ?_ | refine APCall.of (c) ?_ | fail)
          all_goals (conv => whnf)
          exact ⟨(d + 1, n), Wm.end (by repeat (first | exact trivial | refine And.intro rfl ?_ | refine And.intro (congrArg (fun n => V.d (I n)) (wrap_nat _ (by omega))) ?_)) rfl rfl rfl, ⟨by simp only; omega, by simp only; rw [hs1]; exact hn⟩, by simp only; omega⟩
        | some v =>
          rw [ho] at c
          by_cases hin : a ≤ (d : Int) ∧ (d : Int) < b
          · have hg2 := day_get hlt ho hin
            rw [← hn] at hg2
            have hPl : (dayP l g.key a b known 1024).length ≤ 1024 := by rw [← points_all]; exact pointsM_len _ _ _ _ _
            have hnl := (List.getElem?_eq_some_iff.1 hg2).1
            have hgd : ((dayP l g.key a b known 1024).map Pt.d)[((n : Nat) : Int).toNat]? = some (Pt.d ⟨d, v⟩) := by rw [Int.toNat_natCast]; exact map_get hg2
            have hs1 : n + 1 = (dayP l g.key a b known (d + 1)).length := by rw [day_put ho hin, hn]; simp
            obtain ⟨hin1, hin2⟩ := hin
            repeat' ((conv => whnf); first | with_reducible refine Dec.t (show true = true from rfl) ?_ | with_reducible refine Dec.t (show false = false from rfl) ?_ | with_reducible refine Dec.f (show ¬ (true = false) by decide) ?_ | with_reducible refine Dec.f (show ¬ (false = true) by decide) ?_ | refine Dec.t (by omega) ?_ | refine Dec.f (by omega) ?_ | refine Dec.split (fun _ => ?_) (fun _ => ?_) | refine Wr.id (by omega) ?_ | refine Chk.mk (by first | omega | exact rfl | (simp only [List.length_map]; omega) | (simp [room]; done) | (simp [room]; omega) | (simp [dropL, room]; done) | (simp [dropL, room]; omega)) ?_ | refine Nam.mk (List.length_map _) ?_ | refine Prep.skip ?_ | refine Eith.l ?_ | refine chk_t (x := D.flat _) (by assumption) ?_ | refine br_mk (fun _ => ?_) (fun _ => ?_) | refine ACall.of (c) ?_ | refine APCall.of (c) ?_ | refine Nam.mk (List.length_map _) ?_ | refine nthK_mk hgd ?_ | fail)
            all_goals (conv => whnf)
            all_goals first | exact ⟨(d + 1, n + 1), Wm.end (by repeat (first | exact trivial | refine And.intro rfl ?_ | refine And.intro (congrArg (fun n => V.d (I n)) (wrap_nat _ (by omega))) ?_)) rfl rfl rfl, ⟨by simp only; omega, hs1⟩, by simp only; omega⟩ | (exfalso; rename_i hh; exact hh rfl)
          · have hs1 := day_skip (l := l) (k := g.key) (t := known) (.inr hin)
            repeat' ((conv => whnf); first | with_reducible refine Dec.t (show true = true from rfl) ?_ | with_reducible refine Dec.t (show false = false from rfl) ?_ | with_reducible refine Dec.f (show ¬ (true = false) by decide) ?_ | with_reducible refine Dec.f (show ¬ (false = true) by decide) ?_ | refine Dec.t (by omega) ?_ | refine Dec.f (by omega) ?_ | refine Dec.split (fun _ => ?_) (fun _ => ?_) | refine Wr.id (by omega) ?_ | refine Chk.mk (by first | omega | exact rfl | (simp only [List.length_map]; omega) | (simp [room]; done) | (simp [room]; omega) | (simp [dropL, room]; done) | (simp [dropL, room]; omega)) ?_ | refine Nam.mk (List.length_map _) ?_ | refine Prep.skip ?_ | refine Eith.l ?_ | refine chk_t (x := D.flat _) (by assumption) ?_ | refine br_mk (fun _ => ?_) (fun _ => ?_) | refine ACall.of (c) ?_ | refine APCall.of (c) ?_ | refine Nam.mk (List.length_map _) ?_ | fail)
            all_goals (conv => whnf)
            all_goals first | exact ⟨(d + 1, n), Wm.end (by repeat (first | exact trivial | refine And.intro rfl ?_ | refine And.intro (congrArg (fun n => V.d (I n)) (wrap_nat _ (by omega))) ?_)) rfl rfl rfl, ⟨by simp only; omega, by simp only; rw [hs1]; exact hn⟩, by simp only; omega⟩ | (exfalso; omega)
      · have : d = 1024 := by omega
        subst this
        repeat' ((conv => whnf); first | with_reducible refine Dec.t (show true = true from rfl) ?_ | with_reducible refine Dec.t (show false = false from rfl) ?_ | with_reducible refine Dec.f (show ¬ (true = false) by decide) ?_ | with_reducible refine Dec.f (show ¬ (false = true) by decide) ?_ | refine Dec.t (by omega) ?_ | refine Dec.f (by omega) ?_ | refine Dec.split (fun _ => ?_) (fun _ => ?_) | refine Wr.id (by omega) ?_ | refine Chk.mk (by first | omega | exact rfl | (simp only [List.length_map]; omega) | (simp [room]; done) | (simp [room]; omega) | (simp [dropL, room]; done) | (simp [dropL, room]; omega)) ?_ | refine Nam.mk (List.length_map _) ?_ | refine Prep.skip ?_ | refine Eith.l ?_ | refine chk_t (x := D.flat _) (by assumption) ?_ | refine br_mk (fun _ => ?_) (fun _ => ?_) | refine Nam.mk (List.length_map _) ?_ | fail)
        all_goals (conv => whnf)
        all_goals exact dle_b (by simp [hn])
    · have hP := facts_Points l k a b known (by omega)
      rw [points_all] at hP
      repeat' ((conv => whnf); first | with_reducible refine Dec.t (show true = true from rfl) ?_ | with_reducible refine Dec.t (show false = false from rfl) ?_ | with_reducible refine Dec.f (show ¬ (true = false) by decide) ?_ | with_reducible refine Dec.f (show ¬ (false = true) by decide) ?_ | refine Dec.t (by omega) ?_ | refine Dec.f (by omega) ?_ | refine Dec.split (fun _ => ?_) (fun _ => ?_) | refine Wr.id (by omega) ?_ | refine Chk.mk (by first | omega | exact rfl | (simp only [List.length_map]; omega) | (simp [room]; done) | (simp [room]; omega) | (simp [dropL, room]; done) | (simp [dropL, room]; omega)) ?_ | refine Nam.mk (List.length_map _) ?_ | refine Prep.skip ?_ | refine Eith.l ?_ | refine chk_t (x := D.flat _) (by assumption) ?_ | refine br_mk (fun _ => ?_) (fun _ => ?_) | refine Nam.mk (List.length_map _) ?_ | refine ACall.of (law04_sane) ?_ | refine APCall.of (law04_sane) ?_ | refine ACall.of hFew ?_ | refine ACall.of (hP) ?_ | refine APCall.of (hP) ?_ | fail)
      all_goals (conv => whnf)
      refine ALoop.at (E := envOf Try.prog tt Try.f10.ntmps) (envOf_ok ttok mixed) (X := Nat × Nat) (fun x => [(13, .d (I x.1)), (12, .d (I x.2))]) (fun _ => []) (fun x => x.1 ≤ 1024 ∧ x.2 = (dayP l k a b known x.1).length) (fun x => 1024 - x.1) (0, 0) (by repeat (first | exact trivial | refine And.intro rfl ?_ | refine And.intro (congrArg (fun n => V.d (I n)) (wrap_nat _ (by omega))) ?_)) rfl ⟨by omega, rfl⟩ ?_
      rintro ⟨d, n⟩ ⟨hd, hn⟩
      simp only at hd hn
      dsimp only
      by_cases hlt : d < 1024
      · have c := facts_At l k d known (by omega)
        cases ho : atM l k d known with
        | none =>
          rw [ho] at c
          have hs1 := day_skip (a := a) (b := b) (.inl ho)
          repeat' ((conv => whnf); first | with_reducible refine Dec.t (show true = true from rfl) ?_ | with_reducible refine Dec.t (show false = false from rfl) ?_ | with_reducible refine Dec.f (show ¬ (true = false) by decide) ?_ | with_reducible refine Dec.f (show ¬ (false = true) by decide) ?_ | refine Dec.t (by omega) ?_ | refine Dec.f (by omega) ?_ | refine Dec.split (fun _ => ?_) (fun _ => ?_) | refine Wr.id (by omega) ?_ | refine Chk.mk (by first | omega | exact rfl | (simp only [List.length_map]; omega) | (simp [room]; done) | (simp [room]; omega) | (simp [dropL, room]; done) | (simp [dropL, room]; omega)) ?_ | refine Nam.mk (List.length_map _) ?_ | refine Prep.skip ?_ | refine Eith.l ?_ | refine chk_t (x := D.flat _) (by assumption) ?_ | refine br_mk (fun _ => ?_) (fun _ => ?_) | refine ACall.of (c) ?_ | refine APCall.of (c) ?_ | fail)
          all_goals (conv => whnf)
          exact ⟨(d + 1, n), Wm.end (by repeat (first | exact trivial | refine And.intro rfl ?_ | refine And.intro (congrArg (fun n => V.d (I n)) (wrap_nat _ (by omega))) ?_)) rfl rfl rfl, ⟨by simp only; omega, by simp only; rw [hs1]; exact hn⟩, by simp only; omega⟩
        | some v =>
          rw [ho] at c
          by_cases hin : a ≤ (d : Int) ∧ (d : Int) < b
          · have hg2 := day_get hlt ho hin
            rw [← hn] at hg2
            have hPl : (dayP l k a b known 1024).length ≤ 1024 := by rw [← points_all]; exact pointsM_len _ _ _ _ _
            have hnl := (List.getElem?_eq_some_iff.1 hg2).1
            have hgd : ((dayP l k a b known 1024).map Pt.d)[((n : Nat) : Int).toNat]? = some (Pt.d ⟨d, v⟩) := by rw [Int.toNat_natCast]; exact map_get hg2
            have hs1 : n + 1 = (dayP l k a b known (d + 1)).length := by rw [day_put ho hin, hn]; simp
            obtain ⟨hin1, hin2⟩ := hin
            repeat' ((conv => whnf); first | with_reducible refine Dec.t (show true = true from rfl) ?_ | with_reducible refine Dec.t (show false = false from rfl) ?_ | with_reducible refine Dec.f (show ¬ (true = false) by decide) ?_ | with_reducible refine Dec.f (show ¬ (false = true) by decide) ?_ | refine Dec.t (by omega) ?_ | refine Dec.f (by omega) ?_ | refine Dec.split (fun _ => ?_) (fun _ => ?_) | refine Wr.id (by omega) ?_ | refine Chk.mk (by first | omega | exact rfl | (simp only [List.length_map]; omega) | (simp [room]; done) | (simp [room]; omega) | (simp [dropL, room]; done) | (simp [dropL, room]; omega)) ?_ | refine Nam.mk (List.length_map _) ?_ | refine Prep.skip ?_ | refine Eith.l ?_ | refine chk_t (x := D.flat _) (by assumption) ?_ | refine br_mk (fun _ => ?_) (fun _ => ?_) | refine ACall.of (c) ?_ | refine APCall.of (c) ?_ | refine Nam.mk (List.length_map _) ?_ | refine nthK_mk hgd ?_ | fail)
            all_goals (conv => whnf)
            all_goals first | exact ⟨(d + 1, n + 1), Wm.end (by repeat (first | exact trivial | refine And.intro rfl ?_ | refine And.intro (congrArg (fun n => V.d (I n)) (wrap_nat _ (by omega))) ?_)) rfl rfl rfl, ⟨by simp only; omega, hs1⟩, by simp only; omega⟩ | (exfalso; rename_i hh; exact hh rfl)
          · have hs1 := day_skip (l := l) (k := k) (t := known) (.inr hin)
            repeat' ((conv => whnf); first | with_reducible refine Dec.t (show true = true from rfl) ?_ | with_reducible refine Dec.t (show false = false from rfl) ?_ | with_reducible refine Dec.f (show ¬ (true = false) by decide) ?_ | with_reducible refine Dec.f (show ¬ (false = true) by decide) ?_ | refine Dec.t (by omega) ?_ | refine Dec.f (by omega) ?_ | refine Dec.split (fun _ => ?_) (fun _ => ?_) | refine Wr.id (by omega) ?_ | refine Chk.mk (by first | omega | exact rfl | (simp only [List.length_map]; omega) | (simp [room]; done) | (simp [room]; omega) | (simp [dropL, room]; done) | (simp [dropL, room]; omega)) ?_ | refine Nam.mk (List.length_map _) ?_ | refine Prep.skip ?_ | refine Eith.l ?_ | refine chk_t (x := D.flat _) (by assumption) ?_ | refine br_mk (fun _ => ?_) (fun _ => ?_) | refine ACall.of (c) ?_ | refine APCall.of (c) ?_ | refine Nam.mk (List.length_map _) ?_ | fail)
            all_goals (conv => whnf)
            all_goals first | exact ⟨(d + 1, n), Wm.end (by repeat (first | exact trivial | refine And.intro rfl ?_ | refine And.intro (congrArg (fun n => V.d (I n)) (wrap_nat _ (by omega))) ?_)) rfl rfl rfl, ⟨by simp only; omega, by simp only; rw [hs1]; exact hn⟩, by simp only; omega⟩ | (exfalso; omega)
      · have : d = 1024 := by omega
        subst this
        repeat' ((conv => whnf); first | with_reducible refine Dec.t (show true = true from rfl) ?_ | with_reducible refine Dec.t (show false = false from rfl) ?_ | with_reducible refine Dec.f (show ¬ (true = false) by decide) ?_ | with_reducible refine Dec.f (show ¬ (false = true) by decide) ?_ | refine Dec.t (by omega) ?_ | refine Dec.f (by omega) ?_ | refine Dec.split (fun _ => ?_) (fun _ => ?_) | refine Wr.id (by omega) ?_ | refine Chk.mk (by first | omega | exact rfl | (simp only [List.length_map]; omega) | (simp [room]; done) | (simp [room]; omega) | (simp [dropL, room]; done) | (simp [dropL, room]; omega)) ?_ | refine Nam.mk (List.length_map _) ?_ | refine Prep.skip ?_ | refine Eith.l ?_ | refine chk_t (x := D.flat _) (by assumption) ?_ | refine br_mk (fun _ => ?_) (fun _ => ?_) | refine Nam.mk (List.length_map _) ?_ | fail)
        all_goals (conv => whnf)
        all_goals exact dle_b (by simp [hn])
  · rw [decide_eq_false hs] at hFew
    repeat' ((conv => whnf); first | with_reducible refine Dec.t (show true = true from rfl) ?_ | with_reducible refine Dec.t (show false = false from rfl) ?_ | with_reducible refine Dec.f (show ¬ (true = false) by decide) ?_ | with_reducible refine Dec.f (show ¬ (false = true) by decide) ?_ | refine Dec.t (by omega) ?_ | refine Dec.f (by omega) ?_ | refine Dec.split (fun _ => ?_) (fun _ => ?_) | refine Wr.id (by omega) ?_ | refine Chk.mk (by first | omega | exact rfl | (simp only [List.length_map]; omega) | (simp [room]; done) | (simp [room]; omega) | (simp [dropL, room]; done) | (simp [dropL, room]; omega)) ?_ | refine Nam.mk (List.length_map _) ?_ | refine Prep.skip ?_ | refine Eith.l ?_ | refine chk_t (x := D.flat _) (by assumption) ?_ | refine br_mk (fun _ => ?_) (fun _ => ?_) | refine ACall.of (law04_sane) ?_ | refine APCall.of (law04_sane) ?_ | refine ACall.of hFew ?_ | fail)
    all_goals (conv => whnf)
    all_goals exact DLe.refl _
end Go.PM

