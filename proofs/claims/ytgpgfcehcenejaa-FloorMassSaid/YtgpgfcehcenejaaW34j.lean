/- The reference of floors: Fed. -/
import Derived.Test.YtgpgfcehcenejaaW34i
namespace Go.PM
open Go.Proofs
set_option maxRecDepth 10000
set_option maxHeartbeats 8000000

def pos0 (bef : List Int) : List Bool := bef.map fun n => decide (0 < n)
theorem get_B0 {m : List Bool} {i : Int} {b : Bool} (h : m[i.toNat]? = some b) : (m.map B)[0 + i.toNat]? = some (B b) := by rw [Nat.zero_add, List.getElem?_map, h]; rfl
theorem set_B0 (m : List Bool) (i : Int) (b : Bool) : (m.map B).set (0 + i.toNat) (B b) = (m.set i.toNat b).map B := by rw [Nat.zero_add, List.map_set]
theorem lt_B0 {m : List Bool} {i : Int} {b : Bool} (h : m[i.toNat]? = some b) : 0 + i.toNat < (m.map B).length := by rw [Nat.zero_add, List.length_map]; exact (List.getElem?_eq_some_iff.1 h).1
theorem in_B {m : List Bool} {i : Int} (hi : 0 ≤ i ∧ i ≤ (m.length : Int) - 1) : ∃ b, m[i.toNat]? = some b ∧ m.getD i.toNat false = b := by
  have hl : i.toNat < m.length := by omega
  exact ⟨m[i.toNat], List.getElem?_eq_getElem hl, by rw [List.getD_eq_getElem?_getD, List.getElem?_eq_getElem hl]; rfl⟩
theorem ref34_Fed (h : Hist) (bef : List Int) (p : Int) (hok : h.ok) (hl : bef.length = h.op.length) :
    CallP Try.prog 45 [.d h.d, .d (SL 1 (bef.map I)), .d (I p)] (retD [SL 1 ((fedL h.fl p bef).map B)]) := by
  have hnf := hok.nf
  have hnv := hok.nv
  have hfl : ∀ f ∈ h.fl, f.ok bef.length h.per := by rw [hl]; exact hok.fl
  refine exPure_sound (E := envOf Try.prog tt Try.f45.ntmps) (envOf_ok ttok mixed) Try.func45 (by rfl) rfl rfl (Nat.le_of_ble_eq_true rfl) ?_
  repeat' ((conv => whnf); first | with_reducible refine Dec.t (show true = true from rfl) ?_ | with_reducible refine Dec.t (show false = false from rfl) ?_ | with_reducible refine Dec.f (show ¬ (true = false) by decide) ?_ | with_reducible refine Dec.f (show ¬ (false = true) by decide) ?_ | refine Dec.t (by omega) ?_ | refine Dec.f (by omega) ?_ | refine Dec.split (fun _ => ?_) (fun _ => ?_) | refine Wr.id (by omega) ?_ | refine Chk.mk (by first | omega | exact rfl | (simp only [List.length_map]; omega) | (simp [room]; done) | (simp [room]; omega) | (simp [dropL, room]; done) | (simp [dropL, room]; omega)) ?_ | refine Nam.mk (List.length_map _) ?_ | refine Prep.skip ?_ | refine Eith.l ?_ | refine chk_t (x := D.flat _) (by assumption) ?_ | refine br_mk (fun _ => ?_) (fun _ => ?_) | fail)
  all_goals (conv => whnf)
  refine ALoop.virt 7 1 1 false (by decide) rfl ?_
  conv => whnf
  refine ALoop.at (E := envOf Try.prog tt Try.f45.ntmps) (envOf_ok ttok mixed) (X := XAf) (fun x => [(8, .d (I x.v)), (7, .sref 1 x.ver 0 x.n false)]) (fun x => [(1, .row x.ver 1 false x.d)])
    (fun x => x.v ≤ bef.length ∧ x.v = x.n ∧ x.d = ((pos0 bef).take x.v).map B) (fun x => bef.length - x.v) ⟨0, 0, 0, []⟩ (by repeat (first | exact trivial | refine And.intro rfl ?_ | refine And.intro (congrArg (fun n => V.d (I n)) (wrap_nat _ (by omega))) ?_)) rfl ⟨Nat.zero_le _, rfl, rfl⟩ ?_
  rintro ⟨v, ver, n, d⟩ ⟨hv, e1, e2⟩
  simp only at hv e1 e2
  subst e1 e2
  dsimp only
  by_cases hlt : v < bef.length
  · obtain ⟨b, hx, _⟩ := drop_get hlt
    have hg : (pos0 bef)[v]? = some (decide (0 < b)) := by unfold pos0; rw [List.getElem?_map, hx]; rfl
    repeat' ((conv => whnf); first | with_reducible refine Dec.t (show true = true from rfl) ?_ | with_reducible refine Dec.t (show false = false from rfl) ?_ | with_reducible refine Dec.f (show ¬ (true = false) by decide) ?_ | with_reducible refine Dec.f (show ¬ (false = true) by decide) ?_ | refine Dec.t (by omega) ?_ | refine Dec.f (by omega) ?_ | refine Dec.split (fun _ => ?_) (fun _ => ?_) | refine Wr.id (by omega) ?_ | refine Chk.mk (by first | omega | exact rfl | (simp only [List.length_map]; omega) | (simp [room]; done) | (simp [room]; omega) | (simp [dropL, room]; done) | (simp [dropL, room]; omega)) ?_ | refine Nam.mk (List.length_map _) ?_ | refine Prep.skip ?_ | refine Eith.l ?_ | refine chk_t (x := D.flat _) (by assumption) ?_ | refine br_mk (fun _ => ?_) (fun _ => ?_) | refine nthK_mk (map_get hx) ?_ | refine Chk.mk ⟨rfl, by rw [List.length_map, List.length_take]; unfold pos0; rw [List.length_map]; omega, by simp [room]; omega⟩ ?_ | fail)
    all_goals first | (exfalso; omega) | skip
    all_goals (conv => whnf)
    all_goals first
      | (rename_i hb; rw [decide_eq_true hb] at hg
         exact ⟨⟨v + 1, ver + 1, v + 1, ((pos0 bef).take v).map B ++ [B true]⟩, Wm.end (by repeat (first | exact trivial | refine And.intro rfl ?_ | refine And.intro (congrArg (fun n => V.d (I n)) (wrap_nat _ (by omega))) ?_)) rfl rfl rfl, ⟨hlt, rfl, by simp only; rw [List.take_add_one, hg, List.map_append]; rfl⟩, by simp only; omega⟩)
      | (rename_i hb; rw [decide_eq_false hb] at hg
         exact ⟨⟨v + 1, ver + 1, v + 1, ((pos0 bef).take v).map B ++ [B false]⟩, Wm.end (by repeat (first | exact trivial | refine And.intro rfl ?_ | refine And.intro (congrArg (fun n => V.d (I n)) (wrap_nat _ (by omega))) ?_)) rfl rfl rfl, ⟨hlt, rfl, by simp only; rw [List.take_add_one, hg, List.map_append]; rfl⟩, by simp only; omega⟩)
  · have : v = bef.length := by omega
    subst this
    rw [List.take_of_length_le (l := pos0 bef) (by unfold pos0; rw [List.length_map]; exact Nat.le_refl _)]
    repeat' ((conv => whnf); first | with_reducible refine Dec.t (show true = true from rfl) ?_ | with_reducible refine Dec.t (show false = false from rfl) ?_ | with_reducible refine Dec.f (show ¬ (true = false) by decide) ?_ | with_reducible refine Dec.f (show ¬ (false = true) by decide) ?_ | refine Dec.t (by omega) ?_ | refine Dec.f (by omega) ?_ | refine Dec.split (fun _ => ?_) (fun _ => ?_) | refine Wr.id (by omega) ?_ | refine Chk.mk (by first | omega | exact rfl | (simp only [List.length_map]; omega) | (simp [room]; done) | (simp [room]; omega) | (simp [dropL, room]; done) | (simp [dropL, room]; omega)) ?_ | refine Nam.mk (List.length_map _) ?_ | refine Prep.skip ?_ | refine Eith.l ?_ | refine chk_t (x := D.flat _) (by assumption) ?_ | refine br_mk (fun _ => ?_) (fun _ => ?_) | fail)
    all_goals first | (exfalso; omega) | skip
    all_goals (conv => whnf)
    refine ALoop.at (E := envOf Try.prog tt Try.f45.ntmps) (envOf_ok ttok mixed) (X := Nat × List Bool) (fun x => [(9, .d (I x.1))]) (fun x => [(1, .row ver 1 false (x.2.map B))]) (fun x => x.1 ≤ bef.length + 1 ∧ roundsF h.fl p (bef.length + 1 - x.1) x.2 = fedL h.fl p bef ∧ x.2.length = bef.length) (fun x => bef.length + 1 - x.1) (0, pos0 bef) (by repeat (first | exact trivial | refine And.intro rfl ?_ | refine And.intro (congrArg (fun n => V.d (I n)) (wrap_nat _ (by omega))) ?_)) rfl
      ⟨Nat.zero_le _, rfl, by simp [pos0]⟩ ?_
    rintro ⟨r, m⟩ ⟨hr, hm, hml⟩
    simp only at hr hm hml
    dsimp only
    by_cases hlt : r ≤ bef.length
    · rw [show bef.length + 1 - r = (bef.length + 1 - (r + 1)) + 1 by omega, roundsF] at hm
      repeat' ((conv => whnf); first | with_reducible refine Dec.t (show true = true from rfl) ?_ | with_reducible refine Dec.t (show false = false from rfl) ?_ | with_reducible refine Dec.f (show ¬ (true = false) by decide) ?_ | with_reducible refine Dec.f (show ¬ (false = true) by decide) ?_ | refine Dec.t (by omega) ?_ | refine Dec.f (by omega) ?_ | refine Dec.split (fun _ => ?_) (fun _ => ?_) | refine Wr.id (by omega) ?_ | refine Chk.mk (by first | omega | exact rfl | (simp only [List.length_map]; omega) | (simp [room]; done) | (simp [room]; omega) | (simp [dropL, room]; done) | (simp [dropL, room]; omega)) ?_ | refine Nam.mk (List.length_map _) ?_ | refine Prep.skip ?_ | refine Eith.l ?_ | refine chk_t (x := D.flat _) (by assumption) ?_ | refine br_mk (fun _ => ?_) (fun _ => ?_) | fail)
      all_goals first | (exfalso; omega) | skip
      all_goals (conv => whnf)
      refine ALoop.at (E := envOf Try.prog tt Try.f45.ntmps) (envOf_ok ttok mixed) (X := Nat × List Bool) (fun x => [(10, .d (I x.1))]) (fun x => [(1, .row ver 1 false (x.2.map B))]) (fun x => x.1 ≤ h.fl.length ∧ passF (h.fl.drop x.1) p x.2 = passF h.fl p m ∧ x.2.length = bef.length) (fun x => h.fl.length - x.1) (0, m) (by repeat (first | exact trivial | refine And.intro rfl ?_ | refine And.intro (congrArg (fun n => V.d (I n)) (wrap_nat _ (by omega))) ?_)) rfl
        ⟨Nat.zero_le _, rfl, hml⟩ ?_
      rintro ⟨i, m2⟩ ⟨hi, hq, hql⟩
      simp only at hi hq hql
      dsimp only
      by_cases hlt2 : i < h.fl.length
      · obtain ⟨f, hy, hd⟩ := drop_get hlt2
        have hfo := hfl f (List.mem_of_getElem? hy)
        unfold Flow.ok at hfo
        rw [hd, passF, List.foldl_cons] at hq
        by_cases hk2 : f.per = p ∧ f.kind = 2
        · obtain ⟨b, z1, z2⟩ := in_B (m := m2) (i := f.src) (by omega)
          obtain ⟨b', y1, y2⟩ := in_B (m := m2) (i := f.dst) (by omega)
          cases b with
          | true =>
            have hs : stepF p m2 f = m2.set f.dst.toNat true := by unfold stepF; rw [if_pos ⟨hk2.1, .inr ⟨hk2.2, z2⟩⟩]
            rw [hs] at hq
            repeat' ((conv => whnf); first | with_reducible refine Dec.t (show true = true from rfl) ?_ | with_reducible refine Dec.t (show false = false from rfl) ?_ | with_reducible refine Dec.f (show ¬ (true = false) by decide) ?_ | with_reducible refine Dec.f (show ¬ (false = true) by decide) ?_ | refine Dec.t (by omega) ?_ | refine Dec.f (by omega) ?_ | refine Dec.split (fun _ => ?_) (fun _ => ?_) | refine Wr.id (by omega) ?_ | refine Chk.mk (by first | omega | exact rfl | (simp only [List.length_map]; omega) | (simp [room]; done) | (simp [room]; omega) | (simp [dropL, room]; done) | (simp [dropL, room]; omega)) ?_ | refine Nam.mk (List.length_map _) ?_ | refine Prep.skip ?_ | refine Eith.l ?_ | refine chk_t (x := D.flat _) (by assumption) ?_ | refine br_mk (fun _ => ?_) (fun _ => ?_) | refine nthK_mk (map_get hy) ?_ | refine nthK_mk (get_B0 z1) ?_ | refine nthK_mk (get_B0 y1) ?_ | refine setK_to (lt_B0 y1) (set_B0 m2 f.dst true) ?_ | fail)
            all_goals first | (exfalso; omega) | skip
            all_goals (conv => whnf)
            all_goals first
              | exact ⟨(i + 1, m2.set f.dst.toNat true), Wm.end (by repeat (first | exact trivial | refine And.intro rfl ?_ | refine And.intro (congrArg (fun n => V.d (I n)) (wrap_nat _ (by omega))) ?_)) rfl rfl rfl, ⟨hlt2, hq, by simp only [List.length_set]; exact hql⟩, by simp only; omega⟩
          | false =>
            have hs : stepF p m2 f = m2 := by unfold stepF; rw [if_neg (fun hh => hh.2.elim (fun h1 => by omega) (fun h1 => by rw [z2] at h1; cases h1.2))]
            rw [hs] at hq
            repeat' ((conv => whnf); first | with_reducible refine Dec.t (show true = true from rfl) ?_ | with_reducible refine Dec.t (show false = false from rfl) ?_ | with_reducible refine Dec.f (show ¬ (true = false) by decide) ?_ | with_reducible refine Dec.f (show ¬ (false = true) by decide) ?_ | refine Dec.t (by omega) ?_ | refine Dec.f (by omega) ?_ | refine Dec.split (fun _ => ?_) (fun _ => ?_) | refine Wr.id (by omega) ?_ | refine Chk.mk (by first | omega | exact rfl | (simp only [List.length_map]; omega) | (simp [room]; done) | (simp [room]; omega) | (simp [dropL, room]; done) | (simp [dropL, room]; omega)) ?_ | refine Nam.mk (List.length_map _) ?_ | refine Prep.skip ?_ | refine Eith.l ?_ | refine chk_t (x := D.flat _) (by assumption) ?_ | refine br_mk (fun _ => ?_) (fun _ => ?_) | refine nthK_mk (map_get hy) ?_ | refine nthK_mk (get_B0 z1) ?_ | fail)
            all_goals first | (exfalso; omega) | skip
            all_goals (conv => whnf)
            all_goals first
              | exact ⟨(i + 1, m2), Wm.end (by repeat (first | exact trivial | refine And.intro rfl ?_ | refine And.intro (congrArg (fun n => V.d (I n)) (wrap_nat _ (by omega))) ?_)) rfl rfl rfl, ⟨hlt2, hq, hql⟩, by simp only; omega⟩
        · by_cases hk1 : f.per = p ∧ f.kind = 1
          · obtain ⟨b', y1, y2⟩ := in_B (m := m2) (i := f.dst) (by omega)
            have hs : stepF p m2 f = m2.set f.dst.toNat true := by unfold stepF; rw [if_pos ⟨hk1.1, .inl hk1.2⟩]
            rw [hs] at hq
            repeat' ((conv => whnf); first | with_reducible refine Dec.t (show true = true from rfl) ?_ | with_reducible refine Dec.t (show false = false from rfl) ?_ | with_reducible refine Dec.f (show ¬ (true = false) by decide) ?_ | with_reducible refine Dec.f (show ¬ (false = true) by decide) ?_ | refine Dec.t (by omega) ?_ | refine Dec.f (by omega) ?_ | refine Dec.split (fun _ => ?_) (fun _ => ?_) | refine Wr.id (by omega) ?_ | refine Chk.mk (by first | omega | exact rfl | (simp only [List.length_map]; omega) | (simp [room]; done) | (simp [room]; omega) | (simp [dropL, room]; done) | (simp [dropL, room]; omega)) ?_ | refine Nam.mk (List.length_map _) ?_ | refine Prep.skip ?_ | refine Eith.l ?_ | refine chk_t (x := D.flat _) (by assumption) ?_ | refine br_mk (fun _ => ?_) (fun _ => ?_) | refine nthK_mk (map_get hy) ?_ | refine nthK_mk (get_B0 y1) ?_ | refine setK_to (lt_B0 y1) (set_B0 m2 f.dst true) ?_ | fail)
            all_goals first | (exfalso; omega) | skip
            all_goals (conv => whnf)
            all_goals first
              | exact ⟨(i + 1, m2.set f.dst.toNat true), Wm.end (by repeat (first | exact trivial | refine And.intro rfl ?_ | refine And.intro (congrArg (fun n => V.d (I n)) (wrap_nat _ (by omega))) ?_)) rfl rfl rfl, ⟨hlt2, hq, by simp only [List.length_set]; exact hql⟩, by simp only; omega⟩
          · have hs : stepF p m2 f = m2 := by unfold stepF; rw [if_neg (fun hh => hh.2.elim (fun h1 => hk1 ⟨hh.1, h1⟩) (fun h1 => hk2 ⟨hh.1, h1.1⟩))]
            rw [hs] at hq
            clear hfo
            repeat' ((conv => whnf); first | with_reducible refine Dec.t (show true = true from rfl) ?_ | with_reducible refine Dec.t (show false = false from rfl) ?_ | with_reducible refine Dec.f (show ¬ (true = false) by decide) ?_ | with_reducible refine Dec.f (show ¬ (false = true) by decide) ?_ | refine Dec.t (by omega) ?_ | refine Dec.f (by omega) ?_ | refine Dec.split (fun _ => ?_) (fun _ => ?_) | refine Wr.id (by omega) ?_ | refine Chk.mk (by first | omega | exact rfl | (simp only [List.length_map]; omega) | (simp [room]; done) | (simp [room]; omega) | (simp [dropL, room]; done) | (simp [dropL, room]; omega)) ?_ | refine Nam.mk (List.length_map _) ?_ | refine Prep.skip ?_ | refine Eith.l ?_ | refine chk_t (x := D.flat _) (by assumption) ?_ | refine br_mk (fun _ => ?_) (fun _ => ?_) | refine nthK_mk (map_get hy) ?_ | fail)
            all_goals first | (exfalso; omega) | skip
            all_goals (conv => whnf)
            all_goals first
              | exact ⟨(i + 1, m2), Wm.end (by repeat (first | exact trivial | refine And.intro rfl ?_ | refine And.intro (congrArg (fun n => V.d (I n)) (wrap_nat _ (by omega))) ?_)) rfl rfl rfl, ⟨hlt2, hq, hql⟩, by simp only; omega⟩
      · have : i = h.fl.length := by omega
        subst this
        rw [List.drop_length] at hq
        have hq : m2 = passF h.fl p m := hq
        rw [← hq] at hm
        repeat' ((conv => whnf); first | with_reducible refine Dec.t (show true = true from rfl) ?_ | with_reducible refine Dec.t (show false = false from rfl) ?_ | with_reducible refine Dec.f (show ¬ (true = false) by decide) ?_ | with_reducible refine Dec.f (show ¬ (false = true) by decide) ?_ | refine Dec.t (by omega) ?_ | refine Dec.f (by omega) ?_ | refine Dec.split (fun _ => ?_) (fun _ => ?_) | refine Wr.id (by omega) ?_ | refine Chk.mk (by first | omega | exact rfl | (simp only [List.length_map]; omega) | (simp [room]; done) | (simp [room]; omega) | (simp [dropL, room]; done) | (simp [dropL, room]; omega)) ?_ | refine Nam.mk (List.length_map _) ?_ | refine Prep.skip ?_ | refine Eith.l ?_ | refine chk_t (x := D.flat _) (by assumption) ?_ | refine br_mk (fun _ => ?_) (fun _ => ?_) | fail)
        all_goals first | (exfalso; omega) | skip
        all_goals (conv => whnf)
        all_goals first
          | exact ⟨(r + 1, m2), Wm.end (by repeat (first | exact trivial | refine And.intro rfl ?_ | refine And.intro (congrArg (fun n => V.d (I n)) (wrap_nat _ (by omega))) ?_)) rfl rfl rfl, ⟨by simp only; omega, hm, hql⟩, by simp only; omega⟩
    · rw [show bef.length + 1 - r = 0 by omega, roundsF] at hm
      subst hm
      rw [← hml]
      repeat' ((conv => whnf); first | with_reducible refine Dec.t (show true = true from rfl) ?_ | with_reducible refine Dec.t (show false = false from rfl) ?_ | with_reducible refine Dec.f (show ¬ (true = false) by decide) ?_ | with_reducible refine Dec.f (show ¬ (false = true) by decide) ?_ | refine Dec.t (by omega) ?_ | refine Dec.f (by omega) ?_ | refine Dec.split (fun _ => ?_) (fun _ => ?_) | refine Wr.id (by omega) ?_ | refine Chk.mk (by first | omega | exact rfl | (simp only [List.length_map]; omega) | (simp [room]; done) | (simp [room]; omega) | (simp [dropL, room]; done) | (simp [dropL, room]; omega)) ?_ | refine Nam.mk (List.length_map _) ?_ | refine Prep.skip ?_ | refine Eith.l ?_ | refine chk_t (x := D.flat _) (by assumption) ?_ | refine br_mk (fun _ => ?_) (fun _ => ?_) | refine Nam.mk (y := (fedL h.fl p bef).map B) (by rw [List.drop_zero]; exact List.take_of_length_le (by simp)) ?_ | fail)
      all_goals first | (exfalso; omega) | skip
      all_goals (conv => whnf)
      all_goals first | exact DLe.refl _
end Go.PM

