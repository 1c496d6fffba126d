/- The reference of layer 18: Usable. -/
import Derived.Test.YtbmnckaajofjmaaDoorR18b
namespace Go.PM
open Go.Proofs
set_option maxRecDepth 10000
set_option maxHeartbeats 4000000

theorem Wk.liftT' {N : Nat} {ts : Tm} {h : Hp} {t m ver lo len sz : Nat} {ro full : Bool} {xs ys : List D} (ht : look ts t = .sref m ver lo len full) (hm : h[m]? = some (.row ver sz ro xs)) (hl : lo + len ≤ xs.length) (hy : (xs.drop lo).take len = ys) : Wk N ts h ((t, .d (.sl sz full ys)) :: ts) (h.set m (.row ver sz true xs)) := by
  subst hy; exact Wk.liftT ht hm hl
theorem insL_take {l : List Lot} {x : Lot} {n : Nat} (hs : l.Pairwise (fun a b => a.expiry ≤ b.expiry)) (hn : n ≤ l.length) (h1 : ∀ j z, n ≤ j → l[j]? = some z → x.expiry < z.expiry) (h2 : 0 < n → ∀ z, l[n - 1]? = some z → z.expiry ≤ x.expiry) :
    insL l x = l.take n ++ x :: l.drop n := by
  have hlo : ∀ a ∈ l.take n, a.expiry ≤ x.expiry := fun a ha => by
    obtain ⟨j, hj, rfl⟩ := List.getElem_of_mem ha
    rw [List.length_take] at hj
    rw [List.getElem_take]
    have hlast := h2 (by omega) _ (List.getElem?_eq_getElem (by omega))
    rw [List.pairwise_iff_getElem] at hs
    rcases Nat.lt_or_ge j (n - 1) with h | h
    · have := hs j (n - 1) (by omega) (by omega) h; omega
    · have : j = n - 1 := by omega
      subst this; exact hlast
  have hhi : ∀ a ∈ l.drop n, x.expiry < a.expiry := fun a ha => by
    obtain ⟨j, hj, rfl⟩ := List.getElem_of_mem ha
    rw [List.length_drop] at hj
    rw [List.getElem_drop]
    exact h1 (n + j) _ (by omega) (List.getElem?_eq_getElem (by omega))
  unfold insL
  have e1 : l.filter (fun y => decide (y.expiry ≤ x.expiry)) = l.take n := by
    conv => lhs; rw [← List.take_append_drop n l]
    rw [List.filter_append, List.filter_eq_self.2 (fun a ha => decide_eq_true (hlo a ha)), List.filter_eq_nil_iff.2 (fun a ha => by have := hhi a ha; simp; omega), List.append_nil]
  have e2 : l.filter (fun y => decide (x.expiry < y.expiry)) = l.drop n := by
    conv => lhs; rw [← List.take_append_drop n l]
    rw [List.filter_append, List.filter_eq_nil_iff.2 (fun a ha => by have := hlo a ha; simp; omega), List.filter_eq_self.2 (fun a ha => decide_eq_true (hhi a ha)), List.nil_append]
  rw [e1, e2]
structure XUR where
  i : Nat
  fl : Bool
  acc : List Lot
theorem ref18_Usable (w : AWorld) (line : Line) (day known : Int) (hl : w.facts.length < 2 ^ 40) (hw : w.wide) : CallP Tryd.prog 18 [.d w.d, .d line.d, .d (I day), .d (I known)] (retD [SL 6 ((usableM w line day known).1.map Lot.d), SL 5 ((usableM w line day known).2.map Read.d)]) := by
  refine exPure_sound (E := envOf Tryd.prog tt Tryd.f18.ntmps) (envOf_ok ttok mixed) Tryd.func18 (by rfl) rfl rfl (Nat.le_of_ble_eq_true rfl) ?_
  unfold usableM
  by_cases hc : line.config = 0
  · rw [if_pos hc]
    have hL := ref18_Lots w day known hl hw
    have hno := lotsM_no w day known
    have hlen : (lotsM w day known).1.length ≤ 1024 := by
      unfold lotsM
      split
      · refine Nat.le_trans (lotsF_len _ _ _ _) ?_
        unfold manyM
        split
        · omega
        · split <;> omega
      · exact Nat.zero_le _
    generalize lotsM w day known = q at hL hno hlen
    obtain ⟨L, rs⟩ := q
    simp only at hL hno hlen ⊢
    repeat' ((conv => whnf); first | with_reducible refine Dec.t (show true = true from rfl) ?_ | with_reducible refine Dec.t (show false = false from rfl) ?_ | with_reducible refine Dec.f (show ¬ (true = false) by decide) ?_ | with_reducible refine Dec.f (show ¬ (false = true) by decide) ?_ | refine Dec.t (by omega) ?_ | refine Dec.f (by omega) ?_ | refine Dec.split (fun _ => ?_) (fun _ => ?_) | refine Wr.id (by omega) ?_ | refine Chk.mk (by first | omega | exact rfl | (simp only [List.length_map]; omega) | (simp [room]; done) | (simp [room]; omega) | (simp [dropL, room]; done) | (simp [dropL, room]; omega)) ?_ | refine Nam.mk (List.length_map _) ?_ | refine Prep.skip ?_ | refine Eith.l ?_ | refine chk_t (x := D.flat _) (by assumption) ?_ | refine br_mk (fun _ => ?_) (fun _ => ?_) | refine ACall.of (hL) ?_ | refine APCall.of (hL) ?_ | fail)
    all_goals (conv => whnf)
    refine ALoop.at (E := envOf Tryd.prog tt Tryd.f18.ntmps) (envOf_ok ttok mixed) (X := XUR) (fun x => [(13, .d (I x.i)), (10, .d (.sl 6 x.fl (x.acc.map Lot.d)))]) (fun _ => [])
      (fun x => x.i ≤ L.length ∧ x.acc.length ≤ x.i ∧ x.acc = usF ((L.take x.i).filter (fitsL line day))) (fun x => L.length - x.i) ⟨0, true, []⟩ (by repeat (first | exact trivial | refine And.intro rfl ?_ | refine And.intro (congrArg (fun n => V.d (I n)) (wrap_nat _ (by omega))) ?_)) rfl ⟨Nat.zero_le _, Nat.zero_le _, rfl⟩ ?_
    rintro ⟨i, fl, acc⟩ ⟨hi, hal, hacc⟩
    simp only at hi hal hacc
    dsimp only
    by_cases hlt : i < L.length
    · obtain ⟨x, hx, _⟩ := drop_get hlt
      have hacs : acc.Pairwise (fun a b => a.expiry ≤ b.expiry) := by
        rw [hacc]
        refine (usF_spec _ [] List.Pairwise.nil ((hno.sublist (List.take_sublist _ _)).filter _) (by simp)).1.imp fun {a b} h => ?_
        unfold lotLt at h; omega
      have yes : fitsL line day x = true → ∀ n : Nat, n ≤ acc.length → (∀ j z, n ≤ j → acc[j]? = some z → x.expiry < z.expiry) → (0 < n → ∀ z, acc[n - 1]? = some z → z.expiry ≤ x.expiry) →
          i + 1 ≤ L.length ∧ (acc.take n ++ x :: acc.drop n).length ≤ i + 1 ∧ acc.take n ++ x :: acc.drop n = usF ((L.take (i + 1)).filter (fitsL line day)) := fun h n hn h1 h2 => by
        refine ⟨hlt, by simp; omega, ?_⟩
        have e : (L.take (i + 1)).filter (fitsL line day) = (L.take i).filter (fitsL line day) ++ [x] := by
          rw [List.take_add_one, hx, List.filter_append]; simp [h]
        rw [e]
        unfold usF
        rw [List.foldl_append, List.foldl_cons, List.foldl_nil]
        rw [show ((L.take i).filter (fitsL line day)).foldl insL [] = acc from hacc.symm]
        exact (insL_take hacs hn h1 h2).symm
      have no : fitsL line day x = false → i + 1 ≤ L.length ∧ acc.length ≤ i + 1 ∧ acc = usF ((L.take (i + 1)).filter (fitsL line day)) := fun h => by
        refine ⟨hlt, by omega, ?_⟩
        rw [hacc, List.take_add_one, hx, List.filter_append]; simp [h]
      clear hacc
      repeat' ((conv => whnf); first | with_reducible refine Dec.t (show true = true from rfl) ?_ | with_reducible refine Dec.t (show false = false from rfl) ?_ | with_reducible refine Dec.f (show ¬ (true = false) by decide) ?_ | with_reducible refine Dec.f (show ¬ (false = true) by decide) ?_ | refine Dec.t (by omega) ?_ | refine Dec.f (by omega) ?_ | refine Dec.split (fun _ => ?_) (fun _ => ?_) | refine Wr.id (by omega) ?_ | refine Chk.mk (by first | omega | exact rfl | (simp only [List.length_map]; omega) | (simp [room]; done) | (simp [room]; omega) | (simp [dropL, room]; done) | (simp [dropL, room]; omega)) ?_ | refine Nam.mk (List.length_map _) ?_ | refine Prep.skip ?_ | refine Eith.l ?_ | refine chk_t (x := D.flat _) (by assumption) ?_ | refine br_mk (fun _ => ?_) (fun _ => ?_) | refine nthK_mk (map_get hx) ?_ | refine Nam.mk (List.length_map _) ?_ | fail)
      all_goals (conv => whnf)
      all_goals first
        | (have hf : fitsL line day x = false := by (unfold fitsL; rw [Bool.eq_false_iff]; simp only [Ne, Bool.and_eq_true, decide_eq_true_eq]; omega)
           exact ⟨⟨i + 1, fl, acc⟩, Wm.end (by repeat (first | exact trivial | refine And.intro rfl ?_ | refine And.intro (congrArg (fun n => V.d (I n)) (wrap_nat _ (by omega))) ?_)) rfl rfl rfl, no hf, by simp only; omega⟩)
        | skip
      have hf : fitsL line day x = true := by (unfold fitsL; simp only [Bool.and_eq_true, decide_eq_true_eq]; omega)
      replace yes := yes hf
      clear no hf
      refine ALoop.at (E := envOf Tryd.prog tt Tryd.f18.ntmps) (envOf_ok ttok mixed) (X := Nat) (fun n => [(15, .d (I n))]) (fun _ => []) (fun n => n ≤ acc.length ∧ ∀ j z, n ≤ j → acc[j]? = some z → x.expiry < z.expiry) (fun n => n) acc.length (by repeat (first | exact trivial | refine And.intro rfl ?_ | refine And.intro (congrArg (fun n => V.d (I n)) (wrap_nat _ (by omega))) ?_)) rfl
        ⟨Nat.le_refl _, fun j z hj hz => by have := (List.getElem?_eq_some_iff.1 hz).1; omega⟩ ?_
      rintro n ⟨hn, hgt⟩
      by_cases hn0 : n = 0
      · have hn0' : (n : Int) = 0 := by omega
        by_cases hnil : (acc.map Lot.d).drop ((n : Nat) : Int).toNat = []
        · have hnil2 : (acc.drop n).map Lot.d = [] := by rw [List.map_drop]; simpa using hnil
          repeat' ((conv => whnf); first | refine Eith.r (Chk.mk (by assumption) ?_) | with_reducible refine Dec.t (show true = true from rfl) ?_ | with_reducible refine Dec.t (show false = false from rfl) ?_ | with_reducible refine Dec.f (show ¬ (true = false) by decide) ?_ | with_reducible refine Dec.f (show ¬ (false = true) by decide) ?_ | refine Dec.t (by omega) ?_ | refine Dec.f (by omega) ?_ | refine Dec.split (fun _ => ?_) (fun _ => ?_) | refine Wr.id (by omega) ?_ | refine Chk.mk (by first | omega | exact rfl | (simp only [List.length_map]; omega) | (simp [room]; done) | (simp [room]; omega) | (simp [dropL, room]; done) | (simp [dropL, room]; omega)) ?_ | refine Nam.mk (List.length_map _) ?_ | refine Prep.skip ?_ | refine Eith.l ?_ | refine chk_t (x := D.flat _) (by assumption) ?_ | refine br_mk (fun _ => ?_) (fun _ => ?_) | fail)
          all_goals (conv => whnf)
          exact ⟨⟨i + 1, false, acc.take n ++ x :: acc.drop n⟩, Wm.trans (Wk.liftT' (t := 10) (m := 4) (ys := (acc.take n ++ x :: acc.drop n).map Lot.d) rfl rfl (by simp [dropL]) ((whole (by simp [dropL])).trans (by rw [List.map_append, List.map_cons, hnil2, List.map_take]; simp [dropL]; rfl))).wm (Wm.end (by repeat (first | exact trivial | refine And.intro rfl ?_ | refine And.intro (congrArg (fun n => V.d (I n)) (wrap_nat _ (by omega))) ?_)) rfl rfl rfl), yes n hn hgt (fun h => absurd h (by omega)), by simp only; omega⟩
        · repeat' ((conv => whnf); first | with_reducible refine Dec.t (show true = true from rfl) ?_ | with_reducible refine Dec.t (show false = false from rfl) ?_ | with_reducible refine Dec.f (show ¬ (true = false) by decide) ?_ | with_reducible refine Dec.f (show ¬ (false = true) by decide) ?_ | refine Dec.t (by omega) ?_ | refine Dec.f (by omega) ?_ | refine Dec.split (fun _ => ?_) (fun _ => ?_) | refine Wr.id (by omega) ?_ | refine Chk.mk (by first | omega | exact rfl | (simp only [List.length_map]; omega) | (simp [room]; done) | (simp [room]; omega) | (simp [dropL, room]; done) | (simp [dropL, room]; omega)) ?_ | refine Nam.mk (List.length_map _) ?_ | refine Prep.skip ?_ | refine Eith.l ?_ | refine chk_t (x := D.flat _) (by assumption) ?_ | refine br_mk (fun _ => ?_) (fun _ => ?_) | refine Chk.mk ⟨.inr hnil, by simp [room]; omega⟩ ?_ | refine Nam.mk (List.take_of_length_le (by simp; omega)) ?_ | fail)
          all_goals (conv => whnf)
          exact ⟨⟨i + 1, false, acc.take n ++ x :: acc.drop n⟩, Wm.trans (Wk.liftT' (t := 10) (m := 4) (ys := (acc.take n ++ x :: acc.drop n).map Lot.d) rfl rfl (by simp [dropL]) ((whole (by simp [dropL])).trans (by rw [List.map_append, List.map_cons, List.map_take, List.map_drop]; simp [dropL]; rfl))).wm (Wm.end (by repeat (first | exact trivial | refine And.intro rfl ?_ | refine And.intro (congrArg (fun n => V.d (I n)) (wrap_nat _ (by omega))) ?_)) rfl rfl rfl), yes n hn hgt (fun h => absurd h (by omega)), by simp only; omega⟩
      · obtain ⟨z, hz0⟩ : ∃ z, acc[n - 1]? = some z := ⟨_, List.getElem?_eq_getElem (by omega)⟩
        have hz : (acc.map Lot.d)[((n : Int) - 1).toNat]? = some z.d := by rw [show ((n : Int) - 1).toNat = n - 1 by omega]; exact map_get hz0
        by_cases hgz : x.expiry < z.expiry
        · repeat' ((conv => whnf); first | with_reducible refine Dec.t (show true = true from rfl) ?_ | with_reducible refine Dec.t (show false = false from rfl) ?_ | with_reducible refine Dec.f (show ¬ (true = false) by decide) ?_ | with_reducible refine Dec.f (show ¬ (false = true) by decide) ?_ | refine Dec.t (by omega) ?_ | refine Dec.f (by omega) ?_ | refine Dec.split (fun _ => ?_) (fun _ => ?_) | refine Wr.id (by omega) ?_ | refine Chk.mk (by first | omega | exact rfl | (simp only [List.length_map]; omega) | (simp [room]; done) | (simp [room]; omega) | (simp [dropL, room]; done) | (simp [dropL, room]; omega)) ?_ | refine Nam.mk (List.length_map _) ?_ | refine Prep.skip ?_ | refine Eith.l ?_ | refine chk_t (x := D.flat _) (by assumption) ?_ | refine br_mk (fun _ => ?_) (fun _ => ?_) | refine nthK_mk hz ?_ | fail)
          all_goals (conv => whnf)
          refine ⟨n - 1, Wm.end (by repeat (first | exact trivial | refine And.intro rfl ?_ | refine And.intro (congrArg (fun n => V.d (I n)) (by omega)) ?_)) rfl rfl rfl, ⟨by omega, fun j q hj hq => ?_⟩, by omega⟩
          rcases Nat.lt_or_ge j n with h | h
          · have : j = n - 1 := by omega
            subst this
            rw [hz0] at hq; cases hq; exact hgz
          · exact hgt j q h hq
        · have hle : 0 < n → ∀ q, acc[n - 1]? = some q → q.expiry ≤ x.expiry := fun _ q hq => by rw [hz0] at hq; cases hq; omega
          by_cases hnil : (acc.map Lot.d).drop ((n : Nat) : Int).toNat = []
          · have hnil2 : (acc.drop n).map Lot.d = [] := by rw [List.map_drop]; simpa using hnil
            repeat' ((conv => whnf); first | refine Eith.r (Chk.mk (by assumption) ?_) | with_reducible refine Dec.t (show true = true from rfl) ?_ | with_reducible refine Dec.t (show false = false from rfl) ?_ | with_reducible refine Dec.f (show ¬ (true = false) by decide) ?_ | with_reducible refine Dec.f (show ¬ (false = true) by decide) ?_ | refine Dec.t (by omega) ?_ | refine Dec.f (by omega) ?_ | refine Dec.split (fun _ => ?_) (fun _ => ?_) | refine Wr.id (by omega) ?_ | refine Chk.mk (by first | omega | exact rfl | (simp only [List.length_map]; omega) | (simp [room]; done) | (simp [room]; omega) | (simp [dropL, room]; done) | (simp [dropL, room]; omega)) ?_ | refine Nam.mk (List.length_map _) ?_ | refine Prep.skip ?_ | refine Eith.l ?_ | refine chk_t (x := D.flat _) (by assumption) ?_ | refine br_mk (fun _ => ?_) (fun _ => ?_) | refine nthK_mk hz ?_ | fail)
            all_goals (conv => whnf)
            exact ⟨⟨i + 1, false, acc.take n ++ x :: acc.drop n⟩, Wm.trans (Wk.liftT' (t := 10) (m := 4) (ys := (acc.take n ++ x :: acc.drop n).map Lot.d) rfl rfl (by simp [dropL]) ((whole (by simp [dropL])).trans (by rw [List.map_append, List.map_cons, hnil2, List.map_take]; simp [dropL]; rfl))).wm (Wm.end (by repeat (first | exact trivial | refine And.intro rfl ?_ | refine And.intro (congrArg (fun n => V.d (I n)) (wrap_nat _ (by omega))) ?_)) rfl rfl rfl), yes n hn hgt hle, by simp only; omega⟩
          · repeat' ((conv => whnf); first | with_reducible refine Dec.t (show true = true from rfl) ?_ | with_reducible refine Dec.t (show false = false from rfl) ?_ | with_reducible refine Dec.f (show ¬ (true = false) by decide) ?_ | with_reducible refine Dec.f (show ¬ (false = true) by decide) ?_ | refine Dec.t (by omega) ?_ | refine Dec.f (by omega) ?_ | refine Dec.split (fun _ => ?_) (fun _ => ?_) | refine Wr.id (by omega) ?_ | refine Chk.mk (by first | omega | exact rfl | (simp only [List.length_map]; omega) | (simp [room]; done) | (simp [room]; omega) | (simp [dropL, room]; done) | (simp [dropL, room]; omega)) ?_ | refine Nam.mk (List.length_map _) ?_ | refine Prep.skip ?_ | refine Eith.l ?_ | refine chk_t (x := D.flat _) (by assumption) ?_ | refine br_mk (fun _ => ?_) (fun _ => ?_) | refine nthK_mk hz ?_ | refine Chk.mk ⟨.inr hnil, by simp [room]; omega⟩ ?_ | refine Nam.mk (List.take_of_length_le (by simp; omega)) ?_ | fail)
            all_goals (conv => whnf)
            exact ⟨⟨i + 1, false, acc.take n ++ x :: acc.drop n⟩, Wm.trans (Wk.liftT' (t := 10) (m := 4) (ys := (acc.take n ++ x :: acc.drop n).map Lot.d) rfl rfl (by simp [dropL]) ((whole (by simp [dropL])).trans (by rw [List.map_append, List.map_cons, List.map_take, List.map_drop]; simp [dropL]; rfl))).wm (Wm.end (by repeat (first | exact trivial | refine And.intro rfl ?_ | refine And.intro (congrArg (fun n => V.d (I n)) (wrap_nat _ (by omega))) ?_)) rfl rfl rfl), yes n hn hgt hle, by simp only; omega⟩
    · have : i = L.length := by omega
      subst this
      rw [List.take_length] at hacc
      subst hacc
      repeat' ((conv => whnf); first | with_reducible refine Dec.t (show true = true from rfl) ?_ | with_reducible refine Dec.t (show false = false from rfl) ?_ | with_reducible refine Dec.f (show ¬ (true = false) by decide) ?_ | with_reducible refine Dec.f (show ¬ (false = true) by decide) ?_ | refine Dec.t (by omega) ?_ | refine Dec.f (by omega) ?_ | refine Dec.split (fun _ => ?_) (fun _ => ?_) | refine Wr.id (by omega) ?_ | refine Chk.mk (by first | omega | exact rfl | (simp only [List.length_map]; omega) | (simp [room]; done) | (simp [room]; omega) | (simp [dropL, room]; done) | (simp [dropL, room]; omega)) ?_ | refine Nam.mk (List.length_map _) ?_ | refine Prep.skip ?_ | refine Eith.l ?_ | refine chk_t (x := D.flat _) (by assumption) ?_ | refine br_mk (fun _ => ?_) (fun _ => ?_) | fail)
      all_goals (conv => whnf)
      exact (by repeat (first | exact trivial | exact rfl | exact DLe.refl _ | exact DLe.full _ _ _ | exact DLe.nil _ _ _ | exact VLe.refl _ | refine And.intro ?_ ?_ | refine VLe.d ?_ | refine DLe.agg ?_))
  · rw [if_neg hc]
    repeat' ((conv => whnf); first | with_reducible refine Dec.t (show true = true from rfl) ?_ | with_reducible refine Dec.t (show false = false from rfl) ?_ | with_reducible refine Dec.f (show ¬ (true = false) by decide) ?_ | with_reducible refine Dec.f (show ¬ (false = true) by decide) ?_ | refine Dec.t (by omega) ?_ | refine Dec.f (by omega) ?_ | refine Dec.split (fun _ => ?_) (fun _ => ?_) | refine Wr.id (by omega) ?_ | refine Chk.mk (by first | omega | exact rfl | (simp only [List.length_map]; omega) | (simp [room]; done) | (simp [room]; omega) | (simp [dropL, room]; done) | (simp [dropL, room]; omega)) ?_ | refine Nam.mk (List.length_map _) ?_ | refine Prep.skip ?_ | refine Eith.l ?_ | refine chk_t (x := D.flat _) (by assumption) ?_ | refine br_mk (fun _ => ?_) (fun _ => ?_) | fail)
    all_goals (conv => whnf)
    all_goals exact (by repeat (first | exact trivial | exact rfl | exact DLe.refl _ | exact DLe.full _ _ _ | exact DLe.nil _ _ _ | exact VLe.refl _ | refine And.intro ?_ ?_ | refine VLe.d ?_ | refine DLe.agg ?_))
end Go.PM

