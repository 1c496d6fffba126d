/- StockAll, its contract. -/
import Derived.Test.YtbmnckaajofjmaaDoorL18a
namespace Go.PM
open Go.Proofs
set_option maxRecDepth 10000
set_option maxHeartbeats 8000000

theorem lotsF_add (l : List Fact) (day known : Int) (k : Nat) : ∀ n : Nat, ∃ t, lotsF l day known (k + n) = lotsF l day known k ++ t
  | 0 => ⟨[], by simp⟩
  | n + 1 => by
    obtain ⟨t, ht⟩ := lotsF_add l day known k n
    rw [← Nat.add_assoc, lotsF_succ, ht]
    exact ⟨_, List.append_assoc _ _ _⟩
theorem lotsF_prefix (l : List Fact) (day known : Int) {k n : Nat} (h : k ≤ n) : ∃ t, lotsF l day known n = lotsF l day known k ++ t := by
  have := lotsF_add l day known k (n - k)
  rwa [Nat.add_sub_cancel' h] at this
def aF (w : AWorld) (day known : Int) (i : Nat) : List Lot := if 0 ≤ day ∧ day < 1024 then lotsF w.facts day known (min i (manyM w.facts day known).toNat) else []
def aR (w : AWorld) (day known : Int) (i : Nat) : Nat := if 0 ≤ day ∧ day < 1024 then (readsF w.facts day known (min i (manyM w.facts day known).toNat)).length else 0
theorem findM_zero (l : List Fact) (no day known : Int) (h : (findM l no day known).ok = false) : (findM l no day known).l = Lot.zero := by
  unfold findM at h ⊢
  cases e0 : atM l (lotKey no 0) day known with
  | none => simp only
  | some x0 => cases e1 : atM l (lotKey no 1) day known with
    | none => simp only [e0]
    | some x1 => cases e2 : atM l (lotKey no 2) day known with
      | none => simp only [e0, e1]
      | some x2 => cases e3 : atM l (lotKey no 3) day known with
        | none => simp only [e0, e1, e2]
        | some x3 => cases e4 : atM l (lotKey no 4) day known with
          | none => simp only [e0, e1, e2, e3]
          | some x4 =>
            simp only [e0, e1, e2, e3, e4] at h ⊢
            have := of_decide_eq_false h
            rw [if_neg this]
theorem findM_right (l : List Fact) (no day known : Int) (h : (findM l no day known).ok = true) : (findM l no day known).l.right := by
  unfold findM at h ⊢
  cases e0 : atM l (lotKey no 0) day known with
  | none => simp only [e0] at h; cases h
  | some x0 => cases e1 : atM l (lotKey no 1) day known with
    | none => simp only [e0, e1] at h; cases h
    | some x1 => cases e2 : atM l (lotKey no 2) day known with
      | none => simp only [e0, e1, e2] at h; cases h
      | some x2 => cases e3 : atM l (lotKey no 3) day known with
        | none => simp only [e0, e1, e2, e3] at h; cases h
        | some x3 => cases e4 : atM l (lotKey no 4) day known with
          | none => simp only [e0, e1, e2, e3, e4] at h; cases h
          | some x4 =>
            simp only [e0, e1, e2, e3, e4] at h ⊢
            have := of_decide_eq_true h
            rw [if_pos this]; exact this
theorem all_step (w : AWorld) (day known : Int) (i : Nat) :
    ((lotM w i day known).ok = false → (lotM w i day known).l = Lot.zero ∧ aF w day known (i + 1) = aF w day known i) ∧
    ((lotM w i day known).ok = true → aF w day known (i + 1) = aF w day known i ++ [(lotM w i day known).l] ∧ (lotM w i day known).l.no = i ∧ (lotM w i day known).l.right) ∧
    (aR w day known (i + 1) : Int) = aR w day known i + (if 0 < (lotM w i day known).reads.length then ((lotM w i day known).reads.length : Int) - 1 else 0) := by
  have hm := manyM_le w.facts day known
  unfold lotM aF aR
  by_cases hd : 0 ≤ day ∧ day < 1024
  · simp only [if_pos hd]
    by_cases hi : (i : Int) < manyM w.facts day known
    · have h1 : min i (manyM w.facts day known).toNat = i := by omega
      have h2 : min (i + 1) (manyM w.facts day known).toNat = i + 1 := by omega
      have hc : 0 ≤ (i : Int) ∧ (i : Int) < manyM w.facts day known := ⟨by omega, hi⟩
      simp only [if_pos hc, h1, h2, lotsF_succ, readsF_succ]
      refine ⟨fun h => ⟨findM_zero _ _ _ _ h, by rw [if_neg (by rw [h]; decide), List.append_nil]⟩, fun h => ⟨by rw [if_pos h], findM_no _ _ _ _ h, findM_right _ _ _ _ h⟩, ?_⟩
      simp only [List.length_append, List.length_cons]
      rw [if_pos (by omega)]; omega
    · have h1 : min i (manyM w.facts day known).toNat = (manyM w.facts day known).toNat := by omega
      have h2 : min (i + 1) (manyM w.facts day known).toNat = (manyM w.facts day known).toNat := by omega
      have hc : ¬ (0 ≤ (i : Int) ∧ (i : Int) < manyM w.facts day known) := fun h => hi h.2
      simp only [if_neg hc, h1, h2]
      exact ⟨fun _ => ⟨by first | rfl | trivial, by first | rfl | trivial⟩, fun h => (by cases h), by simp⟩
  · simp only [if_neg hd]
    exact ⟨fun _ => ⟨by first | rfl | trivial, by first | rfl | trivial⟩, fun h => (by cases h), by simp⟩
theorem many8 {l : List Fact} (h : few18 l) (day known : Int) : manyM l day known ≤ 8 := by
  unfold manyM
  cases h0 : atM l headK day known with
  | none => simp
  | some n =>
    have hn : n ≤ 8 := by
      unfold atM at h0
      cases ho : atF l headK day known with
      | none => rw [ho] at h0; cases h0
      | some f =>
        rw [ho] at h0
        unfold valOf at h0
        simp only at h0
        split at h0
        · cases h0
        · cases h0
          have hm : f ∈ l ∧ f.key = headK := by
            have : ∀ (m : List Fact) (o : Option Fact) (g : Fact), m.foldl (atStep headK day known) o = some g → (g ∈ m ∧ g.key = headK) ∨ o = some g := by
              intro m
              induction m with
              | nil => intro o g hg; exact .inr hg
              | cons x m ih =>
                intro o g hg
                rcases ih _ _ hg with h1 | h1
                · exact .inl ⟨.tail _ h1.1, h1.2⟩
                · unfold atStep at h1
                  split at h1
                  · rename_i hh
                    cases h1
                    exact .inl ⟨.head _, hh.1⟩
                  · exact .inr h1
            rcases this l none f ho with h1 | h1
            · exact h1
            · cases h1
          have hk : f.kind = 0 := by have := hm.2; unfold Fact.key headK at this; injection this
          have := h.2 f hm.1
          omega
    simp only
    split <;> omega
theorem law18_All (w : AWorld) (day known : Int) (hw : w.wide) (hl40 : w.facts.length < 2 ^ 63) : CallP Tryd.prog 6 [.d w.d, .d (I day), .d (I known)] (retD [.b true]) := by
  refine exPure_sound (E := envOf Tryd.prog tt Tryd.f6.ntmps) (envOf_ok ttok mixed) Tryd.func6 (by rfl) rfl rfl (Nat.le_of_ble_eq_true rfl) ?_
  have hFew := ref18_Few w hl40
  by_cases hs : few18 w.facts
  · have hl : w.facts.length ≤ 60 := hs.1
    rw [decide_eq_true hs] at hFew
    have a1 := stock_Lots w day known (by omega)
    have n1 := lotsM_len w day known
    have hm8 := many8 hs day known
    have hm0 := manyM_le w.facts day known
    have hpre : ∀ i, ∃ t, (lotsM w day known).1 = aF w day known i ++ t := fun i => by
      unfold lotsM aF
      split
      · exact lotsF_prefix _ _ _ (by omega)
      · exact ⟨[], by simp⟩
    have hlast : (lotsM w day known).1 = aF w day known 10 ∧ ((0 ≤ day ∧ day < 1024) → (lotsM w day known).2.length = aR w day known 10 + 1) ∧ (¬ (0 ≤ day ∧ day < 1024) → (lotsM w day known).1 = [] ∧ (lotsM w day known).2 = []) := by
      unfold lotsM aF aR
      by_cases hd : 0 ≤ day ∧ day < 1024
      · simp only [if_pos hd, show min 10 (manyM w.facts day known).toNat = (manyM w.facts day known).toNat by omega]
        exact ⟨by first | rfl | trivial, fun _ => by simp, fun h => absurd hd h⟩
      · simp only [if_neg hd]
        exact ⟨by first | rfl | trivial, fun h => absurd h hd, fun _ => ⟨by first | rfl | trivial, by first | rfl | trivial⟩⟩
    have hrb : ∀ i : Nat, aR w day known i ≤ 6000 ∧ (aF w day known i).length ≤ 1024 := fun i => by
      unfold aR aF
      have h1 := readsF_len w.facts day known (min i (manyM w.facts day known).toNat)
      have h2 := lotsF_len w.facts day known (min i (manyM w.facts day known).toNat)
      split
      · omega
      · simp
    generalize lotsM w day known = m1 at a1 n1 hpre hlast
    obtain ⟨L, R⟩ := m1
    simp only at a1 n1 hpre hlast
    repeat' ((conv => whnf); first | with_reducible refine Dec.t (show true = true from rfl) ?_ | with_reducible refine Dec.t (show false = false from rfl) ?_ | with_reducible refine Dec.f (show ¬ (true = false) by decide) ?_ | with_reducible refine Dec.f (show ¬ (false = true) by decide) ?_ | refine Dec.t (by omega) ?_ | refine Dec.f (by omega) ?_ | refine Dec.split (fun _ => ?_) (fun _ => ?_) | refine Wr.id (by omega) ?_ | refine Chk.mk (by first | omega | exact rfl | (simp only [List.length_map]; omega) | (simp [room]; done) | (simp [room]; omega) | (simp [dropL, room]; done) | (simp [dropL, room]; omega)) ?_ | refine Nam.mk (List.length_map _) ?_ | refine Prep.skip ?_ | refine Eith.l ?_ | refine chk_t (x := D.flat _) (by assumption) ?_ | refine br_mk (fun _ => ?_) (fun _ => ?_) | refine ACall.of (law18_sane) ?_ | refine APCall.of (law18_sane) ?_ | refine ACall.of hFew ?_ | refine ACall.of a1 ?_ | fail)
    all_goals (conv => whnf)
    refine ALoop.at (E := envOf Tryd.prog tt Tryd.f6.ntmps) (envOf_ok ttok mixed) (X := Nat × Nat × Nat) (fun x => [(27, .d (I x.1)), (9, .d (I x.2.1)), (10, .d (I x.2.2))]) (fun _ => []) (fun x => x.1 ≤ 10 ∧ x.2.1 = (aF w day known x.1).length ∧ x.2.2 = aR w day known x.1) (fun x => 10 - x.1) (0, 0, 0) (by repeat (first | exact trivial | refine And.intro rfl ?_ | refine And.intro (congrArg (fun n => V.d (I n)) (wrap_nat _ (by omega))) ?_)) rfl
      ⟨by omega, by unfold aF; split <;> simp [lotsF], by unfold aR; split <;> simp [readsF]⟩ ?_
    rintro ⟨i, n, m⟩ ⟨hi, hn, hm⟩
    simp only at hi hn hm
    dsimp only
    by_cases hlt : i < 10
    · have c := stock_Lot w i day known (by omega)
      obtain ⟨s1, s2, s3⟩ := all_step w day known i
      have hb := hrb i
      have hb1 := hrb (i + 1)
      have hrl := lotM_reads w i day known
      obtain ⟨t1, ht1⟩ := hpre (i + 1)
      clear hpre hlast hrb
      generalize lotM w i day known = q at c s1 s2 s3 hrl
      obtain ⟨x, rs, ok⟩ := q
      simp only [LotR.d] at c s1 s2 s3 hrl
      cases ok with
      | false =>
        obtain ⟨hx0, hA⟩ := s1 rfl
        subst hx0
        clear s1 s2
        by_cases hr0 : 0 < rs.length
        · rw [if_pos hr0] at s3
          repeat' ((conv => whnf); first | with_reducible refine Dec.t (show true = true from rfl) ?_ | with_reducible refine Dec.t (show false = false from rfl) ?_ | with_reducible refine Dec.f (show ¬ (true = false) by decide) ?_ | with_reducible refine Dec.f (show ¬ (false = true) by decide) ?_ | refine Dec.t (by omega) ?_ | refine Dec.f (by omega) ?_ | refine Dec.split (fun _ => ?_) (fun _ => ?_) | refine Wr.id (by omega) ?_ | refine Chk.mk (by first | omega | exact rfl | (simp only [List.length_map]; omega) | (simp [room]; done) | (simp [room]; omega) | (simp [dropL, room]; done) | (simp [dropL, room]; omega)) ?_ | refine Nam.mk (List.length_map _) ?_ | refine Prep.skip ?_ | refine Eith.l ?_ | refine chk_t (x := D.flat _) (by assumption) ?_ | refine br_mk (fun _ => ?_) (fun _ => ?_) | refine ACall.of c ?_ | refine Nam.mk (List.length_map _) ?_ | refine Nam.dec (eqLot Lot.zero Lot.zero) (fun _ => ?_) (fun h => absurd rfl h) | fail)
          all_goals (conv => whnf)
          exact ⟨(i + 1, n, m + rs.length - 1), Wm.end (by repeat (first | exact trivial | refine And.intro rfl ?_ | refine And.intro (congrArg (fun n => V.d (I n)) (by dsimp only; omega)) ?_)) rfl rfl rfl, ⟨by simp only; omega, by simp only; rw [hA]; exact hn, by simp only; omega⟩, by simp only; omega⟩
        · rw [if_neg hr0] at s3
          repeat' ((conv => whnf); first | with_reducible refine Dec.t (show true = true from rfl) ?_ | with_reducible refine Dec.t (show false = false from rfl) ?_ | with_reducible refine Dec.f (show ¬ (true = false) by decide) ?_ | with_reducible refine Dec.f (show ¬ (false = true) by decide) ?_ | refine Dec.t (by omega) ?_ | refine Dec.f (by omega) ?_ | refine Dec.split (fun _ => ?_) (fun _ => ?_) | refine Wr.id (by omega) ?_ | refine Chk.mk (by first | omega | exact rfl | (simp only [List.length_map]; omega) | (simp [room]; done) | (simp [room]; omega) | (simp [dropL, room]; done) | (simp [dropL, room]; omega)) ?_ | refine Nam.mk (List.length_map _) ?_ | refine Prep.skip ?_ | refine Eith.l ?_ | refine chk_t (x := D.flat _) (by assumption) ?_ | refine br_mk (fun _ => ?_) (fun _ => ?_) | refine ACall.of c ?_ | refine Nam.mk (List.length_map _) ?_ | refine Nam.dec (eqLot Lot.zero Lot.zero) (fun _ => ?_) (fun h => absurd rfl h) | fail)
          all_goals (conv => whnf)
          exact ⟨(i + 1, n, m), Wm.end (by repeat (first | exact trivial | refine And.intro rfl ?_ | refine And.intro (congrArg (fun n => V.d (I n)) (by dsimp only; omega)) ?_)) rfl rfl rfl, ⟨by simp only; omega, by simp only; rw [hA]; exact hn, by simp only; omega⟩, by simp only; omega⟩
      | true =>
        obtain ⟨hA, hno, hri⟩ := s2 rfl
        clear s1 s2
        have hLn : L[n]? = some x := by
          rw [ht1, hA, hn, List.append_assoc, List.getElem?_append_right (Nat.le_refl _)]; simp
        have hnl : n < L.length := (List.getElem?_eq_some_iff.1 hLn).1
        have hLd : (L.map Lot.d)[((n : Nat) : Int).toNat]? = some x.d := by rw [Int.toNat_natCast]; exact map_get hLn
        have hR := ref18_Right x hri.2.2.1.2
        rw [decide_eq_true hri] at hR
        have hn' : n + 1 = (aF w day known (i + 1)).length := by rw [hA, hn]; simp
        clear hA ht1 hLn hri
        by_cases hr0 : 0 < rs.length
        · rw [if_pos hr0] at s3
          repeat' ((conv => whnf); first | with_reducible refine Dec.t (show true = true from rfl) ?_ | with_reducible refine Dec.t (show false = false from rfl) ?_ | with_reducible refine Dec.f (show ¬ (true = false) by decide) ?_ | with_reducible refine Dec.f (show ¬ (false = true) by decide) ?_ | refine Dec.t (by omega) ?_ | refine Dec.f (by omega) ?_ | refine Dec.split (fun _ => ?_) (fun _ => ?_) | refine Wr.id (by omega) ?_ | refine Chk.mk (by first | omega | exact rfl | (simp only [List.length_map]; omega) | (simp [room]; done) | (simp [room]; omega) | (simp [dropL, room]; done) | (simp [dropL, room]; omega)) ?_ | refine Nam.mk (List.length_map _) ?_ | refine Prep.skip ?_ | refine Eith.l ?_ | refine chk_t (x := D.flat _) (by assumption) ?_ | refine br_mk (fun _ => ?_) (fun _ => ?_) | refine ACall.of c ?_ | refine ACall.of (hR) ?_ | refine APCall.of (hR) ?_ | refine nthK_mk hLd ?_ | refine Nam.mk (List.length_map _) ?_ | refine Nam.dec (eqLot x x) (fun _ => ?_) (fun h => absurd rfl h) | fail)
          all_goals (conv => whnf)
          exact ⟨(i + 1, n + 1, m + rs.length - 1), Wm.end (by repeat (first | exact trivial | refine And.intro rfl ?_ | refine And.intro (congrArg (fun n => V.d (I n)) (by dsimp only; omega)) ?_)) rfl rfl rfl, ⟨by simp only; omega, hn', by simp only; omega⟩, by simp only; omega⟩
        · rw [if_neg hr0] at s3
          repeat' ((conv => whnf); first | with_reducible refine Dec.t (show true = true from rfl) ?_ | with_reducible refine Dec.t (show false = false from rfl) ?_ | with_reducible refine Dec.f (show ¬ (true = false) by decide) ?_ | with_reducible refine Dec.f (show ¬ (false = true) by decide) ?_ | refine Dec.t (by omega) ?_ | refine Dec.f (by omega) ?_ | refine Dec.split (fun _ => ?_) (fun _ => ?_) | refine Wr.id (by omega) ?_ | refine Chk.mk (by first | omega | exact rfl | (simp only [List.length_map]; omega) | (simp [room]; done) | (simp [room]; omega) | (simp [dropL, room]; done) | (simp [dropL, room]; omega)) ?_ | refine Nam.mk (List.length_map _) ?_ | refine Prep.skip ?_ | refine Eith.l ?_ | refine chk_t (x := D.flat _) (by assumption) ?_ | refine br_mk (fun _ => ?_) (fun _ => ?_) | refine ACall.of c ?_ | refine ACall.of (hR) ?_ | refine APCall.of (hR) ?_ | refine nthK_mk hLd ?_ | refine Nam.mk (List.length_map _) ?_ | refine Nam.dec (eqLot x x) (fun _ => ?_) (fun h => absurd rfl h) | fail)
          all_goals (conv => whnf)
          exact ⟨(i + 1, n + 1, m), Wm.end (by repeat (first | exact trivial | refine And.intro rfl ?_ | refine And.intro (congrArg (fun n => V.d (I n)) (by dsimp only; omega)) ?_)) rfl rfl rfl, ⟨by simp only; omega, hn', by simp only; omega⟩, by simp only; omega⟩
    · have : i = 10 := by omega
      subst this
      obtain ⟨l1, l2, l3⟩ := hlast
      by_cases hd : 0 ≤ day ∧ day < 1024
      · have l2 := l2 hd
        have hnL : n = L.length := by rw [hn, l1]
        clear l1 l3 hpre hrb
        repeat' ((conv => whnf); first | with_reducible refine Dec.t (show true = true from rfl) ?_ | with_reducible refine Dec.t (show false = false from rfl) ?_ | with_reducible refine Dec.f (show ¬ (true = false) by decide) ?_ | with_reducible refine Dec.f (show ¬ (false = true) by decide) ?_ | refine Dec.t (by omega) ?_ | refine Dec.f (by omega) ?_ | refine Dec.split (fun _ => ?_) (fun _ => ?_) | refine Wr.id (by omega) ?_ | refine Chk.mk (by first | omega | exact rfl | (simp only [List.length_map]; omega) | (simp [room]; done) | (simp [room]; omega) | (simp [dropL, room]; done) | (simp [dropL, room]; omega)) ?_ | refine Nam.mk (List.length_map _) ?_ | refine Prep.skip ?_ | refine Eith.l ?_ | refine chk_t (x := D.flat _) (by assumption) ?_ | refine br_mk (fun _ => ?_) (fun _ => ?_) | refine Nam.mk (List.length_map _) ?_ | fail)
        all_goals (conv => whnf)
        all_goals first | exact DLe.refl _ | (exfalso; omega) | (exfalso; simp only [List.length_nil] at *; omega)
      · obtain ⟨l4, l5⟩ := l3 hd
        clear l1 l2 hpre hrb
        subst l4; subst l5
        repeat' ((conv => whnf); first | with_reducible refine Dec.t (show true = true from rfl) ?_ | with_reducible refine Dec.t (show false = false from rfl) ?_ | with_reducible refine Dec.f (show ¬ (true = false) by decide) ?_ | with_reducible refine Dec.f (show ¬ (false = true) by decide) ?_ | refine Dec.t (by omega) ?_ | refine Dec.f (by omega) ?_ | refine Dec.split (fun _ => ?_) (fun _ => ?_) | refine Wr.id (by omega) ?_ | refine Chk.mk (by first | omega | exact rfl | (simp only [List.length_map]; omega) | (simp [room]; done) | (simp [room]; omega) | (simp [dropL, room]; done) | (simp [dropL, room]; omega)) ?_ | refine Nam.mk (List.length_map _) ?_ | refine Prep.skip ?_ | refine Eith.l ?_ | refine chk_t (x := D.flat _) (by assumption) ?_ | refine br_mk (fun _ => ?_) (fun _ => ?_) | refine Nam.mk (y := 0) rfl ?_ | fail)
        all_goals (conv => whnf)
        all_goals first | exact DLe.refl _ | (exfalso; omega) | (exfalso; simp only [List.length_nil] at *; omega)
  · rw [decide_eq_false hs] at hFew
    repeat' ((conv => whnf); first | with_reducible refine Dec.t (show true = true from rfl) ?_ | with_reducible refine Dec.t (show false = false from rfl) ?_ | with_reducible refine Dec.f (show ¬ (true = false) by decide) ?_ | with_reducible refine Dec.f (show ¬ (false = true) by decide) ?_ | refine Dec.t (by omega) ?_ | refine Dec.f (by omega) ?_ | refine Dec.split (fun _ => ?_) (fun _ => ?_) | refine Wr.id (by omega) ?_ | refine Chk.mk (by first | omega | exact rfl | (simp only [List.length_map]; omega) | (simp [room]; done) | (simp [room]; omega) | (simp [dropL, room]; done) | (simp [dropL, room]; omega)) ?_ | refine Nam.mk (List.length_map _) ?_ | refine Prep.skip ?_ | refine Eith.l ?_ | refine chk_t (x := D.flat _) (by assumption) ?_ | refine br_mk (fun _ => ?_) (fun _ => ?_) | refine ACall.of (law18_sane) ?_ | refine APCall.of (law18_sane) ?_ | refine ACall.of hFew ?_ | fail)
    all_goals (conv => whnf)
    all_goals exact (by repeat (first | exact trivial | exact rfl | exact DLe.refl _ | exact DLe.full _ _ _ | exact DLe.nil _ _ _ | exact VLe.refl _ | refine And.intro ?_ ?_ | refine VLe.d ?_ | refine DLe.agg ?_))
end Go.PM

