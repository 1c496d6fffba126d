/- OrdersAll, its contract. -/
import Derived.Test.YtghlkcnmocgkaaaL19a
namespace Go.PM
open Go.Proofs
set_option maxRecDepth 10000
set_option maxHeartbeats 8000000

theorem ordersF_add (w : OWorld) (day known : Int) (k : Nat) : ∀ n : Nat, ∃ t, ordersF w day known (k + n) = ordersF w day known k ++ t
  | 0 => ⟨[], by simp⟩
  | n + 1 => by
    obtain ⟨t, ht⟩ := ordersF_add w day known k n
    rw [← Nat.add_assoc, ordersF_succ, ht]
    exact ⟨_, List.append_assoc _ _ _⟩
theorem ordersF_prefix (w : OWorld) (day known : Int) {k n : Nat} (h : k ≤ n) : ∃ t, ordersF w day known n = ordersF w day known k ++ t := by
  have := ordersF_add w day known k (n - k)
  rwa [Nat.add_sub_cancel' h] at this
def aF (w : OWorld) (day known : Int) (i : Nat) : List Ord := if dayM day then ordersF w day known (min i (manyM w.facts 1 day known).toNat) else []
def aR (w : OWorld) (day known : Int) (i : Nat) : Nat := if dayM day then (readsF w day known (min i (manyM w.facts 1 day known).toNat)).length else 0
theorem findM_zero (w : OWorld) (no day known : Int) (h : (findM w no day known).ok = false) : (findM w no day known).l = Ord.zero := by
  unfold findM at h ⊢
  split at h
  · cases h
  · rename_i hc; rw [if_neg hc]
theorem findM_right (w : OWorld) (no day known : Int) (h : (findM w no day known).ok = true) : (findM w no day known).l.no = no ∧ (findM w no day known).l.right w.src := by
  unfold findM at h ⊢
  split at h
  · rename_i hc
    rw [if_pos hc]
    obtain ⟨a, b, c, d, e, f, g, hv⟩ := len7 hc.1
    refine ⟨?_, hc.2⟩
    simp only [hv, ordOf]
  · cases h
theorem all_step (w : OWorld) (day known : Int) (i : Nat) :
    ((orderM w i day known).ok = false → (orderM w i day known).l = Ord.zero ∧ aF w day known (i + 1) = aF w day known i) ∧
    ((orderM w i day known).ok = true → aF w day known (i + 1) = aF w day known i ++ [(orderM w i day known).l] ∧ (orderM w i day known).l.no = i ∧ (orderM w i day known).l.right w.src) ∧
    (aR w day known (i + 1) : Int) = aR w day known i + (if 0 < (orderM w i day known).reads.length then ((orderM w i day known).reads.length : Int) - 1 else 0) := by
  have hm := manyM_le w.facts 1 day known
  unfold orderM aF aR
  by_cases hd : dayM day
  · simp only [if_pos hd]
    by_cases hi : (i : Int) < manyM w.facts 1 day known
    · have h1 : min i (manyM w.facts 1 day known).toNat = i := by omega
      have h2 : min (i + 1) (manyM w.facts 1 day known).toNat = i + 1 := by omega
      have hc : 0 ≤ (i : Int) ∧ (i : Int) < manyM w.facts 1 day known := ⟨by omega, hi⟩
      simp only [if_pos hc, h1, h2, ordersF_succ, readsF_succ]
      refine ⟨fun h => ⟨findM_zero _ _ _ _ h, by rw [if_neg (by rw [h]; decide), List.append_nil]⟩, fun h => ⟨by rw [if_pos h], (findM_right _ _ _ _ h).1, (findM_right _ _ _ _ h).2⟩, ?_⟩
      simp only [List.length_append, List.length_cons]
      rw [if_pos (by omega)]; omega
    · have h1 : min i (manyM w.facts 1 day known).toNat = (manyM w.facts 1 day known).toNat := by omega
      have h2 : min (i + 1) (manyM w.facts 1 day known).toNat = (manyM w.facts 1 day known).toNat := by omega
      have hc : ¬ (0 ≤ (i : Int) ∧ (i : Int) < manyM w.facts 1 day known) := fun h => hi h.2
      simp only [if_neg hc, h1, h2]
      exact ⟨fun _ => ⟨by first | rfl | trivial, by first | rfl | trivial⟩, fun h => (by cases h), by simp⟩
  · simp only [if_neg hd]
    exact ⟨fun _ => ⟨by first | rfl | trivial, by first | rfl | trivial⟩, fun h => (by cases h), by simp⟩
theorem many8 {l : List Fact} (h : ∀ f ∈ l, ¬ (f.kind = 0 ∧ 8 < f.value)) (day known : Int) : manyM l 1 day known ≤ 8 := by
  unfold manyM
  cases h0 : atM l (headO 1) day known with
  | none => simp
  | some n =>
    have hn : n ≤ 8 := by
      unfold atM at h0
      cases ho : atF l (headO 1) day known with
      | none => rw [ho] at h0; cases h0
      | some f =>
        rw [ho] at h0
        unfold valOf at h0
        simp only at h0
        split at h0
        · cases h0
        · cases h0
          have hm : f ∈ l ∧ f.key = (headO 1) := by
            have : ∀ (m : List Fact) (o : Option Fact) (g : Fact), m.foldl (atStep (headO 1) day known) o = some g → (g ∈ m ∧ g.key = (headO 1)) ∨ o = some g := by
              intro m
              induction m with
              | nil => intro o g hg; exact .inr hg
              | cons x m ih =>
                intro o g hg
                rcases ih _ _ hg with h1 | h1
                · exact .inl ⟨.tail _ h1.1, h1.2⟩
                · unfold atStep at h1
                  split at h1
                  · rename_i hh
                    cases h1
                    exact .inl ⟨.head _, hh.1⟩
                  · exact .inr h1
            rcases this l none f ho with h1 | h1
            · exact h1
            · cases h1
          have hk : f.kind = 0 := by have := hm.2; unfold Fact.key headO at this; injection this
          have := h f hm.1
          omega
    simp only
    split <;> omega
theorem law19_All (w : OWorld) (day known : Int) (hw : Wd w) : CallP Try.prog 6 [.d w.d, .d (I day), .d (I known)] (retD [.b true]) := by
  refine exPure_sound (E := envOf Try.prog tt Try.f6.ntmps) (envOf_ok ttok mixed) Try.func6 (by rfl) rfl rfl (Nat.le_of_ble_eq_true rfl) ?_
  have hFew := ref19_Few w hw.fl hw.ol hw.bl
  by_cases hs : few19 w
  · have hl : w.facts.length ≤ 60 := hs.1.1
    rw [decide_eq_true hs] at hFew
    have a1 := orders_Orders w day known (by omega) hs.few hw.sw hw.fw
    have n1 := ordersM_len w day known
    have hm8 := many8 hs.1.2 day known
    have hm0 := manyM_le w.facts 1 day known
    have hpre : ∀ i, ∃ t, (ordersM w day known).1 = aF w day known i ++ t := fun i => by
      unfold ordersM aF
      split
      · exact ordersF_prefix _ _ _ (by omega)
      · exact ⟨[], by simp⟩
    have hlast : (ordersM w day known).1 = aF w day known 10 ∧ (dayM day → (ordersM w day known).2.length = aR w day known 10 + 1) ∧ (¬ dayM day → (ordersM w day known).1 = [] ∧ (ordersM w day known).2 = []) := by
      unfold ordersM aF aR
      by_cases hd : dayM day
      · simp only [if_pos hd, show min 10 (manyM w.facts 1 day known).toNat = (manyM w.facts 1 day known).toNat by omega]
        exact ⟨by first | rfl | trivial, fun _ => by simp, fun h => absurd hd h⟩
      · simp only [if_neg hd]
        exact ⟨by first | rfl | trivial, fun h => absurd h hd, fun _ => ⟨by first | rfl | trivial, by first | rfl | trivial⟩⟩
    have hrb : ∀ i : Nat, aR w day known i ≤ 6000 ∧ (aF w day known i).length ≤ 1024 := fun i => by
      unfold aR aF
      have h1 := readsF_len w day known (min i (manyM w.facts 1 day known).toNat)
      have h2 := ordersF_len w day known (min i (manyM w.facts 1 day known).toNat)
      split
      · omega
      · simp
    generalize ordersM w day known = m1 at a1 n1 hpre hlast
    obtain ⟨L, R⟩ := m1
    simp only at a1 n1 hpre hlast
    repeat' ((conv => whnf); first | with_reducible refine Dec.t (show true = true from rfl) ?_ | with_reducible refine Dec.t (show false = false from rfl) ?_ | with_reducible refine Dec.f (show ¬ (true = false) by decide) ?_ | with_reducible refine Dec.f (show ¬ (false = true) by decide) ?_ | refine Dec.t (by omega) ?_ | refine Dec.f (by omega) ?_ | refine Dec.split (fun _ => ?_) (fun _ => ?_) | refine Wr.id (by omega) ?_ | refine Chk.mk (by first | omega | exact rfl | (simp only [List.length_map]; omega) | (simp [room]; done) | (simp [room]; omega) | (simp [dropL, room]; done) | (simp [dropL, room]; omega)) ?_ | refine Nam.mk (List.length_map _) ?_ | refine Prep.skip ?_ | refine Eith.l ?_ | refine chk_t (x := D.flat _) (by assumption) ?_ | refine br_mk (fun _ => ?_) (fun _ => ?_) | refine ACall.of (law19_sane) ?_ | refine APCall.of (law19_sane) ?_ | refine ACall.of hFew ?_ | refine ACall.of a1 ?_ | fail)
    all_goals (conv => whnf)
    refine ALoop.at (E := envOf Try.prog tt Try.f6.ntmps) (envOf_ok ttok mixed) (X := Nat × Nat × Nat) (fun x => [(11, .d (I x.1)), (9, .d (I x.2.1)), (10, .d (I x.2.2))]) (fun _ => []) (fun x => x.1 ≤ 10 ∧ x.2.1 = (aF w day known x.1).length ∧ x.2.2 = aR w day known x.1) (fun x => 10 - x.1) (0, 0, 0) (by repeat (first | exact trivial | refine And.intro rfl ?_ | refine And.intro (congrArg (fun n => V.d (I n)) (wrap_nat _ (by omega))) ?_)) rfl
      ⟨by omega, by unfold aF; split <;> simp [ordersF], by unfold aR; split <;> simp [readsF]⟩ ?_
    rintro ⟨i, n, m⟩ ⟨hi, hn, hm⟩
    simp only at hi hn hm
    dsimp only
    by_cases hlt : i < 10
    · have c := orders_Order w i day known (by omega) hs.few hw.sw hw.fw
      obtain ⟨s1, s2, s3⟩ := all_step w day known i
      have hb := hrb i
      have hb1 := hrb (i + 1)
      have hrl := orderM_reads w i day known
      obtain ⟨t1, ht1⟩ := hpre (i + 1)
      clear hpre hlast hrb
      generalize orderM w i day known = q at c s1 s2 s3 hrl
      obtain ⟨x, rs, ok⟩ := q
      simp only [OrdR.d] at c s1 s2 s3 hrl
      cases ok with
      | false =>
        obtain ⟨hx0, hA⟩ := s1 rfl
        subst hx0
        clear s1 s2
        by_cases hr0 : 0 < rs.length
        · rw [if_pos hr0] at s3
          repeat' ((conv => whnf); first | with_reducible refine Dec.t (show true = true from rfl) ?_ | with_reducible refine Dec.t (show false = false from rfl) ?_ | with_reducible refine Dec.f (show ¬ (true = false) by decide) ?_ | with_reducible refine Dec.f (show ¬ (false = true) by decide) ?_ | refine Dec.t (by omega) ?_ | refine Dec.f (by omega) ?_ | refine Dec.split (fun _ => ?_) (fun _ => ?_) | refine Wr.id (by omega) ?_ | refine Chk.mk (by first | omega | exact rfl | (simp only [List.length_map]; omega) | (simp [room]; done) | (simp [room]; omega) | (simp [dropL, room]; done) | (simp [dropL, room]; omega)) ?_ | refine Nam.mk (List.length_map _) ?_ | refine Prep.skip ?_ | refine Eith.l ?_ | refine chk_t (x := D.flat _) (by assumption) ?_ | refine br_mk (fun _ => ?_) (fun _ => ?_) | refine ACall.of c ?_ | refine Nam.mk (List.length_map _) ?_ | refine Nam.dec (eqOrd Ord.zero Ord.zero) (fun _ => ?_) (fun h => absurd rfl h) | fail)
          all_goals (conv => whnf)
          exact ⟨(i + 1, n, m + rs.length - 1), Wm.end (by repeat (first | exact trivial | refine And.intro rfl ?_ | refine And.intro (congrArg (fun n => V.d (I n)) (by dsimp only; omega)) ?_)) rfl rfl rfl, ⟨by simp only; omega, by simp only; rw [hA]; exact hn, by simp only; omega⟩, by simp only; omega⟩
        · rw [if_neg hr0] at s3
          repeat' ((conv => whnf); first | with_reducible refine Dec.t (show true = true from rfl) ?_ | with_reducible refine Dec.t (show false = false from rfl) ?_ | with_reducible refine Dec.f (show ¬ (true = false) by decide) ?_ | with_reducible refine Dec.f (show ¬ (false = true) by decide) ?_ | refine Dec.t (by omega) ?_ | refine Dec.f (by omega) ?_ | refine Dec.split (fun _ => ?_) (fun _ => ?_) | refine Wr.id (by omega) ?_ | refine Chk.mk (by first | omega | exact rfl | (simp only [List.length_map]; omega) | (simp [room]; done) | (simp [room]; omega) | (simp [dropL, room]; done) | (simp [dropL, room]; omega)) ?_ | refine Nam.mk (List.length_map _) ?_ | refine Prep.skip ?_ | refine Eith.l ?_ | refine chk_t (x := D.flat _) (by assumption) ?_ | refine br_mk (fun _ => ?_) (fun _ => ?_) | refine ACall.of c ?_ | refine Nam.mk (List.length_map _) ?_ | refine Nam.dec (eqOrd Ord.zero Ord.zero) (fun _ => ?_) (fun h => absurd rfl h) | fail)
          all_goals (conv => whnf)
          exact ⟨(i + 1, n, m), Wm.end (by repeat (first | exact trivial | refine And.intro rfl ?_ | refine And.intro (congrArg (fun n => V.d (I n)) (by dsimp only; omega)) ?_)) rfl rfl rfl, ⟨by simp only; omega, by simp only; rw [hA]; exact hn, by simp only; omega⟩, by simp only; omega⟩
      | true =>
        obtain ⟨hA, hno, hri⟩ := s2 rfl
        clear s1 s2
        have hLn : L[n]? = some x := by
          rw [ht1, hA, hn, List.append_assoc, List.getElem?_append_right (Nat.le_refl _)]; simp
        have hnl : n < L.length := (List.getElem?_eq_some_iff.1 hLn).1
        have hLd : (L.map Ord.d)[((n : Nat) : Int).toNat]? = some x.d := by rw [Int.toNat_natCast]; exact map_get hLn
        obtain ⟨⟨⟨hi0, hi1⟩, ⟨hp0, hp1⟩, ham, _⟩, ⟨hdu0, hdu1⟩, _⟩ := hri
        have hn' : n + 1 = (aF w day known (i + 1)).length := by rw [hA, hn]; simp
        clear hA ht1 hLn
        by_cases hr0 : 0 < rs.length
        · rw [if_pos hr0] at s3
          repeat' ((conv => whnf); first | with_reducible refine Dec.t (show true = true from rfl) ?_ | with_reducible refine Dec.t (show false = false from rfl) ?_ | with_reducible refine Dec.f (show ¬ (true = false) by decide) ?_ | with_reducible refine Dec.f (show ¬ (false = true) by decide) ?_ | refine Dec.t (by omega) ?_ | refine Dec.f (by omega) ?_ | refine Dec.split (fun _ => ?_) (fun _ => ?_) | refine Wr.id (by omega) ?_ | refine Chk.mk (by first | omega | exact rfl | (simp only [List.length_map]; omega) | (simp [room]; done) | (simp [room]; omega) | (simp [dropL, room]; done) | (simp [dropL, room]; omega)) ?_ | refine Nam.mk (List.length_map _) ?_ | refine Prep.skip ?_ | refine Eith.l ?_ | refine chk_t (x := D.flat _) (by assumption) ?_ | refine br_mk (fun _ => ?_) (fun _ => ?_) | refine ACall.of c ?_ | refine Nam.mk (y := w.src.items.length) rfl ?_ | refine Nam.mk (y := w.src.plants.length) rfl ?_ | refine nthK_mk hLd ?_ | refine Nam.mk (List.length_map _) ?_ | refine Nam.dec (eqOrd x x) (fun _ => ?_) (fun h => absurd rfl h) | fail)
          all_goals (conv => whnf)
          exact ⟨(i + 1, n + 1, m + rs.length - 1), Wm.end (by repeat (first | exact trivial | refine And.intro rfl ?_ | refine And.intro (congrArg (fun n => V.d (I n)) (by dsimp only; omega)) ?_)) rfl rfl rfl, ⟨by simp only; omega, hn', by simp only; omega⟩, by simp only; omega⟩
        · rw [if_neg hr0] at s3
          repeat' ((conv => whnf); first | with_reducible refine Dec.t (show true = true from rfl) ?_ | with_reducible refine Dec.t (show false = false from rfl) ?_ | with_reducible refine Dec.f (show ¬ (true = false) by decide) ?_ | with_reducible refine Dec.f (show ¬ (false = true) by decide) ?_ | refine Dec.t (by omega) ?_ | refine Dec.f (by omega) ?_ | refine Dec.split (fun _ => ?_) (fun _ => ?_) | refine Wr.id (by omega) ?_ | refine Chk.mk (by first | omega | exact rfl | (simp only [List.length_map]; omega) | (simp [room]; done) | (simp [room]; omega) | (simp [dropL, room]; done) | (simp [dropL, room]; omega)) ?_ | refine Nam.mk (List.length_map _) ?_ | refine Prep.skip ?_ | refine Eith.l ?_ | refine chk_t (x := D.flat _) (by assumption) ?_ | refine br_mk (fun _ => ?_) (fun _ => ?_) | refine ACall.of c ?_ | refine Nam.mk (y := w.src.items.length) rfl ?_ | refine Nam.mk (y := w.src.plants.length) rfl ?_ | refine nthK_mk hLd ?_ | refine Nam.mk (List.length_map _) ?_ | refine Nam.dec (eqOrd x x) (fun _ => ?_) (fun h => absurd rfl h) | fail)
          all_goals (conv => whnf)
          exact ⟨(i + 1, n + 1, m), Wm.end (by repeat (first | exact trivial | refine And.intro rfl ?_ | refine And.intro (congrArg (fun n => V.d (I n)) (by dsimp only; omega)) ?_)) rfl rfl rfl, ⟨by simp only; omega, hn', by simp only; omega⟩, by simp only; omega⟩
    · have : i = 10 := by omega
      subst this
      obtain ⟨l1, l2, l3⟩ := hlast
      by_cases hd : dayM day
      · have l2 := l2 hd
        have hnL : n = L.length := by rw [hn, l1]
        clear l1 l3 hpre hrb
        repeat' ((conv => whnf); first | with_reducible refine Dec.t (show true = true from rfl) ?_ | with_reducible refine Dec.t (show false = false from rfl) ?_ | with_reducible refine Dec.f (show ¬ (true = false) by decide) ?_ | with_reducible refine Dec.f (show ¬ (false = true) by decide) ?_ | refine Dec.t (by omega) ?_ | refine Dec.f (by omega) ?_ | refine Dec.split (fun _ => ?_) (fun _ => ?_) | refine Wr.id (by omega) ?_ | refine Chk.mk (by first | omega | exact rfl | (simp only [List.length_map]; omega) | (simp [room]; done) | (simp [room]; omega) | (simp [dropL, room]; done) | (simp [dropL, room]; omega)) ?_ | refine Nam.mk (List.length_map _) ?_ | refine Prep.skip ?_ | refine Eith.l ?_ | refine chk_t (x := D.flat _) (by assumption) ?_ | refine br_mk (fun _ => ?_) (fun _ => ?_) | refine Nam.mk (List.length_map _) ?_ | fail)
        all_goals (conv => whnf)
        all_goals first | exact DLe.refl _ | (exfalso; omega) | (exfalso; simp only [List.length_nil] at *; omega)
      · obtain ⟨l4, l5⟩ := l3 hd
        clear l1 l2 hpre hrb
        subst l4; subst l5
        repeat' ((conv => whnf); first | with_reducible refine Dec.t (show true = true from rfl) ?_ | with_reducible refine Dec.t (show false = false from rfl) ?_ | with_reducible refine Dec.f (show ¬ (true = false) by decide) ?_ | with_reducible refine Dec.f (show ¬ (false = true) by decide) ?_ | refine Dec.t (by omega) ?_ | refine Dec.f (by omega) ?_ | refine Dec.split (fun _ => ?_) (fun _ => ?_) | refine Wr.id (by omega) ?_ | refine Chk.mk (by first | omega | exact rfl | (simp only [List.length_map]; omega) | (simp [room]; done) | (simp [room]; omega) | (simp [dropL, room]; done) | (simp [dropL, room]; omega)) ?_ | refine Nam.mk (List.length_map _) ?_ | refine Prep.skip ?_ | refine Eith.l ?_ | refine chk_t (x := D.flat _) (by assumption) ?_ | refine br_mk (fun _ => ?_) (fun _ => ?_) | refine Nam.mk (y := 0) rfl ?_ | fail)
        all_goals (conv => whnf)
        all_goals first | exact DLe.refl _ | (exfalso; omega) | (exfalso; simp only [List.length_nil] at *; omega)
  · rw [decide_eq_false hs] at hFew
    repeat' ((conv => whnf); first | with_reducible refine Dec.t (show true = true from rfl) ?_ | with_reducible refine Dec.t (show false = false from rfl) ?_ | with_reducible refine Dec.f (show ¬ (true = false) by decide) ?_ | with_reducible refine Dec.f (show ¬ (false = true) by decide) ?_ | refine Dec.t (by omega) ?_ | refine Dec.f (by omega) ?_ | refine Dec.split (fun _ => ?_) (fun _ => ?_) | refine Wr.id (by omega) ?_ | refine Chk.mk (by first | omega | exact rfl | (simp only [List.length_map]; omega) | (simp [room]; done) | (simp [room]; omega) | (simp [dropL, room]; done) | (simp [dropL, room]; omega)) ?_ | refine Nam.mk (List.length_map _) ?_ | refine Prep.skip ?_ | refine Eith.l ?_ | refine chk_t (x := D.flat _) (by assumption) ?_ | refine br_mk (fun _ => ?_) (fun _ => ?_) | refine ACall.of (law19_sane) ?_ | refine APCall.of (law19_sane) ?_ | refine ACall.of hFew ?_ | fail)
    all_goals (conv => whnf)
    all_goals exact (by repeat (first | exact trivial | exact rfl | exact DLe.refl _ | exact DLe.full _ _ _ | exact DLe.nil _ _ _ | exact VLe.refl _ | refine And.intro ?_ ?_ | refine VLe.d ?_ | refine DLe.agg ?_))
end Go.PM

