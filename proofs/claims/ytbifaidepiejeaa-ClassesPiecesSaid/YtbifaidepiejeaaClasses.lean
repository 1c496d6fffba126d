/- Package classes: contracts. -/
import Derived.Test.YtbifaidepiejeaaFacts
namespace Go.PM
open Go.Proofs
set_option maxRecDepth 10000

theorem classes_between (n lo hi : Int) : CallP Try.prog 43 [.d (I n), .d (I lo), .d (I hi)] (retD [.b (decide (lo ≤ n ∧ n ≤ hi))]) := by
  refine exPure_sound (E := envOf Try.prog tt Try.f43.ntmps) (envOf_ok ttok mixed) Try.func43 (by rfl) rfl rfl (Nat.le_of_ble_eq_true rfl) ?_
  repeat' ((conv => whnf); first | with_reducible refine Dec.t (show true = true from rfl) ?_ | with_reducible refine Dec.t (show false = false from rfl) ?_ | with_reducible refine Dec.f (show ¬ (true = false) by decide) ?_ | with_reducible refine Dec.f (show ¬ (false = true) by decide) ?_ | refine Dec.t (by omega) ?_ | refine Dec.f (by omega) ?_ | refine Dec.split (fun _ => ?_) (fun _ => ?_) | refine Wr.id (by omega) ?_ | refine Chk.mk (by first | omega | exact rfl | (simp only [List.length_map]; omega) | (simp [room]; done) | (simp [room]; omega) | (simp [dropL, room]; done) | (simp [dropL, room]; omega)) ?_ | refine Nam.mk (List.length_map _) ?_ | refine Prep.skip ?_ | refine Eith.l ?_ | refine chk_t (x := D.flat _) (by assumption) ?_ | refine br_mk (fun _ => ?_) (fun _ => ?_))
  all_goals (conv => whnf)
  all_goals first | (rw [decide_eq_true (by omega)]; exact DLe.refl _) | (rw [decide_eq_false (by omega)]; exact DLe.refl _)

def Supply.ok (s : Supply) : Prop := 0 ≤ s.no ∧ s.no ≤ 1023 ∧ 0 ≤ s.item ∧ s.item ≤ 31 ∧ 0 ≤ s.plant ∧ s.plant ≤ 7 ∧ 0 ≤ s.ready ∧ s.ready ≤ 1024 ∧ 0 ≤ s.expiry ∧ s.expiry ≤ 1024 ∧ 0 ≤ s.amount ∧ s.amount ≤ 1048576
instance (s : Supply) : Decidable s.ok := by unfold Supply.ok; infer_instance
def Request.ok (s : Request) : Prop := 0 ≤ s.no ∧ s.no ≤ 1023 ∧ 0 ≤ s.item ∧ s.item ≤ 31 ∧ 0 ≤ s.cust ∧ s.cust ≤ 4095 ∧ 0 ≤ s.due ∧ s.due ≤ 1023 ∧ 0 ≤ s.shelf ∧ s.shelf ≤ 1024 ∧ 0 ≤ s.amount ∧ s.amount ≤ 1048576
instance (s : Request) : Decidable s.ok := by unfold Request.ok; infer_instance

theorem classes_validSupply (s : Supply) : CallP Try.prog 31 [.d s.d] (retD [.b (decide s.ok)]) := by
  refine exPure_sound (E := envOf Try.prog tt Try.f31.ntmps) (envOf_ok ttok mixed) Try.func31 (by rfl) rfl rfl (Nat.le_of_ble_eq_true rfl) ?_
  repeat' ((conv => whnf); first | with_reducible refine Dec.t (show true = true from rfl) ?_ | with_reducible refine Dec.t (show false = false from rfl) ?_ | with_reducible refine Dec.f (show ¬ (true = false) by decide) ?_ | with_reducible refine Dec.f (show ¬ (false = true) by decide) ?_ | refine Dec.t (by omega) ?_ | refine Dec.f (by omega) ?_ | refine Dec.split (fun _ => ?_) (fun _ => ?_) | refine Wr.id (by omega) ?_ | refine Chk.mk (by first | omega | exact rfl | (simp only [List.length_map]; omega) | (simp [room]; done) | (simp [room]; omega) | (simp [dropL, room]; done) | (simp [dropL, room]; omega)) ?_ | refine Nam.mk (List.length_map _) ?_ | refine Prep.skip ?_ | refine Eith.l ?_ | refine chk_t (x := D.flat _) (by assumption) ?_ | refine br_mk (fun _ => ?_) (fun _ => ?_) | refine ACall.ofB (classes_between _ _ _) (fun _ => ?_) (fun _ => ?_))
  all_goals (conv => whnf)
  all_goals try simp only [decide_eq_true_eq, decide_eq_false_iff_not] at *
  all_goals first | (rw [decide_eq_true (by unfold Supply.ok; omega)]; exact DLe.refl _) | (rw [decide_eq_false (by unfold Supply.ok; omega)]; exact DLe.refl _)

theorem classes_validRequest (s : Request) : CallP Try.prog 34 [.d s.d] (retD [.b (decide s.ok)]) := by
  refine exPure_sound (E := envOf Try.prog tt Try.f34.ntmps) (envOf_ok ttok mixed) Try.func34 (by rfl) rfl rfl (Nat.le_of_ble_eq_true rfl) ?_
  repeat' ((conv => whnf); first | with_reducible refine Dec.t (show true = true from rfl) ?_ | with_reducible refine Dec.t (show false = false from rfl) ?_ | with_reducible refine Dec.f (show ¬ (true = false) by decide) ?_ | with_reducible refine Dec.f (show ¬ (false = true) by decide) ?_ | refine Dec.t (by omega) ?_ | refine Dec.f (by omega) ?_ | refine Dec.split (fun _ => ?_) (fun _ => ?_) | refine Wr.id (by omega) ?_ | refine Chk.mk (by first | omega | exact rfl | (simp only [List.length_map]; omega) | (simp [room]; done) | (simp [room]; omega) | (simp [dropL, room]; done) | (simp [dropL, room]; omega)) ?_ | refine Nam.mk (List.length_map _) ?_ | refine Prep.skip ?_ | refine Eith.l ?_ | refine chk_t (x := D.flat _) (by assumption) ?_ | refine br_mk (fun _ => ?_) (fun _ => ?_) | refine ACall.ofB (classes_between _ _ _) (fun _ => ?_) (fun _ => ?_))
  all_goals (conv => whnf)
  all_goals try simp only [decide_eq_true_eq, decide_eq_false_iff_not] at *
  all_goals first | (rw [decide_eq_true (by unfold Request.ok; omega)]; exact DLe.refl _) | (rw [decide_eq_false (by unfold Request.ok; omega)]; exact DLe.refl _)

/-- May the item a be used for the item b? -/
def swapM (l : List Swap) (a b : Int) : Prop := (∃ x ∈ l, x.ano = a ∧ x.bno = b) ∨ a = b
instance (l : List Swap) (a b : Int) : Decidable (swapM l a b) := by unfold swapM; infer_instance

theorem eqPair (a b c d : Int) : eqD tt 4 115 [I a, I b] [I c, I d] = decide (a = c ∧ b = d) := by
  rw [show eqD tt 4 115 [I a, I b] [I c, I d] = (a == c && (b == d && true)) from rfl]
  rw [Bool.eq_iff_iff]
  simp

theorem classes_mayUse (w : AWorld) (a b : Int) (hl : w.swaps.length < 2 ^ 40) : CallP Try.prog 53 [.d w.d, .d (I a), .d (I b)] (retD [.b (decide (swapM w.swaps a b))]) := by
  refine exPure_sound (E := envOf Try.prog tt Try.f53.ntmps) (envOf_ok ttok mixed) Try.func53 (by rfl) rfl rfl (Nat.le_of_ble_eq_true rfl) ?_
  repeat' ((conv => whnf); first | with_reducible refine Dec.t (show true = true from rfl) ?_ | with_reducible refine Dec.t (show false = false from rfl) ?_ | with_reducible refine Dec.f (show ¬ (true = false) by decide) ?_ | with_reducible refine Dec.f (show ¬ (false = true) by decide) ?_ | refine Dec.t (by omega) ?_ | refine Dec.f (by omega) ?_ | refine Dec.split (fun _ => ?_) (fun _ => ?_) | refine Wr.id (by omega) ?_ | refine Chk.mk (by first | omega | exact rfl | (simp only [List.length_map]; omega) | (simp [room]; done) | (simp [room]; omega) | (simp [dropL, room]; done) | (simp [dropL, room]; omega)) ?_ | refine Nam.mk (List.length_map _) ?_ | refine Prep.skip ?_ | refine Eith.l ?_ | refine chk_t (x := D.flat _) (by assumption) ?_ | refine br_mk (fun _ => ?_) (fun _ => ?_))
  conv => whnf
  refine ALoop.at (E := envOf Try.prog tt Try.f53.ntmps) (envOf_ok ttok mixed) (X := Nat) (fun x => [(18, .d (I x))]) (fun _ => [])
    (fun x => x ≤ w.swaps.length ∧ (swapM (w.swaps.drop x) a b ↔ swapM w.swaps a b)) (fun x => w.swaps.length - x) 0 (by repeat (first | exact trivial | refine And.intro rfl ?_ | refine And.intro (congrArg (fun n => V.d (I n)) (wrap_nat _ (by omega))) ?_)) rfl ⟨Nat.zero_le _, Iff.rfl⟩ ?_
  rintro i ⟨hi, hm⟩
  by_cases hlt : i < w.swaps.length
  · obtain ⟨f, hx, hd⟩ := drop_get hlt
    rw [hd] at hm
    repeat' ((conv => whnf); first | with_reducible refine Dec.t (show true = true from rfl) ?_ | with_reducible refine Dec.t (show false = false from rfl) ?_ | with_reducible refine Dec.f (show ¬ (true = false) by decide) ?_ | with_reducible refine Dec.f (show ¬ (false = true) by decide) ?_ | refine Dec.t (by omega) ?_ | refine Dec.f (by omega) ?_ | refine Dec.split (fun _ => ?_) (fun _ => ?_) | refine Wr.id (by omega) ?_ | refine Chk.mk (by first | omega | exact rfl | (simp only [List.length_map]; omega) | (simp [room]; done) | (simp [room]; omega) | (simp [dropL, room]; done) | (simp [dropL, room]; omega)) ?_ | refine Nam.mk (List.length_map _) ?_ | refine Prep.skip ?_ | refine Eith.l ?_ | refine chk_t (x := D.flat _) (by assumption) ?_ | refine br_mk (fun _ => ?_) (fun _ => ?_) | refine nthK_mk (map_get hx) ?_ | refine Nam.dec (eqPair f.ano f.bno a b) (fun _ => ?_) (fun _ => ?_))
    all_goals (conv => whnf)
    · rename_i h
      rw [decide_eq_true (hm.1 (.inl ⟨f, .head _, h⟩))]; exact DLe.refl _
    · rename_i h
      refine ⟨i + 1, Wm.end (by repeat (first | exact trivial | refine And.intro rfl ?_ | refine And.intro (congrArg (fun n => V.d (I n)) (wrap_nat _ (by omega))) ?_)) rfl rfl rfl, ⟨hlt, ?_⟩, by omega⟩
      rw [← hm]
      unfold swapM
      simp [h]
  · have : i = w.swaps.length := by omega
    subst this
    rw [List.drop_length] at hm
    repeat' ((conv => whnf); first | with_reducible refine Dec.t (show true = true from rfl) ?_ | with_reducible refine Dec.t (show false = false from rfl) ?_ | with_reducible refine Dec.f (show ¬ (true = false) by decide) ?_ | with_reducible refine Dec.f (show ¬ (false = true) by decide) ?_ | refine Dec.t (by omega) ?_ | refine Dec.f (by omega) ?_ | refine Dec.split (fun _ => ?_) (fun _ => ?_) | refine Wr.id (by omega) ?_ | refine Chk.mk (by first | omega | exact rfl | (simp only [List.length_map]; omega) | (simp [room]; done) | (simp [room]; omega) | (simp [dropL, room]; done) | (simp [dropL, room]; omega)) ?_ | refine Nam.mk (List.length_map _) ?_ | refine Prep.skip ?_ | refine Eith.l ?_ | refine chk_t (x := D.flat _) (by assumption) ?_ | refine br_mk (fun _ => ?_) (fun _ => ?_))
    all_goals (conv => whnf)
    · rename_i h
      rw [decide_eq_true (hm.1 (.inr h))]; exact DLe.refl _
    · rename_i h
      rw [decide_eq_false (fun hh => by rcases hm.2 hh with ⟨x, hx, _⟩ | hh; cases hx; exact h hh)]; exact DLe.refl _

def couldM (w : AWorld) (s : Supply) (r : Request) : Prop := s.ready ≤ r.due ∧ r.due + r.shelf ≤ s.expiry ∧ swapM w.swaps s.item r.item
instance (w : AWorld) (s : Supply) (r : Request) : Decidable (couldM w s r) := by unfold couldM; infer_instance

theorem classes_couldFit (w : AWorld) (s : Supply) (r : Request) (hl : w.swaps.length < 2 ^ 40) (hr : r.ok) : CallP Try.prog 35 [.d w.d, .d s.d, .d r.d] (retD [.b (decide (couldM w s r))]) := by
  refine exPure_sound (E := envOf Try.prog tt Try.f35.ntmps) (envOf_ok ttok mixed) Try.func35 (by rfl) rfl rfl (Nat.le_of_ble_eq_true rfl) ?_
  have hr' := hr
  unfold Request.ok at hr'
  repeat' ((conv => whnf); first | with_reducible refine Dec.t (show true = true from rfl) ?_ | with_reducible refine Dec.t (show false = false from rfl) ?_ | with_reducible refine Dec.f (show ¬ (true = false) by decide) ?_ | with_reducible refine Dec.f (show ¬ (false = true) by decide) ?_ | refine Dec.t (by omega) ?_ | refine Dec.f (by omega) ?_ | refine Dec.split (fun _ => ?_) (fun _ => ?_) | refine Wr.id (by omega) ?_ | refine Chk.mk (by first | omega | exact rfl | (simp only [List.length_map]; omega) | (simp [room]; done) | (simp [room]; omega) | (simp [dropL, room]; done) | (simp [dropL, room]; omega)) ?_ | refine Nam.mk (List.length_map _) ?_ | refine Prep.skip ?_ | refine Eith.l ?_ | refine chk_t (x := D.flat _) (by assumption) ?_ | refine br_mk (fun _ => ?_) (fun _ => ?_) | refine ACall.ofB (classes_mayUse w _ _ hl) (fun _ => ?_) (fun _ => ?_))
  all_goals (conv => whnf)
  all_goals try simp only [decide_eq_true_eq, decide_eq_false_iff_not] at *
  all_goals first
    | (rw [decide_eq_true (show couldM w s r from ⟨by assumption, by assumption, by assumption⟩)]; exact DLe.refl _)
    | (rw [decide_eq_false (show ¬ couldM w s r by (rintro ⟨h1, h2, h3⟩; first | contradiction | omega))]; exact DLe.refl _)

def lookM (s : Supply) (r : Request) : Read := ⟨7, r.cust, s.item, r.due, r.due + 1⟩
theorem classes_look (s : Supply) (r : Request) (hr : r.ok) : CallP Try.prog 36 [.d s.d, .d r.d] (retD [(lookM s r).d]) := by
  refine exPure_sound (E := envOf Try.prog tt Try.f36.ntmps) (envOf_ok ttok mixed) Try.func36 (by rfl) rfl rfl (Nat.le_of_ble_eq_true rfl) ?_
  unfold Request.ok at hr
  repeat' ((conv => whnf); first | with_reducible refine Dec.t (show true = true from rfl) ?_ | with_reducible refine Dec.t (show false = false from rfl) ?_ | with_reducible refine Dec.f (show ¬ (true = false) by decide) ?_ | with_reducible refine Dec.f (show ¬ (false = true) by decide) ?_ | refine Dec.t (by omega) ?_ | refine Dec.f (by omega) ?_ | refine Dec.split (fun _ => ?_) (fun _ => ?_) | refine Wr.id (by omega) ?_ | refine Chk.mk (by first | omega | exact rfl | (simp only [List.length_map]; omega) | (simp [room]; done) | (simp [room]; omega) | (simp [dropL, room]; done) | (simp [dropL, room]; omega)) ?_ | refine Nam.mk (List.length_map _) ?_ | refine Prep.skip ?_ | refine Eith.l ?_ | refine chk_t (x := D.flat _) (by assumption) ?_ | refine br_mk (fun _ => ?_) (fun _ => ?_))
  all_goals (conv => whnf)
  exact DLe.refl _

def refusedM (w : AWorld) (x : Read) (known : Int) : Prop := atM w.facts x.key x.from_ known = some 1
instance (w : AWorld) (x : Read) (known : Int) : Decidable (refusedM w x known) := by unfold refusedM; infer_instance
theorem classes_refused (w : AWorld) (x : Read) (known : Int) (hl : w.facts.length < 2 ^ 40) : CallP Try.prog 37 [.d w.d, .d x.d, .d (I known)] (retD [.b (decide (refusedM w x known))]) := by
  refine exPure_sound (E := envOf Try.prog tt Try.f37.ntmps) (envOf_ok ttok mixed) Try.func37 (by rfl) rfl rfl (Nat.le_of_ble_eq_true rfl) ?_
  have hc := facts_At w.facts x.key x.from_ known hl
  cases h0 : atM w.facts x.key x.from_ known with
  | none =>
    rw [h0] at hc
    repeat' ((conv => whnf); first | with_reducible refine Dec.t (show true = true from rfl) ?_ | with_reducible refine Dec.t (show false = false from rfl) ?_ | with_reducible refine Dec.f (show ¬ (true = false) by decide) ?_ | with_reducible refine Dec.f (show ¬ (false = true) by decide) ?_ | refine Dec.t (by omega) ?_ | refine Dec.f (by omega) ?_ | refine Dec.split (fun _ => ?_) (fun _ => ?_) | refine Wr.id (by omega) ?_ | refine Chk.mk (by first | omega | exact rfl | (simp only [List.length_map]; omega) | (simp [room]; done) | (simp [room]; omega) | (simp [dropL, room]; done) | (simp [dropL, room]; omega)) ?_ | refine Nam.mk (List.length_map _) ?_ | refine Prep.skip ?_ | refine Eith.l ?_ | refine chk_t (x := D.flat _) (by assumption) ?_ | refine br_mk (fun _ => ?_) (fun _ => ?_) | refine ACall.of hc ?_)
    all_goals (conv => whnf)
    rw [decide_eq_false (by unfold refusedM; rw [h0]; simp)]; exact DLe.refl _
  | some n =>
    rw [h0] at hc
    repeat' ((conv => whnf); first | with_reducible refine Dec.t (show true = true from rfl) ?_ | with_reducible refine Dec.t (show false = false from rfl) ?_ | with_reducible refine Dec.f (show ¬ (true = false) by decide) ?_ | with_reducible refine Dec.f (show ¬ (false = true) by decide) ?_ | refine Dec.t (by omega) ?_ | refine Dec.f (by omega) ?_ | refine Dec.split (fun _ => ?_) (fun _ => ?_) | refine Wr.id (by omega) ?_ | refine Chk.mk (by first | omega | exact rfl | (simp only [List.length_map]; omega) | (simp [room]; done) | (simp [room]; omega) | (simp [dropL, room]; done) | (simp [dropL, room]; omega)) ?_ | refine Nam.mk (List.length_map _) ?_ | refine Prep.skip ?_ | refine Eith.l ?_ | refine chk_t (x := D.flat _) (by assumption) ?_ | refine br_mk (fun _ => ?_) (fun _ => ?_) | refine ACall.of hc ?_)
    all_goals (conv => whnf)
    all_goals (rename_i h)
    · have h : n = 1 := h
      rw [decide_eq_true (by unfold refusedM; rw [h0, h])]; exact DLe.refl _
    · have h : ¬ n = 1 := h
      rw [decide_eq_false (by unfold refusedM; rw [h0]; simpa using h)]; exact DLe.refl _

def fitsM (w : AWorld) (s : Supply) (r : Request) (known : Int) : Bool × List Read :=
  if s.ok ∧ r.ok ∧ couldM w s r then (!decide (refusedM w (lookM s r) known), [lookM s r]) else (false, [])
theorem classes_Fits (w : AWorld) (s : Supply) (r : Request) (known : Int) (hl : w.swaps.length < 2 ^ 40) (hf : w.facts.length < 2 ^ 40) : CallP Try.prog 16 [.d w.d, .d s.d, .d r.d, .d (I known)] (retD [.b (fitsM w s r known).1, SL 5 ((fitsM w s r known).2.map Read.d)]) := by
  refine exPure_sound (E := envOf Try.prog tt Try.f16.ntmps) (envOf_ok ttok mixed) Try.func16 (by rfl) rfl rfl (Nat.le_of_ble_eq_true rfl) ?_
  unfold fitsM
  by_cases hs : s.ok
  · by_cases hr : r.ok
    · repeat' ((conv => whnf); first | with_reducible refine Dec.t (show true = true from rfl) ?_ | with_reducible refine Dec.t (show false = false from rfl) ?_ | with_reducible refine Dec.f (show ¬ (true = false) by decide) ?_ | with_reducible refine Dec.f (show ¬ (false = true) by decide) ?_ | refine Dec.t (by omega) ?_ | refine Dec.f (by omega) ?_ | refine Dec.split (fun _ => ?_) (fun _ => ?_) | refine Wr.id (by omega) ?_ | refine Chk.mk (by first | omega | exact rfl | (simp only [List.length_map]; omega) | (simp [room]; done) | (simp [room]; omega) | (simp [dropL, room]; done) | (simp [dropL, room]; omega)) ?_ | refine Nam.mk (List.length_map _) ?_ | refine Prep.skip ?_ | refine Eith.l ?_ | refine chk_t (x := D.flat _) (by assumption) ?_ | refine br_mk (fun _ => ?_) (fun _ => ?_) | refine ACall.ofB (classes_validSupply s) (fun _ => ?_) (fun _ => ?_) | refine ACall.ofB (classes_validRequest r) (fun _ => ?_) (fun _ => ?_) | refine ACall.ofB (classes_couldFit w s r hl hr) (fun _ => ?_) (fun _ => ?_) | refine ACall.of (classes_look s r hr) ?_ | refine APCall.ofB (classes_refused w (lookM s r) known hf) (fun _ => ?_) (fun _ => ?_))
      all_goals (conv => whnf)
      all_goals try simp only [decide_eq_true_eq, decide_eq_false_iff_not] at *
      all_goals first
        | (rw [if_pos ⟨by assumption, by assumption, by assumption⟩]; first | (rw [decide_eq_true (by assumption)]; exact (by repeat (first | exact trivial | exact rfl | exact DLe.refl _ | exact DLe.full _ _ _ | exact DLe.nil _ _ _ | exact VLe.refl _ | refine And.intro ?_ ?_ | refine VLe.d ?_ | refine DLe.agg ?_))) | (rw [decide_eq_false (by assumption)]; exact (by repeat (first | exact trivial | exact rfl | exact DLe.refl _ | exact DLe.full _ _ _ | exact DLe.nil _ _ _ | exact VLe.refl _ | refine And.intro ?_ ?_ | refine VLe.d ?_ | refine DLe.agg ?_))))
        | (rw [if_neg (fun h => by first | exact absurd h.1 (by assumption) | exact absurd h.2.1 (by assumption) | exact absurd h.2.2 (by assumption))]; exact (by repeat (first | exact trivial | exact rfl | exact DLe.refl _ | exact DLe.full _ _ _ | exact DLe.nil _ _ _ | exact VLe.refl _ | refine And.intro ?_ ?_ | refine VLe.d ?_ | refine DLe.agg ?_)))
    · rw [if_neg (fun h => hr h.2.1)]
      repeat' ((conv => whnf); first | with_reducible refine Dec.t (show true = true from rfl) ?_ | with_reducible refine Dec.t (show false = false from rfl) ?_ | with_reducible refine Dec.f (show ¬ (true = false) by decide) ?_ | with_reducible refine Dec.f (show ¬ (false = true) by decide) ?_ | refine Dec.t (by omega) ?_ | refine Dec.f (by omega) ?_ | refine Dec.split (fun _ => ?_) (fun _ => ?_) | refine Wr.id (by omega) ?_ | refine Chk.mk (by first | omega | exact rfl | (simp only [List.length_map]; omega) | (simp [room]; done) | (simp [room]; omega) | (simp [dropL, room]; done) | (simp [dropL, room]; omega)) ?_ | refine Nam.mk (List.length_map _) ?_ | refine Prep.skip ?_ | refine Eith.l ?_ | refine chk_t (x := D.flat _) (by assumption) ?_ | refine br_mk (fun _ => ?_) (fun _ => ?_) | refine ACall.ofB (classes_validSupply s) (fun _ => ?_) (fun _ => ?_) | refine ACall.ofB (classes_validRequest r) (fun h => absurd (of_decide_eq_true h) hr) (fun _ => ?_))
      all_goals (conv => whnf)
      all_goals exact (by repeat (first | exact trivial | exact rfl | exact DLe.refl _ | exact DLe.full _ _ _ | exact DLe.nil _ _ _ | exact VLe.refl _ | refine And.intro ?_ ?_ | refine VLe.d ?_ | refine DLe.agg ?_))
  · rw [if_neg (fun h => hs h.1)]
    repeat' ((conv => whnf); first | with_reducible refine Dec.t (show true = true from rfl) ?_ | with_reducible refine Dec.t (show false = false from rfl) ?_ | with_reducible refine Dec.f (show ¬ (true = false) by decide) ?_ | with_reducible refine Dec.f (show ¬ (false = true) by decide) ?_ | refine Dec.t (by omega) ?_ | refine Dec.f (by omega) ?_ | refine Dec.split (fun _ => ?_) (fun _ => ?_) | refine Wr.id (by omega) ?_ | refine Chk.mk (by first | omega | exact rfl | (simp only [List.length_map]; omega) | (simp [room]; done) | (simp [room]; omega) | (simp [dropL, room]; done) | (simp [dropL, room]; omega)) ?_ | refine Nam.mk (List.length_map _) ?_ | refine Prep.skip ?_ | refine Eith.l ?_ | refine chk_t (x := D.flat _) (by assumption) ?_ | refine br_mk (fun _ => ?_) (fun _ => ?_) | refine ACall.ofB (classes_validSupply s) (fun h => absurd (of_decide_eq_true h) hs) (fun _ => ?_))
    all_goals (conv => whnf)
    all_goals exact (by repeat (first | exact trivial | exact rfl | exact DLe.refl _ | exact DLe.full _ _ _ | exact DLe.nil _ _ _ | exact VLe.refl _ | refine And.intro ?_ ?_ | refine VLe.d ?_ | refine DLe.agg ?_))
end Go.PM

