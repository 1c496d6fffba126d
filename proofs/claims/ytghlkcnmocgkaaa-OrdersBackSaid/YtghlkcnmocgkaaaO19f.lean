/- Package orders: what a right order is. -/
import Derived.Test.YtghlkcnmocgkaaaO19e
namespace Go.PM
open Go.Proofs
set_option maxRecDepth 10000
set_option maxHeartbeats 4000000

structure OWorld where
  src : Src
  u9 : D
  u10 : D
  facts : List Fact
def OWorld.d (w : OWorld) : D := .agg [w.src.u1, SL 6 w.src.items, SL 1 w.src.plants, w.src.u4, SL 2 (w.src.opts.map Opt.d), SL 1 (w.src.forbids.map condsD), w.src.u7, w.src.u8, w.u9, w.u10, SL 8 (w.facts.map Fact.d)]

structure Ord where
  no : Int
  item : Int
  plant : Int
  config : Int
  amount : Int
  due : Int
  cust : Int
  shelf : Int
  deriving DecidableEq
def Ord.d (o : Ord) : D := .agg [I o.no, I o.item, I o.plant, I o.config, I o.amount, I o.due, I o.cust, I o.shelf]
def Ord.zero : Ord := ⟨0, 0, 0, 0, 0, 0, 0, 0⟩
structure Opn where
  no : Int
  item : Int
  plant : Int
  config : Int
  amount : Int
  day : Int
  deriving DecidableEq
def Opn.d (o : Opn) : D := .agg [I o.no, I o.item, I o.plant, I o.config, I o.amount, I o.day]
def Opn.zero : Opn := ⟨0, 0, 0, 0, 0, 0⟩

abbrev lineM (s : Src) (item plant config amount : Int) : Prop := (0 ≤ item ∧ item < s.items.length) ∧ (0 ≤ plant ∧ plant < s.plants.length) ∧ 1 ≤ amount ∧ (configM s config).isSome = true
abbrev dayM (d : Int) : Prop := 0 ≤ d ∧ d < 1024
abbrev Ord.right (s : Src) (o : Ord) : Prop := lineM s o.item o.plant o.config o.amount ∧ dayM o.due ∧ (0 ≤ o.cust ∧ o.cust ≤ 4095) ∧ dayM o.shelf
abbrev Opn.right (s : Src) (o : Opn) : Prop := lineM s o.item o.plant o.config o.amount ∧ dayM o.day

def Src.wide (s : Src) : Prop := s.items.length < 9223372036854775808 ∧ s.plants.length < 9223372036854775808

theorem orders_between (n lo hi : Int) : CallP Try.prog 27 [.d (I n), .d (I lo), .d (I hi)] (retD [.b (decide (lo ≤ n ∧ n ≤ hi))]) := by
  refine exPure_sound (E := envOf Try.prog tt Try.f27.ntmps) (envOf_ok ttok mixed) Try.func27 (by rfl) rfl rfl (Nat.le_of_ble_eq_true rfl) ?_
  repeat' ((conv => whnf); first | with_reducible refine Dec.t (show true = true from rfl) ?_ | with_reducible refine Dec.t (show false = false from rfl) ?_ | with_reducible refine Dec.f (show ¬ (true = false) by decide) ?_ | with_reducible refine Dec.f (show ¬ (false = true) by decide) ?_ | refine Dec.t (by omega) ?_ | refine Dec.f (by omega) ?_ | refine Dec.split (fun _ => ?_) (fun _ => ?_) | refine Wr.id (by omega) ?_ | refine Chk.mk (by first | omega | exact rfl | (simp only [List.length_map]; omega) | (simp [room]; done) | (simp [room]; omega) | (simp [dropL, room]; done) | (simp [dropL, room]; omega)) ?_ | refine Nam.mk (List.length_map _) ?_ | refine Prep.skip ?_ | refine Eith.l ?_ | refine chk_t (x := D.flat _) (by assumption) ?_ | refine br_mk (fun _ => ?_) (fun _ => ?_) | fail)
  all_goals (conv => whnf)
  all_goals first | (rw [decide_eq_true (by omega)]; exact DLe.refl _) | (rw [decide_eq_false (by omega)]; exact DLe.refl _)
theorem ref19_Day (n : Int) : CallP Try.prog 31 [.d (I n)] (retD [.b (decide (dayM n))]) := by
  refine exPure_sound (E := envOf Try.prog tt Try.f31.ntmps) (envOf_ok ttok mixed) Try.func31 (by rfl) rfl rfl (Nat.le_of_ble_eq_true rfl) ?_
  repeat' ((conv => whnf); first | with_reducible refine Dec.t (show true = true from rfl) ?_ | with_reducible refine Dec.t (show false = false from rfl) ?_ | with_reducible refine Dec.f (show ¬ (true = false) by decide) ?_ | with_reducible refine Dec.f (show ¬ (false = true) by decide) ?_ | refine Dec.t (by omega) ?_ | refine Dec.f (by omega) ?_ | refine Dec.split (fun _ => ?_) (fun _ => ?_) | refine Wr.id (by omega) ?_ | refine Chk.mk (by first | omega | exact rfl | (simp only [List.length_map]; omega) | (simp [room]; done) | (simp [room]; omega) | (simp [dropL, room]; done) | (simp [dropL, room]; omega)) ?_ | refine Nam.mk (List.length_map _) ?_ | refine Prep.skip ?_ | refine Eith.l ?_ | refine chk_t (x := D.flat _) (by assumption) ?_ | refine br_mk (fun _ => ?_) (fun _ => ?_) | fail)
  all_goals (conv => whnf)
  all_goals first | (rw [decide_eq_true (by omega)]; exact DLe.refl _) | (rw [decide_eq_false (by omega)]; exact DLe.refl _)

theorem opt_cases {α : Type} (o : Option α) : o = none ∨ ∃ x, o = some x := by cases o <;> simp

theorem orders_fits (s : Src) (item plant config amount : Int) (hf : s.few) (hw : s.wide) (hN : config < 9223372036854775808) :
    CallP Try.prog 59 [.d s.d, .d (I item), .d (I plant), .d (I config), .d (I amount)] (retD [.b (decide (lineM s item plant config amount))]) := by
  obtain ⟨hw1, hw2⟩ := hw
  have hc := options_Config s config hf hN
  refine exPure_sound (E := envOf Try.prog tt Try.f59.ntmps) (envOf_ok ttok mixed) Try.func59 (by rfl) rfl rfl (Nat.le_of_ble_eq_true rfl) ?_
  by_cases h : (0 ≤ item ∧ item ≤ (s.items.length : Int) - 1) ∧ (0 ≤ plant ∧ plant ≤ (s.plants.length : Int) - 1) ∧ 1 ≤ amount
  · obtain ⟨h1, h2, h3⟩ := h
    rcases opt_cases (configM s config) with hq | ⟨c, hq⟩
    · rw [hq] at hc
      rw [decide_eq_false (fun h => by have := h.2.2.2; rw [hq] at this; cases this)]
      repeat' ((conv => whnf); first | with_reducible refine Dec.t (show true = true from rfl) ?_ | with_reducible refine Dec.t (show false = false from rfl) ?_ | with_reducible refine Dec.f (show ¬ (true = false) by decide) ?_ | with_reducible refine Dec.f (show ¬ (false = true) by decide) ?_ | refine Dec.t (by omega) ?_ | refine Dec.f (by omega) ?_ | refine Dec.split (fun _ => ?_) (fun _ => ?_) | refine Wr.id (by omega) ?_ | refine Chk.mk (by first | omega | exact rfl | (simp only [List.length_map]; omega) | (simp [room]; done) | (simp [room]; omega) | (simp [dropL, room]; done) | (simp [dropL, room]; omega)) ?_ | refine Nam.mk (List.length_map _) ?_ | refine Prep.skip ?_ | refine Eith.l ?_ | refine chk_t (x := D.flat _) (by assumption) ?_ | refine br_mk (fun _ => ?_) (fun _ => ?_) | refine Nam.mk rfl ?_ | refine ACall.ofB (orders_between item 0 _) (fun _ => ?_) (fun h => absurd h1 (of_decide_eq_false h)) | refine ACall.ofB (orders_between plant 0 _) (fun _ => ?_) (fun h => absurd h2 (of_decide_eq_false h)) | refine ACall.of (hc) ?_ | refine APCall.of (hc) ?_ | fail)
      all_goals (conv => whnf)
      all_goals exact (by repeat (first | exact trivial | exact rfl | exact DLe.refl _ | exact DLe.full _ _ _ | exact DLe.nil _ _ _ | exact VLe.refl _ | refine And.intro ?_ ?_ | refine VLe.d ?_ | refine DLe.agg ?_))
    · rw [hq] at hc
      rw [decide_eq_true ⟨⟨h1.1, by omega⟩, ⟨h2.1, by omega⟩, h3, by rw [hq]; rfl⟩]
      repeat' ((conv => whnf); first | with_reducible refine Dec.t (show true = true from rfl) ?_ | with_reducible refine Dec.t (show false = false from rfl) ?_ | with_reducible refine Dec.f (show ¬ (true = false) by decide) ?_ | with_reducible refine Dec.f (show ¬ (false = true) by decide) ?_ | refine Dec.t (by omega) ?_ | refine Dec.f (by omega) ?_ | refine Dec.split (fun _ => ?_) (fun _ => ?_) | refine Wr.id (by omega) ?_ | refine Chk.mk (by first | omega | exact rfl | (simp only [List.length_map]; omega) | (simp [room]; done) | (simp [room]; omega) | (simp [dropL, room]; done) | (simp [dropL, room]; omega)) ?_ | refine Nam.mk (List.length_map _) ?_ | refine Prep.skip ?_ | refine Eith.l ?_ | refine chk_t (x := D.flat _) (by assumption) ?_ | refine br_mk (fun _ => ?_) (fun _ => ?_) | refine Nam.mk rfl ?_ | refine ACall.ofB (orders_between item 0 _) (fun _ => ?_) (fun h => absurd h1 (of_decide_eq_false h)) | refine ACall.ofB (orders_between plant 0 _) (fun _ => ?_) (fun h => absurd h2 (of_decide_eq_false h)) | refine ACall.of (hc) ?_ | refine APCall.of (hc) ?_ | fail)
      all_goals (conv => whnf)
      all_goals exact (by repeat (first | exact trivial | exact rfl | exact DLe.refl _ | exact DLe.full _ _ _ | exact DLe.nil _ _ _ | exact VLe.refl _ | refine And.intro ?_ ?_ | refine VLe.d ?_ | refine DLe.agg ?_))
  · rw [decide_eq_false (fun g => h ⟨⟨g.1.1, by omega⟩, ⟨g.2.1.1, by omega⟩, g.2.2.1⟩)]
    repeat' ((conv => whnf); first | with_reducible refine Dec.t (show true = true from rfl) ?_ | with_reducible refine Dec.t (show false = false from rfl) ?_ | with_reducible refine Dec.f (show ¬ (true = false) by decide) ?_ | with_reducible refine Dec.f (show ¬ (false = true) by decide) ?_ | refine Dec.t (by omega) ?_ | refine Dec.f (by omega) ?_ | refine Dec.split (fun _ => ?_) (fun _ => ?_) | refine Wr.id (by omega) ?_ | refine Chk.mk (by first | omega | exact rfl | (simp only [List.length_map]; omega) | (simp [room]; done) | (simp [room]; omega) | (simp [dropL, room]; done) | (simp [dropL, room]; omega)) ?_ | refine Nam.mk (List.length_map _) ?_ | refine Prep.skip ?_ | refine Eith.l ?_ | refine chk_t (x := D.flat _) (by assumption) ?_ | refine br_mk (fun _ => ?_) (fun _ => ?_) | refine Nam.mk rfl ?_ | refine ACall.ofB (orders_between _ _ _) (fun _ => ?_) (fun _ => ?_) | refine APCall.ofB (orders_between _ _ _) (fun _ => ?_) (fun _ => ?_) | fail)
    all_goals (conv => whnf)
    all_goals try simp only [decide_eq_true_eq, decide_eq_false_iff_not] at *
    all_goals first
      | (exfalso; exact h ⟨by assumption, by assumption, by omega⟩)
      | exact (by repeat (first | exact trivial | exact rfl | exact DLe.refl _ | exact DLe.full _ _ _ | exact DLe.nil _ _ _ | exact VLe.refl _ | refine And.intro ?_ ?_ | refine VLe.d ?_ | refine DLe.agg ?_))
      | trace_state

theorem ref19_line (s : Src) (item plant config amount : Int) (hf : s.few) (hw : s.wide) :
    CallP Try.prog 39 [.d s.d, .d (I item), .d (I plant), .d (I config), .d (I amount)] (retD [.b (decide (lineM s item plant config amount))]) := by
  obtain ⟨hw1, hw2⟩ := hw
  have hc := ref13_Config s config hf
  refine exPure_sound (E := envOf Try.prog tt Try.f39.ntmps) (envOf_ok ttok mixed) Try.func39 (by rfl) rfl rfl (Nat.le_of_ble_eq_true rfl) ?_
  rcases opt_cases (configM s config) with hq | ⟨c, hq⟩
  · rw [hq] at hc
    rw [decide_eq_false (fun h => by have := h.2.2.2; rw [hq] at this; cases this)]
    repeat' ((conv => whnf); first | with_reducible refine Dec.t (show true = true from rfl) ?_ | with_reducible refine Dec.t (show false = false from rfl) ?_ | with_reducible refine Dec.f (show ¬ (true = false) by decide) ?_ | with_reducible refine Dec.f (show ¬ (false = true) by decide) ?_ | refine Dec.t (by omega) ?_ | refine Dec.f (by omega) ?_ | refine Dec.split (fun _ => ?_) (fun _ => ?_) | refine Wr.id (by omega) ?_ | refine Chk.mk (by first | omega | exact rfl | (simp only [List.length_map]; omega) | (simp [room]; done) | (simp [room]; omega) | (simp [dropL, room]; done) | (simp [dropL, room]; omega)) ?_ | refine Nam.mk (List.length_map _) ?_ | refine Prep.skip ?_ | refine Eith.l ?_ | refine chk_t (x := D.flat _) (by assumption) ?_ | refine br_mk (fun _ => ?_) (fun _ => ?_) | refine Nam.mk rfl ?_ | refine ACall.of (hc) ?_ | refine APCall.of (hc) ?_ | fail)
    all_goals (conv => whnf)
    all_goals exact (by repeat (first | exact trivial | exact rfl | exact DLe.refl _ | exact DLe.full _ _ _ | exact DLe.nil _ _ _ | exact VLe.refl _ | refine And.intro ?_ ?_ | refine VLe.d ?_ | refine DLe.agg ?_))
  · rw [hq] at hc
    repeat' ((conv => whnf); first | with_reducible refine Dec.t (show true = true from rfl) ?_ | with_reducible refine Dec.t (show false = false from rfl) ?_ | with_reducible refine Dec.f (show ¬ (true = false) by decide) ?_ | with_reducible refine Dec.f (show ¬ (false = true) by decide) ?_ | refine Dec.t (by omega) ?_ | refine Dec.f (by omega) ?_ | refine Dec.split (fun _ => ?_) (fun _ => ?_) | refine Wr.id (by omega) ?_ | refine Chk.mk (by first | omega | exact rfl | (simp only [List.length_map]; omega) | (simp [room]; done) | (simp [room]; omega) | (simp [dropL, room]; done) | (simp [dropL, room]; omega)) ?_ | refine Nam.mk (List.length_map _) ?_ | refine Prep.skip ?_ | refine Eith.l ?_ | refine chk_t (x := D.flat _) (by assumption) ?_ | refine br_mk (fun _ => ?_) (fun _ => ?_) | refine Nam.mk rfl ?_ | refine ACall.of (hc) ?_ | refine APCall.of (hc) ?_ | fail)
    all_goals (conv => whnf)
    all_goals first
      | (rw [decide_eq_true ⟨⟨by omega, by omega⟩, ⟨by omega, by omega⟩, by omega, by rw [hq]; rfl⟩]; exact (by repeat (first | exact trivial | exact rfl | exact DLe.refl _ | exact DLe.full _ _ _ | exact DLe.nil _ _ _ | exact VLe.refl _ | refine And.intro ?_ ?_ | refine VLe.d ?_ | refine DLe.agg ?_)))
      | (rw [decide_eq_false (fun h => by have := h.1; have := h.2.1; have := h.2.2.1; omega)]; exact (by repeat (first | exact trivial | exact rfl | exact DLe.refl _ | exact DLe.full _ _ _ | exact DLe.nil _ _ _ | exact VLe.refl _ | refine And.intro ?_ ?_ | refine VLe.d ?_ | refine DLe.agg ?_)))
      | trace_state

theorem orders_right (s : Src) (o : Ord) (hf : s.few) (hw : s.wide) (hN : o.config < 9223372036854775808) : CallP Try.prog 58 [.d s.d, .d o.d] (retD [.b (decide (o.right s))]) := by
  refine exPure_sound (E := envOf Try.prog tt Try.f58.ntmps) (envOf_ok ttok mixed) Try.func58 (by rfl) rfl rfl (Nat.le_of_ble_eq_true rfl) ?_
  repeat' ((conv => whnf); first | with_reducible refine Dec.t (show true = true from rfl) ?_ | with_reducible refine Dec.t (show false = false from rfl) ?_ | with_reducible refine Dec.f (show ¬ (true = false) by decide) ?_ | with_reducible refine Dec.f (show ¬ (false = true) by decide) ?_ | refine Dec.t (by omega) ?_ | refine Dec.f (by omega) ?_ | refine Dec.split (fun _ => ?_) (fun _ => ?_) | refine Wr.id (by omega) ?_ | refine Chk.mk (by first | omega | exact rfl | (simp only [List.length_map]; omega) | (simp [room]; done) | (simp [room]; omega) | (simp [dropL, room]; done) | (simp [dropL, room]; omega)) ?_ | refine Nam.mk (List.length_map _) ?_ | refine Prep.skip ?_ | refine Eith.l ?_ | refine chk_t (x := D.flat _) (by assumption) ?_ | refine br_mk (fun _ => ?_) (fun _ => ?_) | refine ACall.ofB (orders_fits s _ _ _ _ hf hw hN) (fun _ => ?_) (fun _ => ?_) | refine APCall.ofB (orders_fits s _ _ _ _ hf hw hN) (fun _ => ?_) (fun _ => ?_) | refine ACall.ofB (orders_between _ _ _) (fun _ => ?_) (fun _ => ?_) | refine APCall.ofB (orders_between _ _ _) (fun _ => ?_) (fun _ => ?_) | fail)
  all_goals (conv => whnf)
  all_goals try simp only [decide_eq_true_eq, decide_eq_false_iff_not] at *
  all_goals first
    | (rw [decide_eq_true ⟨by assumption, by omega, by omega, by omega⟩]; exact (by repeat (first | exact trivial | exact rfl | exact DLe.refl _ | exact DLe.full _ _ _ | exact DLe.nil _ _ _ | exact VLe.refl _ | refine And.intro ?_ ?_ | refine VLe.d ?_ | refine DLe.agg ?_)))
    | (rw [decide_eq_false (fun h => absurd h.1 (by assumption))]; exact (by repeat (first | exact trivial | exact rfl | exact DLe.refl _ | exact DLe.full _ _ _ | exact DLe.nil _ _ _ | exact VLe.refl _ | refine And.intro ?_ ?_ | refine VLe.d ?_ | refine DLe.agg ?_)))
    | (rw [decide_eq_false (fun h => by have := h.2; omega)]; exact (by repeat (first | exact trivial | exact rfl | exact DLe.refl _ | exact DLe.full _ _ _ | exact DLe.nil _ _ _ | exact VLe.refl _ | refine And.intro ?_ ?_ | refine VLe.d ?_ | refine DLe.agg ?_)))
    | trace_state
theorem orders_openRight (s : Src) (o : Opn) (hf : s.few) (hw : s.wide) (hN : o.config < 9223372036854775808) : CallP Try.prog 70 [.d s.d, .d o.d] (retD [.b (decide (o.right s))]) := by
  refine exPure_sound (E := envOf Try.prog tt Try.f70.ntmps) (envOf_ok ttok mixed) Try.func70 (by rfl) rfl rfl (Nat.le_of_ble_eq_true rfl) ?_
  repeat' ((conv => whnf); first | with_reducible refine Dec.t (show true = true from rfl) ?_ | with_reducible refine Dec.t (show false = false from rfl) ?_ | with_reducible refine Dec.f (show ¬ (true = false) by decide) ?_ | with_reducible refine Dec.f (show ¬ (false = true) by decide) ?_ | refine Dec.t (by omega) ?_ | refine Dec.f (by omega) ?_ | refine Dec.split (fun _ => ?_) (fun _ => ?_) | refine Wr.id (by omega) ?_ | refine Chk.mk (by first | omega | exact rfl | (simp only [List.length_map]; omega) | (simp [room]; done) | (simp [room]; omega) | (simp [dropL, room]; done) | (simp [dropL, room]; omega)) ?_ | refine Nam.mk (List.length_map _) ?_ | refine Prep.skip ?_ | refine Eith.l ?_ | refine chk_t (x := D.flat _) (by assumption) ?_ | refine br_mk (fun _ => ?_) (fun _ => ?_) | refine ACall.ofB (orders_fits s _ _ _ _ hf hw hN) (fun _ => ?_) (fun _ => ?_) | refine APCall.ofB (orders_fits s _ _ _ _ hf hw hN) (fun _ => ?_) (fun _ => ?_) | refine ACall.ofB (orders_between _ _ _) (fun _ => ?_) (fun _ => ?_) | refine APCall.ofB (orders_between _ _ _) (fun _ => ?_) (fun _ => ?_) | fail)
  all_goals (conv => whnf)
  all_goals try simp only [decide_eq_true_eq, decide_eq_false_iff_not] at *
  all_goals first
    | (rw [decide_eq_true ⟨by assumption, by omega⟩]; exact (by repeat (first | exact trivial | exact rfl | exact DLe.refl _ | exact DLe.full _ _ _ | exact DLe.nil _ _ _ | exact VLe.refl _ | refine And.intro ?_ ?_ | refine VLe.d ?_ | refine DLe.agg ?_)))
    | (rw [decide_eq_false (fun h => absurd h.1 (by assumption))]; exact (by repeat (first | exact trivial | exact rfl | exact DLe.refl _ | exact DLe.full _ _ _ | exact DLe.nil _ _ _ | exact VLe.refl _ | refine And.intro ?_ ?_ | refine VLe.d ?_ | refine DLe.agg ?_)))
    | (rw [decide_eq_false (fun h => by have := h.2; omega)]; exact (by repeat (first | exact trivial | exact rfl | exact DLe.refl _ | exact DLe.full _ _ _ | exact DLe.nil _ _ _ | exact VLe.refl _ | refine And.intro ?_ ?_ | refine VLe.d ?_ | refine DLe.agg ?_)))
    | trace_state
theorem ref19_Right (s : Src) (o : Ord) (hf : s.few) (hw : s.wide) : CallP Try.prog 43 [.d s.d, .d o.d] (retD [.b (decide (o.right s))]) := by
  refine exPure_sound (E := envOf Try.prog tt Try.f43.ntmps) (envOf_ok ttok mixed) Try.func43 (by rfl) rfl rfl (Nat.le_of_ble_eq_true rfl) ?_
  repeat' ((conv => whnf); first | with_reducible refine Dec.t (show true = true from rfl) ?_ | with_reducible refine Dec.t (show false = false from rfl) ?_ | with_reducible refine Dec.f (show ¬ (true = false) by decide) ?_ | with_reducible refine Dec.f (show ¬ (false = true) by decide) ?_ | refine Dec.t (by omega) ?_ | refine Dec.f (by omega) ?_ | refine Dec.split (fun _ => ?_) (fun _ => ?_) | refine Wr.id (by omega) ?_ | refine Chk.mk (by first | omega | exact rfl | (simp only [List.length_map]; omega) | (simp [room]; done) | (simp [room]; omega) | (simp [dropL, room]; done) | (simp [dropL, room]; omega)) ?_ | refine Nam.mk (List.length_map _) ?_ | refine Prep.skip ?_ | refine Eith.l ?_ | refine chk_t (x := D.flat _) (by assumption) ?_ | refine br_mk (fun _ => ?_) (fun _ => ?_) | refine ACall.ofB (ref19_line s _ _ _ _ hf hw) (fun _ => ?_) (fun _ => ?_) | refine APCall.ofB (ref19_line s _ _ _ _ hf hw) (fun _ => ?_) (fun _ => ?_) | refine ACall.ofB (ref19_Day _) (fun _ => ?_) (fun _ => ?_) | refine APCall.ofB (ref19_Day _) (fun _ => ?_) (fun _ => ?_) | fail)
  all_goals (conv => whnf)
  all_goals try simp only [decide_eq_true_eq, decide_eq_false_iff_not] at *
  all_goals first
    | (rw [decide_eq_true ⟨by assumption, by assumption, by omega, by assumption⟩]; exact (by repeat (first | exact trivial | exact rfl | exact DLe.refl _ | exact DLe.full _ _ _ | exact DLe.nil _ _ _ | exact VLe.refl _ | refine And.intro ?_ ?_ | refine VLe.d ?_ | refine DLe.agg ?_)))
    | (rw [decide_eq_false (fun h => absurd h.1 (by assumption))]; exact (by repeat (first | exact trivial | exact rfl | exact DLe.refl _ | exact DLe.full _ _ _ | exact DLe.nil _ _ _ | exact VLe.refl _ | refine And.intro ?_ ?_ | refine VLe.d ?_ | refine DLe.agg ?_)))
    | (rw [decide_eq_false (fun h => absurd h.2.1 (by assumption))]; exact (by repeat (first | exact trivial | exact rfl | exact DLe.refl _ | exact DLe.full _ _ _ | exact DLe.nil _ _ _ | exact VLe.refl _ | refine And.intro ?_ ?_ | refine VLe.d ?_ | refine DLe.agg ?_)))
    | (rw [decide_eq_false (fun h => absurd h.2.2.2 (by assumption))]; exact (by repeat (first | exact trivial | exact rfl | exact DLe.refl _ | exact DLe.full _ _ _ | exact DLe.nil _ _ _ | exact VLe.refl _ | refine And.intro ?_ ?_ | refine VLe.d ?_ | refine DLe.agg ?_)))
    | (rw [decide_eq_false (fun h => by have := h.2.2.1; omega)]; exact (by repeat (first | exact trivial | exact rfl | exact DLe.refl _ | exact DLe.full _ _ _ | exact DLe.nil _ _ _ | exact VLe.refl _ | refine And.intro ?_ ?_ | refine VLe.d ?_ | refine DLe.agg ?_)))
    | trace_state
end Go.PM

