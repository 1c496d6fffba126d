/- Package facts and its reference: Check, Add and what they lean on. -/
import Derived.Test.YtbgdpjhgdboigaaFacts
namespace Go.PM
open Go.Proofs
set_option maxRecDepth 10000

def Fact.ok (f : Fact) : Prop := (0 ≤ f.kind ∧ f.kind ≤ 15) ∧ (0 ≤ f.subj ∧ f.subj ≤ 4095) ∧ (0 ≤ f.obj ∧ f.obj ≤ 1023) ∧ (-1 ≤ f.value ∧ f.value ≤ 1048576) ∧ 0 ≤ f.from_ ∧ f.from_ < f.to_ ∧ f.to_ ≤ 1024 ∧ (1 ≤ f.known ∧ f.known ≤ 16777216) ∧ (0 ≤ f.no ∧ f.no ≤ 65535)
instance Fact.okDec (f : Fact) : Decidable f.ok := by unfold Fact.ok; infer_instance
def before (a b : Fact) : Prop := a.known < b.known ∨ a.known = b.known ∧ a.no < b.no
instance beforeDec (a b : Fact) : Decidable (before a b) := by unfold before; infer_instance
theorem order_before (a b : Fact) : ¬ 0 ≤ order a b ↔ before a b := by
  unfold order before
  simp only [orL, cmpI]
  repeat' split
  all_goals omega
theorem order_le (a b : Fact) : order a b ≤ 0 ↔ ¬ before b a := by
  unfold order before
  simp only [orL, cmpI]
  repeat' split
  all_goals omega

/-- Each comes before the next. -/
def rising : List Fact → Prop
  | a :: b :: r => before a b ∧ rising (b :: r)
  | _ => True
instance rising_dec : (l : List Fact) → Decidable (rising l)
  | [] => .isTrue trivial
  | [_] => .isTrue trivial
  | a :: b :: r => by
    have := rising_dec (b :: r)
    unfold rising; infer_instance
theorem rising_iff : ∀ (l : List Fact), rising l ↔ ∀ (i : Nat) (a b : Fact), l[i]? = some a → l[i + 1]? = some b → before a b
  | [] => by simp [rising]
  | [x] => by simp [rising]
  | a :: b :: r => by
    rw [rising, rising_iff (b :: r)]
    constructor
    · rintro ⟨h1, h2⟩ i x y hx hy
      cases i with
      | zero => simp at hx hy; subst hx hy; exact h1
      | succ i => exact h2 i x y (by simpa using hx) (by simpa using hy)
    · intro h
      exact ⟨h 0 a b rfl rfl, fun i x y hx hy => h (i + 1) x y (by simpa using hx) (by simpa using hy)⟩

def checkM (l : List Fact) : Int := if ∀ f ∈ l, f.ok then (if rising l then 0 else 41) else 40
theorem checkM_bad {l : List Fact} {f : Fact} (h : f ∈ l) (hf : ¬ f.ok) : checkM l = 40 := by unfold checkM; rw [if_neg (fun h' => hf (h' f h))]
theorem checkM_order {l : List Fact} (h : ∀ f ∈ l, f.ok) {i : Nat} {a b : Fact} (ha : l[i]? = some a) (hb : l[i + 1]? = some b) (hn : ¬ before a b) : checkM l = 41 := by
  unfold checkM; rw [if_pos h, if_neg (fun h' => hn ((rising_iff l).1 h' i a b ha hb))]
theorem checkM_ok {l : List Fact} (h : ∀ f ∈ l, f.ok) (h2 : ∀ (i : Nat) (a b : Fact), l[i]? = some a → l[i + 1]? = some b → before a b) : checkM l = 0 := by
  unfold checkM; rw [if_pos h, if_pos ((rising_iff l).2 h2)]
theorem all_snoc {l : List Fact} {i : Nat} {f : Fact} (hx : l[i]? = some f) (hf : f.ok) (h : ∀ g ∈ l.take i, g.ok) : ∀ g ∈ l.take (i + 1), g.ok := fun g hg => by
  rw [List.take_add_one, hx, List.mem_append] at hg
  rcases hg with hg | hg
  · exact h g hg
  · simp at hg; subst hg; exact hf

theorem facts_between (n lo hi : Int) : CallP Try.prog 72 [.d (I n), .d (I lo), .d (I hi)] (retD [.b (decide (lo ≤ n ∧ n ≤ hi))]) := by
  refine exPure_sound (E := envOf Try.prog tt Try.f72.ntmps) (envOf_ok ttok mixed) Try.func72 (by rfl) rfl rfl (Nat.le_of_ble_eq_true rfl) ?_
  repeat' ((conv => whnf); first | with_reducible refine Dec.t (show true = true from rfl) ?_ | with_reducible refine Dec.t (show false = false from rfl) ?_ | with_reducible refine Dec.f (show ¬ (true = false) by decide) ?_ | with_reducible refine Dec.f (show ¬ (false = true) by decide) ?_ | refine Dec.t (by omega) ?_ | refine Dec.f (by omega) ?_ | refine Dec.split (fun _ => ?_) (fun _ => ?_) | refine Wr.id (by omega) ?_ | refine Chk.mk (by first | omega | exact rfl | (simp only [List.length_map]; omega) | (simp [room]; done) | (simp [room]; omega) | (simp [dropL, room]; done) | (simp [dropL, room]; omega)) ?_ | refine Nam.mk (List.length_map _) ?_ | refine Prep.skip ?_ | refine Eith.l ?_ | refine chk_t (x := D.flat _) (by assumption) ?_ | refine br_mk (fun _ => ?_) (fun _ => ?_))
  all_goals (conv => whnf)
  all_goals first | (rw [decide_eq_true (by omega)]; exact DLe.refl _) | (rw [decide_eq_false (by omega)]; exact DLe.refl _)
theorem facts_valid (f : Fact) : CallP Try.prog 56 [.d f.d] (retD [.b (decide f.ok)]) := by
  refine exPure_sound (E := envOf Try.prog tt Try.f56.ntmps) (envOf_ok ttok mixed) Try.func56 (by rfl) rfl rfl (Nat.le_of_ble_eq_true rfl) ?_
  repeat' ((conv => whnf); first | with_reducible refine Dec.t (show true = true from rfl) ?_ | with_reducible refine Dec.t (show false = false from rfl) ?_ | with_reducible refine Dec.f (show ¬ (true = false) by decide) ?_ | with_reducible refine Dec.f (show ¬ (false = true) by decide) ?_ | refine Dec.t (by omega) ?_ | refine Dec.f (by omega) ?_ | refine Dec.split (fun _ => ?_) (fun _ => ?_) | refine Wr.id (by omega) ?_ | refine Chk.mk (by first | omega | exact rfl | (simp only [List.length_map]; omega) | (simp [room]; done) | (simp [room]; omega) | (simp [dropL, room]; done) | (simp [dropL, room]; omega)) ?_ | refine Nam.mk (List.length_map _) ?_ | refine Prep.skip ?_ | refine Eith.l ?_ | refine chk_t (x := D.flat _) (by assumption) ?_ | refine br_mk (fun _ => ?_) (fun _ => ?_) | refine ACall.ofB (facts_between _ _ _) (fun _ => ?_) (fun _ => ?_))
  all_goals (conv => whnf)
  all_goals try simp only [decide_eq_true_eq, decide_eq_false_iff_not] at *
  all_goals first | (rw [decide_eq_true (by unfold Fact.ok; omega)]; exact DLe.refl _) | (rw [decide_eq_false (by unfold Fact.ok; omega)]; exact DLe.refl _)
theorem ref04_Valid (f : Fact) : CallP Try.prog 61 [.d f.d] (retD [.b (decide f.ok)]) := by
  refine exPure_sound (E := envOf Try.prog tt Try.f61.ntmps) (envOf_ok ttok mixed) Try.func61 (by rfl) rfl rfl (Nat.le_of_ble_eq_true rfl) ?_
  repeat' ((conv => whnf); first | with_reducible refine Dec.t (show true = true from rfl) ?_ | with_reducible refine Dec.t (show false = false from rfl) ?_ | with_reducible refine Dec.f (show ¬ (true = false) by decide) ?_ | with_reducible refine Dec.f (show ¬ (false = true) by decide) ?_ | refine Dec.t (by omega) ?_ | refine Dec.f (by omega) ?_ | refine Dec.split (fun _ => ?_) (fun _ => ?_) | refine Wr.id (by omega) ?_ | refine Chk.mk (by first | omega | exact rfl | (simp only [List.length_map]; omega) | (simp [room]; done) | (simp [room]; omega) | (simp [dropL, room]; done) | (simp [dropL, room]; omega)) ?_ | refine Nam.mk (List.length_map _) ?_ | refine Prep.skip ?_ | refine Eith.l ?_ | refine chk_t (x := D.flat _) (by assumption) ?_ | refine br_mk (fun _ => ?_) (fun _ => ?_))
  all_goals (conv => whnf)
  all_goals first | (rw [decide_eq_true (by unfold Fact.ok; omega)]; exact DLe.refl _) | (rw [decide_eq_false (by unfold Fact.ok; omega)]; exact DLe.refl _)
theorem ref04_Before' (a b : Fact) : CallP Try.prog 62 [.d a.d, .d b.d] (retD [.b (decide (before a b))]) := by
  refine exPure_sound (E := envOf Try.prog tt Try.f62.ntmps) (envOf_ok ttok mixed) Try.func62 (by rfl) rfl rfl (Nat.le_of_ble_eq_true rfl) ?_
  repeat' ((conv => whnf); first | with_reducible refine Dec.t (show true = true from rfl) ?_ | with_reducible refine Dec.t (show false = false from rfl) ?_ | with_reducible refine Dec.f (show ¬ (true = false) by decide) ?_ | with_reducible refine Dec.f (show ¬ (false = true) by decide) ?_ | refine Dec.t (by omega) ?_ | refine Dec.f (by omega) ?_ | refine Dec.split (fun _ => ?_) (fun _ => ?_) | refine Wr.id (by omega) ?_ | refine Chk.mk (by first | omega | exact rfl | (simp only [List.length_map]; omega) | (simp [room]; done) | (simp [room]; omega) | (simp [dropL, room]; done) | (simp [dropL, room]; omega)) ?_ | refine Nam.mk (List.length_map _) ?_ | refine Prep.skip ?_ | refine Eith.l ?_ | refine chk_t (x := D.flat _) (by assumption) ?_ | refine br_mk (fun _ => ?_) (fun _ => ?_))
  all_goals (conv => whnf)
  all_goals first | (rw [decide_eq_true (by unfold before; omega)]; exact DLe.refl _) | (rw [decide_eq_false (by unfold before; omega)]; exact DLe.refl _)
theorem facts_Check (l : List Fact) (hl : l.length < 2 ^ 40) : CallP Try.prog 30 [.d (SL 8 (l.map Fact.d))] (retD [I (checkM l)]) := by
  refine exPure_sound (E := envOf Try.prog tt Try.f30.ntmps) (envOf_ok ttok mixed) Try.func30 (by rfl) rfl rfl (Nat.le_of_ble_eq_true rfl) ?_
  repeat' ((conv => whnf); first | with_reducible refine Dec.t (show true = true from rfl) ?_ | with_reducible refine Dec.t (show false = false from rfl) ?_ | with_reducible refine Dec.f (show ¬ (true = false) by decide) ?_ | with_reducible refine Dec.f (show ¬ (false = true) by decide) ?_ | refine Dec.t (by omega) ?_ | refine Dec.f (by omega) ?_ | refine Dec.split (fun _ => ?_) (fun _ => ?_) | refine Wr.id (by omega) ?_ | refine Chk.mk (by first | omega | exact rfl | (simp only [List.length_map]; omega) | (simp [room]; done) | (simp [room]; omega) | (simp [dropL, room]; done) | (simp [dropL, room]; omega)) ?_ | refine Nam.mk (List.length_map _) ?_ | refine Prep.skip ?_ | refine Eith.l ?_ | refine chk_t (x := D.flat _) (by assumption) ?_ | refine br_mk (fun _ => ?_) (fun _ => ?_) | fail)
  conv => whnf
  refine ALoop.at (E := envOf Try.prog tt Try.f30.ntmps) (envOf_ok ttok mixed) (X := Nat) (fun i => [(8, .d (I i))]) (fun _ => []) (fun i => i ≤ l.length ∧ ∀ g ∈ l.take i, g.ok) (fun i => l.length - i) 0 (by repeat (first | exact trivial | refine And.intro rfl ?_ | refine And.intro (congrArg (fun n => V.d (I n)) (wrap_nat _ (by omega))) ?_)) rfl ⟨Nat.zero_le _, by simp⟩ ?_
  rintro i ⟨hi, hm⟩
  by_cases hlt : i < l.length
  · obtain ⟨f, hx, _⟩ := drop_get hlt
    repeat' ((conv => whnf); first | with_reducible refine Dec.t (show true = true from rfl) ?_ | with_reducible refine Dec.t (show false = false from rfl) ?_ | with_reducible refine Dec.f (show ¬ (true = false) by decide) ?_ | with_reducible refine Dec.f (show ¬ (false = true) by decide) ?_ | refine Dec.t (by omega) ?_ | refine Dec.f (by omega) ?_ | refine Dec.split (fun _ => ?_) (fun _ => ?_) | refine Wr.id (by omega) ?_ | refine Chk.mk (by first | omega | exact rfl | (simp only [List.length_map]; omega) | (simp [room]; done) | (simp [room]; omega) | (simp [dropL, room]; done) | (simp [dropL, room]; omega)) ?_ | refine Nam.mk (List.length_map _) ?_ | refine Prep.skip ?_ | refine Eith.l ?_ | refine chk_t (x := D.flat _) (by assumption) ?_ | refine br_mk (fun _ => ?_) (fun _ => ?_) | refine nthK_mk (map_get hx) ?_ | refine ACall.ofB (facts_valid f) (fun _ => ?_) (fun _ => ?_) | fail)
    all_goals (conv => whnf)
    all_goals try simp only [decide_eq_true_eq, decide_eq_false_iff_not] at *
    · rename_i h
      exact ⟨i + 1, Wm.end (by repeat (first | exact trivial | refine And.intro rfl ?_ | refine And.intro (congrArg (fun n => V.d (I n)) (wrap_nat _ (by omega))) ?_)) rfl rfl rfl, ⟨hlt, all_snoc hx h hm⟩, by omega⟩
    · rename_i h
      rw [checkM_bad (List.mem_of_getElem? hx) h]; exact (by repeat (first | exact trivial | exact rfl | exact DLe.refl _ | exact DLe.full _ _ _ | exact DLe.nil _ _ _ | exact VLe.refl _ | refine And.intro ?_ ?_ | refine VLe.d ?_ | refine DLe.agg ?_))
  · have : i = l.length := by omega
    subst this
    rw [List.take_length] at hm
    clear hi hlt
    repeat' ((conv => whnf); first | with_reducible refine Dec.t (show true = true from rfl) ?_ | with_reducible refine Dec.t (show false = false from rfl) ?_ | with_reducible refine Dec.f (show ¬ (true = false) by decide) ?_ | with_reducible refine Dec.f (show ¬ (false = true) by decide) ?_ | refine Dec.t (by omega) ?_ | refine Dec.f (by omega) ?_ | refine Dec.split (fun _ => ?_) (fun _ => ?_) | refine Wr.id (by omega) ?_ | refine Chk.mk (by first | omega | exact rfl | (simp only [List.length_map]; omega) | (simp [room]; done) | (simp [room]; omega) | (simp [dropL, room]; done) | (simp [dropL, room]; omega)) ?_ | refine Nam.mk (List.length_map _) ?_ | refine Prep.skip ?_ | refine Eith.l ?_ | refine chk_t (x := D.flat _) (by assumption) ?_ | refine br_mk (fun _ => ?_) (fun _ => ?_) | fail)
    conv => whnf
    refine ALoop.at (E := envOf Try.prog tt Try.f30.ntmps) (envOf_ok ttok mixed) (X := Nat) (fun i => [(5, .d (I ((i : Nat) + 1 : Nat)))]) (fun _ => []) (fun i => (i + 1 ≤ l.length ∨ i = 0) ∧ ∀ (j : Nat) (a b : Fact), j < i → l[j]? = some a → l[j + 1]? = some b → before a b) (fun i => l.length - i) 0 (by repeat (first | exact trivial | refine And.intro rfl ?_ | refine And.intro (congrArg (fun n => V.d (I n)) (wrap_nat _ (by omega))) ?_)) rfl ⟨.inr rfl, by simp⟩ ?_
    rintro i ⟨hi, hr⟩
    by_cases hlt : i + 1 < l.length
    · obtain ⟨b, hb, _⟩ := drop_get hlt
      obtain ⟨a, ha, _⟩ := drop_get (l := l) (i := i) (by omega)
      have hb' : (l.map Fact.d)[(((i + 1 : Nat) : Int)).toNat]? = some b.d := by rw [Int.toNat_natCast, List.getElem?_map, hb]; rfl
      have ha' : (l.map Fact.d)[(((i + 1 : Nat) : Int) - 1).toNat]? = some a.d := by rw [show (((i + 1 : Nat) : Int) - 1).toNat = i by omega, List.getElem?_map, ha]; rfl
      repeat' ((conv => whnf); first | with_reducible refine Dec.t (show true = true from rfl) ?_ | with_reducible refine Dec.t (show false = false from rfl) ?_ | with_reducible refine Dec.f (show ¬ (true = false) by decide) ?_ | with_reducible refine Dec.f (show ¬ (false = true) by decide) ?_ | refine Dec.t (by omega) ?_ | refine Dec.f (by omega) ?_ | refine Dec.split (fun _ => ?_) (fun _ => ?_) | refine Wr.id (by omega) ?_ | refine Chk.mk (by first | omega | exact rfl | (simp only [List.length_map]; omega) | (simp [room]; done) | (simp [room]; omega) | (simp [dropL, room]; done) | (simp [dropL, room]; omega)) ?_ | refine Nam.mk (List.length_map _) ?_ | refine Prep.skip ?_ | refine Eith.l ?_ | refine chk_t (x := D.flat _) (by assumption) ?_ | refine br_mk (fun _ => ?_) (fun _ => ?_) | refine nthK_mk ha' ?_ | refine nthK_mk hb' ?_ | refine ACall.of (facts_order a b) ?_ | refine APCall.of (facts_order a b) ?_ | fail)
      all_goals (conv => whnf)
      all_goals try simp only [decide_eq_true_eq, decide_eq_false_iff_not] at *
      all_goals (rename_i h)
      all_goals first
        | (have h : before a b := by first | exact h | exact (order_before a b).1 h
           exact ⟨i + 1, Wm.end (by repeat (first | exact trivial | refine And.intro rfl ?_ | refine And.intro (congrArg (fun n => V.d (I n)) (wrap_nat _ (by omega))) ?_)) rfl rfl rfl, ⟨by omega, fun j x y hj hx hy => by
             by_cases hji : j = i
             · subst hji; rw [ha] at hx; rw [hb] at hy; cases hx; cases hy; exact h
             · exact hr j x y (by omega) hx hy⟩, by omega⟩)
        | (have h : ¬ before a b := by first | exact h | exact fun hb => (order_before a b).2 hb h
           rw [checkM_order hm ha hb h]; exact (by repeat (first | exact trivial | exact rfl | exact DLe.refl _ | exact DLe.full _ _ _ | exact DLe.nil _ _ _ | exact VLe.refl _ | refine And.intro ?_ ?_ | refine VLe.d ?_ | refine DLe.agg ?_)))
    · repeat' ((conv => whnf); first | with_reducible refine Dec.t (show true = true from rfl) ?_ | with_reducible refine Dec.t (show false = false from rfl) ?_ | with_reducible refine Dec.f (show ¬ (true = false) by decide) ?_ | with_reducible refine Dec.f (show ¬ (false = true) by decide) ?_ | refine Dec.t (by omega) ?_ | refine Dec.f (by omega) ?_ | refine Dec.split (fun _ => ?_) (fun _ => ?_) | refine Wr.id (by omega) ?_ | refine Chk.mk (by first | omega | exact rfl | (simp only [List.length_map]; omega) | (simp [room]; done) | (simp [room]; omega) | (simp [dropL, room]; done) | (simp [dropL, room]; omega)) ?_ | refine Nam.mk (List.length_map _) ?_ | refine Prep.skip ?_ | refine Eith.l ?_ | refine chk_t (x := D.flat _) (by assumption) ?_ | refine br_mk (fun _ => ?_) (fun _ => ?_) | fail)
      all_goals (conv => whnf)
      rw [checkM_ok hm fun j a b ha hb => hr j a b (by have := (List.getElem?_eq_some_iff.1 hb).1; omega) ha hb]; exact (by repeat (first | exact trivial | exact rfl | exact DLe.refl _ | exact DLe.full _ _ _ | exact DLe.nil _ _ _ | exact VLe.refl _ | refine And.intro ?_ ?_ | refine VLe.d ?_ | refine DLe.agg ?_))
theorem ref04_Check (l : List Fact) (hl : l.length < 2 ^ 40) : CallP Try.prog 35 [.d (SL 8 (l.map Fact.d))] (retD [I (checkM l)]) := by
  refine exPure_sound (E := envOf Try.prog tt Try.f35.ntmps) (envOf_ok ttok mixed) Try.func35 (by rfl) rfl rfl (Nat.le_of_ble_eq_true rfl) ?_
  repeat' ((conv => whnf); first | with_reducible refine Dec.t (show true = true from rfl) ?_ | with_reducible refine Dec.t (show false = false from rfl) ?_ | with_reducible refine Dec.f (show ¬ (true = false) by decide) ?_ | with_reducible refine Dec.f (show ¬ (false = true) by decide) ?_ | refine Dec.t (by omega) ?_ | refine Dec.f (by omega) ?_ | refine Dec.split (fun _ => ?_) (fun _ => ?_) | refine Wr.id (by omega) ?_ | refine Chk.mk (by first | omega | exact rfl | (simp only [List.length_map]; omega) | (simp [room]; done) | (simp [room]; omega) | (simp [dropL, room]; done) | (simp [dropL, room]; omega)) ?_ | refine Nam.mk (List.length_map _) ?_ | refine Prep.skip ?_ | refine Eith.l ?_ | refine chk_t (x := D.flat _) (by assumption) ?_ | refine br_mk (fun _ => ?_) (fun _ => ?_) | fail)
  conv => whnf
  refine ALoop.at (E := envOf Try.prog tt Try.f35.ntmps) (envOf_ok ttok mixed) (X := Nat) (fun i => [(3, .d (I i))]) (fun _ => []) (fun i => i ≤ l.length ∧ ∀ g ∈ l.take i, g.ok) (fun i => l.length - i) 0 (by repeat (first | exact trivial | refine And.intro rfl ?_ | refine And.intro (congrArg (fun n => V.d (I n)) (wrap_nat _ (by omega))) ?_)) rfl ⟨Nat.zero_le _, by simp⟩ ?_
  rintro i ⟨hi, hm⟩
  by_cases hlt : i < l.length
  · obtain ⟨f, hx, _⟩ := drop_get hlt
    repeat' ((conv => whnf); first | with_reducible refine Dec.t (show true = true from rfl) ?_ | with_reducible refine Dec.t (show false = false from rfl) ?_ | with_reducible refine Dec.f (show ¬ (true = false) by decide) ?_ | with_reducible refine Dec.f (show ¬ (false = true) by decide) ?_ | refine Dec.t (by omega) ?_ | refine Dec.f (by omega) ?_ | refine Dec.split (fun _ => ?_) (fun _ => ?_) | refine Wr.id (by omega) ?_ | refine Chk.mk (by first | omega | exact rfl | (simp only [List.length_map]; omega) | (simp [room]; done) | (simp [room]; omega) | (simp [dropL, room]; done) | (simp [dropL, room]; omega)) ?_ | refine Nam.mk (List.length_map _) ?_ | refine Prep.skip ?_ | refine Eith.l ?_ | refine chk_t (x := D.flat _) (by assumption) ?_ | refine br_mk (fun _ => ?_) (fun _ => ?_) | refine nthK_mk (map_get hx) ?_ | refine ACall.ofB (ref04_Valid f) (fun _ => ?_) (fun _ => ?_) | fail)
    all_goals (conv => whnf)
    all_goals try simp only [decide_eq_true_eq, decide_eq_false_iff_not] at *
    · rename_i h
      exact ⟨i + 1, Wm.end (by repeat (first | exact trivial | refine And.intro rfl ?_ | refine And.intro (congrArg (fun n => V.d (I n)) (wrap_nat _ (by omega))) ?_)) rfl rfl rfl, ⟨hlt, all_snoc hx h hm⟩, by omega⟩
    · rename_i h
      rw [checkM_bad (List.mem_of_getElem? hx) h]; exact (by repeat (first | exact trivial | exact rfl | exact DLe.refl _ | exact DLe.full _ _ _ | exact DLe.nil _ _ _ | exact VLe.refl _ | refine And.intro ?_ ?_ | refine VLe.d ?_ | refine DLe.agg ?_))
  · have : i = l.length := by omega
    subst this
    rw [List.take_length] at hm
    clear hi hlt
    repeat' ((conv => whnf); first | with_reducible refine Dec.t (show true = true from rfl) ?_ | with_reducible refine Dec.t (show false = false from rfl) ?_ | with_reducible refine Dec.f (show ¬ (true = false) by decide) ?_ | with_reducible refine Dec.f (show ¬ (false = true) by decide) ?_ | refine Dec.t (by omega) ?_ | refine Dec.f (by omega) ?_ | refine Dec.split (fun _ => ?_) (fun _ => ?_) | refine Wr.id (by omega) ?_ | refine Chk.mk (by first | omega | exact rfl | (simp only [List.length_map]; omega) | (simp [room]; done) | (simp [room]; omega) | (simp [dropL, room]; done) | (simp [dropL, room]; omega)) ?_ | refine Nam.mk (List.length_map _) ?_ | refine Prep.skip ?_ | refine Eith.l ?_ | refine chk_t (x := D.flat _) (by assumption) ?_ | refine br_mk (fun _ => ?_) (fun _ => ?_) | fail)
    conv => whnf
    refine ALoop.at (E := envOf Try.prog tt Try.f35.ntmps) (envOf_ok ttok mixed) (X := Nat) (fun i => [(4, .d (I ((i : Nat) + 1 : Nat)))]) (fun _ => []) (fun i => (i + 1 ≤ l.length ∨ i = 0) ∧ ∀ (j : Nat) (a b : Fact), j < i → l[j]? = some a → l[j + 1]? = some b → before a b) (fun i => l.length - i) 0 (by repeat (first | exact trivial | refine And.intro rfl ?_ | refine And.intro (congrArg (fun n => V.d (I n)) (wrap_nat _ (by omega))) ?_)) rfl ⟨.inr rfl, by simp⟩ ?_
    rintro i ⟨hi, hr⟩
    by_cases hlt : i + 1 < l.length
    · obtain ⟨b, hb, _⟩ := drop_get hlt
      obtain ⟨a, ha, _⟩ := drop_get (l := l) (i := i) (by omega)
      have hb' : (l.map Fact.d)[(((i + 1 : Nat) : Int)).toNat]? = some b.d := by rw [Int.toNat_natCast, List.getElem?_map, hb]; rfl
      have ha' : (l.map Fact.d)[(((i + 1 : Nat) : Int) - 1).toNat]? = some a.d := by rw [show (((i + 1 : Nat) : Int) - 1).toNat = i by omega, List.getElem?_map, ha]; rfl
      repeat' ((conv => whnf); first | with_reducible refine Dec.t (show true = true from rfl) ?_ | with_reducible refine Dec.t (show false = false from rfl) ?_ | with_reducible refine Dec.f (show ¬ (true = false) by decide) ?_ | with_reducible refine Dec.f (show ¬ (false = true) by decide) ?_ | refine Dec.t (by omega) ?_ | refine Dec.f (by omega) ?_ | refine Dec.split (fun _ => ?_) (fun _ => ?_) | refine Wr.id (by omega) ?_ | refine Chk.mk (by first | omega | exact rfl | (simp only [List.length_map]; omega) | (simp [room]; done) | (simp [room]; omega) | (simp [dropL, room]; done) | (simp [dropL, room]; omega)) ?_ | refine Nam.mk (List.length_map _) ?_ | refine Prep.skip ?_ | refine Eith.l ?_ | refine chk_t (x := D.flat _) (by assumption) ?_ | refine br_mk (fun _ => ?_) (fun _ => ?_) | refine nthK_mk ha' ?_ | refine nthK_mk hb' ?_ | refine ACall.ofB (ref04_Before' a b) (fun _ => ?_) (fun _ => ?_) | refine APCall.ofB (ref04_Before' a b) (fun _ => ?_) (fun _ => ?_) | fail)
      all_goals (conv => whnf)
      all_goals try simp only [decide_eq_true_eq, decide_eq_false_iff_not] at *
      all_goals (rename_i h)
      all_goals first
        | (have h : before a b := by first | exact h | exact (order_before a b).1 h
           exact ⟨i + 1, Wm.end (by repeat (first | exact trivial | refine And.intro rfl ?_ | refine And.intro (congrArg (fun n => V.d (I n)) (wrap_nat _ (by omega))) ?_)) rfl rfl rfl, ⟨by omega, fun j x y hj hx hy => by
             by_cases hji : j = i
             · subst hji; rw [ha] at hx; rw [hb] at hy; cases hx; cases hy; exact h
             · exact hr j x y (by omega) hx hy⟩, by omega⟩)
        | (have h : ¬ before a b := by first | exact h | exact fun hb => (order_before a b).2 hb h
           rw [checkM_order hm ha hb h]; exact (by repeat (first | exact trivial | exact rfl | exact DLe.refl _ | exact DLe.full _ _ _ | exact DLe.nil _ _ _ | exact VLe.refl _ | refine And.intro ?_ ?_ | refine VLe.d ?_ | refine DLe.agg ?_)))
    · repeat' ((conv => whnf); first | with_reducible refine Dec.t (show true = true from rfl) ?_ | with_reducible refine Dec.t (show false = false from rfl) ?_ | with_reducible refine Dec.f (show ¬ (true = false) by decide) ?_ | with_reducible refine Dec.f (show ¬ (false = true) by decide) ?_ | refine Dec.t (by omega) ?_ | refine Dec.f (by omega) ?_ | refine Dec.split (fun _ => ?_) (fun _ => ?_) | refine Wr.id (by omega) ?_ | refine Chk.mk (by first | omega | exact rfl | (simp only [List.length_map]; omega) | (simp [room]; done) | (simp [room]; omega) | (simp [dropL, room]; done) | (simp [dropL, room]; omega)) ?_ | refine Nam.mk (List.length_map _) ?_ | refine Prep.skip ?_ | refine Eith.l ?_ | refine chk_t (x := D.flat _) (by assumption) ?_ | refine br_mk (fun _ => ?_) (fun _ => ?_) | fail)
      all_goals (conv => whnf)
      rw [checkM_ok hm fun j a b ha hb => hr j a b (by have := (List.getElem?_eq_some_iff.1 hb).1; omega) ha hb]; exact (by repeat (first | exact trivial | exact rfl | exact DLe.refl _ | exact DLe.full _ _ _ | exact DLe.nil _ _ _ | exact VLe.refl _ | refine And.intro ?_ ?_ | refine VLe.d ?_ | refine DLe.agg ?_))


theorem ref04_Same (a b : List (Fact)) (hl : a.length < 2 ^ 40)  : CallP Try.prog 21 [.d (SL 8 (a.map Fact.d)), .d (SL 8 (b.map Fact.d))] (retD [.b (decide (a = b))]) := by
  refine exPure_sound (E := envOf Try.prog tt Try.f21.ntmps) (envOf_ok ttok mixed) Try.func21 (by rfl) rfl rfl (Nat.le_of_ble_eq_true rfl) ?_
  by_cases he : a.length = b.length
  · repeat' ((conv => whnf); first | with_reducible refine Dec.t (show true = true from rfl) ?_ | with_reducible refine Dec.t (show false = false from rfl) ?_ | with_reducible refine Dec.f (show ¬ (true = false) by decide) ?_ | with_reducible refine Dec.f (show ¬ (false = true) by decide) ?_ | refine Dec.t (by omega) ?_ | refine Dec.f (by omega) ?_ | refine Dec.split (fun _ => ?_) (fun _ => ?_) | refine Wr.id (by omega) ?_ | refine Chk.mk (by first | omega | exact rfl | (simp only [List.length_map]; omega) | (simp [room]; done) | (simp [room]; omega) | (simp [dropL, room]; done) | (simp [dropL, room]; omega)) ?_ | refine Nam.mk (List.length_map _) ?_ | refine Prep.skip ?_ | refine Eith.l ?_ | refine chk_t (x := D.flat _) (by assumption) ?_ | refine br_mk (fun _ => ?_) (fun _ => ?_))
    conv => whnf
    refine ALoop.at (E := envOf Try.prog tt Try.f21.ntmps) (envOf_ok ttok mixed) (X := Nat) (fun i => [(5, .d (I i))]) (fun _ => []) (fun i => i ≤ a.length ∧ a.take i = b.take i) (fun i => a.length - i) 0 (by repeat (first | exact trivial | refine And.intro rfl ?_ | refine And.intro (congrArg (fun n => V.d (I n)) (wrap_nat _ (by omega))) ?_)) rfl ⟨Nat.zero_le _, rfl⟩ ?_
    rintro i ⟨hi, hm⟩
    by_cases hlt : i < a.length
    · obtain ⟨x, hx, _⟩ := drop_get hlt
      obtain ⟨y, hy, _⟩ := drop_get (l := b) (i := i) (by omega)
      repeat' ((conv => whnf); first | with_reducible refine Dec.t (show true = true from rfl) ?_ | with_reducible refine Dec.t (show false = false from rfl) ?_ | with_reducible refine Dec.f (show ¬ (true = false) by decide) ?_ | with_reducible refine Dec.f (show ¬ (false = true) by decide) ?_ | refine Dec.t (by omega) ?_ | refine Dec.f (by omega) ?_ | refine Dec.split (fun _ => ?_) (fun _ => ?_) | refine Wr.id (by omega) ?_ | refine Chk.mk (by first | omega | exact rfl | (simp only [List.length_map]; omega) | (simp [room]; done) | (simp [room]; omega) | (simp [dropL, room]; done) | (simp [dropL, room]; omega)) ?_ | refine Nam.mk (List.length_map _) ?_ | refine Prep.skip ?_ | refine Eith.l ?_ | refine chk_t (x := D.flat _) (by assumption) ?_ | refine br_mk (fun _ => ?_) (fun _ => ?_) | refine nthK_mk (map_get hx) ?_ | refine nthK_mk (map_get hy) ?_ | refine Nam.dec (eqFact x y) (fun _ => ?_) (fun _ => ?_))
      all_goals (conv => whnf)
      all_goals try simp only [decide_eq_true_eq, decide_eq_false_iff_not] at *
      all_goals first
        | (have e : x = y := by first | assumption | (simp_all; done)
           subst e
           refine ⟨i + 1, Wm.end (by repeat (first | exact trivial | refine And.intro rfl ?_ | refine And.intro (congrArg (fun n => V.d (I n)) (wrap_nat _ (by omega))) ?_)) rfl rfl rfl, ⟨hlt, ?_⟩, by omega⟩
           rw [List.take_add_one, List.take_add_one, hm, hx, hy])
        | (have e : ¬ x = y := by first | assumption | (simp_all; done)
           rw [decide_eq_false (fun h => e (by subst h; rw [hx] at hy; exact Option.some.inj hy))]; exact DLe.refl _)
    · have : i = a.length := by omega
      subst this
      rw [List.take_length, he, List.take_length] at hm
      repeat' ((conv => whnf); first | with_reducible refine Dec.t (show true = true from rfl) ?_ | with_reducible refine Dec.t (show false = false from rfl) ?_ | with_reducible refine Dec.f (show ¬ (true = false) by decide) ?_ | with_reducible refine Dec.f (show ¬ (false = true) by decide) ?_ | refine Dec.t (by omega) ?_ | refine Dec.f (by omega) ?_ | refine Dec.split (fun _ => ?_) (fun _ => ?_) | refine Wr.id (by omega) ?_ | refine Chk.mk (by first | omega | exact rfl | (simp only [List.length_map]; omega) | (simp [room]; done) | (simp [room]; omega) | (simp [dropL, room]; done) | (simp [dropL, room]; omega)) ?_ | refine Nam.mk (List.length_map _) ?_ | refine Prep.skip ?_ | refine Eith.l ?_ | refine chk_t (x := D.flat _) (by assumption) ?_ | refine br_mk (fun _ => ?_) (fun _ => ?_))
      all_goals (conv => whnf)
      rw [decide_eq_true hm]; exact DLe.refl _
  · repeat' ((conv => whnf); first | with_reducible refine Dec.t (show true = true from rfl) ?_ | with_reducible refine Dec.t (show false = false from rfl) ?_ | with_reducible refine Dec.f (show ¬ (true = false) by decide) ?_ | with_reducible refine Dec.f (show ¬ (false = true) by decide) ?_ | refine Dec.t (by omega) ?_ | refine Dec.f (by omega) ?_ | refine Dec.split (fun _ => ?_) (fun _ => ?_) | refine Wr.id (by omega) ?_ | refine Chk.mk (by first | omega | exact rfl | (simp only [List.length_map]; omega) | (simp [room]; done) | (simp [room]; omega) | (simp [dropL, room]; done) | (simp [dropL, room]; omega)) ?_ | refine Nam.mk (List.length_map _) ?_ | refine Prep.skip ?_ | refine Eith.l ?_ | refine chk_t (x := D.flat _) (by assumption) ?_ | refine br_mk (fun _ => ?_) (fun _ => ?_))
    all_goals (conv => whnf)
    rw [decide_eq_false (fun h => he (by rw [h]))]; exact DLe.refl _

theorem slices_Clone_Fact (r : List Fact) (hl : r.length < 2 ^ 26) : CallRow Try.prog 80 [.d (SL 8 (r.map Fact.d))] 8 (r.map Fact.d) := by
  refine exRow_sound (E := envOf Try.prog tt Try.f80.ntmps) (envOf_ok ttok mixed) Try.func80 (by rfl) rfl rfl (Nat.le_of_ble_eq_true rfl) ?_
  repeat' ((conv => whnf); first | with_reducible refine Dec.t (show true = true from rfl) ?_ | with_reducible refine Dec.t (show false = false from rfl) ?_ | with_reducible refine Dec.f (show ¬ (true = false) by decide) ?_ | with_reducible refine Dec.f (show ¬ (false = true) by decide) ?_ | refine Dec.t (by omega) ?_ | refine Dec.f (by omega) ?_ | refine Dec.split (fun _ => ?_) (fun _ => ?_) | refine Wr.id (by omega) ?_ | refine Chk.mk (by first | omega | exact rfl | (simp only [List.length_map]; omega) | (simp [room]; done) | (simp [room]; omega) | (simp [dropL, room]; done) | (simp [dropL, room]; omega)) ?_ | refine Nam.mk (List.length_map _) ?_ | refine Prep.skip ?_ | refine Eith.l ?_ | refine chk_t (x := D.flat _) (by assumption) ?_ | refine br_mk (fun _ => ?_) (fun _ => ?_) | refine NilQ.both (fun h => ?_) ?_ | fail)
  all_goals (conv => whnf)
  · have h : r = [] := by simpa using h
    subst h; rfl
  · exact Nam.mk (y := r.map Fact.d) (by simp only [List.length_nil, Nat.zero_add, List.nil_append, List.drop_zero, List.take_length]) rfl
def addM (l : List Fact) (f : Fact) : List Fact × Int :=
  if checkM l = 0 then (if f.ok then (if ∀ g, l.getLast? = some g → before g f then (l ++ [f], 0) else ([], 41)) else ([], 40)) else ([], checkM l)
theorem facts_Add (l : List Fact) (f : Fact) (hl : l.length < 2 ^ 26) : CallP Try.prog 70 [.d (SL 8 (l.map Fact.d)), .d f.d] (retD [SL 8 ((addM l f).1.map Fact.d), I (addM l f).2]) := by
  refine exPure_sound (E := envOf Try.prog tt Try.f70.ntmps) (envOf_ok ttok mixed) Try.func70 (by rfl) rfl rfl (Nat.le_of_ble_eq_true rfl) ?_
  unfold addM
  by_cases hc : checkM l = 0
  · rw [if_pos hc]
    have hC := facts_Check l (by omega)
    rw [hc] at hC
    by_cases hf : f.ok
    · rw [if_pos hf]
      cases hgl : l.getLast? with
      | none =>
        have : l = [] := by simpa using hgl
        subst this
        rw [if_pos (by simp)]
        repeat' ((conv => whnf); first | with_reducible refine Dec.t (show true = true from rfl) ?_ | with_reducible refine Dec.t (show false = false from rfl) ?_ | with_reducible refine Dec.f (show ¬ (true = false) by decide) ?_ | with_reducible refine Dec.f (show ¬ (false = true) by decide) ?_ | refine Dec.t (by omega) ?_ | refine Dec.f (by omega) ?_ | refine Dec.split (fun _ => ?_) (fun _ => ?_) | refine Wr.id (by omega) ?_ | refine Chk.mk (by first | omega | exact rfl | (simp only [List.length_map]; omega) | (simp [room]; done) | (simp [room]; omega) | (simp [dropL, room]; done) | (simp [dropL, room]; omega)) ?_ | refine Nam.mk (List.length_map _) ?_ | refine Prep.skip ?_ | refine Eith.l ?_ | refine chk_t (x := D.flat _) (by assumption) ?_ | refine br_mk (fun _ => ?_) (fun _ => ?_) | refine ACall.of (hC) ?_ | refine APCall.of (hC) ?_ | refine ACall.ofB (facts_valid f) (fun _ => ?_) (fun h => absurd hf (of_decide_eq_false h)) | refine Nam.mk (y := 0) rfl ?_ | refine ACall.ofRow (slices_Clone_Fact [] (by simp)) ?_ | refine APCall.ofRow (slices_Clone_Fact [] (by simp)) ?_ | refine Nam.mk (y := [f].map Fact.d) rfl ?_ | fail)
        all_goals first | (rename_i h; exact absurd h (show ¬ (0 < ((([] : List Fact).length : Nat) : Int)) from by decide)) | skip
        all_goals (conv => whnf)
        exact (by repeat (first | exact trivial | exact rfl | exact DLe.refl _ | exact DLe.full _ _ _ | exact DLe.nil _ _ _ | exact VLe.refl _ | refine And.intro ?_ ?_ | refine VLe.d ?_ | refine DLe.agg ?_))
      | some g =>
        have hne : l ≠ [] := by rintro rfl; simp at hgl
        have hpos : 0 < l.length := List.length_pos_iff.2 hne
        have hg : (l.map Fact.d)[((l.length : Int) - 1).toNat]? = some g.d := by
          rw [show ((l.length : Int) - 1).toNat = l.length - 1 by omega, List.getElem?_map, ← List.getLast?_eq_getElem?, hgl]; rfl
        by_cases hb : before g f
        · rw [if_pos (by intro g' e; cases e; exact hb)]
          have ho := (order_before g f).2 hb
          repeat' ((conv => whnf); first | with_reducible refine Dec.t (show true = true from rfl) ?_ | with_reducible refine Dec.t (show false = false from rfl) ?_ | with_reducible refine Dec.f (show ¬ (true = false) by decide) ?_ | with_reducible refine Dec.f (show ¬ (false = true) by decide) ?_ | refine Dec.t (by omega) ?_ | refine Dec.f (by omega) ?_ | refine Dec.split (fun _ => ?_) (fun _ => ?_) | refine Wr.id (by omega) ?_ | refine Chk.mk (by first | omega | exact rfl | (simp only [List.length_map]; omega) | (simp [room]; done) | (simp [room]; omega) | (simp [dropL, room]; done) | (simp [dropL, room]; omega)) ?_ | refine Nam.mk (List.length_map _) ?_ | refine Prep.skip ?_ | refine Eith.l ?_ | refine chk_t (x := D.flat _) (by assumption) ?_ | refine br_mk (fun _ => ?_) (fun _ => ?_) | refine ACall.of (hC) ?_ | refine APCall.of (hC) ?_ | refine ACall.ofB (facts_valid f) (fun _ => ?_) (fun h => absurd hf (of_decide_eq_false h)) | refine nthK_mk hg ?_ | refine ACall.of (facts_order g f) ?_ | refine APCall.of (facts_order g f) ?_ | refine ACall.ofRow (slices_Clone_Fact l hl) ?_ | refine APCall.ofRow (slices_Clone_Fact l hl) ?_ | refine Chk.mk (by simp [room]; omega) ?_ | refine Nam.mk (y := (l ++ [f]).map Fact.d) ((whole (by simp [dropL])).trans (by rw [List.map_append]; rfl)) ?_ | fail)
          all_goals (conv => whnf)
          exact (by repeat (first | exact trivial | exact rfl | exact DLe.refl _ | exact DLe.full _ _ _ | exact DLe.nil _ _ _ | exact VLe.refl _ | refine And.intro ?_ ?_ | refine VLe.d ?_ | refine DLe.agg ?_))
        · rw [if_neg (fun h => hb (h g rfl))]
          have ho : 0 ≤ order g f := by
            rcases Int.lt_or_le (order g f) 0 with h | h
            · exact absurd ((order_before g f).1 (by omega)) hb
            · exact h
          repeat' ((conv => whnf); first | with_reducible refine Dec.t (show true = true from rfl) ?_ | with_reducible refine Dec.t (show false = false from rfl) ?_ | with_reducible refine Dec.f (show ¬ (true = false) by decide) ?_ | with_reducible refine Dec.f (show ¬ (false = true) by decide) ?_ | refine Dec.t (by omega) ?_ | refine Dec.f (by omega) ?_ | refine Dec.split (fun _ => ?_) (fun _ => ?_) | refine Wr.id (by omega) ?_ | refine Chk.mk (by first | omega | exact rfl | (simp only [List.length_map]; omega) | (simp [room]; done) | (simp [room]; omega) | (simp [dropL, room]; done) | (simp [dropL, room]; omega)) ?_ | refine Nam.mk (List.length_map _) ?_ | refine Prep.skip ?_ | refine Eith.l ?_ | refine chk_t (x := D.flat _) (by assumption) ?_ | refine br_mk (fun _ => ?_) (fun _ => ?_) | refine ACall.of (hC) ?_ | refine APCall.of (hC) ?_ | refine ACall.ofB (facts_valid f) (fun _ => ?_) (fun h => absurd hf (of_decide_eq_false h)) | refine nthK_mk hg ?_ | refine ACall.of (facts_order g f) ?_ | refine APCall.of (facts_order g f) ?_ | fail)
          all_goals (conv => whnf)
          exact (by repeat (first | exact trivial | exact rfl | exact DLe.refl _ | exact DLe.full _ _ _ | exact DLe.nil _ _ _ | exact VLe.refl _ | refine And.intro ?_ ?_ | refine VLe.d ?_ | refine DLe.agg ?_))
    · rw [if_neg hf]
      repeat' ((conv => whnf); first | with_reducible refine Dec.t (show true = true from rfl) ?_ | with_reducible refine Dec.t (show false = false from rfl) ?_ | with_reducible refine Dec.f (show ¬ (true = false) by decide) ?_ | with_reducible refine Dec.f (show ¬ (false = true) by decide) ?_ | refine Dec.t (by omega) ?_ | refine Dec.f (by omega) ?_ | refine Dec.split (fun _ => ?_) (fun _ => ?_) | refine Wr.id (by omega) ?_ | refine Chk.mk (by first | omega | exact rfl | (simp only [List.length_map]; omega) | (simp [room]; done) | (simp [room]; omega) | (simp [dropL, room]; done) | (simp [dropL, room]; omega)) ?_ | refine Nam.mk (List.length_map _) ?_ | refine Prep.skip ?_ | refine Eith.l ?_ | refine chk_t (x := D.flat _) (by assumption) ?_ | refine br_mk (fun _ => ?_) (fun _ => ?_) | refine ACall.of (hC) ?_ | refine APCall.of (hC) ?_ | refine ACall.ofB (facts_valid f) (fun h => absurd (of_decide_eq_true h) hf) (fun _ => ?_) | fail)
      all_goals (conv => whnf)
      exact (by repeat (first | exact trivial | exact rfl | exact DLe.refl _ | exact DLe.full _ _ _ | exact DLe.nil _ _ _ | exact VLe.refl _ | refine And.intro ?_ ?_ | refine VLe.d ?_ | refine DLe.agg ?_))
  · rw [if_neg hc]
    repeat' ((conv => whnf); first | with_reducible refine Dec.t (show true = true from rfl) ?_ | with_reducible refine Dec.t (show false = false from rfl) ?_ | with_reducible refine Dec.f (show ¬ (true = false) by decide) ?_ | with_reducible refine Dec.f (show ¬ (false = true) by decide) ?_ | refine Dec.t (by omega) ?_ | refine Dec.f (by omega) ?_ | refine Dec.split (fun _ => ?_) (fun _ => ?_) | refine Wr.id (by omega) ?_ | refine Chk.mk (by first | omega | exact rfl | (simp only [List.length_map]; omega) | (simp [room]; done) | (simp [room]; omega) | (simp [dropL, room]; done) | (simp [dropL, room]; omega)) ?_ | refine Nam.mk (List.length_map _) ?_ | refine Prep.skip ?_ | refine Eith.l ?_ | refine chk_t (x := D.flat _) (by assumption) ?_ | refine br_mk (fun _ => ?_) (fun _ => ?_) | refine ACall.of (facts_Check l (by omega)) ?_ | refine APCall.of (facts_Check l (by omega)) ?_ | fail)
    all_goals (conv => whnf)
    exact (by repeat (first | exact trivial | exact rfl | exact DLe.refl _ | exact DLe.full _ _ _ | exact DLe.nil _ _ _ | exact VLe.refl _ | refine And.intro ?_ ?_ | refine VLe.d ?_ | refine DLe.agg ?_))
theorem ref04_Add (l : List Fact) (f : Fact) (hl : l.length < 2 ^ 26) : CallP Try.prog 66 [.d (SL 8 (l.map Fact.d)), .d f.d] (retD [SL 8 ((addM l f).1.map Fact.d), I (addM l f).2]) := by
  refine exPure_sound (E := envOf Try.prog tt Try.f66.ntmps) (envOf_ok ttok mixed) Try.func66 (by rfl) rfl rfl (Nat.le_of_ble_eq_true rfl) ?_
  unfold addM
  by_cases hc : checkM l = 0
  · rw [if_pos hc]
    have hC := ref04_Check l (by omega)
    rw [hc] at hC
    by_cases hf : f.ok
    · rw [if_pos hf]
      cases hgl : l.getLast? with
      | none =>
        have : l = [] := by simpa using hgl
        subst this
        rw [if_pos (by simp)]
        repeat' ((conv => whnf); first | with_reducible refine Dec.t (show true = true from rfl) ?_ | with_reducible refine Dec.t (show false = false from rfl) ?_ | with_reducible refine Dec.f (show ¬ (true = false) by decide) ?_ | with_reducible refine Dec.f (show ¬ (false = true) by decide) ?_ | refine Dec.t (by omega) ?_ | refine Dec.f (by omega) ?_ | refine Dec.split (fun _ => ?_) (fun _ => ?_) | refine Wr.id (by omega) ?_ | refine Chk.mk (by first | omega | exact rfl | (simp only [List.length_map]; omega) | (simp [room]; done) | (simp [room]; omega) | (simp [dropL, room]; done) | (simp [dropL, room]; omega)) ?_ | refine Nam.mk (List.length_map _) ?_ | refine Prep.skip ?_ | refine Eith.l ?_ | refine chk_t (x := D.flat _) (by assumption) ?_ | refine br_mk (fun _ => ?_) (fun _ => ?_) | refine ACall.of (hC) ?_ | refine APCall.of (hC) ?_ | refine ACall.ofB (ref04_Valid f) (fun _ => ?_) (fun h => absurd hf (of_decide_eq_false h)) | refine Nam.mk (y := 0) rfl ?_ | refine Nam.mk (y := [f].map Fact.d) rfl ?_ | fail)
        all_goals first | (rename_i h; exact absurd h (show ¬ (0 < ((([] : List Fact).length : Nat) : Int)) from by decide)) | skip
        all_goals (conv => whnf)
        exact (by repeat (first | exact trivial | exact rfl | exact DLe.refl _ | exact DLe.full _ _ _ | exact DLe.nil _ _ _ | exact VLe.refl _ | refine And.intro ?_ ?_ | refine VLe.d ?_ | refine DLe.agg ?_))
      | some g =>
        have hne : l ≠ [] := by rintro rfl; simp at hgl
        have hpos : 0 < l.length := List.length_pos_iff.2 hne
        have hg : (l.map Fact.d)[((l.length : Int) - 1).toNat]? = some g.d := by
          rw [show ((l.length : Int) - 1).toNat = l.length - 1 by omega, List.getElem?_map, ← List.getLast?_eq_getElem?, hgl]; rfl
        by_cases hb : before g f
        · rw [if_pos (by intro g' e; cases e; exact hb)]
          have hB := ref04_Before' g f
          rw [decide_eq_true hb] at hB
          repeat' ((conv => whnf); first | with_reducible refine Dec.t (show true = true from rfl) ?_ | with_reducible refine Dec.t (show false = false from rfl) ?_ | with_reducible refine Dec.f (show ¬ (true = false) by decide) ?_ | with_reducible refine Dec.f (show ¬ (false = true) by decide) ?_ | refine Dec.t (by omega) ?_ | refine Dec.f (by omega) ?_ | refine Dec.split (fun _ => ?_) (fun _ => ?_) | refine Wr.id (by omega) ?_ | refine Chk.mk (by first | omega | exact rfl | (simp only [List.length_map]; omega) | (simp [room]; done) | (simp [room]; omega) | (simp [dropL, room]; done) | (simp [dropL, room]; omega)) ?_ | refine Nam.mk (List.length_map _) ?_ | refine Prep.skip ?_ | refine Eith.l ?_ | refine chk_t (x := D.flat _) (by assumption) ?_ | refine br_mk (fun _ => ?_) (fun _ => ?_) | refine ACall.of (hC) ?_ | refine APCall.of (hC) ?_ | refine ACall.ofB (ref04_Valid f) (fun _ => ?_) (fun h => absurd hf (of_decide_eq_false h)) | refine nthK_mk hg ?_ | refine ACall.of (hB) ?_ | refine APCall.of (hB) ?_ | refine Nam.mk (y := (l ++ [f]).map Fact.d) ((whole (by simp [dropL])).trans (by rw [List.map_append]; rfl)) ?_ | fail)
          all_goals (conv => whnf)
          exact (by repeat (first | exact trivial | exact rfl | exact DLe.refl _ | exact DLe.full _ _ _ | exact DLe.nil _ _ _ | exact VLe.refl _ | refine And.intro ?_ ?_ | refine VLe.d ?_ | refine DLe.agg ?_))
        · rw [if_neg (fun h => hb (h g rfl))]
          have hB := ref04_Before' g f
          rw [decide_eq_false hb] at hB
          repeat' ((conv => whnf); first | with_reducible refine Dec.t (show true = true from rfl) ?_ | with_reducible refine Dec.t (show false = false from rfl) ?_ | with_reducible refine Dec.f (show ¬ (true = false) by decide) ?_ | with_reducible refine Dec.f (show ¬ (false = true) by decide) ?_ | refine Dec.t (by omega) ?_ | refine Dec.f (by omega) ?_ | refine Dec.split (fun _ => ?_) (fun _ => ?_) | refine Wr.id (by omega) ?_ | refine Chk.mk (by first | omega | exact rfl | (simp only [List.length_map]; omega) | (simp [room]; done) | (simp [room]; omega) | (simp [dropL, room]; done) | (simp [dropL, room]; omega)) ?_ | refine Nam.mk (List.length_map _) ?_ | refine Prep.skip ?_ | refine Eith.l ?_ | refine chk_t (x := D.flat _) (by assumption) ?_ | refine br_mk (fun _ => ?_) (fun _ => ?_) | refine ACall.of (hC) ?_ | refine APCall.of (hC) ?_ | refine ACall.ofB (ref04_Valid f) (fun _ => ?_) (fun h => absurd hf (of_decide_eq_false h)) | refine nthK_mk hg ?_ | refine ACall.of (hB) ?_ | refine APCall.of (hB) ?_ | fail)
          all_goals (conv => whnf)
          exact (by repeat (first | exact trivial | exact rfl | exact DLe.refl _ | exact DLe.full _ _ _ | exact DLe.nil _ _ _ | exact VLe.refl _ | refine And.intro ?_ ?_ | refine VLe.d ?_ | refine DLe.agg ?_))
    · rw [if_neg hf]
      repeat' ((conv => whnf); first | with_reducible refine Dec.t (show true = true from rfl) ?_ | with_reducible refine Dec.t (show false = false from rfl) ?_ | with_reducible refine Dec.f (show ¬ (true = false) by decide) ?_ | with_reducible refine Dec.f (show ¬ (false = true) by decide) ?_ | refine Dec.t (by omega) ?_ | refine Dec.f (by omega) ?_ | refine Dec.split (fun _ => ?_) (fun _ => ?_) | refine Wr.id (by omega) ?_ | refine Chk.mk (by first | omega | exact rfl | (simp only [List.length_map]; omega) | (simp [room]; done) | (simp [room]; omega) | (simp [dropL, room]; done) | (simp [dropL, room]; omega)) ?_ | refine Nam.mk (List.length_map _) ?_ | refine Prep.skip ?_ | refine Eith.l ?_ | refine chk_t (x := D.flat _) (by assumption) ?_ | refine br_mk (fun _ => ?_) (fun _ => ?_) | refine ACall.of (hC) ?_ | refine APCall.of (hC) ?_ | refine ACall.ofB (ref04_Valid f) (fun h => absurd (of_decide_eq_true h) hf) (fun _ => ?_) | fail)
      all_goals (conv => whnf)
      exact (by repeat (first | exact trivial | exact rfl | exact DLe.refl _ | exact DLe.full _ _ _ | exact DLe.nil _ _ _ | exact VLe.refl _ | refine And.intro ?_ ?_ | refine VLe.d ?_ | refine DLe.agg ?_))
  · rw [if_neg hc]
    repeat' ((conv => whnf); first | with_reducible refine Dec.t (show true = true from rfl) ?_ | with_reducible refine Dec.t (show false = false from rfl) ?_ | with_reducible refine Dec.f (show ¬ (true = false) by decide) ?_ | with_reducible refine Dec.f (show ¬ (false = true) by decide) ?_ | refine Dec.t (by omega) ?_ | refine Dec.f (by omega) ?_ | refine Dec.split (fun _ => ?_) (fun _ => ?_) | refine Wr.id (by omega) ?_ | refine Chk.mk (by first | omega | exact rfl | (simp only [List.length_map]; omega) | (simp [room]; done) | (simp [room]; omega) | (simp [dropL, room]; done) | (simp [dropL, room]; omega)) ?_ | refine Nam.mk (List.length_map _) ?_ | refine Prep.skip ?_ | refine Eith.l ?_ | refine chk_t (x := D.flat _) (by assumption) ?_ | refine br_mk (fun _ => ?_) (fun _ => ?_) | refine ACall.of (ref04_Check l (by omega)) ?_ | refine APCall.of (ref04_Check l (by omega)) ?_ | fail)
    all_goals (conv => whnf)
    exact (by repeat (first | exact trivial | exact rfl | exact DLe.refl _ | exact DLe.full _ _ _ | exact DLe.nil _ _ _ | exact VLe.refl _ | refine And.intro ?_ ?_ | refine VLe.d ?_ | refine DLe.agg ?_))
end Go.PM

