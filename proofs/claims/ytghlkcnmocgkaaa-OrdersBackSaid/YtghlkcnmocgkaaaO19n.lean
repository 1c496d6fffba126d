/- Package orders: raised, Put. -/
import Derived.Test.YtghlkcnmocgkaaaO19m
import Derived.Test.YtghlkcnmocgkaaaF04c
namespace Go.PM
open Go.Proofs
set_option maxRecDepth 10000
set_option maxHeartbeats 8000000

def spanD (a b : Int) : D := .agg [I a, I b]
def maxV (v : Int) (p : Pt) : Int := if p.value > v then p.value else v
def enough (no a b : Int) (l : List Pt) : Nat := (l.filter fun p => decide (a ≤ p.day) && decide (p.day < b) && decide (no < p.value)).length
def raisedM (l : List Fact) (no a b known : Int) : Int × Bool :=
  ((pointsM l (headO 1) 0 1024 known).foldl maxV (no + 1), decide ((enough no a b (pointsM l (headO 1) 0 1024 known) : Int) < b - a))
theorem orders_raised (l : List Fact) (no a b known : Int) (hl : l.length < 2 ^ 40) (hno : 0 ≤ no ∧ no ≤ 1023) (hab : 0 ≤ a ∧ a < b ∧ b ≤ 1024) :
    CallP Try.prog 41 [.d (SL 8 (l.map Fact.d)), .d (headO 1).d, .d (I no), .d (spanD a b), .d (I known)] (retD [I (raisedM l no a b known).1, .b (raisedM l no a b known).2]) := by
  refine exPure_sound (E := envOf Try.prog tt Try.f41.ntmps) (envOf_ok ttok mixed) Try.func41 (by rfl) rfl rfl (Nat.le_of_ble_eq_true rfl) ?_
  unfold raisedM
  have hP := facts_Points l (headO 1) 0 1024 known hl
  have hPl : (pointsM l (headO 1) 0 1024 known).length ≤ 1024 := Nat.le_trans (points_len _ _ _ _ _) (by simp [daysN, hi0, lo0])
  generalize pointsM l (headO 1) 0 1024 known = P at hP hPl
  repeat' ((conv => whnf); first | with_reducible refine Dec.t (show true = true from rfl) ?_ | with_reducible refine Dec.t (show false = false from rfl) ?_ | with_reducible refine Dec.f (show ¬ (true = false) by decide) ?_ | with_reducible refine Dec.f (show ¬ (false = true) by decide) ?_ | refine Dec.t (by omega) ?_ | refine Dec.f (by omega) ?_ | refine Dec.split (fun _ => ?_) (fun _ => ?_) | refine Wr.id (by omega) ?_ | refine Chk.mk (by first | omega | exact rfl | (simp only [List.length_map]; omega) | (simp [room]; done) | (simp [room]; omega) | (simp [dropL, room]; done) | (simp [dropL, room]; omega)) ?_ | refine Nam.mk (List.length_map _) ?_ | refine Prep.skip ?_ | refine Eith.l ?_ | refine chk_t (x := D.flat _) (by assumption) ?_ | refine br_mk (fun _ => ?_) (fun _ => ?_) | refine ACall.of (hP) ?_ | refine APCall.of (hP) ?_ | fail)
  all_goals (conv => whnf)
  refine ALoop.at (E := envOf Try.prog tt Try.f41.ntmps) (envOf_ok ttok mixed) (X := Nat × Int × Nat) (fun x => [(22, .d (I x.1)), (10, .d (I x.2.1)), (12, .d (I x.2.2))]) (fun _ => [])
    (fun x => x.1 ≤ P.length ∧ x.2.2 ≤ x.1 ∧ (P.drop x.1).foldl maxV x.2.1 = P.foldl maxV (no + 1) ∧ x.2.2 + enough no a b (P.drop x.1) = enough no a b P) (fun x => P.length - x.1) (0, no + 1, 0) (by repeat (first | exact trivial | refine And.intro rfl ?_ | refine And.intro (congrArg (fun n => V.d (I n)) (wrap_nat _ (by omega))) ?_)) rfl ⟨Nat.zero_le _, Nat.zero_le _, rfl, by simp⟩ ?_
  rintro ⟨i, v, e⟩ ⟨hi, he, hm1, hm2⟩
  simp only at hi he hm1 hm2
  dsimp only
  by_cases hlt : i < P.length
  · obtain ⟨y, hy, hdr⟩ := drop_get hlt
    rw [hdr] at hm1 hm2
    rw [List.foldl_cons] at hm1
    have hcons : enough no a b (y :: P.drop (i + 1)) = (if a ≤ y.day ∧ y.day < b ∧ no < y.value then 1 else 0) + enough no a b (P.drop (i + 1)) := by
      unfold enough
      rw [List.filter_cons]
      by_cases hq : a ≤ y.day ∧ y.day < b ∧ no < y.value
      · rw [if_pos hq, if_pos (by simpa [and_assoc] using hq)]
        simp; omega
      · rw [if_neg hq, if_neg (by simpa [and_assoc] using hq)]
        simp
    rw [hcons] at hm2
    clear hcons
    repeat' ((conv => whnf); first | with_reducible refine Dec.t (show true = true from rfl) ?_ | with_reducible refine Dec.t (show false = false from rfl) ?_ | with_reducible refine Dec.f (show ¬ (true = false) by decide) ?_ | with_reducible refine Dec.f (show ¬ (false = true) by decide) ?_ | refine Dec.t (by omega) ?_ | refine Dec.f (by omega) ?_ | refine Dec.split (fun _ => ?_) (fun _ => ?_) | refine Wr.id (by omega) ?_ | refine Chk.mk (by first | omega | exact rfl | (simp only [List.length_map]; omega) | (simp [room]; done) | (simp [room]; omega) | (simp [dropL, room]; done) | (simp [dropL, room]; omega)) ?_ | refine Nam.mk (List.length_map _) ?_ | refine Prep.skip ?_ | refine Eith.l ?_ | refine chk_t (x := D.flat _) (by assumption) ?_ | refine br_mk (fun _ => ?_) (fun _ => ?_) | refine nthK_mk (map_get hy) ?_ | fail)
    all_goals (conv => whnf)
    all_goals first
      | (rw [if_pos (by omega)] at hm2
         exact ⟨(i + 1, maxV v y, e + 1), Wm.end (by repeat (first | exact trivial | refine And.intro rfl ?_ | refine And.intro (congrArg (fun n => V.d (I n)) (wrap_nat _ (by omega))) ?_)) rfl rfl rfl, ⟨hlt, by simp only; omega, hm1, by simp only; omega⟩, by simp only; omega⟩)
      | (rw [if_neg (by omega)] at hm2
         exact ⟨(i + 1, maxV v y, e), Wm.end (by repeat (first | exact trivial | refine And.intro rfl ?_ | refine And.intro (congrArg (fun n => V.d (I n)) (wrap_nat _ (by omega))) ?_)) rfl rfl rfl, ⟨hlt, by simp only; omega, hm1, by simp only; omega⟩, by simp only; omega⟩)
  · have : i = P.length := by omega
    subst this
    rw [List.drop_length] at hm1 hm2
    rw [List.foldl_nil] at hm1
    rw [← hm1, ← hm2, show enough no a b [] = 0 from rfl, Nat.add_zero]
    repeat' ((conv => whnf); first | with_reducible refine Dec.t (show true = true from rfl) ?_ | with_reducible refine Dec.t (show false = false from rfl) ?_ | with_reducible refine Dec.f (show ¬ (true = false) by decide) ?_ | with_reducible refine Dec.f (show ¬ (false = true) by decide) ?_ | refine Dec.t (by omega) ?_ | refine Dec.f (by omega) ?_ | refine Dec.split (fun _ => ?_) (fun _ => ?_) | refine Wr.id (by omega) ?_ | refine Chk.mk (by first | omega | exact rfl | (simp only [List.length_map]; omega) | (simp [room]; done) | (simp [room]; omega) | (simp [dropL, room]; done) | (simp [dropL, room]; omega)) ?_ | refine Nam.mk (List.length_map _) ?_ | refine Prep.skip ?_ | refine Eith.l ?_ | refine chk_t (x := D.flat _) (by assumption) ?_ | refine br_mk (fun _ => ?_) (fun _ => ?_) | fail)
    all_goals (conv => whnf)
    all_goals first | (rw [decide_eq_true (by assumption)]; exact (by repeat (first | exact trivial | exact rfl | exact DLe.refl _ | exact DLe.full _ _ _ | exact DLe.nil _ _ _ | exact VLe.refl _ | refine And.intro ?_ ?_ | refine VLe.d ?_ | refine DLe.agg ?_))) | (rw [decide_eq_false (by assumption)]; exact (by repeat (first | exact trivial | exact rfl | exact DLe.refl _ | exact DLe.full _ _ _ | exact DLe.nil _ _ _ | exact VLe.refl _ | refine And.intro ?_ ?_ | refine VLe.d ?_ | refine DLe.agg ?_)))
def addsM : List Fact → List Fact → List Fact × Int
  | l, [] => (l, 0)
  | l, f :: fs => if (addM l f).2 = 0 then addsM (addM l f).1 fs else ([], (addM l f).2)
theorem addM_len (l : List Fact) (f : Fact) : (addM l f).1.length ≤ l.length + 1 := by
  unfold addM
  repeat' split
  all_goals simp
theorem addM_ok {l : List Fact} {f : Fact} (h : (addM l f).2 = 0) : checkM l = 0 ∧ f.ok ∧ (∀ g, l.getLast? = some g → before g f) ∧ (addM l f).1 = l ++ [f] := by
  unfold addM at h ⊢
  by_cases h1 : checkM l = 0
  · by_cases h2 : f.ok
    · by_cases h3 : ∀ g, l.getLast? = some g → before g f
      · refine ⟨h1, h2, h3, ?_⟩
        rw [if_pos h1, if_pos h2, if_pos h3]
      · rw [if_pos h1, if_pos h2, if_neg h3] at h; exact absurd h (by decide)
    · rw [if_pos h1, if_neg h2] at h; exact absurd h (by decide)
  · rw [if_neg h1] at h; exact absurd h h1
/-- The facts that record an order. -/
def ordFacts (x : Ord) (a b known n : Int) : List Fact := [⟨2, x.no, 0, x.item, a, b, known, n⟩, ⟨2, x.no, 1, x.plant, a, b, known, n + 1⟩, ⟨2, x.no, 2, x.config, a, b, known, n + 1 + 1⟩, ⟨2, x.no, 3, x.amount, a, b, known, n + 1 + 1 + 1⟩, ⟨2, x.no, 4, x.due, a, b, known, n + 1 + 1 + 1 + 1⟩, ⟨2, x.no, 5, x.cust, a, b, known, n + 1 + 1 + 1 + 1 + 1⟩, ⟨2, x.no, 6, x.shelf, a, b, known, n + 1 + 1 + 1 + 1 + 1 + 1⟩]
def headFact (v known n : Int) : Fact := ⟨0, 0, 1, v, 0, 1024, known, n⟩
def nextNo (l : List Fact) (known : Int) : Int := match l.getLast? with
  | none => 0
  | some f => if f.known = known then f.no + 1 else 0
def putM (s : Src) (l : List Fact) (x : Ord) (a b known : Int) : List Fact × Int :=
  if checkM l = 0 then
    (if (0 ≤ x.no ∧ x.no ≤ 1023) ∧ x.right s then
      (if (addsM l (ordFacts x a b known (nextNo l known))).2 = 0 then
        (if (raisedM (addsM l (ordFacts x a b known (nextNo l known))).1 x.no a b known).2 = true then
          addsM (addsM l (ordFacts x a b known (nextNo l known))).1 [headFact (raisedM (addsM l (ordFacts x a b known (nextNo l known))).1 x.no a b known).1 known (nextNo l known + 1 + 1 + 1 + 1 + 1 + 1 + 1)]
         else addsM l (ordFacts x a b known (nextNo l known)))
       else addsM l (ordFacts x a b known (nextNo l known)))
     else ([], 190))
  else ([], checkM l)
def Src.zero : Src := ⟨.sl 0 true [], [], [], .sl 0 true [], [], [], .sl 0 true [], .sl 0 true []⟩
def OWorld.zero : OWorld := ⟨Src.zero, .sl 0 true [], .sl 0 true [], []⟩
def OWorld.put (w : OWorld) (r : List Fact × Int) : OWorld := if r.2 = 0 then { w with facts := r.1 } else OWorld.zero
theorem zero_le : DLe (.agg [.sl 0 true [], .sl 0 true [], .sl 0 true [], .sl 0 true [], .sl 0 true [], .sl 0 true [], .sl 0 true [], .sl 0 true [], .sl 0 true [], .sl 0 true [], .sl 0 true []]) OWorld.zero.d := by
  refine DLe.agg ?_
  exact ⟨DLe.refl _, DLe.nil _ _ _, DLe.nil _ _ _, DLe.refl _, DLe.nil _ _ _, DLe.nil _ _ _, DLe.refl _, DLe.refl _, DLe.refl _, DLe.refl _, DLe.nil _ _ _, rfl⟩
theorem ok_span {f : Fact} (h : f.ok) : 0 ≤ f.from_ ∧ f.from_ < f.to_ ∧ f.to_ ≤ 1024 := by unfold Fact.ok at h; omega
theorem orders_field1 (n ver e o : Nat) : CallP Try.prog 51 [.ptr n ver e o] (.ptr n ver e (o + 1)) := callP_of fun h => by
  refine exFn_sound (E := (envOf Try.prog tt Try.f51.ntmps)) (envOf_ok ttok mixed) Try.func51 (by rfl) rfl (Nat.le_of_ble_eq_true rfl) ?_
  conv => whnf
  exact ⟨rfl, rfl⟩
theorem orders_field2 (n ver e o : Nat) : CallP Try.prog 52 [.ptr n ver e o] (.ptr n ver e (o + 2)) := callP_of fun h => by
  refine exFn_sound (E := (envOf Try.prog tt Try.f52.ntmps)) (envOf_ok ttok mixed) Try.func52 (by rfl) rfl (Nat.le_of_ble_eq_true rfl) ?_
  conv => whnf
  exact ⟨rfl, rfl⟩
theorem orders_field3 (n ver e o : Nat) : CallP Try.prog 53 [.ptr n ver e o] (.ptr n ver e (o + 3)) := callP_of fun h => by
  refine exFn_sound (E := (envOf Try.prog tt Try.f53.ntmps)) (envOf_ok ttok mixed) Try.func53 (by rfl) rfl (Nat.le_of_ble_eq_true rfl) ?_
  conv => whnf
  exact ⟨rfl, rfl⟩
theorem orders_field4 (n ver e o : Nat) : CallP Try.prog 54 [.ptr n ver e o] (.ptr n ver e (o + 4)) := callP_of fun h => by
  refine exFn_sound (E := (envOf Try.prog tt Try.f54.ntmps)) (envOf_ok ttok mixed) Try.func54 (by rfl) rfl (Nat.le_of_ble_eq_true rfl) ?_
  conv => whnf
  exact ⟨rfl, rfl⟩
theorem orders_field5 (n ver e o : Nat) : CallP Try.prog 55 [.ptr n ver e o] (.ptr n ver e (o + 5)) := callP_of fun h => by
  refine exFn_sound (E := (envOf Try.prog tt Try.f55.ntmps)) (envOf_ok ttok mixed) Try.func55 (by rfl) rfl (Nat.le_of_ble_eq_true rfl) ?_
  conv => whnf
  exact ⟨rfl, rfl⟩
theorem orders_field6 (n ver e o : Nat) : CallP Try.prog 56 [.ptr n ver e o] (.ptr n ver e (o + 6)) := callP_of fun h => by
  refine exFn_sound (E := (envOf Try.prog tt Try.f56.ntmps)) (envOf_ok ttok mixed) Try.func56 (by rfl) rfl (Nat.le_of_ble_eq_true rfl) ?_
  conv => whnf
  exact ⟨rfl, rfl⟩
theorem orders_field7 (n ver e o : Nat) : CallP Try.prog 57 [.ptr n ver e o] (.ptr n ver e (o + 7)) := callP_of fun h => by
  refine exFn_sound (E := (envOf Try.prog tt Try.f57.ntmps)) (envOf_ok ttok mixed) Try.func57 (by rfl) rfl (Nat.le_of_ble_eq_true rfl) ?_
  conv => whnf
  exact ⟨rfl, rfl⟩
theorem orders_Put (w : OWorld) (x : Ord) (a b known : Int) (hl : w.facts.length < 2 ^ 19) (hf : w.src.few) (hw : w.src.wide) (hxc : x.config < 9223372036854775808) : CallP Try.prog 20 [.d w.d, .d x.d, .d (spanD a b), .d (I known)] (retD [(w.put (putM w.src w.facts x a b known)).d, I (putM w.src w.facts x a b known).2]) := by
  refine exPure_sound (E := envOf Try.prog tt Try.f20.ntmps) (envOf_ok ttok mixed) Try.func20 (by rfl) rfl rfl (Nat.le_of_ble_eq_true rfl) ?_
  have hC := facts_Check w.facts (by omega)
  have hR := orders_right w.src x hf hw hxc
  have bad : ∀ e : Int, e ≠ 0 → putM w.src w.facts x a b known = ([], e) → DLe (.agg [.sl 0 true [], .sl 0 true [], .sl 0 true [], .sl 0 true [], .sl 0 true [], .sl 0 true [], .sl 0 true [], .sl 0 true [], .sl 0 true [], .sl 0 true [], .sl 0 true []]) (w.put (putM w.src w.facts x a b known)).d ∧ (putM w.src w.facts x a b known).2 = e := fun e he hp => by
    rw [hp]
    unfold OWorld.put
    rw [if_neg he]
    exact ⟨zero_le, rfl⟩
  have good : ∀ l', putM w.src w.facts x a b known = (l', 0) → w.put (putM w.src w.facts x a b known) = { w with facts := l' } ∧ (putM w.src w.facts x a b known).2 = 0 := fun l' hp => by
    rw [hp]
    exact ⟨rfl, rfl⟩
  by_cases hc : checkM w.facts = 0
  · rw [hc] at hC
    by_cases hr : x.right w.src
    · rw [decide_eq_true hr] at hR
      by_cases hno : 0 ≤ x.no ∧ x.no ≤ 1023
      · obtain ⟨n, hn, hnb⟩ : ∃ n, nextNo w.facts known = n ∧ 0 ≤ n ∧ n ≤ 65536 := by
          refine ⟨_, rfl, ?_⟩
          unfold nextNo
          cases hgl : w.facts.getLast? with
          | none => simp
          | some g =>
            have hg : g.ok := by
              have hall : ∀ f ∈ w.facts, f.ok := by
                unfold checkM at hc
                by_cases h : ∀ f ∈ w.facts, f.ok
                · exact h
                · rw [if_neg h] at hc; exact absurd hc (by decide)
              exact hall g (List.mem_of_getLast? hgl)
            unfold Fact.ok at hg
            simp only
            split <;> omega
        have hput0 : putM w.src w.facts x a b known = (if (addsM w.facts (ordFacts x a b known n)).2 = 0 then
            (if (raisedM (addsM w.facts (ordFacts x a b known n)).1 x.no a b known).2 = true then
              addsM (addsM w.facts (ordFacts x a b known n)).1 [headFact (raisedM (addsM w.facts (ordFacts x a b known n)).1 x.no a b known).1 known (n + 1 + 1 + 1 + 1 + 1 + 1 + 1)]
             else addsM w.facts (ordFacts x a b known n))
           else addsM w.facts (ordFacts x a b known n)) := by unfold putM; rw [if_pos hc, if_pos ⟨hno, hr⟩, hn]
        have c0 := facts_Add w.facts ⟨2, x.no, 0, x.item, a, b, known, n⟩ (by omega)
        have k0 := addM_len w.facts ⟨2, x.no, 0, x.item, a, b, known, n⟩
        by_cases hab : 0 ≤ a ∧ a < b ∧ b ≤ 1024
        · generalize hA0 : addM w.facts ⟨2, x.no, 0, x.item, a, b, known, n⟩ = A0 at c0 k0
          obtain ⟨l1, e1⟩ := A0
          simp only at c0 k0
          have c1 := facts_Add l1 ⟨2, x.no, 1, x.plant, a, b, known, n + 1⟩ (by omega)
          have k1 := addM_len l1 ⟨2, x.no, 1, x.plant, a, b, known, n + 1⟩
          generalize hA1 : addM l1 ⟨2, x.no, 1, x.plant, a, b, known, n + 1⟩ = A1 at c1 k1
          obtain ⟨l2, e2⟩ := A1
          simp only at c1 k1
          have c2 := facts_Add l2 ⟨2, x.no, 2, x.config, a, b, known, n + 1 + 1⟩ (by omega)
          have k2 := addM_len l2 ⟨2, x.no, 2, x.config, a, b, known, n + 1 + 1⟩
          generalize hA2 : addM l2 ⟨2, x.no, 2, x.config, a, b, known, n + 1 + 1⟩ = A2 at c2 k2
          obtain ⟨l3, e3⟩ := A2
          simp only at c2 k2
          have c3 := facts_Add l3 ⟨2, x.no, 3, x.amount, a, b, known, n + 1 + 1 + 1⟩ (by omega)
          have k3 := addM_len l3 ⟨2, x.no, 3, x.amount, a, b, known, n + 1 + 1 + 1⟩
          generalize hA3 : addM l3 ⟨2, x.no, 3, x.amount, a, b, known, n + 1 + 1 + 1⟩ = A3 at c3 k3
          obtain ⟨l4, e4⟩ := A3
          simp only at c3 k3
          have c4 := facts_Add l4 ⟨2, x.no, 4, x.due, a, b, known, n + 1 + 1 + 1 + 1⟩ (by omega)
          have k4 := addM_len l4 ⟨2, x.no, 4, x.due, a, b, known, n + 1 + 1 + 1 + 1⟩
          generalize hA4 : addM l4 ⟨2, x.no, 4, x.due, a, b, known, n + 1 + 1 + 1 + 1⟩ = A4 at c4 k4
          obtain ⟨l5, e5⟩ := A4
          simp only at c4 k4
          have c5 := facts_Add l5 ⟨2, x.no, 5, x.cust, a, b, known, n + 1 + 1 + 1 + 1 + 1⟩ (by omega)
          have k5 := addM_len l5 ⟨2, x.no, 5, x.cust, a, b, known, n + 1 + 1 + 1 + 1 + 1⟩
          generalize hA5 : addM l5 ⟨2, x.no, 5, x.cust, a, b, known, n + 1 + 1 + 1 + 1 + 1⟩ = A5 at c5 k5
          obtain ⟨l6, e6⟩ := A5
          simp only at c5 k5
          have c6 := facts_Add l6 ⟨2, x.no, 6, x.shelf, a, b, known, n + 1 + 1 + 1 + 1 + 1 + 1⟩ (by omega)
          have k6 := addM_len l6 ⟨2, x.no, 6, x.shelf, a, b, known, n + 1 + 1 + 1 + 1 + 1 + 1⟩
          generalize hA6 : addM l6 ⟨2, x.no, 6, x.shelf, a, b, known, n + 1 + 1 + 1 + 1 + 1 + 1⟩ = A6 at c6 k6
          obtain ⟨l7, e7⟩ := A6
          simp only at c6 k6
          have c7 := orders_raised l7 x.no a b known (by omega) hno hab
          generalize hA7 : raisedM l7 x.no a b known = A7 at c7
          obtain ⟨v, ok⟩ := A7
          simp only at c7
          have c8 := facts_Add l7 (headFact v known (n + 1 + 1 + 1 + 1 + 1 + 1 + 1)) (by omega)
          generalize hA8 : addM l7 (headFact v known (n + 1 + 1 + 1 + 1 + 1 + 1 + 1)) = A8 at c8
          obtain ⟨l8, e8⟩ := A8
          simp only at c8
          have hput : putM w.src w.facts x a b known = (if e1 = 0 then (if e2 = 0 then (if e3 = 0 then (if e4 = 0 then (if e5 = 0 then (if e6 = 0 then (if e7 = 0 then (if ok = true then (if e8 = 0 then (l8, 0) else ([], e8)) else (l7, 0)) else ([], e7)) else ([], e6)) else ([], e5)) else ([], e4)) else ([], e3)) else ([], e2)) else ([], e1)) := by
            rw [hput0]
            simp only [ordFacts, addsM, hA0, hA1, hA2, hA3, hA4, hA5, hA6]
            by_cases q1 : e1 = 0
            case neg => simp only [if_neg q1]
            by_cases q2 : e2 = 0
            case neg => simp only [if_pos q1, if_neg q2]
            by_cases q3 : e3 = 0
            case neg => simp only [if_pos q1, if_pos q2, if_neg q3]
            by_cases q4 : e4 = 0
            case neg => simp only [if_pos q1, if_pos q2, if_pos q3, if_neg q4]
            by_cases q5 : e5 = 0
            case neg => simp only [if_pos q1, if_pos q2, if_pos q3, if_pos q4, if_neg q5]
            by_cases q6 : e6 = 0
            case neg => simp only [if_pos q1, if_pos q2, if_pos q3, if_pos q4, if_pos q5, if_neg q6]
            by_cases q7 : e7 = 0
            case neg => simp only [if_pos q1, if_pos q2, if_pos q3, if_pos q4, if_pos q5, if_pos q6, if_neg q7]
            simp only [if_pos q1, if_pos q2, if_pos q3, if_pos q4, if_pos q5, if_pos q6, if_pos q7, if_true, hA7, hA8]
          clear hput0 hA0 hA1 hA2 hA3 hA4 hA5 hA6 hA7 hA8
          cases hgl : w.facts.getLast? with
          | none =>
            have hnil : (w.facts.length : Int) = 0 := by rw [show w.facts = [] by simpa using hgl]; rfl
            obtain rfl : 0 = n := by rw [← hn]; unfold nextNo; rw [hgl]
            repeat' ((conv => whnf); first | refine Nam.mk (y := 7) rfl ?_ | with_reducible refine Dec.t (show true = true from rfl) ?_ | with_reducible refine Dec.t (show false = false from rfl) ?_ | with_reducible refine Dec.f (show ¬ (true = false) by decide) ?_ | with_reducible refine Dec.f (show ¬ (false = true) by decide) ?_ | refine Dec.t (by omega) ?_ | refine Dec.f (by omega) ?_ | refine Dec.split (fun _ => ?_) (fun _ => ?_) | refine Wr.id (by omega) ?_ | refine Chk.mk (by first | omega | exact rfl | (simp only [List.length_map]; omega) | (simp [room]; done) | (simp [room]; omega) | (simp [dropL, room]; done) | (simp [dropL, room]; omega)) ?_ | refine Nam.mk (List.length_map _) ?_ | refine Prep.skip ?_ | refine Eith.l ?_ | refine chk_t (x := D.flat _) (by assumption) ?_ | refine br_mk (fun _ => ?_) (fun _ => ?_) | refine ACall.of (hC) ?_ | refine APCall.of (hC) ?_ | refine ACall.of (hR) ?_ | refine APCall.of (hR) ?_ | refine nthK_mk hg ?_ | refine ACall.of (orders_customers) ?_ | refine APCall.of (orders_customers) ?_ | refine ALoop.rounds 8 ?_ | refine ALoopN.step (E := (envOf Try.prog tt Try.f20.ntmps)) (envOf_ok ttok mixed) ?_ | refine APCall.of (orders_field1 _ _ _ _) ?_ | refine ACall.of (orders_field1 _ _ _ _) ?_ | refine APCall.of (orders_field2 _ _ _ _) ?_ | refine ACall.of (orders_field2 _ _ _ _) ?_ | refine APCall.of (orders_field3 _ _ _ _) ?_ | refine ACall.of (orders_field3 _ _ _ _) ?_ | refine APCall.of (orders_field4 _ _ _ _) ?_ | refine ACall.of (orders_field4 _ _ _ _) ?_ | refine APCall.of (orders_field5 _ _ _ _) ?_ | refine ACall.of (orders_field5 _ _ _ _) ?_ | refine APCall.of (orders_field6 _ _ _ _) ?_ | refine ACall.of (orders_field6 _ _ _ _) ?_ | refine APCall.of (orders_field7 _ _ _ _) ?_ | refine ACall.of (orders_field7 _ _ _ _) ?_ | refine ACall.ofB (orders_between x.no 0 _) (fun _ => ?_) (fun h => absurd hno (of_decide_eq_false h)) | refine APCall.ofB (orders_between x.no 0 _) (fun _ => ?_) (fun h => absurd hno (of_decide_eq_false h)) | refine ACall.of (c0) ?_ | refine APCall.of (c0) ?_ | refine ACall.of (c1) ?_ | refine APCall.of (c1) ?_ | refine ACall.of (c2) ?_ | refine APCall.of (c2) ?_ | refine ACall.of (c3) ?_ | refine APCall.of (c3) ?_ | refine ACall.of (c4) ?_ | refine APCall.of (c4) ?_ | refine ACall.of (c5) ?_ | refine APCall.of (c5) ?_ | refine ACall.of (c6) ?_ | refine APCall.of (c6) ?_ | refine ACall.of (c7) ?_ | refine APCall.of (c7) ?_ | refine ACall.of (c8) ?_ | refine APCall.of (c8) ?_ | fail)
            all_goals (conv => whnf)
            all_goals first
              | (have q : ¬ e1 = 0 := (by assumption); obtain ⟨g1, g2⟩ := bad e1 q (by rw [hput, if_neg q]); rw [g2]; exact ⟨g1, DLe.refl _, rfl⟩)
              | (have q1 : e1 = 0 := (by assumption); have q : ¬ e2 = 0 := (by assumption); obtain ⟨g1, g2⟩ := bad e2 q (by rw [hput, if_pos q1, if_neg q]); rw [g2]; exact ⟨g1, DLe.refl _, rfl⟩)
              | (have q1 : e1 = 0 := (by assumption); have q2 : e2 = 0 := (by assumption); have q : ¬ e3 = 0 := (by assumption); obtain ⟨g1, g2⟩ := bad e3 q (by rw [hput, if_pos q1, if_pos q2, if_neg q]); rw [g2]; exact ⟨g1, DLe.refl _, rfl⟩)
              | (have q1 : e1 = 0 := (by assumption); have q2 : e2 = 0 := (by assumption); have q3 : e3 = 0 := (by assumption); have q : ¬ e4 = 0 := (by assumption); obtain ⟨g1, g2⟩ := bad e4 q (by rw [hput, if_pos q1, if_pos q2, if_pos q3, if_neg q]); rw [g2]; exact ⟨g1, DLe.refl _, rfl⟩)
              | (have q1 : e1 = 0 := (by assumption); have q2 : e2 = 0 := (by assumption); have q3 : e3 = 0 := (by assumption); have q4 : e4 = 0 := (by assumption); have q : ¬ e5 = 0 := (by assumption); obtain ⟨g1, g2⟩ := bad e5 q (by rw [hput, if_pos q1, if_pos q2, if_pos q3, if_pos q4, if_neg q]); rw [g2]; exact ⟨g1, DLe.refl _, rfl⟩)
              | (have q1 : e1 = 0 := (by assumption); have q2 : e2 = 0 := (by assumption); have q3 : e3 = 0 := (by assumption); have q4 : e4 = 0 := (by assumption); have q5 : e5 = 0 := (by assumption); have q : ¬ e6 = 0 := (by assumption); obtain ⟨g1, g2⟩ := bad e6 q (by rw [hput, if_pos q1, if_pos q2, if_pos q3, if_pos q4, if_pos q5, if_neg q]); rw [g2]; exact ⟨g1, DLe.refl _, rfl⟩)
              | (have q1 : e1 = 0 := (by assumption); have q2 : e2 = 0 := (by assumption); have q3 : e3 = 0 := (by assumption); have q4 : e4 = 0 := (by assumption); have q5 : e5 = 0 := (by assumption); have q6 : e6 = 0 := (by assumption); have q : ¬ e7 = 0 := (by assumption); obtain ⟨g1, g2⟩ := bad e7 q (by rw [hput, if_pos q1, if_pos q2, if_pos q3, if_pos q4, if_pos q5, if_pos q6, if_neg q]); rw [g2]; exact ⟨g1, DLe.refl _, rfl⟩)
              | (have q1 : e1 = 0 := (by assumption); have q2 : e2 = 0 := (by assumption); have q3 : e3 = 0 := (by assumption); have q4 : e4 = 0 := (by assumption); have q5 : e5 = 0 := (by assumption); have q6 : e6 = 0 := (by assumption); have q7 : e7 = 0 := (by assumption); have qo : ok = true := (by assumption); have q : ¬ e8 = 0 := (by assumption); obtain ⟨g1, g2⟩ := bad e8 q (by rw [hput, if_pos q1, if_pos q2, if_pos q3, if_pos q4, if_pos q5, if_pos q6, if_pos q7, if_pos qo, if_neg q]); rw [g2]; exact ⟨g1, DLe.refl _, rfl⟩)
              | (have q1 : e1 = 0 := (by assumption); have q2 : e2 = 0 := (by assumption); have q3 : e3 = 0 := (by assumption); have q4 : e4 = 0 := (by assumption); have q5 : e5 = 0 := (by assumption); have q6 : e6 = 0 := (by assumption); have q7 : e7 = 0 := (by assumption); have qo : ok = true := (by assumption); have q : e8 = 0 := (by assumption); obtain ⟨g1, g2⟩ := good l8 (by rw [hput, if_pos q1, if_pos q2, if_pos q3, if_pos q4, if_pos q5, if_pos q6, if_pos q7, if_pos qo, if_pos q]); rw [g1, g2]; exact (by repeat (first | exact trivial | exact rfl | exact DLe.refl _ | exact DLe.full _ _ _ | exact DLe.nil _ _ _ | exact VLe.refl _ | refine And.intro ?_ ?_ | refine VLe.d ?_ | refine DLe.agg ?_)))
              | (have q1 : e1 = 0 := (by assumption); have q2 : e2 = 0 := (by assumption); have q3 : e3 = 0 := (by assumption); have q4 : e4 = 0 := (by assumption); have q5 : e5 = 0 := (by assumption); have q6 : e6 = 0 := (by assumption); have q7 : e7 = 0 := (by assumption); have qo : ¬ ok = true := (by assumption : ok = false) ▸ (by decide); obtain ⟨g1, g2⟩ := good l7 (by rw [hput, if_pos q1, if_pos q2, if_pos q3, if_pos q4, if_pos q5, if_pos q6, if_pos q7, if_neg qo]); rw [g1, g2]; exact (by repeat (first | exact trivial | exact rfl | exact DLe.refl _ | exact DLe.full _ _ _ | exact DLe.nil _ _ _ | exact VLe.refl _ | refine And.intro ?_ ?_ | refine VLe.d ?_ | refine DLe.agg ?_)))
              | fail
          | some g =>
            have hpos : 0 < w.facts.length := by cases hw : w.facts with
              | nil => rw [hw] at hgl; cases hgl
              | cons => simp
            have hg : (w.facts.map Fact.d)[((w.facts.length : Int) - 1).toNat]? = some g.d := by
              rw [show ((w.facts.length : Int) - 1).toNat = w.facts.length - 1 by omega, List.getElem?_map, ← List.getLast?_eq_getElem?, hgl]; rfl
            by_cases hgk : g.known = known
            · obtain rfl : g.no + 1 = n := by rw [← hn]; unfold nextNo; rw [hgl]; simp [hgk]
              repeat' ((conv => whnf); first | refine Nam.mk (y := 7) rfl ?_ | with_reducible refine Dec.t (show true = true from rfl) ?_ | with_reducible refine Dec.t (show false = false from rfl) ?_ | with_reducible refine Dec.f (show ¬ (true = false) by decide) ?_ | with_reducible refine Dec.f (show ¬ (false = true) by decide) ?_ | refine Dec.t (by omega) ?_ | refine Dec.f (by omega) ?_ | refine Dec.split (fun _ => ?_) (fun _ => ?_) | refine Wr.id (by omega) ?_ | refine Chk.mk (by first | omega | exact rfl | (simp only [List.length_map]; omega) | (simp [room]; done) | (simp [room]; omega) | (simp [dropL, room]; done) | (simp [dropL, room]; omega)) ?_ | refine Nam.mk (List.length_map _) ?_ | refine Prep.skip ?_ | refine Eith.l ?_ | refine chk_t (x := D.flat _) (by assumption) ?_ | refine br_mk (fun _ => ?_) (fun _ => ?_) | refine ACall.of (hC) ?_ | refine APCall.of (hC) ?_ | refine ACall.of (hR) ?_ | refine APCall.of (hR) ?_ | refine nthK_mk hg ?_ | refine ACall.of (orders_customers) ?_ | refine APCall.of (orders_customers) ?_ | refine ALoop.rounds 8 ?_ | refine ALoopN.step (E := (envOf Try.prog tt Try.f20.ntmps)) (envOf_ok ttok mixed) ?_ | refine APCall.of (orders_field1 _ _ _ _) ?_ | refine ACall.of (orders_field1 _ _ _ _) ?_ | refine APCall.of (orders_field2 _ _ _ _) ?_ | refine ACall.of (orders_field2 _ _ _ _) ?_ | refine APCall.of (orders_field3 _ _ _ _) ?_ | refine ACall.of (orders_field3 _ _ _ _) ?_ | refine APCall.of (orders_field4 _ _ _ _) ?_ | refine ACall.of (orders_field4 _ _ _ _) ?_ | refine APCall.of (orders_field5 _ _ _ _) ?_ | refine ACall.of (orders_field5 _ _ _ _) ?_ | refine APCall.of (orders_field6 _ _ _ _) ?_ | refine ACall.of (orders_field6 _ _ _ _) ?_ | refine APCall.of (orders_field7 _ _ _ _) ?_ | refine ACall.of (orders_field7 _ _ _ _) ?_ | refine ACall.ofB (orders_between x.no 0 _) (fun _ => ?_) (fun h => absurd hno (of_decide_eq_false h)) | refine APCall.ofB (orders_between x.no 0 _) (fun _ => ?_) (fun h => absurd hno (of_decide_eq_false h)) | refine ACall.of (c0) ?_ | refine APCall.of (c0) ?_ | refine ACall.of (c1) ?_ | refine APCall.of (c1) ?_ | refine ACall.of (c2) ?_ | refine APCall.of (c2) ?_ | refine ACall.of (c3) ?_ | refine APCall.of (c3) ?_ | refine ACall.of (c4) ?_ | refine APCall.of (c4) ?_ | refine ACall.of (c5) ?_ | refine APCall.of (c5) ?_ | refine ACall.of (c6) ?_ | refine APCall.of (c6) ?_ | refine ACall.of (c7) ?_ | refine APCall.of (c7) ?_ | refine ACall.of (c8) ?_ | refine APCall.of (c8) ?_ | fail)
              all_goals (conv => whnf)
              all_goals first
                | (have q : ¬ e1 = 0 := (by assumption); obtain ⟨g1, g2⟩ := bad e1 q (by rw [hput, if_neg q]); rw [g2]; exact ⟨g1, DLe.refl _, rfl⟩)
                | (have q1 : e1 = 0 := (by assumption); have q : ¬ e2 = 0 := (by assumption); obtain ⟨g1, g2⟩ := bad e2 q (by rw [hput, if_pos q1, if_neg q]); rw [g2]; exact ⟨g1, DLe.refl _, rfl⟩)
                | (have q1 : e1 = 0 := (by assumption); have q2 : e2 = 0 := (by assumption); have q : ¬ e3 = 0 := (by assumption); obtain ⟨g1, g2⟩ := bad e3 q (by rw [hput, if_pos q1, if_pos q2, if_neg q]); rw [g2]; exact ⟨g1, DLe.refl _, rfl⟩)
                | (have q1 : e1 = 0 := (by assumption); have q2 : e2 = 0 := (by assumption); have q3 : e3 = 0 := (by assumption); have q : ¬ e4 = 0 := (by assumption); obtain ⟨g1, g2⟩ := bad e4 q (by rw [hput, if_pos q1, if_pos q2, if_pos q3, if_neg q]); rw [g2]; exact ⟨g1, DLe.refl _, rfl⟩)
                | (have q1 : e1 = 0 := (by assumption); have q2 : e2 = 0 := (by assumption); have q3 : e3 = 0 := (by assumption); have q4 : e4 = 0 := (by assumption); have q : ¬ e5 = 0 := (by assumption); obtain ⟨g1, g2⟩ := bad e5 q (by rw [hput, if_pos q1, if_pos q2, if_pos q3, if_pos q4, if_neg q]); rw [g2]; exact ⟨g1, DLe.refl _, rfl⟩)
                | (have q1 : e1 = 0 := (by assumption); have q2 : e2 = 0 := (by assumption); have q3 : e3 = 0 := (by assumption); have q4 : e4 = 0 := (by assumption); have q5 : e5 = 0 := (by assumption); have q : ¬ e6 = 0 := (by assumption); obtain ⟨g1, g2⟩ := bad e6 q (by rw [hput, if_pos q1, if_pos q2, if_pos q3, if_pos q4, if_pos q5, if_neg q]); rw [g2]; exact ⟨g1, DLe.refl _, rfl⟩)
                | (have q1 : e1 = 0 := (by assumption); have q2 : e2 = 0 := (by assumption); have q3 : e3 = 0 := (by assumption); have q4 : e4 = 0 := (by assumption); have q5 : e5 = 0 := (by assumption); have q6 : e6 = 0 := (by assumption); have q : ¬ e7 = 0 := (by assumption); obtain ⟨g1, g2⟩ := bad e7 q (by rw [hput, if_pos q1, if_pos q2, if_pos q3, if_pos q4, if_pos q5, if_pos q6, if_neg q]); rw [g2]; exact ⟨g1, DLe.refl _, rfl⟩)
                | (have q1 : e1 = 0 := (by assumption); have q2 : e2 = 0 := (by assumption); have q3 : e3 = 0 := (by assumption); have q4 : e4 = 0 := (by assumption); have q5 : e5 = 0 := (by assumption); have q6 : e6 = 0 := (by assumption); have q7 : e7 = 0 := (by assumption); have qo : ok = true := (by assumption); have q : ¬ e8 = 0 := (by assumption); obtain ⟨g1, g2⟩ := bad e8 q (by rw [hput, if_pos q1, if_pos q2, if_pos q3, if_pos q4, if_pos q5, if_pos q6, if_pos q7, if_pos qo, if_neg q]); rw [g2]; exact ⟨g1, DLe.refl _, rfl⟩)
                | (have q1 : e1 = 0 := (by assumption); have q2 : e2 = 0 := (by assumption); have q3 : e3 = 0 := (by assumption); have q4 : e4 = 0 := (by assumption); have q5 : e5 = 0 := (by assumption); have q6 : e6 = 0 := (by assumption); have q7 : e7 = 0 := (by assumption); have qo : ok = true := (by assumption); have q : e8 = 0 := (by assumption); obtain ⟨g1, g2⟩ := good l8 (by rw [hput, if_pos q1, if_pos q2, if_pos q3, if_pos q4, if_pos q5, if_pos q6, if_pos q7, if_pos qo, if_pos q]); rw [g1, g2]; exact (by repeat (first | exact trivial | exact rfl | exact DLe.refl _ | exact DLe.full _ _ _ | exact DLe.nil _ _ _ | exact VLe.refl _ | refine And.intro ?_ ?_ | refine VLe.d ?_ | refine DLe.agg ?_)))
                | (have q1 : e1 = 0 := (by assumption); have q2 : e2 = 0 := (by assumption); have q3 : e3 = 0 := (by assumption); have q4 : e4 = 0 := (by assumption); have q5 : e5 = 0 := (by assumption); have q6 : e6 = 0 := (by assumption); have q7 : e7 = 0 := (by assumption); have qo : ¬ ok = true := (by assumption : ok = false) ▸ (by decide); obtain ⟨g1, g2⟩ := good l7 (by rw [hput, if_pos q1, if_pos q2, if_pos q3, if_pos q4, if_pos q5, if_pos q6, if_pos q7, if_neg qo]); rw [g1, g2]; exact (by repeat (first | exact trivial | exact rfl | exact DLe.refl _ | exact DLe.full _ _ _ | exact DLe.nil _ _ _ | exact VLe.refl _ | refine And.intro ?_ ?_ | refine VLe.d ?_ | refine DLe.agg ?_)))
                | fail
            · obtain rfl : 0 = n := by rw [← hn]; unfold nextNo; rw [hgl]; simp [hgk]
              repeat' ((conv => whnf); first | refine Nam.mk (y := 7) rfl ?_ | with_reducible refine Dec.t (show true = true from rfl) ?_ | with_reducible refine Dec.t (show false = false from rfl) ?_ | with_reducible refine Dec.f (show ¬ (true = false) by decide) ?_ | with_reducible refine Dec.f (show ¬ (false = true) by decide) ?_ | refine Dec.t (by omega) ?_ | refine Dec.f (by omega) ?_ | refine Dec.split (fun _ => ?_) (fun _ => ?_) | refine Wr.id (by omega) ?_ | refine Chk.mk (by first | omega | exact rfl | (simp only [List.length_map]; omega) | (simp [room]; done) | (simp [room]; omega) | (simp [dropL, room]; done) | (simp [dropL, room]; omega)) ?_ | refine Nam.mk (List.length_map _) ?_ | refine Prep.skip ?_ | refine Eith.l ?_ | refine chk_t (x := D.flat _) (by assumption) ?_ | refine br_mk (fun _ => ?_) (fun _ => ?_) | refine ACall.of (hC) ?_ | refine APCall.of (hC) ?_ | refine ACall.of (hR) ?_ | refine APCall.of (hR) ?_ | refine nthK_mk hg ?_ | refine ACall.of (orders_customers) ?_ | refine APCall.of (orders_customers) ?_ | refine ALoop.rounds 8 ?_ | refine ALoopN.step (E := (envOf Try.prog tt Try.f20.ntmps)) (envOf_ok ttok mixed) ?_ | refine APCall.of (orders_field1 _ _ _ _) ?_ | refine ACall.of (orders_field1 _ _ _ _) ?_ | refine APCall.of (orders_field2 _ _ _ _) ?_ | refine ACall.of (orders_field2 _ _ _ _) ?_ | refine APCall.of (orders_field3 _ _ _ _) ?_ | refine ACall.of (orders_field3 _ _ _ _) ?_ | refine APCall.of (orders_field4 _ _ _ _) ?_ | refine ACall.of (orders_field4 _ _ _ _) ?_ | refine APCall.of (orders_field5 _ _ _ _) ?_ | refine ACall.of (orders_field5 _ _ _ _) ?_ | refine APCall.of (orders_field6 _ _ _ _) ?_ | refine ACall.of (orders_field6 _ _ _ _) ?_ | refine APCall.of (orders_field7 _ _ _ _) ?_ | refine ACall.of (orders_field7 _ _ _ _) ?_ | refine ACall.ofB (orders_between x.no 0 _) (fun _ => ?_) (fun h => absurd hno (of_decide_eq_false h)) | refine APCall.ofB (orders_between x.no 0 _) (fun _ => ?_) (fun h => absurd hno (of_decide_eq_false h)) | refine ACall.of (c0) ?_ | refine APCall.of (c0) ?_ | refine ACall.of (c1) ?_ | refine APCall.of (c1) ?_ | refine ACall.of (c2) ?_ | refine APCall.of (c2) ?_ | refine ACall.of (c3) ?_ | refine APCall.of (c3) ?_ | refine ACall.of (c4) ?_ | refine APCall.of (c4) ?_ | refine ACall.of (c5) ?_ | refine APCall.of (c5) ?_ | refine ACall.of (c6) ?_ | refine APCall.of (c6) ?_ | refine ACall.of (c7) ?_ | refine APCall.of (c7) ?_ | refine ACall.of (c8) ?_ | refine APCall.of (c8) ?_ | fail)
              all_goals (conv => whnf)
              all_goals first
                | (have q : ¬ e1 = 0 := (by assumption); obtain ⟨g1, g2⟩ := bad e1 q (by rw [hput, if_neg q]); rw [g2]; exact ⟨g1, DLe.refl _, rfl⟩)
                | (have q1 : e1 = 0 := (by assumption); have q : ¬ e2 = 0 := (by assumption); obtain ⟨g1, g2⟩ := bad e2 q (by rw [hput, if_pos q1, if_neg q]); rw [g2]; exact ⟨g1, DLe.refl _, rfl⟩)
                | (have q1 : e1 = 0 := (by assumption); have q2 : e2 = 0 := (by assumption); have q : ¬ e3 = 0 := (by assumption); obtain ⟨g1, g2⟩ := bad e3 q (by rw [hput, if_pos q1, if_pos q2, if_neg q]); rw [g2]; exact ⟨g1, DLe.refl _, rfl⟩)
                | (have q1 : e1 = 0 := (by assumption); have q2 : e2 = 0 := (by assumption); have q3 : e3 = 0 := (by assumption); have q : ¬ e4 = 0 := (by assumption); obtain ⟨g1, g2⟩ := bad e4 q (by rw [hput, if_pos q1, if_pos q2, if_pos q3, if_neg q]); rw [g2]; exact ⟨g1, DLe.refl _, rfl⟩)
                | (have q1 : e1 = 0 := (by assumption); have q2 : e2 = 0 := (by assumption); have q3 : e3 = 0 := (by assumption); have q4 : e4 = 0 := (by assumption); have q : ¬ e5 = 0 := (by assumption); obtain ⟨g1, g2⟩ := bad e5 q (by rw [hput, if_pos q1, if_pos q2, if_pos q3, if_pos q4, if_neg q]); rw [g2]; exact ⟨g1, DLe.refl _, rfl⟩)
                | (have q1 : e1 = 0 := (by assumption); have q2 : e2 = 0 := (by assumption); have q3 : e3 = 0 := (by assumption); have q4 : e4 = 0 := (by assumption); have q5 : e5 = 0 := (by assumption); have q : ¬ e6 = 0 := (by assumption); obtain ⟨g1, g2⟩ := bad e6 q (by rw [hput, if_pos q1, if_pos q2, if_pos q3, if_pos q4, if_pos q5, if_neg q]); rw [g2]; exact ⟨g1, DLe.refl _, rfl⟩)
                | (have q1 : e1 = 0 := (by assumption); have q2 : e2 = 0 := (by assumption); have q3 : e3 = 0 := (by assumption); have q4 : e4 = 0 := (by assumption); have q5 : e5 = 0 := (by assumption); have q6 : e6 = 0 := (by assumption); have q : ¬ e7 = 0 := (by assumption); obtain ⟨g1, g2⟩ := bad e7 q (by rw [hput, if_pos q1, if_pos q2, if_pos q3, if_pos q4, if_pos q5, if_pos q6, if_neg q]); rw [g2]; exact ⟨g1, DLe.refl _, rfl⟩)
                | (have q1 : e1 = 0 := (by assumption); have q2 : e2 = 0 := (by assumption); have q3 : e3 = 0 := (by assumption); have q4 : e4 = 0 := (by assumption); have q5 : e5 = 0 := (by assumption); have q6 : e6 = 0 := (by assumption); have q7 : e7 = 0 := (by assumption); have qo : ok = true := (by assumption); have q : ¬ e8 = 0 := (by assumption); obtain ⟨g1, g2⟩ := bad e8 q (by rw [hput, if_pos q1, if_pos q2, if_pos q3, if_pos q4, if_pos q5, if_pos q6, if_pos q7, if_pos qo, if_neg q]); rw [g2]; exact ⟨g1, DLe.refl _, rfl⟩)
                | (have q1 : e1 = 0 := (by assumption); have q2 : e2 = 0 := (by assumption); have q3 : e3 = 0 := (by assumption); have q4 : e4 = 0 := (by assumption); have q5 : e5 = 0 := (by assumption); have q6 : e6 = 0 := (by assumption); have q7 : e7 = 0 := (by assumption); have qo : ok = true := (by assumption); have q : e8 = 0 := (by assumption); obtain ⟨g1, g2⟩ := good l8 (by rw [hput, if_pos q1, if_pos q2, if_pos q3, if_pos q4, if_pos q5, if_pos q6, if_pos q7, if_pos qo, if_pos q]); rw [g1, g2]; exact (by repeat (first | exact trivial | exact rfl | exact DLe.refl _ | exact DLe.full _ _ _ | exact DLe.nil _ _ _ | exact VLe.refl _ | refine And.intro ?_ ?_ | refine VLe.d ?_ | refine DLe.agg ?_)))
                | (have q1 : e1 = 0 := (by assumption); have q2 : e2 = 0 := (by assumption); have q3 : e3 = 0 := (by assumption); have q4 : e4 = 0 := (by assumption); have q5 : e5 = 0 := (by assumption); have q6 : e6 = 0 := (by assumption); have q7 : e7 = 0 := (by assumption); have qo : ¬ ok = true := (by assumption : ok = false) ▸ (by decide); obtain ⟨g1, g2⟩ := good l7 (by rw [hput, if_pos q1, if_pos q2, if_pos q3, if_pos q4, if_pos q5, if_pos q6, if_pos q7, if_neg qo]); rw [g1, g2]; exact (by repeat (first | exact trivial | exact rfl | exact DLe.refl _ | exact DLe.full _ _ _ | exact DLe.nil _ _ _ | exact VLe.refl _ | refine And.intro ?_ ?_ | refine VLe.d ?_ | refine DLe.agg ?_)))
                | fail
        · have hA : addM w.facts ⟨2, x.no, 0, x.item, a, b, known, n⟩ = ([], 40) := by unfold addM; rw [if_pos hc, if_neg (fun h => hab (ok_span h))]
          rw [hA] at c0
          have hp : putM w.src w.facts x a b known = ([], 40) := by rw [hput0]; simp only [ordFacts, addsM, hA]; rfl
          obtain ⟨g1, g2⟩ := bad 40 (by decide) hp
          rw [g2]
          clear hput0 bad good
          cases hgl : w.facts.getLast? with
          | none =>
            have hnil : (w.facts.length : Int) = 0 := by rw [show w.facts = [] by simpa using hgl]; rfl
            obtain rfl : 0 = n := by rw [← hn]; unfold nextNo; rw [hgl]
            repeat' ((conv => whnf); first | refine Nam.mk (y := 7) rfl ?_ | with_reducible refine Dec.t (show true = true from rfl) ?_ | with_reducible refine Dec.t (show false = false from rfl) ?_ | with_reducible refine Dec.f (show ¬ (true = false) by decide) ?_ | with_reducible refine Dec.f (show ¬ (false = true) by decide) ?_ | refine Dec.t (by omega) ?_ | refine Dec.f (by omega) ?_ | refine Dec.split (fun _ => ?_) (fun _ => ?_) | refine Wr.id (by omega) ?_ | refine Chk.mk (by first | omega | exact rfl | (simp only [List.length_map]; omega) | (simp [room]; done) | (simp [room]; omega) | (simp [dropL, room]; done) | (simp [dropL, room]; omega)) ?_ | refine Nam.mk (List.length_map _) ?_ | refine Prep.skip ?_ | refine Eith.l ?_ | refine chk_t (x := D.flat _) (by assumption) ?_ | refine br_mk (fun _ => ?_) (fun _ => ?_) | refine ACall.of (hC) ?_ | refine APCall.of (hC) ?_ | refine ACall.of (hR) ?_ | refine APCall.of (hR) ?_ | refine nthK_mk hg ?_ | refine ACall.of (orders_customers) ?_ | refine APCall.of (orders_customers) ?_ | refine ALoop.rounds 8 ?_ | refine ALoopN.step (E := (envOf Try.prog tt Try.f20.ntmps)) (envOf_ok ttok mixed) ?_ | refine APCall.of (orders_field1 _ _ _ _) ?_ | refine ACall.of (orders_field1 _ _ _ _) ?_ | refine APCall.of (orders_field2 _ _ _ _) ?_ | refine ACall.of (orders_field2 _ _ _ _) ?_ | refine APCall.of (orders_field3 _ _ _ _) ?_ | refine ACall.of (orders_field3 _ _ _ _) ?_ | refine APCall.of (orders_field4 _ _ _ _) ?_ | refine ACall.of (orders_field4 _ _ _ _) ?_ | refine APCall.of (orders_field5 _ _ _ _) ?_ | refine ACall.of (orders_field5 _ _ _ _) ?_ | refine APCall.of (orders_field6 _ _ _ _) ?_ | refine ACall.of (orders_field6 _ _ _ _) ?_ | refine APCall.of (orders_field7 _ _ _ _) ?_ | refine ACall.of (orders_field7 _ _ _ _) ?_ | refine ACall.ofB (orders_between x.no 0 _) (fun _ => ?_) (fun h => absurd hno (of_decide_eq_false h)) | refine APCall.ofB (orders_between x.no 0 _) (fun _ => ?_) (fun h => absurd hno (of_decide_eq_false h)) | refine ACall.of (c0) ?_ | refine APCall.of (c0) ?_ | fail)
            all_goals (conv => whnf)
            exact ⟨g1, DLe.refl _, rfl⟩
          | some g =>
            have hpos : 0 < w.facts.length := by cases hw : w.facts with
              | nil => rw [hw] at hgl; cases hgl
              | cons => simp
            have hg : (w.facts.map Fact.d)[((w.facts.length : Int) - 1).toNat]? = some g.d := by
              rw [show ((w.facts.length : Int) - 1).toNat = w.facts.length - 1 by omega, List.getElem?_map, ← List.getLast?_eq_getElem?, hgl]; rfl
            by_cases hgk : g.known = known
            · obtain rfl : g.no + 1 = n := by rw [← hn]; unfold nextNo; rw [hgl]; simp [hgk]
              repeat' ((conv => whnf); first | refine Nam.mk (y := 7) rfl ?_ | with_reducible refine Dec.t (show true = true from rfl) ?_ | with_reducible refine Dec.t (show false = false from rfl) ?_ | with_reducible refine Dec.f (show ¬ (true = false) by decide) ?_ | with_reducible refine Dec.f (show ¬ (false = true) by decide) ?_ | refine Dec.t (by omega) ?_ | refine Dec.f (by omega) ?_ | refine Dec.split (fun _ => ?_) (fun _ => ?_) | refine Wr.id (by omega) ?_ | refine Chk.mk (by first | omega | exact rfl | (simp only [List.length_map]; omega) | (simp [room]; done) | (simp [room]; omega) | (simp [dropL, room]; done) | (simp [dropL, room]; omega)) ?_ | refine Nam.mk (List.length_map _) ?_ | refine Prep.skip ?_ | refine Eith.l ?_ | refine chk_t (x := D.flat _) (by assumption) ?_ | refine br_mk (fun _ => ?_) (fun _ => ?_) | refine ACall.of (hC) ?_ | refine APCall.of (hC) ?_ | refine ACall.of (hR) ?_ | refine APCall.of (hR) ?_ | refine nthK_mk hg ?_ | refine ACall.of (orders_customers) ?_ | refine APCall.of (orders_customers) ?_ | refine ALoop.rounds 8 ?_ | refine ALoopN.step (E := (envOf Try.prog tt Try.f20.ntmps)) (envOf_ok ttok mixed) ?_ | refine APCall.of (orders_field1 _ _ _ _) ?_ | refine ACall.of (orders_field1 _ _ _ _) ?_ | refine APCall.of (orders_field2 _ _ _ _) ?_ | refine ACall.of (orders_field2 _ _ _ _) ?_ | refine APCall.of (orders_field3 _ _ _ _) ?_ | refine ACall.of (orders_field3 _ _ _ _) ?_ | refine APCall.of (orders_field4 _ _ _ _) ?_ | refine ACall.of (orders_field4 _ _ _ _) ?_ | refine APCall.of (orders_field5 _ _ _ _) ?_ | refine ACall.of (orders_field5 _ _ _ _) ?_ | refine APCall.of (orders_field6 _ _ _ _) ?_ | refine ACall.of (orders_field6 _ _ _ _) ?_ | refine APCall.of (orders_field7 _ _ _ _) ?_ | refine ACall.of (orders_field7 _ _ _ _) ?_ | refine ACall.ofB (orders_between x.no 0 _) (fun _ => ?_) (fun h => absurd hno (of_decide_eq_false h)) | refine APCall.ofB (orders_between x.no 0 _) (fun _ => ?_) (fun h => absurd hno (of_decide_eq_false h)) | refine ACall.of (c0) ?_ | refine APCall.of (c0) ?_ | fail)
              all_goals (conv => whnf)
              exact ⟨g1, DLe.refl _, rfl⟩
            · obtain rfl : 0 = n := by rw [← hn]; unfold nextNo; rw [hgl]; simp [hgk]
              repeat' ((conv => whnf); first | refine Nam.mk (y := 7) rfl ?_ | with_reducible refine Dec.t (show true = true from rfl) ?_ | with_reducible refine Dec.t (show false = false from rfl) ?_ | with_reducible refine Dec.f (show ¬ (true = false) by decide) ?_ | with_reducible refine Dec.f (show ¬ (false = true) by decide) ?_ | refine Dec.t (by omega) ?_ | refine Dec.f (by omega) ?_ | refine Dec.split (fun _ => ?_) (fun _ => ?_) | refine Wr.id (by omega) ?_ | refine Chk.mk (by first | omega | exact rfl | (simp only [List.length_map]; omega) | (simp [room]; done) | (simp [room]; omega) | (simp [dropL, room]; done) | (simp [dropL, room]; omega)) ?_ | refine Nam.mk (List.length_map _) ?_ | refine Prep.skip ?_ | refine Eith.l ?_ | refine chk_t (x := D.flat _) (by assumption) ?_ | refine br_mk (fun _ => ?_) (fun _ => ?_) | refine ACall.of (hC) ?_ | refine APCall.of (hC) ?_ | refine ACall.of (hR) ?_ | refine APCall.of (hR) ?_ | refine nthK_mk hg ?_ | refine ACall.of (orders_customers) ?_ | refine APCall.of (orders_customers) ?_ | refine ALoop.rounds 8 ?_ | refine ALoopN.step (E := (envOf Try.prog tt Try.f20.ntmps)) (envOf_ok ttok mixed) ?_ | refine APCall.of (orders_field1 _ _ _ _) ?_ | refine ACall.of (orders_field1 _ _ _ _) ?_ | refine APCall.of (orders_field2 _ _ _ _) ?_ | refine ACall.of (orders_field2 _ _ _ _) ?_ | refine APCall.of (orders_field3 _ _ _ _) ?_ | refine ACall.of (orders_field3 _ _ _ _) ?_ | refine APCall.of (orders_field4 _ _ _ _) ?_ | refine ACall.of (orders_field4 _ _ _ _) ?_ | refine APCall.of (orders_field5 _ _ _ _) ?_ | refine ACall.of (orders_field5 _ _ _ _) ?_ | refine APCall.of (orders_field6 _ _ _ _) ?_ | refine ACall.of (orders_field6 _ _ _ _) ?_ | refine APCall.of (orders_field7 _ _ _ _) ?_ | refine ACall.of (orders_field7 _ _ _ _) ?_ | refine ACall.ofB (orders_between x.no 0 _) (fun _ => ?_) (fun h => absurd hno (of_decide_eq_false h)) | refine APCall.ofB (orders_between x.no 0 _) (fun _ => ?_) (fun h => absurd hno (of_decide_eq_false h)) | refine ACall.of (c0) ?_ | refine APCall.of (c0) ?_ | fail)
              all_goals (conv => whnf)
              exact ⟨g1, DLe.refl _, rfl⟩
      · skip
        obtain ⟨g1, g2⟩ := bad 190 (by first | decide | assumption) (by unfold putM; rw [if_pos hc, if_neg (fun h => hno h.1)])
        rw [g2]
        clear bad good
        repeat' ((conv => whnf); first | refine Nam.mk (y := 7) rfl ?_ | with_reducible refine Dec.t (show true = true from rfl) ?_ | with_reducible refine Dec.t (show false = false from rfl) ?_ | with_reducible refine Dec.f (show ¬ (true = false) by decide) ?_ | with_reducible refine Dec.f (show ¬ (false = true) by decide) ?_ | refine Dec.t (by omega) ?_ | refine Dec.f (by omega) ?_ | refine Dec.split (fun _ => ?_) (fun _ => ?_) | refine Wr.id (by omega) ?_ | refine Chk.mk (by first | omega | exact rfl | (simp only [List.length_map]; omega) | (simp [room]; done) | (simp [room]; omega) | (simp [dropL, room]; done) | (simp [dropL, room]; omega)) ?_ | refine Nam.mk (List.length_map _) ?_ | refine Prep.skip ?_ | refine Eith.l ?_ | refine chk_t (x := D.flat _) (by assumption) ?_ | refine br_mk (fun _ => ?_) (fun _ => ?_) | refine ACall.of (hC) ?_ | refine APCall.of (hC) ?_ | refine ACall.of (hR) ?_ | refine APCall.of (hR) ?_ | refine nthK_mk hg ?_ | refine ACall.of (orders_customers) ?_ | refine APCall.of (orders_customers) ?_ | refine ALoop.rounds 8 ?_ | refine ALoopN.step (E := (envOf Try.prog tt Try.f20.ntmps)) (envOf_ok ttok mixed) ?_ | refine APCall.of (orders_field1 _ _ _ _) ?_ | refine ACall.of (orders_field1 _ _ _ _) ?_ | refine APCall.of (orders_field2 _ _ _ _) ?_ | refine ACall.of (orders_field2 _ _ _ _) ?_ | refine APCall.of (orders_field3 _ _ _ _) ?_ | refine ACall.of (orders_field3 _ _ _ _) ?_ | refine APCall.of (orders_field4 _ _ _ _) ?_ | refine ACall.of (orders_field4 _ _ _ _) ?_ | refine APCall.of (orders_field5 _ _ _ _) ?_ | refine ACall.of (orders_field5 _ _ _ _) ?_ | refine APCall.of (orders_field6 _ _ _ _) ?_ | refine ACall.of (orders_field6 _ _ _ _) ?_ | refine APCall.of (orders_field7 _ _ _ _) ?_ | refine ACall.of (orders_field7 _ _ _ _) ?_ | refine ACall.ofB (orders_between x.no 0 _) (fun h => absurd (of_decide_eq_true h) hno) (fun _ => ?_) | refine APCall.ofB (orders_between x.no 0 _) (fun h => absurd (of_decide_eq_true h) hno) (fun _ => ?_) | fail)
        all_goals (conv => whnf)
        all_goals exact ⟨g1, DLe.refl _, rfl⟩
    · rw [decide_eq_false hr] at hR
      obtain ⟨g1, g2⟩ := bad 190 (by first | decide | assumption) (by unfold putM; rw [if_pos hc, if_neg (fun h => hr h.2)])
      rw [g2]
      clear bad good
      repeat' ((conv => whnf); first | refine Nam.mk (y := 7) rfl ?_ | with_reducible refine Dec.t (show true = true from rfl) ?_ | with_reducible refine Dec.t (show false = false from rfl) ?_ | with_reducible refine Dec.f (show ¬ (true = false) by decide) ?_ | with_reducible refine Dec.f (show ¬ (false = true) by decide) ?_ | refine Dec.t (by omega) ?_ | refine Dec.f (by omega) ?_ | refine Dec.split (fun _ => ?_) (fun _ => ?_) | refine Wr.id (by omega) ?_ | refine Chk.mk (by first | omega | exact rfl | (simp only [List.length_map]; omega) | (simp [room]; done) | (simp [room]; omega) | (simp [dropL, room]; done) | (simp [dropL, room]; omega)) ?_ | refine Nam.mk (List.length_map _) ?_ | refine Prep.skip ?_ | refine Eith.l ?_ | refine chk_t (x := D.flat _) (by assumption) ?_ | refine br_mk (fun _ => ?_) (fun _ => ?_) | refine ACall.of (hC) ?_ | refine APCall.of (hC) ?_ | refine ACall.of (hR) ?_ | refine APCall.of (hR) ?_ | refine nthK_mk hg ?_ | refine ACall.of (orders_customers) ?_ | refine APCall.of (orders_customers) ?_ | refine ALoop.rounds 8 ?_ | refine ALoopN.step (E := (envOf Try.prog tt Try.f20.ntmps)) (envOf_ok ttok mixed) ?_ | refine APCall.of (orders_field1 _ _ _ _) ?_ | refine ACall.of (orders_field1 _ _ _ _) ?_ | refine APCall.of (orders_field2 _ _ _ _) ?_ | refine ACall.of (orders_field2 _ _ _ _) ?_ | refine APCall.of (orders_field3 _ _ _ _) ?_ | refine ACall.of (orders_field3 _ _ _ _) ?_ | refine APCall.of (orders_field4 _ _ _ _) ?_ | refine ACall.of (orders_field4 _ _ _ _) ?_ | refine APCall.of (orders_field5 _ _ _ _) ?_ | refine ACall.of (orders_field5 _ _ _ _) ?_ | refine APCall.of (orders_field6 _ _ _ _) ?_ | refine ACall.of (orders_field6 _ _ _ _) ?_ | refine APCall.of (orders_field7 _ _ _ _) ?_ | refine ACall.of (orders_field7 _ _ _ _) ?_ | refine ACall.ofB (orders_between x.no 0 _) (fun _ => ?_) (fun _ => ?_) | refine APCall.ofB (orders_between x.no 0 _) (fun _ => ?_) (fun _ => ?_) | fail)
      all_goals (conv => whnf)
      all_goals exact ⟨g1, DLe.refl _, rfl⟩
  · skip
    obtain ⟨g1, g2⟩ := bad (checkM w.facts) (by first | decide | assumption) (by unfold putM; rw [if_neg hc])
    rw [g2]
    clear bad good
    repeat' ((conv => whnf); first | refine Nam.mk (y := 7) rfl ?_ | with_reducible refine Dec.t (show true = true from rfl) ?_ | with_reducible refine Dec.t (show false = false from rfl) ?_ | with_reducible refine Dec.f (show ¬ (true = false) by decide) ?_ | with_reducible refine Dec.f (show ¬ (false = true) by decide) ?_ | refine Dec.t (by omega) ?_ | refine Dec.f (by omega) ?_ | refine Dec.split (fun _ => ?_) (fun _ => ?_) | refine Wr.id (by omega) ?_ | refine Chk.mk (by first | omega | exact rfl | (simp only [List.length_map]; omega) | (simp [room]; done) | (simp [room]; omega) | (simp [dropL, room]; done) | (simp [dropL, room]; omega)) ?_ | refine Nam.mk (List.length_map _) ?_ | refine Prep.skip ?_ | refine Eith.l ?_ | refine chk_t (x := D.flat _) (by assumption) ?_ | refine br_mk (fun _ => ?_) (fun _ => ?_) | refine ACall.of (hC) ?_ | refine APCall.of (hC) ?_ | refine ACall.of (hR) ?_ | refine APCall.of (hR) ?_ | refine nthK_mk hg ?_ | refine ACall.of (orders_customers) ?_ | refine APCall.of (orders_customers) ?_ | refine ALoop.rounds 8 ?_ | refine ALoopN.step (E := (envOf Try.prog tt Try.f20.ntmps)) (envOf_ok ttok mixed) ?_ | refine APCall.of (orders_field1 _ _ _ _) ?_ | refine ACall.of (orders_field1 _ _ _ _) ?_ | refine APCall.of (orders_field2 _ _ _ _) ?_ | refine ACall.of (orders_field2 _ _ _ _) ?_ | refine APCall.of (orders_field3 _ _ _ _) ?_ | refine ACall.of (orders_field3 _ _ _ _) ?_ | refine APCall.of (orders_field4 _ _ _ _) ?_ | refine ACall.of (orders_field4 _ _ _ _) ?_ | refine APCall.of (orders_field5 _ _ _ _) ?_ | refine ACall.of (orders_field5 _ _ _ _) ?_ | refine APCall.of (orders_field6 _ _ _ _) ?_ | refine ACall.of (orders_field6 _ _ _ _) ?_ | refine APCall.of (orders_field7 _ _ _ _) ?_ | refine ACall.of (orders_field7 _ _ _ _) ?_ | fail)
    all_goals (conv => whnf)
    all_goals exact ⟨g1, DLe.refl _, rfl⟩
end Go.PM

