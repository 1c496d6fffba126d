/- The reference of package orders: grows, Put. -/
import Derived.Test.YtghlkcnmocgkaaaO19n
namespace Go.PM
open Go.Proofs
set_option maxRecDepth 10000
set_option maxHeartbeats 8000000

def Hid19 (p : Prop) : Prop := p
theorem Hid19.out {p : Prop} (h : Hid19 p) : p := h
def cntD (a b d : Int) : Int := if d ≤ a then 0 else if d ≤ b then d - a else b - a
theorem enough_append (no a b : Int) (l m : List Pt) : enough no a b (l ++ m) = enough no a b l + enough no a b m := by
  unfold enough; rw [List.filter_append, List.length_append]
theorem cntD_succ {a b : Int} (hab : a < b) (d : Int) : cntD a b (d + 1) = cntD a b d + (if a ≤ d ∧ d < b then 1 else 0) := by
  unfold cntD
  repeat' split
  all_goals omega
theorem lo0_0 : lo0 0 = 0 := by unfold lo0; rw [if_neg (by omega)]
theorem days_all : daysN 0 1024 = 1024 := by decide
theorem ref19_grows (w : OWorld) (no a b known : Int) (hl : w.facts.length < 2 ^ 40) (hno : 0 ≤ no ∧ no ≤ 1023) (hab : 0 ≤ a ∧ a < b ∧ b ≤ 1024) :
    CallP Try.prog 45 [.d w.d, .d (I no), .d (spanD a b), .d (I known)] (retD [I (raisedM w.facts no a b known).1, .b (raisedM w.facts no a b known).2]) := by
  refine exPure_sound (E := envOf Try.prog tt Try.f45.ntmps) (envOf_ok ttok mixed) Try.func45 (by rfl) rfl rfl (Nat.le_of_ble_eq_true rfl) ?_
  have hr : raisedM w.facts no a b known = ((pointsF w.facts (headO 1) 0 known 1024).foldl maxV (no + 1), decide ((enough no a b (pointsF w.facts (headO 1) 0 known 1024) : Int) < b - a)) := by
    unfold raisedM pointsM; rw [lo0_0, days_all]
  rw [hr]
  clear hr
  repeat' ((conv => whnf); first | with_reducible refine Dec.t (show true = true from rfl) ?_ | with_reducible refine Dec.t (show false = false from rfl) ?_ | with_reducible refine Dec.f (show ¬ (true = false) by decide) ?_ | with_reducible refine Dec.f (show ¬ (false = true) by decide) ?_ | refine Dec.t (by omega) ?_ | refine Dec.f (by omega) ?_ | refine Dec.split (fun _ => ?_) (fun _ => ?_) | refine Wr.id (by omega) ?_ | refine Chk.mk (by first | omega | exact rfl | (simp only [List.length_map]; omega) | (simp [room]; done) | (simp [room]; omega) | (simp [dropL, room]; done) | (simp [dropL, room]; omega)) ?_ | refine Nam.mk (List.length_map _) ?_ | refine Prep.skip ?_ | refine Eith.l ?_ | refine chk_t (x := D.flat _) (by assumption) ?_ | refine br_mk (fun _ => ?_) (fun _ => ?_) | fail)
  all_goals (conv => whnf)
  refine ALoop.at (E := envOf Try.prog tt Try.f45.ntmps) (envOf_ok ttok mixed) (X := Nat × Int × Bool) (fun x => [(12, .d (I x.1)), (11, .d (I x.2.1)), (10, .d (.b x.2.2))]) (fun _ => [])
    (fun x => x.1 ≤ 1024 ∧ Hid19 (x.2.1 = (pointsF w.facts (headO 1) 0 known x.1).foldl maxV (no + 1) ∧ (enough no a b (pointsF w.facts (headO 1) 0 known x.1) : Int) ≤ cntD a b x.1 ∧ (x.2.2 = true ↔ (enough no a b (pointsF w.facts (headO 1) 0 known x.1) : Int) < cntD a b x.1))) (fun x => 1024 - x.1) (0, no + 1, false) (by repeat (first | exact trivial | refine And.intro rfl ?_ | refine And.intro (congrArg (fun n => V.d (I n)) (wrap_nat _ (by omega))) ?_)) rfl
    ⟨Nat.zero_le _, by show _ ∧ _ ∧ _; refine ⟨rfl, ?_, ?_⟩ <;> simp [pointsF, enough, cntD] <;> omega⟩ ?_
  rintro ⟨d, most, need⟩ ⟨hd, hinv⟩
  simp only at hd hinv
  dsimp only
  by_cases hlt : d < 1024
  · have hA := ref04_At w.facts (headO 1) d known hl
    have hs := points_succ w.facts (headO 1) 0 known d
    have hnn : ∀ n, atM w.facts (headO 1) d known = some n → 0 ≤ n := fun n h => atM_nonneg h
    rw [show (0 : Int) + (d : Int) = d by omega] at hs
    have step : ∀ (most' : Int) (need' : Bool), Hid19 (most' = (match atM w.facts (headO 1) d known with | some n => if n > most then n else most | none => most) ∧ (need' = true ↔ need = true ∨ (a ≤ d ∧ d < b ∧ ∀ n, atM w.facts (headO 1) d known = some n → n ≤ no))) →
        Hid19 (most' = (pointsF w.facts (headO 1) 0 known (d + 1)).foldl maxV (no + 1) ∧ (enough no a b (pointsF w.facts (headO 1) 0 known (d + 1)) : Int) ≤ cntD a b ((d + 1 : Nat) : Int) ∧ (need' = true ↔ (enough no a b (pointsF w.facts (headO 1) 0 known (d + 1)) : Int) < cntD a b ((d + 1 : Nat) : Int))) := fun most' need' h => by
      obtain ⟨h1, h2⟩ := h.out
      obtain ⟨i1, i2, i3⟩ := hinv.out
      have hc := cntD_succ hab.2.1 d
      show _ ∧ _ ∧ _
      rw [hs, List.foldl_append, ← i1, enough_append, h2, i3, h1]
      rw [show ((d + 1 : Nat) : Int) = (d : Int) + 1 by omega, hc]
      cases ho : atM w.facts (headO 1) d known with
      | none =>
        rw [show enough no a b ((ptOf (d : Int) none).toList) = 0 from rfl]
        refine ⟨rfl, ?_, ?_⟩
        · split <;> omega
        · simp only [reduceCtorEq, false_imp_iff, implies_true, and_true]
          by_cases hq : a ≤ (d : Int) ∧ (d : Int) < b
          · rw [if_pos hq]; simp only [hq, and_self, or_true, true_iff]; omega
          · rw [if_neg hq]; simp only [hq, or_false]; omega
      | some n =>
        have he : enough no a b ((ptOf (d : Int) (some n)).toList) = if a ≤ (d : Int) ∧ (d : Int) < b ∧ no < n then 1 else 0 := by
          unfold enough ptOf
          simp only [Option.map_some, Option.toList_some, List.filter_cons, List.filter_nil]
          by_cases hq : a ≤ (d : Int) ∧ (d : Int) < b ∧ no < n
          · rw [if_pos hq, if_pos (by simpa [and_assoc] using hq)]; rfl
          · rw [if_neg hq, if_neg (by simpa [and_assoc] using hq)]; rfl
        rw [he]
        refine ⟨rfl, ?_, ?_⟩
        · repeat' split
          all_goals omega
        · simp only [Option.some.injEq, forall_eq']
          by_cases hq : a ≤ (d : Int) ∧ (d : Int) < b
          · by_cases hq2 : no < n
            · rw [if_pos ⟨hq.1, hq.2, hq2⟩, if_pos hq]; simp only [hq, true_and]; omega
            · rw [if_neg (fun h => hq2 h.2.2), if_pos hq]; simp only [hq, true_and]; omega
          · rw [if_neg (fun h => hq ⟨h.1, h.2.1⟩), if_neg hq]
            have : ¬ (a ≤ (d : Int) ∧ (d : Int) < b ∧ n ≤ no) := fun h => hq ⟨h.1, h.2.1⟩
            simp only [this, or_false]; omega
    clear hs hinv
    generalize atM w.facts (headO 1) d known = o at hA hnn step
    cases o with
    | none =>
      simp only [Option.getD_none, Option.isSome_none] at hA
      cases need
      all_goals
        repeat' ((conv => whnf); first | with_reducible refine Dec.t (show true = true from rfl) ?_ | with_reducible refine Dec.t (show false = false from rfl) ?_ | with_reducible refine Dec.f (show ¬ (true = false) by decide) ?_ | with_reducible refine Dec.f (show ¬ (false = true) by decide) ?_ | refine Dec.t (by omega) ?_ | refine Dec.f (by omega) ?_ | refine Dec.split (fun _ => ?_) (fun _ => ?_) | refine Wr.id (by omega) ?_ | refine Chk.mk (by first | omega | exact rfl | (simp only [List.length_map]; omega) | (simp [room]; done) | (simp [room]; omega) | (simp [dropL, room]; done) | (simp [dropL, room]; omega)) ?_ | refine Nam.mk (List.length_map _) ?_ | refine Prep.skip ?_ | refine Eith.l ?_ | refine chk_t (x := D.flat _) (by assumption) ?_ | refine br_mk (fun _ => ?_) (fun _ => ?_) | refine ACall.of (ref19_Head 1) ?_ | refine APCall.of (ref19_Head 1) ?_ | refine ACall.of (hA) ?_ | refine APCall.of (hA) ?_ | fail)
      all_goals (conv => whnf)
      all_goals refine ⟨(d + 1, most, _), Wm.end (by repeat (first | exact trivial | refine And.intro rfl ?_ | refine And.intro (congrArg (fun n => V.d (I n)) (wrap_nat _ (by omega))) ?_)) rfl rfl rfl, ⟨hlt, step _ _ ?_⟩, by simp only; omega⟩
      all_goals show _ ∧ (_ ↔ _)
      all_goals refine ⟨rfl, ?_⟩
      all_goals simp only [reduceCtorEq, false_imp_iff, implies_true, and_true, Bool.false_eq_true, true_or, false_or, true_iff, false_iff]
      all_goals first | done | omega | fail
    | some n =>
      simp only [Option.getD_some, Option.isSome_some] at hA
      replace hnn := hnn _ rfl
      cases need
      all_goals
        repeat' ((conv => whnf); first | with_reducible refine Dec.t (show true = true from rfl) ?_ | with_reducible refine Dec.t (show false = false from rfl) ?_ | with_reducible refine Dec.f (show ¬ (true = false) by decide) ?_ | with_reducible refine Dec.f (show ¬ (false = true) by decide) ?_ | refine Dec.t (by omega) ?_ | refine Dec.f (by omega) ?_ | refine Dec.split (fun _ => ?_) (fun _ => ?_) | refine Wr.id (by omega) ?_ | refine Chk.mk (by first | omega | exact rfl | (simp only [List.length_map]; omega) | (simp [room]; done) | (simp [room]; omega) | (simp [dropL, room]; done) | (simp [dropL, room]; omega)) ?_ | refine Nam.mk (List.length_map _) ?_ | refine Prep.skip ?_ | refine Eith.l ?_ | refine chk_t (x := D.flat _) (by assumption) ?_ | refine br_mk (fun _ => ?_) (fun _ => ?_) | refine ACall.of (ref19_Head 1) ?_ | refine APCall.of (ref19_Head 1) ?_ | refine ACall.of (hA) ?_ | refine APCall.of (hA) ?_ | fail)
      all_goals (conv => whnf)
      all_goals refine ⟨(d + 1, _, _), Wm.end (by repeat (first | exact trivial | refine And.intro rfl ?_ | refine And.intro (congrArg (fun n => V.d (I n)) (wrap_nat _ (by omega))) ?_)) rfl rfl rfl, ⟨hlt, step _ _ ?_⟩, by simp only; omega⟩
      all_goals show _ ∧ (_ ↔ _)
      all_goals refine ⟨rfl, ?_⟩
      all_goals simp only [Option.some.injEq, forall_eq', Bool.false_eq_true, true_or, false_or, true_iff, false_iff]
      all_goals first | done | omega | fail
  · have : d = 1024 := by omega
    subst this
    obtain ⟨i1, i2, i3⟩ := hinv.out
    have hcd : cntD a b ((1024 : Nat) : Int) = b - a := by unfold cntD; repeat' split; all_goals omega
    rw [hcd] at i3
    rw [← i1]
    clear hinv i2 i1
    have : decide ((enough no a b (pointsF w.facts (headO 1) 0 known 1024) : Int) < b - a) = need := by
      cases need
      · exact decide_eq_false (fun h => by have := i3.2 h; cases this)
      · exact decide_eq_true (i3.1 rfl)
    rw [this]
    clear i3 this
    repeat' ((conv => whnf); first | with_reducible refine Dec.t (show true = true from rfl) ?_ | with_reducible refine Dec.t (show false = false from rfl) ?_ | with_reducible refine Dec.f (show ¬ (true = false) by decide) ?_ | with_reducible refine Dec.f (show ¬ (false = true) by decide) ?_ | refine Dec.t (by omega) ?_ | refine Dec.f (by omega) ?_ | refine Dec.split (fun _ => ?_) (fun _ => ?_) | refine Wr.id (by omega) ?_ | refine Chk.mk (by first | omega | exact rfl | (simp only [List.length_map]; omega) | (simp [room]; done) | (simp [room]; omega) | (simp [dropL, room]; done) | (simp [dropL, room]; omega)) ?_ | refine Nam.mk (List.length_map _) ?_ | refine Prep.skip ?_ | refine Eith.l ?_ | refine chk_t (x := D.flat _) (by assumption) ?_ | refine br_mk (fun _ => ?_) (fun _ => ?_) | fail)
    all_goals (conv => whnf)
    all_goals exact (by repeat (first | exact trivial | exact rfl | exact DLe.refl _ | exact DLe.full _ _ _ | exact DLe.nil _ _ _ | exact VLe.refl _ | refine And.intro ?_ ?_ | refine VLe.d ?_ | refine DLe.agg ?_))
theorem at_append_other (l m : List Fact) (k : Key) (d t : Int) (h : ∀ f ∈ m, f.key ≠ k) : atM (l ++ m) k d t = atM l k d t := by
  unfold atM atF
  rw [List.foldl_append]
  congr 1
  generalize l.foldl (atStep k d t) none = o
  induction m generalizing o with
  | nil => rfl
  | cons f m ih =>
    rw [List.foldl_cons]
    have : atStep k d t o f = o := by
      unfold atStep
      rw [if_neg (fun hh => h f (.head _) hh.1)]
    rw [this]
    exact ih (fun g hg => h g (.tail _ hg)) o
theorem raised_same (l m : List Fact) (no a b known : Int) (h : ∀ f ∈ m, f.key ≠ (headO 1)) : raisedM (l ++ m) no a b known = raisedM l no a b known := by
  have : pointsM (l ++ m) (headO 1) 0 1024 known = pointsM l (headO 1) 0 1024 known := by
    unfold pointsM pointsF
    congr 1
    funext i
    rw [at_append_other _ _ _ _ _ h]
  unfold raisedM; rw [this]
theorem addsM_app : ∀ (fs l : List Fact), (addsM l fs).2 = 0 → (addsM l fs).1 = l ++ fs
  | [], l, _ => by simp [addsM]
  | f :: fs, l, h => by
    unfold addsM at h ⊢
    by_cases h1 : (addM l f).2 = 0
    · rw [if_pos h1] at h ⊢
      rw [addsM_app fs _ h, (addM_ok h1).2.2.2]; simp
    · rw [if_neg h1] at h; exact absurd h h1
theorem ref19_Put (w : OWorld) (x : Ord) (a b known : Int) (hl : w.facts.length < 2 ^ 19) (hf : w.src.few) (hw : w.src.wide) : CallP Try.prog 21 [.d w.d, .d x.d, .d (spanD a b), .d (I known)] (retD [(w.put (putM w.src w.facts x a b known)).d, I (putM w.src w.facts x a b known).2]) := by
  refine exPure_sound (E := envOf Try.prog tt Try.f21.ntmps) (envOf_ok ttok mixed) Try.func21 (by rfl) rfl rfl (Nat.le_of_ble_eq_true rfl) ?_
  have hC := ref04_Check w.facts (by omega)
  have hR := ref19_Right w.src x hf hw
  have bad : ∀ e : Int, e ≠ 0 → putM w.src w.facts x a b known = ([], e) → DLe (.agg [.sl 0 true [], .sl 0 true [], .sl 0 true [], .sl 0 true [], .sl 0 true [], .sl 0 true [], .sl 0 true [], .sl 0 true [], .sl 0 true [], .sl 0 true [], .sl 0 true []]) (w.put (putM w.src w.facts x a b known)).d ∧ (putM w.src w.facts x a b known).2 = e := fun e he hp => by
    rw [hp]
    unfold OWorld.put
    rw [if_neg he]
    exact ⟨zero_le, rfl⟩
  have good : ∀ l', putM w.src w.facts x a b known = (l', 0) → w.put (putM w.src w.facts x a b known) = { w with facts := l' } ∧ (putM w.src w.facts x a b known).2 = 0 := fun l' hp => by
    rw [hp]
    exact ⟨rfl, rfl⟩
  by_cases hc : checkM w.facts = 0
  · rw [hc] at hC
    by_cases hr : x.right w.src
    · rw [decide_eq_true hr] at hR
      by_cases hno : 0 ≤ x.no ∧ x.no ≤ 1023
      · obtain ⟨n, hn, hnb⟩ : ∃ n, nextNo w.facts known = n ∧ 0 ≤ n ∧ n ≤ 65536 := by
          refine ⟨_, rfl, ?_⟩
          unfold nextNo
          cases hgl : w.facts.getLast? with
          | none => simp
          | some g =>
            have hg : g.ok := by
              have hall : ∀ f ∈ w.facts, f.ok := by
                unfold checkM at hc
                by_cases h : ∀ f ∈ w.facts, f.ok
                · exact h
                · rw [if_neg h] at hc; exact absurd hc (by decide)
              exact hall g (List.mem_of_getLast? hgl)
            unfold Fact.ok at hg
            simp only
            split <;> omega
        have hput0 : putM w.src w.facts x a b known = (if (addsM w.facts (ordFacts x a b known n)).2 = 0 then
            (if (raisedM (addsM w.facts (ordFacts x a b known n)).1 x.no a b known).2 = true then
              addsM (addsM w.facts (ordFacts x a b known n)).1 [headFact (raisedM (addsM w.facts (ordFacts x a b known n)).1 x.no a b known).1 known (n + 1 + 1 + 1 + 1 + 1 + 1 + 1)]
             else addsM w.facts (ordFacts x a b known n))
           else addsM w.facts (ordFacts x a b known n)) := by unfold putM; rw [if_pos hc, if_pos ⟨hno, hr⟩, hn]
        have c0 := ref04_Add w.facts ⟨2, x.no, 0, x.item, a, b, known, n⟩ (by omega)
        have k0 := addM_len w.facts ⟨2, x.no, 0, x.item, a, b, known, n⟩
        by_cases hab : 0 ≤ a ∧ a < b ∧ b ≤ 1024
        · generalize hA0 : addM w.facts ⟨2, x.no, 0, x.item, a, b, known, n⟩ = A0 at c0 k0
          obtain ⟨l1, e1⟩ := A0
          simp only at c0 k0
          have c1 := ref04_Add l1 ⟨2, x.no, 1, x.plant, a, b, known, n + 1⟩ (by omega)
          have k1 := addM_len l1 ⟨2, x.no, 1, x.plant, a, b, known, n + 1⟩
          generalize hA1 : addM l1 ⟨2, x.no, 1, x.plant, a, b, known, n + 1⟩ = A1 at c1 k1
          obtain ⟨l2, e2⟩ := A1
          simp only at c1 k1
          have c2 := ref04_Add l2 ⟨2, x.no, 2, x.config, a, b, known, n + 1 + 1⟩ (by omega)
          have k2 := addM_len l2 ⟨2, x.no, 2, x.config, a, b, known, n + 1 + 1⟩
          generalize hA2 : addM l2 ⟨2, x.no, 2, x.config, a, b, known, n + 1 + 1⟩ = A2 at c2 k2
          obtain ⟨l3, e3⟩ := A2
          simp only at c2 k2
          have c3 := ref04_Add l3 ⟨2, x.no, 3, x.amount, a, b, known, n + 1 + 1 + 1⟩ (by omega)
          have k3 := addM_len l3 ⟨2, x.no, 3, x.amount, a, b, known, n + 1 + 1 + 1⟩
          generalize hA3 : addM l3 ⟨2, x.no, 3, x.amount, a, b, known, n + 1 + 1 + 1⟩ = A3 at c3 k3
          obtain ⟨l4, e4⟩ := A3
          simp only at c3 k3
          have c4 := ref04_Add l4 ⟨2, x.no, 4, x.due, a, b, known, n + 1 + 1 + 1 + 1⟩ (by omega)
          have k4 := addM_len l4 ⟨2, x.no, 4, x.due, a, b, known, n + 1 + 1 + 1 + 1⟩
          generalize hA4 : addM l4 ⟨2, x.no, 4, x.due, a, b, known, n + 1 + 1 + 1 + 1⟩ = A4 at c4 k4
          obtain ⟨l5, e5⟩ := A4
          simp only at c4 k4
          have c5 := ref04_Add l5 ⟨2, x.no, 5, x.cust, a, b, known, n + 1 + 1 + 1 + 1 + 1⟩ (by omega)
          have k5 := addM_len l5 ⟨2, x.no, 5, x.cust, a, b, known, n + 1 + 1 + 1 + 1 + 1⟩
          generalize hA5 : addM l5 ⟨2, x.no, 5, x.cust, a, b, known, n + 1 + 1 + 1 + 1 + 1⟩ = A5 at c5 k5
          obtain ⟨l6, e6⟩ := A5
          simp only at c5 k5
          have c6 := ref04_Add l6 ⟨2, x.no, 6, x.shelf, a, b, known, n + 1 + 1 + 1 + 1 + 1 + 1⟩ (by omega)
          have k6 := addM_len l6 ⟨2, x.no, 6, x.shelf, a, b, known, n + 1 + 1 + 1 + 1 + 1 + 1⟩
          generalize hA6 : addM l6 ⟨2, x.no, 6, x.shelf, a, b, known, n + 1 + 1 + 1 + 1 + 1 + 1⟩ = A6 at c6 k6
          obtain ⟨l7, e7⟩ := A6
          simp only at c6 k6
          have c7 := ref19_grows w x.no a b known (by omega) hno hab
          generalize hA7 : raisedM w.facts x.no a b known = A7 at c7
          obtain ⟨v, ok⟩ := A7
          simp only at c7
          have c8 := ref04_Add l7 (headFact v known (n + 1 + 1 + 1 + 1 + 1 + 1 + 1)) (by omega)
          generalize hA8 : addM l7 (headFact v known (n + 1 + 1 + 1 + 1 + 1 + 1 + 1)) = A8 at c8
          obtain ⟨l8, e8⟩ := A8
          simp only at c8
          have hput : putM w.src w.facts x a b known = (if e1 = 0 then (if e2 = 0 then (if e3 = 0 then (if e4 = 0 then (if e5 = 0 then (if e6 = 0 then (if e7 = 0 then (if ok = true then (if e8 = 0 then (l8, 0) else ([], e8)) else (l7, 0)) else ([], e7)) else ([], e6)) else ([], e5)) else ([], e4)) else ([], e3)) else ([], e2)) else ([], e1)) := by
            rw [hput0]
            simp only [ordFacts, addsM, hA0, hA1, hA2, hA3, hA4, hA5, hA6]
            by_cases q1 : e1 = 0
            case neg => simp only [if_neg q1]
            by_cases q2 : e2 = 0
            case neg => simp only [if_pos q1, if_neg q2]
            by_cases q3 : e3 = 0
            case neg => simp only [if_pos q1, if_pos q2, if_neg q3]
            by_cases q4 : e4 = 0
            case neg => simp only [if_pos q1, if_pos q2, if_pos q3, if_neg q4]
            by_cases q5 : e5 = 0
            case neg => simp only [if_pos q1, if_pos q2, if_pos q3, if_pos q4, if_neg q5]
            by_cases q6 : e6 = 0
            case neg => simp only [if_pos q1, if_pos q2, if_pos q3, if_pos q4, if_pos q5, if_neg q6]
            by_cases q7 : e7 = 0
            case neg => simp only [if_pos q1, if_pos q2, if_pos q3, if_pos q4, if_pos q5, if_pos q6, if_neg q7]
            have hl7 : l7 = w.facts ++ ordFacts x a b known n := by
              have := addsM_app (ordFacts x a b known n) w.facts (by simp only [ordFacts, addsM, hA0, hA1, hA2, hA3, hA4, hA5, hA6, if_pos q1, if_pos q2, if_pos q3, if_pos q4, if_pos q5, if_pos q6, q7, if_true])
              rw [← this]; simp only [ordFacts, addsM, hA0, hA1, hA2, hA3, hA4, hA5, hA6, if_pos q1, if_pos q2, if_pos q3, if_pos q4, if_pos q5, if_pos q6, if_pos q7, if_true]
            have hrs : raisedM l7 x.no a b known = raisedM w.facts x.no a b known := by rw [hl7]; exact raised_same _ _ _ _ _ _ (fun f hf => by simp only [ordFacts, List.mem_cons, List.not_mem_nil, or_false] at hf; rcases hf with rfl | rfl | rfl | rfl | rfl | rfl | rfl <;> simp [Fact.key, headO])
            simp only [if_pos q1, if_pos q2, if_pos q3, if_pos q4, if_pos q5, if_pos q6, if_pos q7, if_true, hrs, hA7, hA8]
          clear hput0 hA0 hA1 hA2 hA3 hA4 hA5 hA6 hA7 hA8
          cases hgl : w.facts.getLast? with
          | none =>
            have hnil : (w.facts.length : Int) = 0 := by rw [show w.facts = [] by simpa using hgl]; rfl
            obtain rfl : 0 = n := by rw [← hn]; unfold nextNo; rw [hgl]
            repeat' ((conv => whnf); first | refine Nam.mk (y := 7) rfl ?_ | with_reducible refine Dec.t (show true = true from rfl) ?_ | with_reducible refine Dec.t (show false = false from rfl) ?_ | with_reducible refine Dec.f (show ¬ (true = false) by decide) ?_ | with_reducible refine Dec.f (show ¬ (false = true) by decide) ?_ | refine Dec.t (by omega) ?_ | refine Dec.f (by omega) ?_ | refine Dec.split (fun _ => ?_) (fun _ => ?_) | refine Wr.id (by omega) ?_ | refine Chk.mk (by first | omega | exact rfl | (simp only [List.length_map]; omega) | (simp [room]; done) | (simp [room]; omega) | (simp [dropL, room]; done) | (simp [dropL, room]; omega)) ?_ | refine Nam.mk (List.length_map _) ?_ | refine Prep.skip ?_ | refine Eith.l ?_ | refine chk_t (x := D.flat _) (by assumption) ?_ | refine br_mk (fun _ => ?_) (fun _ => ?_) | refine ACall.of (hC) ?_ | refine APCall.of (hC) ?_ | refine ACall.of (hR) ?_ | refine APCall.of (hR) ?_ | refine nthK_mk hg ?_ | refine ACall.of (ref19_Head 1) ?_ | refine APCall.of (ref19_Head 1) ?_ | refine ALoop.rounds 8 ?_ | refine ALoopN.step (E := (envOf Try.prog tt Try.f21.ntmps)) (envOf_ok ttok mixed) ?_ | refine ACall.of (c0) ?_ | refine APCall.of (c0) ?_ | refine ACall.of (c1) ?_ | refine APCall.of (c1) ?_ | refine ACall.of (c2) ?_ | refine APCall.of (c2) ?_ | refine ACall.of (c3) ?_ | refine APCall.of (c3) ?_ | refine ACall.of (c4) ?_ | refine APCall.of (c4) ?_ | refine ACall.of (c5) ?_ | refine APCall.of (c5) ?_ | refine ACall.of (c6) ?_ | refine APCall.of (c6) ?_ | refine ACall.of (c7) ?_ | refine APCall.of (c7) ?_ | refine ACall.of (c8) ?_ | refine APCall.of (c8) ?_ | fail)
            all_goals (conv => whnf)
            all_goals first
              | (have q : ¬ e1 = 0 := (by assumption); obtain ⟨g1, g2⟩ := bad e1 q (by rw [hput, if_neg q]); rw [g2]; exact ⟨g1, DLe.refl _, rfl⟩)
              | (have q1 : e1 = 0 := (by assumption); have q : ¬ e2 = 0 := (by assumption); obtain ⟨g1, g2⟩ := bad e2 q (by rw [hput, if_pos q1, if_neg q]); rw [g2]; exact ⟨g1, DLe.refl _, rfl⟩)
              | (have q1 : e1 = 0 := (by assumption); have q2 : e2 = 0 := (by assumption); have q : ¬ e3 = 0 := (by assumption); obtain ⟨g1, g2⟩ := bad e3 q (by rw [hput, if_pos q1, if_pos q2, if_neg q]); rw [g2]; exact ⟨g1, DLe.refl _, rfl⟩)
              | (have q1 : e1 = 0 := (by assumption); have q2 : e2 = 0 := (by assumption); have q3 : e3 = 0 := (by assumption); have q : ¬ e4 = 0 := (by assumption); obtain ⟨g1, g2⟩ := bad e4 q (by rw [hput, if_pos q1, if_pos q2, if_pos q3, if_neg q]); rw [g2]; exact ⟨g1, DLe.refl _, rfl⟩)
              | (have q1 : e1 = 0 := (by assumption); have q2 : e2 = 0 := (by assumption); have q3 : e3 = 0 := (by assumption); have q4 : e4 = 0 := (by assumption); have q : ¬ e5 = 0 := (by assumption); obtain ⟨g1, g2⟩ := bad e5 q (by rw [hput, if_pos q1, if_pos q2, if_pos q3, if_pos q4, if_neg q]); rw [g2]; exact ⟨g1, DLe.refl _, rfl⟩)
              | (have q1 : e1 = 0 := (by assumption); have q2 : e2 = 0 := (by assumption); have q3 : e3 = 0 := (by assumption); have q4 : e4 = 0 := (by assumption); have q5 : e5 = 0 := (by assumption); have q : ¬ e6 = 0 := (by assumption); obtain ⟨g1, g2⟩ := bad e6 q (by rw [hput, if_pos q1, if_pos q2, if_pos q3, if_pos q4, if_pos q5, if_neg q]); rw [g2]; exact ⟨g1, DLe.refl _, rfl⟩)
              | (have q1 : e1 = 0 := (by assumption); have q2 : e2 = 0 := (by assumption); have q3 : e3 = 0 := (by assumption); have q4 : e4 = 0 := (by assumption); have q5 : e5 = 0 := (by assumption); have q6 : e6 = 0 := (by assumption); have q : ¬ e7 = 0 := (by assumption); obtain ⟨g1, g2⟩ := bad e7 q (by rw [hput, if_pos q1, if_pos q2, if_pos q3, if_pos q4, if_pos q5, if_pos q6, if_neg q]); rw [g2]; exact ⟨g1, DLe.refl _, rfl⟩)
              | (have q1 : e1 = 0 := (by assumption); have q2 : e2 = 0 := (by assumption); have q3 : e3 = 0 := (by assumption); have q4 : e4 = 0 := (by assumption); have q5 : e5 = 0 := (by assumption); have q6 : e6 = 0 := (by assumption); have q7 : e7 = 0 := (by assumption); have qo : ok = true := (by assumption); have q : ¬ e8 = 0 := (by assumption); obtain ⟨g1, g2⟩ := bad e8 q (by rw [hput, if_pos q1, if_pos q2, if_pos q3, if_pos q4, if_pos q5, if_pos q6, if_pos q7, if_pos qo, if_neg q]); rw [g2]; exact ⟨g1, DLe.refl _, rfl⟩)
              | (have q1 : e1 = 0 := (by assumption); have q2 : e2 = 0 := (by assumption); have q3 : e3 = 0 := (by assumption); have q4 : e4 = 0 := (by assumption); have q5 : e5 = 0 := (by assumption); have q6 : e6 = 0 := (by assumption); have q7 : e7 = 0 := (by assumption); have qo : ok = true := (by assumption); have q : e8 = 0 := (by assumption); obtain ⟨g1, g2⟩ := good l8 (by rw [hput, if_pos q1, if_pos q2, if_pos q3, if_pos q4, if_pos q5, if_pos q6, if_pos q7, if_pos qo, if_pos q]); rw [g1, g2]; exact (by repeat (first | exact trivial | exact rfl | exact DLe.refl _ | exact DLe.full _ _ _ | exact DLe.nil _ _ _ | exact VLe.refl _ | refine And.intro ?_ ?_ | refine VLe.d ?_ | refine DLe.agg ?_)))
              | (have q1 : e1 = 0 := (by assumption); have q2 : e2 = 0 := (by assumption); have q3 : e3 = 0 := (by assumption); have q4 : e4 = 0 := (by assumption); have q5 : e5 = 0 := (by assumption); have q6 : e6 = 0 := (by assumption); have q7 : e7 = 0 := (by assumption); have qo : ¬ ok = true := (by assumption : ok = false) ▸ (by decide); obtain ⟨g1, g2⟩ := good l7 (by rw [hput, if_pos q1, if_pos q2, if_pos q3, if_pos q4, if_pos q5, if_pos q6, if_pos q7, if_neg qo]); rw [g1, g2]; exact (by repeat (first | exact trivial | exact rfl | exact DLe.refl _ | exact DLe.full _ _ _ | exact DLe.nil _ _ _ | exact VLe.refl _ | refine And.intro ?_ ?_ | refine VLe.d ?_ | refine DLe.agg ?_)))
              | fail
          | some g =>
            have hpos : 0 < w.facts.length := by cases hw : w.facts with
              | nil => rw [hw] at hgl; cases hgl
              | cons => simp
            have hg : (w.facts.map Fact.d)[((w.facts.length : Int) - 1).toNat]? = some g.d := by
              rw [show ((w.facts.length : Int) - 1).toNat = w.facts.length - 1 by omega, List.getElem?_map, ← List.getLast?_eq_getElem?, hgl]; rfl
            by_cases hgk : g.known = known
            · obtain rfl : g.no + 1 = n := by rw [← hn]; unfold nextNo; rw [hgl]; simp [hgk]
              repeat' ((conv => whnf); first | refine Nam.mk (y := 7) rfl ?_ | with_reducible refine Dec.t (show true = true from rfl) ?_ | with_reducible refine Dec.t (show false = false from rfl) ?_ | with_reducible refine Dec.f (show ¬ (true = false) by decide) ?_ | with_reducible refine Dec.f (show ¬ (false = true) by decide) ?_ | refine Dec.t (by omega) ?_ | refine Dec.f (by omega) ?_ | refine Dec.split (fun _ => ?_) (fun _ => ?_) | refine Wr.id (by omega) ?_ | refine Chk.mk (by first | omega | exact rfl | (simp only [List.length_map]; omega) | (simp [room]; done) | (simp [room]; omega) | (simp [dropL, room]; done) | (simp [dropL, room]; omega)) ?_ | refine Nam.mk (List.length_map _) ?_ | refine Prep.skip ?_ | refine Eith.l ?_ | refine chk_t (x := D.flat _) (by assumption) ?_ | refine br_mk (fun _ => ?_) (fun _ => ?_) | refine ACall.of (hC) ?_ | refine APCall.of (hC) ?_ | refine ACall.of (hR) ?_ | refine APCall.of (hR) ?_ | refine nthK_mk hg ?_ | refine ACall.of (ref19_Head 1) ?_ | refine APCall.of (ref19_Head 1) ?_ | refine ALoop.rounds 8 ?_ | refine ALoopN.step (E := (envOf Try.prog tt Try.f21.ntmps)) (envOf_ok ttok mixed) ?_ | refine ACall.of (c0) ?_ | refine APCall.of (c0) ?_ | refine ACall.of (c1) ?_ | refine APCall.of (c1) ?_ | refine ACall.of (c2) ?_ | refine APCall.of (c2) ?_ | refine ACall.of (c3) ?_ | refine APCall.of (c3) ?_ | refine ACall.of (c4) ?_ | refine APCall.of (c4) ?_ | refine ACall.of (c5) ?_ | refine APCall.of (c5) ?_ | refine ACall.of (c6) ?_ | refine APCall.of (c6) ?_ | refine ACall.of (c7) ?_ | refine APCall.of (c7) ?_ | refine ACall.of (c8) ?_ | refine APCall.of (c8) ?_ | fail)
              all_goals (conv => whnf)
              all_goals first
                | (have q : ¬ e1 = 0 := (by assumption); obtain ⟨g1, g2⟩ := bad e1 q (by rw [hput, if_neg q]); rw [g2]; exact ⟨g1, DLe.refl _, rfl⟩)
                | (have q1 : e1 = 0 := (by assumption); have q : ¬ e2 = 0 := (by assumption); obtain ⟨g1, g2⟩ := bad e2 q (by rw [hput, if_pos q1, if_neg q]); rw [g2]; exact ⟨g1, DLe.refl _, rfl⟩)
                | (have q1 : e1 = 0 := (by assumption); have q2 : e2 = 0 := (by assumption); have q : ¬ e3 = 0 := (by assumption); obtain ⟨g1, g2⟩ := bad e3 q (by rw [hput, if_pos q1, if_pos q2, if_neg q]); rw [g2]; exact ⟨g1, DLe.refl _, rfl⟩)
                | (have q1 : e1 = 0 := (by assumption); have q2 : e2 = 0 := (by assumption); have q3 : e3 = 0 := (by assumption); have q : ¬ e4 = 0 := (by assumption); obtain ⟨g1, g2⟩ := bad e4 q (by rw [hput, if_pos q1, if_pos q2, if_pos q3, if_neg q]); rw [g2]; exact ⟨g1, DLe.refl _, rfl⟩)
                | (have q1 : e1 = 0 := (by assumption); have q2 : e2 = 0 := (by assumption); have q3 : e3 = 0 := (by assumption); have q4 : e4 = 0 := (by assumption); have q : ¬ e5 = 0 := (by assumption); obtain ⟨g1, g2⟩ := bad e5 q (by rw [hput, if_pos q1, if_pos q2, if_pos q3, if_pos q4, if_neg q]); rw [g2]; exact ⟨g1, DLe.refl _, rfl⟩)
                | (have q1 : e1 = 0 := (by assumption); have q2 : e2 = 0 := (by assumption); have q3 : e3 = 0 := (by assumption); have q4 : e4 = 0 := (by assumption); have q5 : e5 = 0 := (by assumption); have q : ¬ e6 = 0 := (by assumption); obtain ⟨g1, g2⟩ := bad e6 q (by rw [hput, if_pos q1, if_pos q2, if_pos q3, if_pos q4, if_pos q5, if_neg q]); rw [g2]; exact ⟨g1, DLe.refl _, rfl⟩)
                | (have q1 : e1 = 0 := (by assumption); have q2 : e2 = 0 := (by assumption); have q3 : e3 = 0 := (by assumption); have q4 : e4 = 0 := (by assumption); have q5 : e5 = 0 := (by assumption); have q6 : e6 = 0 := (by assumption); have q : ¬ e7 = 0 := (by assumption); obtain ⟨g1, g2⟩ := bad e7 q (by rw [hput, if_pos q1, if_pos q2, if_pos q3, if_pos q4, if_pos q5, if_pos q6, if_neg q]); rw [g2]; exact ⟨g1, DLe.refl _, rfl⟩)
                | (have q1 : e1 = 0 := (by assumption); have q2 : e2 = 0 := (by assumption); have q3 : e3 = 0 := (by assumption); have q4 : e4 = 0 := (by assumption); have q5 : e5 = 0 := (by assumption); have q6 : e6 = 0 := (by assumption); have q7 : e7 = 0 := (by assumption); have qo : ok = true := (by assumption); have q : ¬ e8 = 0 := (by assumption); obtain ⟨g1, g2⟩ := bad e8 q (by rw [hput, if_pos q1, if_pos q2, if_pos q3, if_pos q4, if_pos q5, if_pos q6, if_pos q7, if_pos qo, if_neg q]); rw [g2]; exact ⟨g1, DLe.refl _, rfl⟩)
                | (have q1 : e1 = 0 := (by assumption); have q2 : e2 = 0 := (by assumption); have q3 : e3 = 0 := (by assumption); have q4 : e4 = 0 := (by assumption); have q5 : e5 = 0 := (by assumption); have q6 : e6 = 0 := (by assumption); have q7 : e7 = 0 := (by assumption); have qo : ok = true := (by assumption); have q : e8 = 0 := (by assumption); obtain ⟨g1, g2⟩ := good l8 (by rw [hput, if_pos q1, if_pos q2, if_pos q3, if_pos q4, if_pos q5, if_pos q6, if_pos q7, if_pos qo, if_pos q]); rw [g1, g2]; exact (by repeat (first | exact trivial | exact rfl | exact DLe.refl _ | exact DLe.full _ _ _ | exact DLe.nil _ _ _ | exact VLe.refl _ | refine And.intro ?_ ?_ | refine VLe.d ?_ | refine DLe.agg ?_)))
                | (have q1 : e1 = 0 := (by assumption); have q2 : e2 = 0 := (by assumption); have q3 : e3 = 0 := (by assumption); have q4 : e4 = 0 := (by assumption); have q5 : e5 = 0 := (by assumption); have q6 : e6 = 0 := (by assumption); have q7 : e7 = 0 := (by assumption); have qo : ¬ ok = true := (by assumption : ok = false) ▸ (by decide); obtain ⟨g1, g2⟩ := good l7 (by rw [hput, if_pos q1, if_pos q2, if_pos q3, if_pos q4, if_pos q5, if_pos q6, if_pos q7, if_neg qo]); rw [g1, g2]; exact (by repeat (first | exact trivial | exact rfl | exact DLe.refl _ | exact DLe.full _ _ _ | exact DLe.nil _ _ _ | exact VLe.refl _ | refine And.intro ?_ ?_ | refine VLe.d ?_ | refine DLe.agg ?_)))
                | fail
            · obtain rfl : 0 = n := by rw [← hn]; unfold nextNo; rw [hgl]; simp [hgk]
              repeat' ((conv => whnf); first | refine Nam.mk (y := 7) rfl ?_ | with_reducible refine Dec.t (show true = true from rfl) ?_ | with_reducible refine Dec.t (show false = false from rfl) ?_ | with_reducible refine Dec.f (show ¬ (true = false) by decide) ?_ | with_reducible refine Dec.f (show ¬ (false = true) by decide) ?_ | refine Dec.t (by omega) ?_ | refine Dec.f (by omega) ?_ | refine Dec.split (fun _ => ?_) (fun _ => ?_) | refine Wr.id (by omega) ?_ | refine Chk.mk (by first | omega | exact rfl | (simp only [List.length_map]; omega) | (simp [room]; done) | (simp [room]; omega) | (simp [dropL, room]; done) | (simp [dropL, room]; omega)) ?_ | refine Nam.mk (List.length_map _) ?_ | refine Prep.skip ?_ | refine Eith.l ?_ | refine chk_t (x := D.flat _) (by assumption) ?_ | refine br_mk (fun _ => ?_) (fun _ => ?_) | refine ACall.of (hC) ?_ | refine APCall.of (hC) ?_ | refine ACall.of (hR) ?_ | refine APCall.of (hR) ?_ | refine nthK_mk hg ?_ | refine ACall.of (ref19_Head 1) ?_ | refine APCall.of (ref19_Head 1) ?_ | refine ALoop.rounds 8 ?_ | refine ALoopN.step (E := (envOf Try.prog tt Try.f21.ntmps)) (envOf_ok ttok mixed) ?_ | refine ACall.of (c0) ?_ | refine APCall.of (c0) ?_ | refine ACall.of (c1) ?_ | refine APCall.of (c1) ?_ | refine ACall.of (c2) ?_ | refine APCall.of (c2) ?_ | refine ACall.of (c3) ?_ | refine APCall.of (c3) ?_ | refine ACall.of (c4) ?_ | refine APCall.of (c4) ?_ | refine ACall.of (c5) ?_ | refine APCall.of (c5) ?_ | refine ACall.of (c6) ?_ | refine APCall.of (c6) ?_ | refine ACall.of (c7) ?_ | refine APCall.of (c7) ?_ | refine ACall.of (c8) ?_ | refine APCall.of (c8) ?_ | fail)
              all_goals (conv => whnf)
              all_goals first
                | (have q : ¬ e1 = 0 := (by assumption); obtain ⟨g1, g2⟩ := bad e1 q (by rw [hput, if_neg q]); rw [g2]; exact ⟨g1, DLe.refl _, rfl⟩)
                | (have q1 : e1 = 0 := (by assumption); have q : ¬ e2 = 0 := (by assumption); obtain ⟨g1, g2⟩ := bad e2 q (by rw [hput, if_pos q1, if_neg q]); rw [g2]; exact ⟨g1, DLe.refl _, rfl⟩)
                | (have q1 : e1 = 0 := (by assumption); have q2 : e2 = 0 := (by assumption); have q : ¬ e3 = 0 := (by assumption); obtain ⟨g1, g2⟩ := bad e3 q (by rw [hput, if_pos q1, if_pos q2, if_neg q]); rw [g2]; exact ⟨g1, DLe.refl _, rfl⟩)
                | (have q1 : e1 = 0 := (by assumption); have q2 : e2 = 0 := (by assumption); have q3 : e3 = 0 := (by assumption); have q : ¬ e4 = 0 := (by assumption); obtain ⟨g1, g2⟩ := bad e4 q (by rw [hput, if_pos q1, if_pos q2, if_pos q3, if_neg q]); rw [g2]; exact ⟨g1, DLe.refl _, rfl⟩)
                | (have q1 : e1 = 0 := (by assumption); have q2 : e2 = 0 := (by assumption); have q3 : e3 = 0 := (by assumption); have q4 : e4 = 0 := (by assumption); have q : ¬ e5 = 0 := (by assumption); obtain ⟨g1, g2⟩ := bad e5 q (by rw [hput, if_pos q1, if_pos q2, if_pos q3, if_pos q4, if_neg q]); rw [g2]; exact ⟨g1, DLe.refl _, rfl⟩)
                | (have q1 : e1 = 0 := (by assumption); have q2 : e2 = 0 := (by assumption); have q3 : e3 = 0 := (by assumption); have q4 : e4 = 0 := (by assumption); have q5 : e5 = 0 := (by assumption); have q : ¬ e6 = 0 := (by assumption); obtain ⟨g1, g2⟩ := bad e6 q (by rw [hput, if_pos q1, if_pos q2, if_pos q3, if_pos q4, if_pos q5, if_neg q]); rw [g2]; exact ⟨g1, DLe.refl _, rfl⟩)
                | (have q1 : e1 = 0 := (by assumption); have q2 : e2 = 0 := (by assumption); have q3 : e3 = 0 := (by assumption); have q4 : e4 = 0 := (by assumption); have q5 : e5 = 0 := (by assumption); have q6 : e6 = 0 := (by assumption); have q : ¬ e7 = 0 := (by assumption); obtain ⟨g1, g2⟩ := bad e7 q (by rw [hput, if_pos q1, if_pos q2, if_pos q3, if_pos q4, if_pos q5, if_pos q6, if_neg q]); rw [g2]; exact ⟨g1, DLe.refl _, rfl⟩)
                | (have q1 : e1 = 0 := (by assumption); have q2 : e2 = 0 := (by assumption); have q3 : e3 = 0 := (by assumption); have q4 : e4 = 0 := (by assumption); have q5 : e5 = 0 := (by assumption); have q6 : e6 = 0 := (by assumption); have q7 : e7 = 0 := (by assumption); have qo : ok = true := (by assumption); have q : ¬ e8 = 0 := (by assumption); obtain ⟨g1, g2⟩ := bad e8 q (by rw [hput, if_pos q1, if_pos q2, if_pos q3, if_pos q4, if_pos q5, if_pos q6, if_pos q7, if_pos qo, if_neg q]); rw [g2]; exact ⟨g1, DLe.refl _, rfl⟩)
                | (have q1 : e1 = 0 := (by assumption); have q2 : e2 = 0 := (by assumption); have q3 : e3 = 0 := (by assumption); have q4 : e4 = 0 := (by assumption); have q5 : e5 = 0 := (by assumption); have q6 : e6 = 0 := (by assumption); have q7 : e7 = 0 := (by assumption); have qo : ok = true := (by assumption); have q : e8 = 0 := (by assumption); obtain ⟨g1, g2⟩ := good l8 (by rw [hput, if_pos q1, if_pos q2, if_pos q3, if_pos q4, if_pos q5, if_pos q6, if_pos q7, if_pos qo, if_pos q]); rw [g1, g2]; exact (by repeat (first | exact trivial | exact rfl | exact DLe.refl _ | exact DLe.full _ _ _ | exact DLe.nil _ _ _ | exact VLe.refl _ | refine And.intro ?_ ?_ | refine VLe.d ?_ | refine DLe.agg ?_)))
                | (have q1 : e1 = 0 := (by assumption); have q2 : e2 = 0 := (by assumption); have q3 : e3 = 0 := (by assumption); have q4 : e4 = 0 := (by assumption); have q5 : e5 = 0 := (by assumption); have q6 : e6 = 0 := (by assumption); have q7 : e7 = 0 := (by assumption); have qo : ¬ ok = true := (by assumption : ok = false) ▸ (by decide); obtain ⟨g1, g2⟩ := good l7 (by rw [hput, if_pos q1, if_pos q2, if_pos q3, if_pos q4, if_pos q5, if_pos q6, if_pos q7, if_neg qo]); rw [g1, g2]; exact (by repeat (first | exact trivial | exact rfl | exact DLe.refl _ | exact DLe.full _ _ _ | exact DLe.nil _ _ _ | exact VLe.refl _ | refine And.intro ?_ ?_ | refine VLe.d ?_ | refine DLe.agg ?_)))
                | fail
        · have hA : addM w.facts ⟨2, x.no, 0, x.item, a, b, known, n⟩ = ([], 40) := by unfold addM; rw [if_pos hc, if_neg (fun h => hab (ok_span h))]
          rw [hA] at c0
          have hp : putM w.src w.facts x a b known = ([], 40) := by rw [hput0]; simp only [ordFacts, addsM, hA]; rfl
          obtain ⟨g1, g2⟩ := bad 40 (by decide) hp
          rw [g2]
          clear hput0 bad good
          cases hgl : w.facts.getLast? with
          | none =>
            have hnil : (w.facts.length : Int) = 0 := by rw [show w.facts = [] by simpa using hgl]; rfl
            obtain rfl : 0 = n := by rw [← hn]; unfold nextNo; rw [hgl]
            repeat' ((conv => whnf); first | refine Nam.mk (y := 7) rfl ?_ | with_reducible refine Dec.t (show true = true from rfl) ?_ | with_reducible refine Dec.t (show false = false from rfl) ?_ | with_reducible refine Dec.f (show ¬ (true = false) by decide) ?_ | with_reducible refine Dec.f (show ¬ (false = true) by decide) ?_ | refine Dec.t (by omega) ?_ | refine Dec.f (by omega) ?_ | refine Dec.split (fun _ => ?_) (fun _ => ?_) | refine Wr.id (by omega) ?_ | refine Chk.mk (by first | omega | exact rfl | (simp only [List.length_map]; omega) | (simp [room]; done) | (simp [room]; omega) | (simp [dropL, room]; done) | (simp [dropL, room]; omega)) ?_ | refine Nam.mk (List.length_map _) ?_ | refine Prep.skip ?_ | refine Eith.l ?_ | refine chk_t (x := D.flat _) (by assumption) ?_ | refine br_mk (fun _ => ?_) (fun _ => ?_) | refine ACall.of (hC) ?_ | refine APCall.of (hC) ?_ | refine ACall.of (hR) ?_ | refine APCall.of (hR) ?_ | refine nthK_mk hg ?_ | refine ACall.of (ref19_Head 1) ?_ | refine APCall.of (ref19_Head 1) ?_ | refine ALoop.rounds 8 ?_ | refine ALoopN.step (E := (envOf Try.prog tt Try.f21.ntmps)) (envOf_ok ttok mixed) ?_ | refine ACall.of (c0) ?_ | refine APCall.of (c0) ?_ | fail)
            all_goals (conv => whnf)
            exact ⟨g1, DLe.refl _, rfl⟩
          | some g =>
            have hpos : 0 < w.facts.length := by cases hw : w.facts with
              | nil => rw [hw] at hgl; cases hgl
              | cons => simp
            have hg : (w.facts.map Fact.d)[((w.facts.length : Int) - 1).toNat]? = some g.d := by
              rw [show ((w.facts.length : Int) - 1).toNat = w.facts.length - 1 by omega, List.getElem?_map, ← List.getLast?_eq_getElem?, hgl]; rfl
            by_cases hgk : g.known = known
            · obtain rfl : g.no + 1 = n := by rw [← hn]; unfold nextNo; rw [hgl]; simp [hgk]
              repeat' ((conv => whnf); first | refine Nam.mk (y := 7) rfl ?_ | with_reducible refine Dec.t (show true = true from rfl) ?_ | with_reducible refine Dec.t (show false = false from rfl) ?_ | with_reducible refine Dec.f (show ¬ (true = false) by decide) ?_ | with_reducible refine Dec.f (show ¬ (false = true) by decide) ?_ | refine Dec.t (by omega) ?_ | refine Dec.f (by omega) ?_ | refine Dec.split (fun _ => ?_) (fun _ => ?_) | refine Wr.id (by omega) ?_ | refine Chk.mk (by first | omega | exact rfl | (simp only [List.length_map]; omega) | (simp [room]; done) | (simp [room]; omega) | (simp [dropL, room]; done) | (simp [dropL, room]; omega)) ?_ | refine Nam.mk (List.length_map _) ?_ | refine Prep.skip ?_ | refine Eith.l ?_ | refine chk_t (x := D.flat _) (by assumption) ?_ | refine br_mk (fun _ => ?_) (fun _ => ?_) | refine ACall.of (hC) ?_ | refine APCall.of (hC) ?_ | refine ACall.of (hR) ?_ | refine APCall.of (hR) ?_ | refine nthK_mk hg ?_ | refine ACall.of (ref19_Head 1) ?_ | refine APCall.of (ref19_Head 1) ?_ | refine ALoop.rounds 8 ?_ | refine ALoopN.step (E := (envOf Try.prog tt Try.f21.ntmps)) (envOf_ok ttok mixed) ?_ | refine ACall.of (c0) ?_ | refine APCall.of (c0) ?_ | fail)
              all_goals (conv => whnf)
              exact ⟨g1, DLe.refl _, rfl⟩
            · obtain rfl : 0 = n := by rw [← hn]; unfold nextNo; rw [hgl]; simp [hgk]
              repeat' ((conv => whnf); first | refine Nam.mk (y := 7) rfl ?_ | with_reducible refine Dec.t (show true = true from rfl) ?_ | with_reducible refine Dec.t (show false = false from rfl) ?_ | with_reducible refine Dec.f (show ¬ (true = false) by decide) ?_ | with_reducible refine Dec.f (show ¬ (false = true) by decide) ?_ | refine Dec.t (by omega) ?_ | refine Dec.f (by omega) ?_ | refine Dec.split (fun _ => ?_) (fun _ => ?_) | refine Wr.id (by omega) ?_ | refine Chk.mk (by first | omega | exact rfl | (simp only [List.length_map]; omega) | (simp [room]; done) | (simp [room]; omega) | (simp [dropL, room]; done) | (simp [dropL, room]; omega)) ?_ | refine Nam.mk (List.length_map _) ?_ | refine Prep.skip ?_ | refine Eith.l ?_ | refine chk_t (x := D.flat _) (by assumption) ?_ | refine br_mk (fun _ => ?_) (fun _ => ?_) | refine ACall.of (hC) ?_ | refine APCall.of (hC) ?_ | refine ACall.of (hR) ?_ | refine APCall.of (hR) ?_ | refine nthK_mk hg ?_ | refine ACall.of (ref19_Head 1) ?_ | refine APCall.of (ref19_Head 1) ?_ | refine ALoop.rounds 8 ?_ | refine ALoopN.step (E := (envOf Try.prog tt Try.f21.ntmps)) (envOf_ok ttok mixed) ?_ | refine ACall.of (c0) ?_ | refine APCall.of (c0) ?_ | fail)
              all_goals (conv => whnf)
              exact ⟨g1, DLe.refl _, rfl⟩
      · skip
        obtain ⟨g1, g2⟩ := bad 190 (by first | decide | assumption) (by unfold putM; rw [if_pos hc, if_neg (fun h => hno h.1)])
        rw [g2]
        clear bad good
        repeat' ((conv => whnf); first | refine Nam.mk (y := 7) rfl ?_ | with_reducible refine Dec.t (show true = true from rfl) ?_ | with_reducible refine Dec.t (show false = false from rfl) ?_ | with_reducible refine Dec.f (show ¬ (true = false) by decide) ?_ | with_reducible refine Dec.f (show ¬ (false = true) by decide) ?_ | refine Dec.t (by omega) ?_ | refine Dec.f (by omega) ?_ | refine Dec.split (fun _ => ?_) (fun _ => ?_) | refine Wr.id (by omega) ?_ | refine Chk.mk (by first | omega | exact rfl | (simp only [List.length_map]; omega) | (simp [room]; done) | (simp [room]; omega) | (simp [dropL, room]; done) | (simp [dropL, room]; omega)) ?_ | refine Nam.mk (List.length_map _) ?_ | refine Prep.skip ?_ | refine Eith.l ?_ | refine chk_t (x := D.flat _) (by assumption) ?_ | refine br_mk (fun _ => ?_) (fun _ => ?_) | refine ACall.of (hC) ?_ | refine APCall.of (hC) ?_ | refine ACall.of (hR) ?_ | refine APCall.of (hR) ?_ | refine nthK_mk hg ?_ | refine ACall.of (ref19_Head 1) ?_ | refine APCall.of (ref19_Head 1) ?_ | refine ALoop.rounds 8 ?_ | refine ALoopN.step (E := (envOf Try.prog tt Try.f21.ntmps)) (envOf_ok ttok mixed) ?_ | fail)
        all_goals (conv => whnf)
        all_goals exact ⟨g1, DLe.refl _, rfl⟩
    · rw [decide_eq_false hr] at hR
      obtain ⟨g1, g2⟩ := bad 190 (by first | decide | assumption) (by unfold putM; rw [if_pos hc, if_neg (fun h => hr h.2)])
      rw [g2]
      clear bad good
      repeat' ((conv => whnf); first | refine Nam.mk (y := 7) rfl ?_ | with_reducible refine Dec.t (show true = true from rfl) ?_ | with_reducible refine Dec.t (show false = false from rfl) ?_ | with_reducible refine Dec.f (show ¬ (true = false) by decide) ?_ | with_reducible refine Dec.f (show ¬ (false = true) by decide) ?_ | refine Dec.t (by omega) ?_ | refine Dec.f (by omega) ?_ | refine Dec.split (fun _ => ?_) (fun _ => ?_) | refine Wr.id (by omega) ?_ | refine Chk.mk (by first | omega | exact rfl | (simp only [List.length_map]; omega) | (simp [room]; done) | (simp [room]; omega) | (simp [dropL, room]; done) | (simp [dropL, room]; omega)) ?_ | refine Nam.mk (List.length_map _) ?_ | refine Prep.skip ?_ | refine Eith.l ?_ | refine chk_t (x := D.flat _) (by assumption) ?_ | refine br_mk (fun _ => ?_) (fun _ => ?_) | refine ACall.of (hC) ?_ | refine APCall.of (hC) ?_ | refine ACall.of (hR) ?_ | refine APCall.of (hR) ?_ | refine nthK_mk hg ?_ | refine ACall.of (ref19_Head 1) ?_ | refine APCall.of (ref19_Head 1) ?_ | refine ALoop.rounds 8 ?_ | refine ALoopN.step (E := (envOf Try.prog tt Try.f21.ntmps)) (envOf_ok ttok mixed) ?_ | fail)
      all_goals (conv => whnf)
      all_goals exact ⟨g1, DLe.refl _, rfl⟩
  · skip
    obtain ⟨g1, g2⟩ := bad (checkM w.facts) (by first | decide | assumption) (by unfold putM; rw [if_neg hc])
    rw [g2]
    clear bad good
    repeat' ((conv => whnf); first | refine Nam.mk (y := 7) rfl ?_ | with_reducible refine Dec.t (show true = true from rfl) ?_ | with_reducible refine Dec.t (show false = false from rfl) ?_ | with_reducible refine Dec.f (show ¬ (true = false) by decide) ?_ | with_reducible refine Dec.f (show ¬ (false = true) by decide) ?_ | refine Dec.t (by omega) ?_ | refine Dec.f (by omega) ?_ | refine Dec.split (fun _ => ?_) (fun _ => ?_) | refine Wr.id (by omega) ?_ | refine Chk.mk (by first | omega | exact rfl | (simp only [List.length_map]; omega) | (simp [room]; done) | (simp [room]; omega) | (simp [dropL, room]; done) | (simp [dropL, room]; omega)) ?_ | refine Nam.mk (List.length_map _) ?_ | refine Prep.skip ?_ | refine Eith.l ?_ | refine chk_t (x := D.flat _) (by assumption) ?_ | refine br_mk (fun _ => ?_) (fun _ => ?_) | refine ACall.of (hC) ?_ | refine APCall.of (hC) ?_ | refine ACall.of (hR) ?_ | refine APCall.of (hR) ?_ | refine nthK_mk hg ?_ | refine ACall.of (ref19_Head 1) ?_ | refine APCall.of (ref19_Head 1) ?_ | refine ALoop.rounds 8 ?_ | refine ALoopN.step (E := (envOf Try.prog tt Try.f21.ntmps)) (envOf_ok ttok mixed) ?_ | fail)
    all_goals (conv => whnf)
    all_goals exact ⟨g1, DLe.refl _, rfl⟩
end Go.PM

