/- OrdersBack, its contract. -/
import Derived.Test.YtghlkcnmocgkaaaL19a
namespace Go.PM
open Go.Proofs
set_option maxRecDepth 10000
set_option maxHeartbeats 8000000

theorem before_trans {a b c : Fact} (h1 : before a b) (h2 : before b c) : before a c := by unfold before at *; omega
theorem rising_pair : ∀ l : List Fact, rising l → l.Pairwise before
  | [], _ => List.Pairwise.nil
  | [a], _ => List.pairwise_singleton _ _
  | a :: b :: r, h => by
    have ih := rising_pair (b :: r) h.2
    rw [List.pairwise_cons]
    refine ⟨fun x hx => ?_, ih⟩
    rcases List.mem_cons.1 hx with rfl | hx
    · exact h.1
    · exact before_trans h.1 ((List.pairwise_cons.1 ih).1 x hx)
theorem rising_snoc {f : Fact} : ∀ l : List Fact, rising l → (∀ g, l.getLast? = some g → before g f) → rising (l ++ [f])
  | [], _, _ => trivial
  | [a], _, h => ⟨h a rfl, trivial⟩
  | a :: b :: r, h, h2 => ⟨h.1, rising_snoc (b :: r) h.2 (fun g hg => h2 g (by simpa using hg))⟩
theorem check_all {l : List Fact} (h : checkM l = 0) : (∀ f ∈ l, f.ok) ∧ rising l := by
  unfold checkM at h
  by_cases h1 : ∀ f ∈ l, f.ok
  · by_cases h2 : rising l
    · exact ⟨h1, h2⟩
    · rw [if_pos h1, if_neg h2] at h; exact absurd h (by decide)
  · rw [if_neg h1] at h; exact absurd h (by decide)
theorem addM_check {l : List Fact} {f : Fact} (h : (addM l f).2 = 0) : checkM (l ++ [f]) = 0 := by
  obtain ⟨h1, h2, h3, _⟩ := addM_ok h
  obtain ⟨g1, g2⟩ := check_all h1
  unfold checkM
  rw [if_pos (fun g hg => by rcases List.mem_append.1 hg with hg | hg; exact g1 g hg; rw [List.mem_singleton.1 hg]; exact h2), if_pos (rising_snoc l g2 h3)]
theorem addsM_check : ∀ (fs l : List Fact), checkM l = 0 → (addsM l fs).2 = 0 → checkM (l ++ fs) = 0
  | [], l, h, _ => by simpa using h
  | f :: fs, l, h, h2 => by
    unfold addsM at h2
    by_cases h1 : (addM l f).2 = 0
    · rw [if_pos h1, (addM_ok h1).2.2.2] at h2
      have := addsM_check fs (l ++ [f]) (addM_check h1) h2
      simpa using this
    · rw [if_neg h1] at h2; exact absurd h2 h1

/-- A fact after which none of its key comes. -/
theorem at_last {l m : List Fact} {f : Fact} {day t : Int} (hc : checkM (l ++ f :: m) = 0) (h1 : f.known ≤ t) (h2 : f.from_ ≤ day) (h3 : day < f.to_) (h4 : ∀ g ∈ m, g.key ≠ f.key) : atM (l ++ f :: m) f.key day t = valOf (some f) := by
  have hp := rising_pair _ (check_all hc).2
  rw [List.pairwise_append] at hp
  rw [show l ++ f :: m = (l ++ [f]) ++ m by simp, at_append_other _ _ _ _ _ h4]
  unfold atM atF
  rw [List.foldl_append, List.foldl_cons, List.foldl_nil]
  congr 1
  unfold atStep
  rw [if_pos]
  refine ⟨rfl, h1, h2, h3, fun g hg => ?_⟩
  rw [order_le]
  intro hb
  rcases atF_mem (l := l) l none g hg with h | h
  · have := before_trans (hp.2.2 g h f (.head _)) hb
    unfold before at this; omega
  · cases h
theorem at_skip (l m : List Fact) (k : Key) (d t : Int) (h : ∀ f ∈ m, ¬ (f.key = k ∧ f.known ≤ t ∧ f.from_ ≤ d ∧ d < f.to_)) : atM (l ++ m) k d t = atM l k d t := by
  unfold atM atF
  rw [List.foldl_append]
  congr 1
  generalize l.foldl (atStep k d t) none = o
  induction m generalizing o with
  | nil => rfl
  | cons f m ih =>
    rw [List.foldl_cons]
    have : atStep k d t o f = o := by
      unfold atStep
      rw [if_neg (fun hh => h f (.head _) ⟨hh.1, hh.2.1, hh.2.2.1, hh.2.2.2.1⟩)]
    rw [this]
    exact ih (fun g hg => h g (.tail _ hg)) o
theorem at_all (l : List Fact) (k : Key) (d t t' : Int) (h : ∀ g ∈ l, g.known ≤ t ∧ g.known ≤ t') : atM l k d t = atM l k d t' := by
  unfold atM atF
  congr 1
  generalize (none : Option Fact) = o
  induction l generalizing o with
  | nil => rfl
  | cons f l ih =>
    rw [List.foldl_cons, List.foldl_cons]
    have : atStep k d t o f = atStep k d t' o f := by
      have := h f (.head _)
      unfold atStep hits
      simp only [this.1, this.2]
    rw [this]
    exact ih (fun g hg => h g (.tail _ hg)) _
theorem maxV_ge : ∀ (l : List Pt) (v : Int), v ≤ l.foldl maxV v ∧ ∀ p ∈ l, p.value ≤ l.foldl maxV v
  | [], v => by simp
  | p :: l, v => by
    obtain ⟨h1, h2⟩ := maxV_ge l (maxV v p)
    rw [List.foldl_cons]
    have : v ≤ maxV v p ∧ p.value ≤ maxV v p := by unfold maxV; split <;> omega
    refine ⟨by omega, fun q hq => ?_⟩
    rcases List.mem_cons.1 hq with rfl | hq
    · omega
    · exact h2 q hq
theorem points_mem (l : List Fact) (k : Key) (known : Int) : ∀ (n : Nat) (d : Nat) (v : Int), d < n → atM l k d known = some v → (⟨d, v⟩ : Pt) ∈ pointsF l k 0 known n
  | 0, d, v, h, _ => by omega
  | n + 1, d, v, h, hv => by
    rw [points_succ, List.mem_append]
    rcases Nat.lt_or_ge d n with h' | h'
    · exact .inl (points_mem l k known n d v h' hv)
    · have : d = n := by omega
      subst this
      refine .inr ?_
      rw [show (0 : Int) + (d : Int) = d by omega, hv]
      simp [ptOf]
theorem enough_all (l : List Fact) (no a b known : Int) (hab : a < b) (ha : 0 ≤ a) : ∀ n : Nat, (enough no a b (pointsF l (headO 1) 0 known n) : Int) ≤ cntD a b n ∧ ((enough no a b (pointsF l (headO 1) 0 known n) : Int) = cntD a b n → ∀ d : Nat, d < n → a ≤ d → (d : Int) < b → ∃ v, atM l (headO 1) d known = some v ∧ no < v)
  | 0 => by
    refine ⟨?_, fun _ d hd => by omega⟩
    simp [pointsF, enough, cntD]; omega
  | n + 1 => by
    obtain ⟨h1, h2⟩ := enough_all l no a b known hab ha n
    have hs := points_succ l (headO 1) 0 known n
    rw [show (0 : Int) + (n : Int) = n by omega] at hs
    have hc := cntD_succ hab n
    rw [show ((n + 1 : Nat) : Int) = (n : Int) + 1 by omega, hc, hs, enough_append]
    have he : (enough no a b ((ptOf (n : Int) (atM l (headO 1) n known)).toList) : Int) ≤ (if a ≤ (n : Int) ∧ (n : Int) < b then 1 else 0) ∧ ((a ≤ (n : Int) ∧ (n : Int) < b) → (enough no a b ((ptOf (n : Int) (atM l (headO 1) n known)).toList) : Int) = 1 → ∃ v, atM l (headO 1) n known = some v ∧ no < v) := by
      cases ho : atM l (headO 1) n known with
      | none =>
        rw [show enough no a b ((ptOf (n : Int) none).toList) = 0 from rfl]
        exact ⟨by split <;> omega, fun _ h => by omega⟩
      | some v =>
        have he : enough no a b ((ptOf (n : Int) (some v)).toList) = if a ≤ (n : Int) ∧ (n : Int) < b ∧ no < v then 1 else 0 := by
          unfold enough ptOf
          simp only [Option.map_some, Option.toList_some, List.filter_cons, List.filter_nil]
          by_cases hq : a ≤ (n : Int) ∧ (n : Int) < b ∧ no < v
          · rw [if_pos hq, if_pos (by simpa [and_assoc] using hq)]; rfl
          · rw [if_neg hq, if_neg (by simpa [and_assoc] using hq)]; rfl
        rw [he]
        refine ⟨?_, fun hq h => ⟨v, rfl, ?_⟩⟩
        · repeat' split
          all_goals omega
        · split at h
          · rename_i h'; exact h'.2.2
          · omega
    refine ⟨by omega, fun heq d hd hda hdb => ?_⟩
    rcases Nat.lt_or_ge d n with h' | h'
    · exact h2 (by omega) d h' hda hdb
    · have : d = n := by omega
      subst this
      refine he.2 ⟨hda, hdb⟩ ?_
      have h3 := he.1
      rw [if_pos ⟨hda, hdb⟩] at h3 heq
      omega
structure PutOk (s : Src) (l : List Fact) (x : Ord) (a b known : Int) (r : List Fact) : Prop where
  chk : checkM r = 0
  right : x.right s
  no : 0 ≤ x.no ∧ x.no ≤ 1023
  span : 0 ≤ a ∧ a < b ∧ b ≤ 1024
  old : ∀ g ∈ l, g.known ≤ known
  pos : 1 ≤ known ∧ known ≤ 16777216
  shape : ∃ n hd, r = l ++ (ordFacts x a b known n ++ hd) ∧ ((hd = [] ∧ (raisedM l x.no a b known).2 = false) ∨ ∃ m, hd = [headFact (raisedM l x.no a b known).1 known m])
theorem putM_ok (s : Src) (l : List Fact) (x : Ord) (a b known : Int) (h : (putM s l x a b known).2 = 0) : PutOk s l x a b known (putM s l x a b known).1 ∧ l.length + 7 ≤ (putM s l x a b known).1.length ∧ (putM s l x a b known).1.length ≤ l.length + 8 := by
  unfold putM at h ⊢
  by_cases hc : checkM l = 0
  · rw [if_pos hc] at h ⊢
    by_cases hr : (0 ≤ x.no ∧ x.no ≤ 1023) ∧ x.right s
    · rw [if_pos hr] at h ⊢
      generalize nextNo l known = n at h ⊢
      by_cases ha : (addsM l (ordFacts x a b known n)).2 = 0
      · rw [if_pos ha] at h ⊢
        have happ := addsM_app _ _ ha
        have hchk := addsM_check _ _ hc ha
        rw [happ] at h ⊢
        have hkeys : ∀ f ∈ ordFacts x a b known n, f.key ≠ (headO 1) := fun f hf => by
          simp only [ordFacts, List.mem_cons, List.not_mem_nil, or_false] at hf
          rcases hf with rfl | rfl | rfl | rfl | rfl | rfl | rfl <;> (intro h; injection h with h1; cases h1)
        have hrs := raised_same l (ordFacts x a b known n) x.no a b known hkeys
        rw [hrs] at h ⊢
        have hok := check_all hchk
        have hf0 := hok.1 ⟨2, x.no, 0, x.item, a, b, known, n⟩ (List.mem_append_right _ (by simp [ordFacts]))
        have hsp := ok_span hf0
        have hpr := rising_pair _ hok.2
        rw [List.pairwise_append] at hpr
        have hold : ∀ g ∈ l, g.known ≤ known := fun g hg => by
          have := hpr.2.2 g hg ⟨2, x.no, 0, x.item, a, b, known, n⟩ (by simp [ordFacts])
          unfold before at this; simp only at this; omega
        have hkn : 1 ≤ known ∧ known ≤ 16777216 := by unfold Fact.ok at hf0; simp only at hf0; omega
        by_cases hq : (raisedM l x.no a b known).2 = true
        · rw [if_pos hq] at h ⊢
          have h2 := addsM_app _ _ h
          have h3 := addsM_check _ _ hchk h
          rw [h2]
          exact ⟨⟨h3, hr.2, hr.1, hsp, hold, hkn, n, _, by rw [List.append_assoc], .inr ⟨_, rfl⟩⟩, by simp [ordFacts], by simp [ordFacts]⟩
        · rw [if_neg hq] at h ⊢
          rw [happ]
          exact ⟨⟨hchk, hr.2, hr.1, hsp, hold, hkn, n, [], by simp, .inl ⟨rfl, by simpa using hq⟩⟩, by simp [ordFacts], by simp [ordFacts]⟩
      · rw [if_neg ha] at h; exact absurd h ha
    · rw [if_neg hr] at h; exact absurd h (by decide)
  · rw [if_neg hc] at h; exact absurd h hc
theorem span_days {d : Int} (h : 0 ≤ d) : ∃ n : Nat, d = n := ⟨d.toNat, by omega⟩
/-- The head, behind a record: on the days of the span there is the lot; nowhere are there fewer. -/
theorem put_many {s : Src} {l : List Fact} {x : Ord} {a b known : Int} {r : List Fact} (h : PutOk s l x a b known r) (day t : Int) (hd : 0 ≤ day ∧ day < 1024) :
    (a ≤ day ∧ day < b ∧ known ≤ t → x.no < manyM r 1 day t) ∧ manyM l 1 day t ≤ manyM r 1 day t := by
  obtain ⟨n, hd', hr, hsh⟩ := h.shape
  have hkeys : ∀ f ∈ ordFacts x a b known n, f.key ≠ (headO 1) := fun f hf => by
    simp only [ordFacts, List.mem_cons, List.not_mem_nil, or_false] at hf
    rcases hf with rfl | rfl | rfl | rfl | rfl | rfl | rfl <;> (intro h; injection h with h1; cases h1)
  have hall : known ≤ t → atM l (headO 1) day t = atM l (headO 1) day known := fun ht => at_all _ _ _ _ _ fun g hg => ⟨by have := h.old g hg; omega, h.old g hg⟩
  obtain ⟨dn, hdn⟩ := span_days hd.1
  have hpf : pointsM l (headO 1) 0 1024 known = pointsF l (headO 1) 0 known 1024 := by unfold pointsM; rw [lo0_0, days_all]
  rcases hsh with ⟨rfl, hno⟩ | ⟨m, rfl⟩
  · have hat : ∀ t, atM r (headO 1) day t = atM l (headO 1) day t := fun t => by
      rw [hr, List.append_nil]; exact at_append_other _ _ _ _ _ hkeys
    have hm : ∀ t, manyM r 1 day t = manyM l 1 day t := fun t => by unfold manyM; rw [hat]
    refine ⟨fun hq => ?_, by rw [hm]; exact Int.le_refl _⟩
    rw [hm]
    unfold raisedM at hno
    simp only [decide_eq_false_iff_not, hpf] at hno
    obtain ⟨e1, e2⟩ := enough_all l x.no a b known h.span.2.1 h.span.1 1024
    have hcd : cntD a b ((1024 : Nat) : Int) = b - a := by have := h.span; unfold cntD; repeat' split; all_goals omega
    rw [hcd] at e1 e2
    obtain ⟨v, hv, hv2⟩ := e2 (by omega) dn (by omega) (by omega) (by omega)
    rw [← hdn] at hv
    have hxn := h.no
    unfold manyM
    rw [hall hq.2.2, hv]
    simp only
    split <;> omega
  · have hx : atM r (headO 1) day t = if known ≤ t then some (raisedM l x.no a b known).1 else atM l (headO 1) day t := by
      have hv := maxV_ge (pointsM l (headO 1) 0 1024 known) (x.no + 1)
      have hxn := h.no
      by_cases ht : known ≤ t
      · rw [if_pos ht]
        have hc := h.chk
        rw [hr, ← List.append_assoc] at hc
        rw [hr, ← List.append_assoc]
        have := at_last (l := l ++ ordFacts x a b known n) (m := []) (f := headFact (raisedM l x.no a b known).1 known m) (day := day) (t := t) hc ht hd.1 hd.2 (by simp)
        rw [show (headFact (raisedM l x.no a b known).1 known m).key = (headO 1) from rfl] at this
        rw [this]
        unfold valOf headFact
        simp only
        rw [if_neg]
        unfold raisedM
        simp only
        omega
      · rw [if_neg ht, hr]
        refine at_skip _ _ _ _ _ fun f hf hh => ?_
        rcases List.mem_append.1 hf with hf | hf
        · exact hkeys f hf hh.1
        · rw [List.mem_singleton.1 hf] at hh
          exact ht hh.2.1
    have hv := maxV_ge (pointsM l (headO 1) 0 1024 known) (x.no + 1)
    have hxn := h.no
    refine ⟨fun hq => ?_, ?_⟩
    · rw [if_pos hq.2.2] at hx
      unfold manyM
      rw [hx]
      simp only [raisedM]
      repeat' split
      all_goals omega
    · by_cases ht : known ≤ t
      · rw [if_pos ht] at hx
        unfold manyM
        rw [hx, hall ht]
        cases ho : atM l (headO 1) day known with
        | none =>
          simp only [raisedM]
          repeat' split
          all_goals omega
        | some v =>
          have hp : (⟨dn, v⟩ : Pt) ∈ pointsM l (headO 1) 0 1024 known := by
            rw [hpf]
            exact points_mem l (headO 1) known 1024 dn v (by omega) (by rw [← hdn]; exact ho)
          have := hv.2 _ hp
          simp only [raisedM] at this ⊢
          repeat' split
          all_goals omega
      · rw [if_neg ht] at hx
        unfold manyM; rw [hx]; exact Int.le_refl _
theorem vals_cons {f : List Fact} {kind no day t v : Int} {i k : Nat} (h : atM f ⟨kind, no, (i : Int)⟩ day t = some v) : valsM f kind no day t i (k + 1) = v :: valsM f kind no day t (i + 1) k := by
  rw [valsM, h]
theorem put_mine {w : OWorld} {x : Ord} {a b known : Int} {r : List Fact} (h : PutOk w.src w.facts x a b known r) (day t : Int) (hq : a ≤ day ∧ day < b ∧ known ≤ t) : (findM { w with facts := r } x.no day t).l = x ∧ (findM { w with facts := r } x.no day t).ok = true := by
  obtain ⟨n, hd, hr, hsh⟩ := h.shape
  have hhd : ∀ f ∈ hd, f.kind = 0 := fun f hf => by
    rcases hsh with ⟨rfl, _⟩ | ⟨m, rfl⟩
    · cases hf
    · rw [List.mem_singleton.1 hf]; rfl
  have hri := h.right
  have key : ∀ (p s : List Fact) (f : Fact), r = p ++ f :: s → f.known = known → f.from_ = a → f.to_ = b → (∀ g ∈ s, g.key ≠ f.key) → 0 ≤ f.value → atM r f.key day t = some f.value := fun p s f e1 e2 e3 e4 e5 e6 => by
    have hc := h.chk
    rw [e1] at hc ⊢
    rw [at_last hc (by omega) (by omega) (by omega) e5]
    unfold valOf; simp only; rw [if_neg (by omega)]
  have hk : ∀ (s : List Fact) (i : Int), (∀ g ∈ s, g.kind = 2 → ¬ g.obj = i) → ∀ g ∈ s ++ hd, g.key ≠ ⟨2, x.no, i⟩ := fun s i hs g hg e => by
    unfold Fact.key at e
    injection e with e1 e2 e3
    rcases List.mem_append.1 hg with hg | hg
    · exact hs g hg e1 e3
    · have := hhd g hg; omega
  obtain ⟨⟨⟨hi0, hi1⟩, ⟨hp0, hp1⟩, ham, hcf⟩, ⟨hdu0, hdu1⟩, ⟨hcu0, hcu1⟩, hsh0, hsh1⟩ := hri
  have hcf0 : 0 ≤ x.config := by
    unfold configM at hcf
    split at hcf
    · rename_i hh; exact hh.2.1
    · cases hcf
  have k0 : atM r ⟨2, x.no, 0⟩ day t = some x.item := key w.facts ([(⟨2, x.no, 1, x.plant, a, b, known, n + 1⟩ : Fact), (⟨2, x.no, 2, x.config, a, b, known, n + 1 + 1⟩ : Fact), (⟨2, x.no, 3, x.amount, a, b, known, n + 1 + 1 + 1⟩ : Fact), (⟨2, x.no, 4, x.due, a, b, known, n + 1 + 1 + 1 + 1⟩ : Fact), (⟨2, x.no, 5, x.cust, a, b, known, n + 1 + 1 + 1 + 1 + 1⟩ : Fact), (⟨2, x.no, 6, x.shelf, a, b, known, n + 1 + 1 + 1 + 1 + 1 + 1⟩ : Fact)] ++ hd) (⟨2, x.no, 0, x.item, a, b, known, n⟩ : Fact) (by rw [hr]; simp [ordFacts]) rfl rfl rfl (hk [(⟨2, x.no, 1, x.plant, a, b, known, n + 1⟩ : Fact), (⟨2, x.no, 2, x.config, a, b, known, n + 1 + 1⟩ : Fact), (⟨2, x.no, 3, x.amount, a, b, known, n + 1 + 1 + 1⟩ : Fact), (⟨2, x.no, 4, x.due, a, b, known, n + 1 + 1 + 1 + 1⟩ : Fact), (⟨2, x.no, 5, x.cust, a, b, known, n + 1 + 1 + 1 + 1 + 1⟩ : Fact), (⟨2, x.no, 6, x.shelf, a, b, known, n + 1 + 1 + 1 + 1 + 1 + 1⟩ : Fact)] 0 (by simp)) (by simp only; omega)
  have k1 : atM r ⟨2, x.no, 1⟩ day t = some x.plant := key (w.facts ++ [(⟨2, x.no, 0, x.item, a, b, known, n⟩ : Fact)]) ([(⟨2, x.no, 2, x.config, a, b, known, n + 1 + 1⟩ : Fact), (⟨2, x.no, 3, x.amount, a, b, known, n + 1 + 1 + 1⟩ : Fact), (⟨2, x.no, 4, x.due, a, b, known, n + 1 + 1 + 1 + 1⟩ : Fact), (⟨2, x.no, 5, x.cust, a, b, known, n + 1 + 1 + 1 + 1 + 1⟩ : Fact), (⟨2, x.no, 6, x.shelf, a, b, known, n + 1 + 1 + 1 + 1 + 1 + 1⟩ : Fact)] ++ hd) (⟨2, x.no, 1, x.plant, a, b, known, n + 1⟩ : Fact) (by rw [hr]; simp [ordFacts]) rfl rfl rfl (hk [(⟨2, x.no, 2, x.config, a, b, known, n + 1 + 1⟩ : Fact), (⟨2, x.no, 3, x.amount, a, b, known, n + 1 + 1 + 1⟩ : Fact), (⟨2, x.no, 4, x.due, a, b, known, n + 1 + 1 + 1 + 1⟩ : Fact), (⟨2, x.no, 5, x.cust, a, b, known, n + 1 + 1 + 1 + 1 + 1⟩ : Fact), (⟨2, x.no, 6, x.shelf, a, b, known, n + 1 + 1 + 1 + 1 + 1 + 1⟩ : Fact)] 1 (by simp)) (by simp only; omega)
  have k2 : atM r ⟨2, x.no, 2⟩ day t = some x.config := key (w.facts ++ [(⟨2, x.no, 0, x.item, a, b, known, n⟩ : Fact), (⟨2, x.no, 1, x.plant, a, b, known, n + 1⟩ : Fact)]) ([(⟨2, x.no, 3, x.amount, a, b, known, n + 1 + 1 + 1⟩ : Fact), (⟨2, x.no, 4, x.due, a, b, known, n + 1 + 1 + 1 + 1⟩ : Fact), (⟨2, x.no, 5, x.cust, a, b, known, n + 1 + 1 + 1 + 1 + 1⟩ : Fact), (⟨2, x.no, 6, x.shelf, a, b, known, n + 1 + 1 + 1 + 1 + 1 + 1⟩ : Fact)] ++ hd) (⟨2, x.no, 2, x.config, a, b, known, n + 1 + 1⟩ : Fact) (by rw [hr]; simp [ordFacts]) rfl rfl rfl (hk [(⟨2, x.no, 3, x.amount, a, b, known, n + 1 + 1 + 1⟩ : Fact), (⟨2, x.no, 4, x.due, a, b, known, n + 1 + 1 + 1 + 1⟩ : Fact), (⟨2, x.no, 5, x.cust, a, b, known, n + 1 + 1 + 1 + 1 + 1⟩ : Fact), (⟨2, x.no, 6, x.shelf, a, b, known, n + 1 + 1 + 1 + 1 + 1 + 1⟩ : Fact)] 2 (by simp)) (by simp only; omega)
  have k3 : atM r ⟨2, x.no, 3⟩ day t = some x.amount := key (w.facts ++ [(⟨2, x.no, 0, x.item, a, b, known, n⟩ : Fact), (⟨2, x.no, 1, x.plant, a, b, known, n + 1⟩ : Fact), (⟨2, x.no, 2, x.config, a, b, known, n + 1 + 1⟩ : Fact)]) ([(⟨2, x.no, 4, x.due, a, b, known, n + 1 + 1 + 1 + 1⟩ : Fact), (⟨2, x.no, 5, x.cust, a, b, known, n + 1 + 1 + 1 + 1 + 1⟩ : Fact), (⟨2, x.no, 6, x.shelf, a, b, known, n + 1 + 1 + 1 + 1 + 1 + 1⟩ : Fact)] ++ hd) (⟨2, x.no, 3, x.amount, a, b, known, n + 1 + 1 + 1⟩ : Fact) (by rw [hr]; simp [ordFacts]) rfl rfl rfl (hk [(⟨2, x.no, 4, x.due, a, b, known, n + 1 + 1 + 1 + 1⟩ : Fact), (⟨2, x.no, 5, x.cust, a, b, known, n + 1 + 1 + 1 + 1 + 1⟩ : Fact), (⟨2, x.no, 6, x.shelf, a, b, known, n + 1 + 1 + 1 + 1 + 1 + 1⟩ : Fact)] 3 (by simp)) (by simp only; omega)
  have k4 : atM r ⟨2, x.no, 4⟩ day t = some x.due := key (w.facts ++ [(⟨2, x.no, 0, x.item, a, b, known, n⟩ : Fact), (⟨2, x.no, 1, x.plant, a, b, known, n + 1⟩ : Fact), (⟨2, x.no, 2, x.config, a, b, known, n + 1 + 1⟩ : Fact), (⟨2, x.no, 3, x.amount, a, b, known, n + 1 + 1 + 1⟩ : Fact)]) ([(⟨2, x.no, 5, x.cust, a, b, known, n + 1 + 1 + 1 + 1 + 1⟩ : Fact), (⟨2, x.no, 6, x.shelf, a, b, known, n + 1 + 1 + 1 + 1 + 1 + 1⟩ : Fact)] ++ hd) (⟨2, x.no, 4, x.due, a, b, known, n + 1 + 1 + 1 + 1⟩ : Fact) (by rw [hr]; simp [ordFacts]) rfl rfl rfl (hk [(⟨2, x.no, 5, x.cust, a, b, known, n + 1 + 1 + 1 + 1 + 1⟩ : Fact), (⟨2, x.no, 6, x.shelf, a, b, known, n + 1 + 1 + 1 + 1 + 1 + 1⟩ : Fact)] 4 (by simp)) (by simp only; omega)
  have k5 : atM r ⟨2, x.no, 5⟩ day t = some x.cust := key (w.facts ++ [(⟨2, x.no, 0, x.item, a, b, known, n⟩ : Fact), (⟨2, x.no, 1, x.plant, a, b, known, n + 1⟩ : Fact), (⟨2, x.no, 2, x.config, a, b, known, n + 1 + 1⟩ : Fact), (⟨2, x.no, 3, x.amount, a, b, known, n + 1 + 1 + 1⟩ : Fact), (⟨2, x.no, 4, x.due, a, b, known, n + 1 + 1 + 1 + 1⟩ : Fact)]) ([(⟨2, x.no, 6, x.shelf, a, b, known, n + 1 + 1 + 1 + 1 + 1 + 1⟩ : Fact)] ++ hd) (⟨2, x.no, 5, x.cust, a, b, known, n + 1 + 1 + 1 + 1 + 1⟩ : Fact) (by rw [hr]; simp [ordFacts]) rfl rfl rfl (hk [(⟨2, x.no, 6, x.shelf, a, b, known, n + 1 + 1 + 1 + 1 + 1 + 1⟩ : Fact)] 5 (by simp)) (by simp only; omega)
  have k6 : atM r ⟨2, x.no, 6⟩ day t = some x.shelf := key (w.facts ++ [(⟨2, x.no, 0, x.item, a, b, known, n⟩ : Fact), (⟨2, x.no, 1, x.plant, a, b, known, n + 1⟩ : Fact), (⟨2, x.no, 2, x.config, a, b, known, n + 1 + 1⟩ : Fact), (⟨2, x.no, 3, x.amount, a, b, known, n + 1 + 1 + 1⟩ : Fact), (⟨2, x.no, 4, x.due, a, b, known, n + 1 + 1 + 1 + 1⟩ : Fact), (⟨2, x.no, 5, x.cust, a, b, known, n + 1 + 1 + 1 + 1 + 1⟩ : Fact)]) ([] ++ hd) (⟨2, x.no, 6, x.shelf, a, b, known, n + 1 + 1 + 1 + 1 + 1 + 1⟩ : Fact) (by rw [hr]; simp [ordFacts]) rfl rfl rfl (hk [] 6 (by simp)) (by simp only; omega)
  have hv : valsM r 2 x.no day t 0 7 = [x.item, x.plant, x.config, x.amount, x.due, x.cust, x.shelf] := by
    exact (vals_cons (i := 0) k0).trans (congrArg (x.item :: ·) ((vals_cons (i := 1) k1).trans (congrArg (x.plant :: ·) ((vals_cons (i := 2) k2).trans (congrArg (x.config :: ·) ((vals_cons (i := 3) k3).trans (congrArg (x.amount :: ·) ((vals_cons (i := 4) k4).trans (congrArg (x.due :: ·) ((vals_cons (i := 5) k5).trans (congrArg (x.cust :: ·) ((vals_cons (i := 6) k6).trans (congrArg (x.shelf :: ·) (rfl))))))))))))))
  unfold findM
  simp only [hv]
  rw [if_pos ⟨rfl, h.right⟩]
  exact ⟨rfl, rfl⟩
theorem vals_of (f g : List Fact) (kind no day t : Int) (h : ∀ i : Int, atM g ⟨kind, no, i⟩ day t = atM f ⟨kind, no, i⟩ day t) : ∀ (k i : Nat), valsM g kind no day t i k = valsM f kind no day t i k ∧ frdsM g kind no day t i k = frdsM f kind no day t i k
  | 0, i => ⟨rfl, rfl⟩
  | k + 1, i => by
    obtain ⟨h1, h2⟩ := vals_of f g kind no day t h k (i + 1)
    rw [valsM, valsM, frdsM, frdsM, h, h1, h2]
    exact ⟨rfl, rfl⟩
theorem put_other {w : OWorld} {x : Ord} {a b known : Int} {r : List Fact} (h : PutOk w.src w.facts x a b known r) (no day t : Int) (hq : ¬ (no = x.no ∧ a ≤ day ∧ day < b ∧ known ≤ t)) : findM { w with facts := r } no day t = findM w no day t := by
  obtain ⟨n, hd, hr, hsh⟩ := h.shape
  have hk : ∀ i : Int, atM r ⟨2, no, i⟩ day t = atM w.facts ⟨2, no, i⟩ day t := fun i => by
    rw [hr]
    refine at_skip _ _ _ _ _ fun f hf hh => ?_
    obtain ⟨e, e1, e2, e3⟩ := hh
    unfold Fact.key at e
    injection e with g1 g2 g3
    rcases List.mem_append.1 hf with hf | hf
    · simp only [ordFacts, List.mem_cons, List.not_mem_nil, or_false] at hf
      rcases hf with rfl | rfl | rfl | rfl | rfl | rfl | rfl <;> (simp only at e1 e2 e3 g2; exact hq ⟨by omega, by omega, by omega, by omega⟩)
    · rcases hsh with ⟨rfl, _⟩ | ⟨m, rfl⟩
      · cases hf
      · rw [List.mem_singleton.1 hf] at g1; exact absurd (show (0 : Int) = 2 from g1) (by decide)
  obtain ⟨h1, h2⟩ := vals_of w.facts r 2 no day t hk 7 0
  unfold findM
  simp only [h1, h2]
theorem back_mine {w : OWorld} {x : Ord} {a b known : Int} {r : List Fact} (h : PutOk w.src w.facts x a b known r) (day t : Int) (hq : a ≤ day ∧ day < b ∧ known ≤ t) : (orderM { w with facts := r } x.no day t).l = x ∧ (orderM { w with facts := r } x.no day t).ok = true := by
  have hd : dayM day := by have := h.span; unfold dayM; omega
  have h1 := (put_many h day t hd).1 hq
  have hc : 0 ≤ x.no ∧ x.no < manyM r 1 day t := ⟨h.no.1, h1⟩
  unfold orderM
  simp only [if_pos hd, if_pos hc]
  exact put_mine h day t hq
theorem back_other {w : OWorld} {x : Ord} {a b known : Int} {r : List Fact} (h : PutOk w.src w.facts x a b known r) (no day t : Int) (hq : ¬ (no = x.no ∧ a ≤ day ∧ day < b ∧ known ≤ t)) (hw : (orderM w no day t).ok = true) :
    (orderM { w with facts := r } no day t).l = (orderM w no day t).l ∧ (orderM { w with facts := r } no day t).ok = true := by
  unfold orderM at hw ⊢
  by_cases hd : dayM day
  · simp only [if_pos hd] at hw ⊢
    by_cases hn : 0 ≤ no ∧ no < manyM w.facts 1 day t
    · have h1 := (put_many h day t hd).2
      have hc : 0 ≤ no ∧ no < manyM r 1 day t := ⟨hn.1, by omega⟩
      simp only [if_pos hn] at hw ⊢
      simp only [if_pos hc, put_other h no day t hq]
      exact ⟨trivial, hw⟩
    · simp only [if_neg hn] at hw; cases hw
  · simp only [if_neg hd] at hw; cases hw
theorem law19_Back (w : OWorld) (x : Ord) (a b known no day later : Int) (hw : Wd w) (hxc : x.config < 9223372036854775808) : CallP Try.prog 5 [.d w.d, .d x.d, .d (spanD a b), .d (I known), .d (I no), .d (I day), .d (I later)] (retD [.b true]) := by
  refine exPure_sound (E := envOf Try.prog tt Try.f5.ntmps) (envOf_ok ttok mixed) Try.func5 (by rfl) rfl rfl (Nat.le_of_ble_eq_true rfl) ?_
  have hFew := ref19_Few w hw.fl hw.ol hw.bl
  by_cases hs : few19 w
  · have hl : w.facts.length ≤ 60 := hs.1.1
    rw [decide_eq_true hs] at hFew
    have c1 := orders_Put w x a b known (by omega) hs.few hw.sw hxc
    have hok := putM_ok w.src w.facts x a b known
    generalize putM w.src w.facts x a b known = r at c1 hok
    obtain ⟨r, e⟩ := r
    simp only at c1 hok
    by_cases he : e = 0
    · obtain ⟨hpo, n1, n2⟩ := hok he
      clear hok
      have hwp : w.put (r, e) = { w with facts := r } := by unfold OWorld.put; rw [if_pos he]
      subst he
      have hd' : ({ w with facts := r } : OWorld).d = .agg [w.src.u1, SL 6 w.src.items, SL 1 w.src.plants, w.src.u4, SL 2 (w.src.opts.map Opt.d), SL 1 (w.src.forbids.map condsD), w.src.u7, w.src.u8, w.u9, w.u10, SL 8 (r.map Fact.d)] := rfl
      rw [hwp, hd'] at c1
      have c2 := facts_Check r (by omega)
      rw [hpo.chk] at c2
      have hkp := hpo.pos
      have hwr : ({ w with facts := r } : OWorld).wide := fun f hf => by have := (check_all hpo.chk).1 f hf; unfold Fact.ok at this; omega
      repeat' ((conv => whnf); first | with_reducible refine Dec.t (show true = true from rfl) ?_ | with_reducible refine Dec.t (show false = false from rfl) ?_ | with_reducible refine Dec.f (show ¬ (true = false) by decide) ?_ | with_reducible refine Dec.f (show ¬ (false = true) by decide) ?_ | refine Dec.t (by omega) ?_ | refine Dec.f (by omega) ?_ | refine Dec.split (fun _ => ?_) (fun _ => ?_) | refine Wr.id (by omega) ?_ | refine Chk.mk (by first | omega | exact rfl | (simp only [List.length_map]; omega) | (simp [room]; done) | (simp [room]; omega) | (simp [dropL, room]; done) | (simp [dropL, room]; omega)) ?_ | refine Nam.mk (List.length_map _) ?_ | refine Prep.skip ?_ | refine Eith.l ?_ | refine chk_t (x := D.flat _) (by assumption) ?_ | refine br_mk (fun _ => ?_) (fun _ => ?_) | refine ACall.of (law19_sane) ?_ | refine APCall.of (law19_sane) ?_ | refine ACall.of hFew ?_ | refine ACall.of c1 ?_ | refine ACall.of c2 ?_ | refine Nam.mk (y := 3) rfl ?_ | fail)
      all_goals (conv => whnf)
      all_goals first | exact DLe.refl _ | skip
      refine ALoop.at (E := envOf Try.prog tt Try.f5.ntmps) (envOf_ok ttok mixed) (X := Nat) (fun i => [(18, .d (I i))]) (fun _ => []) (fun i => i ≤ 3) (fun i => 3 - i) 0 (by repeat (first | exact trivial | refine And.intro rfl ?_ | refine And.intro (congrArg (fun n => V.d (I n)) (wrap_nat _ (by omega))) ?_)) rfl (Nat.zero_le _) ?_
      intro i hi
      try dsimp only
      by_cases hlt : i < 3
      · obtain ⟨t, hT⟩ : ∃ t, [I later, I known, I (known - 1)][((i : Nat) : Int).toNat]? = some (I t) := by
          rw [Int.toNat_natCast]
          match i, hlt with
          | 0, _ => exact ⟨_, rfl⟩
          | 1, _ => exact ⟨_, rfl⟩
          | 2, _ => exact ⟨_, rfl⟩
        have A := orders_Order { w with facts := r } x.no day t (by simp only; omega) hs.few hw.sw hwr
        have B := orders_Order w no day t (by omega) hs.few hw.sw hw.fw
        have C := orders_Order { w with facts := r } no day t (by simp only; omega) hs.few hw.sw hwr
        rw [hd'] at A C
        have hmine := fun hq => back_mine hpo day t hq
        have hoth := fun hq hw => back_other hpo no day t hq hw
        generalize orderM { w with facts := r } x.no day t = qa at A hmine
        generalize orderM w no day t = qb at B hoth
        generalize orderM { w with facts := r } no day t = qc at C hoth
        obtain ⟨la, ra, oa⟩ := qa
        obtain ⟨lb, rb, ob⟩ := qb
        obtain ⟨lc, rc, oc⟩ := qc
        simp only [OrdR.d] at A B C hmine hoth
        clear c1 c2 hpo hd' hwp hFew
        by_cases hm : a ≤ day ∧ day < b ∧ known ≤ t
        · obtain ⟨e1, e2⟩ := hmine hm
          clear hmine
          subst e1; subst e2
          cases ob
          · clear hoth
            repeat' ((conv => whnf); first | with_reducible refine Dec.t (show true = true from rfl) ?_ | with_reducible refine Dec.t (show false = false from rfl) ?_ | with_reducible refine Dec.f (show ¬ (true = false) by decide) ?_ | with_reducible refine Dec.f (show ¬ (false = true) by decide) ?_ | refine Dec.t (by omega) ?_ | refine Dec.f (by omega) ?_ | refine Dec.split (fun _ => ?_) (fun _ => ?_) | refine Wr.id (by omega) ?_ | refine Chk.mk (by first | omega | exact rfl | (simp only [List.length_map]; omega) | (simp [room]; done) | (simp [room]; omega) | (simp [dropL, room]; done) | (simp [dropL, room]; omega)) ?_ | refine Nam.mk (List.length_map _) ?_ | refine Prep.skip ?_ | refine Eith.l ?_ | refine chk_t (x := D.flat _) (by assumption) ?_ | refine br_mk (fun _ => ?_) (fun _ => ?_) | refine Nam.mk (y := 3) rfl ?_ | refine nthK_mk hT ?_ | refine ACall.of A ?_ | refine APCall.of A ?_ | refine ACall.of B ?_ | refine APCall.of B ?_ | refine ACall.of C ?_ | refine APCall.of C ?_ | refine Nam.dec (eqOrd la la) (fun _ => ?_) (fun h => absurd rfl h) | refine Nam.dec (eqOrd lb lb) (fun _ => ?_) (fun h => absurd rfl h) | fail)
            all_goals (conv => whnf)
            all_goals exact ⟨i + 1, Wm.end (by repeat (first | exact trivial | refine And.intro rfl ?_ | refine And.intro (congrArg (fun n => V.d (I n)) (wrap_nat _ (by omega))) ?_)) rfl rfl rfl, hlt, by omega⟩
          · by_cases hno : no = la.no
            · clear hoth
              repeat' ((conv => whnf); first | with_reducible refine Dec.t (show true = true from rfl) ?_ | with_reducible refine Dec.t (show false = false from rfl) ?_ | with_reducible refine Dec.f (show ¬ (true = false) by decide) ?_ | with_reducible refine Dec.f (show ¬ (false = true) by decide) ?_ | refine Dec.t (by omega) ?_ | refine Dec.f (by omega) ?_ | refine Dec.split (fun _ => ?_) (fun _ => ?_) | refine Wr.id (by omega) ?_ | refine Chk.mk (by first | omega | exact rfl | (simp only [List.length_map]; omega) | (simp [room]; done) | (simp [room]; omega) | (simp [dropL, room]; done) | (simp [dropL, room]; omega)) ?_ | refine Nam.mk (List.length_map _) ?_ | refine Prep.skip ?_ | refine Eith.l ?_ | refine chk_t (x := D.flat _) (by assumption) ?_ | refine br_mk (fun _ => ?_) (fun _ => ?_) | refine Nam.mk (y := 3) rfl ?_ | refine nthK_mk hT ?_ | refine ACall.of A ?_ | refine APCall.of A ?_ | refine ACall.of B ?_ | refine APCall.of B ?_ | refine ACall.of C ?_ | refine APCall.of C ?_ | refine Nam.dec (eqOrd la la) (fun _ => ?_) (fun h => absurd rfl h) | refine Nam.dec (eqOrd lb lb) (fun _ => ?_) (fun h => absurd rfl h) | fail)
              all_goals (conv => whnf)
              all_goals exact ⟨i + 1, Wm.end (by repeat (first | exact trivial | refine And.intro rfl ?_ | refine And.intro (congrArg (fun n => V.d (I n)) (wrap_nat _ (by omega))) ?_)) rfl rfl rfl, hlt, by omega⟩
            · obtain ⟨f1, f2⟩ := hoth (fun h => hno h.1) rfl
              clear hoth
              subst f1; subst f2
              repeat' ((conv => whnf); first | with_reducible refine Dec.t (show true = true from rfl) ?_ | with_reducible refine Dec.t (show false = false from rfl) ?_ | with_reducible refine Dec.f (show ¬ (true = false) by decide) ?_ | with_reducible refine Dec.f (show ¬ (false = true) by decide) ?_ | refine Dec.t (by omega) ?_ | refine Dec.f (by omega) ?_ | refine Dec.split (fun _ => ?_) (fun _ => ?_) | refine Wr.id (by omega) ?_ | refine Chk.mk (by first | omega | exact rfl | (simp only [List.length_map]; omega) | (simp [room]; done) | (simp [room]; omega) | (simp [dropL, room]; done) | (simp [dropL, room]; omega)) ?_ | refine Nam.mk (List.length_map _) ?_ | refine Prep.skip ?_ | refine Eith.l ?_ | refine chk_t (x := D.flat _) (by assumption) ?_ | refine br_mk (fun _ => ?_) (fun _ => ?_) | refine Nam.mk (y := 3) rfl ?_ | refine nthK_mk hT ?_ | refine ACall.of A ?_ | refine APCall.of A ?_ | refine ACall.of B ?_ | refine APCall.of B ?_ | refine ACall.of C ?_ | refine APCall.of C ?_ | refine Nam.dec (eqOrd la la) (fun _ => ?_) (fun h => absurd rfl h) | refine Nam.dec (eqOrd lc lc) (fun _ => ?_) (fun h => absurd rfl h) | fail)
              all_goals (conv => whnf)
              all_goals exact ⟨i + 1, Wm.end (by repeat (first | exact trivial | refine And.intro rfl ?_ | refine And.intro (congrArg (fun n => V.d (I n)) (wrap_nat _ (by omega))) ?_)) rfl rfl rfl, hlt, by omega⟩
        · clear hmine
          cases ob
          · clear hoth
            repeat' ((conv => whnf); first | with_reducible refine Dec.t (show true = true from rfl) ?_ | with_reducible refine Dec.t (show false = false from rfl) ?_ | with_reducible refine Dec.f (show ¬ (true = false) by decide) ?_ | with_reducible refine Dec.f (show ¬ (false = true) by decide) ?_ | refine Dec.t (by omega) ?_ | refine Dec.f (by omega) ?_ | refine Dec.split (fun _ => ?_) (fun _ => ?_) | refine Wr.id (by omega) ?_ | refine Chk.mk (by first | omega | exact rfl | (simp only [List.length_map]; omega) | (simp [room]; done) | (simp [room]; omega) | (simp [dropL, room]; done) | (simp [dropL, room]; omega)) ?_ | refine Nam.mk (List.length_map _) ?_ | refine Prep.skip ?_ | refine Eith.l ?_ | refine chk_t (x := D.flat _) (by assumption) ?_ | refine br_mk (fun _ => ?_) (fun _ => ?_) | refine Nam.mk (y := 3) rfl ?_ | refine nthK_mk hT ?_ | refine ACall.of A ?_ | refine APCall.of A ?_ | refine ACall.of B ?_ | refine APCall.of B ?_ | refine ACall.of C ?_ | refine APCall.of C ?_ | refine Nam.dec (eqOrd x x) (fun _ => ?_) (fun h => absurd rfl h) | refine Nam.dec (eqOrd lb lb) (fun _ => ?_) (fun h => absurd rfl h) | fail)
            all_goals (conv => whnf)
            all_goals exact ⟨i + 1, Wm.end (by repeat (first | exact trivial | refine And.intro rfl ?_ | refine And.intro (congrArg (fun n => V.d (I n)) (wrap_nat _ (by omega))) ?_)) rfl rfl rfl, hlt, by omega⟩
          · obtain ⟨f1, f2⟩ := hoth (fun h => hm h.2) rfl
            clear hoth
            subst f1; subst f2
            repeat' ((conv => whnf); first | with_reducible refine Dec.t (show true = true from rfl) ?_ | with_reducible refine Dec.t (show false = false from rfl) ?_ | with_reducible refine Dec.f (show ¬ (true = false) by decide) ?_ | with_reducible refine Dec.f (show ¬ (false = true) by decide) ?_ | refine Dec.t (by omega) ?_ | refine Dec.f (by omega) ?_ | refine Dec.split (fun _ => ?_) (fun _ => ?_) | refine Wr.id (by omega) ?_ | refine Chk.mk (by first | omega | exact rfl | (simp only [List.length_map]; omega) | (simp [room]; done) | (simp [room]; omega) | (simp [dropL, room]; done) | (simp [dropL, room]; omega)) ?_ | refine Nam.mk (List.length_map _) ?_ | refine Prep.skip ?_ | refine Eith.l ?_ | refine chk_t (x := D.flat _) (by assumption) ?_ | refine br_mk (fun _ => ?_) (fun _ => ?_) | refine Nam.mk (y := 3) rfl ?_ | refine nthK_mk hT ?_ | refine ACall.of A ?_ | refine APCall.of A ?_ | refine ACall.of B ?_ | refine APCall.of B ?_ | refine ACall.of C ?_ | refine APCall.of C ?_ | refine Nam.dec (eqOrd x x) (fun _ => ?_) (fun h => absurd rfl h) | refine Nam.dec (eqOrd lc lc) (fun _ => ?_) (fun h => absurd rfl h) | fail)
            all_goals (conv => whnf)
            all_goals exact ⟨i + 1, Wm.end (by repeat (first | exact trivial | refine And.intro rfl ?_ | refine And.intro (congrArg (fun n => V.d (I n)) (wrap_nat _ (by omega))) ?_)) rfl rfl rfl, hlt, by omega⟩
      · have : i = 3 := by omega
        subst this
        repeat' ((conv => whnf); first | with_reducible refine Dec.t (show true = true from rfl) ?_ | with_reducible refine Dec.t (show false = false from rfl) ?_ | with_reducible refine Dec.f (show ¬ (true = false) by decide) ?_ | with_reducible refine Dec.f (show ¬ (false = true) by decide) ?_ | refine Dec.t (by omega) ?_ | refine Dec.f (by omega) ?_ | refine Dec.split (fun _ => ?_) (fun _ => ?_) | refine Wr.id (by omega) ?_ | refine Chk.mk (by first | omega | exact rfl | (simp only [List.length_map]; omega) | (simp [room]; done) | (simp [room]; omega) | (simp [dropL, room]; done) | (simp [dropL, room]; omega)) ?_ | refine Nam.mk (List.length_map _) ?_ | refine Prep.skip ?_ | refine Eith.l ?_ | refine chk_t (x := D.flat _) (by assumption) ?_ | refine br_mk (fun _ => ?_) (fun _ => ?_) | refine Nam.mk (y := 3) rfl ?_ | fail)
        all_goals (conv => whnf)
        exact DLe.refl _
    · have hwp : w.put (r, e) = OWorld.zero := by unfold OWorld.put; rw [if_neg he]
      rw [hwp] at c1
      repeat' ((conv => whnf); first | with_reducible refine Dec.t (show true = true from rfl) ?_ | with_reducible refine Dec.t (show false = false from rfl) ?_ | with_reducible refine Dec.f (show ¬ (true = false) by decide) ?_ | with_reducible refine Dec.f (show ¬ (false = true) by decide) ?_ | refine Dec.t (by omega) ?_ | refine Dec.f (by omega) ?_ | refine Dec.split (fun _ => ?_) (fun _ => ?_) | refine Wr.id (by omega) ?_ | refine Chk.mk (by first | omega | exact rfl | (simp only [List.length_map]; omega) | (simp [room]; done) | (simp [room]; omega) | (simp [dropL, room]; done) | (simp [dropL, room]; omega)) ?_ | refine Nam.mk (List.length_map _) ?_ | refine Prep.skip ?_ | refine Eith.l ?_ | refine chk_t (x := D.flat _) (by assumption) ?_ | refine br_mk (fun _ => ?_) (fun _ => ?_) | refine ACall.of (law19_sane) ?_ | refine APCall.of (law19_sane) ?_ | refine ACall.of hFew ?_ | refine ACall.of c1 ?_ | refine Nam.mk (y := 0) rfl ?_ | fail)
      all_goals (conv => whnf)
      all_goals first | exact DLe.refl _ | (exfalso; rename_i h; exact h rfl)
  · rw [decide_eq_false hs] at hFew
    repeat' ((conv => whnf); first | with_reducible refine Dec.t (show true = true from rfl) ?_ | with_reducible refine Dec.t (show false = false from rfl) ?_ | with_reducible refine Dec.f (show ¬ (true = false) by decide) ?_ | with_reducible refine Dec.f (show ¬ (false = true) by decide) ?_ | refine Dec.t (by omega) ?_ | refine Dec.f (by omega) ?_ | refine Dec.split (fun _ => ?_) (fun _ => ?_) | refine Wr.id (by omega) ?_ | refine Chk.mk (by first | omega | exact rfl | (simp only [List.length_map]; omega) | (simp [room]; done) | (simp [room]; omega) | (simp [dropL, room]; done) | (simp [dropL, room]; omega)) ?_ | refine Nam.mk (List.length_map _) ?_ | refine Prep.skip ?_ | refine Eith.l ?_ | refine chk_t (x := D.flat _) (by assumption) ?_ | refine br_mk (fun _ => ?_) (fun _ => ?_) | refine ACall.of (law19_sane) ?_ | refine APCall.of (law19_sane) ?_ | refine ACall.of hFew ?_ | fail)
    all_goals (conv => whnf)
    all_goals exact (by repeat (first | exact trivial | exact rfl | exact DLe.refl _ | exact DLe.full _ _ _ | exact DLe.nil _ _ _ | exact VLe.refl _ | refine And.intro ?_ ?_ | refine VLe.d ?_ | refine DLe.agg ?_))
end Go.PM

