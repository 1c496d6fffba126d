/- Package facts: values, Points, Alike, Upto. -/
import Derived.Test.YtbgdpjhgdboigaaF04a
namespace Go.PM
open Go.Proofs
set_option maxRecDepth 10000
set_option maxHeartbeats 1000000

/-- The value of a key on a day, -1 where there is none. -/
def vOf : Option Fact → Int
  | none => -1
  | some f => if -1 > f.value then -1 else f.value
def lo0 (a : Int) : Int := if 0 > a then 0 else a
def hi0 (b : Int) : Int := if 1024 < b then 1024 else b
def daysN (a b : Int) : Nat := (hi0 b - lo0 a).toNat
def valuesM (l : List Fact) (k : Key) (a b known : Int) : List Int := (List.range (daysN a b)).map fun (i : Nat) => vOf (atF l k (lo0 a + i) known)
def firstM (a b : Int) : Int := if lo0 a < hi0 b then lo0 a else 0

theorem rep_range {α : Type} (x : α) (n : Nat) : List.replicate n x = (List.range n).map fun _ => x := (List.eq_replicate_iff.2 ⟨by simp, by simp⟩).symm
theorem range_get {n i : Nat} {α : Type} (f : Nat → α) (h : i < n) : ((List.range n).map f)[i]? = some (f i) := by simp [h]
structure XV where
  i : Nat
  df : List D
  db : List D
structure XW where
  i : Nat
  vr : Nat
  dv : List D
structure XD where
  d : Int
  df : List D
  db : List D
def cellF (o : Option Fact) : D := (o.getD Fact.zero).d
def cellB (o : Option Fact) : D := B o.isSome
/-- What is known of the days, after some facts. -/
def daysF (l : List Fact) (k : Key) (A : Int) (known : Int) (n : Nat) : List (Option Fact) := (List.range n).map fun (j : Nat) => atF l k (A + j) known
def daysD (l : List Fact) (k : Key) (A : Int) (known : Int) (n : Nat) (f : Fact) (d : Int) : List (Option Fact) := (List.range n).map fun (j : Nat) => if A + j < d then atStep k (A + j) known (atF l k (A + j) known) f else atF l k (A + j) known
theorem atF_snoc (l : List Fact) (f : Fact) (k : Key) (day known : Int) : atF (l ++ [f]) k day known = atStep k day known (atF l k day known) f := by unfold atF; rw [List.foldl_append]; rfl
theorem daysF_snoc {l : List Fact} {i : Nat} {f : Fact} (hx : l[i]? = some f) (k : Key) (A known : Int) (n : Nat) : daysF (l.take (i + 1)) k A known n = (List.range n).map fun (j : Nat) => atStep k (A + j) known (atF (l.take i) k (A + j) known) f := by
  unfold daysF
  refine List.map_congr_left fun j _ => ?_
  rw [List.take_add_one, hx]
  exact atF_snoc _ _ _ _ _
theorem days_skip {l : List Fact} {i : Nat} {f : Fact} (hx : l[i]? = some f) (k : Key) (A known : Int) (n : Nat) (h : ¬ (f.key = k ∧ f.known ≤ known)) : daysF (l.take (i + 1)) k A known n = daysF (l.take i) k A known n := by
  rw [daysF_snoc hx]
  unfold daysF
  refine List.map_congr_left fun j _ => ?_
  unfold atStep
  rw [if_neg (fun hh => h ⟨hh.1, hh.2.1⟩)]
theorem days_start (l : List Fact) (k : Key) (A known : Int) (n : Nat) (f : Fact) (d : Int) (h : d ≤ A ∨ d ≤ f.from_) : daysD l k A known n f d = daysF l k A known n := by
  unfold daysD daysF
  refine List.map_congr_left fun j _ => ?_
  split
  · unfold atStep
    rw [if_neg (fun hh => by have := hh.2.2.1; omega)]
  · rfl
theorem days_end {l : List Fact} {i : Nat} {f : Fact} (hx : l[i]? = some f) (k : Key) (A known : Int) (n : Nat) (d : Int) (h : A + n ≤ d ∨ f.to_ ≤ d) : daysD (l.take i) k A known n f d = daysF (l.take (i + 1)) k A known n := by
  rw [daysF_snoc hx]
  unfold daysD
  refine List.map_congr_left fun j hj => ?_
  have hj := List.mem_range.1 hj
  split
  · rfl
  · unfold atStep
    rw [if_neg (fun hh => by have := hh.2.2.2.1; omega)]
theorem days_step (l : List Fact) (k : Key) (A known : Int) (n : Nat) (f : Fact) (d : Int) (j : Nat) (hd : d = A + j) (hj : j < n) : daysD l k A known n f (d + 1) = (daysD l k A known n f d).set j (atStep k d known (atF l k d known) f) := by
  subst hd
  unfold daysD
  refine List.ext_getElem? fun i => ?_
  rw [List.getElem?_set]
  by_cases hi : i < n
  · rw [range_get _ hi, range_get _ hi]
    by_cases e : j = i
    · subst e
      rw [if_pos (by omega)]
      simp [hj]
    · simp only [e, if_false]
      by_cases h : A + (i : Int) < A + j
      · rw [if_pos h, if_pos (by omega)]
      · rw [if_neg h, if_neg (by omega)]
  · rw [List.getElem?_eq_none (by simp; omega), List.getElem?_eq_none (by simp; omega)]
    split <;> simp_all
theorem days_get (l : List Fact) (k : Key) (A known : Int) (n : Nat) (f : Fact) (d : Int) (j : Nat) (hd : d = A + j) (hj : j < n) : (daysD l k A known n f d)[j]? = some (atF l k d known) := by
  subst hd
  unfold daysD
  rw [range_get _ hj, if_neg (by omega)]
theorem daysD_len (l : List Fact) (k : Key) (A known : Int) (n : Nat) (f : Fact) (d : Int) : (daysD l k A known n f d).length = n := by simp [daysD]
theorem daysF_len (l : List Fact) (k : Key) (A known : Int) (n : Nat) : (daysF l k A known n).length = n := by simp [daysF]

theorem facts_values (l : List Fact) (k : Key) (a b known : Int) (hl : l.length < 2 ^ 40) : CallP Try.prog 75 [.d (SL 8 (l.map Fact.d)), .d k.d, .d (I a), .d (I b), .d (I known)] (retD [SL 1 ((valuesM l k a b known).map I), I (firstM a b)]) := by
  refine exPure_sound (E := envOf Try.prog tt Try.f75.ntmps) (envOf_ok ttok mixed) Try.func75 (by rfl) rfl rfl (Nat.le_of_ble_eq_true rfl) ?_
  repeat' ((conv => whnf); first | with_reducible refine Dec.t (show true = true from rfl) ?_ | with_reducible refine Dec.t (show false = false from rfl) ?_ | with_reducible refine Dec.f (show ¬ (true = false) by decide) ?_ | with_reducible refine Dec.f (show ¬ (false = true) by decide) ?_ | refine Dec.t (by omega) ?_ | refine Dec.f (by omega) ?_ | refine Dec.split (fun _ => ?_) (fun _ => ?_) | refine Wr.id (by omega) ?_ | refine Chk.mk (by first | omega | exact rfl | (simp only [List.length_map]; omega) | (simp [room]; done) | (simp [room]; omega) | (simp [dropL, room]; done) | (simp [dropL, room]; omega)) ?_ | refine Nam.mk (List.length_map _) ?_ | refine Prep.skip ?_ | refine Eith.l ?_ | refine chk_t (x := D.flat _) (by assumption) ?_ | refine br_mk (fun _ => ?_) (fun _ => ?_) | fail)
  all_goals (conv => whnf)
  · rename_i h
    have hn : daysN a b = 0 := by unfold daysN; have : hi0 b ≤ lo0 a := h; omega
    rw [show valuesM l k a b known = [] by unfold valuesM; rw [hn]; rfl, show firstM a b = 0 from if_neg (by have : hi0 b ≤ lo0 a := h; omega)]
    exact (by repeat (first | exact trivial | exact rfl | exact DLe.refl _ | exact DLe.full _ _ _ | exact DLe.nil _ _ _ | exact VLe.refl _ | refine And.intro ?_ ?_ | refine VLe.d ?_ | refine DLe.agg ?_))
  rename_i hlt
  generalize hA : (if 0 > a then (0 : Int) else a) = A at hlt ⊢
  generalize hB : (if 1024 < b then (1024 : Int) else b) = Bh at hlt ⊢
  have hA0 : 0 ≤ A := by split at hA <;> omega
  have hB0 : Bh ≤ 1024 := by split at hB <;> omega
  repeat' ((conv => whnf); first | with_reducible refine Dec.t (show true = true from rfl) ?_ | with_reducible refine Dec.t (show false = false from rfl) ?_ | with_reducible refine Dec.f (show ¬ (true = false) by decide) ?_ | with_reducible refine Dec.f (show ¬ (false = true) by decide) ?_ | refine Dec.t (by omega) ?_ | refine Dec.f (by omega) ?_ | refine Dec.split (fun _ => ?_) (fun _ => ?_) | refine Wr.id (by omega) ?_ | refine Chk.mk (by first | omega | exact rfl | (simp only [List.length_map]; omega) | (simp [room]; done) | (simp [room]; omega) | (simp [dropL, room]; done) | (simp [dropL, room]; omega)) ?_ | refine Nam.mk (List.length_map _) ?_ | refine Prep.skip ?_ | refine Eith.l ?_ | refine chk_t (x := D.flat _) (by assumption) ?_ | refine br_mk (fun _ => ?_) (fun _ => ?_) | refine ACall.body (E := envOf Try.prog tt Try.f76.ntmps) (envOf_ok ttok mixed) Try.func76 (by rfl) rfl (Nat.le_of_ble_eq_true rfl) ?_ | refine ARange.body (E := envOf Try.prog tt Try.f75.ntmps) (envOf_ok ttok mixed) ttok mixed (by rfl) Try.func82 (by rfl) (Nat.le_of_ble_eq_true rfl) ?_)
  all_goals (conv => whnf)
  generalize hn : (Bh - A).toNat = n
  refine ALoop.at (E := envY Try.prog tt Try.f82.ntmps (yldIn (envOf Try.prog tt Try.f75.ntmps) 10)) (envY_ok (yldIn_ok (envOf_ok ttok mixed) 10) ttok mixed) (X := XV) (fun x => [(9, .d (I x.i))]) (fun x => [(3, .row 0 8 false x.df), (5, .row 0 1 false x.db)])
    (fun x => x.i ≤ l.length ∧ x.df = (daysF (l.take x.i) k A known n).map cellF ∧ x.db = (daysF (l.take x.i) k A known n).map cellB) (fun x => l.length - x.i)
    ⟨0, List.replicate n Fact.zero.d, List.replicate n (B false)⟩ (by repeat (first | exact trivial | refine And.intro rfl ?_ | refine And.intro (congrArg (fun n => V.d (I n)) (wrap_nat _ (by omega))) ?_)) rfl ⟨Nat.zero_le _, by simp only [rep_range]; simp [daysF, atF, cellF, Function.comp_def], by simp only [rep_range]; simp [daysF, atF, cellB, Function.comp_def]⟩ ?_
  rintro ⟨i, df, db⟩ ⟨hi, h1, h2⟩
  simp only at hi h1 h2
  dsimp only
  by_cases hlt2 : i < l.length
  · obtain ⟨f, hx, _⟩ := drop_get hlt2
    repeat' ((conv => whnf); first | with_reducible refine Dec.t (show true = true from rfl) ?_ | with_reducible refine Dec.t (show false = false from rfl) ?_ | with_reducible refine Dec.f (show ¬ (true = false) by decide) ?_ | with_reducible refine Dec.f (show ¬ (false = true) by decide) ?_ | refine Dec.t (by omega) ?_ | refine Dec.f (by omega) ?_ | refine Dec.split (fun _ => ?_) (fun _ => ?_) | refine Wr.id (by omega) ?_ | refine Chk.mk (by first | omega | exact rfl | (simp only [List.length_map]; omega) | (simp [room]; done) | (simp [room]; omega) | (simp [dropL, room]; done) | (simp [dropL, room]; omega)) ?_ | refine Nam.mk (List.length_map _) ?_ | refine Prep.skip ?_ | refine Eith.l ?_ | refine chk_t (x := D.flat _) (by assumption) ?_ | refine br_mk (fun _ => ?_) (fun _ => ?_) | refine nthK_mk (map_get hx) ?_ | refine Nam.dec (eqKey f.key k) (fun _ => ?_) (fun _ => ?_) | fail)
    all_goals (conv => whnf)
    · have hkk : f.key = k := by assumption
      have hfk : f.known ≤ known := by assumption
      refine ALoop.at (E := envOf Try.prog tt Try.f75.ntmps) (envOf_ok ttok mixed) (X := XD) (fun x => [(15, .d (I x.d))]) (fun x => [(3, .row 0 8 false x.df), (5, .row 0 1 false x.db)])
        (fun x => A ≤ x.d ∧ f.from_ ≤ x.d ∧ (x.d ≤ A ∨ x.d ≤ f.from_ ∨ x.d ≤ Bh) ∧ x.df = (daysD (l.take i) k A known n f x.d).map cellF ∧ x.db = (daysD (l.take i) k A known n f x.d).map cellB) (fun x => (Bh - x.d).toNat)
        ⟨if f.from_ > A then f.from_ else A, df, db⟩ (by repeat (first | exact trivial | refine And.intro rfl ?_ | refine And.intro (congrArg (fun n => V.d (I n)) (wrap_nat _ (by omega))) ?_)) rfl ⟨by simp only; split <;> omega, by simp only; split <;> omega, by simp only; split <;> omega, by simp only; rw [days_start _ _ _ _ _ _ _ (by split <;> omega)]; exact h1, by simp only; rw [days_start _ _ _ _ _ _ _ (by split <;> omega)]; exact h2⟩ ?_
      rintro ⟨d, df2, db2⟩ ⟨hd1, hd2, hd3, g1, g2⟩
      simp only at hd1 hd2 hd3 g1 g2
      dsimp only
      by_cases hd : d < Bh ∧ d < f.to_
      · have hj : d = A + ((d - A).toNat : Nat) := by omega
        have hjn : (d - A).toNat < n := by omega
        have hget := days_get (l.take i) k A known n f d _ hj hjn
        have hstep := days_step (l.take i) k A known n f d _ hj hjn
        have hF : df2[0 + (d - A).toNat]? = some (cellF (atF (l.take i) k d known)) := by rw [g1, Nat.zero_add, List.getElem?_map, hget]; rfl
        have hBb : db2[0 + (d - A).toNat]? = some (cellB (atF (l.take i) k d known)) := by rw [g2, Nat.zero_add, List.getElem?_map, hget]; rfl
        have hl1 : df2.length = n := by rw [g1, List.length_map, daysD_len]
        have hl2 : db2.length = n := by rw [g2, List.length_map, daysD_len]
        clear h1 h2
        generalize atF (l.take i) k d known = o at hget hstep hF hBb
        have yes : newer o f → daysD (l.take i) k A known n f (d + 1) = (daysD (l.take i) k A known n f d).set (d - A).toNat (some f) := fun h => by rw [hstep, atStep, if_pos ⟨hkk, hfk, hd2, hd.2, h⟩]
        have no : ¬ newer o f → daysD (l.take i) k A known n f (d + 1) = daysD (l.take i) k A known n f d := fun h => by
          rw [hstep, atStep, if_neg (fun hh => h hh.2.2.2.2)]
          refine List.ext_getElem? fun m => ?_
          rw [List.getElem?_set]
          split
          · rename_i e; subst e; rw [if_pos (by rw [daysD_len]; omega), hget]
          · rfl
        cases o with
        | none =>
          repeat' ((conv => whnf); first | with_reducible refine Dec.t (show true = true from rfl) ?_ | with_reducible refine Dec.t (show false = false from rfl) ?_ | with_reducible refine Dec.f (show ¬ (true = false) by decide) ?_ | with_reducible refine Dec.f (show ¬ (false = true) by decide) ?_ | refine Dec.t (by omega) ?_ | refine Dec.f (by omega) ?_ | refine Dec.split (fun _ => ?_) (fun _ => ?_) | refine Wr.id (by omega) ?_ | refine Chk.mk (by first | omega | exact rfl | (simp only [List.length_map]; omega) | (simp [room]; done) | (simp [room]; omega) | (simp [dropL, room]; done) | (simp [dropL, room]; omega)) ?_ | refine Nam.mk (List.length_map _) ?_ | refine Prep.skip ?_ | refine Eith.l ?_ | refine chk_t (x := D.flat _) (by assumption) ?_ | refine br_mk (fun _ => ?_) (fun _ => ?_) | refine nthK_mk hF ?_ | refine nthK_mk hBb ?_ | refine setK_mk (by omega) ?_ | fail)
          all_goals (conv => whnf)
          refine ⟨⟨d + 1, df2.set (0 + (d - A).toNat) f.d, db2.set (0 + (d - A).toNat) (B true)⟩, Wm.end (by repeat (first | exact trivial | refine And.intro rfl ?_ | refine And.intro (congrArg (fun n => V.d (I n)) (wrap_nat _ (by omega))) ?_)) rfl rfl rfl, ⟨by simp only; omega, by simp only; omega, by simp only; omega, ?_, ?_⟩, by simp only; omega⟩
          · simp only; rw [yes (by simp [newer]), List.map_set, ← g1, Nat.zero_add]; rfl
          · simp only; rw [yes (by simp [newer]), List.map_set, ← g2, Nat.zero_add]; rfl
        | some g =>
          repeat' ((conv => whnf); first | with_reducible refine Dec.t (show true = true from rfl) ?_ | with_reducible refine Dec.t (show false = false from rfl) ?_ | with_reducible refine Dec.f (show ¬ (true = false) by decide) ?_ | with_reducible refine Dec.f (show ¬ (false = true) by decide) ?_ | refine Dec.t (by omega) ?_ | refine Dec.f (by omega) ?_ | refine Dec.split (fun _ => ?_) (fun _ => ?_) | refine Wr.id (by omega) ?_ | refine Chk.mk (by first | omega | exact rfl | (simp only [List.length_map]; omega) | (simp [room]; done) | (simp [room]; omega) | (simp [dropL, room]; done) | (simp [dropL, room]; omega)) ?_ | refine Nam.mk (List.length_map _) ?_ | refine Prep.skip ?_ | refine Eith.l ?_ | refine chk_t (x := D.flat _) (by assumption) ?_ | refine br_mk (fun _ => ?_) (fun _ => ?_) | refine nthK_mk hF ?_ | refine nthK_mk hBb ?_ | refine setK_mk (by omega) ?_ | refine ACall.of (facts_order g f) ?_ | refine APCall.of (facts_order g f) ?_ | fail)
          all_goals (conv => whnf)
          · have hnw : newer (some g) f := by intro g' e; cases e; assumption
            refine ⟨⟨d + 1, df2.set (0 + (d - A).toNat) f.d, db2.set (0 + (d - A).toNat) (B true)⟩, Wm.end (by repeat (first | exact trivial | refine And.intro rfl ?_ | refine And.intro (congrArg (fun n => V.d (I n)) (wrap_nat _ (by omega))) ?_)) rfl rfl rfl, ⟨by simp only; omega, by simp only; omega, by simp only; omega, ?_, ?_⟩, by simp only; omega⟩
            · simp only; rw [yes hnw, List.map_set, ← g1, Nat.zero_add]; rfl
            · simp only; rw [yes hnw, List.map_set, ← g2, Nat.zero_add]; rfl
          · have hnw : ¬ newer (some g) f := fun h => by have := h g rfl; contradiction
            refine ⟨⟨d + 1, df2, db2⟩, Wm.end (by repeat (first | exact trivial | refine And.intro rfl ?_ | refine And.intro (congrArg (fun n => V.d (I n)) (wrap_nat _ (by omega))) ?_)) rfl rfl rfl, ⟨by simp only; omega, by simp only; omega, by simp only; omega, ?_, ?_⟩, by simp only; omega⟩
            · simp only; rw [no hnw]; exact g1
            · simp only; rw [no hnw]; exact g2
      · have hend := days_end hx k A known n d (by omega)
        rw [hend] at g1 g2
        repeat' ((conv => whnf); first | with_reducible refine Dec.t (show true = true from rfl) ?_ | with_reducible refine Dec.t (show false = false from rfl) ?_ | with_reducible refine Dec.f (show ¬ (true = false) by decide) ?_ | with_reducible refine Dec.f (show ¬ (false = true) by decide) ?_ | refine Dec.t (by omega) ?_ | refine Dec.f (by omega) ?_ | refine Dec.split (fun _ => ?_) (fun _ => ?_) | refine Wr.id (by omega) ?_ | refine Chk.mk (by first | omega | exact rfl | (simp only [List.length_map]; omega) | (simp [room]; done) | (simp [room]; omega) | (simp [dropL, room]; done) | (simp [dropL, room]; omega)) ?_ | refine Nam.mk (List.length_map _) ?_ | refine Prep.skip ?_ | refine Eith.l ?_ | refine chk_t (x := D.flat _) (by assumption) ?_ | refine br_mk (fun _ => ?_) (fun _ => ?_) | fail)
        all_goals (conv => whnf)
        all_goals first
          | exact ⟨⟨i + 1, df2, db2⟩, Wm.end (by repeat (first | exact trivial | refine And.intro rfl ?_ | refine And.intro (congrArg (fun n => V.d (I n)) (wrap_nat _ (by omega))) ?_)) rfl rfl rfl, ⟨hlt2, g1, g2⟩, by simp only; omega⟩
          | trace_state
    · refine ⟨⟨i + 1, df, db⟩, Wm.end (by repeat (first | exact trivial | refine And.intro rfl ?_ | refine And.intro (congrArg (fun n => V.d (I n)) (wrap_nat _ (by omega))) ?_)) rfl rfl rfl, ⟨hlt2, ?_, ?_⟩, by simp only; omega⟩
      · simp only; rw [days_skip hx _ _ _ _ (fun h => by have := h.2; contradiction)]; exact h1
      · simp only; rw [days_skip hx _ _ _ _ (fun h => by have := h.2; contradiction)]; exact h2
    · refine ⟨⟨i + 1, df, db⟩, Wm.end (by repeat (first | exact trivial | refine And.intro rfl ?_ | refine And.intro (congrArg (fun n => V.d (I n)) (wrap_nat _ (by omega))) ?_)) rfl rfl rfl, ⟨hlt2, ?_, ?_⟩, by simp only; omega⟩
      · simp only; rw [days_skip hx _ _ _ _ (fun h => by have := h.1; contradiction)]; exact h1
      · simp only; rw [days_skip hx _ _ _ _ (fun h => by have := h.1; contradiction)]; exact h2
  · have : i = l.length := by omega
    subst this
    rw [List.take_length] at h1 h2
    have hl1 : df.length = n := by rw [h1, List.length_map, daysF_len]
    have hl2 : db.length = n := by rw [h2, List.length_map, daysF_len]
    clear hi hlt2
    have hnb : n ≤ 1024 := by omega
    repeat' ((conv => whnf); first | with_reducible refine Dec.t (show true = true from rfl) ?_ | with_reducible refine Dec.t (show false = false from rfl) ?_ | with_reducible refine Dec.f (show ¬ (true = false) by decide) ?_ | with_reducible refine Dec.f (show ¬ (false = true) by decide) ?_ | refine Dec.t (by omega) ?_ | refine Dec.f (by omega) ?_ | refine Dec.split (fun _ => ?_) (fun _ => ?_) | refine Wr.id (by omega) ?_ | refine Chk.mk (by first | omega | exact rfl | (simp only [List.length_map]; omega) | (simp [room]; done) | (simp [room]; omega) | (simp [dropL, room]; done) | (simp [dropL, room]; omega)) ?_ | refine Nam.mk (List.length_map _) ?_ | refine Prep.skip ?_ | refine Eith.l ?_ | refine chk_t (x := D.flat _) (by assumption) ?_ | refine br_mk (fun _ => ?_) (fun _ => ?_) | fail)
    all_goals (conv => whnf)
    refine ALoop.virt 10 0 1 false (by decide) rfl ?_
    conv => whnf
    refine ALoop.at (E := envOf Try.prog tt Try.f75.ntmps) (envOf_ok ttok mixed) (X := XW) (fun x => [(79, .d (I x.i)), (10, .sref 11 x.vr 0 x.i false)]) (fun x => [(11, .row x.vr 1 false x.dv)])
      (fun x => x.i ≤ n ∧ x.dv = (((daysF l k A known n).take x.i).map vOf).map I) (fun x => n - x.i) ⟨0, 0, []⟩ (by repeat (first | exact trivial | refine And.intro rfl ?_ | refine And.intro (congrArg (fun n => V.d (I n)) (wrap_nat _ (by omega))) ?_)) rfl ⟨Nat.zero_le _, by simp⟩ ?_
    rintro ⟨i, vr, dv⟩ ⟨hi, g1⟩
    simp only at hi g1
    dsimp only
    have hdl : dv.length = i := by rw [g1]; simp [daysF_len]; omega
    by_cases hlt2 : i < n
    · obtain ⟨o, ho, _⟩ := drop_get (l := daysF l k A known n) (i := i) (by rw [daysF_len]; exact hlt2)
      have hF : df[0 + ((i : Nat) : Int).toNat]? = some (cellF o) := by rw [h1, Nat.zero_add, Int.toNat_natCast, List.getElem?_map, ho]; rfl
      have hBb : db[0 + ((i : Nat) : Int).toNat]? = some (cellB o) := by rw [h2, Nat.zero_add, Int.toNat_natCast, List.getElem?_map, ho]; rfl
      have hnx : (((daysF l k A known n).take (i + 1)).map vOf).map I = dv ++ [I (vOf o)] := by rw [List.take_add_one, ho, List.map_append, List.map_append, ← g1]; rfl
      cases o with
      | none =>
        repeat' ((conv => whnf); first | with_reducible refine Dec.t (show true = true from rfl) ?_ | with_reducible refine Dec.t (show false = false from rfl) ?_ | with_reducible refine Dec.f (show ¬ (true = false) by decide) ?_ | with_reducible refine Dec.f (show ¬ (false = true) by decide) ?_ | refine Dec.t (by omega) ?_ | refine Dec.f (by omega) ?_ | refine Dec.split (fun _ => ?_) (fun _ => ?_) | refine Wr.id (by omega) ?_ | refine Chk.mk (by first | omega | exact rfl | (simp only [List.length_map]; omega) | (simp [room]; done) | (simp [room]; omega) | (simp [dropL, room]; done) | (simp [dropL, room]; omega)) ?_ | refine Nam.mk (List.length_map _) ?_ | refine Prep.skip ?_ | refine Eith.l ?_ | refine chk_t (x := D.flat _) (by assumption) ?_ | refine br_mk (fun _ => ?_) (fun _ => ?_) | refine nthK_mk hF ?_ | refine nthK_mk hBb ?_ | fail)
        all_goals (conv => whnf)
        exact ⟨⟨i + 1, vr + 1, dv ++ [I (-1)]⟩, Wm.end (by repeat (first | exact trivial | refine And.intro rfl ?_ | refine And.intro (congrArg (fun n => V.d (I n)) (wrap_nat _ (by omega))) ?_)) rfl rfl rfl, ⟨hlt2, hnx.symm⟩, by simp only; omega⟩
      | some g =>
        repeat' ((conv => whnf); first | with_reducible refine Dec.t (show true = true from rfl) ?_ | with_reducible refine Dec.t (show false = false from rfl) ?_ | with_reducible refine Dec.f (show ¬ (true = false) by decide) ?_ | with_reducible refine Dec.f (show ¬ (false = true) by decide) ?_ | refine Dec.t (by omega) ?_ | refine Dec.f (by omega) ?_ | refine Dec.split (fun _ => ?_) (fun _ => ?_) | refine Wr.id (by omega) ?_ | refine Chk.mk (by first | omega | exact rfl | (simp only [List.length_map]; omega) | (simp [room]; done) | (simp [room]; omega) | (simp [dropL, room]; done) | (simp [dropL, room]; omega)) ?_ | refine Nam.mk (List.length_map _) ?_ | refine Prep.skip ?_ | refine Eith.l ?_ | refine chk_t (x := D.flat _) (by assumption) ?_ | refine br_mk (fun _ => ?_) (fun _ => ?_) | refine nthK_mk hF ?_ | refine nthK_mk hBb ?_ | fail)
        all_goals (conv => whnf)
        exact ⟨⟨i + 1, vr + 1, dv ++ [I (vOf (some g))]⟩, Wm.end (by repeat (first | exact trivial | refine And.intro rfl ?_ | refine And.intro (congrArg (fun n => V.d (I n)) (wrap_nat _ (by omega))) ?_)) rfl rfl rfl, ⟨hlt2, hnx.symm⟩, by simp only; omega⟩
    · have : i = n := by omega
      subst this
      rw [List.take_of_length_le (by rw [daysF_len]; omega)] at g1
      have hv : valuesM l k a b known = (daysF l k A known i).map vOf := by
        unfold valuesM daysF
        rw [List.map_map, show daysN a b = i from by rw [← hn, ← hA, ← hB]; rfl, show lo0 a = A from hA]; rfl
      rw [hv, show firstM a b = A from by unfold firstM; rw [show lo0 a = A from hA, show hi0 b = Bh from hB, if_pos (by omega)]]
      repeat' ((conv => whnf); first | with_reducible refine Dec.t (show true = true from rfl) ?_ | with_reducible refine Dec.t (show false = false from rfl) ?_ | with_reducible refine Dec.f (show ¬ (true = false) by decide) ?_ | with_reducible refine Dec.f (show ¬ (false = true) by decide) ?_ | refine Dec.t (by omega) ?_ | refine Dec.f (by omega) ?_ | refine Dec.split (fun _ => ?_) (fun _ => ?_) | refine Wr.id (by omega) ?_ | refine Chk.mk (by first | omega | exact rfl | (simp only [List.length_map]; omega) | (simp [room]; done) | (simp [room]; omega) | (simp [dropL, room]; done) | (simp [dropL, room]; omega)) ?_ | refine Nam.mk (List.length_map _) ?_ | refine Prep.skip ?_ | refine Eith.l ?_ | refine chk_t (x := D.flat _) (by assumption) ?_ | refine br_mk (fun _ => ?_) (fun _ => ?_) | refine Nam.mk ((whole hdl.symm).trans g1) ?_ | fail)
      all_goals (conv => whnf)
      exact (by repeat (first | exact trivial | exact rfl | exact DLe.refl _ | exact DLe.full _ _ _ | exact DLe.nil _ _ _ | exact VLe.refl _ | refine And.intro ?_ ?_ | refine VLe.d ?_ | refine DLe.agg ?_))
end Go.PM

