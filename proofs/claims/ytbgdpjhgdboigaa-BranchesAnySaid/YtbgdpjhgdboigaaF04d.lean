/- The reference of package facts: Points, differs, Keys, Changed, Alike, Upto. -/
import Derived.Test.YtbgdpjhgdboigaaF04c
import Derived.Test.YtbgdpjhgdboigaaR04
namespace Go.PM
open Go.Proofs
set_option maxRecDepth 10000
set_option maxHeartbeats 1000000

theorem eqPt (k k' : Pt) : eqD tt 4 107 k.d.cells k'.d.cells = decide (k = k') := by
  rw [show eqD tt 4 107 k.d.cells k'.d.cells = (k.day == k'.day && (k.value == k'.value && true)) from rfl]
  rw [Bool.eq_iff_iff]
  cases k; cases k'
  simp

theorem ref04_SamePoints (a b : List (Pt)) (hl : a.length < 2 ^ 40)  : CallP Try.prog 58 [.d (SL 2 (a.map Pt.d)), .d (SL 2 (b.map Pt.d))] (retD [.b (decide (a = b))]) := by
  refine exPure_sound (E := envOf Try.prog tt Try.f58.ntmps) (envOf_ok ttok mixed) Try.func58 (by rfl) rfl rfl (Nat.le_of_ble_eq_true rfl) ?_
  by_cases he : a.length = b.length
  · repeat' ((conv => whnf); first | with_reducible refine Dec.t (show true = true from rfl) ?_ | with_reducible refine Dec.t (show false = false from rfl) ?_ | with_reducible refine Dec.f (show ¬ (true = false) by decide) ?_ | with_reducible refine Dec.f (show ¬ (false = true) by decide) ?_ | refine Dec.t (by omega) ?_ | refine Dec.f (by omega) ?_ | refine Dec.split (fun _ => ?_) (fun _ => ?_) | refine Wr.id (by omega) ?_ | refine Chk.mk (by first | omega | exact rfl | (simp only [List.length_map]; omega) | (simp [room]; done) | (simp [room]; omega) | (simp [dropL, room]; done) | (simp [dropL, room]; omega)) ?_ | refine Nam.mk (List.length_map _) ?_ | refine Prep.skip ?_ | refine Eith.l ?_ | refine chk_t (x := D.flat _) (by assumption) ?_ | refine br_mk (fun _ => ?_) (fun _ => ?_))
    conv => whnf
    refine ALoop.at (E := envOf Try.prog tt Try.f58.ntmps) (envOf_ok ttok mixed) (X := Nat) (fun i => [(5, .d (I i))]) (fun _ => []) (fun i => i ≤ a.length ∧ a.take i = b.take i) (fun i => a.length - i) 0 (by repeat (first | exact trivial | refine And.intro rfl ?_ | refine And.intro (congrArg (fun n => V.d (I n)) (wrap_nat _ (by omega))) ?_)) rfl ⟨Nat.zero_le _, rfl⟩ ?_
    rintro i ⟨hi, hm⟩
    by_cases hlt : i < a.length
    · obtain ⟨x, hx, _⟩ := drop_get hlt
      obtain ⟨y, hy, _⟩ := drop_get (l := b) (i := i) (by omega)
      repeat' ((conv => whnf); first | with_reducible refine Dec.t (show true = true from rfl) ?_ | with_reducible refine Dec.t (show false = false from rfl) ?_ | with_reducible refine Dec.f (show ¬ (true = false) by decide) ?_ | with_reducible refine Dec.f (show ¬ (false = true) by decide) ?_ | refine Dec.t (by omega) ?_ | refine Dec.f (by omega) ?_ | refine Dec.split (fun _ => ?_) (fun _ => ?_) | refine Wr.id (by omega) ?_ | refine Chk.mk (by first | omega | exact rfl | (simp only [List.length_map]; omega) | (simp [room]; done) | (simp [room]; omega) | (simp [dropL, room]; done) | (simp [dropL, room]; omega)) ?_ | refine Nam.mk (List.length_map _) ?_ | refine Prep.skip ?_ | refine Eith.l ?_ | refine chk_t (x := D.flat _) (by assumption) ?_ | refine br_mk (fun _ => ?_) (fun _ => ?_) | refine nthK_mk (map_get hx) ?_ | refine nthK_mk (map_get hy) ?_ | refine Nam.dec (eqPt x y) (fun _ => ?_) (fun _ => ?_))
      all_goals (conv => whnf)
      all_goals try simp only [decide_eq_true_eq, decide_eq_false_iff_not] at *
      all_goals first
        | (have e : x = y := by first | assumption | (simp_all; done)
           subst e
           refine ⟨i + 1, Wm.end (by repeat (first | exact trivial | refine And.intro rfl ?_ | refine And.intro (congrArg (fun n => V.d (I n)) (wrap_nat _ (by omega))) ?_)) rfl rfl rfl, ⟨hlt, ?_⟩, by omega⟩
           rw [List.take_add_one, List.take_add_one, hm, hx, hy])
        | (have e : ¬ x = y := by first | assumption | (simp_all; done)
           rw [decide_eq_false (fun h => e (by subst h; rw [hx] at hy; exact Option.some.inj hy))]; exact DLe.refl _)
    · have : i = a.length := by omega
      subst this
      rw [List.take_length, he, List.take_length] at hm
      repeat' ((conv => whnf); first | with_reducible refine Dec.t (show true = true from rfl) ?_ | with_reducible refine Dec.t (show false = false from rfl) ?_ | with_reducible refine Dec.f (show ¬ (true = false) by decide) ?_ | with_reducible refine Dec.f (show ¬ (false = true) by decide) ?_ | refine Dec.t (by omega) ?_ | refine Dec.f (by omega) ?_ | refine Dec.split (fun _ => ?_) (fun _ => ?_) | refine Wr.id (by omega) ?_ | refine Chk.mk (by first | omega | exact rfl | (simp only [List.length_map]; omega) | (simp [room]; done) | (simp [room]; omega) | (simp [dropL, room]; done) | (simp [dropL, room]; omega)) ?_ | refine Nam.mk (List.length_map _) ?_ | refine Prep.skip ?_ | refine Eith.l ?_ | refine chk_t (x := D.flat _) (by assumption) ?_ | refine br_mk (fun _ => ?_) (fun _ => ?_))
      all_goals (conv => whnf)
      rw [decide_eq_true hm]; exact DLe.refl _
  · repeat' ((conv => whnf); first | with_reducible refine Dec.t (show true = true from rfl) ?_ | with_reducible refine Dec.t (show false = false from rfl) ?_ | with_reducible refine Dec.f (show ¬ (true = false) by decide) ?_ | with_reducible refine Dec.f (show ¬ (false = true) by decide) ?_ | refine Dec.t (by omega) ?_ | refine Dec.f (by omega) ?_ | refine Dec.split (fun _ => ?_) (fun _ => ?_) | refine Wr.id (by omega) ?_ | refine Chk.mk (by first | omega | exact rfl | (simp only [List.length_map]; omega) | (simp [room]; done) | (simp [room]; omega) | (simp [dropL, room]; done) | (simp [dropL, room]; omega)) ?_ | refine Nam.mk (List.length_map _) ?_ | refine Prep.skip ?_ | refine Eith.l ?_ | refine chk_t (x := D.flat _) (by assumption) ?_ | refine br_mk (fun _ => ?_) (fun _ => ?_))
    all_goals (conv => whnf)
    rw [decide_eq_false (fun h => he (by rw [h]))]; exact DLe.refl _


theorem dle_b {x y : Bool} (h : x = y) : DLe (B x) (B y) := by subst h; exact DLe.refl _
def lessK (a b : Key) : Prop := a.kind < b.kind ∨ (a.kind = b.kind ∧ (a.subj < b.subj ∨ (a.subj = b.subj ∧ a.obj < b.obj)))
instance (a b : Key) : Decidable (lessK a b) := by unfold lessK; infer_instance
theorem ref04_LessKey (a b : Key) : CallP Try.prog 29 [.d a.d, .d b.d] (retD [.b (decide (lessK a b))]) := by
  refine exPure_sound (E := envOf Try.prog tt Try.f29.ntmps) (envOf_ok ttok mixed) Try.func29 (by rfl) rfl rfl (Nat.le_of_ble_eq_true rfl) ?_
  repeat' ((conv => whnf); first | with_reducible refine Dec.t (show true = true from rfl) ?_ | with_reducible refine Dec.t (show false = false from rfl) ?_ | with_reducible refine Dec.f (show ¬ (true = false) by decide) ?_ | with_reducible refine Dec.f (show ¬ (false = true) by decide) ?_ | refine Dec.t (by omega) ?_ | refine Dec.f (by omega) ?_ | refine Dec.split (fun _ => ?_) (fun _ => ?_) | refine Wr.id (by omega) ?_ | refine Chk.mk (by first | omega | exact rfl | (simp only [List.length_map]; omega) | (simp [room]; done) | (simp [room]; omega) | (simp [dropL, room]; done) | (simp [dropL, room]; omega)) ?_ | refine Nam.mk (List.length_map _) ?_ | refine Prep.skip ?_ | refine Eith.l ?_ | refine chk_t (x := D.flat _) (by assumption) ?_ | refine br_mk (fun _ => ?_) (fun _ => ?_) | fail)
  all_goals (conv => whnf)
  all_goals try simp only [decide_eq_true_eq, decide_eq_false_iff_not] at *
  all_goals first
    | (rw [decide_eq_true (show lessK a b by unfold lessK; omega)]; exact DLe.refl _)
    | (rw [decide_eq_false (show ¬ lessK a b by unfold lessK; omega)]; exact DLe.refl _)

/-- A key laid into sorted keys. -/
def insK (k : Key) : List Key → List Key
  | [] => [k]
  | x :: r => if lessK x k then x :: insK k r else if x = k then x :: r else k :: x :: r
def keysR (l : List Fact) : List Key := l.foldl (fun out f => insK f.key out) []
theorem insK_end {k : Key} : ∀ {out : List Key}, (∀ x ∈ out, lessK x k) → insK k out = out ++ [k]
  | [], _ => rfl
  | x :: r, h => by rw [insK, if_pos (h x (.head _)), insK_end fun y hy => h y (.tail _ hy)]; rfl
theorem insK_at {k x : Key} : ∀ {out : List Key} {n : Nat}, (∀ y ∈ out.take n, lessK y k) → out[n]? = some x → ¬ lessK x k → insK k out = if x = k then out else out.take n ++ k :: out.drop n
  | y :: r, 0, _, hx, hn => by
    simp at hx; subst hx
    rw [insK, if_neg hn]; rfl
  | y :: r, n + 1, h, hx, hn => by
    rw [insK, if_pos (h y (by simp)), insK_at (n := n) (fun z hz => h z (by simp [hz])) (by simpa using hx) hn]
    split <;> rfl
theorem insK_len (k : Key) : ∀ out : List Key, (insK k out).length ≤ out.length + 1
  | [] => Nat.le_refl _
  | x :: r => by
    rw [insK]
    split
    · have := insK_len k r; simp only [List.length_cons]; omega
    · split <;> simp
theorem liftT_to {N : Nat} {ts : Tm} {h : Hp} {t m ver lo len sz : Nat} {ro full : Bool} {xs : List D} (ys : List D) (ht : look ts t = .sref m ver lo len full) (hm : h[m]? = some (.row ver sz ro xs)) (hl : lo + len ≤ xs.length) (he : (xs.drop lo).take len = ys) :
    Wk N ts h ((t, .d (.sl sz full ys)) :: ts) (h.set m (.row ver sz true xs)) := he ▸ Wk.liftT ht hm hl
structure XK where
  i : Nat
  fl : Bool
  ks : List Key
theorem ref04_Keys (l : List Fact) (hl : l.length < 2 ^ 20) : CallP Try.prog 71 [.d (SL 8 (l.map Fact.d))] (retD [SL 3 ((keysR l).map Key.d)]) := by
  refine exPure_sound (E := envOf Try.prog tt Try.f71.ntmps) (envOf_ok ttok mixed) Try.func71 (by rfl) rfl rfl (Nat.le_of_ble_eq_true rfl) ?_
  repeat' ((conv => whnf); first | with_reducible refine Dec.t (show true = true from rfl) ?_ | with_reducible refine Dec.t (show false = false from rfl) ?_ | with_reducible refine Dec.f (show ¬ (true = false) by decide) ?_ | with_reducible refine Dec.f (show ¬ (false = true) by decide) ?_ | refine Dec.t (by omega) ?_ | refine Dec.f (by omega) ?_ | refine Dec.split (fun _ => ?_) (fun _ => ?_) | refine Wr.id (by omega) ?_ | refine Chk.mk (by first | omega | exact rfl | (simp only [List.length_map]; omega) | (simp [room]; done) | (simp [room]; omega) | (simp [dropL, room]; done) | (simp [dropL, room]; omega)) ?_ | refine Nam.mk (List.length_map _) ?_ | refine Prep.skip ?_ | refine Eith.l ?_ | refine chk_t (x := D.flat _) (by assumption) ?_ | refine br_mk (fun _ => ?_) (fun _ => ?_) | fail)
  all_goals (conv => whnf)
  refine ALoop.at (E := envOf Try.prog tt Try.f71.ntmps) (envOf_ok ttok mixed) (X := XK) (fun x => [(4, .d (I x.i)), (3, .d (.sl 3 x.fl (x.ks.map Key.d)))]) (fun _ => [])
    (fun x => x.i ≤ l.length ∧ x.ks = keysR (l.take x.i) ∧ x.ks.length ≤ x.i) (fun x => l.length - x.i) ⟨0, true, []⟩ (by repeat (first | exact trivial | refine And.intro rfl ?_ | refine And.intro (congrArg (fun n => V.d (I n)) (wrap_nat _ (by omega))) ?_)) rfl ⟨Nat.zero_le _, rfl, Nat.le_refl _⟩ ?_
  rintro ⟨i, fl, ks⟩ ⟨hi, g1, g2⟩
  simp only at hi g1 g2
  dsimp only
  by_cases hlt : i < l.length
  · obtain ⟨f, hx, _⟩ := drop_get hlt
    have hs : keysR (l.take (i + 1)) = insK f.key (keysR (l.take i)) := by unfold keysR; rw [List.take_add_one, hx, List.foldl_append]; rfl
    rw [← g1] at hs
    repeat' ((conv => whnf); first | with_reducible refine Dec.t (show true = true from rfl) ?_ | with_reducible refine Dec.t (show false = false from rfl) ?_ | with_reducible refine Dec.f (show ¬ (true = false) by decide) ?_ | with_reducible refine Dec.f (show ¬ (false = true) by decide) ?_ | refine Dec.t (by omega) ?_ | refine Dec.f (by omega) ?_ | refine Dec.split (fun _ => ?_) (fun _ => ?_) | refine Wr.id (by omega) ?_ | refine Chk.mk (by first | omega | exact rfl | (simp only [List.length_map]; omega) | (simp [room]; done) | (simp [room]; omega) | (simp [dropL, room]; done) | (simp [dropL, room]; omega)) ?_ | refine Nam.mk (List.length_map _) ?_ | refine Prep.skip ?_ | refine Eith.l ?_ | refine chk_t (x := D.flat _) (by assumption) ?_ | refine br_mk (fun _ => ?_) (fun _ => ?_) | fail)
    all_goals (conv => whnf)
    refine ALoop.at (E := envOf Try.prog tt Try.f71.ntmps) (envOf_ok ttok mixed) (X := Nat) (fun n => [(5, .d (I n))]) (fun _ => []) (fun n => n ≤ ks.length ∧ ∀ y ∈ ks.take n, lessK y f.key) (fun n => ks.length - n) 0 (by repeat (first | exact trivial | refine And.intro rfl ?_ | refine And.intro (congrArg (fun n => V.d (I n)) (wrap_nat _ (by omega))) ?_)) rfl ⟨Nat.zero_le _, by simp⟩ ?_
    rintro n ⟨hn, hm⟩
    dsimp only
    by_cases hlt2 : n < ks.length
    · obtain ⟨x, hy, _⟩ := drop_get hlt2
      repeat' ((conv => whnf); first | with_reducible refine Dec.t (show true = true from rfl) ?_ | with_reducible refine Dec.t (show false = false from rfl) ?_ | with_reducible refine Dec.f (show ¬ (true = false) by decide) ?_ | with_reducible refine Dec.f (show ¬ (false = true) by decide) ?_ | refine Dec.t (by omega) ?_ | refine Dec.f (by omega) ?_ | refine Dec.split (fun _ => ?_) (fun _ => ?_) | refine Wr.id (by omega) ?_ | refine Chk.mk (by first | omega | exact rfl | (simp only [List.length_map]; omega) | (simp [room]; done) | (simp [room]; omega) | (simp [dropL, room]; done) | (simp [dropL, room]; omega)) ?_ | refine Nam.mk (List.length_map _) ?_ | refine Prep.skip ?_ | refine Eith.l ?_ | refine chk_t (x := D.flat _) (by assumption) ?_ | refine br_mk (fun _ => ?_) (fun _ => ?_) | refine nthK_mk (map_get hx) ?_ | refine nthK_mk (map_get hy) ?_ | refine ACall.ofB (ref04_LessKey x f.key) (fun _ => ?_) (fun _ => ?_) | refine APCall.ofB (ref04_LessKey x f.key) (fun _ => ?_) (fun _ => ?_) | refine Nam.dec (eqKey x f.key) (fun _ => ?_) (fun _ => ?_) | fail)
      all_goals (conv => whnf)
      all_goals try simp only [decide_eq_true_eq, decide_eq_false_iff_not] at *
      · refine ⟨n + 1, Wm.end (by repeat (first | exact trivial | refine And.intro rfl ?_ | refine And.intro (congrArg (fun n => V.d (I n)) (wrap_nat _ (by omega))) ?_)) rfl rfl rfl, ⟨hlt2, fun y hy2 => ?_⟩, by omega⟩
        rw [List.take_add_one, hy, List.mem_append] at hy2
        rcases hy2 with h | h
        · exact hm y h
        · simp at h; subst h; assumption
      · rename_i he hn2
        refine ⟨⟨i + 1, fl, ks⟩, Wm.end (by repeat (first | exact trivial | refine And.intro rfl ?_ | refine And.intro (congrArg (fun n => V.d (I n)) (wrap_nat _ (by omega))) ?_)) rfl rfl rfl, ⟨hlt, ?_, by simp only; omega⟩, by simp only; omega⟩
        rw [hs, insK_at hm hy hn2, if_pos he]
      · rename_i he hn2
        refine Nam.mk (y := (f.key :: ks.drop n).map Key.d) ((List.take_of_length_le (by simp; omega)).trans (by simp [Key.d, Fact.key])) ?_
        repeat' ((conv => whnf); first | with_reducible refine Dec.t (show true = true from rfl) ?_ | with_reducible refine Dec.t (show false = false from rfl) ?_ | with_reducible refine Dec.f (show ¬ (true = false) by decide) ?_ | with_reducible refine Dec.f (show ¬ (false = true) by decide) ?_ | refine Dec.t (by omega) ?_ | refine Dec.f (by omega) ?_ | refine Dec.split (fun _ => ?_) (fun _ => ?_) | refine Wr.id (by omega) ?_ | refine Chk.mk (by first | omega | exact rfl | (simp only [List.length_map]; omega) | (simp [room]; done) | (simp [room]; omega) | (simp [dropL, room]; done) | (simp [dropL, room]; omega)) ?_ | refine Nam.mk (List.length_map _) ?_ | refine Prep.skip ?_ | refine Eith.l ?_ | refine chk_t (x := D.flat _) (by assumption) ?_ | refine br_mk (fun _ => ?_) (fun _ => ?_) | refine Chk.mk ⟨.inr (by simp), by simp [room]; omega⟩ ?_ | fail)
        all_goals (conv => whnf)
        have hks : insK f.key ks = ks.take n ++ f.key :: ks.drop n := by rw [insK_at hm hy hn2, if_neg he]
        refine ⟨⟨i + 1, false, insK f.key ks⟩, (Wk.wm (liftT_to (t := 3) (m := 2) ((insK f.key ks).map Key.d) rfl rfl ?_ ?_)).trans (Wm.end (by repeat (first | exact trivial | refine And.intro rfl ?_ | refine And.intro (congrArg (fun n => V.d (I n)) (wrap_nat _ (by omega))) ?_)) rfl rfl rfl), ⟨hlt, hs.symm, by have := insK_len f.key ks; simp only; omega⟩, by simp only; omega⟩
        · simp
        · rw [hks]
          exact (whole (by simp)).trans (by simp [Key.d, Fact.key])
    · have hnk : n = ks.length := by omega
      subst hnk
      rw [List.take_length] at hm
      have hE : (ks.map Key.d).drop ((ks.length : Int).toNat) = [] := by simp
      repeat' ((conv => whnf); first | refine Eith.r (Chk.mk (by assumption) ?_) | with_reducible refine Dec.t (show true = true from rfl) ?_ | with_reducible refine Dec.t (show false = false from rfl) ?_ | with_reducible refine Dec.f (show ¬ (true = false) by decide) ?_ | with_reducible refine Dec.f (show ¬ (false = true) by decide) ?_ | refine Dec.t (by omega) ?_ | refine Dec.f (by omega) ?_ | refine Dec.split (fun _ => ?_) (fun _ => ?_) | refine Wr.id (by omega) ?_ | refine Chk.mk (by first | omega | exact rfl | (simp only [List.length_map]; omega) | (simp [room]; done) | (simp [room]; omega) | (simp [dropL, room]; done) | (simp [dropL, room]; omega)) ?_ | refine Nam.mk (List.length_map _) ?_ | refine Prep.skip ?_ | refine Eith.l ?_ | refine chk_t (x := D.flat _) (by assumption) ?_ | refine br_mk (fun _ => ?_) (fun _ => ?_) | refine nthK_mk (map_get hx) ?_ | fail)
      all_goals (conv => whnf)
      have hks : insK f.key ks = ks ++ [f.key] := insK_end hm
      refine ⟨⟨i + 1, false, insK f.key ks⟩, (Wk.wm (liftT_to (t := 3) (m := 2) ((insK f.key ks).map Key.d) rfl rfl ?_ ?_)).trans (Wm.end (by repeat (first | exact trivial | refine And.intro rfl ?_ | refine And.intro (congrArg (fun n => V.d (I n)) (wrap_nat _ (by omega))) ?_)) rfl rfl rfl), ⟨hlt, hs.symm, by have := insK_len f.key ks; simp only; omega⟩, by simp only; omega⟩
      · simp
      · rw [hks]
        exact (whole (by simp)).trans (by simp [Key.d, Fact.key, List.take_of_length_le])
  · have : i = l.length := by omega
    subst this
    rw [List.take_length] at g1
    repeat' ((conv => whnf); first | with_reducible refine Dec.t (show true = true from rfl) ?_ | with_reducible refine Dec.t (show false = false from rfl) ?_ | with_reducible refine Dec.f (show ¬ (true = false) by decide) ?_ | with_reducible refine Dec.f (show ¬ (false = true) by decide) ?_ | refine Dec.t (by omega) ?_ | refine Dec.f (by omega) ?_ | refine Dec.split (fun _ => ?_) (fun _ => ?_) | refine Wr.id (by omega) ?_ | refine Chk.mk (by first | omega | exact rfl | (simp only [List.length_map]; omega) | (simp [room]; done) | (simp [room]; omega) | (simp [dropL, room]; done) | (simp [dropL, room]; omega)) ?_ | refine Nam.mk (List.length_map _) ?_ | refine Prep.skip ?_ | refine Eith.l ?_ | refine chk_t (x := D.flat _) (by assumption) ?_ | refine br_mk (fun _ => ?_) (fun _ => ?_) | fail)
    all_goals (conv => whnf)
    rw [g1]
    all_goals exact VLe.d (by cases fl; exact DLe.refl _; exact DLe.full _ _ _)
/-- Points are alike exactly if values are. -/
theorem vOf_eq (o o' : Option Fact) : valOf o = valOf o' ↔ vOf o = vOf o' := by
  have ge : ∀ o : Option Fact, -1 ≤ vOf o := fun o => by
    cases o with
    | none => decide
    | some f => rw [show vOf (some f) = if -1 > f.value then -1 else f.value from rfl]; split <;> omega
  rw [valOf_vOf, valOf_vOf]
  have h1 := ge o
  have h2 := ge o'
  by_cases e1 : 0 ≤ vOf o <;> by_cases e2 : 0 ≤ vOf o' <;> simp [e1, e2] <;> omega
theorem pointsF_eq (l : List Fact) (k : Key) (A s t : Int) : ∀ n : Nat, pointsF l k A s n = pointsF l k A t n ↔ ∀ i : Nat, i < n → atM l k (A + i) s = atM l k (A + i) t
  | 0 => by simp [pointsF]
  | n + 1 => by
    rw [points_succ, points_succ]
    constructor
    · intro h
      have days : ∀ (s : Int) (n : Nat), ∀ p ∈ pointsF l k A s n, p.day < A + n := fun s n p hp => by
        unfold pointsF at hp
        rw [List.mem_filterMap] at hp
        obtain ⟨i, hi, h2⟩ := hp
        have hi := List.mem_range.1 hi
        unfold ptOf at h2
        cases hh : atM l k (A + i) s with
        | none => rw [hh] at h2; cases h2
        | some v => rw [hh] at h2; simp at h2; subst h2; dsimp only; omega
      have e1 := congrArg (List.filter fun p : Pt => decide (p.day < A + n)) h
      have e2 := congrArg (List.filter fun p : Pt => decide (¬ p.day < A + n)) h
      have f1 : ∀ s, (pointsF l k A s n).filter (fun p : Pt => decide (p.day < A + n)) = pointsF l k A s n := fun s => List.filter_eq_self.2 fun p hp => decide_eq_true (days s n p hp)
      have f2 : ∀ s, (pointsF l k A s n).filter (fun p : Pt => decide (¬ p.day < A + n)) = [] := fun s => List.filter_eq_nil_iff.2 fun p hp => by simpa using days s n p hp
      have g1 : ∀ o : Option Int, (ptOf (A + n) o).toList.filter (fun p : Pt => decide (p.day < A + n)) = [] := fun o => by cases o <;> simp [ptOf]
      have g2 : ∀ o : Option Int, (ptOf (A + n) o).toList.filter (fun p : Pt => decide (¬ p.day < A + n)) = (ptOf (A + n) o).toList := fun o => by cases o <;> simp [ptOf]
      rw [List.filter_append, List.filter_append, f1, f1, g1, g1, List.append_nil, List.append_nil] at e1
      rw [List.filter_append, List.filter_append, f2, f2, g2, g2, List.nil_append, List.nil_append] at e2
      intro i hi
      by_cases hin : i < n
      · exact (pointsF_eq l k A s t n).1 e1 i hin
      · have : i = n := by omega
        subst this
        cases h1 : atM l k (A + i) s <;> cases h2 : atM l k (A + i) t <;> rw [h1, h2] at e2 <;> simp [ptOf] at e2 ⊢
        exact e2
    · intro h
      rw [(pointsF_eq l k A s t n).2 fun i hi => h i (by omega), h n (by omega)]
theorem alike_points (l : List Fact) (k : Key) (a b s t : Int) : pointsM l k a b s = pointsM l k a b t ↔ valuesM l k a b s = valuesM l k a b t := by
  unfold pointsM valuesM
  rw [pointsF_eq, List.map_inj_left]
  constructor
  · intro h i hi
    exact (vOf_eq _ _).1 (h i (List.mem_range.1 hi))
  · intro h i hi
    exact (vOf_eq _ _).2 (h i (List.mem_range.2 hi))
theorem pointsM_len (l : List Fact) (k : Key) (a b s : Int) : (pointsM l k a b s).length ≤ 1024 :=
  Nat.le_trans (points_len _ _ _ _ _) (by unfold daysN hi0 lo0; split <;> split <;> omega)
end Go.PM

