/- Package quality: State, Check. -/
import Derived.Test.YtoliiomecffacaaDoorQ40b
namespace Go.PM
open Go.Proofs
set_option maxRecDepth 10000
set_option maxHeartbeats 2000000

theorem leafD {x y : Bool} (h : x = y) : DLe (.b x) (.b y) := by subst h; exact DLe.refl _
theorem eqPt (k k' : Pt) : eqD tt 4 72 k.d.cells k'.d.cells = decide (k = k') := by
  rw [show eqD tt 4 72 k.d.cells k'.d.cells = (k.day == k'.day && (k.value == k'.value && true)) from rfl]
  rw [Bool.eq_iff_iff]
  cases k; cases k'
  simp

theorem slices_Equal_Pt (a b : List (Pt)) (hl : a.length < 2 ^ 40)  : CallP Tryd.prog 52 [.d (SL 2 (a.map Pt.d)), .d (SL 2 (b.map Pt.d))] (retD [.b (decide (a = b))]) := by
  refine exPure_sound (E := envOf Tryd.prog tt Tryd.f52.ntmps) (envOf_ok ttok mixed) Tryd.func52 (by rfl) rfl rfl (Nat.le_of_ble_eq_true rfl) ?_
  by_cases he : a.length = b.length
  · repeat' ((conv => whnf); first | with_reducible refine Dec.t (show true = true from rfl) ?_ | with_reducible refine Dec.t (show false = false from rfl) ?_ | with_reducible refine Dec.f (show ¬ (true = false) by decide) ?_ | with_reducible refine Dec.f (show ¬ (false = true) by decide) ?_ | refine Dec.t (by omega) ?_ | refine Dec.f (by omega) ?_ | refine Dec.split (fun _ => ?_) (fun _ => ?_) | refine Wr.id (by omega) ?_ | refine Chk.mk (by first | omega | exact rfl | (simp only [List.length_map]; omega) | (simp [room]; done) | (simp [room]; omega) | (simp [dropL, room]; done) | (simp [dropL, room]; omega)) ?_ | refine Nam.mk (List.length_map _) ?_ | refine Prep.skip ?_ | refine chk_t (x := D.flat _) (by assumption) ?_ | refine br_mk (fun _ => ?_) (fun _ => ?_))
    conv => whnf
    refine ALoop.at (E := envOf Tryd.prog tt Tryd.f52.ntmps) (envOf_ok ttok mixed) (X := Nat) (fun i => [(13, .d (I i))]) (fun _ => []) (fun i => i ≤ a.length ∧ a.take i = b.take i) (fun i => a.length - i) 0 (by repeat (first | exact trivial | refine And.intro rfl ?_ | refine And.intro (congrArg (fun n => V.d (I n)) (wrap_nat _ (by omega))) ?_)) rfl ⟨Nat.zero_le _, rfl⟩ ?_
    rintro i ⟨hi, hm⟩
    by_cases hlt : i < a.length
    · obtain ⟨x, hx, _⟩ := drop_get hlt
      obtain ⟨y, hy, _⟩ := drop_get (l := b) (i := i) (by omega)
      repeat' ((conv => whnf); first | with_reducible refine Dec.t (show true = true from rfl) ?_ | with_reducible refine Dec.t (show false = false from rfl) ?_ | with_reducible refine Dec.f (show ¬ (true = false) by decide) ?_ | with_reducible refine Dec.f (show ¬ (false = true) by decide) ?_ | refine Dec.t (by omega) ?_ | refine Dec.f (by omega) ?_ | refine Dec.split (fun _ => ?_) (fun _ => ?_) | refine Wr.id (by omega) ?_ | refine Chk.mk (by first | omega | exact rfl | (simp only [List.length_map]; omega) | (simp [room]; done) | (simp [room]; omega) | (simp [dropL, room]; done) | (simp [dropL, room]; omega)) ?_ | refine Nam.mk (List.length_map _) ?_ | refine Prep.skip ?_ | refine chk_t (x := D.flat _) (by assumption) ?_ | refine br_mk (fun _ => ?_) (fun _ => ?_) | refine nthK_mk (map_get hx) ?_ | refine nthK_mk (map_get hy) ?_ | refine Nam.dec (eqPt x y) (fun _ => ?_) (fun _ => ?_))
      all_goals (conv => whnf)
      all_goals try simp only [decide_eq_true_eq, decide_eq_false_iff_not] at *
      all_goals first
        | (have e : x = y := by first | assumption | (simp_all; done)
           subst e
           refine ⟨i + 1, Wm.end (by repeat (first | exact trivial | refine And.intro rfl ?_ | refine And.intro (congrArg (fun n => V.d (I n)) (wrap_nat _ (by omega))) ?_)) rfl rfl rfl, ⟨hlt, ?_⟩, by omega⟩
           rw [List.take_add_one, List.take_add_one, hm, hx, hy])
        | (have e : ¬ x = y := by first | assumption | (simp_all; done)
           rw [decide_eq_false (fun h => e (by subst h; rw [hx] at hy; exact Option.some.inj hy))]; exact DLe.refl _)
    · have : i = a.length := by omega
      subst this
      rw [List.take_length, he, List.take_length] at hm
      repeat' ((conv => whnf); first | with_reducible refine Dec.t (show true = true from rfl) ?_ | with_reducible refine Dec.t (show false = false from rfl) ?_ | with_reducible refine Dec.f (show ¬ (true = false) by decide) ?_ | with_reducible refine Dec.f (show ¬ (false = true) by decide) ?_ | refine Dec.t (by omega) ?_ | refine Dec.f (by omega) ?_ | refine Dec.split (fun _ => ?_) (fun _ => ?_) | refine Wr.id (by omega) ?_ | refine Chk.mk (by first | omega | exact rfl | (simp only [List.length_map]; omega) | (simp [room]; done) | (simp [room]; omega) | (simp [dropL, room]; done) | (simp [dropL, room]; omega)) ?_ | refine Nam.mk (List.length_map _) ?_ | refine Prep.skip ?_ | refine chk_t (x := D.flat _) (by assumption) ?_ | refine br_mk (fun _ => ?_) (fun _ => ?_))
      all_goals (conv => whnf)
      rw [decide_eq_true hm]; exact DLe.refl _
  · repeat' ((conv => whnf); first | with_reducible refine Dec.t (show true = true from rfl) ?_ | with_reducible refine Dec.t (show false = false from rfl) ?_ | with_reducible refine Dec.f (show ¬ (true = false) by decide) ?_ | with_reducible refine Dec.f (show ¬ (false = true) by decide) ?_ | refine Dec.t (by omega) ?_ | refine Dec.f (by omega) ?_ | refine Dec.split (fun _ => ?_) (fun _ => ?_) | refine Wr.id (by omega) ?_ | refine Chk.mk (by first | omega | exact rfl | (simp only [List.length_map]; omega) | (simp [room]; done) | (simp [room]; omega) | (simp [dropL, room]; done) | (simp [dropL, room]; omega)) ?_ | refine Nam.mk (List.length_map _) ?_ | refine Prep.skip ?_ | refine chk_t (x := D.flat _) (by assumption) ?_ | refine br_mk (fun _ => ?_) (fun _ => ?_))
    all_goals (conv => whnf)
    rw [decide_eq_false (fun h => he (by rw [h]))]; exact DLe.refl _

theorem quality_sameList (a b : List Pt) (hl : a.length < 2 ^ 40) : CallP Tryd.prog 31 [.d (SL 2 (a.map Pt.d)), .d (SL 2 (b.map Pt.d))] (retD [.b (decide (a = b))]) := by
  refine exPure_sound (E := envOf Tryd.prog tt Tryd.f31.ntmps) (envOf_ok ttok mixed) Tryd.func31 (by rfl) rfl rfl (Nat.le_of_ble_eq_true rfl) ?_
  repeat' ((conv => whnf); first | with_reducible refine Dec.t (show true = true from rfl) ?_ | with_reducible refine Dec.t (show false = false from rfl) ?_ | with_reducible refine Dec.f (show ¬ (true = false) by decide) ?_ | with_reducible refine Dec.f (show ¬ (false = true) by decide) ?_ | refine Dec.t (by omega) ?_ | refine Dec.f (by omega) ?_ | refine Dec.split (fun _ => ?_) (fun _ => ?_) | refine Wr.id (by omega) ?_ | refine Chk.mk (by first | omega | exact rfl | (simp only [List.length_map]; omega) | (simp [room]; done) | (simp [room]; omega) | (simp [dropL, room]; done) | (simp [dropL, room]; omega)) ?_ | refine Nam.mk (List.length_map _) ?_ | refine Prep.skip ?_ | refine chk_t (x := D.flat _) (by assumption) ?_ | refine br_mk (fun _ => ?_) (fun _ => ?_) | refine ACall.of (slices_Equal_Pt a b hl) ?_ | refine APCall.of (slices_Equal_Pt a b hl) ?_ | fail)
  all_goals (conv => whnf)
  exact (by repeat (first | exact trivial | exact rfl | exact DLe.refl _ | exact DLe.full _ _ _ | exact DLe.nil _ _ _ | exact VLe.refl _ | refine And.intro ?_ ?_ | refine VLe.d ?_ | refine DLe.agg ?_))
theorem slices_Index_int (l : List Int) (v : Int) (hl : l.length < 2 ^ 40) : CallP Tryd.prog 53 [.d (SL 1 (l.map I)), .d (I v)] (retD [I (idxM (fun x => v = x) l)]) := by
  refine exPure_sound (E := envOf Tryd.prog tt Tryd.f53.ntmps) (envOf_ok ttok mixed) Tryd.func53 (by rfl) rfl rfl (Nat.le_of_ble_eq_true rfl) ?_
  repeat' ((conv => whnf); first | with_reducible refine Dec.t (show true = true from rfl) ?_ | with_reducible refine Dec.t (show false = false from rfl) ?_ | with_reducible refine Dec.f (show ¬ (true = false) by decide) ?_ | with_reducible refine Dec.f (show ¬ (false = true) by decide) ?_ | refine Dec.t (by omega) ?_ | refine Dec.f (by omega) ?_ | refine Dec.split (fun _ => ?_) (fun _ => ?_) | refine Wr.id (by omega) ?_ | refine Chk.mk (by first | omega | exact rfl | (simp only [List.length_map]; omega) | (simp [room]; done) | (simp [room]; omega) | (simp [dropL, room]; done) | (simp [dropL, room]; omega)) ?_ | refine Nam.mk (List.length_map _) ?_ | refine Prep.skip ?_ | refine chk_t (x := D.flat _) (by assumption) ?_ | refine br_mk (fun _ => ?_) (fun _ => ?_) | fail)
  conv => whnf
  refine ALoop.at (E := envOf Tryd.prog tt Tryd.f53.ntmps) (envOf_ok ttok mixed) (X := Nat) (fun i => [(8, .d (I i))]) (fun _ => []) (fun i => i ≤ l.length ∧ idxFrom (fun x => v = x) (l.drop i) i = idxM (fun x => v = x) l) (fun i => l.length - i) 0 (by repeat (first | exact trivial | refine And.intro rfl ?_ | refine And.intro (congrArg (fun n => V.d (I n)) (wrap_nat _ (by omega))) ?_)) rfl ⟨Nat.zero_le _, rfl⟩ ?_
  rintro i ⟨hi, hm⟩
  by_cases hlt : i < l.length
  · obtain ⟨x, hx, hd⟩ := drop_get hlt
    rw [hd, idxFrom] at hm
    repeat' ((conv => whnf); first | with_reducible refine Dec.t (show true = true from rfl) ?_ | with_reducible refine Dec.t (show false = false from rfl) ?_ | with_reducible refine Dec.f (show ¬ (true = false) by decide) ?_ | with_reducible refine Dec.f (show ¬ (false = true) by decide) ?_ | refine Dec.t (by omega) ?_ | refine Dec.f (by omega) ?_ | refine Dec.split (fun _ => ?_) (fun _ => ?_) | refine Wr.id (by omega) ?_ | refine Chk.mk (by first | omega | exact rfl | (simp only [List.length_map]; omega) | (simp [room]; done) | (simp [room]; omega) | (simp [dropL, room]; done) | (simp [dropL, room]; omega)) ?_ | refine Nam.mk (List.length_map _) ?_ | refine Prep.skip ?_ | refine chk_t (x := D.flat _) (by assumption) ?_ | refine br_mk (fun _ => ?_) (fun _ => ?_) | refine nthK_mk (map_get hx) ?_ | fail)
    all_goals (conv => whnf)
    · rename_i h
      rw [if_pos h] at hm
      rw [← hm]; exact DLe.refl _
    · rename_i h
      rw [if_neg h] at hm
      exact ⟨i + 1, Wm.end (by repeat (first | exact trivial | refine And.intro rfl ?_ | refine And.intro (congrArg (fun n => V.d (I n)) (wrap_nat _ (by omega))) ?_)) rfl rfl rfl, ⟨hlt, hm⟩, by omega⟩
  · have : i = l.length := by omega
    subst this
    rw [List.drop_length] at hm
    rw [← hm]
    repeat' ((conv => whnf); first | with_reducible refine Dec.t (show true = true from rfl) ?_ | with_reducible refine Dec.t (show false = false from rfl) ?_ | with_reducible refine Dec.f (show ¬ (true = false) by decide) ?_ | with_reducible refine Dec.f (show ¬ (false = true) by decide) ?_ | refine Dec.t (by omega) ?_ | refine Dec.f (by omega) ?_ | refine Dec.split (fun _ => ?_) (fun _ => ?_) | refine Wr.id (by omega) ?_ | refine Chk.mk (by first | omega | exact rfl | (simp only [List.length_map]; omega) | (simp [room]; done) | (simp [room]; omega) | (simp [dropL, room]; done) | (simp [dropL, room]; omega)) ?_ | refine Nam.mk (List.length_map _) ?_ | refine Prep.skip ?_ | refine chk_t (x := D.flat _) (by assumption) ?_ | refine br_mk (fun _ => ?_) (fun _ => ?_) | fail)
    all_goals (conv => whnf)
    exact DLe.refl _
theorem slices_Contains_int (l : List Int) (v : Int) (hl : l.length < 2 ^ 40) : CallP Tryd.prog 33 [.d (SL 1 (l.map I)), .d (I v)] (retD [.b (decide (v ∈ l))]) := by
  refine exPure_sound (E := envOf Tryd.prog tt Tryd.f33.ntmps) (envOf_ok ttok mixed) Tryd.func33 (by rfl) rfl rfl (Nat.le_of_ble_eq_true rfl) ?_
  repeat' ((conv => whnf); first | with_reducible refine Dec.t (show true = true from rfl) ?_ | with_reducible refine Dec.t (show false = false from rfl) ?_ | with_reducible refine Dec.f (show ¬ (true = false) by decide) ?_ | with_reducible refine Dec.f (show ¬ (false = true) by decide) ?_ | refine Dec.t (by omega) ?_ | refine Dec.f (by omega) ?_ | refine Dec.split (fun _ => ?_) (fun _ => ?_) | refine Wr.id (by omega) ?_ | refine Chk.mk (by first | omega | exact rfl | (simp only [List.length_map]; omega) | (simp [room]; done) | (simp [room]; omega) | (simp [dropL, room]; done) | (simp [dropL, room]; omega)) ?_ | refine Nam.mk (List.length_map _) ?_ | refine Prep.skip ?_ | refine chk_t (x := D.flat _) (by assumption) ?_ | refine br_mk (fun _ => ?_) (fun _ => ?_) | refine ACall.of (slices_Index_int l v hl) ?_ | refine APCall.of (slices_Index_int l v hl) ?_ | fail)
  all_goals (conv => whnf)
  · rename_i h
    obtain ⟨x, hx, e⟩ := (idxM_nonneg l).1 h
    subst e
    rw [decide_eq_true hx]; exact (by repeat (first | exact trivial | exact rfl | exact DLe.refl _ | exact DLe.full _ _ _ | exact DLe.nil _ _ _ | exact VLe.refl _ | refine And.intro ?_ ?_ | refine VLe.d ?_ | refine DLe.agg ?_))
  · rename_i h
    rw [decide_eq_false (fun hh => h ((idxM_nonneg l).2 ⟨v, hh, rfl⟩))]; exact (by repeat (first | exact trivial | exact rfl | exact DLe.refl _ | exact DLe.full _ _ _ | exact DLe.nil _ _ _ | exact VLe.refl _ | refine And.intro ?_ ?_ | refine VLe.d ?_ | refine DLe.agg ?_))

def ruleD : D := .sl 2 true [.agg [I 3, fnD 54], .agg [I 2, fnD 55], .agg [I 1, fnD 56]]
theorem quality_rules : CallP Tryd.prog 34 [] (retD [ruleD]) := by
  refine exPure_sound (E := envOf Tryd.prog tt Tryd.f34.ntmps) (envOf_ok ttok mixed) Tryd.func34 (by rfl) rfl rfl (Nat.le_of_ble_eq_true rfl) ?_
  repeat' ((conv => whnf); first | with_reducible refine Dec.t (show true = true from rfl) ?_ | with_reducible refine Dec.t (show false = false from rfl) ?_ | with_reducible refine Dec.f (show ¬ (true = false) by decide) ?_ | with_reducible refine Dec.f (show ¬ (false = true) by decide) ?_ | refine Dec.t (by omega) ?_ | refine Dec.f (by omega) ?_ | refine Dec.split (fun _ => ?_) (fun _ => ?_) | refine Wr.id (by omega) ?_ | refine Chk.mk (by first | omega | exact rfl | (simp only [List.length_map]; omega) | (simp [room]; done) | (simp [room]; omega) | (simp [dropL, room]; done) | (simp [dropL, room]; omega)) ?_ | refine Nam.mk (List.length_map _) ?_ | refine Prep.skip ?_ | refine chk_t (x := D.flat _) (by assumption) ?_ | refine br_mk (fun _ => ?_) (fun _ => ?_) | fail)
  all_goals (conv => whnf)
  exact (by repeat (first | exact trivial | exact rfl | exact DLe.refl _ | exact DLe.full _ _ _ | exact DLe.nil _ _ _ | exact VLe.refl _ | refine And.intro ?_ ?_ | refine VLe.d ?_ | refine DLe.agg ?_))
def findD (x : Lot) (day : Int) (held good : Bool) : D := .agg [I x.no, I x.item, I x.plant, I x.amount, I x.expiry, I x.state, I day, .b held, .b good]
theorem quality_r1 (x : Lot) (day : Int) (held good : Bool) : CallP Tryd.prog 54 [.d (findD x day held good)] (retD [.b (decide (x.state = 3))]) := by
  refine exPure_sound (E := envOf Tryd.prog tt Tryd.f54.ntmps) (envOf_ok ttok mixed) Tryd.func54 (by rfl) rfl rfl (Nat.le_of_ble_eq_true rfl) ?_
  repeat' ((conv => whnf); first | with_reducible refine Dec.t (show true = true from rfl) ?_ | with_reducible refine Dec.t (show false = false from rfl) ?_ | with_reducible refine Dec.f (show ¬ (true = false) by decide) ?_ | with_reducible refine Dec.f (show ¬ (false = true) by decide) ?_ | refine Dec.t (by omega) ?_ | refine Dec.f (by omega) ?_ | refine Dec.split (fun _ => ?_) (fun _ => ?_) | refine Wr.id (by omega) ?_ | refine Chk.mk (by first | omega | exact rfl | (simp only [List.length_map]; omega) | (simp [room]; done) | (simp [room]; omega) | (simp [dropL, room]; done) | (simp [dropL, room]; omega)) ?_ | refine Nam.mk (List.length_map _) ?_ | refine Prep.skip ?_ | refine chk_t (x := D.flat _) (by assumption) ?_ | refine br_mk (fun _ => ?_) (fun _ => ?_) | fail)
  all_goals (conv => whnf)
  all_goals first | (rename_i h; rw [decide_eq_true h]; exact (by repeat (first | exact trivial | exact rfl | exact DLe.refl _ | exact DLe.full _ _ _ | exact DLe.nil _ _ _ | exact VLe.refl _ | refine And.intro ?_ ?_ | refine VLe.d ?_ | refine DLe.agg ?_))) | (rename_i h; rw [decide_eq_false h]; exact (by repeat (first | exact trivial | exact rfl | exact DLe.refl _ | exact DLe.full _ _ _ | exact DLe.nil _ _ _ | exact VLe.refl _ | refine And.intro ?_ ?_ | refine VLe.d ?_ | refine DLe.agg ?_))) | exact (by repeat (first | exact trivial | exact rfl | exact DLe.refl _ | exact DLe.full _ _ _ | exact DLe.nil _ _ _ | exact VLe.refl _ | refine And.intro ?_ ?_ | refine VLe.d ?_ | refine DLe.agg ?_))
theorem quality_r2 (x : Lot) (day : Int) (held good : Bool) : CallP Tryd.prog 55 [.d (findD x day held good)] (retD [.b (decide (x.state = 2) || held)]) := by
  refine exPure_sound (E := envOf Tryd.prog tt Tryd.f55.ntmps) (envOf_ok ttok mixed) Tryd.func55 (by rfl) rfl rfl (Nat.le_of_ble_eq_true rfl) ?_
  repeat' ((conv => whnf); first | with_reducible refine Dec.t (show true = true from rfl) ?_ | with_reducible refine Dec.t (show false = false from rfl) ?_ | with_reducible refine Dec.f (show ¬ (true = false) by decide) ?_ | with_reducible refine Dec.f (show ¬ (false = true) by decide) ?_ | refine Dec.t (by omega) ?_ | refine Dec.f (by omega) ?_ | refine Dec.split (fun _ => ?_) (fun _ => ?_) | refine Wr.id (by omega) ?_ | refine Chk.mk (by first | omega | exact rfl | (simp only [List.length_map]; omega) | (simp [room]; done) | (simp [room]; omega) | (simp [dropL, room]; done) | (simp [dropL, room]; omega)) ?_ | refine Nam.mk (List.length_map _) ?_ | refine Prep.skip ?_ | refine chk_t (x := D.flat _) (by assumption) ?_ | refine br_mk (fun _ => ?_) (fun _ => ?_) | fail)
  all_goals (conv => whnf)
  all_goals first | (rename_i h; rw [decide_eq_true h]; exact (by repeat (first | exact trivial | exact rfl | exact DLe.refl _ | exact DLe.full _ _ _ | exact DLe.nil _ _ _ | exact VLe.refl _ | refine And.intro ?_ ?_ | refine VLe.d ?_ | refine DLe.agg ?_))) | (rename_i h; rw [decide_eq_false h]; exact (by repeat (first | exact trivial | exact rfl | exact DLe.refl _ | exact DLe.full _ _ _ | exact DLe.nil _ _ _ | exact VLe.refl _ | refine And.intro ?_ ?_ | refine VLe.d ?_ | refine DLe.agg ?_))) | exact (by repeat (first | exact trivial | exact rfl | exact DLe.refl _ | exact DLe.full _ _ _ | exact DLe.nil _ _ _ | exact VLe.refl _ | refine And.intro ?_ ?_ | refine VLe.d ?_ | refine DLe.agg ?_))
theorem quality_r3 (x : Lot) (day : Int) (held good : Bool) : CallP Tryd.prog 56 [.d (findD x day held good)] (retD [.b (decide (x.state = 1) || (decide (x.expiry ≤ day) || !good))]) := by
  refine exPure_sound (E := envOf Tryd.prog tt Tryd.f56.ntmps) (envOf_ok ttok mixed) Tryd.func56 (by rfl) rfl rfl (Nat.le_of_ble_eq_true rfl) ?_
  repeat' ((conv => whnf); first | with_reducible refine Dec.t (show true = true from rfl) ?_ | with_reducible refine Dec.t (show false = false from rfl) ?_ | with_reducible refine Dec.f (show ¬ (true = false) by decide) ?_ | with_reducible refine Dec.f (show ¬ (false = true) by decide) ?_ | refine Dec.t (by omega) ?_ | refine Dec.f (by omega) ?_ | refine Dec.split (fun _ => ?_) (fun _ => ?_) | refine Wr.id (by omega) ?_ | refine Chk.mk (by first | omega | exact rfl | (simp only [List.length_map]; omega) | (simp [room]; done) | (simp [room]; omega) | (simp [dropL, room]; done) | (simp [dropL, room]; omega)) ?_ | refine Nam.mk (List.length_map _) ?_ | refine Prep.skip ?_ | refine chk_t (x := D.flat _) (by assumption) ?_ | refine br_mk (fun _ => ?_) (fun _ => ?_) | fail)
  all_goals (conv => whnf)
  all_goals exact leafD (by simp [*])

def stateM (w : AWorld) (lot day known : Int) (l : List Spec) (held : List Int) : Int × List Read × Int :=
  if specsOk l ∧ lotsOk held then
    (if (lotM w lot day known).ok = true then
      (if (lotM w lot day known).l.state = 3 then 3 else if (lotM w lot day known).l.state = 2 ∨ lot ∈ held then 2
        else if (lotM w lot day known).l.state = 1 ∨ (lotM w lot day known).l.expiry ≤ day ∨ (certF w lot day known l ⟨[], true, []⟩).good = false then 1 else 0,
       (lotM w lot day known).reads ++ (certF w lot day known l ⟨[], true, []⟩).reads, 0)
    else (3, (lotM w lot day known).reads, 0))
  else (0, [], 400)
theorem join1_le {rs : List Read} : VLes [.d (.sl 1 true [SL 5 (rs.map Read.d)])] [.d (SL 1 ([rs].map readsD))] := ⟨VLe.d (DLe.full _ _ _), rfl⟩
theorem quality_State (w : AWorld) (lot day known : Int) (l : List Spec) (held : List Int) (hl : l.length < 2 ^ 10) (hh : held.length < 2 ^ 40) (hf : w.facts.length < 2 ^ 40) :
    CallP Tryd.prog 19 [.d w.d, .d (I lot), .d (I day), .d (I known), .d (SL 3 (l.map Spec.d)), .d (SL 1 (held.map I))] (retD [I (stateM w lot day known l held).1, readsD (stateM w lot day known l held).2.1, I (stateM w lot day known l held).2.2]) := by
  refine exPure_sound (E := envOf Tryd.prog tt Tryd.f19.ntmps) (envOf_ok ttok mixed) Tryd.func19 (by rfl) rfl rfl (Nat.le_of_ble_eq_true rfl) ?_
  have hL := stock_Lot w lot day known hf
  have hC := quality_certify w lot day known l hl hf
  have hr1 := lotM_reads w lot day known
  have hr2 := certF_reads w lot day known l ⟨[], true, []⟩
  simp only [List.length_nil, Nat.zero_add] at hr2
  unfold stateM
  by_cases hs : specsOk l
  · by_cases hh2 : lotsOk held
    · rw [if_pos ⟨hs, hh2⟩]
      generalize lotM w lot day known = q at hL hr1
      obtain ⟨lt, rs, ok⟩ := q
      simp only [LotR.d] at hL hr1 ⊢
      cases ok with
      | false =>
        have hJ := quality_join [rs] (by simp) (by simp; omega)
        rw [show [rs].flatten = rs by simp] at hJ
        rw [if_neg (by simp)]
        repeat' ((conv => whnf); first | with_reducible refine Dec.t (show true = true from rfl) ?_ | with_reducible refine Dec.t (show false = false from rfl) ?_ | with_reducible refine Dec.f (show ¬ (true = false) by decide) ?_ | with_reducible refine Dec.f (show ¬ (false = true) by decide) ?_ | refine Dec.t (by omega) ?_ | refine Dec.f (by omega) ?_ | refine Dec.split (fun _ => ?_) (fun _ => ?_) | refine Wr.id (by omega) ?_ | refine Chk.mk (by first | omega | exact rfl | (simp only [List.length_map]; omega) | (simp [room]; done) | (simp [room]; omega) | (simp [dropL, room]; done) | (simp [dropL, room]; omega)) ?_ | refine Nam.mk (List.length_map _) ?_ | refine Prep.skip ?_ | refine chk_t (x := D.flat _) (by assumption) ?_ | refine br_mk (fun _ => ?_) (fun _ => ?_) | refine ACall.ofB (quality_validSpecs l (by omega)) (fun _ => ?_) (fun h => absurd hs (of_decide_eq_false h)) | refine ACall.ofB (quality_validLots held hh) (fun _ => ?_) (fun h => absurd hh2 (of_decide_eq_false h)) | refine ACall.of (hL) ?_ | refine APCall.of (hL) ?_ | refine ACall.le join1_le hJ ?_ | refine APCall.le join1_le hJ ?_ | fail)
        all_goals (conv => whnf)
        exact (by repeat (first | exact trivial | exact rfl | exact DLe.refl _ | exact DLe.full _ _ _ | exact DLe.nil _ _ _ | exact VLe.refl _ | refine And.intro ?_ ?_ | refine VLe.d ?_ | refine DLe.agg ?_))
      | true =>
        rw [if_pos rfl]
        generalize certF w lot day known l ⟨[], true, []⟩ = cc at hC hr2
        have hJ := quality_join [rs, cc.reads] (by simp) (by simp; omega)
        rw [show [rs, cc.reads].flatten = rs ++ cc.reads by simp] at hJ
        have h1 := quality_r1 lt day (decide (lot ∈ held)) cc.good
        have h2 := quality_r2 lt day (decide (lot ∈ held)) cc.good
        have h3 := quality_r3 lt day (decide (lot ∈ held)) cc.good
        by_cases a1 : lt.state = 3
        · rw [if_pos a1]
          rw [decide_eq_true a1] at h1
          repeat' ((conv => whnf); first | with_reducible refine Dec.t (show true = true from rfl) ?_ | with_reducible refine Dec.t (show false = false from rfl) ?_ | with_reducible refine Dec.f (show ¬ (true = false) by decide) ?_ | with_reducible refine Dec.f (show ¬ (false = true) by decide) ?_ | refine Dec.t (by omega) ?_ | refine Dec.f (by omega) ?_ | refine Dec.split (fun _ => ?_) (fun _ => ?_) | refine Wr.id (by omega) ?_ | refine Chk.mk (by first | omega | exact rfl | (simp only [List.length_map]; omega) | (simp [room]; done) | (simp [room]; omega) | (simp [dropL, room]; done) | (simp [dropL, room]; omega)) ?_ | refine Nam.mk (List.length_map _) ?_ | refine Prep.skip ?_ | refine chk_t (x := D.flat _) (by assumption) ?_ | refine br_mk (fun _ => ?_) (fun _ => ?_) | refine ACall.ofB (quality_validSpecs l (by omega)) (fun _ => ?_) (fun h => absurd hs (of_decide_eq_false h)) | refine ACall.ofB (quality_validLots held hh) (fun _ => ?_) (fun h => absurd hh2 (of_decide_eq_false h)) | refine ACall.of (hL) ?_ | refine APCall.of (hL) ?_ | refine ACall.of (hC) ?_ | refine APCall.of (hC) ?_ | refine ACall.le (join_le (.inr rfl) cc.reads) hJ ?_ | refine APCall.le (join_le (.inr rfl) cc.reads) hJ ?_ | refine ACall.of (slices_Contains_int held lot hh) ?_ | refine APCall.of (slices_Contains_int held lot hh) ?_ | refine ACall.of (quality_rules) ?_ | refine APCall.of (quality_rules) ?_ | refine Nam.mk (y := 3) rfl ?_ | refine ALoop.rounds 4 ?_ | refine ALoopN.step (E := (envOf Tryd.prog tt Tryd.f19.ntmps)) (envOf_ok ttok mixed) ?_ | refine ACall.of (h1) ?_ | refine APCall.of (h1) ?_ | fail)
          all_goals (conv => whnf)
          exact (by repeat (first | exact trivial | exact rfl | exact DLe.refl _ | exact DLe.full _ _ _ | exact DLe.nil _ _ _ | exact VLe.refl _ | refine And.intro ?_ ?_ | refine VLe.d ?_ | refine DLe.agg ?_))
        · rw [if_neg a1]
          rw [decide_eq_false a1] at h1
          by_cases a2 : lt.state = 2 ∨ lot ∈ held
          · rw [if_pos a2]
            rw [show (decide (lt.state = 2) || decide (lot ∈ held)) = true by simpa using a2] at h2
            repeat' ((conv => whnf); first | with_reducible refine Dec.t (show true = true from rfl) ?_ | with_reducible refine Dec.t (show false = false from rfl) ?_ | with_reducible refine Dec.f (show ¬ (true = false) by decide) ?_ | with_reducible refine Dec.f (show ¬ (false = true) by decide) ?_ | refine Dec.t (by omega) ?_ | refine Dec.f (by omega) ?_ | refine Dec.split (fun _ => ?_) (fun _ => ?_) | refine Wr.id (by omega) ?_ | refine Chk.mk (by first | omega | exact rfl | (simp only [List.length_map]; omega) | (simp [room]; done) | (simp [room]; omega) | (simp [dropL, room]; done) | (simp [dropL, room]; omega)) ?_ | refine Nam.mk (List.length_map _) ?_ | refine Prep.skip ?_ | refine chk_t (x := D.flat _) (by assumption) ?_ | refine br_mk (fun _ => ?_) (fun _ => ?_) | refine ACall.ofB (quality_validSpecs l (by omega)) (fun _ => ?_) (fun h => absurd hs (of_decide_eq_false h)) | refine ACall.ofB (quality_validLots held hh) (fun _ => ?_) (fun h => absurd hh2 (of_decide_eq_false h)) | refine ACall.of (hL) ?_ | refine APCall.of (hL) ?_ | refine ACall.of (hC) ?_ | refine APCall.of (hC) ?_ | refine ACall.le (join_le (.inr rfl) cc.reads) hJ ?_ | refine APCall.le (join_le (.inr rfl) cc.reads) hJ ?_ | refine ACall.of (slices_Contains_int held lot hh) ?_ | refine APCall.of (slices_Contains_int held lot hh) ?_ | refine ACall.of (quality_rules) ?_ | refine APCall.of (quality_rules) ?_ | refine Nam.mk (y := 3) rfl ?_ | refine ALoop.rounds 4 ?_ | refine ALoopN.step (E := (envOf Tryd.prog tt Tryd.f19.ntmps)) (envOf_ok ttok mixed) ?_ | refine ACall.of (h1) ?_ | refine APCall.of (h1) ?_ | refine ACall.of (h2) ?_ | refine APCall.of (h2) ?_ | fail)
            all_goals (conv => whnf)
            exact (by repeat (first | exact trivial | exact rfl | exact DLe.refl _ | exact DLe.full _ _ _ | exact DLe.nil _ _ _ | exact VLe.refl _ | refine And.intro ?_ ?_ | refine VLe.d ?_ | refine DLe.agg ?_))
          · rw [if_neg a2]
            rw [show (decide (lt.state = 2) || decide (lot ∈ held)) = false by simpa using a2] at h2
            by_cases a3 : lt.state = 1 ∨ lt.expiry ≤ day ∨ cc.good = false
            · rw [if_pos a3]
              rw [show (decide (lt.state = 1) || (decide (lt.expiry ≤ day) || !cc.good)) = true by simpa using a3] at h3
              repeat' ((conv => whnf); first | with_reducible refine Dec.t (show true = true from rfl) ?_ | with_reducible refine Dec.t (show false = false from rfl) ?_ | with_reducible refine Dec.f (show ¬ (true = false) by decide) ?_ | with_reducible refine Dec.f (show ¬ (false = true) by decide) ?_ | refine Dec.t (by omega) ?_ | refine Dec.f (by omega) ?_ | refine Dec.split (fun _ => ?_) (fun _ => ?_) | refine Wr.id (by omega) ?_ | refine Chk.mk (by first | omega | exact rfl | (simp only [List.length_map]; omega) | (simp [room]; done) | (simp [room]; omega) | (simp [dropL, room]; done) | (simp [dropL, room]; omega)) ?_ | refine Nam.mk (List.length_map _) ?_ | refine Prep.skip ?_ | refine chk_t (x := D.flat _) (by assumption) ?_ | refine br_mk (fun _ => ?_) (fun _ => ?_) | refine ACall.ofB (quality_validSpecs l (by omega)) (fun _ => ?_) (fun h => absurd hs (of_decide_eq_false h)) | refine ACall.ofB (quality_validLots held hh) (fun _ => ?_) (fun h => absurd hh2 (of_decide_eq_false h)) | refine ACall.of (hL) ?_ | refine APCall.of (hL) ?_ | refine ACall.of (hC) ?_ | refine APCall.of (hC) ?_ | refine ACall.le (join_le (.inr rfl) cc.reads) hJ ?_ | refine APCall.le (join_le (.inr rfl) cc.reads) hJ ?_ | refine ACall.of (slices_Contains_int held lot hh) ?_ | refine APCall.of (slices_Contains_int held lot hh) ?_ | refine ACall.of (quality_rules) ?_ | refine APCall.of (quality_rules) ?_ | refine Nam.mk (y := 3) rfl ?_ | refine ALoop.rounds 4 ?_ | refine ALoopN.step (E := (envOf Tryd.prog tt Tryd.f19.ntmps)) (envOf_ok ttok mixed) ?_ | refine ACall.of (h1) ?_ | refine APCall.of (h1) ?_ | refine ACall.of (h2) ?_ | refine APCall.of (h2) ?_ | refine ACall.of (h3) ?_ | refine APCall.of (h3) ?_ | fail)
              all_goals (conv => whnf)
              exact (by repeat (first | exact trivial | exact rfl | exact DLe.refl _ | exact DLe.full _ _ _ | exact DLe.nil _ _ _ | exact VLe.refl _ | refine And.intro ?_ ?_ | refine VLe.d ?_ | refine DLe.agg ?_))
            · rw [if_neg a3]
              rw [show (decide (lt.state = 1) || (decide (lt.expiry ≤ day) || !cc.good)) = false by simpa using a3] at h3
              repeat' ((conv => whnf); first | with_reducible refine Dec.t (show true = true from rfl) ?_ | with_reducible refine Dec.t (show false = false from rfl) ?_ | with_reducible refine Dec.f (show ¬ (true = false) by decide) ?_ | with_reducible refine Dec.f (show ¬ (false = true) by decide) ?_ | refine Dec.t (by omega) ?_ | refine Dec.f (by omega) ?_ | refine Dec.split (fun _ => ?_) (fun _ => ?_) | refine Wr.id (by omega) ?_ | refine Chk.mk (by first | omega | exact rfl | (simp only [List.length_map]; omega) | (simp [room]; done) | (simp [room]; omega) | (simp [dropL, room]; done) | (simp [dropL, room]; omega)) ?_ | refine Nam.mk (List.length_map _) ?_ | refine Prep.skip ?_ | refine chk_t (x := D.flat _) (by assumption) ?_ | refine br_mk (fun _ => ?_) (fun _ => ?_) | refine ACall.ofB (quality_validSpecs l (by omega)) (fun _ => ?_) (fun h => absurd hs (of_decide_eq_false h)) | refine ACall.ofB (quality_validLots held hh) (fun _ => ?_) (fun h => absurd hh2 (of_decide_eq_false h)) | refine ACall.of (hL) ?_ | refine APCall.of (hL) ?_ | refine ACall.of (hC) ?_ | refine APCall.of (hC) ?_ | refine ACall.le (join_le (.inr rfl) cc.reads) hJ ?_ | refine APCall.le (join_le (.inr rfl) cc.reads) hJ ?_ | refine ACall.of (slices_Contains_int held lot hh) ?_ | refine APCall.of (slices_Contains_int held lot hh) ?_ | refine ACall.of (quality_rules) ?_ | refine APCall.of (quality_rules) ?_ | refine Nam.mk (y := 3) rfl ?_ | refine ALoop.rounds 4 ?_ | refine ALoopN.step (E := (envOf Tryd.prog tt Tryd.f19.ntmps)) (envOf_ok ttok mixed) ?_ | refine ACall.of (h1) ?_ | refine APCall.of (h1) ?_ | refine ACall.of (h2) ?_ | refine APCall.of (h2) ?_ | refine ACall.of (h3) ?_ | refine APCall.of (h3) ?_ | fail)
              all_goals (conv => whnf)
              exact (by repeat (first | exact trivial | exact rfl | exact DLe.refl _ | exact DLe.full _ _ _ | exact DLe.nil _ _ _ | exact VLe.refl _ | refine And.intro ?_ ?_ | refine VLe.d ?_ | refine DLe.agg ?_))
    · rw [if_neg (fun h => hh2 h.2)]
      repeat' ((conv => whnf); first | with_reducible refine Dec.t (show true = true from rfl) ?_ | with_reducible refine Dec.t (show false = false from rfl) ?_ | with_reducible refine Dec.f (show ¬ (true = false) by decide) ?_ | with_reducible refine Dec.f (show ¬ (false = true) by decide) ?_ | refine Dec.t (by omega) ?_ | refine Dec.f (by omega) ?_ | refine Dec.split (fun _ => ?_) (fun _ => ?_) | refine Wr.id (by omega) ?_ | refine Chk.mk (by first | omega | exact rfl | (simp only [List.length_map]; omega) | (simp [room]; done) | (simp [room]; omega) | (simp [dropL, room]; done) | (simp [dropL, room]; omega)) ?_ | refine Nam.mk (List.length_map _) ?_ | refine Prep.skip ?_ | refine chk_t (x := D.flat _) (by assumption) ?_ | refine br_mk (fun _ => ?_) (fun _ => ?_) | refine ACall.ofB (quality_validSpecs l (by omega)) (fun _ => ?_) (fun h => absurd hs (of_decide_eq_false h)) | refine ACall.ofB (quality_validLots held hh) (fun h => absurd (of_decide_eq_true h) hh2) (fun _ => ?_) | fail)
      all_goals (conv => whnf)
      exact (by repeat (first | exact trivial | exact rfl | exact DLe.refl _ | exact DLe.full _ _ _ | exact DLe.nil _ _ _ | exact VLe.refl _ | refine And.intro ?_ ?_ | refine VLe.d ?_ | refine DLe.agg ?_))
  · rw [if_neg (fun h => hs h.1)]
    repeat' ((conv => whnf); first | with_reducible refine Dec.t (show true = true from rfl) ?_ | with_reducible refine Dec.t (show false = false from rfl) ?_ | with_reducible refine Dec.f (show ¬ (true = false) by decide) ?_ | with_reducible refine Dec.f (show ¬ (false = true) by decide) ?_ | refine Dec.t (by omega) ?_ | refine Dec.f (by omega) ?_ | refine Dec.split (fun _ => ?_) (fun _ => ?_) | refine Wr.id (by omega) ?_ | refine Chk.mk (by first | omega | exact rfl | (simp only [List.length_map]; omega) | (simp [room]; done) | (simp [room]; omega) | (simp [dropL, room]; done) | (simp [dropL, room]; omega)) ?_ | refine Nam.mk (List.length_map _) ?_ | refine Prep.skip ?_ | refine chk_t (x := D.flat _) (by assumption) ?_ | refine br_mk (fun _ => ?_) (fun _ => ?_) | refine ACall.ofB (quality_validSpecs l (by omega)) (fun h => absurd (of_decide_eq_true h) hs) (fun _ => ?_) | fail)
    all_goals (conv => whnf)
    exact (by repeat (first | exact trivial | exact rfl | exact DLe.refl _ | exact DLe.full _ _ _ | exact DLe.nil _ _ _ | exact VLe.refl _ | refine And.intro ?_ ?_ | refine VLe.d ?_ | refine DLe.agg ?_))
structure Cert where
  lot : Int
  res : List Pt
  good : Bool
  deriving DecidableEq
def Cert.d (c : Cert) : D := .agg [I c.lot, SL 2 (c.res.map Pt.d), .b c.good]
def checkCM (w : AWorld) (c : Cert) (day known : Int) (l : List Spec) : Bool × Int :=
  if specsOk l ∧ (lotM w c.lot day known).ok = true then (decide (c.good = (certF w c.lot day known l ⟨[], true, []⟩).good ∧ c.res = (certF w c.lot day known l ⟨[], true, []⟩).res), 0) else (false, 400)
theorem certF_res (w : AWorld) (lot day known : Int) : ∀ (l : List Spec) (c : CertR), (certF w lot day known l c).res.length ≤ c.res.length + l.length
  | [], c => by simp [certF]
  | s :: l, c => by
    have h1 := certF_res w lot day known l (certStep w lot day known c s)
    have h3 : (certStep w lot day known c s).res.length ≤ c.res.length + 1 := by unfold certStep; simp only; split <;> simp
    unfold certF at h1 ⊢
    simp only [List.foldl_cons, List.length_cons]; omega
theorem quality_Check (w : AWorld) (c : Cert) (day known : Int) (l : List Spec) (hl : l.length < 2 ^ 10) (hf : w.facts.length < 2 ^ 40) :
    CallP Tryd.prog 17 [.d w.d, .d c.d, .d (I day), .d (I known), .d (SL 3 (l.map Spec.d))] (retD [.b (checkCM w c day known l).1, I (checkCM w c day known l).2]) := by
  refine exPure_sound (E := envOf Tryd.prog tt Tryd.f17.ntmps) (envOf_ok ttok mixed) Tryd.func17 (by rfl) rfl rfl (Nat.le_of_ble_eq_true rfl) ?_
  have hC := quality_Certify w c.lot day known l hl hf
  have hr := certF_res w c.lot day known l ⟨[], true, []⟩
  simp only [List.length_nil, Nat.zero_add] at hr
  unfold checkCM
  unfold certifyM at hC
  by_cases hs : specsOk l ∧ (lotM w c.lot day known).ok = true
  · rw [if_pos hs] at hC ⊢
    generalize certF w c.lot day known l ⟨[], true, []⟩ = cc at hC hr
    simp only [CertM.d, certD] at hC
    repeat' ((conv => whnf); first | with_reducible refine Dec.t (show true = true from rfl) ?_ | with_reducible refine Dec.t (show false = false from rfl) ?_ | with_reducible refine Dec.f (show ¬ (true = false) by decide) ?_ | with_reducible refine Dec.f (show ¬ (false = true) by decide) ?_ | refine Dec.t (by omega) ?_ | refine Dec.f (by omega) ?_ | refine Dec.split (fun _ => ?_) (fun _ => ?_) | refine Wr.id (by omega) ?_ | refine Chk.mk (by first | omega | exact rfl | (simp only [List.length_map]; omega) | (simp [room]; done) | (simp [room]; omega) | (simp [dropL, room]; done) | (simp [dropL, room]; omega)) ?_ | refine Nam.mk (List.length_map _) ?_ | refine Prep.skip ?_ | refine chk_t (x := D.flat _) (by assumption) ?_ | refine br_mk (fun _ => ?_) (fun _ => ?_) | refine ACall.of (hC) ?_ | refine APCall.of (hC) ?_ | refine ACall.ofB (quality_sameList cc.res c.res (by omega)) (fun _ => ?_) (fun _ => ?_) | refine APCall.ofB (quality_sameList cc.res c.res (by omega)) (fun _ => ?_) (fun _ => ?_) | fail)
    all_goals (conv => whnf)
    all_goals try simp only [decide_eq_true_eq, decide_eq_false_iff_not] at *
    all_goals first
      | exact ⟨leafD (decide_eq_true ⟨Eq.symm (by assumption), Eq.symm (by assumption)⟩).symm, DLe.refl _, rfl⟩
      | exact ⟨leafD (decide_eq_false (fun h => by first | exact absurd h.1.symm (by assumption) | exact absurd h.2.symm (by assumption))).symm, DLe.refl _, rfl⟩
  · rw [if_neg hs] at hC ⊢
    simp only [CertM.d] at hC
    repeat' ((conv => whnf); first | with_reducible refine Dec.t (show true = true from rfl) ?_ | with_reducible refine Dec.t (show false = false from rfl) ?_ | with_reducible refine Dec.f (show ¬ (true = false) by decide) ?_ | with_reducible refine Dec.f (show ¬ (false = true) by decide) ?_ | refine Dec.t (by omega) ?_ | refine Dec.f (by omega) ?_ | refine Dec.split (fun _ => ?_) (fun _ => ?_) | refine Wr.id (by omega) ?_ | refine Chk.mk (by first | omega | exact rfl | (simp only [List.length_map]; omega) | (simp [room]; done) | (simp [room]; omega) | (simp [dropL, room]; done) | (simp [dropL, room]; omega)) ?_ | refine Nam.mk (List.length_map _) ?_ | refine Prep.skip ?_ | refine chk_t (x := D.flat _) (by assumption) ?_ | refine br_mk (fun _ => ?_) (fun _ => ?_) | refine ACall.of (hC) ?_ | refine APCall.of (hC) ?_ | fail)
    all_goals (conv => whnf)
    exact (by repeat (first | exact trivial | exact rfl | exact DLe.refl _ | exact DLe.full _ _ _ | exact DLe.nil _ _ _ | exact VLe.refl _ | refine And.intro ?_ ?_ | refine VLe.d ?_ | refine DLe.agg ?_))
end Go.PM

