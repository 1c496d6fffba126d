/- The reference of package orders: many, order, Order. -/
import Derived.Test.YtghlkcnmocgkaaaO19g
namespace Go.PM
open Go.Proofs
set_option maxRecDepth 10000
set_option maxHeartbeats 4000000

def headO (ob : Int) : Key := ⟨0, 0, ob⟩
def manyM (l : List Fact) (ob day known : Int) : Int := match atM l (headO ob) day known with
  | none => 0
  | some n => if 1024 < n then 1024 else n
def manyR (l : List Fact) (ob day known : Int) : Int := if dayM day then manyM l ob day known else 0
theorem atM_nonneg {l : List Fact} {k : Key} {day known n : Int} (h : atM l k day known = some n) : 0 ≤ n := by
  unfold atM valOf at h
  split at h
  · cases h
  · split at h
    · cases h
    · cases h; omega

theorem ref19_Head (ob : Int) : CallP Try.prog 32 [.d (I ob)] (retD [(headO ob).d]) := by
  refine exPure_sound (E := envOf Try.prog tt Try.f32.ntmps) (envOf_ok ttok mixed) Try.func32 (by rfl) rfl rfl (Nat.le_of_ble_eq_true rfl) ?_
  repeat' ((conv => whnf); first | with_reducible refine Dec.t (show true = true from rfl) ?_ | with_reducible refine Dec.t (show false = false from rfl) ?_ | with_reducible refine Dec.f (show ¬ (true = false) by decide) ?_ | with_reducible refine Dec.f (show ¬ (false = true) by decide) ?_ | refine Dec.t (by omega) ?_ | refine Dec.f (by omega) ?_ | refine Dec.split (fun _ => ?_) (fun _ => ?_) | refine Wr.id (by omega) ?_ | refine Chk.mk (by first | omega | exact rfl | (simp only [List.length_map]; omega) | (simp [room]; done) | (simp [room]; omega) | (simp [dropL, room]; done) | (simp [dropL, room]; omega)) ?_ | refine Nam.mk (List.length_map _) ?_ | refine Prep.skip ?_ | refine Eith.l ?_ | refine chk_t (x := D.flat _) (by assumption) ?_ | refine br_mk (fun _ => ?_) (fun _ => ?_) | fail)
  all_goals (conv => whnf)
  exact (by repeat (first | exact trivial | exact rfl | exact DLe.refl _ | exact DLe.full _ _ _ | exact DLe.nil _ _ _ | exact VLe.refl _ | refine And.intro ?_ ?_ | refine VLe.d ?_ | refine DLe.agg ?_))
theorem ref19_many (w : OWorld) (ob day known : Int) (hl : w.facts.length < 2 ^ 40) : CallP Try.prog 33 [.d w.d, .d (I ob), .d (I day), .d (I known)] (retD [I (manyR w.facts ob day known)]) := by
  refine exPure_sound (E := envOf Try.prog tt Try.f33.ntmps) (envOf_ok ttok mixed) Try.func33 (by rfl) rfl rfl (Nat.le_of_ble_eq_true rfl) ?_
  have hH := ref04_At w.facts (headO ob) day known hl
  by_cases hd : dayM day
  · rw [show manyR w.facts ob day known = manyM w.facts ob day known from if_pos hd]
    rcases opt_cases (atM w.facts (headO ob) day known) with h0 | ⟨n, h0⟩
    · rw [h0] at hH
      rw [show manyM w.facts ob day known = 0 by unfold manyM; rw [h0]]
      simp only [Option.getD_none, Option.isSome_none] at hH
      repeat' ((conv => whnf); first | with_reducible refine Dec.t (show true = true from rfl) ?_ | with_reducible refine Dec.t (show false = false from rfl) ?_ | with_reducible refine Dec.f (show ¬ (true = false) by decide) ?_ | with_reducible refine Dec.f (show ¬ (false = true) by decide) ?_ | refine Dec.t (by omega) ?_ | refine Dec.f (by omega) ?_ | refine Dec.split (fun _ => ?_) (fun _ => ?_) | refine Wr.id (by omega) ?_ | refine Chk.mk (by first | omega | exact rfl | (simp only [List.length_map]; omega) | (simp [room]; done) | (simp [room]; omega) | (simp [dropL, room]; done) | (simp [dropL, room]; omega)) ?_ | refine Nam.mk (List.length_map _) ?_ | refine Prep.skip ?_ | refine Eith.l ?_ | refine chk_t (x := D.flat _) (by assumption) ?_ | refine br_mk (fun _ => ?_) (fun _ => ?_) | refine ACall.ofB (ref19_Day day) (fun _ => ?_) (fun h => absurd hd (of_decide_eq_false h)) | refine ACall.of (ref19_Head ob) ?_ | refine APCall.of (ref19_Head ob) ?_ | refine ACall.of (hH) ?_ | refine APCall.of (hH) ?_ | fail)
      all_goals (conv => whnf)
      all_goals exact (by repeat (first | exact trivial | exact rfl | exact DLe.refl _ | exact DLe.full _ _ _ | exact DLe.nil _ _ _ | exact VLe.refl _ | refine And.intro ?_ ?_ | refine VLe.d ?_ | refine DLe.agg ?_))
    · rw [h0] at hH
      have hn := atM_nonneg h0
      rw [show manyM w.facts ob day known = if 1024 < n then 1024 else n by unfold manyM; rw [h0]]
      simp only [Option.getD_some, Option.isSome_some] at hH
      repeat' ((conv => whnf); first | with_reducible refine Dec.t (show true = true from rfl) ?_ | with_reducible refine Dec.t (show false = false from rfl) ?_ | with_reducible refine Dec.f (show ¬ (true = false) by decide) ?_ | with_reducible refine Dec.f (show ¬ (false = true) by decide) ?_ | refine Dec.t (by omega) ?_ | refine Dec.f (by omega) ?_ | refine Dec.split (fun _ => ?_) (fun _ => ?_) | refine Wr.id (by omega) ?_ | refine Chk.mk (by first | omega | exact rfl | (simp only [List.length_map]; omega) | (simp [room]; done) | (simp [room]; omega) | (simp [dropL, room]; done) | (simp [dropL, room]; omega)) ?_ | refine Nam.mk (List.length_map _) ?_ | refine Prep.skip ?_ | refine Eith.l ?_ | refine chk_t (x := D.flat _) (by assumption) ?_ | refine br_mk (fun _ => ?_) (fun _ => ?_) | refine ACall.ofB (ref19_Day day) (fun _ => ?_) (fun h => absurd hd (of_decide_eq_false h)) | refine ACall.of (ref19_Head ob) ?_ | refine APCall.of (ref19_Head ob) ?_ | refine ACall.of (hH) ?_ | refine APCall.of (hH) ?_ | fail)
      all_goals (conv => whnf)
      rw [if_neg (show ¬ 0 > n by omega)]
      exact (by repeat (first | exact trivial | exact rfl | exact DLe.refl _ | exact DLe.full _ _ _ | exact DLe.nil _ _ _ | exact VLe.refl _ | refine And.intro ?_ ?_ | refine VLe.d ?_ | refine DLe.agg ?_))
  · rw [show manyR w.facts ob day known = 0 from if_neg hd]
    repeat' ((conv => whnf); first | with_reducible refine Dec.t (show true = true from rfl) ?_ | with_reducible refine Dec.t (show false = false from rfl) ?_ | with_reducible refine Dec.f (show ¬ (true = false) by decide) ?_ | with_reducible refine Dec.f (show ¬ (false = true) by decide) ?_ | refine Dec.t (by omega) ?_ | refine Dec.f (by omega) ?_ | refine Dec.split (fun _ => ?_) (fun _ => ?_) | refine Wr.id (by omega) ?_ | refine Chk.mk (by first | omega | exact rfl | (simp only [List.length_map]; omega) | (simp [room]; done) | (simp [room]; omega) | (simp [dropL, room]; done) | (simp [dropL, room]; omega)) ?_ | refine Nam.mk (List.length_map _) ?_ | refine Prep.skip ?_ | refine Eith.l ?_ | refine chk_t (x := D.flat _) (by assumption) ?_ | refine br_mk (fun _ => ?_) (fun _ => ?_) | refine ACall.ofB (ref19_Day day) (fun h => absurd (of_decide_eq_true h) hd) (fun _ => ?_) | fail)
    all_goals (conv => whnf)
    all_goals exact (by repeat (first | exact trivial | exact rfl | exact DLe.refl _ | exact DLe.full _ _ _ | exact DLe.nil _ _ _ | exact VLe.refl _ | refine And.intro ?_ ?_ | refine VLe.d ?_ | refine DLe.agg ?_))

structure OrdR where
  l : Ord
  reads : List Read
  ok : Bool
def OrdR.d (r : OrdR) : V := retD [r.l.d, SL 5 (r.reads.map Read.d), .b r.ok]
def ordOf (no : Int) : List Int → Ord
  | [a, b, c, d, e, f, g] => ⟨no, a, b, c, d, e, f, g⟩
  | _ => Ord.zero
def findM (w : OWorld) (no day known : Int) : OrdR :=
  if (valsM w.facts 2 no day known 0 7).length = 7 ∧ (ordOf no (valsM w.facts 2 no day known 0 7)).right w.src then ⟨ordOf no (valsM w.facts 2 no day known 0 7), frdsM w.facts 2 no day known 0 7, true⟩
  else ⟨Ord.zero, frdsM w.facts 2 no day known 0 7, false⟩
theorem valsM_len (f : List Fact) (kind no day known : Int) : ∀ (k i : Nat), (valsM f kind no day known i k).length ≤ k
  | 0, _ => Nat.le_refl _
  | k + 1, i => by
    rw [valsM]
    split
    · simp
    · simp only [List.length_cons]; have := valsM_len f kind no day known k (i + 1); omega

theorem len7 {l : List Int} (h : l.length = 7) : ∃ a b c d e f g, l = [a, b, c, d, e, f, g] := by
  match l, h with
  | [a, b, c, d, e, f, g], _ => exact ⟨a, b, c, d, e, f, g, rfl⟩

theorem ref19_order (w : OWorld) (no day known : Int) (hl : w.facts.length < 2 ^ 40) (hf : w.src.few) (hw : w.src.wide) (hd : dayM day) :
    CallP Try.prog 34 [.d w.d, .d (I no), .d (I day), .d (I known)] (findM w no day known).d := by
  have hF := ref19_fields w 2 no day known 7 (by omega) hl hd.2 hd.1
  have hlen := valsM_len w.facts 2 no day known 7 0
  unfold findM
  generalize frdsM w.facts 2 no day known 0 7 = rs at hF
  by_cases h7 : (valsM w.facts 2 no day known 0 7).length = 7
  · obtain ⟨a, b, c, d, e, f, g, hv⟩ := len7 h7
    rw [hv] at hF ⊢
    have hR := ref19_Right w.src ⟨no, a, b, c, d, e, f, g⟩ hf hw
    by_cases hr : Ord.right w.src ⟨no, a, b, c, d, e, f, g⟩
    · rw [if_pos ⟨rfl, hr⟩]
      refine exPure_sound (E := envOf Try.prog tt Try.f34.ntmps) (envOf_ok ttok mixed) Try.func34 (by rfl) rfl rfl (Nat.le_of_ble_eq_true rfl) ?_
      repeat' ((conv => whnf); first | refine Nam.mk (y := 7) rfl ?_ | with_reducible refine Dec.t (show true = true from rfl) ?_ | with_reducible refine Dec.t (show false = false from rfl) ?_ | with_reducible refine Dec.f (show ¬ (true = false) by decide) ?_ | with_reducible refine Dec.f (show ¬ (false = true) by decide) ?_ | refine Dec.t (by omega) ?_ | refine Dec.f (by omega) ?_ | refine Dec.split (fun _ => ?_) (fun _ => ?_) | refine Wr.id (by omega) ?_ | refine Chk.mk (by first | omega | exact rfl | (simp only [List.length_map]; omega) | (simp [room]; done) | (simp [room]; omega) | (simp [dropL, room]; done) | (simp [dropL, room]; omega)) ?_ | refine Nam.mk (List.length_map _) ?_ | refine Prep.skip ?_ | refine Eith.l ?_ | refine chk_t (x := D.flat _) (by assumption) ?_ | refine br_mk (fun _ => ?_) (fun _ => ?_) | refine ACall.of (hF) ?_ | refine APCall.of (hF) ?_ | refine ACall.ofB hR (fun _ => ?_) (fun h => absurd hr (of_decide_eq_false h)) | fail)
      all_goals (conv => whnf)
      all_goals exact (by repeat (first | exact trivial | exact rfl | exact DLe.refl _ | exact DLe.full _ _ _ | exact DLe.nil _ _ _ | exact VLe.refl _ | refine And.intro ?_ ?_ | refine VLe.d ?_ | refine DLe.agg ?_))
    · rw [if_neg (fun h => hr h.2)]
      refine exPure_sound (E := envOf Try.prog tt Try.f34.ntmps) (envOf_ok ttok mixed) Try.func34 (by rfl) rfl rfl (Nat.le_of_ble_eq_true rfl) ?_
      repeat' ((conv => whnf); first | refine Nam.mk (y := 7) rfl ?_ | with_reducible refine Dec.t (show true = true from rfl) ?_ | with_reducible refine Dec.t (show false = false from rfl) ?_ | with_reducible refine Dec.f (show ¬ (true = false) by decide) ?_ | with_reducible refine Dec.f (show ¬ (false = true) by decide) ?_ | refine Dec.t (by omega) ?_ | refine Dec.f (by omega) ?_ | refine Dec.split (fun _ => ?_) (fun _ => ?_) | refine Wr.id (by omega) ?_ | refine Chk.mk (by first | omega | exact rfl | (simp only [List.length_map]; omega) | (simp [room]; done) | (simp [room]; omega) | (simp [dropL, room]; done) | (simp [dropL, room]; omega)) ?_ | refine Nam.mk (List.length_map _) ?_ | refine Prep.skip ?_ | refine Eith.l ?_ | refine chk_t (x := D.flat _) (by assumption) ?_ | refine br_mk (fun _ => ?_) (fun _ => ?_) | refine ACall.of (hF) ?_ | refine APCall.of (hF) ?_ | refine ACall.ofB hR (fun h => absurd (of_decide_eq_true h) hr) (fun _ => ?_) | fail)
      all_goals (conv => whnf)
      all_goals exact (by repeat (first | exact trivial | exact rfl | exact DLe.refl _ | exact DLe.full _ _ _ | exact DLe.nil _ _ _ | exact VLe.refl _ | refine And.intro ?_ ?_ | refine VLe.d ?_ | refine DLe.agg ?_))
  · rw [if_neg (fun h => h7 h.1)]
    refine exPure_sound (E := envOf Try.prog tt Try.f34.ntmps) (envOf_ok ttok mixed) Try.func34 (by rfl) rfl rfl (Nat.le_of_ble_eq_true rfl) ?_
    repeat' ((conv => whnf); first | with_reducible refine Dec.t (show true = true from rfl) ?_ | with_reducible refine Dec.t (show false = false from rfl) ?_ | with_reducible refine Dec.f (show ¬ (true = false) by decide) ?_ | with_reducible refine Dec.f (show ¬ (false = true) by decide) ?_ | refine Dec.t (by omega) ?_ | refine Dec.f (by omega) ?_ | refine Dec.split (fun _ => ?_) (fun _ => ?_) | refine Wr.id (by omega) ?_ | refine Chk.mk (by first | omega | exact rfl | (simp only [List.length_map]; omega) | (simp [room]; done) | (simp [room]; omega) | (simp [dropL, room]; done) | (simp [dropL, room]; omega)) ?_ | refine Nam.mk (List.length_map _) ?_ | refine Prep.skip ?_ | refine Eith.l ?_ | refine chk_t (x := D.flat _) (by assumption) ?_ | refine br_mk (fun _ => ?_) (fun _ => ?_) | refine ACall.of (hF) ?_ | refine APCall.of (hF) ?_ | fail)
    all_goals (conv => whnf)
    all_goals exact (by repeat (first | exact trivial | exact rfl | exact DLe.refl _ | exact DLe.full _ _ _ | exact DLe.nil _ _ _ | exact VLe.refl _ | refine And.intro ?_ ?_ | refine VLe.d ?_ | refine DLe.agg ?_))

theorem frdsM_len (f : List Fact) (kind no day known : Int) : ∀ (k i : Nat), (frdsM f kind no day known i k).length ≤ k
  | 0, _ => Nat.le_refl _
  | k + 1, i => by
    rw [frdsM]
    split
    · simp
    · simp only [List.length_cons]; have := frdsM_len f kind no day known k (i + 1); omega
theorem findM_reads (w : OWorld) (no day known : Int) : (findM w no day known).reads.length ≤ 7 := by
  have := frdsM_len w.facts 2 no day known 7 0
  unfold findM
  split <;> exact this
theorem findM_ne (w : OWorld) (no day known : Int) : (findM w no day known).reads ≠ [] := by
  unfold findM
  split <;> simp [frdsM]
def orderM (w : OWorld) (no day known : Int) : OrdR :=
  if dayM day then
    (if 0 ≤ no ∧ no < manyM w.facts 1 day known then ⟨(findM w no day known).l, rdOf (headO 1) day :: (findM w no day known).reads, (findM w no day known).ok⟩ else ⟨Ord.zero, [rdOf (headO 1) day], false⟩)
  else ⟨Ord.zero, [], false⟩
def ordersF (w : OWorld) (day known : Int) (n : Nat) : List Ord := (List.range n).filterMap fun (i : Nat) => if (findM w i day known).ok then some (findM w i day known).l else none
def readsF (w : OWorld) (day known : Int) (n : Nat) : List Read := (List.range n).flatMap fun (i : Nat) => (findM w i day known).reads
theorem ordersF_succ (w : OWorld) (day known : Int) (n : Nat) : ordersF w day known (n + 1) = ordersF w day known n ++ (if (findM w n day known).ok then [(findM w n day known).l] else []) := by
  unfold ordersF
  rw [List.range_succ, List.filterMap_append]
  congr 1
  cases h : (findM w n day known).ok <;> simp [h]
theorem readsF_succ (w : OWorld) (day known : Int) (n : Nat) : readsF w day known (n + 1) = readsF w day known n ++ (findM w n day known).reads := by
  unfold readsF
  rw [List.range_succ, List.flatMap_append]; simp
def ordersM (w : OWorld) (day known : Int) : List Ord × List Read :=
  if dayM day then (ordersF w day known (manyM w.facts 1 day known).toNat, rdOf (headO 1) day :: readsF w day known (manyM w.facts 1 day known).toNat) else ([], [])
structure XLots where
  i : Nat
  vr : Nat
  lr : Nat
  ds : List D
  v2 : Nat
  l2 : Nat
  dr : List D

end Go.PM

