/- The reference of layer 18: Lot. -/
import Derived.Test.YtbmnckaajofjmaaDoorR04
import Derived.Test.YtbmnckaajofjmaaDoorStockLot
namespace Go.PM
open Go.Proofs
set_option maxRecDepth 10000
set_option maxHeartbeats 2000000

theorem atM_nonneg {l : List Fact} {k : Key} {d t n : Int} (h : atM l k d t = some n) : 0 ≤ n := by
  unfold atM at h
  rw [valOf_vOf] at h
  split at h
  · rename_i h0; cases h; exact h0
  · cases h
theorem findM_reads (l : List Fact) (no day known : Int) : (findM l no day known).reads.length ≤ 5 := by
  unfold findM
  repeat' split
  all_goals simp
theorem lotM_reads (w : AWorld) (no day known : Int) : (lotM w no day known).reads.length ≤ 6 := by
  unfold lotM
  have := findM_reads w.facts no day known
  repeat' split
  all_goals simp
  all_goals omega
theorem ref18_Day (n : Int) : CallP Tryd.prog 31 [.d (I n)] (retD [.b (decide (0 ≤ n ∧ n < 1024))]) := by
  refine exPure_sound (E := envOf Tryd.prog tt Tryd.f31.ntmps) (envOf_ok ttok mixed) Tryd.func31 (by rfl) rfl rfl (Nat.le_of_ble_eq_true rfl) ?_
  repeat' ((conv => whnf); first | with_reducible refine Dec.t (show true = true from rfl) ?_ | with_reducible refine Dec.t (show false = false from rfl) ?_ | with_reducible refine Dec.f (show ¬ (true = false) by decide) ?_ | with_reducible refine Dec.f (show ¬ (false = true) by decide) ?_ | refine Dec.t (by omega) ?_ | refine Dec.f (by omega) ?_ | refine Dec.split (fun _ => ?_) (fun _ => ?_) | refine Wr.id (by omega) ?_ | refine Chk.mk (by first | omega | exact rfl | (simp only [List.length_map]; omega) | (simp [room]; done) | (simp [room]; omega) | (simp [dropL, room]; done) | (simp [dropL, room]; omega)) ?_ | refine Nam.mk (List.length_map _) ?_ | refine Prep.skip ?_ | refine Eith.l ?_ | refine chk_t (x := D.flat _) (by assumption) ?_ | refine br_mk (fun _ => ?_) (fun _ => ?_) | fail)
  all_goals (conv => whnf)
  all_goals first | (rw [decide_eq_true (by omega)]; exact DLe.refl _) | (rw [decide_eq_false (by omega)]; exact DLe.refl _)
theorem ref18_head : CallP Tryd.prog 32 [] (retD [headK.d]) := by
  refine exPure_sound (E := envOf Tryd.prog tt Tryd.f32.ntmps) (envOf_ok ttok mixed) Tryd.func32 (by rfl) rfl rfl (Nat.le_of_ble_eq_true rfl) ?_
  repeat' ((conv => whnf); first | with_reducible refine Dec.t (show true = true from rfl) ?_ | with_reducible refine Dec.t (show false = false from rfl) ?_ | with_reducible refine Dec.f (show ¬ (true = false) by decide) ?_ | with_reducible refine Dec.f (show ¬ (false = true) by decide) ?_ | refine Dec.t (by omega) ?_ | refine Dec.f (by omega) ?_ | refine Dec.split (fun _ => ?_) (fun _ => ?_) | refine Wr.id (by omega) ?_ | refine Chk.mk (by first | omega | exact rfl | (simp only [List.length_map]; omega) | (simp [room]; done) | (simp [room]; omega) | (simp [dropL, room]; done) | (simp [dropL, room]; omega)) ?_ | refine Nam.mk (List.length_map _) ?_ | refine Prep.skip ?_ | refine Eith.l ?_ | refine chk_t (x := D.flat _) (by assumption) ?_ | refine br_mk (fun _ => ?_) (fun _ => ?_) | fail)
  all_goals (conv => whnf)
  exact DLe.refl _
def manyR (l : List Fact) (day known : Int) : Int := if 0 ≤ day ∧ day < 1024 then manyM l day known else 0
theorem ref18_many (w : AWorld) (day known : Int) (hf : w.facts.length < 2 ^ 40) : CallP Tryd.prog 33 [.d w.d, .d (I day), .d (I known)] (retD [I (manyR w.facts day known)]) := by
  refine exPure_sound (E := envOf Tryd.prog tt Tryd.f33.ntmps) (envOf_ok ttok mixed) Tryd.func33 (by rfl) rfl rfl (Nat.le_of_ble_eq_true rfl) ?_
  have hA := ref04_At w.facts headK day known hf
  unfold manyR manyM
  by_cases hd : 0 ≤ day ∧ day < 1024
  · rw [if_pos hd]
    cases h0 : atM w.facts headK day known with
    | none =>
      rw [h0] at hA
      simp only [Option.getD_none, Option.isSome_none] at hA
      repeat' ((conv => whnf); first | with_reducible refine Dec.t (show true = true from rfl) ?_ | with_reducible refine Dec.t (show false = false from rfl) ?_ | with_reducible refine Dec.f (show ¬ (true = false) by decide) ?_ | with_reducible refine Dec.f (show ¬ (false = true) by decide) ?_ | refine Dec.t (by omega) ?_ | refine Dec.f (by omega) ?_ | refine Dec.split (fun _ => ?_) (fun _ => ?_) | refine Wr.id (by omega) ?_ | refine Chk.mk (by first | omega | exact rfl | (simp only [List.length_map]; omega) | (simp [room]; done) | (simp [room]; omega) | (simp [dropL, room]; done) | (simp [dropL, room]; omega)) ?_ | refine Nam.mk (List.length_map _) ?_ | refine Prep.skip ?_ | refine Eith.l ?_ | refine chk_t (x := D.flat _) (by assumption) ?_ | refine br_mk (fun _ => ?_) (fun _ => ?_) | refine ACall.of (ref18_head) ?_ | refine APCall.of (ref18_head) ?_ | refine ACall.of (hA) ?_ | refine APCall.of (hA) ?_ | refine ACall.ofB (ref18_Day day) (fun _ => ?_) (fun h => absurd hd (of_decide_eq_false h)) | fail)
      all_goals (conv => whnf)
      all_goals exact (by repeat (first | exact trivial | exact rfl | exact DLe.refl _ | exact DLe.full _ _ _ | exact DLe.nil _ _ _ | exact VLe.refl _ | refine And.intro ?_ ?_ | refine VLe.d ?_ | refine DLe.agg ?_))
    | some n =>
      have hn := atM_nonneg h0
      rw [h0] at hA
      simp only [Option.getD_some, Option.isSome_some] at hA
      repeat' ((conv => whnf); first | with_reducible refine Dec.t (show true = true from rfl) ?_ | with_reducible refine Dec.t (show false = false from rfl) ?_ | with_reducible refine Dec.f (show ¬ (true = false) by decide) ?_ | with_reducible refine Dec.f (show ¬ (false = true) by decide) ?_ | refine Dec.t (by omega) ?_ | refine Dec.f (by omega) ?_ | refine Dec.split (fun _ => ?_) (fun _ => ?_) | refine Wr.id (by omega) ?_ | refine Chk.mk (by first | omega | exact rfl | (simp only [List.length_map]; omega) | (simp [room]; done) | (simp [room]; omega) | (simp [dropL, room]; done) | (simp [dropL, room]; omega)) ?_ | refine Nam.mk (List.length_map _) ?_ | refine Prep.skip ?_ | refine Eith.l ?_ | refine chk_t (x := D.flat _) (by assumption) ?_ | refine br_mk (fun _ => ?_) (fun _ => ?_) | refine ACall.of (ref18_head) ?_ | refine APCall.of (ref18_head) ?_ | refine ACall.of (hA) ?_ | refine APCall.of (hA) ?_ | refine ACall.ofB (ref18_Day day) (fun _ => ?_) (fun h => absurd hd (of_decide_eq_false h)) | fail)
      all_goals (conv => whnf)
      rw [if_neg (show ¬ 0 > n by omega)]
      exact (by repeat (first | exact trivial | exact rfl | exact DLe.refl _ | exact DLe.full _ _ _ | exact DLe.nil _ _ _ | exact VLe.refl _ | refine And.intro ?_ ?_ | refine VLe.d ?_ | refine DLe.agg ?_))
  · rw [if_neg hd]
    repeat' ((conv => whnf); first | with_reducible refine Dec.t (show true = true from rfl) ?_ | with_reducible refine Dec.t (show false = false from rfl) ?_ | with_reducible refine Dec.f (show ¬ (true = false) by decide) ?_ | with_reducible refine Dec.f (show ¬ (false = true) by decide) ?_ | refine Dec.t (by omega) ?_ | refine Dec.f (by omega) ?_ | refine Dec.split (fun _ => ?_) (fun _ => ?_) | refine Wr.id (by omega) ?_ | refine Chk.mk (by first | omega | exact rfl | (simp only [List.length_map]; omega) | (simp [room]; done) | (simp [room]; omega) | (simp [dropL, room]; done) | (simp [dropL, room]; omega)) ?_ | refine Nam.mk (List.length_map _) ?_ | refine Prep.skip ?_ | refine Eith.l ?_ | refine chk_t (x := D.flat _) (by assumption) ?_ | refine br_mk (fun _ => ?_) (fun _ => ?_) | refine ACall.ofB (ref18_Day day) (fun h => absurd (of_decide_eq_true h) hd) (fun _ => ?_) | fail)
    all_goals (conv => whnf)
    all_goals exact (by repeat (first | exact trivial | exact rfl | exact DLe.refl _ | exact DLe.full _ _ _ | exact DLe.nil _ _ _ | exact VLe.refl _ | refine And.intro ?_ ?_ | refine VLe.d ?_ | refine DLe.agg ?_))
theorem ref18_Right (l : Lot) (ha : l.amount ≤ 9223372036854775807) : CallP Tryd.prog 24 [.d l.d] (retD [.b (decide l.right)]) := by
  refine exPure_sound (E := envOf Tryd.prog tt Tryd.f24.ntmps) (envOf_ok ttok mixed) Tryd.func24 (by rfl) rfl rfl (Nat.le_of_ble_eq_true rfl) ?_
  repeat' ((conv => whnf); first | with_reducible refine Dec.t (show true = true from rfl) ?_ | with_reducible refine Dec.t (show false = false from rfl) ?_ | with_reducible refine Dec.f (show ¬ (true = false) by decide) ?_ | with_reducible refine Dec.f (show ¬ (false = true) by decide) ?_ | refine Dec.t (by omega) ?_ | refine Dec.f (by omega) ?_ | refine Dec.split (fun _ => ?_) (fun _ => ?_) | refine Wr.id (by omega) ?_ | refine Chk.mk (by first | omega | exact rfl | (simp only [List.length_map]; omega) | (simp [room]; done) | (simp [room]; omega) | (simp [dropL, room]; done) | (simp [dropL, room]; omega)) ?_ | refine Nam.mk (List.length_map _) ?_ | refine Prep.skip ?_ | refine Eith.l ?_ | refine chk_t (x := D.flat _) (by assumption) ?_ | refine br_mk (fun _ => ?_) (fun _ => ?_) | fail)
  all_goals (conv => whnf)
  all_goals first
    | (rw [decide_eq_true (by unfold Lot.right; omega)]; exact (by repeat (first | exact trivial | exact rfl | exact DLe.refl _ | exact DLe.full _ _ _ | exact DLe.nil _ _ _ | exact VLe.refl _ | refine And.intro ?_ ?_ | refine VLe.d ?_ | refine DLe.agg ?_)))
    | (rw [decide_eq_false (by unfold Lot.right; omega)]; exact (by repeat (first | exact trivial | exact rfl | exact DLe.refl _ | exact DLe.full _ _ _ | exact DLe.nil _ _ _ | exact VLe.refl _ | refine And.intro ?_ ?_ | refine VLe.d ?_ | refine DLe.agg ?_)))
theorem atF_mem {l : List Fact} {k : Key} {d t : Int} : ∀ (l : List Fact) (o : Option Fact) (f : Fact), l.foldl (atStep k d t) o = some f → f ∈ l ∨ o = some f
  | [], o, f, h => .inr h
  | x :: l, o, f, h => by
    rcases atF_mem (l := l) l _ f h with h | h
    · exact .inl (.tail _ h)
    · unfold atStep at h
      split at h
      · cases h; exact .inl (.head _)
      · exact .inr h
def AWorld.wide (w : AWorld) : Prop := ∀ f ∈ w.facts, f.value ≤ 9223372036854775807
theorem AWorld.wide.at {w : AWorld} (h : w.wide) {k : Key} {d t n : Int} (ha : atM w.facts k d t = some n) : n ≤ 9223372036854775807 := by
  unfold atM at ha
  cases ho : atF w.facts k d t with
  | none => rw [ho] at ha; cases ha
  | some f =>
    rw [ho] at ha
    unfold valOf at ha
    split at ha
    · cases ha
    · rename_i g e
      cases e
      split at ha
      · cases ha
      · cases ha
        rcases atF_mem (l := w.facts) w.facts none f ho with h2 | h2
        · exact h f h2
        · cases h2
theorem ref18_lot (w : AWorld) (no day known : Int) (hl : w.facts.length < 2 ^ 40) (hw : w.wide) (hd : 0 ≤ day ∧ day < 1024) : CallP Tryd.prog 34 [.d w.d, .d (I no), .d (I day), .d (I known)] (findM w.facts no day known).d := by
  refine exPure_sound (E := envOf Tryd.prog tt Tryd.f34.ntmps) (envOf_ok ttok mixed) Tryd.func34 (by rfl) rfl rfl (Nat.le_of_ble_eq_true rfl) ?_
  have hK0 := ref04_At w.facts (lotKey no 0) day known hl
  have hK1 := ref04_At w.facts (lotKey no 1) day known hl
  have hK2 := ref04_At w.facts (lotKey no 2) day known hl
  have hK3 := ref04_At w.facts (lotKey no 3) day known hl
  have hK4 := ref04_At w.facts (lotKey no 4) day known hl
  cases h1 : atM w.facts (lotKey no 0) day known with
  | none =>
    rw [h1] at hK0
    simp only [Option.getD_none, Option.isSome_none] at hK0
    have hf : findM w.facts no day known = ⟨Lot.zero, [rdOf (lotKey no 0) day], false⟩ := by unfold findM; simp only [h1]
    rw [hf]
    repeat' ((conv => whnf); first | with_reducible refine Dec.t (show true = true from rfl) ?_ | with_reducible refine Dec.t (show false = false from rfl) ?_ | with_reducible refine Dec.f (show ¬ (true = false) by decide) ?_ | with_reducible refine Dec.f (show ¬ (false = true) by decide) ?_ | refine Dec.t (by omega) ?_ | refine Dec.f (by omega) ?_ | refine Dec.split (fun _ => ?_) (fun _ => ?_) | refine Wr.id (by omega) ?_ | refine Chk.mk (by first | omega | exact rfl | (simp only [List.length_map]; omega) | (simp [room]; done) | (simp [room]; omega) | (simp [dropL, room]; done) | (simp [dropL, room]; omega)) ?_ | refine Nam.mk (List.length_map _) ?_ | refine Prep.skip ?_ | refine Eith.l ?_ | refine chk_t (x := D.flat _) (by assumption) ?_ | refine br_mk (fun _ => ?_) (fun _ => ?_) | refine ACall.of (ref18_head) ?_ | refine APCall.of (ref18_head) ?_ | refine ALoop.rounds 6 ?_ | refine ALoopN.step (E := (envOf Tryd.prog tt Tryd.f34.ntmps)) (envOf_ok ttok mixed) ?_ | refine ACall.of (hK0) ?_ | refine APCall.of (hK0) ?_ | refine Nam.mk (y := [(rdOf (lotKey no 0) day).d]) rfl ?_ | fail)
    all_goals (conv => whnf)
    all_goals exact (by repeat (first | exact trivial | exact rfl | exact DLe.refl _ | exact DLe.full _ _ _ | exact DLe.nil _ _ _ | exact VLe.refl _ | refine And.intro ?_ ?_ | refine VLe.d ?_ | refine DLe.agg ?_))
  | some a =>
    rw [h1] at hK0
    simp only [Option.getD_some, Option.isSome_some] at hK0
    cases h2 : atM w.facts (lotKey no 1) day known with
    | none =>
      rw [h2] at hK1
      simp only [Option.getD_none, Option.isSome_none] at hK1
      have hf : findM w.facts no day known = ⟨Lot.zero, [rdOf (lotKey no 0) day, rdOf (lotKey no 1) day], false⟩ := by unfold findM; simp only [h1, h2]
      rw [hf]
      repeat' ((conv => whnf); first | with_reducible refine Dec.t (show true = true from rfl) ?_ | with_reducible refine Dec.t (show false = false from rfl) ?_ | with_reducible refine Dec.f (show ¬ (true = false) by decide) ?_ | with_reducible refine Dec.f (show ¬ (false = true) by decide) ?_ | refine Dec.t (by omega) ?_ | refine Dec.f (by omega) ?_ | refine Dec.split (fun _ => ?_) (fun _ => ?_) | refine Wr.id (by omega) ?_ | refine Chk.mk (by first | omega | exact rfl | (simp only [List.length_map]; omega) | (simp [room]; done) | (simp [room]; omega) | (simp [dropL, room]; done) | (simp [dropL, room]; omega)) ?_ | refine Nam.mk (List.length_map _) ?_ | refine Prep.skip ?_ | refine Eith.l ?_ | refine chk_t (x := D.flat _) (by assumption) ?_ | refine br_mk (fun _ => ?_) (fun _ => ?_) | refine ACall.of (ref18_head) ?_ | refine APCall.of (ref18_head) ?_ | refine ALoop.rounds 6 ?_ | refine ALoopN.step (E := (envOf Tryd.prog tt Tryd.f34.ntmps)) (envOf_ok ttok mixed) ?_ | refine ACall.of (hK0) ?_ | refine APCall.of (hK0) ?_ | refine ACall.of (hK1) ?_ | refine APCall.of (hK1) ?_ | refine Nam.mk (y := [(rdOf (lotKey no 0) day).d, (rdOf (lotKey no 1) day).d]) rfl ?_ | fail)
      all_goals (conv => whnf)
      all_goals exact (by repeat (first | exact trivial | exact rfl | exact DLe.refl _ | exact DLe.full _ _ _ | exact DLe.nil _ _ _ | exact VLe.refl _ | refine And.intro ?_ ?_ | refine VLe.d ?_ | refine DLe.agg ?_))
    | some b =>
      rw [h2] at hK1
      simp only [Option.getD_some, Option.isSome_some] at hK1
      cases h3 : atM w.facts (lotKey no 2) day known with
      | none =>
        rw [h3] at hK2
        simp only [Option.getD_none, Option.isSome_none] at hK2
        have hf : findM w.facts no day known = ⟨Lot.zero, [rdOf (lotKey no 0) day, rdOf (lotKey no 1) day, rdOf (lotKey no 2) day], false⟩ := by unfold findM; simp only [h1, h2, h3]
        rw [hf]
        repeat' ((conv => whnf); first | with_reducible refine Dec.t (show true = true from rfl) ?_ | with_reducible refine Dec.t (show false = false from rfl) ?_ | with_reducible refine Dec.f (show ¬ (true = false) by decide) ?_ | with_reducible refine Dec.f (show ¬ (false = true) by decide) ?_ | refine Dec.t (by omega) ?_ | refine Dec.f (by omega) ?_ | refine Dec.split (fun _ => ?_) (fun _ => ?_) | refine Wr.id (by omega) ?_ | refine Chk.mk (by first | omega | exact rfl | (simp only [List.length_map]; omega) | (simp [room]; done) | (simp [room]; omega) | (simp [dropL, room]; done) | (simp [dropL, room]; omega)) ?_ | refine Nam.mk (List.length_map _) ?_ | refine Prep.skip ?_ | refine Eith.l ?_ | refine chk_t (x := D.flat _) (by assumption) ?_ | refine br_mk (fun _ => ?_) (fun _ => ?_) | refine ACall.of (ref18_head) ?_ | refine APCall.of (ref18_head) ?_ | refine ALoop.rounds 6 ?_ | refine ALoopN.step (E := (envOf Tryd.prog tt Tryd.f34.ntmps)) (envOf_ok ttok mixed) ?_ | refine ACall.of (hK0) ?_ | refine APCall.of (hK0) ?_ | refine ACall.of (hK1) ?_ | refine APCall.of (hK1) ?_ | refine ACall.of (hK2) ?_ | refine APCall.of (hK2) ?_ | refine Nam.mk (y := [(rdOf (lotKey no 0) day).d, (rdOf (lotKey no 1) day).d, (rdOf (lotKey no 2) day).d]) rfl ?_ | fail)
        all_goals (conv => whnf)
        all_goals exact (by repeat (first | exact trivial | exact rfl | exact DLe.refl _ | exact DLe.full _ _ _ | exact DLe.nil _ _ _ | exact VLe.refl _ | refine And.intro ?_ ?_ | refine VLe.d ?_ | refine DLe.agg ?_))
      | some c =>
        rw [h3] at hK2
        simp only [Option.getD_some, Option.isSome_some] at hK2
        have hwc := hw.at h3
        cases h4 : atM w.facts (lotKey no 3) day known with
        | none =>
          rw [h4] at hK3
          simp only [Option.getD_none, Option.isSome_none] at hK3
          have hf : findM w.facts no day known = ⟨Lot.zero, [rdOf (lotKey no 0) day, rdOf (lotKey no 1) day, rdOf (lotKey no 2) day, rdOf (lotKey no 3) day], false⟩ := by unfold findM; simp only [h1, h2, h3, h4]
          rw [hf]
          repeat' ((conv => whnf); first | with_reducible refine Dec.t (show true = true from rfl) ?_ | with_reducible refine Dec.t (show false = false from rfl) ?_ | with_reducible refine Dec.f (show ¬ (true = false) by decide) ?_ | with_reducible refine Dec.f (show ¬ (false = true) by decide) ?_ | refine Dec.t (by omega) ?_ | refine Dec.f (by omega) ?_ | refine Dec.split (fun _ => ?_) (fun _ => ?_) | refine Wr.id (by omega) ?_ | refine Chk.mk (by first | omega | exact rfl | (simp only [List.length_map]; omega) | (simp [room]; done) | (simp [room]; omega) | (simp [dropL, room]; done) | (simp [dropL, room]; omega)) ?_ | refine Nam.mk (List.length_map _) ?_ | refine Prep.skip ?_ | refine Eith.l ?_ | refine chk_t (x := D.flat _) (by assumption) ?_ | refine br_mk (fun _ => ?_) (fun _ => ?_) | refine ACall.of (ref18_head) ?_ | refine APCall.of (ref18_head) ?_ | refine ALoop.rounds 6 ?_ | refine ALoopN.step (E := (envOf Tryd.prog tt Tryd.f34.ntmps)) (envOf_ok ttok mixed) ?_ | refine ACall.of (hK0) ?_ | refine APCall.of (hK0) ?_ | refine ACall.of (hK1) ?_ | refine APCall.of (hK1) ?_ | refine ACall.of (hK2) ?_ | refine APCall.of (hK2) ?_ | refine ACall.of (hK3) ?_ | refine APCall.of (hK3) ?_ | refine Nam.mk (y := [(rdOf (lotKey no 0) day).d, (rdOf (lotKey no 1) day).d, (rdOf (lotKey no 2) day).d, (rdOf (lotKey no 3) day).d]) rfl ?_ | fail)
          all_goals (conv => whnf)
          all_goals exact (by repeat (first | exact trivial | exact rfl | exact DLe.refl _ | exact DLe.full _ _ _ | exact DLe.nil _ _ _ | exact VLe.refl _ | refine And.intro ?_ ?_ | refine VLe.d ?_ | refine DLe.agg ?_))
        | some d =>
          rw [h4] at hK3
          simp only [Option.getD_some, Option.isSome_some] at hK3
          cases h5 : atM w.facts (lotKey no 4) day known with
          | none =>
            rw [h5] at hK4
            simp only [Option.getD_none, Option.isSome_none] at hK4
            have hf : findM w.facts no day known = ⟨Lot.zero, [rdOf (lotKey no 0) day, rdOf (lotKey no 1) day, rdOf (lotKey no 2) day, rdOf (lotKey no 3) day, rdOf (lotKey no 4) day], false⟩ := by unfold findM; simp only [h1, h2, h3, h4, h5]
            rw [hf]
            repeat' ((conv => whnf); first | with_reducible refine Dec.t (show true = true from rfl) ?_ | with_reducible refine Dec.t (show false = false from rfl) ?_ | with_reducible refine Dec.f (show ¬ (true = false) by decide) ?_ | with_reducible refine Dec.f (show ¬ (false = true) by decide) ?_ | refine Dec.t (by omega) ?_ | refine Dec.f (by omega) ?_ | refine Dec.split (fun _ => ?_) (fun _ => ?_) | refine Wr.id (by omega) ?_ | refine Chk.mk (by first | omega | exact rfl | (simp only [List.length_map]; omega) | (simp [room]; done) | (simp [room]; omega) | (simp [dropL, room]; done) | (simp [dropL, room]; omega)) ?_ | refine Nam.mk (List.length_map _) ?_ | refine Prep.skip ?_ | refine Eith.l ?_ | refine chk_t (x := D.flat _) (by assumption) ?_ | refine br_mk (fun _ => ?_) (fun _ => ?_) | refine ACall.of (ref18_head) ?_ | refine APCall.of (ref18_head) ?_ | refine ALoop.rounds 6 ?_ | refine ALoopN.step (E := (envOf Tryd.prog tt Tryd.f34.ntmps)) (envOf_ok ttok mixed) ?_ | refine ACall.of (hK0) ?_ | refine APCall.of (hK0) ?_ | refine ACall.of (hK1) ?_ | refine APCall.of (hK1) ?_ | refine ACall.of (hK2) ?_ | refine APCall.of (hK2) ?_ | refine ACall.of (hK3) ?_ | refine APCall.of (hK3) ?_ | refine ACall.of (hK4) ?_ | refine APCall.of (hK4) ?_ | refine Nam.mk (y := [(rdOf (lotKey no 0) day).d, (rdOf (lotKey no 1) day).d, (rdOf (lotKey no 2) day).d, (rdOf (lotKey no 3) day).d, (rdOf (lotKey no 4) day).d]) rfl ?_ | fail)
            all_goals (conv => whnf)
            all_goals exact (by repeat (first | exact trivial | exact rfl | exact DLe.refl _ | exact DLe.full _ _ _ | exact DLe.nil _ _ _ | exact VLe.refl _ | refine And.intro ?_ ?_ | refine VLe.d ?_ | refine DLe.agg ?_))
          | some e =>
            rw [h5] at hK4
            simp only [Option.getD_some, Option.isSome_some] at hK4
            have hf : findM w.facts no day known = ⟨if Lot.right ⟨no, a, b, c, d, e⟩ then ⟨no, a, b, c, d, e⟩ else Lot.zero, [rdOf (lotKey no 0) day, rdOf (lotKey no 1) day, rdOf (lotKey no 2) day, rdOf (lotKey no 3) day, rdOf (lotKey no 4) day], decide (Lot.right ⟨no, a, b, c, d, e⟩)⟩ := by unfold findM; simp only [h1, h2, h3, h4, h5]
            have hR := ref18_Right ⟨no, a, b, c, d, e⟩ hwc
            rw [hf]
            by_cases hr : Lot.right ⟨no, a, b, c, d, e⟩
            · rw [if_pos hr, decide_eq_true hr]
              rw [decide_eq_true hr] at hR
              repeat' ((conv => whnf); first | with_reducible refine Dec.t (show true = true from rfl) ?_ | with_reducible refine Dec.t (show false = false from rfl) ?_ | with_reducible refine Dec.f (show ¬ (true = false) by decide) ?_ | with_reducible refine Dec.f (show ¬ (false = true) by decide) ?_ | refine Dec.t (by omega) ?_ | refine Dec.f (by omega) ?_ | refine Dec.split (fun _ => ?_) (fun _ => ?_) | refine Wr.id (by omega) ?_ | refine Chk.mk (by first | omega | exact rfl | (simp only [List.length_map]; omega) | (simp [room]; done) | (simp [room]; omega) | (simp [dropL, room]; done) | (simp [dropL, room]; omega)) ?_ | refine Nam.mk (List.length_map _) ?_ | refine Prep.skip ?_ | refine Eith.l ?_ | refine chk_t (x := D.flat _) (by assumption) ?_ | refine br_mk (fun _ => ?_) (fun _ => ?_) | refine ACall.of (ref18_head) ?_ | refine APCall.of (ref18_head) ?_ | refine ALoop.rounds 6 ?_ | refine ALoopN.step (E := (envOf Tryd.prog tt Tryd.f34.ntmps)) (envOf_ok ttok mixed) ?_ | refine ACall.of (hK0) ?_ | refine APCall.of (hK0) ?_ | refine ACall.of (hK1) ?_ | refine APCall.of (hK1) ?_ | refine ACall.of (hK2) ?_ | refine APCall.of (hK2) ?_ | refine ACall.of (hK3) ?_ | refine APCall.of (hK3) ?_ | refine ACall.of (hK4) ?_ | refine APCall.of (hK4) ?_ | refine ACall.of (hR) ?_ | refine APCall.of (hR) ?_ | refine Nam.mk (y := [(rdOf (lotKey no 0) day).d, (rdOf (lotKey no 1) day).d, (rdOf (lotKey no 2) day).d, (rdOf (lotKey no 3) day).d, (rdOf (lotKey no 4) day).d]) rfl ?_ | fail)
              all_goals (conv => whnf)
              all_goals exact (by repeat (first | exact trivial | exact rfl | exact DLe.refl _ | exact DLe.full _ _ _ | exact DLe.nil _ _ _ | exact VLe.refl _ | refine And.intro ?_ ?_ | refine VLe.d ?_ | refine DLe.agg ?_))
            · rw [if_neg hr, decide_eq_false hr]
              rw [decide_eq_false hr] at hR
              repeat' ((conv => whnf); first | with_reducible refine Dec.t (show true = true from rfl) ?_ | with_reducible refine Dec.t (show false = false from rfl) ?_ | with_reducible refine Dec.f (show ¬ (true = false) by decide) ?_ | with_reducible refine Dec.f (show ¬ (false = true) by decide) ?_ | refine Dec.t (by omega) ?_ | refine Dec.f (by omega) ?_ | refine Dec.split (fun _ => ?_) (fun _ => ?_) | refine Wr.id (by omega) ?_ | refine Chk.mk (by first | omega | exact rfl | (simp only [List.length_map]; omega) | (simp [room]; done) | (simp [room]; omega) | (simp [dropL, room]; done) | (simp [dropL, room]; omega)) ?_ | refine Nam.mk (List.length_map _) ?_ | refine Prep.skip ?_ | refine Eith.l ?_ | refine chk_t (x := D.flat _) (by assumption) ?_ | refine br_mk (fun _ => ?_) (fun _ => ?_) | refine ACall.of (ref18_head) ?_ | refine APCall.of (ref18_head) ?_ | refine ALoop.rounds 6 ?_ | refine ALoopN.step (E := (envOf Tryd.prog tt Tryd.f34.ntmps)) (envOf_ok ttok mixed) ?_ | refine ACall.of (hK0) ?_ | refine APCall.of (hK0) ?_ | refine ACall.of (hK1) ?_ | refine APCall.of (hK1) ?_ | refine ACall.of (hK2) ?_ | refine APCall.of (hK2) ?_ | refine ACall.of (hK3) ?_ | refine APCall.of (hK3) ?_ | refine ACall.of (hK4) ?_ | refine APCall.of (hK4) ?_ | refine ACall.of (hR) ?_ | refine APCall.of (hR) ?_ | refine Nam.mk (y := [(rdOf (lotKey no 0) day).d, (rdOf (lotKey no 1) day).d, (rdOf (lotKey no 2) day).d, (rdOf (lotKey no 3) day).d, (rdOf (lotKey no 4) day).d]) rfl ?_ | fail)
              all_goals (conv => whnf)
              all_goals exact (by repeat (first | exact trivial | exact rfl | exact DLe.refl _ | exact DLe.full _ _ _ | exact DLe.nil _ _ _ | exact VLe.refl _ | refine And.intro ?_ ?_ | refine VLe.d ?_ | refine DLe.agg ?_))
theorem findM_ne (l : List Fact) (no day known : Int) : (findM l no day known).reads ≠ [] := by
  unfold findM
  repeat' split
  all_goals simp
theorem ref18_Lot (w : AWorld) (no day known : Int) (hl : w.facts.length < 2 ^ 40) (hw : w.wide) : CallP Tryd.prog 13 [.d w.d, .d (I no), .d (I day), .d (I known)] (lotM w no day known).d := by
  refine exPure_sound (E := envOf Tryd.prog tt Tryd.f13.ntmps) (envOf_ok ttok mixed) Tryd.func13 (by rfl) rfl rfl (Nat.le_of_ble_eq_true rfl) ?_
  unfold lotM
  have hM := ref18_many w day known hl
  by_cases hd : 0 ≤ day ∧ day < 1024
  · rw [if_pos hd]
    rw [show manyR w.facts day known = manyM w.facts day known from if_pos hd] at hM
    have hF := ref18_lot w no day known hl hw hd
    have hfr := findM_reads w.facts no day known
    have hne := findM_ne w.facts no day known
    by_cases hn : 0 ≤ no ∧ no < manyM w.facts day known
    · rw [if_pos hn]
      obtain ⟨hn1, hn2⟩ := hn
      generalize findM w.facts no day known = q at hF hfr hne
      obtain ⟨lt, rs, ok⟩ := q
      simp only [LotR.d] at hF hfr hne ⊢
      repeat' ((conv => whnf); first | with_reducible refine Dec.t (show true = true from rfl) ?_ | with_reducible refine Dec.t (show false = false from rfl) ?_ | with_reducible refine Dec.f (show ¬ (true = false) by decide) ?_ | with_reducible refine Dec.f (show ¬ (false = true) by decide) ?_ | refine Dec.t (by omega) ?_ | refine Dec.f (by omega) ?_ | refine Dec.split (fun _ => ?_) (fun _ => ?_) | refine Wr.id (by omega) ?_ | refine Chk.mk (by first | omega | exact rfl | (simp only [List.length_map]; omega) | (simp [room]; done) | (simp [room]; omega) | (simp [dropL, room]; done) | (simp [dropL, room]; omega)) ?_ | refine Nam.mk (List.length_map _) ?_ | refine Prep.skip ?_ | refine Eith.l ?_ | refine chk_t (x := D.flat _) (by assumption) ?_ | refine br_mk (fun _ => ?_) (fun _ => ?_) | refine ACall.ofB (ref18_Day day) (fun _ => ?_) (fun h => absurd hd (of_decide_eq_false h)) | refine ACall.of (ref18_head) ?_ | refine APCall.of (ref18_head) ?_ | refine ACall.of (hM) ?_ | refine APCall.of (hM) ?_ | refine ACall.of (hF) ?_ | refine APCall.of (hF) ?_ | refine Chk.mk ⟨.inr (by simpa using hne), by simp [room]; omega⟩ ?_ | refine Nam.mk (y := (rdOf headK day :: rs).map Read.d) (whole (by simp [dropL]; omega)) ?_ | fail)
      all_goals (conv => whnf)
      all_goals first | exact (by repeat (first | exact trivial | exact rfl | exact DLe.refl _ | exact DLe.full _ _ _ | exact DLe.nil _ _ _ | exact VLe.refl _ | refine And.intro ?_ ?_ | refine VLe.d ?_ | refine DLe.agg ?_)) | trace_state
    · rw [if_neg hn]
      repeat' ((conv => whnf); first | with_reducible refine Dec.t (show true = true from rfl) ?_ | with_reducible refine Dec.t (show false = false from rfl) ?_ | with_reducible refine Dec.f (show ¬ (true = false) by decide) ?_ | with_reducible refine Dec.f (show ¬ (false = true) by decide) ?_ | refine Dec.t (by omega) ?_ | refine Dec.f (by omega) ?_ | refine Dec.split (fun _ => ?_) (fun _ => ?_) | refine Wr.id (by omega) ?_ | refine Chk.mk (by first | omega | exact rfl | (simp only [List.length_map]; omega) | (simp [room]; done) | (simp [room]; omega) | (simp [dropL, room]; done) | (simp [dropL, room]; omega)) ?_ | refine Nam.mk (List.length_map _) ?_ | refine Prep.skip ?_ | refine Eith.l ?_ | refine chk_t (x := D.flat _) (by assumption) ?_ | refine br_mk (fun _ => ?_) (fun _ => ?_) | refine ACall.ofB (ref18_Day day) (fun _ => ?_) (fun h => absurd hd (of_decide_eq_false h)) | refine ACall.of (ref18_head) ?_ | refine APCall.of (ref18_head) ?_ | refine ACall.of (hM) ?_ | refine APCall.of (hM) ?_ | fail)
      all_goals (conv => whnf)
      all_goals exact (by repeat (first | exact trivial | exact rfl | exact DLe.refl _ | exact DLe.full _ _ _ | exact DLe.nil _ _ _ | exact VLe.refl _ | refine And.intro ?_ ?_ | refine VLe.d ?_ | refine DLe.agg ?_))
  · rw [if_neg hd]
    repeat' ((conv => whnf); first | with_reducible refine Dec.t (show true = true from rfl) ?_ | with_reducible refine Dec.t (show false = false from rfl) ?_ | with_reducible refine Dec.f (show ¬ (true = false) by decide) ?_ | with_reducible refine Dec.f (show ¬ (false = true) by decide) ?_ | refine Dec.t (by omega) ?_ | refine Dec.f (by omega) ?_ | refine Dec.split (fun _ => ?_) (fun _ => ?_) | refine Wr.id (by omega) ?_ | refine Chk.mk (by first | omega | exact rfl | (simp only [List.length_map]; omega) | (simp [room]; done) | (simp [room]; omega) | (simp [dropL, room]; done) | (simp [dropL, room]; omega)) ?_ | refine Nam.mk (List.length_map _) ?_ | refine Prep.skip ?_ | refine Eith.l ?_ | refine chk_t (x := D.flat _) (by assumption) ?_ | refine br_mk (fun _ => ?_) (fun _ => ?_) | refine ACall.ofB (ref18_Day day) (fun h => absurd (of_decide_eq_true h) hd) (fun _ => ?_) | fail)
    all_goals (conv => whnf)
    all_goals exact (by repeat (first | exact trivial | exact rfl | exact DLe.refl _ | exact DLe.full _ _ _ | exact DLe.nil _ _ _ | exact VLe.refl _ | refine And.intro ?_ ?_ | refine VLe.d ?_ | refine DLe.agg ?_))

end Go.PM

