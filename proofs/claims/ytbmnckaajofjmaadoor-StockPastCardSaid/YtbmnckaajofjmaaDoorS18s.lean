/- The examples of law 18. -/
import Derived.Test.YtbmnckaajofjmaaDoorR18c
import Derived.Test.YtbmnckaajofjmaaDoorR18d
namespace Go.PM
open Go.Proofs
set_option maxRecDepth 10000
set_option maxHeartbeats 8000000

def lotA : Lot := ⟨3, 1, 0, 5, 9, 0⟩
def lotB : Lot := ⟨0, 1, 0, 2, 12, 0⟩
def lotC : Lot := ⟨1, 1, 0, 2, 5, 1⟩
def xF : List Fact := [⟨1, 3, 0, 1, 2, 8, 10, 0⟩, ⟨1, 3, 1, 0, 2, 8, 10, 1⟩, ⟨1, 3, 2, 5, 2, 8, 10, 2⟩, ⟨1, 3, 3, 9, 2, 8, 10, 3⟩, ⟨1, 3, 4, 0, 2, 8, 10, 4⟩, ⟨0, 0, 0, 4, 0, 1024, 10, 5⟩]
def yF : List Fact := xF ++ [⟨1, 0, 0, 1, 0, 20, 11, 0⟩, ⟨1, 0, 1, 0, 0, 20, 11, 1⟩, ⟨1, 0, 2, 2, 0, 20, 11, 2⟩, ⟨1, 0, 3, 12, 0, 20, 11, 3⟩, ⟨1, 0, 4, 0, 0, 20, 11, 4⟩]
def zF : List Fact := yF ++ [⟨1, 1, 0, 1, 0, 20, 11, 5⟩, ⟨1, 1, 1, 0, 0, 20, 11, 6⟩, ⟨1, 1, 2, 2, 0, 20, 11, 7⟩, ⟨1, 1, 3, 5, 0, 20, 11, 8⟩, ⟨1, 1, 4, 1, 0, 20, 11, 9⟩]
theorem p1 : putM [] lotA 2 8 10 = (xF, 0) := by decide +kernel
theorem p2 : putM xF lotB 0 20 11 = (yF, 0) := by decide +kernel
theorem p3 : putM yF lotC 0 20 11 = (zF, 0) := by decide +kernel
theorem p4 : putM [] Lot.zero 0 0 1 = ([], 180) := by decide +kernel
def xW : AWorld := { AWorld.zero with facts := xF }
def yW : AWorld := { AWorld.zero with facts := yF }
def zW : AWorld := { AWorld.zero with facts := zF }
theorem q1 : (lotM xW 3 2 10).l = lotA ∧ (lotM xW 3 2 10).reads.length = 6 ∧ (lotM xW 3 2 10).ok = true := by decide +kernel
theorem q2 : (lotM xW 3 2 9).reads.length = 1 ∧ (lotM xW 3 2 9).ok = false := by decide +kernel
theorem q3 : (lotM xW 3 8 10).reads.length = 2 ∧ (lotM xW 3 8 10).ok = false := by decide +kernel
theorem q4 : (lotM xW 3 1024 10).reads.length = 0 ∧ (lotM xW 3 1024 10).ok = false := by decide +kernel
theorem q5 : (lotM AWorld.zero 0 0 0).reads.length = 1 ∧ (lotM AWorld.zero 0 0 0).ok = false := by decide +kernel
theorem q6 : (lotsM zW 4 11).1.length = 3 ∧ (lotsM zW 4 11).2.length = 17 := by decide +kernel
theorem q7 : (usableM zW ⟨1, 0, 0⟩ 4 11).1 = [lotA, lotB] := by decide +kernel

theorem ref04_SameReads (a b : List (Read)) (hl : a.length < 2 ^ 40)  : CallP Tryd.prog 14 [.d (SL 5 (a.map Read.d)), .d (SL 5 (b.map Read.d))] (retD [.b (decide (a = b))]) := by
  refine exPure_sound (E := envOf Tryd.prog tt Tryd.f14.ntmps) (envOf_ok ttok mixed) Tryd.func14 (by rfl) rfl rfl (Nat.le_of_ble_eq_true rfl) ?_
  by_cases he : a.length = b.length
  · repeat' ((conv => whnf); first | with_reducible refine Dec.t (show true = true from rfl) ?_ | with_reducible refine Dec.t (show false = false from rfl) ?_ | with_reducible refine Dec.f (show ¬ (true = false) by decide) ?_ | with_reducible refine Dec.f (show ¬ (false = true) by decide) ?_ | refine Dec.t (by omega) ?_ | refine Dec.f (by omega) ?_ | refine Dec.split (fun _ => ?_) (fun _ => ?_) | refine Wr.id (by omega) ?_ | refine Chk.mk (by first | omega | exact rfl | (simp only [List.length_map]; omega) | (simp [room]; done) | (simp [room]; omega) | (simp [dropL, room]; done) | (simp [dropL, room]; omega)) ?_ | refine Nam.mk (List.length_map _) ?_ | refine Prep.skip ?_ | refine Eith.l ?_ | refine chk_t (x := D.flat _) (by assumption) ?_ | refine br_mk (fun _ => ?_) (fun _ => ?_))
    conv => whnf
    refine ALoop.at (E := envOf Tryd.prog tt Tryd.f14.ntmps) (envOf_ok ttok mixed) (X := Nat) (fun i => [(5, .d (I i))]) (fun _ => []) (fun i => i ≤ a.length ∧ a.take i = b.take i) (fun i => a.length - i) 0 (by repeat (first | exact trivial | refine And.intro rfl ?_ | refine And.intro (congrArg (fun n => V.d (I n)) (wrap_nat _ (by omega))) ?_)) rfl ⟨Nat.zero_le _, rfl⟩ ?_
    rintro i ⟨hi, hm⟩
    by_cases hlt : i < a.length
    · obtain ⟨x, hx, _⟩ := drop_get hlt
      obtain ⟨y, hy, _⟩ := drop_get (l := b) (i := i) (by omega)
      repeat' ((conv => whnf); first | with_reducible refine Dec.t (show true = true from rfl) ?_ | with_reducible refine Dec.t (show false = false from rfl) ?_ | with_reducible refine Dec.f (show ¬ (true = false) by decide) ?_ | with_reducible refine Dec.f (show ¬ (false = true) by decide) ?_ | refine Dec.t (by omega) ?_ | refine Dec.f (by omega) ?_ | refine Dec.split (fun _ => ?_) (fun _ => ?_) | refine Wr.id (by omega) ?_ | refine Chk.mk (by first | omega | exact rfl | (simp only [List.length_map]; omega) | (simp [room]; done) | (simp [room]; omega) | (simp [dropL, room]; done) | (simp [dropL, room]; omega)) ?_ | refine Nam.mk (List.length_map _) ?_ | refine Prep.skip ?_ | refine Eith.l ?_ | refine chk_t (x := D.flat _) (by assumption) ?_ | refine br_mk (fun _ => ?_) (fun _ => ?_) | refine nthK_mk (map_get hx) ?_ | refine nthK_mk (map_get hy) ?_ | refine Nam.dec (eqRead x y) (fun _ => ?_) (fun _ => ?_))
      all_goals (conv => whnf)
      all_goals try simp only [decide_eq_true_eq, decide_eq_false_iff_not] at *
      all_goals first
        | (have e : x = y := by first | assumption | (simp_all; done)
           subst e
           refine ⟨i + 1, Wm.end (by repeat (first | exact trivial | refine And.intro rfl ?_ | refine And.intro (congrArg (fun n => V.d (I n)) (wrap_nat _ (by omega))) ?_)) rfl rfl rfl, ⟨hlt, ?_⟩, by omega⟩
           rw [List.take_add_one, List.take_add_one, hm, hx, hy])
        | (have e : ¬ x = y := by first | assumption | (simp_all; done)
           rw [decide_eq_false (fun h => e (by subst h; rw [hx] at hy; exact Option.some.inj hy))]; exact DLe.refl _)
    · have : i = a.length := by omega
      subst this
      rw [List.take_length, he, List.take_length] at hm
      repeat' ((conv => whnf); first | with_reducible refine Dec.t (show true = true from rfl) ?_ | with_reducible refine Dec.t (show false = false from rfl) ?_ | with_reducible refine Dec.f (show ¬ (true = false) by decide) ?_ | with_reducible refine Dec.f (show ¬ (false = true) by decide) ?_ | refine Dec.t (by omega) ?_ | refine Dec.f (by omega) ?_ | refine Dec.split (fun _ => ?_) (fun _ => ?_) | refine Wr.id (by omega) ?_ | refine Chk.mk (by first | omega | exact rfl | (simp only [List.length_map]; omega) | (simp [room]; done) | (simp [room]; omega) | (simp [dropL, room]; done) | (simp [dropL, room]; omega)) ?_ | refine Nam.mk (List.length_map _) ?_ | refine Prep.skip ?_ | refine Eith.l ?_ | refine chk_t (x := D.flat _) (by assumption) ?_ | refine br_mk (fun _ => ?_) (fun _ => ?_))
      all_goals (conv => whnf)
      rw [decide_eq_true hm]; exact DLe.refl _
  · repeat' ((conv => whnf); first | with_reducible refine Dec.t (show true = true from rfl) ?_ | with_reducible refine Dec.t (show false = false from rfl) ?_ | with_reducible refine Dec.f (show ¬ (true = false) by decide) ?_ | with_reducible refine Dec.f (show ¬ (false = true) by decide) ?_ | refine Dec.t (by omega) ?_ | refine Dec.f (by omega) ?_ | refine Dec.split (fun _ => ?_) (fun _ => ?_) | refine Wr.id (by omega) ?_ | refine Chk.mk (by first | omega | exact rfl | (simp only [List.length_map]; omega) | (simp [room]; done) | (simp [room]; omega) | (simp [dropL, room]; done) | (simp [dropL, room]; omega)) ?_ | refine Nam.mk (List.length_map _) ?_ | refine Prep.skip ?_ | refine Eith.l ?_ | refine chk_t (x := D.flat _) (by assumption) ?_ | refine br_mk (fun _ => ?_) (fun _ => ?_))
    all_goals (conv => whnf)
    rw [decide_eq_false (fun h => he (by rw [h]))]; exact DLe.refl _

theorem same_reads18 (r : List Read) (h : r.length < 2 ^ 40) : CallP Tryd.prog 14 [.d (SL 5 (r.map Read.d)), .d (SL 5 (r.map Read.d))] (retD [.b true]) := by
  have h := ref04_SameReads r r h
  rwa [decide_eq_true rfl] at h
theorem same_lots18 (r : List Lot) (h : r.length < 2 ^ 40) : CallP Tryd.prog 19 [.d (SL 6 (r.map Lot.d)), .d (SL 6 (r.map Lot.d))] (retD [.b true]) := by
  have h := ref18_Same r r h
  rwa [decide_eq_true rfl] at h
theorem same_facts18 (r : List Fact) (h : r.length < 2 ^ 40) : CallP Tryd.prog 22 [.d (SL 8 (r.map Fact.d)), .d (SL 8 (r.map Fact.d))] (retD [.b true]) := by
  have h := ref04_Same r r h
  rwa [decide_eq_true rfl] at h
theorem law18_sane : CallP Tryd.prog 10 [] (retD [.b true]) := by
  have c1 : CallP Tryd.prog 20 [.d AWorld.zero.d, .d lotA.d, .d (spanD 2 8), .d (I 10)] (retD [xW.d, I 0]) := by
    have h := stock_Put AWorld.zero lotA 2 8 10 (by decide)
    have e : putM AWorld.zero.facts lotA 2 8 10 = (xF, 0) := p1
    rw [e] at h; exact h
  have c2 : CallP Tryd.prog 20 [.d xW.d, .d lotB.d, .d (spanD 0 20), .d (I 11)] (retD [yW.d, I 0]) := by
    have h := stock_Put xW lotB 0 20 11 (by decide)
    have e : putM xW.facts lotB 0 20 11 = (yF, 0) := p2
    rw [e] at h; exact h
  have c3 : CallP Tryd.prog 20 [.d yW.d, .d lotC.d, .d (spanD 0 20), .d (I 11)] (retD [zW.d, I 0]) := by
    have h := stock_Put yW lotC 0 20 11 (by decide)
    have e : putM yW.facts lotC 0 20 11 = (zF, 0) := p3
    rw [e] at h; exact h
  have c4 : CallP Tryd.prog 20 [.d AWorld.zero.d, .d Lot.zero.d, .d (spanD 0 0), .d (I 1)] (retD [AWorld.zero.d, I 180]) := by
    have h := stock_Put AWorld.zero Lot.zero 0 0 1 (by decide)
    have e : putM AWorld.zero.facts Lot.zero 0 0 1 = ([], 180) := p4
    rw [e] at h; exact h
  have c5 := stock_Lot xW 3 2 10 (by decide)
  have c6 := stock_Lot xW 3 2 9 (by decide)
  have c7 := stock_Lot xW 3 8 10 (by decide)
  have c8 := stock_Lot xW 3 1024 10 (by decide)
  have c9 := stock_Lot AWorld.zero 0 0 0 (by decide)
  have c10 := stock_Lots zW 4 11 (by decide)
  have c11 := stock_Usable zW ⟨1, 0, 0⟩ 4 11 (by decide)
  have c12 := stock_Usable zW ⟨1, 0, 1⟩ 4 11 (by decide)
  rw [show usableM zW ⟨1, 0, 1⟩ 4 11 = ([], []) from rfl] at c12
  have e11 : (usableM zW ⟨1, 0, 0⟩ 4 11).2 = (lotsM zW 4 11).2 := rfl
  rw [q7, e11] at c11
  obtain ⟨g10, g11⟩ := q6
  generalize lotsM zW 4 11 = m10 at c10 c11 g10 g11 e11
  clear e11
  obtain ⟨L10, R10⟩ := m10
  obtain ⟨g1, g2, g3⟩ := q1
  generalize lotM xW 3 2 10 = m5 at c5 g1 g2 g3
  obtain ⟨l5, r5, o5⟩ := m5
  obtain ⟨h1, h2⟩ := q2
  generalize lotM xW 3 2 9 = m6 at c6 h1 h2
  obtain ⟨l6, r6, o6⟩ := m6
  obtain ⟨i1, i2⟩ := q3
  generalize lotM xW 3 8 10 = m7 at c7 i1 i2
  obtain ⟨l7, r7, o7⟩ := m7
  obtain ⟨j1, j2⟩ := q4
  generalize lotM xW 3 1024 10 = m8 at c8 j1 j2
  obtain ⟨l8, r8, o8⟩ := m8
  obtain ⟨k1, k2⟩ := q5
  generalize lotM AWorld.zero 0 0 0 = m9 at c9 k1 k2
  obtain ⟨l9, r9, o9⟩ := m9
  simp only at g1 g2 g3 h1 h2 i1 i2 j1 j2 k1 k2 g10 g11
  subst g1; subst g3; subst h2; subst i2; subst j2; subst k2
  simp only [LotR.d] at c5 c6 c7 c8 c9 c10 c11 c12
  have hS1 := same_lots18 [lotA, lotB] (by decide)
  have hS2 := same_reads18 R10 (by omega)
  refine exPure_sound (E := envOf Tryd.prog tt Tryd.f10.ntmps) (envOf_ok ttok mixed) Tryd.func10 (by rfl) rfl rfl (Nat.le_of_ble_eq_true rfl) ?_
  repeat' ((conv => whnf); first | with_reducible refine Dec.t (show true = true from rfl) ?_ | with_reducible refine Dec.t (show false = false from rfl) ?_ | with_reducible refine Dec.f (show ¬ (true = false) by decide) ?_ | with_reducible refine Dec.f (show ¬ (false = true) by decide) ?_ | refine Dec.t (by omega) ?_ | refine Dec.f (by omega) ?_ | refine Dec.split (fun _ => ?_) (fun _ => ?_) | refine Wr.id (by omega) ?_ | refine Chk.mk (by first | omega | exact rfl | (simp only [List.length_map]; omega) | (simp [room]; done) | (simp [room]; omega) | (simp [dropL, room]; done) | (simp [dropL, room]; omega)) ?_ | refine Nam.mk (List.length_map _) ?_ | refine Prep.skip ?_ | refine Eith.l ?_ | refine chk_t (x := D.flat _) (by assumption) ?_ | refine br_mk (fun _ => ?_) (fun _ => ?_) | refine Nam.mk (List.length_map _) ?_ | refine Nam.mk (y := 6) rfl ?_ | refine Nam.mk (y := 11) rfl ?_ | refine Nam.mk (y := 16) rfl ?_ | refine Nam.mk (y := 0) rfl ?_ | refine Nam.dec (eqLot lotA lotA) (fun _ => ?_) (fun h => absurd rfl h) | (refine ACall.le ?_ c1 ?_; exact ⟨VLe.d zero_le, VLe.refl _, VLe.refl _, VLe.refl _, rfl⟩) | refine ACall.of c2 ?_ | refine ACall.of c3 ?_ | (refine ACall.le ?_ c4 ?_; exact ⟨VLe.d zero_le, VLe.refl _, VLe.refl _, VLe.refl _, rfl⟩) | refine ACall.of c5 ?_ | refine ACall.of c6 ?_ | refine ACall.of c7 ?_ | refine ACall.of c8 ?_ | (refine ACall.le ?_ c9 ?_; exact ⟨VLe.d zero_le, VLe.refl _, VLe.refl _, VLe.refl _, rfl⟩) | (refine ACall.le ?_ hS1 ?_; exact ⟨VLe.refl _, VLe.d (DLe.full _ _ _), rfl⟩) | refine ACall.of hS2 ?_ | refine ACall.of c10 ?_ | refine ACall.of c11 ?_ | refine ACall.of c12 ?_ | fail)
  all_goals (conv => whnf)
  all_goals first | exact DLe.refl _ | exact absurd rfl (by assumption) | (exfalso; rename_i h; exact h rfl) | (exfalso; rename_i h; exact absurd h (by decide))
end Go.PM

