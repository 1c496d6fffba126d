/- StockLotSpec, StockPutSpec, their contracts. -/
import Derived.Test.YtbmnckaajofjmaaDoorS18s
namespace Go.PM
open Go.Proofs
set_option maxRecDepth 10000
set_option maxHeartbeats 8000000

theorem manyM_le (l : List Fact) (day known : Int) : 0 ≤ manyM l day known ∧ manyM l day known ≤ 1024 := by
  unfold manyM
  cases h0 : atM l headK day known with
  | none => simp
  | some n0 =>
    have := atM_nonneg h0
    simp only
    split <;> omega
theorem lotsM_len (w : AWorld) (day known : Int) : (lotsM w day known).1.length ≤ 1024 ∧ (lotsM w day known).2.length ≤ 6000 := by
  have := manyM_le w.facts day known
  unfold lotsM
  split
  · have h1 := lotsF_len w.facts day known (manyM w.facts day known).toNat
    have h2 := readsF_len w.facts day known (manyM w.facts day known).toNat
    simp only [List.length_cons]
    omega
  · simp
theorem usF_len {l : List Lot} (h : l.Pairwise (fun a b => a.no < b.no)) : (usF l).length = l.length := by
  have := (usF_spec l [] List.Pairwise.nil h (by simp)).2
  unfold usF
  simpa using this.length_eq
theorem usableM_len (w : AWorld) (line : Line) (day known : Int) : (usableM w line day known).1.length ≤ 1024 ∧ (usableM w line day known).2.length ≤ 6000 := by
  have h := lotsM_len w day known
  unfold usableM
  split
  · have h1 := usF_len ((lotsM_no w day known).filter (fitsL line day))
    have h2 := List.length_filter_le (fitsL line day) (lotsM w day known).1
    simp only
    omega
  · simp
theorem law18_LotSpec (w : AWorld) (line : Line) (no day known : Int) (hw : w.wide) (hl40 : w.facts.length < 2 ^ 63) : CallP Tryd.prog 3 [.d w.d, .d line.d, .d (I no), .d (I day), .d (I known)] (retD [.b true]) := by
  refine exPure_sound (E := envOf Tryd.prog tt Tryd.f3.ntmps) (envOf_ok ttok mixed) Tryd.func3 (by rfl) rfl rfl (Nat.le_of_ble_eq_true rfl) ?_
  by_cases hs : few18 w.facts
  · have hl : w.facts.length ≤ 60 := hs.1
    have hFew := ref18_Few w (by omega)
    rw [decide_eq_true hs] at hFew
    have hA := fun n => stock_Lot w n day known (by omega)
    have hB := fun n => ref18_Lot w n day known (by omega) hw
    have hR := fun n => lotM_reads w n day known
    have a1 := hA no
    have b1 := hB no
    have r1 := hR no
    have a2 := hA 0
    have b2 := hB 0
    have r2 := hR 0
    have a3 := hA 1
    have b3 := hB 1
    have r3 := hR 1
    clear hA hB hR
    generalize lotM w no day known = m1 at a1 b1 r1
    generalize lotM w 0 day known = m2 at a2 b2 r2
    generalize lotM w 1 day known = m3 at a3 b3 r3
    obtain ⟨t1, s1, o1⟩ := m1
    obtain ⟨t2, s2, o2⟩ := m2
    obtain ⟨t3, s3, o3⟩ := m3
    simp only [LotR.d] at a1 b1 r1 a2 b2 r2 a3 b3 r3
    have e1 := same_reads18 s1 (by omega)
    have e2 := same_reads18 s2 (by omega)
    have e3 := same_reads18 s3 (by omega)
    have c1 := stock_Lots w day known (by omega)
    have c2 := ref18_Lots w day known (by omega) hw
    have c3 := stock_Usable w line day known (by omega)
    have c4 := ref18_Usable w line day known (by omega) hw
    have n1 := lotsM_len w day known
    have n2 := usableM_len w line day known
    generalize lotsM w day known = q1 at c1 c2 n1
    generalize usableM w line day known = q2 at c3 c4 n2
    obtain ⟨L1, R1⟩ := q1
    obtain ⟨L2, R2⟩ := q2
    simp only at c1 c2 n1 c3 c4 n2
    have f1 := same_lots18 L1 (by omega)
    have f2 := same_reads18 R1 (by omega)
    have f3 := same_lots18 L2 (by omega)
    have f4 := same_reads18 R2 (by omega)
    cases o1 <;> cases o2 <;> cases o3
    all_goals
      repeat' ((conv => whnf); first | with_reducible refine Dec.t (show true = true from rfl) ?_ | with_reducible refine Dec.t (show false = false from rfl) ?_ | with_reducible refine Dec.f (show ¬ (true = false) by decide) ?_ | with_reducible refine Dec.f (show ¬ (false = true) by decide) ?_ | refine Dec.t (by omega) ?_ | refine Dec.f (by omega) ?_ | refine Dec.split (fun _ => ?_) (fun _ => ?_) | refine Wr.id (by omega) ?_ | refine Chk.mk (by first | omega | exact rfl | (simp only [List.length_map]; omega) | (simp [room]; done) | (simp [room]; omega) | (simp [dropL, room]; done) | (simp [dropL, room]; omega)) ?_ | refine Nam.mk (List.length_map _) ?_ | refine Prep.skip ?_ | refine Eith.l ?_ | refine chk_t (x := D.flat _) (by assumption) ?_ | refine br_mk (fun _ => ?_) (fun _ => ?_) | refine ACall.of (law18_sane) ?_ | refine APCall.of (law18_sane) ?_ | refine ACall.of hFew ?_ | refine Nam.mk (y := 3) rfl ?_ | refine ALoop.rounds 4 ?_ | refine ALoopN.step (E := (envOf Tryd.prog tt Tryd.f3.ntmps)) (envOf_ok ttok mixed) ?_ | refine ACall.of a1 ?_ | refine ACall.of b1 ?_ | refine ACall.of a2 ?_ | refine ACall.of b2 ?_ | refine ACall.of a3 ?_ | refine ACall.of b3 ?_ | refine ACall.of e1 ?_ | refine ACall.of e2 ?_ | refine ACall.of e3 ?_ | refine Nam.dec (eqLot t1 t1) (fun _ => ?_) (fun h => absurd rfl h) | refine Nam.dec (eqLot t2 t2) (fun _ => ?_) (fun h => absurd rfl h) | refine Nam.dec (eqLot t3 t3) (fun _ => ?_) (fun h => absurd rfl h) | refine ACall.of c1 ?_ | refine ACall.of c2 ?_ | refine ACall.of c3 ?_ | refine ACall.of c4 ?_ | refine ACall.of f1 ?_ | refine ACall.of f2 ?_ | refine ACall.of f3 ?_ | refine ACall.of f4 ?_ | fail)
    all_goals (conv => whnf)
    all_goals exact (by repeat (first | exact trivial | exact rfl | exact DLe.refl _ | exact DLe.full _ _ _ | exact DLe.nil _ _ _ | exact VLe.refl _ | refine And.intro ?_ ?_ | refine VLe.d ?_ | refine DLe.agg ?_))
  · have hFew := ref18_Few w hl40
    rw [decide_eq_false hs] at hFew
    repeat' ((conv => whnf); first | with_reducible refine Dec.t (show true = true from rfl) ?_ | with_reducible refine Dec.t (show false = false from rfl) ?_ | with_reducible refine Dec.f (show ¬ (true = false) by decide) ?_ | with_reducible refine Dec.f (show ¬ (false = true) by decide) ?_ | refine Dec.t (by omega) ?_ | refine Dec.f (by omega) ?_ | refine Dec.split (fun _ => ?_) (fun _ => ?_) | refine Wr.id (by omega) ?_ | refine Chk.mk (by first | omega | exact rfl | (simp only [List.length_map]; omega) | (simp [room]; done) | (simp [room]; omega) | (simp [dropL, room]; done) | (simp [dropL, room]; omega)) ?_ | refine Nam.mk (List.length_map _) ?_ | refine Prep.skip ?_ | refine Eith.l ?_ | refine chk_t (x := D.flat _) (by assumption) ?_ | refine br_mk (fun _ => ?_) (fun _ => ?_) | refine ACall.of (law18_sane) ?_ | refine APCall.of (law18_sane) ?_ | refine ACall.of hFew ?_ | fail)
    all_goals (conv => whnf)
    all_goals exact (by repeat (first | exact trivial | exact rfl | exact DLe.refl _ | exact DLe.full _ _ _ | exact DLe.nil _ _ _ | exact VLe.refl _ | refine And.intro ?_ ?_ | refine VLe.d ?_ | refine DLe.agg ?_))
theorem addM_len2 (l : List Fact) (f : Fact) : (addM l f).1.length ≤ l.length + 1 := addM_len l f
theorem addsM_len : ∀ (fs l : List Fact), (addsM l fs).1.length ≤ l.length + fs.length
  | [], l => by simp [addsM]
  | f :: fs, l => by
    unfold addsM
    have h1 := addM_len l f
    split
    · have := addsM_len fs (addM l f).1
      simp only [List.length_cons]; omega
    · simp
theorem putM_len (l : List Fact) (x : Lot) (a b known : Int) : (putM l x a b known).1.length ≤ l.length + 6 := by
  unfold putM
  have h1 := addsM_len (lotFacts x a b known (nextNo l known)) l
  have h2 : (lotFacts x a b known (nextNo l known)).length = 5 := rfl
  repeat' split
  · have h3 := addsM_len [headFact (raisedM (addsM l (lotFacts x a b known (nextNo l known))).1 x.no a b known).1 known (nextNo l known + 1 + 1 + 1 + 1 + 1)] (addsM l (lotFacts x a b known (nextNo l known))).1
    simp only [List.length_singleton] at h3
    omega
  · omega
  · omega
  · simp
  · simp
theorem law18_PutSpec (w : AWorld) (x : Lot) (a b known : Int) (hl40 : w.facts.length < 2 ^ 63) (hxa : x.amount ≤ 9223372036854775807) (hu : ∃ sz f xs, w.u2 = .sl sz f xs) : CallP Tryd.prog 4 [.d w.d, .d x.d, .d (spanD a b), .d (I known)] (retD [.b true]) := by
  refine exPure_sound (E := envOf Tryd.prog tt Tryd.f4.ntmps) (envOf_ok ttok mixed) Tryd.func4 (by rfl) rfl rfl (Nat.le_of_ble_eq_true rfl) ?_
  by_cases hs : few18 w.facts
  · have hl : w.facts.length ≤ 60 := hs.1
    have hFew := ref18_Few w (by omega)
    rw [decide_eq_true hs] at hFew
    have c1 := stock_Put w x a b known (by omega)
    have c2 := ref18_Put w x a b known (by omega) hxa
    have n1 := putM_len w.facts x a b known
    generalize putM w.facts x a b known = r at c1 c2 n1
    obtain ⟨l', e⟩ := r
    obtain ⟨sz, fu, us, hu⟩ := hu
    by_cases he : e = 0
    · have hw : w.put (l', e) = { w with facts := l' } := by unfold AWorld.put; rw [if_pos he]
      rw [hw] at c1 c2
      simp only [AWorld.d, hu] at c1 c2 n1
      have f1 := same_facts18 l' (by omega)
      simp only [AWorld.d, hu] at hFew ⊢
      repeat' ((conv => whnf); first | with_reducible refine Dec.t (show true = true from rfl) ?_ | with_reducible refine Dec.t (show false = false from rfl) ?_ | with_reducible refine Dec.f (show ¬ (true = false) by decide) ?_ | with_reducible refine Dec.f (show ¬ (false = true) by decide) ?_ | refine Dec.t (by omega) ?_ | refine Dec.f (by omega) ?_ | refine Dec.split (fun _ => ?_) (fun _ => ?_) | refine Wr.id (by omega) ?_ | refine Chk.mk (by first | omega | exact rfl | (simp only [List.length_map]; omega) | (simp [room]; done) | (simp [room]; omega) | (simp [dropL, room]; done) | (simp [dropL, room]; omega)) ?_ | refine Nam.mk (List.length_map _) ?_ | refine Prep.skip ?_ | refine Eith.l ?_ | refine chk_t (x := D.flat _) (by assumption) ?_ | refine br_mk (fun _ => ?_) (fun _ => ?_) | refine ACall.of (law18_sane) ?_ | refine APCall.of (law18_sane) ?_ | refine ACall.of hFew ?_ | refine ACall.of c1 ?_ | refine ACall.of c2 ?_ | refine ACall.of f1 ?_ | refine Nam.mk (y := us.length) rfl ?_ | fail)
      all_goals (conv => whnf)
      all_goals first | exact DLe.refl _ | trace_state
    · have hw : w.put (l', e) = AWorld.zero := by unfold AWorld.put; rw [if_neg he]
      rw [hw] at c1 c2
      simp only at c1 c2 n1
      have f1 := same_facts18 [] (by simp)
      repeat' ((conv => whnf); first | with_reducible refine Dec.t (show true = true from rfl) ?_ | with_reducible refine Dec.t (show false = false from rfl) ?_ | with_reducible refine Dec.f (show ¬ (true = false) by decide) ?_ | with_reducible refine Dec.f (show ¬ (false = true) by decide) ?_ | refine Dec.t (by omega) ?_ | refine Dec.f (by omega) ?_ | refine Dec.split (fun _ => ?_) (fun _ => ?_) | refine Wr.id (by omega) ?_ | refine Chk.mk (by first | omega | exact rfl | (simp only [List.length_map]; omega) | (simp [room]; done) | (simp [room]; omega) | (simp [dropL, room]; done) | (simp [dropL, room]; omega)) ?_ | refine Nam.mk (List.length_map _) ?_ | refine Prep.skip ?_ | refine Eith.l ?_ | refine chk_t (x := D.flat _) (by assumption) ?_ | refine br_mk (fun _ => ?_) (fun _ => ?_) | refine ACall.of (law18_sane) ?_ | refine APCall.of (law18_sane) ?_ | refine ACall.of hFew ?_ | refine ACall.of c1 ?_ | refine ACall.of c2 ?_ | refine ACall.of f1 ?_ | refine Nam.mk (y := 0) rfl ?_ | fail)
      all_goals (conv => whnf)
      all_goals first | exact DLe.refl _ | trace_state
  · have hFew := ref18_Few w hl40
    rw [decide_eq_false hs] at hFew
    repeat' ((conv => whnf); first | with_reducible refine Dec.t (show true = true from rfl) ?_ | with_reducible refine Dec.t (show false = false from rfl) ?_ | with_reducible refine Dec.f (show ¬ (true = false) by decide) ?_ | with_reducible refine Dec.f (show ¬ (false = true) by decide) ?_ | refine Dec.t (by omega) ?_ | refine Dec.f (by omega) ?_ | refine Dec.split (fun _ => ?_) (fun _ => ?_) | refine Wr.id (by omega) ?_ | refine Chk.mk (by first | omega | exact rfl | (simp only [List.length_map]; omega) | (simp [room]; done) | (simp [room]; omega) | (simp [dropL, room]; done) | (simp [dropL, room]; omega)) ?_ | refine Nam.mk (List.length_map _) ?_ | refine Prep.skip ?_ | refine Eith.l ?_ | refine chk_t (x := D.flat _) (by assumption) ?_ | refine br_mk (fun _ => ?_) (fun _ => ?_) | refine ACall.of (law18_sane) ?_ | refine APCall.of (law18_sane) ?_ | refine ACall.of hFew ?_ | fail)
    all_goals (conv => whnf)
    all_goals exact (by repeat (first | exact trivial | exact rfl | exact DLe.refl _ | exact DLe.full _ _ _ | exact DLe.nil _ _ _ | exact VLe.refl _ | refine And.intro ?_ ?_ | refine VLe.d ?_ | refine DLe.agg ?_))
end Go.PM

