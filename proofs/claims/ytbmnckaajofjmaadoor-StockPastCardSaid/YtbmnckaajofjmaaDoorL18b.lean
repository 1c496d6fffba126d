/- StockReads, StockPast, their contracts. -/
import Derived.Test.YtbmnckaajofjmaaDoorL18a
import Derived.Test.YtbmnckaajofjmaaDoorF04c
namespace Go.PM
open Go.Proofs
set_option maxRecDepth 10000
set_option maxHeartbeats 8000000

theorem alike_at {l : List Fact} {k : Key} {d a b : Int} (h0 : 0 ≤ d) (h1 : d ≤ 1023) (h : valuesM l k d (d + 1) a = valuesM l k d (d + 1) b) : atM l k d a = atM l k d b := by
  have hl : lo0 d = d := by unfold lo0; rw [if_neg (by omega)]
  have hn : daysN d (d + 1) = 1 := by unfold daysN; rw [hl]; unfold hi0; rw [if_neg (by omega)]; omega
  unfold valuesM at h
  rw [hn, hl] at h
  simp only [List.range_one, List.map_cons, List.map_nil, List.cons.injEq, and_true, Int.natCast_zero, Int.add_zero] at h
  unfold atM
  rw [valOf_vOf, valOf_vOf, h]
theorem findM_alike (l : List Fact) (no day a b : Int) (h : ∀ k, rdOf k day ∈ (findM l no day a).reads → atM l k day b = atM l k day a) : findM l no day b = findM l no day a := by
  unfold findM at h ⊢
  cases e0 : atM l (lotKey no 0) day a with
  | none => simp only [e0] at h ⊢; simp only [h (lotKey no 0) (by simp), e0]
  | some x0 => cases e1 : atM l (lotKey no 1) day a with
    | none => simp only [e0, e1] at h ⊢; simp only [h (lotKey no 0) (by simp), h (lotKey no 1) (by simp), e0, e1]
    | some x1 => cases e2 : atM l (lotKey no 2) day a with
      | none => simp only [e0, e1, e2] at h ⊢; simp only [h (lotKey no 0) (by simp), h (lotKey no 1) (by simp), h (lotKey no 2) (by simp), e0, e1, e2]
      | some x2 => cases e3 : atM l (lotKey no 3) day a with
        | none => simp only [e0, e1, e2, e3] at h ⊢; simp only [h (lotKey no 0) (by simp), h (lotKey no 1) (by simp), h (lotKey no 2) (by simp), h (lotKey no 3) (by simp), e0, e1, e2, e3]
        | some x3 => cases e4 : atM l (lotKey no 4) day a with
          | none => simp only [e0, e1, e2, e3, e4] at h ⊢; simp only [h (lotKey no 0) (by simp), h (lotKey no 1) (by simp), h (lotKey no 2) (by simp), h (lotKey no 3) (by simp), h (lotKey no 4) (by simp), e0, e1, e2, e3, e4]
          | some x4 => simp only [e0, e1, e2, e3, e4] at h ⊢; simp only [h (lotKey no 0) (by simp), h (lotKey no 1) (by simp), h (lotKey no 2) (by simp), h (lotKey no 3) (by simp), h (lotKey no 4) (by simp), e0, e1, e2, e3, e4]
theorem lotM_alike (w : AWorld) (no day a b : Int) (h : 0 ≤ day ∧ day < 1024 → ∀ k, rdOf k day ∈ (lotM w no day a).reads → atM w.facts k day b = atM w.facts k day a) : lotM w no day b = lotM w no day a := by
  by_cases hd : 0 ≤ day ∧ day < 1024
  · replace h := h hd
    unfold lotM at h ⊢
    rw [if_pos hd] at h ⊢
    rw [if_pos hd]
    have h0 : atM w.facts headK day b = atM w.facts headK day a := h headK (by split <;> simp)
    have hm : manyM w.facts day b = manyM w.facts day a := by unfold manyM; rw [h0]
    rw [hm]
    by_cases hn : 0 ≤ no ∧ no < manyM w.facts day a
    · rw [if_pos hn] at h ⊢
      rw [if_pos hn]
      rw [findM_alike w.facts no day a b fun k hk => h k (.tail _ hk)]
    · rw [if_neg hn, if_neg hn]
  · unfold lotM; rw [if_neg hd, if_neg hd]
theorem lotsF_congr (l : List Fact) (day a b : Int) : ∀ n : Nat, (∀ i : Nat, i < n → findM l i day b = findM l i day a) → lotsF l day b n = lotsF l day a n ∧ readsF l day b n = readsF l day a n
  | 0, _ => ⟨rfl, rfl⟩
  | n + 1, h => by
    obtain ⟨h1, h2⟩ := lotsF_congr l day a b n fun i hi => h i (by omega)
    rw [lotsF_succ, lotsF_succ, readsF_succ, readsF_succ, h1, h2, h n (by omega)]
    exact ⟨rfl, rfl⟩
theorem lotsM_alike (w : AWorld) (day a b : Int) (h : 0 ≤ day ∧ day < 1024 → ∀ k, rdOf k day ∈ (lotsM w day a).2 → atM w.facts k day b = atM w.facts k day a) : lotsM w day b = lotsM w day a := by
  by_cases hd : 0 ≤ day ∧ day < 1024
  · replace h := h hd
    unfold lotsM at h ⊢
    rw [if_pos hd] at h ⊢
    rw [if_pos hd]
    have h0 : atM w.facts headK day b = atM w.facts headK day a := h headK (.head _)
    have hm : manyM w.facts day b = manyM w.facts day a := by unfold manyM; rw [h0]
    rw [hm]
    have hf : ∀ i : Nat, i < (manyM w.facts day a).toNat → findM w.facts i day b = findM w.facts i day a := fun i hi => findM_alike w.facts i day a b fun k hk => h k (.tail _ (by
      unfold readsF
      exact List.mem_flatMap.2 ⟨i, List.mem_range.2 hi, hk⟩))
    obtain ⟨e1, e2⟩ := lotsF_congr w.facts day a b (manyM w.facts day a).toNat hf
    rw [e1, e2]
  · unfold lotsM; rw [if_neg hd, if_neg hd]
theorem alike_reads {l : List Fact} {rs : List Read} {day a b : Int} (h : alikeM l rs a b) : 0 ≤ day ∧ day < 1024 → ∀ k, rdOf k day ∈ rs → atM l k day b = atM l k day a := fun hd k hk => (alike_at (d := day) (by omega) (by omega) (h _ hk)).symm
theorem usableM_alike (w : AWorld) (line : Line) (day a b : Int) (h : alikeM w.facts (usableM w line day a).2 a b) : usableM w line day b = usableM w line day a := by
  unfold usableM at h ⊢
  by_cases hc : line.config = 0
  · rw [if_pos hc] at h ⊢
    rw [if_pos hc, lotsM_alike w day a b (alike_reads h)]
  · rw [if_neg hc, if_neg hc]
theorem law18_Reads (w : AWorld) (line : Line) (no day before_ after_ : Int) (hl40 : w.facts.length < 2 ^ 63) : CallP Tryd.prog 9 [.d w.d, .d line.d, .d (I no), .d (I day), .d (I before_), .d (I after_)] (retD [.b true]) := by
  refine exPure_sound (E := envOf Tryd.prog tt Tryd.f9.ntmps) (envOf_ok ttok mixed) Tryd.func9 (by rfl) rfl rfl (Nat.le_of_ble_eq_true rfl) ?_
  have hFew := ref18_Few w hl40
  by_cases hs : few18 w.facts
  · have hl : w.facts.length ≤ 60 := hs.1
    rw [decide_eq_true hs] at hFew
    have a1 := stock_Lot w no day before_ (by omega)
    have r1 := lotM_reads w no day before_
    have b1 : alikeM w.facts (lotM w no day before_).reads before_ after_ → CallP Tryd.prog 12 [.d w.d, .d (I no), .d (I day), .d (I after_)] (lotM w no day before_).d := fun h => by
      have := stock_Lot w no day after_ (by omega)
      rwa [lotM_alike w no day before_ after_ (alike_reads h)] at this
    have k1 := facts_Alike w.facts (lotM w no day before_).reads before_ after_ (by omega) (by omega)
    have a2 := stock_Lots w day before_ (by omega)
    have n2 := lotsM_len w day before_
    have b2 : alikeM w.facts (lotsM w day before_).2 before_ after_ → CallP Tryd.prog 15 [.d w.d, .d (I day), .d (I after_)] (retD [SL 6 ((lotsM w day before_).1.map Lot.d), SL 5 ((lotsM w day before_).2.map Read.d)]) := fun h => by
      have := stock_Lots w day after_ (by omega)
      rwa [lotsM_alike w day before_ after_ (alike_reads h)] at this
    have k2 := facts_Alike w.facts (lotsM w day before_).2 before_ after_ (by omega) (by omega)
    have a3 := stock_Usable w line day before_ (by omega)
    have n3 := usableM_len w line day before_
    have b3 : alikeM w.facts (usableM w line day before_).2 before_ after_ → CallP Tryd.prog 17 [.d w.d, .d line.d, .d (I day), .d (I after_)] (retD [SL 6 ((usableM w line day before_).1.map Lot.d), SL 5 ((usableM w line day before_).2.map Read.d)]) := fun h => by
      have := stock_Usable w line day after_ (by omega)
      rwa [usableM_alike w line day before_ after_ h] at this
    have k3 := facts_Alike w.facts (usableM w line day before_).2 before_ after_ (by omega) (by omega)
    generalize lotM w no day before_ = m1 at a1 b1 r1 k1
    obtain ⟨t1, s1, o1⟩ := m1
    generalize lotsM w day before_ = m2 at a2 b2 n2 k2
    obtain ⟨t2, s2⟩ := m2
    generalize usableM w line day before_ = m3 at a3 b3 n3 k3
    obtain ⟨t3, s3⟩ := m3
    simp only [LotR.d] at a1 b1 r1 k1 a2 b2 n2 k2 a3 b3 n3 k3
    have e1 := same_reads18 s1 (by omega)
    have e2 := same_reads18 s2 (by omega)
    have e3 := same_reads18 s3 (by omega)
    have f2 := same_lots18 t2 (by omega)
    have f3 := same_lots18 t3 (by omega)
    by_cases h1 : alikeM w.facts s1 before_ after_ <;> by_cases h2 : alikeM w.facts s2 before_ after_ <;> by_cases h3 : alikeM w.facts s3 before_ after_ <;> cases o1
    all_goals simp only [h1, h2, h3, decide_true, decide_false] at k1 k2 k3
    all_goals try replace b1 := b1 h1
    all_goals try replace b2 := b2 h2
    all_goals try replace b3 := b3 h3
    all_goals clear h1 h2 h3
    all_goals
      repeat' ((conv => whnf); first | with_reducible refine Dec.t (show true = true from rfl) ?_ | with_reducible refine Dec.t (show false = false from rfl) ?_ | with_reducible refine Dec.f (show ¬ (true = false) by decide) ?_ | with_reducible refine Dec.f (show ¬ (false = true) by decide) ?_ | refine Dec.t (by omega) ?_ | refine Dec.f (by omega) ?_ | refine Dec.split (fun _ => ?_) (fun _ => ?_) | refine Wr.id (by omega) ?_ | refine Chk.mk (by first | omega | exact rfl | (simp only [List.length_map]; omega) | (simp [room]; done) | (simp [room]; omega) | (simp [dropL, room]; done) | (simp [dropL, room]; omega)) ?_ | refine Nam.mk (List.length_map _) ?_ | refine Prep.skip ?_ | refine Eith.l ?_ | refine chk_t (x := D.flat _) (by assumption) ?_ | refine br_mk (fun _ => ?_) (fun _ => ?_) | refine ACall.of (law18_sane) ?_ | refine APCall.of (law18_sane) ?_ | refine ACall.of hFew ?_ | refine ACall.of a1 ?_ | refine ACall.of b1 ?_ | refine ACall.of k1 ?_ | refine ACall.of a2 ?_ | refine ACall.of b2 ?_ | refine ACall.of k2 ?_ | refine ACall.of a3 ?_ | refine ACall.of b3 ?_ | refine ACall.of k3 ?_ | refine ACall.of e1 ?_ | refine ACall.of e2 ?_ | refine ACall.of e3 ?_ | refine ACall.of f2 ?_ | refine ACall.of f3 ?_ | refine Nam.dec (eqLot t1 t1) (fun _ => ?_) (fun h => absurd rfl h) | fail)
    all_goals (conv => whnf)
    all_goals exact (by repeat (first | exact trivial | exact rfl | exact DLe.refl _ | exact DLe.full _ _ _ | exact DLe.nil _ _ _ | exact VLe.refl _ | refine And.intro ?_ ?_ | refine VLe.d ?_ | refine DLe.agg ?_))
  · rw [decide_eq_false hs] at hFew
    repeat' ((conv => whnf); first | with_reducible refine Dec.t (show true = true from rfl) ?_ | with_reducible refine Dec.t (show false = false from rfl) ?_ | with_reducible refine Dec.f (show ¬ (true = false) by decide) ?_ | with_reducible refine Dec.f (show ¬ (false = true) by decide) ?_ | refine Dec.t (by omega) ?_ | refine Dec.f (by omega) ?_ | refine Dec.split (fun _ => ?_) (fun _ => ?_) | refine Wr.id (by omega) ?_ | refine Chk.mk (by first | omega | exact rfl | (simp only [List.length_map]; omega) | (simp [room]; done) | (simp [room]; omega) | (simp [dropL, room]; done) | (simp [dropL, room]; omega)) ?_ | refine Nam.mk (List.length_map _) ?_ | refine Prep.skip ?_ | refine Eith.l ?_ | refine chk_t (x := D.flat _) (by assumption) ?_ | refine br_mk (fun _ => ?_) (fun _ => ?_) | refine ACall.of (law18_sane) ?_ | refine APCall.of (law18_sane) ?_ | refine ACall.of hFew ?_ | fail)
    all_goals (conv => whnf)
    all_goals exact (by repeat (first | exact trivial | exact rfl | exact DLe.refl _ | exact DLe.full _ _ _ | exact DLe.nil _ _ _ | exact VLe.refl _ | refine And.intro ?_ ?_ | refine VLe.d ?_ | refine DLe.agg ?_))

theorem at_upto (l : List Fact) (k : Key) (d t : Int) : atM (l.filter fun f => decide (f.known ≤ t)) k d t = atM l k d t := by
  unfold atM atF
  congr 1
  generalize (none : Option Fact) = o
  induction l generalizing o with
  | nil => rfl
  | cons f l ih =>
    rw [List.filter_cons, List.foldl_cons]
    by_cases h : f.known ≤ t
    · rw [if_pos (by simpa using h), List.foldl_cons]; exact ih _
    · rw [if_neg (by simpa using h)]
      have : atStep k d t o f = o := by
        unfold atStep
        rw [if_neg (fun hh => h hh.2.1)]
      rw [this]; exact ih _
theorem find_upto (l : List Fact) (no d t : Int) : findM (l.filter fun f => decide (f.known ≤ t)) no d t = findM l no d t := by
  unfold findM; simp only [at_upto]
def AWorld.upto (w : AWorld) (t : Int) : AWorld := { w with facts := w.facts.filter fun f => decide (f.known ≤ t) }
theorem lots_upto (w : AWorld) (d t : Int) : lotsM (w.upto t) d t = lotsM w d t := by
  unfold lotsM
  simp only [AWorld.upto, manyM, at_upto, lotsF, readsF, find_upto]
theorem usable_upto (w : AWorld) (line : Line) (d t : Int) : usableM (w.upto t) line d t = usableM w line d t := by
  unfold usableM; rw [lots_upto]
theorem law18_Past (w : AWorld) (line : Line) (day known : Int) (hl40 : w.facts.length < 2 ^ 63) : CallP Tryd.prog 8 [.d w.d, .d line.d, .d (I day), .d (I known)] (retD [.b true]) := by
  refine exPure_sound (E := envOf Tryd.prog tt Tryd.f8.ntmps) (envOf_ok ttok mixed) Tryd.func8 (by rfl) rfl rfl (Nat.le_of_ble_eq_true rfl) ?_
  have hFew := ref18_Few w hl40
  by_cases hs : few18 w.facts
  · have hl : w.facts.length ≤ 60 := hs.1
    rw [decide_eq_true hs] at hFew
    have hU := facts_Upto w.facts known (by omega)
    have hul : (w.upto known).facts.length ≤ 60 := Nat.le_trans (List.length_filter_le _ _) hl
    have a1 := stock_Lots w day known (by omega)
    have b1 := stock_Lots (w.upto known) day known (by omega)
    rw [lots_upto] at b1
    have n1 := lotsM_len w day known
    have a2 := stock_Usable w line day known (by omega)
    have b2 := stock_Usable (w.upto known) line day known (by omega)
    rw [usable_upto] at b2
    have n2 := usableM_len w line day known
    generalize lotsM w day known = m1 at a1 b1 n1
    obtain ⟨t1, s1⟩ := m1
    generalize usableM w line day known = m2 at a2 b2 n2
    obtain ⟨t2, s2⟩ := m2
    simp only at a1 b1 n1 a2 b2 n2
    have e1 := same_reads18 s1 (by omega)
    have e2 := same_reads18 s2 (by omega)
    have f1 := same_lots18 t1 (by omega)
    have f2 := same_lots18 t2 (by omega)
    repeat' ((conv => whnf); first | with_reducible refine Dec.t (show true = true from rfl) ?_ | with_reducible refine Dec.t (show false = false from rfl) ?_ | with_reducible refine Dec.f (show ¬ (true = false) by decide) ?_ | with_reducible refine Dec.f (show ¬ (false = true) by decide) ?_ | refine Dec.t (by omega) ?_ | refine Dec.f (by omega) ?_ | refine Dec.split (fun _ => ?_) (fun _ => ?_) | refine Wr.id (by omega) ?_ | refine Chk.mk (by first | omega | exact rfl | (simp only [List.length_map]; omega) | (simp [room]; done) | (simp [room]; omega) | (simp [dropL, room]; done) | (simp [dropL, room]; omega)) ?_ | refine Nam.mk (List.length_map _) ?_ | refine Prep.skip ?_ | refine Eith.l ?_ | refine chk_t (x := D.flat _) (by assumption) ?_ | refine br_mk (fun _ => ?_) (fun _ => ?_) | refine ACall.of (law18_sane) ?_ | refine APCall.of (law18_sane) ?_ | refine ACall.of hFew ?_ | refine ACall.of hU ?_ | refine ACall.of a1 ?_ | refine ACall.of b1 ?_ | refine ACall.of a2 ?_ | refine ACall.of b2 ?_ | refine ACall.of e1 ?_ | refine ACall.of e2 ?_ | refine ACall.of f1 ?_ | refine ACall.of f2 ?_ | fail)
    all_goals (conv => whnf)
    all_goals exact (by repeat (first | exact trivial | exact rfl | exact DLe.refl _ | exact DLe.full _ _ _ | exact DLe.nil _ _ _ | exact VLe.refl _ | refine And.intro ?_ ?_ | refine VLe.d ?_ | refine DLe.agg ?_))
  · rw [decide_eq_false hs] at hFew
    repeat' ((conv => whnf); first | with_reducible refine Dec.t (show true = true from rfl) ?_ | with_reducible refine Dec.t (show false = false from rfl) ?_ | with_reducible refine Dec.f (show ¬ (true = false) by decide) ?_ | with_reducible refine Dec.f (show ¬ (false = true) by decide) ?_ | refine Dec.t (by omega) ?_ | refine Dec.f (by omega) ?_ | refine Dec.split (fun _ => ?_) (fun _ => ?_) | refine Wr.id (by omega) ?_ | refine Chk.mk (by first | omega | exact rfl | (simp only [List.length_map]; omega) | (simp [room]; done) | (simp [room]; omega) | (simp [dropL, room]; done) | (simp [dropL, room]; omega)) ?_ | refine Nam.mk (List.length_map _) ?_ | refine Prep.skip ?_ | refine Eith.l ?_ | refine chk_t (x := D.flat _) (by assumption) ?_ | refine br_mk (fun _ => ?_) (fun _ => ?_) | refine ACall.of (law18_sane) ?_ | refine APCall.of (law18_sane) ?_ | refine ACall.of hFew ?_ | fail)
    all_goals (conv => whnf)
    all_goals exact (by repeat (first | exact trivial | exact rfl | exact DLe.refl _ | exact DLe.full _ _ _ | exact DLe.nil _ _ _ | exact VLe.refl _ | refine And.intro ?_ ?_ | refine VLe.d ?_ | refine DLe.agg ?_))
end Go.PM

