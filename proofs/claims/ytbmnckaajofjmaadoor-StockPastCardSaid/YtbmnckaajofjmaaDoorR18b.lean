/- The reference of layer 18: Lots, Usable, Same, Few. -/
import Derived.Test.YtbmnckaajofjmaaDoorS18b
namespace Go.PM
open Go.Proofs
set_option maxRecDepth 10000
set_option maxHeartbeats 4000000

theorem eqLot (k k' : Lot) : eqD tt 4 44 k.d.cells k'.d.cells = decide (k = k') := by
  rw [show eqD tt 4 44 k.d.cells k'.d.cells = (k.no == k'.no && (k.item == k'.item && (k.plant == k'.plant && (k.amount == k'.amount && (k.expiry == k'.expiry && (k.state == k'.state && true)))))) from rfl]
  rw [Bool.eq_iff_iff]
  cases k; cases k'
  simp

theorem ref18_Same (a b : List (Lot)) (hl : a.length < 2 ^ 40)  : CallP Tryd.prog 19 [.d (SL 6 (a.map Lot.d)), .d (SL 6 (b.map Lot.d))] (retD [.b (decide (a = b))]) := by
  refine exPure_sound (E := envOf Tryd.prog tt Tryd.f19.ntmps) (envOf_ok ttok mixed) Tryd.func19 (by rfl) rfl rfl (Nat.le_of_ble_eq_true rfl) ?_
  by_cases he : a.length = b.length
  · repeat' ((conv => whnf); first | with_reducible refine Dec.t (show true = true from rfl) ?_ | with_reducible refine Dec.t (show false = false from rfl) ?_ | with_reducible refine Dec.f (show ¬ (true = false) by decide) ?_ | with_reducible refine Dec.f (show ¬ (false = true) by decide) ?_ | refine Dec.t (by omega) ?_ | refine Dec.f (by omega) ?_ | refine Dec.split (fun _ => ?_) (fun _ => ?_) | refine Wr.id (by omega) ?_ | refine Chk.mk (by first | omega | exact rfl | (simp only [List.length_map]; omega) | (simp [room]; done) | (simp [room]; omega) | (simp [dropL, room]; done) | (simp [dropL, room]; omega)) ?_ | refine Nam.mk (List.length_map _) ?_ | refine Prep.skip ?_ | refine Eith.l ?_ | refine chk_t (x := D.flat _) (by assumption) ?_ | refine br_mk (fun _ => ?_) (fun _ => ?_))
    conv => whnf
    refine ALoop.at (E := envOf Tryd.prog tt Tryd.f19.ntmps) (envOf_ok ttok mixed) (X := Nat) (fun i => [(5, .d (I i))]) (fun _ => []) (fun i => i ≤ a.length ∧ a.take i = b.take i) (fun i => a.length - i) 0 (by repeat (first | exact trivial | refine And.intro rfl ?_ | refine And.intro (congrArg (fun n => V.d (I n)) (wrap_nat _ (by omega))) ?_)) rfl ⟨Nat.zero_le _, rfl⟩ ?_
    rintro i ⟨hi, hm⟩
    by_cases hlt : i < a.length
    · obtain ⟨x, hx, _⟩ := drop_get hlt
      obtain ⟨y, hy, _⟩ := drop_get (l := b) (i := i) (by omega)
      repeat' ((conv => whnf); first | with_reducible refine Dec.t (show true = true from rfl) ?_ | with_reducible refine Dec.t (show false = false from rfl) ?_ | with_reducible refine Dec.f (show ¬ (true = false) by decide) ?_ | with_reducible refine Dec.f (show ¬ (false = true) by decide) ?_ | refine Dec.t (by omega) ?_ | refine Dec.f (by omega) ?_ | refine Dec.split (fun _ => ?_) (fun _ => ?_) | refine Wr.id (by omega) ?_ | refine Chk.mk (by first | omega | exact rfl | (simp only [List.length_map]; omega) | (simp [room]; done) | (simp [room]; omega) | (simp [dropL, room]; done) | (simp [dropL, room]; omega)) ?_ | refine Nam.mk (List.length_map _) ?_ | refine Prep.skip ?_ | refine Eith.l ?_ | refine chk_t (x := D.flat _) (by assumption) ?_ | refine br_mk (fun _ => ?_) (fun _ => ?_) | refine nthK_mk (map_get hx) ?_ | refine nthK_mk (map_get hy) ?_ | refine Nam.dec (eqLot x y) (fun _ => ?_) (fun _ => ?_))
      all_goals (conv => whnf)
      all_goals try simp only [decide_eq_true_eq, decide_eq_false_iff_not] at *
      all_goals first
        | (have e : x = y := by first | assumption | (simp_all; done)
           subst e
           refine ⟨i + 1, Wm.end (by repeat (first | exact trivial | refine And.intro rfl ?_ | refine And.intro (congrArg (fun n => V.d (I n)) (wrap_nat _ (by omega))) ?_)) rfl rfl rfl, ⟨hlt, ?_⟩, by omega⟩
           rw [List.take_add_one, List.take_add_one, hm, hx, hy])
        | (have e : ¬ x = y := by first | assumption | (simp_all; done)
           rw [decide_eq_false (fun h => e (by subst h; rw [hx] at hy; exact Option.some.inj hy))]; exact DLe.refl _)
    · have : i = a.length := by omega
      subst this
      rw [List.take_length, he, List.take_length] at hm
      repeat' ((conv => whnf); first | with_reducible refine Dec.t (show true = true from rfl) ?_ | with_reducible refine Dec.t (show false = false from rfl) ?_ | with_reducible refine Dec.f (show ¬ (true = false) by decide) ?_ | with_reducible refine Dec.f (show ¬ (false = true) by decide) ?_ | refine Dec.t (by omega) ?_ | refine Dec.f (by omega) ?_ | refine Dec.split (fun _ => ?_) (fun _ => ?_) | refine Wr.id (by omega) ?_ | refine Chk.mk (by first | omega | exact rfl | (simp only [List.length_map]; omega) | (simp [room]; done) | (simp [room]; omega) | (simp [dropL, room]; done) | (simp [dropL, room]; omega)) ?_ | refine Nam.mk (List.length_map _) ?_ | refine Prep.skip ?_ | refine Eith.l ?_ | refine chk_t (x := D.flat _) (by assumption) ?_ | refine br_mk (fun _ => ?_) (fun _ => ?_))
      all_goals (conv => whnf)
      rw [decide_eq_true hm]; exact DLe.refl _
  · repeat' ((conv => whnf); first | with_reducible refine Dec.t (show true = true from rfl) ?_ | with_reducible refine Dec.t (show false = false from rfl) ?_ | with_reducible refine Dec.f (show ¬ (true = false) by decide) ?_ | with_reducible refine Dec.f (show ¬ (false = true) by decide) ?_ | refine Dec.t (by omega) ?_ | refine Dec.f (by omega) ?_ | refine Dec.split (fun _ => ?_) (fun _ => ?_) | refine Wr.id (by omega) ?_ | refine Chk.mk (by first | omega | exact rfl | (simp only [List.length_map]; omega) | (simp [room]; done) | (simp [room]; omega) | (simp [dropL, room]; done) | (simp [dropL, room]; omega)) ?_ | refine Nam.mk (List.length_map _) ?_ | refine Prep.skip ?_ | refine Eith.l ?_ | refine chk_t (x := D.flat _) (by assumption) ?_ | refine br_mk (fun _ => ?_) (fun _ => ?_))
    all_goals (conv => whnf)
    rw [decide_eq_false (fun h => he (by rw [h]))]; exact DLe.refl _

/-- Few facts, which speak of few lots. -/
def few18 (l : List Fact) : Prop := l.length ≤ 60 ∧ ∀ f ∈ l, ¬ (f.kind = 0 ∧ 8 < f.value)
instance (l : List Fact) : Decidable (few18 l) := by unfold few18; infer_instance
theorem ref18_Few (w : AWorld) (hl : w.facts.length < 2 ^ 63) : CallP Tryd.prog 11 [.d w.d] (retD [.b (decide (few18 w.facts))]) := by
  refine exPure_sound (E := envOf Tryd.prog tt Tryd.f11.ntmps) (envOf_ok ttok mixed) Tryd.func11 (by rfl) rfl rfl (Nat.le_of_ble_eq_true rfl) ?_
  repeat' ((conv => whnf); first | with_reducible refine Dec.t (show true = true from rfl) ?_ | with_reducible refine Dec.t (show false = false from rfl) ?_ | with_reducible refine Dec.f (show ¬ (true = false) by decide) ?_ | with_reducible refine Dec.f (show ¬ (false = true) by decide) ?_ | refine Dec.t (by omega) ?_ | refine Dec.f (by omega) ?_ | refine Dec.split (fun _ => ?_) (fun _ => ?_) | refine Wr.id (by omega) ?_ | refine Chk.mk (by first | omega | exact rfl | (simp only [List.length_map]; omega) | (simp [room]; done) | (simp [room]; omega) | (simp [dropL, room]; done) | (simp [dropL, room]; omega)) ?_ | refine Nam.mk (List.length_map _) ?_ | refine Prep.skip ?_ | refine Eith.l ?_ | refine chk_t (x := D.flat _) (by assumption) ?_ | refine br_mk (fun _ => ?_) (fun _ => ?_) | fail)
  all_goals (conv => whnf)
  refine ALoop.at (E := envOf Tryd.prog tt Tryd.f11.ntmps) (envOf_ok ttok mixed) (X := Nat) (fun i => [(3, .d (I i))]) (fun _ => []) (fun i => i ≤ w.facts.length ∧ ∀ f ∈ w.facts.take i, ¬ (f.kind = 0 ∧ 8 < f.value)) (fun i => w.facts.length - i) 0 (by repeat (first | exact trivial | refine And.intro rfl ?_ | refine And.intro (congrArg (fun n => V.d (I n)) (wrap_nat _ (by omega))) ?_)) rfl ⟨Nat.zero_le _, by simp⟩ ?_
  rintro i ⟨hi, hm⟩
  by_cases hlt : i < w.facts.length
  · obtain ⟨f, hf, _⟩ := drop_get hlt
    repeat' ((conv => whnf); first | with_reducible refine Dec.t (show true = true from rfl) ?_ | with_reducible refine Dec.t (show false = false from rfl) ?_ | with_reducible refine Dec.f (show ¬ (true = false) by decide) ?_ | with_reducible refine Dec.f (show ¬ (false = true) by decide) ?_ | refine Dec.t (by omega) ?_ | refine Dec.f (by omega) ?_ | refine Dec.split (fun _ => ?_) (fun _ => ?_) | refine Wr.id (by omega) ?_ | refine Chk.mk (by first | omega | exact rfl | (simp only [List.length_map]; omega) | (simp [room]; done) | (simp [room]; omega) | (simp [dropL, room]; done) | (simp [dropL, room]; omega)) ?_ | refine Nam.mk (List.length_map _) ?_ | refine Prep.skip ?_ | refine Eith.l ?_ | refine chk_t (x := D.flat _) (by assumption) ?_ | refine br_mk (fun _ => ?_) (fun _ => ?_) | refine nthK_mk (map_get hf) ?_ | fail)
    all_goals (conv => whnf)
    all_goals try simp only [decide_eq_true_eq, decide_eq_false_iff_not] at *
    all_goals first
      | (rw [decide_eq_false (fun h => h.2 f (List.mem_of_getElem? hf) ⟨by assumption, by omega⟩)]; exact DLe.refl _)
      | (refine ⟨i + 1, Wm.end (by repeat (first | exact trivial | refine And.intro rfl ?_ | refine And.intro (congrArg (fun n => V.d (I n)) (wrap_nat _ (by omega))) ?_)) rfl rfl rfl, ⟨hlt, fun g hg => ?_⟩, by omega⟩
         rw [List.take_add_one, hf, List.mem_append] at hg
         rcases hg with hg | hg
         · exact hm g hg
         · rw [show g = f by simpa using hg]; omega)
  · have : i = w.facts.length := by omega
    subst this
    rw [List.take_length] at hm
    repeat' ((conv => whnf); first | with_reducible refine Dec.t (show true = true from rfl) ?_ | with_reducible refine Dec.t (show false = false from rfl) ?_ | with_reducible refine Dec.f (show ¬ (true = false) by decide) ?_ | with_reducible refine Dec.f (show ¬ (false = true) by decide) ?_ | refine Dec.t (by omega) ?_ | refine Dec.f (by omega) ?_ | refine Dec.split (fun _ => ?_) (fun _ => ?_) | refine Wr.id (by omega) ?_ | refine Chk.mk (by first | omega | exact rfl | (simp only [List.length_map]; omega) | (simp [room]; done) | (simp [room]; omega) | (simp [dropL, room]; done) | (simp [dropL, room]; omega)) ?_ | refine Nam.mk (List.length_map _) ?_ | refine Prep.skip ?_ | refine Eith.l ?_ | refine chk_t (x := D.flat _) (by assumption) ?_ | refine br_mk (fun _ => ?_) (fun _ => ?_) | fail)
    all_goals (conv => whnf)
    all_goals first
      | (rw [decide_eq_true (show few18 w.facts from ⟨by omega, hm⟩)]; exact DLe.refl _)
      | (rw [decide_eq_false (show ¬ few18 w.facts from fun h => by have := h.1; omega)]; exact DLe.refl _)
theorem ref18_Lots (w : AWorld) (day known : Int) (hl : w.facts.length < 2 ^ 40) (hw : w.wide) : CallP Tryd.prog 16 [.d w.d, .d (I day), .d (I known)] (retD [SL 6 ((lotsM w day known).1.map Lot.d), SL 5 ((lotsM w day known).2.map Read.d)]) := by
  refine exPure_sound (E := envOf Tryd.prog tt Tryd.f16.ntmps) (envOf_ok ttok mixed) Tryd.func16 (by rfl) rfl rfl (Nat.le_of_ble_eq_true rfl) ?_
  unfold lotsM
  have hM := ref18_many w day known hl
  by_cases hd : 0 ≤ day ∧ day < 1024
  · rw [if_pos hd]
    rw [show manyR w.facts day known = manyM w.facts day known from if_pos hd] at hM
    obtain ⟨n1, hn1, hn2⟩ : ∃ n1 : Nat, manyM w.facts day known = n1 ∧ n1 ≤ 1024 := by
      unfold manyM
      cases h0 : atM w.facts headK day known with
      | none => exact ⟨0, rfl, by omega⟩
      | some n0 =>
        have := atM_nonneg h0
        simp only
        split
        · exact ⟨1024, rfl, by omega⟩
        · exact ⟨n0.toNat, by omega, by omega⟩
    have hnt : (manyM w.facts day known).toNat = n1 := by omega
    rw [hnt]
    rw [hn1] at hM
    repeat' ((conv => whnf); first | with_reducible refine Dec.t (show true = true from rfl) ?_ | with_reducible refine Dec.t (show false = false from rfl) ?_ | with_reducible refine Dec.f (show ¬ (true = false) by decide) ?_ | with_reducible refine Dec.f (show ¬ (false = true) by decide) ?_ | refine Dec.t (by omega) ?_ | refine Dec.f (by omega) ?_ | refine Dec.split (fun _ => ?_) (fun _ => ?_) | refine Wr.id (by omega) ?_ | refine Chk.mk (by first | omega | exact rfl | (simp only [List.length_map]; omega) | (simp [room]; done) | (simp [room]; omega) | (simp [dropL, room]; done) | (simp [dropL, room]; omega)) ?_ | refine Nam.mk (List.length_map _) ?_ | refine Prep.skip ?_ | refine Eith.l ?_ | refine chk_t (x := D.flat _) (by assumption) ?_ | refine br_mk (fun _ => ?_) (fun _ => ?_) | refine ACall.ofB (ref18_Day day) (fun _ => ?_) (fun h => absurd hd (of_decide_eq_false h)) | refine ACall.of (ref18_head) ?_ | refine APCall.of (ref18_head) ?_ | refine ACall.of (hM) ?_ | refine APCall.of (hM) ?_ | fail)
    all_goals (conv => whnf)
    refine ALoop.virt 8 6 6 false (by decide) rfl ?_
    conv => whnf
    cases n1 with
    | zero =>
      repeat' ((conv => whnf); first | with_reducible refine Dec.t (show true = true from rfl) ?_ | with_reducible refine Dec.t (show false = false from rfl) ?_ | with_reducible refine Dec.f (show ¬ (true = false) by decide) ?_ | with_reducible refine Dec.f (show ¬ (false = true) by decide) ?_ | refine Dec.t (by omega) ?_ | refine Dec.f (by omega) ?_ | refine Dec.split (fun _ => ?_) (fun _ => ?_) | refine Wr.id (by omega) ?_ | refine Chk.mk (by first | omega | exact rfl | (simp only [List.length_map]; omega) | (simp [room]; done) | (simp [room]; omega) | (simp [dropL, room]; done) | (simp [dropL, room]; omega)) ?_ | refine Nam.mk (List.length_map _) ?_ | refine Prep.skip ?_ | refine Eith.l ?_ | refine chk_t (x := D.flat _) (by assumption) ?_ | refine br_mk (fun _ => ?_) (fun _ => ?_) | refine ALoop.rounds 1 ?_ | refine ALoopN.step (E := (envOf Tryd.prog tt Tryd.f16.ntmps)) (envOf_ok ttok mixed) ?_ | refine Nam.mk (y := []) rfl ?_ | fail)
      all_goals (conv => whnf)
      exact (by repeat (first | exact trivial | exact rfl | exact DLe.refl _ | exact DLe.full _ _ _ | exact DLe.nil _ _ _ | exact VLe.refl _ | refine And.intro ?_ ?_ | refine VLe.d ?_ | refine DLe.agg ?_))
    | succ m =>
      have hF := ref18_lot w 0 day known hl hw hd
      have hfr := findM_reads w.facts 0 day known
      have hne := findM_ne w.facts 0 day known
      generalize hq : findM w.facts 0 day known = q at hF hfr hne
      obtain ⟨lt, rs, ok⟩ := q
      simp only [LotR.d] at hF hfr hne
      have init : ∀ (ds dr : List D) (lr l2 : Nat), ds = (if ok then [lt.d] else []) → dr = (rdOf headK day).d :: rs.map Read.d → lr = ds.length → l2 = dr.length →
          1 ≤ m + 1 ∧ lr ≤ 1 ∧ l2 ≤ 5 * 1 + 1 ∧ lr = ds.length ∧ l2 = dr.length ∧ ds = (lotsF w.facts day known 1).map Lot.d ∧ dr = (rdOf headK day :: readsF w.facts day known 1).map Read.d := fun ds dr lr l2 h1 h2 h3 h4 => by
        have hq' : findM w.facts ((0 : Nat) : Int) day known = ⟨lt, rs, ok⟩ := hq
        refine ⟨by omega, ?_, ?_, h3, h4, ?_, ?_⟩
        · rw [h3, h1]; split <;> simp
        · rw [h4, h2]; simp; omega
        · rw [h1, lotsF_succ, hq']; cases ok <;> rfl
        · rw [h2, readsF_succ, hq']; rfl
      refine ALoop.peel (E := (envOf Tryd.prog tt Tryd.f16.ntmps)) (envOf_ok ttok mixed) ?_
      cases ok
      all_goals
        repeat' ((conv => whnf); first | with_reducible refine Dec.t (show true = true from rfl) ?_ | with_reducible refine Dec.t (show false = false from rfl) ?_ | with_reducible refine Dec.f (show ¬ (true = false) by decide) ?_ | with_reducible refine Dec.f (show ¬ (false = true) by decide) ?_ | refine Dec.t (by omega) ?_ | refine Dec.f (by omega) ?_ | refine Dec.split (fun _ => ?_) (fun _ => ?_) | refine Wr.id (by omega) ?_ | refine Chk.mk (by first | omega | exact rfl | (simp only [List.length_map]; omega) | (simp [room]; done) | (simp [room]; omega) | (simp [dropL, room]; done) | (simp [dropL, room]; omega)) ?_ | refine Nam.mk (List.length_map _) ?_ | refine Prep.skip ?_ | refine Eith.l ?_ | refine chk_t (x := D.flat _) (by assumption) ?_ | refine br_mk (fun _ => ?_) (fun _ => ?_) | refine ACall.of (hF) ?_ | refine APCall.of (hF) ?_ | refine Chk.mk ⟨.inr (by simpa using hne), by simp [room]; omega⟩ ?_ | fail)
      all_goals (conv => whnf)
      all_goals refine ALoop.drop [12, 13, 14, 30, 31, 32, 33, 34, 35, 36, 37, 38, 39, 40, 41, 42, 43, 44, 45, 46, 47, 48, 49, 50, 51, 52, 53] ?_
      all_goals (conv => whnf)
      · refine ALoop.at (E := envOf Tryd.prog tt Tryd.f16.ntmps) (envOf_ok ttok mixed) (X := XLots) (fun x => [(11, .d (I x.i)), (8, .sref 1 x.vr 0 x.lr false), (9, .sref 3 x.v2 0 x.l2 false)]) (fun x => [(1, .row x.vr 6 false x.ds), (3, .row x.v2 5 false x.dr)])
          (fun x => x.i ≤ m + 1 ∧ x.lr ≤ x.i ∧ x.l2 ≤ 5 * x.i + 1 ∧ x.lr = x.ds.length ∧ x.l2 = x.dr.length ∧ x.ds = (lotsF w.facts day known x.i).map Lot.d ∧ x.dr = (rdOf headK day :: readsF w.facts day known x.i).map Read.d) (fun x => m + 1 - x.i)
          ⟨1, 0, 0, [], 0, 1 + (rs.map Read.d).length, [(rdOf headK day).d] ++ rs.map Read.d⟩ (by repeat (first | exact trivial | refine And.intro rfl ?_ | refine And.intro (congrArg (fun n => V.d (I n)) (wrap_nat _ (by omega))) ?_)) rfl (init _ _ _ _ rfl rfl rfl (by simp; omega)) ?_
        rintro ⟨i, vr, lr, ds, v2, l2, dr⟩ ⟨hi, hi1, hi2, hlr, hl2, hds, hdr⟩
        simp only at hi hi1 hi2 hlr hl2 hds hdr
        dsimp only
        clear init hF hfr hne hq
        by_cases hlt : i < m + 1
        · have hF := ref18_lot w i day known hl hw hd
          have hfr := findM_reads w.facts i day known
          have hne := findM_ne w.facts i day known
          have fin : ∀ (q : LotR) (ds' dr' : List D) (lr' l2' : Nat), findM w.facts i day known = q → ds' = ds ++ (if q.ok then [q.l.d] else []) → dr' = dr ++ q.reads.map Read.d → lr' = lr + (if q.ok then 1 else 0) → l2' = l2 + (q.reads.map Read.d).length →
              i + 1 ≤ m + 1 ∧ lr' ≤ i + 1 ∧ l2' ≤ 5 * (i + 1) + 1 ∧ lr' = ds'.length ∧ l2' = dr'.length ∧ ds' = (lotsF w.facts day known (i + 1)).map Lot.d ∧ dr' = (rdOf headK day :: readsF w.facts day known (i + 1)).map Read.d := fun q ds' dr' lr' l2' hq h1 h2 h3 h4 => by
            rw [hq] at hfr
            rw [List.length_map] at h4
            refine ⟨hlt, by split at h3 <;> omega, by omega, ?_, ?_, ?_, ?_⟩
            · rw [h1, h3, hlr, List.length_append]; split <;> simp
            · rw [h2, h4, hl2, List.length_append, List.length_map]
            · rw [h1, hds, lotsF_succ, hq, List.map_append]; congr 1; split <;> rfl
            · rw [h2, hdr, readsF_succ, hq]; simp
          clear hds hdr
          generalize hq : findM w.facts i day known = q at hF hfr hne
          obtain ⟨lt2, rs2, ok⟩ := q
          simp only [LotR.d] at hF hfr hne
          cases ok
          all_goals
            repeat' ((conv => whnf); first | with_reducible refine Dec.t (show true = true from rfl) ?_ | with_reducible refine Dec.t (show false = false from rfl) ?_ | with_reducible refine Dec.f (show ¬ (true = false) by decide) ?_ | with_reducible refine Dec.f (show ¬ (false = true) by decide) ?_ | refine Dec.t (by omega) ?_ | refine Dec.f (by omega) ?_ | refine Dec.split (fun _ => ?_) (fun _ => ?_) | refine Wr.id (by omega) ?_ | refine Chk.mk (by first | omega | exact rfl | (simp only [List.length_map]; omega) | (simp [room]; done) | (simp [room]; omega) | (simp [dropL, room]; done) | (simp [dropL, room]; omega)) ?_ | refine Nam.mk (List.length_map _) ?_ | refine Prep.skip ?_ | refine Eith.l ?_ | refine chk_t (x := D.flat _) (by assumption) ?_ | refine br_mk (fun _ => ?_) (fun _ => ?_) | refine ACall.of (hF) ?_ | refine APCall.of (hF) ?_ | refine Chk.mk ⟨rfl, by simp [hl2], by simp [room]; omega⟩ ?_ | refine Chk.mk ⟨rfl, by simp [hlr], by simp [room]; omega⟩ ?_ | fail)
          all_goals (conv => whnf)
          · exact ⟨⟨i + 1, vr, lr, ds, v2 + 1, l2 + (rs2.map Read.d).length, dr ++ rs2.map Read.d⟩, Wm.end (by repeat (first | exact trivial | refine And.intro rfl ?_ | refine And.intro (congrArg (fun n => V.d (I n)) (wrap_nat _ (by omega))) ?_)) rfl rfl rfl, fin _ _ _ _ _ hq (by simp) rfl rfl rfl, by simp only; omega⟩
          · exact ⟨⟨i + 1, vr + 1, lr + 1, ds ++ [lt2.d], v2 + 1, l2 + (rs2.map Read.d).length, dr ++ rs2.map Read.d⟩, Wm.end (by repeat (first | exact trivial | refine And.intro rfl ?_ | refine And.intro (congrArg (fun n => V.d (I n)) (wrap_nat _ (by omega))) ?_)) rfl rfl rfl, fin _ _ _ _ _ hq rfl rfl rfl rfl, by simp only; omega⟩
        · have : i = m + 1 := by omega
          subst this
          repeat' ((conv => whnf); first | with_reducible refine Dec.t (show true = true from rfl) ?_ | with_reducible refine Dec.t (show false = false from rfl) ?_ | with_reducible refine Dec.f (show ¬ (true = false) by decide) ?_ | with_reducible refine Dec.f (show ¬ (false = true) by decide) ?_ | refine Dec.t (by omega) ?_ | refine Dec.f (by omega) ?_ | refine Dec.split (fun _ => ?_) (fun _ => ?_) | refine Wr.id (by omega) ?_ | refine Chk.mk (by first | omega | exact rfl | (simp only [List.length_map]; omega) | (simp [room]; done) | (simp [room]; omega) | (simp [dropL, room]; done) | (simp [dropL, room]; omega)) ?_ | refine Nam.mk (List.length_map _) ?_ | refine Prep.skip ?_ | refine Eith.l ?_ | refine chk_t (x := D.flat _) (by assumption) ?_ | refine br_mk (fun _ => ?_) (fun _ => ?_) | refine Nam.mk ((whole hlr).trans hds) ?_ | refine Nam.mk ((whole hl2).trans hdr) ?_ | fail)
          all_goals (conv => whnf)
          exact (by repeat (first | exact trivial | exact rfl | exact DLe.refl _ | exact DLe.full _ _ _ | exact DLe.nil _ _ _ | exact VLe.refl _ | refine And.intro ?_ ?_ | refine VLe.d ?_ | refine DLe.agg ?_))
      · refine ALoop.at (E := envOf Tryd.prog tt Tryd.f16.ntmps) (envOf_ok ttok mixed) (X := XLots) (fun x => [(11, .d (I x.i)), (8, .sref 1 x.vr 0 x.lr false), (9, .sref 3 x.v2 0 x.l2 false)]) (fun x => [(1, .row x.vr 6 false x.ds), (3, .row x.v2 5 false x.dr)])
          (fun x => x.i ≤ m + 1 ∧ x.lr ≤ x.i ∧ x.l2 ≤ 5 * x.i + 1 ∧ x.lr = x.ds.length ∧ x.l2 = x.dr.length ∧ x.ds = (lotsF w.facts day known x.i).map Lot.d ∧ x.dr = (rdOf headK day :: readsF w.facts day known x.i).map Read.d) (fun x => m + 1 - x.i)
          ⟨1, 1, 1, [lt.d], 0, 1 + (rs.map Read.d).length, [(rdOf headK day).d] ++ rs.map Read.d⟩ (by repeat (first | exact trivial | refine And.intro rfl ?_ | refine And.intro (congrArg (fun n => V.d (I n)) (wrap_nat _ (by omega))) ?_)) rfl (init _ _ _ _ rfl rfl rfl (by simp; omega)) ?_
        rintro ⟨i, vr, lr, ds, v2, l2, dr⟩ ⟨hi, hi1, hi2, hlr, hl2, hds, hdr⟩
        simp only at hi hi1 hi2 hlr hl2 hds hdr
        dsimp only
        clear init hF hfr hne hq
        by_cases hlt : i < m + 1
        · have hF := ref18_lot w i day known hl hw hd
          have hfr := findM_reads w.facts i day known
          have hne := findM_ne w.facts i day known
          have fin : ∀ (q : LotR) (ds' dr' : List D) (lr' l2' : Nat), findM w.facts i day known = q → ds' = ds ++ (if q.ok then [q.l.d] else []) → dr' = dr ++ q.reads.map Read.d → lr' = lr + (if q.ok then 1 else 0) → l2' = l2 + (q.reads.map Read.d).length →
              i + 1 ≤ m + 1 ∧ lr' ≤ i + 1 ∧ l2' ≤ 5 * (i + 1) + 1 ∧ lr' = ds'.length ∧ l2' = dr'.length ∧ ds' = (lotsF w.facts day known (i + 1)).map Lot.d ∧ dr' = (rdOf headK day :: readsF w.facts day known (i + 1)).map Read.d := fun q ds' dr' lr' l2' hq h1 h2 h3 h4 => by
            rw [hq] at hfr
            rw [List.length_map] at h4
            refine ⟨hlt, by split at h3 <;> omega, by omega, ?_, ?_, ?_, ?_⟩
            · rw [h1, h3, hlr, List.length_append]; split <;> simp
            · rw [h2, h4, hl2, List.length_append, List.length_map]
            · rw [h1, hds, lotsF_succ, hq, List.map_append]; congr 1; split <;> rfl
            · rw [h2, hdr, readsF_succ, hq]; simp
          clear hds hdr
          generalize hq : findM w.facts i day known = q at hF hfr hne
          obtain ⟨lt2, rs2, ok⟩ := q
          simp only [LotR.d] at hF hfr hne
          cases ok
          all_goals
            repeat' ((conv => whnf); first | with_reducible refine Dec.t (show true = true from rfl) ?_ | with_reducible refine Dec.t (show false = false from rfl) ?_ | with_reducible refine Dec.f (show ¬ (true = false) by decide) ?_ | with_reducible refine Dec.f (show ¬ (false = true) by decide) ?_ | refine Dec.t (by omega) ?_ | refine Dec.f (by omega) ?_ | refine Dec.split (fun _ => ?_) (fun _ => ?_) | refine Wr.id (by omega) ?_ | refine Chk.mk (by first | omega | exact rfl | (simp only [List.length_map]; omega) | (simp [room]; done) | (simp [room]; omega) | (simp [dropL, room]; done) | (simp [dropL, room]; omega)) ?_ | refine Nam.mk (List.length_map _) ?_ | refine Prep.skip ?_ | refine Eith.l ?_ | refine chk_t (x := D.flat _) (by assumption) ?_ | refine br_mk (fun _ => ?_) (fun _ => ?_) | refine ACall.of (hF) ?_ | refine APCall.of (hF) ?_ | refine Chk.mk ⟨rfl, by simp [hl2], by simp [room]; omega⟩ ?_ | refine Chk.mk ⟨rfl, by simp [hlr], by simp [room]; omega⟩ ?_ | fail)
          all_goals (conv => whnf)
          · exact ⟨⟨i + 1, vr, lr, ds, v2 + 1, l2 + (rs2.map Read.d).length, dr ++ rs2.map Read.d⟩, Wm.end (by repeat (first | exact trivial | refine And.intro rfl ?_ | refine And.intro (congrArg (fun n => V.d (I n)) (wrap_nat _ (by omega))) ?_)) rfl rfl rfl, fin _ _ _ _ _ hq (by simp) rfl rfl rfl, by simp only; omega⟩
          · exact ⟨⟨i + 1, vr + 1, lr + 1, ds ++ [lt2.d], v2 + 1, l2 + (rs2.map Read.d).length, dr ++ rs2.map Read.d⟩, Wm.end (by repeat (first | exact trivial | refine And.intro rfl ?_ | refine And.intro (congrArg (fun n => V.d (I n)) (wrap_nat _ (by omega))) ?_)) rfl rfl rfl, fin _ _ _ _ _ hq rfl rfl rfl rfl, by simp only; omega⟩
        · have : i = m + 1 := by omega
          subst this
          repeat' ((conv => whnf); first | with_reducible refine Dec.t (show true = true from rfl) ?_ | with_reducible refine Dec.t (show false = false from rfl) ?_ | with_reducible refine Dec.f (show ¬ (true = false) by decide) ?_ | with_reducible refine Dec.f (show ¬ (false = true) by decide) ?_ | refine Dec.t (by omega) ?_ | refine Dec.f (by omega) ?_ | refine Dec.split (fun _ => ?_) (fun _ => ?_) | refine Wr.id (by omega) ?_ | refine Chk.mk (by first | omega | exact rfl | (simp only [List.length_map]; omega) | (simp [room]; done) | (simp [room]; omega) | (simp [dropL, room]; done) | (simp [dropL, room]; omega)) ?_ | refine Nam.mk (List.length_map _) ?_ | refine Prep.skip ?_ | refine Eith.l ?_ | refine chk_t (x := D.flat _) (by assumption) ?_ | refine br_mk (fun _ => ?_) (fun _ => ?_) | refine Nam.mk ((whole hlr).trans hds) ?_ | refine Nam.mk ((whole hl2).trans hdr) ?_ | fail)
          all_goals (conv => whnf)
          exact (by repeat (first | exact trivial | exact rfl | exact DLe.refl _ | exact DLe.full _ _ _ | exact DLe.nil _ _ _ | exact VLe.refl _ | refine And.intro ?_ ?_ | refine VLe.d ?_ | refine DLe.agg ?_))
  · rw [if_neg hd]
    repeat' ((conv => whnf); first | with_reducible refine Dec.t (show true = true from rfl) ?_ | with_reducible refine Dec.t (show false = false from rfl) ?_ | with_reducible refine Dec.f (show ¬ (true = false) by decide) ?_ | with_reducible refine Dec.f (show ¬ (false = true) by decide) ?_ | refine Dec.t (by omega) ?_ | refine Dec.f (by omega) ?_ | refine Dec.split (fun _ => ?_) (fun _ => ?_) | refine Wr.id (by omega) ?_ | refine Chk.mk (by first | omega | exact rfl | (simp only [List.length_map]; omega) | (simp [room]; done) | (simp [room]; omega) | (simp [dropL, room]; done) | (simp [dropL, room]; omega)) ?_ | refine Nam.mk (List.length_map _) ?_ | refine Prep.skip ?_ | refine Eith.l ?_ | refine chk_t (x := D.flat _) (by assumption) ?_ | refine br_mk (fun _ => ?_) (fun _ => ?_) | refine ACall.ofB (ref18_Day day) (fun h => absurd (of_decide_eq_true h) hd) (fun _ => ?_) | fail)
    all_goals (conv => whnf)
    all_goals exact (by repeat (first | exact trivial | exact rfl | exact DLe.refl _ | exact DLe.full _ _ _ | exact DLe.nil _ _ _ | exact VLe.refl _ | refine And.intro ?_ ?_ | refine VLe.d ?_ | refine DLe.agg ?_))
end Go.PM

