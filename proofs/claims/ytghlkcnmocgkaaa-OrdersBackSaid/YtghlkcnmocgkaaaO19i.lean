/- The reference of package orders: Order and Orders. -/
import Derived.Test.YtghlkcnmocgkaaaO19h
namespace Go.PM
open Go.Proofs
set_option maxRecDepth 10000
set_option maxHeartbeats 4000000

theorem ref19_Order (w : OWorld) (no day known : Int) (hl : w.facts.length < 2 ^ 40) (hf : w.src.few) (hw : w.src.wide) : CallP Try.prog 12 [.d w.d, .d (I no), .d (I day), .d (I known)] (orderM w no day known).d := by
  refine exPure_sound (E := envOf Try.prog tt Try.f12.ntmps) (envOf_ok ttok mixed) Try.func12 (by rfl) rfl rfl (Nat.le_of_ble_eq_true rfl) ?_
  unfold orderM
  have hM := ref19_many w 1 day known hl
  by_cases hd : dayM day
  · rw [if_pos hd]
    rw [show manyR w.facts 1 day known = manyM w.facts 1 day known from if_pos hd] at hM
    have hF := ref19_order w no day known hl hf hw hd
    have hfr := findM_reads w no day known
    have hne := findM_ne w no day known
    by_cases hn : 0 ≤ no ∧ no < manyM w.facts 1 day known
    · rw [if_pos hn]
      obtain ⟨hn1, hn2⟩ := hn
      generalize findM w no day known = q at hF hfr hne
      obtain ⟨lt, rs, ok⟩ := q
      simp only [OrdR.d] at hF hfr hne ⊢
      repeat' ((conv => whnf); first | with_reducible refine Dec.t (show true = true from rfl) ?_ | with_reducible refine Dec.t (show false = false from rfl) ?_ | with_reducible refine Dec.f (show ¬ (true = false) by decide) ?_ | with_reducible refine Dec.f (show ¬ (false = true) by decide) ?_ | refine Dec.t (by omega) ?_ | refine Dec.f (by omega) ?_ | refine Dec.split (fun _ => ?_) (fun _ => ?_) | refine Wr.id (by omega) ?_ | refine Chk.mk (by first | omega | exact rfl | (simp only [List.length_map]; omega) | (simp [room]; done) | (simp [room]; omega) | (simp [dropL, room]; done) | (simp [dropL, room]; omega)) ?_ | refine Nam.mk (List.length_map _) ?_ | refine Prep.skip ?_ | refine Eith.l ?_ | refine chk_t (x := D.flat _) (by assumption) ?_ | refine br_mk (fun _ => ?_) (fun _ => ?_) | refine ACall.ofB (ref19_Day day) (fun _ => ?_) (fun h => absurd hd (of_decide_eq_false h)) | refine ACall.of (ref19_Head 1) ?_ | refine APCall.of (ref19_Head 1) ?_ | refine ACall.of (hM) ?_ | refine APCall.of (hM) ?_ | refine ACall.of (hF) ?_ | refine APCall.of (hF) ?_ | refine Chk.mk ⟨.inr (by simpa using hne), by simp [room]; omega⟩ ?_ | refine Nam.mk (y := (rdOf (headO 1) day :: rs).map Read.d) (whole (by simp [dropL]; omega)) ?_ | fail)
      all_goals (conv => whnf)
      all_goals first | exact (by repeat (first | exact trivial | exact rfl | exact DLe.refl _ | exact DLe.full _ _ _ | exact DLe.nil _ _ _ | exact VLe.refl _ | refine And.intro ?_ ?_ | refine VLe.d ?_ | refine DLe.agg ?_)) | trace_state
    · rw [if_neg hn]
      repeat' ((conv => whnf); first | with_reducible refine Dec.t (show true = true from rfl) ?_ | with_reducible refine Dec.t (show false = false from rfl) ?_ | with_reducible refine Dec.f (show ¬ (true = false) by decide) ?_ | with_reducible refine Dec.f (show ¬ (false = true) by decide) ?_ | refine Dec.t (by omega) ?_ | refine Dec.f (by omega) ?_ | refine Dec.split (fun _ => ?_) (fun _ => ?_) | refine Wr.id (by omega) ?_ | refine Chk.mk (by first | omega | exact rfl | (simp only [List.length_map]; omega) | (simp [room]; done) | (simp [room]; omega) | (simp [dropL, room]; done) | (simp [dropL, room]; omega)) ?_ | refine Nam.mk (List.length_map _) ?_ | refine Prep.skip ?_ | refine Eith.l ?_ | refine chk_t (x := D.flat _) (by assumption) ?_ | refine br_mk (fun _ => ?_) (fun _ => ?_) | refine ACall.ofB (ref19_Day day) (fun _ => ?_) (fun h => absurd hd (of_decide_eq_false h)) | refine ACall.of (ref19_Head 1) ?_ | refine APCall.of (ref19_Head 1) ?_ | refine ACall.of (hM) ?_ | refine APCall.of (hM) ?_ | fail)
      all_goals (conv => whnf)
      all_goals exact (by repeat (first | exact trivial | exact rfl | exact DLe.refl _ | exact DLe.full _ _ _ | exact DLe.nil _ _ _ | exact VLe.refl _ | refine And.intro ?_ ?_ | refine VLe.d ?_ | refine DLe.agg ?_))
  · rw [if_neg hd]
    repeat' ((conv => whnf); first | with_reducible refine Dec.t (show true = true from rfl) ?_ | with_reducible refine Dec.t (show false = false from rfl) ?_ | with_reducible refine Dec.f (show ¬ (true = false) by decide) ?_ | with_reducible refine Dec.f (show ¬ (false = true) by decide) ?_ | refine Dec.t (by omega) ?_ | refine Dec.f (by omega) ?_ | refine Dec.split (fun _ => ?_) (fun _ => ?_) | refine Wr.id (by omega) ?_ | refine Chk.mk (by first | omega | exact rfl | (simp only [List.length_map]; omega) | (simp [room]; done) | (simp [room]; omega) | (simp [dropL, room]; done) | (simp [dropL, room]; omega)) ?_ | refine Nam.mk (List.length_map _) ?_ | refine Prep.skip ?_ | refine Eith.l ?_ | refine chk_t (x := D.flat _) (by assumption) ?_ | refine br_mk (fun _ => ?_) (fun _ => ?_) | refine ACall.ofB (ref19_Day day) (fun h => absurd (of_decide_eq_true h) hd) (fun _ => ?_) | fail)
    all_goals (conv => whnf)
    all_goals exact (by repeat (first | exact trivial | exact rfl | exact DLe.refl _ | exact DLe.full _ _ _ | exact DLe.nil _ _ _ | exact VLe.refl _ | refine And.intro ?_ ?_ | refine VLe.d ?_ | refine DLe.agg ?_))

theorem ref19_Orders (w : OWorld) (day known : Int) (hl : w.facts.length < 2 ^ 40) (hf : w.src.few) (hw : w.src.wide) : CallP Try.prog 15 [.d w.d, .d (I day), .d (I known)] (retD [SL 8 ((ordersM w day known).1.map Ord.d), SL 5 ((ordersM w day known).2.map Read.d)]) := by
  refine exPure_sound (E := envOf Try.prog tt Try.f15.ntmps) (envOf_ok ttok mixed) Try.func15 (by rfl) rfl rfl (Nat.le_of_ble_eq_true rfl) ?_
  unfold ordersM
  have hM := ref19_many w 1 day known hl
  by_cases hd : dayM day
  · rw [if_pos hd]
    rw [show manyR w.facts 1 day known = manyM w.facts 1 day known from if_pos hd] at hM
    obtain ⟨n1, hn1, hn2⟩ : ∃ n1 : Nat, manyM w.facts 1 day known = n1 ∧ n1 ≤ 1024 := by
      unfold manyM
      cases h0 : atM w.facts (headO 1) day known with
      | none => exact ⟨0, rfl, by omega⟩
      | some n0 =>
        have := atM_nonneg h0
        simp only
        split
        · exact ⟨1024, rfl, by omega⟩
        · exact ⟨n0.toNat, by omega, by omega⟩
    have hnt : (manyM w.facts 1 day known).toNat = n1 := by omega
    rw [hnt]
    rw [hn1] at hM
    repeat' ((conv => whnf); first | with_reducible refine Dec.t (show true = true from rfl) ?_ | with_reducible refine Dec.t (show false = false from rfl) ?_ | with_reducible refine Dec.f (show ¬ (true = false) by decide) ?_ | with_reducible refine Dec.f (show ¬ (false = true) by decide) ?_ | refine Dec.t (by omega) ?_ | refine Dec.f (by omega) ?_ | refine Dec.split (fun _ => ?_) (fun _ => ?_) | refine Wr.id (by omega) ?_ | refine Chk.mk (by first | omega | exact rfl | (simp only [List.length_map]; omega) | (simp [room]; done) | (simp [room]; omega) | (simp [dropL, room]; done) | (simp [dropL, room]; omega)) ?_ | refine Nam.mk (List.length_map _) ?_ | refine Prep.skip ?_ | refine Eith.l ?_ | refine chk_t (x := D.flat _) (by assumption) ?_ | refine br_mk (fun _ => ?_) (fun _ => ?_) | refine ACall.ofB (ref19_Day day) (fun _ => ?_) (fun h => absurd hd (of_decide_eq_false h)) | refine ACall.of (ref19_Head 1) ?_ | refine APCall.of (ref19_Head 1) ?_ | refine ACall.of (hM) ?_ | refine APCall.of (hM) ?_ | fail)
    all_goals (conv => whnf)
    refine ALoop.virt 8 8 8 false (by decide) rfl ?_
    conv => whnf
    cases n1 with
    | zero =>
      repeat' ((conv => whnf); first | with_reducible refine Dec.t (show true = true from rfl) ?_ | with_reducible refine Dec.t (show false = false from rfl) ?_ | with_reducible refine Dec.f (show ¬ (true = false) by decide) ?_ | with_reducible refine Dec.f (show ¬ (false = true) by decide) ?_ | refine Dec.t (by omega) ?_ | refine Dec.f (by omega) ?_ | refine Dec.split (fun _ => ?_) (fun _ => ?_) | refine Wr.id (by omega) ?_ | refine Chk.mk (by first | omega | exact rfl | (simp only [List.length_map]; omega) | (simp [room]; done) | (simp [room]; omega) | (simp [dropL, room]; done) | (simp [dropL, room]; omega)) ?_ | refine Nam.mk (List.length_map _) ?_ | refine Prep.skip ?_ | refine Eith.l ?_ | refine chk_t (x := D.flat _) (by assumption) ?_ | refine br_mk (fun _ => ?_) (fun _ => ?_) | refine ALoop.rounds 1 ?_ | refine ALoopN.step (E := (envOf Try.prog tt Try.f15.ntmps)) (envOf_ok ttok mixed) ?_ | refine Nam.mk (y := []) rfl ?_ | fail)
      all_goals (conv => whnf)
      exact (by repeat (first | exact trivial | exact rfl | exact DLe.refl _ | exact DLe.full _ _ _ | exact DLe.nil _ _ _ | exact VLe.refl _ | refine And.intro ?_ ?_ | refine VLe.d ?_ | refine DLe.agg ?_))
    | succ m =>
      have hF := ref19_order w 0 day known hl hf hw hd
      have hfr := findM_reads w 0 day known
      have hne := findM_ne w 0 day known
      generalize hq : findM w 0 day known = q at hF hfr hne
      obtain ⟨lt, rs, ok⟩ := q
      simp only [OrdR.d] at hF hfr hne
      have init : ∀ (ds dr : List D) (lr l2 : Nat), ds = (if ok then [lt.d] else []) → dr = (rdOf (headO 1) day).d :: rs.map Read.d → lr = ds.length → l2 = dr.length →
          1 ≤ m + 1 ∧ lr ≤ 1 ∧ l2 ≤ 7 * 1 + 1 ∧ lr = ds.length ∧ l2 = dr.length ∧ ds = (ordersF w day known 1).map Ord.d ∧ dr = (rdOf (headO 1) day :: readsF w day known 1).map Read.d := fun ds dr lr l2 h1 h2 h3 h4 => by
        have hq' : findM w ((0 : Nat) : Int) day known = ⟨lt, rs, ok⟩ := hq
        refine ⟨by omega, ?_, ?_, h3, h4, ?_, ?_⟩
        · rw [h3, h1]; split <;> simp
        · rw [h4, h2]; simp; omega
        · rw [h1, ordersF_succ, hq']; cases ok <;> rfl
        · rw [h2, readsF_succ, hq']; rfl
      refine ALoop.peel (E := (envOf Try.prog tt Try.f15.ntmps)) (envOf_ok ttok mixed) ?_
      cases ok
      all_goals
        repeat' ((conv => whnf); first | with_reducible refine Dec.t (show true = true from rfl) ?_ | with_reducible refine Dec.t (show false = false from rfl) ?_ | with_reducible refine Dec.f (show ¬ (true = false) by decide) ?_ | with_reducible refine Dec.f (show ¬ (false = true) by decide) ?_ | refine Dec.t (by omega) ?_ | refine Dec.f (by omega) ?_ | refine Dec.split (fun _ => ?_) (fun _ => ?_) | refine Wr.id (by omega) ?_ | refine Chk.mk (by first | omega | exact rfl | (simp only [List.length_map]; omega) | (simp [room]; done) | (simp [room]; omega) | (simp [dropL, room]; done) | (simp [dropL, room]; omega)) ?_ | refine Nam.mk (List.length_map _) ?_ | refine Prep.skip ?_ | refine Eith.l ?_ | refine chk_t (x := D.flat _) (by assumption) ?_ | refine br_mk (fun _ => ?_) (fun _ => ?_) | refine ACall.of (hF) ?_ | refine APCall.of (hF) ?_ | refine Chk.mk ⟨.inr (by simpa using hne), by simp [room]; omega⟩ ?_ | fail)
      all_goals (conv => whnf)
      all_goals refine ALoop.drop [12, 13, 14, 30, 31, 32, 33, 34, 35, 36, 37, 38, 39, 40, 41, 42, 43, 44, 45, 46, 47, 48, 49, 50, 51, 52, 53] ?_
      all_goals (conv => whnf)
      · refine ALoop.at (E := envOf Try.prog tt Try.f15.ntmps) (envOf_ok ttok mixed) (X := XLots) (fun x => [(11, .d (I x.i)), (8, .sref 1 x.vr 0 x.lr false), (9, .sref 3 x.v2 0 x.l2 false)]) (fun x => [(1, .row x.vr 8 false x.ds), (3, .row x.v2 5 false x.dr)])
          (fun x => x.i ≤ m + 1 ∧ x.lr ≤ x.i ∧ x.l2 ≤ 7 * x.i + 1 ∧ x.lr = x.ds.length ∧ x.l2 = x.dr.length ∧ x.ds = (ordersF w day known x.i).map Ord.d ∧ x.dr = (rdOf (headO 1) day :: readsF w day known x.i).map Read.d) (fun x => m + 1 - x.i)
          ⟨1, 0, 0, [], 0, 1 + (rs.map Read.d).length, [(rdOf (headO 1) day).d] ++ rs.map Read.d⟩ (by repeat (first | exact trivial | refine And.intro rfl ?_ | refine And.intro (congrArg (fun n => V.d (I n)) (wrap_nat _ (by omega))) ?_)) rfl (init _ _ _ _ rfl rfl rfl (by simp; omega)) ?_
        rintro ⟨i, vr, lr, ds, v2, l2, dr⟩ ⟨hi, hi1, hi2, hlr, hl2, hds, hdr⟩
        simp only at hi hi1 hi2 hlr hl2 hds hdr
        dsimp only
        clear init hF hfr hne hq
        by_cases hlt : i < m + 1
        · have hF := ref19_order w i day known hl hf hw hd
          have hfr := findM_reads w i day known
          have hne := findM_ne w i day known
          have fin : ∀ (q : OrdR) (ds' dr' : List D) (lr' l2' : Nat), findM w i day known = q → ds' = ds ++ (if q.ok then [q.l.d] else []) → dr' = dr ++ q.reads.map Read.d → lr' = lr + (if q.ok then 1 else 0) → l2' = l2 + (q.reads.map Read.d).length →
              i + 1 ≤ m + 1 ∧ lr' ≤ i + 1 ∧ l2' ≤ 7 * (i + 1) + 1 ∧ lr' = ds'.length ∧ l2' = dr'.length ∧ ds' = (ordersF w day known (i + 1)).map Ord.d ∧ dr' = (rdOf (headO 1) day :: readsF w day known (i + 1)).map Read.d := fun q ds' dr' lr' l2' hq h1 h2 h3 h4 => by
            rw [hq] at hfr
            rw [List.length_map] at h4
            refine ⟨hlt, by split at h3 <;> omega, by omega, ?_, ?_, ?_, ?_⟩
            · rw [h1, h3, hlr, List.length_append]; split <;> simp
            · rw [h2, h4, hl2, List.length_append, List.length_map]
            · rw [h1, hds, ordersF_succ, hq, List.map_append]; congr 1; split <;> rfl
            · rw [h2, hdr, readsF_succ, hq]; simp
          clear hds hdr
          generalize hq : findM w i day known = q at hF hfr hne
          obtain ⟨lt2, rs2, ok⟩ := q
          simp only [OrdR.d] at hF hfr hne
          cases ok
          all_goals
            repeat' ((conv => whnf); first | with_reducible refine Dec.t (show true = true from rfl) ?_ | with_reducible refine Dec.t (show false = false from rfl) ?_ | with_reducible refine Dec.f (show ¬ (true = false) by decide) ?_ | with_reducible refine Dec.f (show ¬ (false = true) by decide) ?_ | refine Dec.t (by omega) ?_ | refine Dec.f (by omega) ?_ | refine Dec.split (fun _ => ?_) (fun _ => ?_) | refine Wr.id (by omega) ?_ | refine Chk.mk (by first | omega | exact rfl | (simp only [List.length_map]; omega) | (simp [room]; done) | (simp [room]; omega) | (simp [dropL, room]; done) | (simp [dropL, room]; omega)) ?_ | refine Nam.mk (List.length_map _) ?_ | refine Prep.skip ?_ | refine Eith.l ?_ | refine chk_t (x := D.flat _) (by assumption) ?_ | refine br_mk (fun _ => ?_) (fun _ => ?_) | refine ACall.of (hF) ?_ | refine APCall.of (hF) ?_ | refine Chk.mk ⟨rfl, by simp [hl2], by simp [room]; omega⟩ ?_ | refine Chk.mk ⟨rfl, by simp [hlr], by simp [room]; omega⟩ ?_ | fail)
          all_goals (conv => whnf)
          · exact ⟨⟨i + 1, vr, lr, ds, v2 + 1, l2 + (rs2.map Read.d).length, dr ++ rs2.map Read.d⟩, Wm.end (by repeat (first | exact trivial | refine And.intro rfl ?_ | refine And.intro (congrArg (fun n => V.d (I n)) (wrap_nat _ (by omega))) ?_)) rfl rfl rfl, fin _ _ _ _ _ hq (by simp) rfl rfl rfl, by simp only; omega⟩
          · exact ⟨⟨i + 1, vr + 1, lr + 1, ds ++ [lt2.d], v2 + 1, l2 + (rs2.map Read.d).length, dr ++ rs2.map Read.d⟩, Wm.end (by repeat (first | exact trivial | refine And.intro rfl ?_ | refine And.intro (congrArg (fun n => V.d (I n)) (wrap_nat _ (by omega))) ?_)) rfl rfl rfl, fin _ _ _ _ _ hq rfl rfl rfl rfl, by simp only; omega⟩
        · have : i = m + 1 := by omega
          subst this
          repeat' ((conv => whnf); first | with_reducible refine Dec.t (show true = true from rfl) ?_ | with_reducible refine Dec.t (show false = false from rfl) ?_ | with_reducible refine Dec.f (show ¬ (true = false) by decide) ?_ | with_reducible refine Dec.f (show ¬ (false = true) by decide) ?_ | refine Dec.t (by omega) ?_ | refine Dec.f (by omega) ?_ | refine Dec.split (fun _ => ?_) (fun _ => ?_) | refine Wr.id (by omega) ?_ | refine Chk.mk (by first | omega | exact rfl | (simp only [List.length_map]; omega) | (simp [room]; done) | (simp [room]; omega) | (simp [dropL, room]; done) | (simp [dropL, room]; omega)) ?_ | refine Nam.mk (List.length_map _) ?_ | refine Prep.skip ?_ | refine Eith.l ?_ | refine chk_t (x := D.flat _) (by assumption) ?_ | refine br_mk (fun _ => ?_) (fun _ => ?_) | refine Nam.mk ((whole hlr).trans hds) ?_ | refine Nam.mk ((whole hl2).trans hdr) ?_ | fail)
          all_goals (conv => whnf)
          exact (by repeat (first | exact trivial | exact rfl | exact DLe.refl _ | exact DLe.full _ _ _ | exact DLe.nil _ _ _ | exact VLe.refl _ | refine And.intro ?_ ?_ | refine VLe.d ?_ | refine DLe.agg ?_))
      · refine ALoop.at (E := envOf Try.prog tt Try.f15.ntmps) (envOf_ok ttok mixed) (X := XLots) (fun x => [(11, .d (I x.i)), (8, .sref 1 x.vr 0 x.lr false), (9, .sref 3 x.v2 0 x.l2 false)]) (fun x => [(1, .row x.vr 8 false x.ds), (3, .row x.v2 5 false x.dr)])
          (fun x => x.i ≤ m + 1 ∧ x.lr ≤ x.i ∧ x.l2 ≤ 7 * x.i + 1 ∧ x.lr = x.ds.length ∧ x.l2 = x.dr.length ∧ x.ds = (ordersF w day known x.i).map Ord.d ∧ x.dr = (rdOf (headO 1) day :: readsF w day known x.i).map Read.d) (fun x => m + 1 - x.i)
          ⟨1, 1, 1, [lt.d], 0, 1 + (rs.map Read.d).length, [(rdOf (headO 1) day).d] ++ rs.map Read.d⟩ (by repeat (first | exact trivial | refine And.intro rfl ?_ | refine And.intro (congrArg (fun n => V.d (I n)) (wrap_nat _ (by omega))) ?_)) rfl (init _ _ _ _ rfl rfl rfl (by simp; omega)) ?_
        rintro ⟨i, vr, lr, ds, v2, l2, dr⟩ ⟨hi, hi1, hi2, hlr, hl2, hds, hdr⟩
        simp only at hi hi1 hi2 hlr hl2 hds hdr
        dsimp only
        clear init hF hfr hne hq
        by_cases hlt : i < m + 1
        · have hF := ref19_order w i day known hl hf hw hd
          have hfr := findM_reads w i day known
          have hne := findM_ne w i day known
          have fin : ∀ (q : OrdR) (ds' dr' : List D) (lr' l2' : Nat), findM w i day known = q → ds' = ds ++ (if q.ok then [q.l.d] else []) → dr' = dr ++ q.reads.map Read.d → lr' = lr + (if q.ok then 1 else 0) → l2' = l2 + (q.reads.map Read.d).length →
              i + 1 ≤ m + 1 ∧ lr' ≤ i + 1 ∧ l2' ≤ 7 * (i + 1) + 1 ∧ lr' = ds'.length ∧ l2' = dr'.length ∧ ds' = (ordersF w day known (i + 1)).map Ord.d ∧ dr' = (rdOf (headO 1) day :: readsF w day known (i + 1)).map Read.d := fun q ds' dr' lr' l2' hq h1 h2 h3 h4 => by
            rw [hq] at hfr
            rw [List.length_map] at h4
            refine ⟨hlt, by split at h3 <;> omega, by omega, ?_, ?_, ?_, ?_⟩
            · rw [h1, h3, hlr, List.length_append]; split <;> simp
            · rw [h2, h4, hl2, List.length_append, List.length_map]
            · rw [h1, hds, ordersF_succ, hq, List.map_append]; congr 1; split <;> rfl
            · rw [h2, hdr, readsF_succ, hq]; simp
          clear hds hdr
          generalize hq : findM w i day known = q at hF hfr hne
          obtain ⟨lt2, rs2, ok⟩ := q
          simp only [OrdR.d] at hF hfr hne
          cases ok
          all_goals
            repeat' ((conv => whnf); first | with_reducible refine Dec.t (show true = true from rfl) ?_ | with_reducible refine Dec.t (show false = false from rfl) ?_ | with_reducible refine Dec.f (show ¬ (true = false) by decide) ?_ | with_reducible refine Dec.f (show ¬ (false = true) by decide) ?_ | refine Dec.t (by omega) ?_ | refine Dec.f (by omega) ?_ | refine Dec.split (fun _ => ?_) (fun _ => ?_) | refine Wr.id (by omega) ?_ | refine Chk.mk (by first | omega | exact rfl | (simp only [List.length_map]; omega) | (simp [room]; done) | (simp [room]; omega) | (simp [dropL, room]; done) | (simp [dropL, room]; omega)) ?_ | refine Nam.mk (List.length_map _) ?_ | refine Prep.skip ?_ | refine Eith.l ?_ | refine chk_t (x := D.flat _) (by assumption) ?_ | refine br_mk (fun _ => ?_) (fun _ => ?_) | refine ACall.of (hF) ?_ | refine APCall.of (hF) ?_ | refine Chk.mk ⟨rfl, by simp [hl2], by simp [room]; omega⟩ ?_ | refine Chk.mk ⟨rfl, by simp [hlr], by simp [room]; omega⟩ ?_ | fail)
          all_goals (conv => whnf)
          · exact ⟨⟨i + 1, vr, lr, ds, v2 + 1, l2 + (rs2.map Read.d).length, dr ++ rs2.map Read.d⟩, Wm.end (by repeat (first | exact trivial | refine And.intro rfl ?_ | refine And.intro (congrArg (fun n => V.d (I n)) (wrap_nat _ (by omega))) ?_)) rfl rfl rfl, fin _ _ _ _ _ hq (by simp) rfl rfl rfl, by simp only; omega⟩
          · exact ⟨⟨i + 1, vr + 1, lr + 1, ds ++ [lt2.d], v2 + 1, l2 + (rs2.map Read.d).length, dr ++ rs2.map Read.d⟩, Wm.end (by repeat (first | exact trivial | refine And.intro rfl ?_ | refine And.intro (congrArg (fun n => V.d (I n)) (wrap_nat _ (by omega))) ?_)) rfl rfl rfl, fin _ _ _ _ _ hq rfl rfl rfl rfl, by simp only; omega⟩
        · have : i = m + 1 := by omega
          subst this
          repeat' ((conv => whnf); first | with_reducible refine Dec.t (show true = true from rfl) ?_ | with_reducible refine Dec.t (show false = false from rfl) ?_ | with_reducible refine Dec.f (show ¬ (true = false) by decide) ?_ | with_reducible refine Dec.f (show ¬ (false = true) by decide) ?_ | refine Dec.t (by omega) ?_ | refine Dec.f (by omega) ?_ | refine Dec.split (fun _ => ?_) (fun _ => ?_) | refine Wr.id (by omega) ?_ | refine Chk.mk (by first | omega | exact rfl | (simp only [List.length_map]; omega) | (simp [room]; done) | (simp [room]; omega) | (simp [dropL, room]; done) | (simp [dropL, room]; omega)) ?_ | refine Nam.mk (List.length_map _) ?_ | refine Prep.skip ?_ | refine Eith.l ?_ | refine chk_t (x := D.flat _) (by assumption) ?_ | refine br_mk (fun _ => ?_) (fun _ => ?_) | refine Nam.mk ((whole hlr).trans hds) ?_ | refine Nam.mk ((whole hl2).trans hdr) ?_ | fail)
          all_goals (conv => whnf)
          exact (by repeat (first | exact trivial | exact rfl | exact DLe.refl _ | exact DLe.full _ _ _ | exact DLe.nil _ _ _ | exact VLe.refl _ | refine And.intro ?_ ?_ | refine VLe.d ?_ | refine DLe.agg ?_))
  · rw [if_neg hd]
    repeat' ((conv => whnf); first | with_reducible refine Dec.t (show true = true from rfl) ?_ | with_reducible refine Dec.t (show false = false from rfl) ?_ | with_reducible refine Dec.f (show ¬ (true = false) by decide) ?_ | with_reducible refine Dec.f (show ¬ (false = true) by decide) ?_ | refine Dec.t (by omega) ?_ | refine Dec.f (by omega) ?_ | refine Dec.split (fun _ => ?_) (fun _ => ?_) | refine Wr.id (by omega) ?_ | refine Chk.mk (by first | omega | exact rfl | (simp only [List.length_map]; omega) | (simp [room]; done) | (simp [room]; omega) | (simp [dropL, room]; done) | (simp [dropL, room]; omega)) ?_ | refine Nam.mk (List.length_map _) ?_ | refine Prep.skip ?_ | refine Eith.l ?_ | refine chk_t (x := D.flat _) (by assumption) ?_ | refine br_mk (fun _ => ?_) (fun _ => ?_) | refine ACall.ofB (ref19_Day day) (fun h => absurd (of_decide_eq_true h) hd) (fun _ => ?_) | fail)
    all_goals (conv => whnf)
    all_goals exact (by repeat (first | exact trivial | exact rfl | exact DLe.refl _ | exact DLe.full _ _ _ | exact DLe.nil _ _ _ | exact VLe.refl _ | refine And.intro ?_ ?_ | refine VLe.d ?_ | refine DLe.agg ?_))
end Go.PM

