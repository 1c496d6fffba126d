/- The reference of package orders: Opens. -/
import Derived.Test.YtghlkcnmocgkaaaO19p
namespace Go.PM
open Go.Proofs
set_option maxRecDepth 10000
set_option maxHeartbeats 8000000

/-- One round is walked, and leads into the state of a loop. -/
theorem ALoop.peelAt {P : Program} {E : Env} (hE : E.Ok P) {c : Code} {ts : Tm} {h : Hp} {k : Ex → Tm → Hp → Prop} {X : Type} (tv : X → Tm) (hv : X → List (Nat × Blk)) (Inv : X → Prop) (μ : X → Nat) (tsB : Tm) (hB : Hp)
    (first : exCode E c ts h fun e ts1 h1 => match e with
      | .normal => ∃ x0, Inv x0 ∧ Wm E.N h.length ts1 h1 (over (tv x0) tsB) (hset hB (hv x0))
      | e => k e ts1 h1)
    (round : ∀ x, Inv x → exCode E c (over (tv x) tsB) (hset hB (hv x)) fun e ts' h' => match e with
      | .normal => ∃ y, Wm E.N hB.length ts' h' (over (tv y) tsB) (hset hB (hv y)) ∧ Inv y ∧ μ y < μ x
      | e => k e ts' h') : ALoop P E.N c ts h k := by
  have hlen : ∀ (l : List (Nat × Blk)) (h : Hp), (hset h l).length = h.length := by
    intro l
    induction l with
    | nil => intro h; rfl
    | cons p l ih => intro h; rw [hset, ih]; simp
  refine ⟨LP.peel (AWP.post (AWP.mono (fun e ts1 h1 hk => ?_) (exCode_sound hE c _ _ _ first)) fun e ts' h' hk => hk)⟩
  cases e with
  | normal =>
    obtain ⟨x0, i0, hw⟩ := hk
    refine ⟨_, _, hw, ?_⟩
    refine LP.loop (X := X) (fun x => over (tv x) tsB) (fun x => hset hB (hv x)) Inv μ x0 i0 fun x hi => ?_
    rw [hlen]
    exact AWP.mono (fun e ts h hk => by cases e <;> exact hk) (exCode_sound hE c _ _ _ (round x hi))
  | exit id => exact ⟨_, _, Wk.refl.wm, hk⟩
  | ret => exact ⟨_, _, Wk.refl.wm, hk⟩
theorem len5 {l : List Int} (h : l.length = 5) : ∃ a b c d e, l = [a, b, c, d, e] := by
  match l, h with
  | [a, b, c, d, e], _ => exact ⟨a, b, c, d, e, rfl⟩
theorem op_cases (w : OWorld) (no day known : Int) :
    (∃ a b c d e, valsM w.facts 3 no day known 0 5 = [a, b, c, d, e] ∧ lineM w.src a b c d ∧ dayM e ∧ findP w no day known = ⟨⟨no, a, b, c, d, e⟩, frdsM w.facts 3 no day known 0 5, true⟩) ∨
    (∃ a b c d e, valsM w.facts 3 no day known 0 5 = [a, b, c, d, e] ∧ ¬ lineM w.src a b c d ∧ findP w no day known = ⟨Opn.zero, frdsM w.facts 3 no day known 0 5, false⟩) ∨
    (∃ a b c d e, valsM w.facts 3 no day known 0 5 = [a, b, c, d, e] ∧ lineM w.src a b c d ∧ ¬ dayM e ∧ findP w no day known = ⟨Opn.zero, frdsM w.facts 3 no day known 0 5, false⟩) ∨
    (¬ (valsM w.facts 3 no day known 0 5).length = 5 ∧ findP w no day known = ⟨Opn.zero, frdsM w.facts 3 no day known 0 5, false⟩) := by
  unfold findP
  by_cases h5 : (valsM w.facts 3 no day known 0 5).length = 5
  · obtain ⟨a, b, c, d, e, hv⟩ := len5 h5
    rw [hv]
    by_cases hL : lineM w.src a b c d
    · by_cases hD : dayM e
      · exact .inl ⟨a, b, c, d, e, rfl, hL, hD, by rw [if_pos ⟨rfl, hL, hD⟩]; rfl⟩
      · exact .inr (.inr (.inl ⟨a, b, c, d, e, rfl, hL, hD, by rw [if_neg (fun h => hD h.2.2)]⟩))
    · exact .inr (.inl ⟨a, b, c, d, e, rfl, hL, by rw [if_neg (fun h => hL h.2.1)]⟩)
  · exact .inr (.inr (.inr ⟨h5, by rw [if_neg (fun h => h5 h.1)]⟩))
theorem ref19_Opens (w : OWorld) (day known : Int) (hl : w.facts.length < 2 ^ 40) (hf : w.src.few) (hw : w.src.wide) : CallP Try.prog 17 [.d w.d, .d (I day), .d (I known)] (retD [SL 6 ((opensM w day known).1.map Opn.d), SL 5 ((opensM w day known).2.map Read.d)]) := by
  refine exPure_sound (E := envOf Try.prog tt Try.f17.ntmps) (envOf_ok ttok mixed) Try.func17 (by rfl) rfl rfl (Nat.le_of_ble_eq_true rfl) ?_
  unfold opensM
  have hM := ref19_many w 2 day known hl
  by_cases hd : dayM day
  · rw [if_pos hd]
    rw [show manyR w.facts 2 day known = manyM w.facts 2 day known from if_pos hd] at hM
    obtain ⟨n1, hn1, hn2⟩ : ∃ n1 : Nat, manyM w.facts 2 day known = n1 ∧ n1 ≤ 1024 := by
      unfold manyM
      cases h0 : atM w.facts (headO 2) day known with
      | none => exact ⟨0, rfl, by omega⟩
      | some n0 =>
        have := atM_nonneg h0
        simp only
        split
        · exact ⟨1024, rfl, by omega⟩
        · exact ⟨n0.toNat, by omega, by omega⟩
    have hnt : (manyM w.facts 2 day known).toNat = n1 := by omega
    rw [hnt]
    rw [hn1] at hM
    repeat' ((conv => whnf); first | with_reducible refine Dec.t (show true = true from rfl) ?_ | with_reducible refine Dec.t (show false = false from rfl) ?_ | with_reducible refine Dec.f (show ¬ (true = false) by decide) ?_ | with_reducible refine Dec.f (show ¬ (false = true) by decide) ?_ | refine Dec.t (by omega) ?_ | refine Dec.f (by omega) ?_ | refine Dec.split (fun _ => ?_) (fun _ => ?_) | refine Wr.id (by omega) ?_ | refine Chk.mk (by first | omega | exact rfl | (simp only [List.length_map]; omega) | (simp [room]; done) | (simp [room]; omega) | (simp [dropL, room]; done) | (simp [dropL, room]; omega)) ?_ | refine Nam.mk (List.length_map _) ?_ | refine Prep.skip ?_ | refine Eith.l ?_ | refine chk_t (x := D.flat _) (by assumption) ?_ | refine br_mk (fun _ => ?_) (fun _ => ?_) | refine ACall.ofB (ref19_Day day) (fun _ => ?_) (fun h => absurd hd (of_decide_eq_false h)) | refine ACall.of (ref19_Head 2) ?_ | refine APCall.of (ref19_Head 2) ?_ | refine ACall.of (hM) ?_ | refine APCall.of (hM) ?_ | fail)
    all_goals (conv => whnf)
    refine ALoop.virt 8 6 6 false (by decide) rfl ?_
    conv => whnf
    cases n1 with
    | zero =>
      repeat' ((conv => whnf); first | with_reducible refine Dec.t (show true = true from rfl) ?_ | with_reducible refine Dec.t (show false = false from rfl) ?_ | with_reducible refine Dec.f (show ¬ (true = false) by decide) ?_ | with_reducible refine Dec.f (show ¬ (false = true) by decide) ?_ | refine Dec.t (by omega) ?_ | refine Dec.f (by omega) ?_ | refine Dec.split (fun _ => ?_) (fun _ => ?_) | refine Wr.id (by omega) ?_ | refine Chk.mk (by first | omega | exact rfl | (simp only [List.length_map]; omega) | (simp [room]; done) | (simp [room]; omega) | (simp [dropL, room]; done) | (simp [dropL, room]; omega)) ?_ | refine Nam.mk (List.length_map _) ?_ | refine Prep.skip ?_ | refine Eith.l ?_ | refine chk_t (x := D.flat _) (by assumption) ?_ | refine br_mk (fun _ => ?_) (fun _ => ?_) | refine ALoop.rounds 1 ?_ | refine ALoopN.step (E := (envOf Try.prog tt Try.f17.ntmps)) (envOf_ok ttok mixed) ?_ | refine Nam.mk (y := []) rfl ?_ | fail)
      all_goals (conv => whnf)
      exact (by repeat (first | exact trivial | exact rfl | exact DLe.refl _ | exact DLe.full _ _ _ | exact DLe.nil _ _ _ | exact VLe.refl _ | refine And.intro ?_ ?_ | refine VLe.d ?_ | refine DLe.agg ?_))
    | succ m =>
      have hF := ref19_fields w 3 0 day known 5 (by omega) hl hd.2 hd.1
      have hfr := findP_reads w 0 day known
      have hne := findP_ne w 0 day known
      have init : ∀ (q : OrdP) (ds dr : List D) (lr l2 : Nat), findP w 0 day known = q → ds = (if q.ok then [q.l.d] else []) → dr = (rdOf (headO 2) day).d :: q.reads.map Read.d → lr = ds.length → l2 = dr.length →
          1 ≤ m + 1 ∧ lr ≤ 1 ∧ l2 ≤ 5 * 1 + 1 ∧ lr = ds.length ∧ l2 = dr.length ∧ ds = (opensF w day known 1).map Opn.d ∧ dr = (rdOf (headO 2) day :: readsP w day known 1).map Read.d := fun q ds dr lr l2 hq h1 h2 h3 h4 => by
        rw [hq] at hfr
        have hq' : findP w ((0 : Nat) : Int) day known = q := hq
        refine ⟨by omega, ?_, ?_, h3, h4, ?_, ?_⟩
        · rw [h3, h1]; split <;> simp
        · rw [h4, h2]; simp; omega
        · rw [h1, opensF_succ, hq']; cases q.ok <;> rfl
        · rw [h2, readsP_succ, hq']; rfl
      obtain ⟨rs, hrs⟩ : ∃ rs, rs = frdsM w.facts 3 0 day known 0 5 := ⟨_, rfl⟩
      rw [← hrs] at hF
      clear hn1 hnt
      refine ALoop.peelAt (E := (envOf Try.prog tt Try.f17.ntmps)) (envOf_ok ttok mixed) (X := XLots) (fun x => [(11, .d (I x.i)), (8, .sref 1 x.vr 0 x.lr false), (9, .sref 2 x.v2 0 x.l2 false)]) (fun x => [(1, .row x.vr 6 false x.ds), (2, .row x.v2 5 false x.dr)])
        (fun x => x.i ≤ m + 1 ∧ x.lr ≤ x.i ∧ x.l2 ≤ 5 * x.i + 1 ∧ x.lr = x.ds.length ∧ x.l2 = x.dr.length ∧ x.ds = (opensF w day known x.i).map Opn.d ∧ x.dr = (rdOf (headO 2) day :: readsP w day known x.i).map Read.d) (fun x => m + 1 - x.i)
        [(10, .d (I ((m + 1 : Nat) : Int))), (3, .ptr 0 0 0 0), (2, .d (I known)), (1, .d (I day)), (0, .d w.d)] [.vard w.d.cells, .row 0 6 false [], .row 0 5 false []] ?_ ?_
      · rcases op_cases w 0 day known with ⟨a, b, c, d, e, hv, hL, hD, hq⟩ | ⟨a, b, c, d, e, hv, hL, hq⟩ | ⟨a, b, c, d, e, hv, hL, hD, hq⟩ | ⟨hv, hq⟩
        · rw [← hrs] at hq
          rw [hq] at hne hfr
          simp only at hne hfr
          rw [hv] at hF
          repeat' ((conv => whnf); first | refine Nam.mk (y := 5) rfl ?_ | with_reducible refine Dec.t (show true = true from rfl) ?_ | with_reducible refine Dec.t (show false = false from rfl) ?_ | with_reducible refine Dec.f (show ¬ (true = false) by decide) ?_ | with_reducible refine Dec.f (show ¬ (false = true) by decide) ?_ | refine Dec.t (by omega) ?_ | refine Dec.f (by omega) ?_ | refine Dec.split (fun _ => ?_) (fun _ => ?_) | refine Wr.id (by omega) ?_ | refine Chk.mk (by first | omega | exact rfl | (simp only [List.length_map]; omega) | (simp [room]; done) | (simp [room]; omega) | (simp [dropL, room]; done) | (simp [dropL, room]; omega)) ?_ | refine Nam.mk (List.length_map _) ?_ | refine Prep.skip ?_ | refine Eith.l ?_ | refine chk_t (x := D.flat _) (by assumption) ?_ | refine br_mk (fun _ => ?_) (fun _ => ?_) | refine ACall.of (hF) ?_ | refine APCall.of (hF) ?_ | refine ACall.ofB (ref19_line w.src a b c d hf hw) (fun _ => ?_) (fun h => absurd hL (of_decide_eq_false h)) | refine ACall.ofB (ref19_Day e) (fun _ => ?_) (fun h => absurd hD (of_decide_eq_false h)) | refine APCall.ofB (ref19_line w.src a b c d hf hw) (fun _ => ?_) (fun h => absurd hL (of_decide_eq_false h)) | refine APCall.ofB (ref19_Day e) (fun _ => ?_) (fun h => absurd hD (of_decide_eq_false h)) | refine Chk.mk ⟨.inr (by simpa using hne), by simp [room]; omega⟩ ?_ | fail)
          all_goals (conv => whnf)
          exact ⟨⟨1, 1, 1, [Opn.d ⟨0, a, b, c, d, e⟩], 0, 1 + (rs.map Read.d).length, [(rdOf (headO 2) day).d] ++ rs.map Read.d⟩, init _ _ _ _ _ hq rfl rfl rfl (by simp; omega), Wm.fin 3 (Nat.le_of_ble_eq_true rfl) (by repeat (first | exact trivial | refine And.intro rfl ?_ | refine And.intro (congrArg (fun n => V.d (I n)) (wrap_nat _ (by omega))) ?_)) rfl rfl rfl⟩
        · rw [← hrs] at hq
          rw [hq] at hne hfr
          simp only at hne hfr
          rw [hv] at hF
          repeat' ((conv => whnf); first | refine Nam.mk (y := 5) rfl ?_ | with_reducible refine Dec.t (show true = true from rfl) ?_ | with_reducible refine Dec.t (show false = false from rfl) ?_ | with_reducible refine Dec.f (show ¬ (true = false) by decide) ?_ | with_reducible refine Dec.f (show ¬ (false = true) by decide) ?_ | refine Dec.t (by omega) ?_ | refine Dec.f (by omega) ?_ | refine Dec.split (fun _ => ?_) (fun _ => ?_) | refine Wr.id (by omega) ?_ | refine Chk.mk (by first | omega | exact rfl | (simp only [List.length_map]; omega) | (simp [room]; done) | (simp [room]; omega) | (simp [dropL, room]; done) | (simp [dropL, room]; omega)) ?_ | refine Nam.mk (List.length_map _) ?_ | refine Prep.skip ?_ | refine Eith.l ?_ | refine chk_t (x := D.flat _) (by assumption) ?_ | refine br_mk (fun _ => ?_) (fun _ => ?_) | refine ACall.of (hF) ?_ | refine APCall.of (hF) ?_ | refine ACall.ofB (ref19_line w.src a b c d hf hw) (fun h => absurd (of_decide_eq_true h) hL) (fun _ => ?_) | refine APCall.ofB (ref19_line w.src a b c d hf hw) (fun h => absurd (of_decide_eq_true h) hL) (fun _ => ?_) | refine Chk.mk ⟨.inr (by simpa using hne), by simp [room]; omega⟩ ?_ | fail)
          all_goals (conv => whnf)
          exact ⟨⟨1, 0, 0, [], 0, 1 + (rs.map Read.d).length, [(rdOf (headO 2) day).d] ++ rs.map Read.d⟩, init _ _ _ _ _ hq rfl rfl rfl (by simp; omega), Wm.fin 3 (Nat.le_of_ble_eq_true rfl) (by repeat (first | exact trivial | refine And.intro rfl ?_ | refine And.intro (congrArg (fun n => V.d (I n)) (wrap_nat _ (by omega))) ?_)) rfl rfl rfl⟩
        · rw [← hrs] at hq
          rw [hq] at hne hfr
          simp only at hne hfr
          rw [hv] at hF
          repeat' ((conv => whnf); first | refine Nam.mk (y := 5) rfl ?_ | with_reducible refine Dec.t (show true = true from rfl) ?_ | with_reducible refine Dec.t (show false = false from rfl) ?_ | with_reducible refine Dec.f (show ¬ (true = false) by decide) ?_ | with_reducible refine Dec.f (show ¬ (false = true) by decide) ?_ | refine Dec.t (by omega) ?_ | refine Dec.f (by omega) ?_ | refine Dec.split (fun _ => ?_) (fun _ => ?_) | refine Wr.id (by omega) ?_ | refine Chk.mk (by first | omega | exact rfl | (simp only [List.length_map]; omega) | (simp [room]; done) | (simp [room]; omega) | (simp [dropL, room]; done) | (simp [dropL, room]; omega)) ?_ | refine Nam.mk (List.length_map _) ?_ | refine Prep.skip ?_ | refine Eith.l ?_ | refine chk_t (x := D.flat _) (by assumption) ?_ | refine br_mk (fun _ => ?_) (fun _ => ?_) | refine ACall.of (hF) ?_ | refine APCall.of (hF) ?_ | refine ACall.ofB (ref19_line w.src a b c d hf hw) (fun _ => ?_) (fun h => absurd hL (of_decide_eq_false h)) | refine ACall.ofB (ref19_Day e) (fun h => absurd (of_decide_eq_true h) hD) (fun _ => ?_) | refine APCall.ofB (ref19_line w.src a b c d hf hw) (fun _ => ?_) (fun h => absurd hL (of_decide_eq_false h)) | refine APCall.ofB (ref19_Day e) (fun h => absurd (of_decide_eq_true h) hD) (fun _ => ?_) | refine Chk.mk ⟨.inr (by simpa using hne), by simp [room]; omega⟩ ?_ | fail)
          all_goals (conv => whnf)
          exact ⟨⟨1, 0, 0, [], 0, 1 + (rs.map Read.d).length, [(rdOf (headO 2) day).d] ++ rs.map Read.d⟩, init _ _ _ _ _ hq rfl rfl rfl (by simp; omega), Wm.fin 3 (Nat.le_of_ble_eq_true rfl) (by repeat (first | exact trivial | refine And.intro rfl ?_ | refine And.intro (congrArg (fun n => V.d (I n)) (wrap_nat _ (by omega))) ?_)) rfl rfl rfl⟩
        · rw [← hrs] at hq
          rw [hq] at hne hfr
          simp only at hne hfr
          repeat' ((conv => whnf); first | refine Nam.mk (List.length_map _) ?_ | with_reducible refine Dec.t (show true = true from rfl) ?_ | with_reducible refine Dec.t (show false = false from rfl) ?_ | with_reducible refine Dec.f (show ¬ (true = false) by decide) ?_ | with_reducible refine Dec.f (show ¬ (false = true) by decide) ?_ | refine Dec.t (by omega) ?_ | refine Dec.f (by omega) ?_ | refine Dec.split (fun _ => ?_) (fun _ => ?_) | refine Wr.id (by omega) ?_ | refine Chk.mk (by first | omega | exact rfl | (simp only [List.length_map]; omega) | (simp [room]; done) | (simp [room]; omega) | (simp [dropL, room]; done) | (simp [dropL, room]; omega)) ?_ | refine Nam.mk (List.length_map _) ?_ | refine Prep.skip ?_ | refine Eith.l ?_ | refine chk_t (x := D.flat _) (by assumption) ?_ | refine br_mk (fun _ => ?_) (fun _ => ?_) | refine ACall.of (hF) ?_ | refine APCall.of (hF) ?_ | refine Chk.mk ⟨.inr (by simpa using hne), by simp [room]; omega⟩ ?_ | fail)
          all_goals (conv => whnf)
          exact ⟨⟨1, 0, 0, [], 0, 1 + (rs.map Read.d).length, [(rdOf (headO 2) day).d] ++ rs.map Read.d⟩, init _ _ _ _ _ hq rfl rfl rfl (by simp; omega), Wm.fin 3 (Nat.le_of_ble_eq_true rfl) (by repeat (first | exact trivial | refine And.intro rfl ?_ | refine And.intro (congrArg (fun n => V.d (I n)) (wrap_nat _ (by omega))) ?_)) rfl rfl rfl⟩
      · clear init hF hfr hne hrs
        rintro ⟨i, vr, lr, ds, v2, l2, dr⟩ ⟨hi, hi1, hi2, hlr, hl2, hds, hdr⟩
        simp only at hi hi1 hi2 hlr hl2 hds hdr
        dsimp only
        by_cases hlt : i < m + 1
        · have hF := ref19_fields w 3 i day known 5 (by omega) hl hd.2 hd.1
          have hfr := findP_reads w i day known
          have hne := findP_ne w i day known
          have fin : ∀ (q : OrdP) (ds' dr' : List D) (lr' l2' : Nat), findP w i day known = q → ds' = ds ++ (if q.ok then [q.l.d] else []) → dr' = dr ++ q.reads.map Read.d → lr' = lr + (if q.ok then 1 else 0) → l2' = l2 + (q.reads.map Read.d).length →
              i + 1 ≤ m + 1 ∧ lr' ≤ i + 1 ∧ l2' ≤ 5 * (i + 1) + 1 ∧ lr' = ds'.length ∧ l2' = dr'.length ∧ ds' = (opensF w day known (i + 1)).map Opn.d ∧ dr' = (rdOf (headO 2) day :: readsP w day known (i + 1)).map Read.d := fun q ds' dr' lr' l2' hq h1 h2 h3 h4 => by
            rw [hq] at hfr
            rw [List.length_map] at h4
            refine ⟨hlt, by split at h3 <;> omega, by omega, ?_, ?_, ?_, ?_⟩
            · rw [h1, h3, hlr, List.length_append]; split <;> simp
            · rw [h2, h4, hl2, List.length_append, List.length_map]
            · rw [h1, hds, opensF_succ, hq, List.map_append]; congr 1; split <;> rfl
            · rw [h2, hdr, readsP_succ, hq]; simp
          clear hds hdr
          obtain ⟨rs2, hrs⟩ : ∃ rs2, rs2 = frdsM w.facts 3 i day known 0 5 := ⟨_, rfl⟩
          rw [← hrs] at hF
          rcases op_cases w i day known with ⟨a, b, c, d, e, hv, hL, hD, hq⟩ | ⟨a, b, c, d, e, hv, hL, hq⟩ | ⟨a, b, c, d, e, hv, hL, hD, hq⟩ | ⟨hv, hq⟩
          · rw [← hrs] at hq
            rw [hq] at hne hfr
            simp only at hne hfr
            rw [hv] at hF
            repeat' ((conv => whnf); first | refine Nam.mk (y := 5) rfl ?_ | with_reducible refine Dec.t (show true = true from rfl) ?_ | with_reducible refine Dec.t (show false = false from rfl) ?_ | with_reducible refine Dec.f (show ¬ (true = false) by decide) ?_ | with_reducible refine Dec.f (show ¬ (false = true) by decide) ?_ | refine Dec.t (by omega) ?_ | refine Dec.f (by omega) ?_ | refine Dec.split (fun _ => ?_) (fun _ => ?_) | refine Wr.id (by omega) ?_ | refine Chk.mk (by first | omega | exact rfl | (simp only [List.length_map]; omega) | (simp [room]; done) | (simp [room]; omega) | (simp [dropL, room]; done) | (simp [dropL, room]; omega)) ?_ | refine Nam.mk (List.length_map _) ?_ | refine Prep.skip ?_ | refine Eith.l ?_ | refine chk_t (x := D.flat _) (by assumption) ?_ | refine br_mk (fun _ => ?_) (fun _ => ?_) | refine ACall.of (hF) ?_ | refine APCall.of (hF) ?_ | refine ACall.ofB (ref19_line w.src a b c d hf hw) (fun _ => ?_) (fun h => absurd hL (of_decide_eq_false h)) | refine ACall.ofB (ref19_Day e) (fun _ => ?_) (fun h => absurd hD (of_decide_eq_false h)) | refine APCall.ofB (ref19_line w.src a b c d hf hw) (fun _ => ?_) (fun h => absurd hL (of_decide_eq_false h)) | refine APCall.ofB (ref19_Day e) (fun _ => ?_) (fun h => absurd hD (of_decide_eq_false h)) | refine Chk.mk ⟨rfl, by simp [hl2], by simp [room]; omega⟩ ?_ | refine Chk.mk ⟨rfl, by simp [hlr], by simp [room]; omega⟩ ?_ | fail)
            all_goals (conv => whnf)
            exact ⟨⟨i + 1, vr + 1, lr + 1, ds ++ [Opn.d ⟨i, a, b, c, d, e⟩], v2 + 1, l2 + (rs2.map Read.d).length, dr ++ rs2.map Read.d⟩, Wm.end (by repeat (first | exact trivial | refine And.intro rfl ?_ | refine And.intro (congrArg (fun n => V.d (I n)) (wrap_nat _ (by omega))) ?_)) rfl rfl rfl, fin _ _ _ _ _ hq rfl rfl rfl rfl, by simp only; omega⟩
          · rw [← hrs] at hq
            rw [hq] at hne hfr
            simp only at hne hfr
            rw [hv] at hF
            repeat' ((conv => whnf); first | refine Nam.mk (y := 5) rfl ?_ | with_reducible refine Dec.t (show true = true from rfl) ?_ | with_reducible refine Dec.t (show false = false from rfl) ?_ | with_reducible refine Dec.f (show ¬ (true = false) by decide) ?_ | with_reducible refine Dec.f (show ¬ (false = true) by decide) ?_ | refine Dec.t (by omega) ?_ | refine Dec.f (by omega) ?_ | refine Dec.split (fun _ => ?_) (fun _ => ?_) | refine Wr.id (by omega) ?_ | refine Chk.mk (by first | omega | exact rfl | (simp only [List.length_map]; omega) | (simp [room]; done) | (simp [room]; omega) | (simp [dropL, room]; done) | (simp [dropL, room]; omega)) ?_ | refine Nam.mk (List.length_map _) ?_ | refine Prep.skip ?_ | refine Eith.l ?_ | refine chk_t (x := D.flat _) (by assumption) ?_ | refine br_mk (fun _ => ?_) (fun _ => ?_) | refine ACall.of (hF) ?_ | refine APCall.of (hF) ?_ | refine ACall.ofB (ref19_line w.src a b c d hf hw) (fun h => absurd (of_decide_eq_true h) hL) (fun _ => ?_) | refine APCall.ofB (ref19_line w.src a b c d hf hw) (fun h => absurd (of_decide_eq_true h) hL) (fun _ => ?_) | refine Chk.mk ⟨rfl, by simp [hl2], by simp [room]; omega⟩ ?_ | refine Chk.mk ⟨rfl, by simp [hlr], by simp [room]; omega⟩ ?_ | fail)
            all_goals (conv => whnf)
            exact ⟨⟨i + 1, vr, lr, ds, v2 + 1, l2 + (rs2.map Read.d).length, dr ++ rs2.map Read.d⟩, Wm.end (by repeat (first | exact trivial | refine And.intro rfl ?_ | refine And.intro (congrArg (fun n => V.d (I n)) (wrap_nat _ (by omega))) ?_)) rfl rfl rfl, fin _ _ _ _ _ hq (by simp) rfl rfl rfl, by simp only; omega⟩
          · rw [← hrs] at hq
            rw [hq] at hne hfr
            simp only at hne hfr
            rw [hv] at hF
            repeat' ((conv => whnf); first | refine Nam.mk (y := 5) rfl ?_ | with_reducible refine Dec.t (show true = true from rfl) ?_ | with_reducible refine Dec.t (show false = false from rfl) ?_ | with_reducible refine Dec.f (show ¬ (true = false) by decide) ?_ | with_reducible refine Dec.f (show ¬ (false = true) by decide) ?_ | refine Dec.t (by omega) ?_ | refine Dec.f (by omega) ?_ | refine Dec.split (fun _ => ?_) (fun _ => ?_) | refine Wr.id (by omega) ?_ | refine Chk.mk (by first | omega | exact rfl | (simp only [List.length_map]; omega) | (simp [room]; done) | (simp [room]; omega) | (simp [dropL, room]; done) | (simp [dropL, room]; omega)) ?_ | refine Nam.mk (List.length_map _) ?_ | refine Prep.skip ?_ | refine Eith.l ?_ | refine chk_t (x := D.flat _) (by assumption) ?_ | refine br_mk (fun _ => ?_) (fun _ => ?_) | refine ACall.of (hF) ?_ | refine APCall.of (hF) ?_ | refine ACall.ofB (ref19_line w.src a b c d hf hw) (fun _ => ?_) (fun h => absurd hL (of_decide_eq_false h)) | refine ACall.ofB (ref19_Day e) (fun h => absurd (of_decide_eq_true h) hD) (fun _ => ?_) | refine APCall.ofB (ref19_line w.src a b c d hf hw) (fun _ => ?_) (fun h => absurd hL (of_decide_eq_false h)) | refine APCall.ofB (ref19_Day e) (fun h => absurd (of_decide_eq_true h) hD) (fun _ => ?_) | refine Chk.mk ⟨rfl, by simp [hl2], by simp [room]; omega⟩ ?_ | refine Chk.mk ⟨rfl, by simp [hlr], by simp [room]; omega⟩ ?_ | fail)
            all_goals (conv => whnf)
            exact ⟨⟨i + 1, vr, lr, ds, v2 + 1, l2 + (rs2.map Read.d).length, dr ++ rs2.map Read.d⟩, Wm.end (by repeat (first | exact trivial | refine And.intro rfl ?_ | refine And.intro (congrArg (fun n => V.d (I n)) (wrap_nat _ (by omega))) ?_)) rfl rfl rfl, fin _ _ _ _ _ hq (by simp) rfl rfl rfl, by simp only; omega⟩
          · rw [← hrs] at hq
            rw [hq] at hne hfr
            simp only at hne hfr
            repeat' ((conv => whnf); first | refine Nam.mk (List.length_map _) ?_ | with_reducible refine Dec.t (show true = true from rfl) ?_ | with_reducible refine Dec.t (show false = false from rfl) ?_ | with_reducible refine Dec.f (show ¬ (true = false) by decide) ?_ | with_reducible refine Dec.f (show ¬ (false = true) by decide) ?_ | refine Dec.t (by omega) ?_ | refine Dec.f (by omega) ?_ | refine Dec.split (fun _ => ?_) (fun _ => ?_) | refine Wr.id (by omega) ?_ | refine Chk.mk (by first | omega | exact rfl | (simp only [List.length_map]; omega) | (simp [room]; done) | (simp [room]; omega) | (simp [dropL, room]; done) | (simp [dropL, room]; omega)) ?_ | refine Nam.mk (List.length_map _) ?_ | refine Prep.skip ?_ | refine Eith.l ?_ | refine chk_t (x := D.flat _) (by assumption) ?_ | refine br_mk (fun _ => ?_) (fun _ => ?_) | refine ACall.of (hF) ?_ | refine APCall.of (hF) ?_ | refine Chk.mk ⟨rfl, by simp [hl2], by simp [room]; omega⟩ ?_ | refine Chk.mk ⟨rfl, by simp [hlr], by simp [room]; omega⟩ ?_ | fail)
            all_goals (conv => whnf)
            exact ⟨⟨i + 1, vr, lr, ds, v2 + 1, l2 + (rs2.map Read.d).length, dr ++ rs2.map Read.d⟩, Wm.end (by repeat (first | exact trivial | refine And.intro rfl ?_ | refine And.intro (congrArg (fun n => V.d (I n)) (wrap_nat _ (by omega))) ?_)) rfl rfl rfl, fin _ _ _ _ _ hq (by simp) rfl rfl rfl, by simp only; omega⟩
        · have : i = m + 1 := by omega
          subst this
          repeat' ((conv => whnf); first | with_reducible refine Dec.t (show true = true from rfl) ?_ | with_reducible refine Dec.t (show false = false from rfl) ?_ | with_reducible refine Dec.f (show ¬ (true = false) by decide) ?_ | with_reducible refine Dec.f (show ¬ (false = true) by decide) ?_ | refine Dec.t (by omega) ?_ | refine Dec.f (by omega) ?_ | refine Dec.split (fun _ => ?_) (fun _ => ?_) | refine Wr.id (by omega) ?_ | refine Chk.mk (by first | omega | exact rfl | (simp only [List.length_map]; omega) | (simp [room]; done) | (simp [room]; omega) | (simp [dropL, room]; done) | (simp [dropL, room]; omega)) ?_ | refine Nam.mk (List.length_map _) ?_ | refine Prep.skip ?_ | refine Eith.l ?_ | refine chk_t (x := D.flat _) (by assumption) ?_ | refine br_mk (fun _ => ?_) (fun _ => ?_) | refine Nam.mk ((whole hlr).trans hds) ?_ | refine Nam.mk ((whole hl2).trans hdr) ?_ | fail)
          all_goals (conv => whnf)
          exact (by repeat (first | exact trivial | exact rfl | exact DLe.refl _ | exact DLe.full _ _ _ | exact DLe.nil _ _ _ | exact VLe.refl _ | refine And.intro ?_ ?_ | refine VLe.d ?_ | refine DLe.agg ?_))
  · rw [if_neg hd]
    repeat' ((conv => whnf); first | with_reducible refine Dec.t (show true = true from rfl) ?_ | with_reducible refine Dec.t (show false = false from rfl) ?_ | with_reducible refine Dec.f (show ¬ (true = false) by decide) ?_ | with_reducible refine Dec.f (show ¬ (false = true) by decide) ?_ | refine Dec.t (by omega) ?_ | refine Dec.f (by omega) ?_ | refine Dec.split (fun _ => ?_) (fun _ => ?_) | refine Wr.id (by omega) ?_ | refine Chk.mk (by first | omega | exact rfl | (simp only [List.length_map]; omega) | (simp [room]; done) | (simp [room]; omega) | (simp [dropL, room]; done) | (simp [dropL, room]; omega)) ?_ | refine Nam.mk (List.length_map _) ?_ | refine Prep.skip ?_ | refine Eith.l ?_ | refine chk_t (x := D.flat _) (by assumption) ?_ | refine br_mk (fun _ => ?_) (fun _ => ?_) | refine ACall.ofB (ref19_Day day) (fun h => absurd (of_decide_eq_true h) hd) (fun _ => ?_) | fail)
    all_goals (conv => whnf)
    all_goals exact (by repeat (first | exact trivial | exact rfl | exact DLe.refl _ | exact DLe.full _ _ _ | exact DLe.nil _ _ _ | exact VLe.refl _ | refine And.intro ?_ ?_ | refine VLe.d ?_ | refine DLe.agg ?_))
end Go.PM

