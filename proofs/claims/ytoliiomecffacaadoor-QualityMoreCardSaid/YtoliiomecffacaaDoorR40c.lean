/- The reference of layer 40: Certify, Check, State. -/
import Derived.Test.YtoliiomecffacaaDoorR40b
namespace Go.PM
open Go.Proofs
set_option maxRecDepth 10000
set_option maxHeartbeats 2000000

def slR (full : Bool) (rs : List Read) : D := .sl 5 full (rs.map Read.d)
theorem Wk.liftT' {N : Nat} {ts : Tm} {h : Hp} {t m ver lo len sz : Nat} {ro full : Bool} {xs ys : List D} (ht : look ts t = .sref m ver lo len full) (hm : h[m]? = some (.row ver sz ro xs)) (hl : lo + len ≤ xs.length) (hy : (xs.drop lo).take len = ys) : Wk N ts h ((t, .d (.sl sz full ys)) :: ts) (h.set m (.row ver sz true xs)) := by
  subst hy; exact Wk.liftT ht hm hl
theorem leafI {x y : Int} (h : x = y) : DLe (I x) (I y) := by subst h; exact DLe.refl _
structure XR where
  i : Nat
  vr : Nat
  lr : Nat
  ds : List D
  good : Bool
  rs : List Read
theorem ref40_Certify (w : AWorld) (lot day known : Int) (l : List Spec) (hl : l.length < 2 ^ 10) (hf : w.facts.length < 2 ^ 40) (hw : w.wide) : CallP Tryd.prog 14 [.d w.d, .d (I lot), .d (I day), .d (I known), .d (SL 3 (l.map Spec.d))] (certifyM w lot day known l).d := by
  refine exPure_sound (E := envOf Tryd.prog tt Tryd.f14.ntmps) (envOf_ok ttok mixed) Tryd.func14 (by rfl) rfl rfl (Nat.le_of_ble_eq_true rfl) ?_
  have hL := ref18_Lot w lot day known hf hw
  have hr1 := lotM_reads w lot day known
  unfold certifyM
  by_cases hs : specsOk l
  · generalize lotM w lot day known = q at hL hr1
    obtain ⟨lt, r0, ok⟩ := q
    simp only [LotR.d] at hL hr1 ⊢
    cases ok with
    | false =>
      rw [if_neg (fun h => by cases h.2)]
      repeat' ((conv => whnf); first | with_reducible refine Dec.t (show true = true from rfl) ?_ | with_reducible refine Dec.t (show false = false from rfl) ?_ | with_reducible refine Dec.f (show ¬ (true = false) by decide) ?_ | with_reducible refine Dec.f (show ¬ (false = true) by decide) ?_ | refine Dec.t (by omega) ?_ | refine Dec.f (by omega) ?_ | refine Dec.split (fun _ => ?_) (fun _ => ?_) | refine Wr.id (by omega) ?_ | refine Chk.mk (by first | omega | exact rfl | (simp only [List.length_map]; omega) | (simp [room]; done) | (simp [room]; omega) | (simp [dropL, room]; done) | (simp [dropL, room]; omega)) ?_ | refine Nam.mk (List.length_map _) ?_ | refine Prep.skip ?_ | refine chk_t (x := D.flat _) (by assumption) ?_ | refine br_mk (fun _ => ?_) (fun _ => ?_) | refine ACall.ofB (ref40_specs l (by omega)) (fun _ => ?_) (fun h => absurd hs (of_decide_eq_false h)) | refine ACall.of (hL) ?_ | refine APCall.of (hL) ?_ | fail)
      all_goals (conv => whnf)
      exact ⟨DLe.agg ⟨DLe.refl _, DLe.nil _ _ _, DLe.refl _, rfl⟩, DLe.nil _ _ _, DLe.refl _, rfl⟩
    | true =>
      rw [if_pos ⟨hs, rfl⟩]
      repeat' ((conv => whnf); first | with_reducible refine Dec.t (show true = true from rfl) ?_ | with_reducible refine Dec.t (show false = false from rfl) ?_ | with_reducible refine Dec.f (show ¬ (true = false) by decide) ?_ | with_reducible refine Dec.f (show ¬ (false = true) by decide) ?_ | refine Dec.t (by omega) ?_ | refine Dec.f (by omega) ?_ | refine Dec.split (fun _ => ?_) (fun _ => ?_) | refine Wr.id (by omega) ?_ | refine Chk.mk (by first | omega | exact rfl | (simp only [List.length_map]; omega) | (simp [room]; done) | (simp [room]; omega) | (simp [dropL, room]; done) | (simp [dropL, room]; omega)) ?_ | refine Nam.mk (List.length_map _) ?_ | refine Prep.skip ?_ | refine chk_t (x := D.flat _) (by assumption) ?_ | refine br_mk (fun _ => ?_) (fun _ => ?_) | refine ACall.ofB (ref40_specs l (by omega)) (fun _ => ?_) (fun h => absurd hs (of_decide_eq_false h)) | refine ACall.of (hL) ?_ | refine APCall.of (hL) ?_ | fail)
      all_goals (conv => whnf)
      refine ALoop.virtC 3 1 0 2 false (by decide) rfl rfl ?_
      conv => whnf
      refine ALoop.at (E := envOf Tryd.prog tt Tryd.f14.ntmps) (envOf_ok ttok mixed) (X := XR) (fun x => [(17, .d (I x.i)), (14, .d (readsD x.rs))]) (fun x => [(3, .var [.d (I lot), .sref 4 x.vr 0 x.lr false, .d (.b x.good)]), (4, .row x.vr 2 false x.ds)])
        (fun x => x.i ≤ l.length ∧ ∃ c : CertR, x.ds = c.res.map Pt.d ∧ x.lr = c.res.length ∧ x.good = c.good ∧ x.rs = r0 ++ c.reads ∧ c.res.length ≤ x.i ∧ c.reads.length ≤ x.i ∧ certF w lot day known (l.drop x.i) c = certF w lot day known l ⟨[], true, []⟩) (fun x => l.length - x.i)
        ⟨0, 0, 0, [], true, r0⟩ (by repeat (first | exact trivial | refine And.intro rfl ?_ | refine And.intro (congrArg (fun n => V.d (I n)) (wrap_nat _ (by omega))) ?_)) rfl ⟨Nat.zero_le _, ⟨[], true, []⟩, rfl, rfl, rfl, by simp, Nat.le_refl _, Nat.le_refl _, rfl⟩ ?_
      rintro ⟨i, vr, lr, ds, good, rs⟩ ⟨hi, c, g1, g2, g3, g4, g5, g6, hm⟩
      simp only at hi g1 g2 g3 g4 g5 g6 hm
      subst g3
      dsimp only
      have hdl : ds.length = lr := by rw [g1, g2, List.length_map]
      by_cases hlt : i < l.length
      · obtain ⟨s, hx, hd⟩ := drop_get hlt
        rw [hd, certF, List.foldl_cons, ← certF] at hm
        have hR := ref40_Result w lot s.test day known hf
        have hrl : (resultM w lot s.test day known).2.1.length ≤ 1 := by
          unfold resultM
          split
          · split <;> simp
          · simp
        unfold certStep at hm
        generalize resultM w lot s.test day known = q at hm hR hrl
        obtain ⟨n, more, ok⟩ := q
        simp only [resD] at hm hR hrl
        obtain ⟨res, gd, rds⟩ := c
        simp only at hm g1 g2 g4 g5 g6 ⊢
        subst g4
        have fin : ∀ (c' : CertR), c'.res.length ≤ i + 1 → c'.reads = rds ++ more → certF w lot day known (l.drop (i + 1)) c' = certF w lot day known l ⟨[], true, []⟩ → ∃ c : CertR, c'.res.map Pt.d = c.res.map Pt.d ∧ c'.res.length = c.res.length ∧ c'.good = c.good ∧ r0 ++ (rds ++ more) = r0 ++ c.reads ∧ c.res.length ≤ i + 1 ∧ c.reads.length ≤ i + 1 ∧ certF w lot day known (l.drop (i + 1)) c = certF w lot day known l ⟨[], true, []⟩ :=
          fun c' h1 h2 h3 => ⟨c', rfl, rfl, rfl, by rw [h2], h1, by rw [h2, List.length_append]; omega, h3⟩
        cases ok with
        | false =>
          simp only [Bool.false_and, Bool.and_false, Bool.false_eq_true, if_false] at hm
          cases gd
          all_goals (
            repeat' ((conv => whnf); first | with_reducible refine Dec.t (show true = true from rfl) ?_ | with_reducible refine Dec.t (show false = false from rfl) ?_ | with_reducible refine Dec.f (show ¬ (true = false) by decide) ?_ | with_reducible refine Dec.f (show ¬ (false = true) by decide) ?_ | refine Dec.t (by omega) ?_ | refine Dec.f (by omega) ?_ | refine Dec.split (fun _ => ?_) (fun _ => ?_) | refine Wr.id (by omega) ?_ | refine Chk.mk (by first | omega | exact rfl | (simp only [List.length_map]; omega) | (simp [room]; done) | (simp [room]; omega) | (simp [dropL, room]; done) | (simp [dropL, room]; omega)) ?_ | refine Nam.mk (List.length_map _) ?_ | refine Prep.skip ?_ | refine chk_t (x := D.flat _) (by assumption) ?_ | refine br_mk (fun _ => ?_) (fun _ => ?_) | refine nthK_mk (map_get hx) ?_ | refine ACall.of (hR) ?_ | refine APCall.of (hR) ?_ | fail)
            all_goals (conv => whnf)
            refine ⟨⟨i + 1, vr, lr, ds, false, r0 ++ (rds ++ more)⟩, Wm.trans (Wk.liftT' (t := 14) (m := 6) (ys := (r0 ++ (rds ++ more)).map Read.d) rfl rfl (by first | (simp [dropL]; done) | (simp [dropL]; omega)) ((whole (by first | (simp [dropL]; done) | (simp [dropL]; omega))).trans (by simp [dropL]))).wm (Wm.end (by repeat (first | exact trivial | refine And.intro rfl ?_ | refine And.intro (congrArg (fun n => V.d (I n)) (wrap_nat _ (by omega))) ?_)) rfl rfl rfl), ⟨hlt, by have := fin ⟨res, false, rds ++ more⟩ (by simp only; omega) rfl hm; rw [g1, g2]; exact this⟩, by simp only; omega⟩)
        | true =>
          simp only [Bool.true_and, if_true] at hm
          cases gd
          all_goals (
            repeat' ((conv => whnf); first | with_reducible refine Dec.t (show true = true from rfl) ?_ | with_reducible refine Dec.t (show false = false from rfl) ?_ | with_reducible refine Dec.f (show ¬ (true = false) by decide) ?_ | with_reducible refine Dec.f (show ¬ (false = true) by decide) ?_ | refine Dec.t (by omega) ?_ | refine Dec.f (by omega) ?_ | refine Dec.split (fun _ => ?_) (fun _ => ?_) | refine Wr.id (by omega) ?_ | refine Chk.mk (by first | omega | exact rfl | (simp only [List.length_map]; omega) | (simp [room]; done) | (simp [room]; omega) | (simp [dropL, room]; done) | (simp [dropL, room]; omega)) ?_ | refine Nam.mk (List.length_map _) ?_ | refine Prep.skip ?_ | refine chk_t (x := D.flat _) (by assumption) ?_ | refine br_mk (fun _ => ?_) (fun _ => ?_) | refine nthK_mk (map_get hx) ?_ | refine ACall.of (hR) ?_ | refine APCall.of (hR) ?_ | fail)
            all_goals (conv => whnf)
            all_goals first
              | (have hm2 := hm
                 rw [show _ = true from (by simp; omega : (true && (decide (s.lo ≤ n) && decide (n ≤ s.hi))) = true)] at hm2
                 exact ⟨⟨i + 1, vr + 1, lr + 1, ds ++ [Pt.d ⟨s.test, n⟩], true, r0 ++ (rds ++ more)⟩, Wm.trans (Wk.liftT' (t := 14) (m := 6) (ys := (r0 ++ (rds ++ more)).map Read.d) rfl rfl (by first | (simp [dropL]; done) | (simp [dropL]; omega)) ((whole (by first | (simp [dropL]; done) | (simp [dropL]; omega))).trans (by simp [dropL]))).wm (Wm.end (by repeat (first | exact trivial | refine And.intro rfl ?_ | refine And.intro (congrArg (fun n => V.d (I n)) (wrap_nat _ (by omega))) ?_)) rfl rfl rfl), ⟨hlt, by
                   have := fin ⟨res ++ [⟨s.test, n⟩], true, rds ++ more⟩ (by simp; omega) rfl hm2
                   simp only [List.map_append, List.length_append, List.map_cons, List.map_nil, List.length_cons, List.length_nil, Nat.zero_add] at this
                   rw [g1, g2]; exact this⟩, by simp only; omega⟩)
              | (have hm2 : certF w lot day known (List.drop (i + 1) l) ⟨res ++ [⟨s.test, n⟩], false, rds ++ more⟩ = certF w lot day known l ⟨[], true, []⟩ := by
                   rw [← hm]; congr 2 <;> first | rfl | (simp; first | omega | (intro; omega))
                 exact ⟨⟨i + 1, vr + 1, lr + 1, ds ++ [Pt.d ⟨s.test, n⟩], false, r0 ++ (rds ++ more)⟩, Wm.trans (Wk.liftT' (t := 14) (m := 6) (ys := (r0 ++ (rds ++ more)).map Read.d) rfl rfl (by first | (simp [dropL]; done) | (simp [dropL]; omega)) ((whole (by first | (simp [dropL]; done) | (simp [dropL]; omega))).trans (by simp [dropL]))).wm (Wm.end (by repeat (first | exact trivial | refine And.intro rfl ?_ | refine And.intro (congrArg (fun n => V.d (I n)) (wrap_nat _ (by omega))) ?_)) rfl rfl rfl), ⟨hlt, by
                   have := fin ⟨res ++ [⟨s.test, n⟩], false, rds ++ more⟩ (by simp; omega) rfl hm2
                   simp only [List.map_append, List.length_append, List.map_cons, List.map_nil, List.length_cons, List.length_nil, Nat.zero_add] at this
                   rw [g1, g2]; exact this⟩, by simp only; omega⟩)
              | trace_state)
      · have : i = l.length := by omega
        subst this
        rw [List.drop_length, certF, List.foldl_nil] at hm
        rw [← hm]
        repeat' ((conv => whnf); first | with_reducible refine Dec.t (show true = true from rfl) ?_ | with_reducible refine Dec.t (show false = false from rfl) ?_ | with_reducible refine Dec.f (show ¬ (true = false) by decide) ?_ | with_reducible refine Dec.f (show ¬ (false = true) by decide) ?_ | refine Dec.t (by omega) ?_ | refine Dec.f (by omega) ?_ | refine Dec.split (fun _ => ?_) (fun _ => ?_) | refine Wr.id (by omega) ?_ | refine Chk.mk (by first | omega | exact rfl | (simp only [List.length_map]; omega) | (simp [room]; done) | (simp [room]; omega) | (simp [dropL, room]; done) | (simp [dropL, room]; omega)) ?_ | refine Nam.mk (List.length_map _) ?_ | refine Prep.skip ?_ | refine chk_t (x := D.flat _) (by assumption) ?_ | refine br_mk (fun _ => ?_) (fun _ => ?_) | refine Nam.mk ((whole hdl.symm).trans g1) ?_ | fail)
        all_goals (conv => whnf)
        rw [g4]
        exact ⟨DLe.refl _, DLe.refl _, DLe.refl _, rfl⟩
  · rw [if_neg (fun h => hs h.1)]
    repeat' ((conv => whnf); first | with_reducible refine Dec.t (show true = true from rfl) ?_ | with_reducible refine Dec.t (show false = false from rfl) ?_ | with_reducible refine Dec.f (show ¬ (true = false) by decide) ?_ | with_reducible refine Dec.f (show ¬ (false = true) by decide) ?_ | refine Dec.t (by omega) ?_ | refine Dec.f (by omega) ?_ | refine Dec.split (fun _ => ?_) (fun _ => ?_) | refine Wr.id (by omega) ?_ | refine Chk.mk (by first | omega | exact rfl | (simp only [List.length_map]; omega) | (simp [room]; done) | (simp [room]; omega) | (simp [dropL, room]; done) | (simp [dropL, room]; omega)) ?_ | refine Nam.mk (List.length_map _) ?_ | refine Prep.skip ?_ | refine chk_t (x := D.flat _) (by assumption) ?_ | refine br_mk (fun _ => ?_) (fun _ => ?_) | refine ACall.ofB (ref40_specs l (by omega)) (fun h => absurd (of_decide_eq_true h) hs) (fun _ => ?_) | fail)
    all_goals (conv => whnf)
    exact ⟨DLe.agg ⟨DLe.refl _, DLe.nil _ _ _, DLe.refl _, rfl⟩, DLe.nil _ _ _, DLe.refl _, rfl⟩
theorem ref40_Check (w : AWorld) (c : Cert) (day known : Int) (l : List Spec) (hl : l.length < 2 ^ 10) (hf : w.facts.length < 2 ^ 40) (hw : w.wide) :
    CallP Tryd.prog 18 [.d w.d, .d c.d, .d (I day), .d (I known), .d (SL 3 (l.map Spec.d))] (retD [.b (checkCM w c day known l).1, I (checkCM w c day known l).2]) := by
  refine exPure_sound (E := envOf Tryd.prog tt Tryd.f18.ntmps) (envOf_ok ttok mixed) Tryd.func18 (by rfl) rfl rfl (Nat.le_of_ble_eq_true rfl) ?_
  have hC := ref40_Certify w c.lot day known l hl hf hw
  have hr := certF_res w c.lot day known l ⟨[], true, []⟩
  simp only [List.length_nil, Nat.zero_add] at hr
  unfold checkCM
  unfold certifyM at hC
  by_cases hs : specsOk l ∧ (lotM w c.lot day known).ok = true
  · rw [if_pos hs] at hC ⊢
    generalize certF w c.lot day known l ⟨[], true, []⟩ = cc at hC hr
    simp only [CertM.d, certD] at hC
    have hS := ref40_Same ⟨c.lot, cc.res, cc.good⟩ c (by simp only; omega)
    repeat' ((conv => whnf); first | with_reducible refine Dec.t (show true = true from rfl) ?_ | with_reducible refine Dec.t (show false = false from rfl) ?_ | with_reducible refine Dec.f (show ¬ (true = false) by decide) ?_ | with_reducible refine Dec.f (show ¬ (false = true) by decide) ?_ | refine Dec.t (by omega) ?_ | refine Dec.f (by omega) ?_ | refine Dec.split (fun _ => ?_) (fun _ => ?_) | refine Wr.id (by omega) ?_ | refine Chk.mk (by first | omega | exact rfl | (simp only [List.length_map]; omega) | (simp [room]; done) | (simp [room]; omega) | (simp [dropL, room]; done) | (simp [dropL, room]; omega)) ?_ | refine Nam.mk (List.length_map _) ?_ | refine Prep.skip ?_ | refine chk_t (x := D.flat _) (by assumption) ?_ | refine br_mk (fun _ => ?_) (fun _ => ?_) | refine ACall.of (hC) ?_ | refine APCall.of (hC) ?_ | refine ACall.of (hS) ?_ | refine APCall.of (hS) ?_ | fail)
    all_goals (conv => whnf)
    refine ⟨leafD ?_, DLe.refl _, rfl⟩
    rw [Bool.eq_iff_iff, decide_eq_true_eq, decide_eq_true_eq]
    constructor
    · intro h; rw [← h]; exact ⟨rfl, rfl⟩
    · rintro ⟨h1, h2⟩; cases c; simp only at h1 h2; rw [h1, h2]
  · rw [if_neg hs] at hC ⊢
    simp only [CertM.d] at hC
    repeat' ((conv => whnf); first | with_reducible refine Dec.t (show true = true from rfl) ?_ | with_reducible refine Dec.t (show false = false from rfl) ?_ | with_reducible refine Dec.f (show ¬ (true = false) by decide) ?_ | with_reducible refine Dec.f (show ¬ (false = true) by decide) ?_ | refine Dec.t (by omega) ?_ | refine Dec.f (by omega) ?_ | refine Dec.split (fun _ => ?_) (fun _ => ?_) | refine Wr.id (by omega) ?_ | refine Chk.mk (by first | omega | exact rfl | (simp only [List.length_map]; omega) | (simp [room]; done) | (simp [room]; omega) | (simp [dropL, room]; done) | (simp [dropL, room]; omega)) ?_ | refine Nam.mk (List.length_map _) ?_ | refine Prep.skip ?_ | refine chk_t (x := D.flat _) (by assumption) ?_ | refine br_mk (fun _ => ?_) (fun _ => ?_) | refine ACall.of (hC) ?_ | refine APCall.of (hC) ?_ | fail)
    all_goals (conv => whnf)
    exact (by repeat (first | exact trivial | exact rfl | exact DLe.refl _ | exact DLe.full _ _ _ | exact DLe.nil _ _ _ | exact VLe.refl _ | refine And.intro ?_ ?_ | refine VLe.d ?_ | refine DLe.agg ?_))
theorem ref40_State (w : AWorld) (lot day known : Int) (l : List Spec) (held : List Int) (hl : l.length < 2 ^ 10) (hh : held.length < 2 ^ 40) (hf : w.facts.length < 2 ^ 40) (hw : w.wide) :
    CallP Tryd.prog 20 [.d w.d, .d (I lot), .d (I day), .d (I known), .d (SL 3 (l.map Spec.d)), .d (SL 1 (held.map I))] (retD [I (stateM w lot day known l held).1, readsD (stateM w lot day known l held).2.1, I (stateM w lot day known l held).2.2]) := by
  refine exPure_sound (E := envOf Tryd.prog tt Tryd.f20.ntmps) (envOf_ok ttok mixed) Tryd.func20 (by rfl) rfl rfl (Nat.le_of_ble_eq_true rfl) ?_
  have hL := ref18_Lot w lot day known hf hw
  have hC := ref40_Certify w lot day known l hl hf hw
  unfold stateM
  unfold certifyM at hC
  by_cases hs : specsOk l
  · by_cases hh2 : lotsOk held
    · rw [if_pos ⟨hs, hh2⟩]
      generalize lotM w lot day known = q at hL hC
      obtain ⟨lt, rs, ok⟩ := q
      simp only [LotR.d] at hL hC ⊢
      cases ok with
      | false =>
        rw [if_neg (by simp)]
        repeat' ((conv => whnf); first | with_reducible refine Dec.t (show true = true from rfl) ?_ | with_reducible refine Dec.t (show false = false from rfl) ?_ | with_reducible refine Dec.f (show ¬ (true = false) by decide) ?_ | with_reducible refine Dec.f (show ¬ (false = true) by decide) ?_ | refine Dec.t (by omega) ?_ | refine Dec.f (by omega) ?_ | refine Dec.split (fun _ => ?_) (fun _ => ?_) | refine Wr.id (by omega) ?_ | refine Chk.mk (by first | omega | exact rfl | (simp only [List.length_map]; omega) | (simp [room]; done) | (simp [room]; omega) | (simp [dropL, room]; done) | (simp [dropL, room]; omega)) ?_ | refine Nam.mk (List.length_map _) ?_ | refine Prep.skip ?_ | refine chk_t (x := D.flat _) (by assumption) ?_ | refine br_mk (fun _ => ?_) (fun _ => ?_) | refine ACall.ofB (ref40_specs l (by omega)) (fun _ => ?_) (fun h => absurd hs (of_decide_eq_false h)) | refine ACall.ofB (ref40_lots held hh) (fun _ => ?_) (fun h => absurd hh2 (of_decide_eq_false h)) | refine ACall.of (hL) ?_ | refine APCall.of (hL) ?_ | fail)
        all_goals (conv => whnf)
        exact (by repeat (first | exact trivial | exact rfl | exact DLe.refl _ | exact DLe.full _ _ _ | exact DLe.nil _ _ _ | exact VLe.refl _ | refine And.intro ?_ ?_ | refine VLe.d ?_ | refine DLe.agg ?_))
      | true =>
        rw [if_pos rfl]
        rw [if_pos ⟨hs, rfl⟩] at hC
        generalize certF w lot day known l ⟨[], true, []⟩ = cc at hC
        obtain ⟨res, good, rds⟩ := cc
        simp only [CertM.d, certD] at hC ⊢
        repeat' ((conv => whnf); first | with_reducible refine Dec.t (show true = true from rfl) ?_ | with_reducible refine Dec.t (show false = false from rfl) ?_ | with_reducible refine Dec.f (show ¬ (true = false) by decide) ?_ | with_reducible refine Dec.f (show ¬ (false = true) by decide) ?_ | refine Dec.t (by omega) ?_ | refine Dec.f (by omega) ?_ | refine Dec.split (fun _ => ?_) (fun _ => ?_) | refine Wr.id (by omega) ?_ | refine Chk.mk (by first | omega | exact rfl | (simp only [List.length_map]; omega) | (simp [room]; done) | (simp [room]; omega) | (simp [dropL, room]; done) | (simp [dropL, room]; omega)) ?_ | refine Nam.mk (List.length_map _) ?_ | refine Prep.skip ?_ | refine chk_t (x := D.flat _) (by assumption) ?_ | refine br_mk (fun _ => ?_) (fun _ => ?_) | refine ACall.ofB (ref40_specs l (by omega)) (fun _ => ?_) (fun h => absurd hs (of_decide_eq_false h)) | refine ACall.ofB (ref40_lots held hh) (fun _ => ?_) (fun h => absurd hh2 (of_decide_eq_false h)) | refine ACall.of (hL) ?_ | refine APCall.of (hL) ?_ | refine ACall.of (hC) ?_ | refine APCall.of (hC) ?_ | refine ACall.ofB (ref40_has held lot hh) (fun _ => ?_) (fun _ => ?_) | refine APCall.ofB (ref40_has held lot hh) (fun _ => ?_) (fun _ => ?_) | fail)
        all_goals (conv => whnf)
        all_goals try simp only [decide_eq_true_eq, decide_eq_false_iff_not] at *
        all_goals exact ⟨leafI (by (repeat' split) <;> first | rfl | (exfalso; simp_all; done) | (exfalso; simp_all; omega)), DLe.refl _, DLe.refl _, rfl⟩
    · rw [if_neg (fun h => hh2 h.2)]
      repeat' ((conv => whnf); first | with_reducible refine Dec.t (show true = true from rfl) ?_ | with_reducible refine Dec.t (show false = false from rfl) ?_ | with_reducible refine Dec.f (show ¬ (true = false) by decide) ?_ | with_reducible refine Dec.f (show ¬ (false = true) by decide) ?_ | refine Dec.t (by omega) ?_ | refine Dec.f (by omega) ?_ | refine Dec.split (fun _ => ?_) (fun _ => ?_) | refine Wr.id (by omega) ?_ | refine Chk.mk (by first | omega | exact rfl | (simp only [List.length_map]; omega) | (simp [room]; done) | (simp [room]; omega) | (simp [dropL, room]; done) | (simp [dropL, room]; omega)) ?_ | refine Nam.mk (List.length_map _) ?_ | refine Prep.skip ?_ | refine chk_t (x := D.flat _) (by assumption) ?_ | refine br_mk (fun _ => ?_) (fun _ => ?_) | refine ACall.ofB (ref40_specs l (by omega)) (fun _ => ?_) (fun h => absurd hs (of_decide_eq_false h)) | refine ACall.ofB (ref40_lots held hh) (fun h => absurd (of_decide_eq_true h) hh2) (fun _ => ?_) | fail)
      all_goals (conv => whnf)
      exact (by repeat (first | exact trivial | exact rfl | exact DLe.refl _ | exact DLe.full _ _ _ | exact DLe.nil _ _ _ | exact VLe.refl _ | refine And.intro ?_ ?_ | refine VLe.d ?_ | refine DLe.agg ?_))
  · rw [if_neg (fun h => hs h.1)]
    repeat' ((conv => whnf); first | with_reducible refine Dec.t (show true = true from rfl) ?_ | with_reducible refine Dec.t (show false = false from rfl) ?_ | with_reducible refine Dec.f (show ¬ (true = false) by decide) ?_ | with_reducible refine Dec.f (show ¬ (false = true) by decide) ?_ | refine Dec.t (by omega) ?_ | refine Dec.f (by omega) ?_ | refine Dec.split (fun _ => ?_) (fun _ => ?_) | refine Wr.id (by omega) ?_ | refine Chk.mk (by first | omega | exact rfl | (simp only [List.length_map]; omega) | (simp [room]; done) | (simp [room]; omega) | (simp [dropL, room]; done) | (simp [dropL, room]; omega)) ?_ | refine Nam.mk (List.length_map _) ?_ | refine Prep.skip ?_ | refine chk_t (x := D.flat _) (by assumption) ?_ | refine br_mk (fun _ => ?_) (fun _ => ?_) | refine ACall.ofB (ref40_specs l (by omega)) (fun h => absurd (of_decide_eq_true h) hs) (fun _ => ?_) | fail)
    all_goals (conv => whnf)
    exact (by repeat (first | exact trivial | exact rfl | exact DLe.refl _ | exact DLe.full _ _ _ | exact DLe.nil _ _ _ | exact VLe.refl _ | refine And.intro ?_ ?_ | refine VLe.d ?_ | refine DLe.agg ?_))
end Go.PM

