/- Package quality: join, certify, Certify. -/
import Derived.Test.YtoliiomecffacaaDoorQ40a
namespace Go.PM
open Go.Proofs
set_option maxRecDepth 10000
set_option maxHeartbeats 2000000

def readsD (r : List Read) : D := SL 5 (r.map Read.d)
def rdOk (rd : D) (rs : List Read) : Prop := (rd = .sl 0 true [] ∧ rs = []) ∨ rd = readsD rs
theorem rdOk.les {rd : D} {rs : List Read} (h : rdOk rd rs) : DLes rd.cells (readsD rs).cells := by
  rcases h with ⟨rfl, rfl⟩ | rfl
  · exact ⟨DLe.nil _ _ _, rfl⟩
  · exact ⟨DLe.refl _, rfl⟩
theorem rdOk.le {rd : D} {rs : List Read} (h : rdOk rd rs) : DLe rd (readsD rs) := by
  rcases h with ⟨rfl, rfl⟩ | rfl
  · exact DLe.nil _ _ _
  · exact DLe.refl _
theorem join_le {rd : D} {rs : List Read} (h : rdOk rd rs) (more : List Read) : VLes [.d (.sl 1 true [rd, SL 5 (more.map Read.d)])] [.d (SL 1 ([rs, more].map readsD))] :=
  ⟨VLe.d ((DLe.sl (sz := 1) (full := true) (xs := [rd, SL 5 (more.map Read.d)]) (ys := [readsD rs, readsD more]) ⟨rfl, fun j x y hx hy => by
    match j, hx, hy with
    | 0, hx, hy => cases hx; cases hy; exact h.les
    | 1, hx, hy => cases hx; cases hy; exact ⟨DLe.refl _, rfl⟩⟩).trans (DLe.full _ _ _)), rfl⟩
structure XJ where
  i : Nat
  vr : Nat
  lr : Nat
  ds : List D
structure XC where
  i : Nat
  vr : Nat
  lr : Nat
  ds : List D
  good : Bool
  rd : D
theorem quality_join (ls : List (List Read)) (hl : ls.length < 2 ^ 20) (hf : ls.flatten.length < 2 ^ 20) : CallP Tryd.prog 28 [.d (SL 1 (ls.map readsD))] (retD [readsD ls.flatten]) := by
  refine exPure_sound (E := envOf Tryd.prog tt Tryd.f28.ntmps) (envOf_ok ttok mixed) Tryd.func28 (by rfl) rfl rfl (Nat.le_of_ble_eq_true rfl) ?_
  repeat' ((conv => whnf); first | with_reducible refine Dec.t (show true = true from rfl) ?_ | with_reducible refine Dec.t (show false = false from rfl) ?_ | with_reducible refine Dec.f (show ¬ (true = false) by decide) ?_ | with_reducible refine Dec.f (show ¬ (false = true) by decide) ?_ | refine Dec.t (by omega) ?_ | refine Dec.f (by omega) ?_ | refine Dec.split (fun _ => ?_) (fun _ => ?_) | refine Wr.id (by omega) ?_ | refine Chk.mk (by first | omega | exact rfl | (simp only [List.length_map]; omega) | (simp [room]; done) | (simp [room]; omega) | (simp [dropL, room]; done) | (simp [dropL, room]; omega)) ?_ | refine Nam.mk (List.length_map _) ?_ | refine Prep.skip ?_ | refine chk_t (x := D.flat _) (by assumption) ?_ | refine br_mk (fun _ => ?_) (fun _ => ?_) | fail)
  all_goals (conv => whnf)
  refine ALoop.virt 2 0 5 false (by decide) rfl ?_
  conv => whnf
  refine ALoop.at (E := envOf Tryd.prog tt Tryd.f28.ntmps) (envOf_ok ttok mixed) (X := XJ) (fun x => [(7, .d (I x.i)), (2, .sref 0 x.vr 0 x.lr false)]) (fun x => [(0, .row x.vr 5 false x.ds)]) (fun x => x.i ≤ ls.length ∧ x.ds = ((ls.take x.i).flatten).map Read.d ∧ x.lr = ((ls.take x.i).flatten).length) (fun x => ls.length - x.i) ⟨0, 0, 0, []⟩ (by repeat (first | exact trivial | refine And.intro rfl ?_ | refine And.intro (congrArg (fun n => V.d (I n)) (wrap_nat _ (by omega))) ?_)) rfl ⟨Nat.zero_le _, rfl, rfl⟩ ?_
  rintro ⟨i, vr, lr, ds⟩ ⟨hi, g1, g2⟩
  simp only at hi g1 g2
  dsimp only
  have hdl : ds.length = lr := by rw [g1, g2, List.length_map]
  by_cases hlt : i < ls.length
  · obtain ⟨r, hx, hd⟩ := drop_get hlt
    have hs : (ls.take (i + 1)).flatten = (ls.take i).flatten ++ r := by rw [List.take_add_one, hx]; simp
    have hle : lr + r.length ≤ ls.flatten.length := by
      have : ls.flatten = (ls.take i).flatten ++ (r ++ (ls.drop (i + 1)).flatten) := by
        conv => lhs; rw [← List.take_append_drop i ls, hd]
        simp
      rw [this, g2]; simp only [List.length_append]; omega
    repeat' ((conv => whnf); first | with_reducible refine Dec.t (show true = true from rfl) ?_ | with_reducible refine Dec.t (show false = false from rfl) ?_ | with_reducible refine Dec.f (show ¬ (true = false) by decide) ?_ | with_reducible refine Dec.f (show ¬ (false = true) by decide) ?_ | refine Dec.t (by omega) ?_ | refine Dec.f (by omega) ?_ | refine Dec.split (fun _ => ?_) (fun _ => ?_) | refine Wr.id (by omega) ?_ | refine Chk.mk (by first | omega | exact rfl | (simp only [List.length_map]; omega) | (simp [room]; done) | (simp [room]; omega) | (simp [dropL, room]; done) | (simp [dropL, room]; omega)) ?_ | refine Nam.mk (List.length_map _) ?_ | refine Prep.skip ?_ | refine chk_t (x := D.flat _) (by assumption) ?_ | refine br_mk (fun _ => ?_) (fun _ => ?_) | refine nthK_mk (map_get hx) ?_ | fail)
    all_goals (conv => whnf)
    refine ⟨⟨i + 1, vr + 1, lr + (r.map Read.d).length, ds ++ r.map Read.d⟩, Wm.end (by repeat (first | exact trivial | refine And.intro rfl ?_ | refine And.intro (congrArg (fun n => V.d (I n)) (wrap_nat _ (by omega))) ?_)) rfl rfl rfl, ⟨hlt, by simp only; rw [hs, List.map_append, ← g1], by simp only; rw [hs, List.length_append, ← g2, List.length_map]⟩, by simp only; omega⟩
  · have : i = ls.length := by omega
    subst this
    rw [List.take_length] at g1
    repeat' ((conv => whnf); first | with_reducible refine Dec.t (show true = true from rfl) ?_ | with_reducible refine Dec.t (show false = false from rfl) ?_ | with_reducible refine Dec.f (show ¬ (true = false) by decide) ?_ | with_reducible refine Dec.f (show ¬ (false = true) by decide) ?_ | refine Dec.t (by omega) ?_ | refine Dec.f (by omega) ?_ | refine Dec.split (fun _ => ?_) (fun _ => ?_) | refine Wr.id (by omega) ?_ | refine Chk.mk (by first | omega | exact rfl | (simp only [List.length_map]; omega) | (simp [room]; done) | (simp [room]; omega) | (simp [dropL, room]; done) | (simp [dropL, room]; omega)) ?_ | refine Nam.mk (List.length_map _) ?_ | refine Prep.skip ?_ | refine chk_t (x := D.flat _) (by assumption) ?_ | refine br_mk (fun _ => ?_) (fun _ => ?_) | refine Nam.mk ((whole hdl.symm).trans g1) ?_ | fail)
    all_goals (conv => whnf)
    exact (by repeat (first | exact trivial | exact rfl | exact DLe.refl _ | exact DLe.full _ _ _ | exact DLe.nil _ _ _ | exact VLe.refl _ | refine And.intro ?_ ?_ | refine VLe.d ?_ | refine DLe.agg ?_))
structure CertR where
  res : List Pt
  good : Bool
  reads : List Read
def certStep (w : AWorld) (lot day known : Int) (c : CertR) (s : Spec) : CertR :=
  ⟨if (resultM w lot s.test day known).2.2 then c.res ++ [⟨s.test, (resultM w lot s.test day known).1⟩] else c.res,
   c.good && ((resultM w lot s.test day known).2.2 && (decide (s.lo ≤ (resultM w lot s.test day known).1) && decide ((resultM w lot s.test day known).1 ≤ s.hi))),
   c.reads ++ (resultM w lot s.test day known).2.1⟩
def certF (w : AWorld) (lot day known : Int) (l : List Spec) (c : CertR) : CertR := l.foldl (certStep w lot day known) c
def certD (lot : Int) (c : CertR) : D := .agg [I lot, SL 2 (c.res.map Pt.d), .b c.good]
theorem quality_certify (w : AWorld) (lot day known : Int) (l : List Spec) (hl : l.length < 2 ^ 10) (hf : w.facts.length < 2 ^ 40) : CallP Tryd.prog 27 [.d w.d, .d (I lot), .d (I day), .d (I known), .d (SL 3 (l.map Spec.d))]
    (retD [certD lot (certF w lot day known l ⟨[], true, []⟩), readsD (certF w lot day known l ⟨[], true, []⟩).reads]) := by
  refine exPure_sound (E := envOf Tryd.prog tt Tryd.f27.ntmps) (envOf_ok ttok mixed) Tryd.func27 (by rfl) rfl rfl (Nat.le_of_ble_eq_true rfl) ?_
  repeat' ((conv => whnf); first | with_reducible refine Dec.t (show true = true from rfl) ?_ | with_reducible refine Dec.t (show false = false from rfl) ?_ | with_reducible refine Dec.f (show ¬ (true = false) by decide) ?_ | with_reducible refine Dec.f (show ¬ (false = true) by decide) ?_ | refine Dec.t (by omega) ?_ | refine Dec.f (by omega) ?_ | refine Dec.split (fun _ => ?_) (fun _ => ?_) | refine Wr.id (by omega) ?_ | refine Chk.mk (by first | omega | exact rfl | (simp only [List.length_map]; omega) | (simp [room]; done) | (simp [room]; omega) | (simp [dropL, room]; done) | (simp [dropL, room]; omega)) ?_ | refine Nam.mk (List.length_map _) ?_ | refine Prep.skip ?_ | refine chk_t (x := D.flat _) (by assumption) ?_ | refine br_mk (fun _ => ?_) (fun _ => ?_) | fail)
  all_goals (conv => whnf)
  refine ALoop.virtC 1 1 0 2 false (by decide) rfl rfl ?_
  conv => whnf
  refine ALoop.at (E := envOf Tryd.prog tt Tryd.f27.ntmps) (envOf_ok ttok mixed) (X := XC) (fun x => [(21, .d (I x.i)), (11, .d x.rd)]) (fun x => [(1, .var [.d (I lot), .sref 2 x.vr 0 x.lr false, .d (.b x.good)]), (2, .row x.vr 2 false x.ds)])
    (fun x => x.i ≤ l.length ∧ ∃ c : CertR, x.ds = c.res.map Pt.d ∧ x.lr = c.res.length ∧ x.good = c.good ∧ rdOk x.rd c.reads ∧ c.res.length ≤ x.i ∧ c.reads.length ≤ x.i ∧ certF w lot day known (l.drop x.i) c = certF w lot day known l ⟨[], true, []⟩) (fun x => l.length - x.i)
    ⟨0, 0, 0, [], true, .sl 0 true []⟩ (by repeat (first | exact trivial | refine And.intro rfl ?_ | refine And.intro (congrArg (fun n => V.d (I n)) (wrap_nat _ (by omega))) ?_)) rfl ⟨Nat.zero_le _, ⟨[], true, []⟩, rfl, rfl, rfl, .inl ⟨rfl, rfl⟩, Nat.le_refl _, Nat.le_refl _, rfl⟩ ?_
  rintro ⟨i, vr, lr, ds, good, rd⟩ ⟨hi, c, g1, g2, g3, g4, g5, g6, hm⟩
  simp only at hi g1 g2 g3 g4 g5 g6 hm
  subst g3
  dsimp only
  have hdl : ds.length = lr := by rw [g1, g2, List.length_map]
  by_cases hlt : i < l.length
  · obtain ⟨s, hx, hd⟩ := drop_get hlt
    rw [hd, certF, List.foldl_cons, ← certF] at hm
    have hR := quality_Result w lot s.test day known hf
    have hrl : (resultM w lot s.test day known).2.1.length ≤ 1 := by
      unfold resultM
      split
      · split <;> simp
      · simp
    have hJ := quality_join [c.reads, (resultM w lot s.test day known).2.1] (by simp) (by simp; omega)
    unfold certStep at hm
    generalize resultM w lot s.test day known = q at hm hR hrl hJ
    obtain ⟨n, more, ok⟩ := q
    simp only [resD] at hm hR hrl hJ
    have hJle := join_le g4 more
    obtain ⟨res, gd, rs⟩ := c
    simp only at hm g1 g2 g4 g5 g6 hJ hJle ⊢
    have hfl : [rs, more].flatten = rs ++ more := by simp
    rw [hfl] at hJ
    have fin : ∀ (c' : CertR), c'.res.length ≤ i + 1 → c'.reads = rs ++ more → certF w lot day known (l.drop (i + 1)) c' = certF w lot day known l ⟨[], true, []⟩ → ∃ c : CertR, c'.res.map Pt.d = c.res.map Pt.d ∧ c'.res.length = c.res.length ∧ c'.good = c.good ∧ rdOk (readsD (rs ++ more)) c.reads ∧ c.res.length ≤ i + 1 ∧ c.reads.length ≤ i + 1 ∧ certF w lot day known (l.drop (i + 1)) c = certF w lot day known l ⟨[], true, []⟩ :=
      fun c' h1 h2 h3 => ⟨c', rfl, rfl, rfl, .inr (by rw [h2]), h1, by rw [h2, List.length_append]; omega, h3⟩
    have hcl : rd.cells.length = 1 := by rcases g4 with ⟨rfl, _⟩ | rfl <;> rfl
    cases ok with
    | false =>
      simp only [Bool.false_and, Bool.and_false, Bool.false_eq_true, if_false] at hm
      cases gd
      all_goals (
        repeat' ((conv => whnf); first | with_reducible refine Dec.t (show true = true from rfl) ?_ | with_reducible refine Dec.t (show false = false from rfl) ?_ | with_reducible refine Dec.f (show ¬ (true = false) by decide) ?_ | with_reducible refine Dec.f (show ¬ (false = true) by decide) ?_ | refine Dec.t (by omega) ?_ | refine Dec.f (by omega) ?_ | refine Dec.split (fun _ => ?_) (fun _ => ?_) | refine Wr.id (by omega) ?_ | refine Chk.mk (by first | omega | exact rfl | (simp only [List.length_map]; omega) | (simp [room]; done) | (simp [room]; omega) | (simp [dropL, room]; done) | (simp [dropL, room]; omega)) ?_ | refine Nam.mk (List.length_map _) ?_ | refine Prep.skip ?_ | refine chk_t (x := D.flat _) (by assumption) ?_ | refine br_mk (fun _ => ?_) (fun _ => ?_) | refine nthK_mk (map_get hx) ?_ | refine ACall.of (hR) ?_ | refine APCall.of (hR) ?_ | refine ACall.le hJle hJ ?_ | fail)
        all_goals (conv => whnf)
        all_goals first | (rename_i h; rw [hcl] at h; exact absurd h (by decide)) | skip
        exact ⟨⟨i + 1, vr, lr, ds, false, readsD (rs ++ more)⟩, Wm.end (by repeat (first | exact trivial | refine And.intro rfl ?_ | refine And.intro (congrArg (fun n => V.d (I n)) (wrap_nat _ (by omega))) ?_)) rfl rfl rfl, ⟨hlt, by have := fin ⟨res, false, rs ++ more⟩ (by simp only; omega) rfl hm; rw [g1, g2]; exact this⟩, by simp only; omega⟩)
    | true =>
      simp only [Bool.true_and, if_true] at hm
      cases gd
      all_goals (
        repeat' ((conv => whnf); first | with_reducible refine Dec.t (show true = true from rfl) ?_ | with_reducible refine Dec.t (show false = false from rfl) ?_ | with_reducible refine Dec.f (show ¬ (true = false) by decide) ?_ | with_reducible refine Dec.f (show ¬ (false = true) by decide) ?_ | refine Dec.t (by omega) ?_ | refine Dec.f (by omega) ?_ | refine Dec.split (fun _ => ?_) (fun _ => ?_) | refine Wr.id (by omega) ?_ | refine Chk.mk (by first | omega | exact rfl | (simp only [List.length_map]; omega) | (simp [room]; done) | (simp [room]; omega) | (simp [dropL, room]; done) | (simp [dropL, room]; omega)) ?_ | refine Nam.mk (List.length_map _) ?_ | refine Prep.skip ?_ | refine chk_t (x := D.flat _) (by assumption) ?_ | refine br_mk (fun _ => ?_) (fun _ => ?_) | refine nthK_mk (map_get hx) ?_ | refine ACall.of (hR) ?_ | refine APCall.of (hR) ?_ | refine ACall.le hJle hJ ?_ | fail)
        all_goals (conv => whnf)
        all_goals first
          | (rename_i h; rw [hcl] at h; exact absurd h (by decide))
          | (have hm2 := hm
             rw [show _ = true from (by simp; omega : (true && (decide (s.lo ≤ n) && decide (n ≤ s.hi))) = true)] at hm2
             exact ⟨⟨i + 1, vr + 1, lr + 1, ds ++ [Pt.d ⟨s.test, n⟩], true, readsD (rs ++ more)⟩, Wm.end (by repeat (first | exact trivial | refine And.intro rfl ?_ | refine And.intro (congrArg (fun n => V.d (I n)) (wrap_nat _ (by omega))) ?_)) rfl rfl rfl, ⟨hlt, by
               have := fin ⟨res ++ [⟨s.test, n⟩], true, rs ++ more⟩ (by simp; omega) rfl hm2
               simp only [List.map_append, List.length_append, List.map_cons, List.map_nil, List.length_cons, List.length_nil, Nat.zero_add] at this
               rw [g1, g2]; exact this⟩, by simp only; omega⟩)
          | (have hm2 : certF w lot day known (List.drop (i + 1) l) ⟨res ++ [⟨s.test, n⟩], false, rs ++ more⟩ = certF w lot day known l ⟨[], true, []⟩ := by
               rw [← hm]; congr 2 <;> first | rfl | (simp; first | omega | (intro; omega))
             exact ⟨⟨i + 1, vr + 1, lr + 1, ds ++ [Pt.d ⟨s.test, n⟩], false, readsD (rs ++ more)⟩, Wm.end (by repeat (first | exact trivial | refine And.intro rfl ?_ | refine And.intro (congrArg (fun n => V.d (I n)) (wrap_nat _ (by omega))) ?_)) rfl rfl rfl, ⟨hlt, by
               have := fin ⟨res ++ [⟨s.test, n⟩], false, rs ++ more⟩ (by simp; omega) rfl hm2
               simp only [List.map_append, List.length_append, List.map_cons, List.map_nil, List.length_cons, List.length_nil, Nat.zero_add] at this
               rw [g1, g2]; exact this⟩, by simp only; omega⟩)
          | trace_state)
  · have : i = l.length := by omega
    subst this
    rw [List.drop_length, certF, List.foldl_nil] at hm
    rw [← hm]
    repeat' ((conv => whnf); first | with_reducible refine Dec.t (show true = true from rfl) ?_ | with_reducible refine Dec.t (show false = false from rfl) ?_ | with_reducible refine Dec.f (show ¬ (true = false) by decide) ?_ | with_reducible refine Dec.f (show ¬ (false = true) by decide) ?_ | refine Dec.t (by omega) ?_ | refine Dec.f (by omega) ?_ | refine Dec.split (fun _ => ?_) (fun _ => ?_) | refine Wr.id (by omega) ?_ | refine Chk.mk (by first | omega | exact rfl | (simp only [List.length_map]; omega) | (simp [room]; done) | (simp [room]; omega) | (simp [dropL, room]; done) | (simp [dropL, room]; omega)) ?_ | refine Nam.mk (List.length_map _) ?_ | refine Prep.skip ?_ | refine chk_t (x := D.flat _) (by assumption) ?_ | refine br_mk (fun _ => ?_) (fun _ => ?_) | refine Nam.mk ((whole hdl.symm).trans g1) ?_ | fail)
    all_goals (conv => whnf)
    refine ⟨?_, ?_⟩
    · exact DLe.refl _
    · exact ⟨g4.le, rfl⟩

structure CertM where
  c : D
  reads : List Read
  e : Int
def certZ : D := .agg [I 0, .sl 0 true [], .b false]
def certifyM (w : AWorld) (lot day known : Int) (l : List Spec) : CertM :=
  if specsOk l ∧ (lotM w lot day known).ok = true then ⟨certD lot (certF w lot day known l ⟨[], true, []⟩), (lotM w lot day known).reads ++ (certF w lot day known l ⟨[], true, []⟩).reads, 0⟩
  else ⟨.agg [I 0, SL 2 [], .b false], [], 400⟩
def CertM.d (m : CertM) : V := retD [m.c, readsD m.reads, I m.e]
theorem certF_reads (w : AWorld) (lot day known : Int) : ∀ (l : List Spec) (c : CertR), (certF w lot day known l c).reads.length ≤ c.reads.length + l.length
  | [], c => by simp [certF]
  | s :: l, c => by
    have h1 := certF_reads w lot day known l (certStep w lot day known c s)
    have h2 : (resultM w lot s.test day known).2.1.length ≤ 1 := by
      unfold resultM
      split
      · split <;> simp
      · simp
    have h3 : (certStep w lot day known c s).reads.length ≤ c.reads.length + 1 := by unfold certStep; simp; omega
    unfold certF at h1 ⊢
    simp only [List.foldl_cons, List.length_cons]; omega
theorem findM_reads (l : List Fact) (no day known : Int) : (findM l no day known).reads.length ≤ 5 := by
  unfold findM
  repeat' split
  all_goals simp
theorem lotM_reads (w : AWorld) (no day known : Int) : (lotM w no day known).reads.length ≤ 6 := by
  unfold lotM
  have := findM_reads w.facts no day known
  repeat' split
  all_goals simp
  all_goals omega
theorem quality_Certify (w : AWorld) (lot day known : Int) (l : List Spec) (hl : l.length < 2 ^ 10) (hf : w.facts.length < 2 ^ 40) : CallP Tryd.prog 13 [.d w.d, .d (I lot), .d (I day), .d (I known), .d (SL 3 (l.map Spec.d))] (certifyM w lot day known l).d := by
  refine exPure_sound (E := envOf Tryd.prog tt Tryd.f13.ntmps) (envOf_ok ttok mixed) Tryd.func13 (by rfl) rfl rfl (Nat.le_of_ble_eq_true rfl) ?_
  have hL := stock_Lot w lot day known hf
  have hC := quality_certify w lot day known l hl hf
  have hr1 := lotM_reads w lot day known
  have hr2 := certF_reads w lot day known l ⟨[], true, []⟩
  simp only [List.length_nil, Nat.zero_add] at hr2
  unfold certifyM
  by_cases hs : specsOk l
  · generalize lotM w lot day known = q at hL hr1
    obtain ⟨lt, rs, ok⟩ := q
    simp only [LotR.d] at hL hr1 ⊢
    cases ok with
    | false =>
      rw [if_neg (fun h => by cases h.2)]
      repeat' ((conv => whnf); first | with_reducible refine Dec.t (show true = true from rfl) ?_ | with_reducible refine Dec.t (show false = false from rfl) ?_ | with_reducible refine Dec.f (show ¬ (true = false) by decide) ?_ | with_reducible refine Dec.f (show ¬ (false = true) by decide) ?_ | refine Dec.t (by omega) ?_ | refine Dec.f (by omega) ?_ | refine Dec.split (fun _ => ?_) (fun _ => ?_) | refine Wr.id (by omega) ?_ | refine Chk.mk (by first | omega | exact rfl | (simp only [List.length_map]; omega) | (simp [room]; done) | (simp [room]; omega) | (simp [dropL, room]; done) | (simp [dropL, room]; omega)) ?_ | refine Nam.mk (List.length_map _) ?_ | refine Prep.skip ?_ | refine chk_t (x := D.flat _) (by assumption) ?_ | refine br_mk (fun _ => ?_) (fun _ => ?_) | refine ACall.ofB (quality_validSpecs l (by omega)) (fun _ => ?_) (fun h => absurd hs (of_decide_eq_false h)) | refine ACall.of (hL) ?_ | refine APCall.of (hL) ?_ | fail)
      all_goals (conv => whnf)
      exact ⟨DLe.agg ⟨DLe.refl _, DLe.nil _ _ _, DLe.refl _, rfl⟩, DLe.nil _ _ _, DLe.refl _, rfl⟩
    | true =>
      rw [if_pos ⟨hs, rfl⟩]
      generalize certF w lot day known l ⟨[], true, []⟩ = cc at hC hr2
      have hJ := quality_join [rs, cc.reads] (by simp) (by simp; omega)
      rw [show [rs, cc.reads].flatten = rs ++ cc.reads by simp] at hJ
      repeat' ((conv => whnf); first | with_reducible refine Dec.t (show true = true from rfl) ?_ | with_reducible refine Dec.t (show false = false from rfl) ?_ | with_reducible refine Dec.f (show ¬ (true = false) by decide) ?_ | with_reducible refine Dec.f (show ¬ (false = true) by decide) ?_ | refine Dec.t (by omega) ?_ | refine Dec.f (by omega) ?_ | refine Dec.split (fun _ => ?_) (fun _ => ?_) | refine Wr.id (by omega) ?_ | refine Chk.mk (by first | omega | exact rfl | (simp only [List.length_map]; omega) | (simp [room]; done) | (simp [room]; omega) | (simp [dropL, room]; done) | (simp [dropL, room]; omega)) ?_ | refine Nam.mk (List.length_map _) ?_ | refine Prep.skip ?_ | refine chk_t (x := D.flat _) (by assumption) ?_ | refine br_mk (fun _ => ?_) (fun _ => ?_) | refine ACall.ofB (quality_validSpecs l (by omega)) (fun _ => ?_) (fun h => absurd hs (of_decide_eq_false h)) | refine ACall.of (hL) ?_ | refine APCall.of (hL) ?_ | refine ACall.of (hC) ?_ | refine APCall.of (hC) ?_ | refine ACall.le (join_le (.inr rfl) cc.reads) hJ ?_ | refine APCall.le (join_le (.inr rfl) cc.reads) hJ ?_ | fail)
      all_goals (conv => whnf)
      exact (by repeat (first | exact trivial | exact rfl | exact DLe.refl _ | exact DLe.full _ _ _ | exact DLe.nil _ _ _ | exact VLe.refl _ | refine And.intro ?_ ?_ | refine VLe.d ?_ | refine DLe.agg ?_))
  · rw [if_neg (fun h => hs h.1)]
    repeat' ((conv => whnf); first | with_reducible refine Dec.t (show true = true from rfl) ?_ | with_reducible refine Dec.t (show false = false from rfl) ?_ | with_reducible refine Dec.f (show ¬ (true = false) by decide) ?_ | with_reducible refine Dec.f (show ¬ (false = true) by decide) ?_ | refine Dec.t (by omega) ?_ | refine Dec.f (by omega) ?_ | refine Dec.split (fun _ => ?_) (fun _ => ?_) | refine Wr.id (by omega) ?_ | refine Chk.mk (by first | omega | exact rfl | (simp only [List.length_map]; omega) | (simp [room]; done) | (simp [room]; omega) | (simp [dropL, room]; done) | (simp [dropL, room]; omega)) ?_ | refine Nam.mk (List.length_map _) ?_ | refine Prep.skip ?_ | refine chk_t (x := D.flat _) (by assumption) ?_ | refine br_mk (fun _ => ?_) (fun _ => ?_) | refine ACall.ofB (quality_validSpecs l (by omega)) (fun h => absurd (of_decide_eq_true h) hs) (fun _ => ?_) | fail)
    all_goals (conv => whnf)
    exact ⟨DLe.agg ⟨DLe.refl _, DLe.nil _ _ _, DLe.refl _, rfl⟩, DLe.nil _ _ _, DLe.refl _, rfl⟩
end Go.PM

