/- Package corrections and its reference: Apply. -/
import Derived.Test.YtfbngjofngmbdaaC41b
namespace Go.PM
open Go.Proofs
set_option maxRecDepth 10000
set_option maxHeartbeats 8000000

def nextNo (l : List Fact) (known : Int) : Int := match l.getLast? with
  | none => 0
  | some f => if f.known = known then f.no + 1 else 0
def corrFact (c : Corr) (t n : Int) : Fact := ⟨c.kind, c.subj, c.obj, c.value, c.from_, c.to_, t, n⟩
def recM : List Fact → List Corr → Int → List Fact × Int
  | l, [], _ => (l, 0)
  | l, c :: cs, t => if (addM l (corrFact c t (nextNo l t))).2 = 0 then recM (addM l (corrFact c t (nextNo l t))).1 cs t else ([], (addM l (corrFact c t (nextNo l t))).2)
def fit (l : List Fact) (cs : List Corr) (t : Int) : Prop := (cs.length ≤ 64 ∧ ∀ c ∈ cs, c.ok) ∧ (1 ≤ t ∧ t ≤ 16777216) ∧ nowR l ≤ t
instance (l : List Fact) (cs : List Corr) (t : Int) : Decidable (fit l cs t) := by unfold fit; infer_instance
def applyM (l : List Fact) (cs : List Corr) (t : Int) : List Fact × Int :=
  if checkM l = 0 then (if fit l cs t then recM l cs t else ([], 410)) else ([], checkM l)
def CWorld.zero : CWorld := ⟨.sl 0 true [], .sl 0 true [], .sl 0 true [], .sl 0 true [], .sl 0 true [], .sl 0 true [], .sl 0 true [], .sl 0 true [], .sl 0 true [], .sl 0 true [], []⟩
def CWorld.put (w : CWorld) (r : List Fact × Int) : CWorld := if r.2 = 0 then { w with facts := r.1 } else CWorld.zero
theorem addM_len (l : List Fact) (f : Fact) : (addM l f).1.length ≤ l.length + 1 := by
  unfold addM
  repeat' split
  all_goals simp
theorem addM_ok {l : List Fact} {f : Fact} (h : (addM l f).2 = 0) : checkM l = 0 ∧ f.ok ∧ (∀ g, l.getLast? = some g → before g f) ∧ (addM l f).1 = l ++ [f] := by
  unfold addM at h ⊢
  by_cases h1 : checkM l = 0
  · by_cases h2 : f.ok
    · by_cases h3 : ∀ g, l.getLast? = some g → before g f
      · refine ⟨h1, h2, h3, ?_⟩
        rw [if_pos h1, if_pos h2, if_pos h3]
      · rw [if_pos h1, if_pos h2, if_neg h3] at h; exact absurd h (by decide)
    · rw [if_pos h1, if_neg h2] at h; exact absurd h (by decide)
  · rw [if_neg h1] at h; exact absurd h h1
theorem zeroC_le : DLe (.agg [.sl 0 true [], .sl 0 true [], .sl 0 true [], .sl 0 true [], .sl 0 true [], .sl 0 true [], .sl 0 true [], .sl 0 true [], .sl 0 true [], .sl 0 true [], .sl 0 true []]) CWorld.zero.d := by
  refine DLe.agg ?_
  exact ⟨DLe.refl _, DLe.refl _, DLe.refl _, DLe.refl _, DLe.refl _, DLe.refl _, DLe.refl _, DLe.refl _, DLe.refl _, DLe.refl _, DLe.nil _ _ _, rfl⟩
theorem putBad {w : CWorld} {r : List Fact × Int} (e : Int) (he : e ≠ 0) (hp : r = ([], e)) : DLe (.agg [.sl 0 true [], .sl 0 true [], .sl 0 true [], .sl 0 true [], .sl 0 true [], .sl 0 true [], .sl 0 true [], .sl 0 true [], .sl 0 true [], .sl 0 true [], .sl 0 true []]) (w.put r).d ∧ r.2 = e := by
  subst hp
  unfold CWorld.put
  rw [if_neg he]
  exact ⟨zeroC_le, rfl⟩
theorem apply_unfit {l : List Fact} {cs : List Corr} {t : Int} (hc : checkM l = 0) (h : ¬ fit l cs t) : applyM l cs t = ([], 410) := by unfold applyM; rw [if_pos hc, if_neg h]
theorem apply_bad {l : List Fact} {cs : List Corr} {t : Int} (hc : ¬ checkM l = 0) : applyM l cs t = ([], checkM l) := by unfold applyM; rw [if_neg hc]
theorem apply_fit {l : List Fact} {cs : List Corr} {t : Int} (hc : checkM l = 0) (h : fit l cs t) : applyM l cs t = recM l cs t := by unfold applyM; rw [if_pos hc, if_pos h]
theorem nowP_le {l : List Fact} (h : checkM l = 0) : nowP l = nowR l := nowR_eq fun f hf => by
  have : f.ok := by
    by_cases hk : f.ok
    · exact hk
    · rw [checkM_bad hf hk] at h; exact absurd h (by decide)
  exact this.2.2.2.2.2.2.2.1.1
theorem recStep {l : List Fact} {f : Fact} {cs : List Corr} {t : Int} {r : List Fact × Int} (hr : (if (addM l f).2 = 0 then recM (addM l f).1 cs t else ([], (addM l f).2)) = r) (h : (addM l f).2 = 0) : recM (addM l f).1 cs t = r := by rw [if_pos h] at hr; exact hr
theorem recBad {l : List Fact} {f : Fact} {cs : List Corr} {t : Int} {r : List Fact × Int} (hr : (if (addM l f).2 = 0 then recM (addM l f).1 cs t else ([], (addM l f).2)) = r) (h : ¬ (addM l f).2 = 0) : r = ([], (addM l f).2) := by rw [if_neg h] at hr; exact hr.symm
theorem lastOk {l : List Fact} {f : Fact} (h : (addM l f).2 = 0) : ∀ g, (addM l f).1.getLast? = some g → g.ok := by
  obtain ⟨_, hf, _, he⟩ := addM_ok h
  intro g hg
  rw [he, List.getLast?_append] at hg
  simp at hg
  subst hg; exact hf
theorem lastOk0 {l : List Fact} (h : checkM l = 0) : ∀ g, l.getLast? = some g → g.ok := fun g hg => by
  by_cases hk : g.ok
  · exact hk
  · rw [checkM_bad (List.mem_of_getLast? hg) hk] at h; exact absurd h (by decide)
theorem no_ok {g : Fact} (h : g.ok) : 0 ≤ g.no ∧ g.no ≤ 65535 := h.2.2.2.2.2.2.2.2
theorem ref41_Apply (w : CWorld) (cs : List Corr) (t : Int) (hl : w.facts.length < 2 ^ 19) (hc : cs.length < 2 ^ 40) : CallP Try.prog 9 [.d w.d, .d (SL 6 (cs.map Corr.d)), .d (I t)] (retD [(w.put (applyM w.facts cs t)).d, I (applyM w.facts cs t).2]) := by
  refine exPure_sound (E := envOf Try.prog tt Try.f9.ntmps) (envOf_ok ttok mixed) Try.func9 (by rfl) rfl rfl (Nat.le_of_ble_eq_true rfl) ?_
  repeat' ((conv => whnf); first | with_reducible refine Dec.t (show true = true from rfl) ?_ | with_reducible refine Dec.t (show false = false from rfl) ?_ | with_reducible refine Dec.f (show ¬ (true = false) by decide) ?_ | with_reducible refine Dec.f (show ¬ (false = true) by decide) ?_ | refine Dec.t (by omega) ?_ | refine Dec.f (by omega) ?_ | refine Dec.split (fun _ => ?_) (fun _ => ?_) | refine Wr.id (by omega) ?_ | refine Chk.mk (by first | omega | exact rfl | (simp only [List.length_map]; omega) | (simp [room]; done) | (simp [room]; omega) | (simp [dropL, room]; done) | (simp [dropL, room]; omega)) ?_ | refine Nam.mk (List.length_map _) ?_ | refine Prep.skip ?_ | refine Eith.l ?_ | refine chk_t (x := D.flat _) (by assumption) ?_ | refine br_mk (fun _ => ?_) (fun _ => ?_) | refine ACall.of (ref04_Check w.facts (by omega)) ?_ | refine APCall.of (ref04_Check w.facts (by omega)) ?_ | refine ACall.of (ref41_Now w.facts (by omega)) ?_ | refine APCall.of (ref41_Now w.facts (by omega)) ?_ | fail)
  all_goals (conv => whnf)
  all_goals try first
    | (have hp := putBad (w := w) 410 (by decide) (apply_unfit (cs := cs) (t := t) (by assumption) (by unfold fit; omega)); exact ⟨hp.1, by rw [hp.2]; exact ⟨DLe.refl _, rfl⟩⟩)
    | (have hp := putBad (w := w) (checkM w.facts) (by assumption) (apply_bad (cs := cs) (t := t) (by assumption)); exact ⟨hp.1, by rw [hp.2]; exact ⟨DLe.refl _, rfl⟩⟩)
  refine ALoop.at (E := envOf Try.prog tt Try.f9.ntmps) (envOf_ok ttok mixed) (X := Nat) (fun i => [(9, .d (I i))]) (fun _ => []) (fun i => i ≤ cs.length ∧ ∀ c ∈ cs.take i, c.ok) (fun i => cs.length - i) 0 (by repeat (first | exact trivial | refine And.intro rfl ?_ | refine And.intro (congrArg (fun n => V.d (I n)) (wrap_nat _ (by omega))) ?_)) rfl ⟨Nat.zero_le _, by simp⟩ ?_
  rintro i ⟨hi, hm⟩
  by_cases hlt : i < cs.length
  · obtain ⟨c, hx, _⟩ := drop_get hlt
    repeat' ((conv => whnf); first | with_reducible refine Dec.t (show true = true from rfl) ?_ | with_reducible refine Dec.t (show false = false from rfl) ?_ | with_reducible refine Dec.f (show ¬ (true = false) by decide) ?_ | with_reducible refine Dec.f (show ¬ (false = true) by decide) ?_ | refine Dec.t (by omega) ?_ | refine Dec.f (by omega) ?_ | refine Dec.split (fun _ => ?_) (fun _ => ?_) | refine Wr.id (by omega) ?_ | refine Chk.mk (by first | omega | exact rfl | (simp only [List.length_map]; omega) | (simp [room]; done) | (simp [room]; omega) | (simp [dropL, room]; done) | (simp [dropL, room]; omega)) ?_ | refine Nam.mk (List.length_map _) ?_ | refine Prep.skip ?_ | refine Eith.l ?_ | refine chk_t (x := D.flat _) (by assumption) ?_ | refine br_mk (fun _ => ?_) (fun _ => ?_) | refine nthK_mk (map_get hx) ?_ | refine ACall.ofB (ref41_Valid c) (fun _ => ?_) (fun _ => ?_) | refine APCall.ofB (ref41_Valid c) (fun _ => ?_) (fun _ => ?_) | fail)
    all_goals (conv => whnf)
    all_goals try simp only [decide_eq_true_eq, decide_eq_false_iff_not] at *
    · rename_i h
      exact ⟨i + 1, Wm.end (by repeat (first | exact trivial | refine And.intro rfl ?_ | refine And.intro (congrArg (fun n => V.d (I n)) (wrap_nat _ (by omega))) ?_)) rfl rfl rfl, ⟨hlt, fun g hg => by
        rw [List.take_add_one, hx, List.mem_append] at hg
        rcases hg with hg | hg
        · exact hm g hg
        · simp at hg; subst hg; exact h⟩, by omega⟩
    · rename_i h
      have hp := putBad (w := w) 410 (by decide) (apply_unfit (cs := cs) (t := t) (by assumption) (fun hf => h (hf.1.2 c (List.mem_of_getElem? hx)))); exact ⟨hp.1, by rw [hp.2]; exact ⟨DLe.refl _, rfl⟩⟩
  · have : i = cs.length := by omega
    subst this
    rw [List.take_length] at hm
    rw [apply_fit (cs := cs) (t := t) (by assumption) (by unfold fit; exact ⟨⟨by omega, hm⟩, by omega⟩)]
    repeat' ((conv => whnf); first | with_reducible refine Dec.t (show true = true from rfl) ?_ | with_reducible refine Dec.t (show false = false from rfl) ?_ | with_reducible refine Dec.f (show ¬ (true = false) by decide) ?_ | with_reducible refine Dec.f (show ¬ (false = true) by decide) ?_ | refine Dec.t (by omega) ?_ | refine Dec.f (by omega) ?_ | refine Dec.split (fun _ => ?_) (fun _ => ?_) | refine Wr.id (by omega) ?_ | refine Chk.mk (by first | omega | exact rfl | (simp only [List.length_map]; omega) | (simp [room]; done) | (simp [room]; omega) | (simp [dropL, room]; done) | (simp [dropL, room]; omega)) ?_ | refine Nam.mk (List.length_map _) ?_ | refine Prep.skip ?_ | refine Eith.l ?_ | refine chk_t (x := D.flat _) (by assumption) ?_ | refine br_mk (fun _ => ?_) (fun _ => ?_) | fail)
    conv => whnf
    refine ALoop.at (E := envOf Try.prog tt Try.f9.ntmps) (envOf_ok ttok mixed) (X := Nat × List Fact) (fun x => [(11, .d (I x.1))]) (fun x => [(2, .vard [w.u1, w.u2, w.u3, w.u4, w.u5, w.u6, w.u7, w.u8, w.u9, w.u10, SL 8 (x.2.map Fact.d)])]) (fun x => x.1 ≤ cs.length ∧ recM x.2 (cs.drop x.1) t = recM w.facts cs t ∧ x.2.length ≤ w.facts.length + x.1 ∧ ∀ g, x.2.getLast? = some g → g.ok) (fun x => cs.length - x.1) (0, w.facts) (by repeat (first | exact trivial | refine And.intro rfl ?_ | refine And.intro (congrArg (fun n => V.d (I n)) (wrap_nat _ (by omega))) ?_)) rfl ⟨Nat.zero_le _, rfl, Nat.le_add_right _ _, lastOk0 (by assumption)⟩ ?_
    rintro ⟨i, l⟩ ⟨hi, hr, hll, hlo⟩
    simp only at hi hr hll hlo
    dsimp only
    by_cases hlt : i < cs.length
    · obtain ⟨c, hx, hd⟩ := drop_get hlt
      rw [hd, recM] at hr
      cases hgl : l.getLast? with
      | none =>
        have : l = [] := by simpa using hgl
        subst this
        have hnn : nextNo [] t = 0 := rfl
        rw [hnn] at hr
        repeat' ((conv => whnf); first | with_reducible refine Dec.t (show true = true from rfl) ?_ | with_reducible refine Dec.t (show false = false from rfl) ?_ | with_reducible refine Dec.f (show ¬ (true = false) by decide) ?_ | with_reducible refine Dec.f (show ¬ (false = true) by decide) ?_ | refine Dec.t (by omega) ?_ | refine Dec.f (by omega) ?_ | refine Dec.split (fun _ => ?_) (fun _ => ?_) | refine Wr.id (by omega) ?_ | refine Chk.mk (by first | omega | exact rfl | (simp only [List.length_map]; omega) | (simp [room]; done) | (simp [room]; omega) | (simp [dropL, room]; done) | (simp [dropL, room]; omega)) ?_ | refine Nam.mk (List.length_map _) ?_ | refine Prep.skip ?_ | refine Eith.l ?_ | refine chk_t (x := D.flat _) (by assumption) ?_ | refine br_mk (fun _ => ?_) (fun _ => ?_) | refine nthK_mk (map_get hx) ?_ | refine ACall.of (ref04_Add [] (corrFact c t 0) (by simp)) ?_ | refine APCall.of (ref04_Add [] (corrFact c t 0) (by simp)) ?_ | fail)
        all_goals first | (rename_i h; exact absurd h (show ¬ (0 < ((([] : List Fact).length : Nat) : Int)) from by decide)) | skip
        all_goals (conv => whnf)
        all_goals first
          | (have hp := putBad (w := w) (addM [] (corrFact c t 0)).2 (by assumption) (recBad hr (by assumption)); exact ⟨hp.1, by rw [hp.2]; exact ⟨DLe.refl _, rfl⟩⟩)
          | (refine ⟨(i + 1, (addM [] (corrFact c t 0)).1), Wm.end (by repeat (first | exact trivial | refine And.intro rfl ?_ | refine And.intro (congrArg (fun n => V.d (I n)) (wrap_nat _ (by omega))) ?_)) rfl rfl rfl, ⟨hlt, recStep hr (by assumption), ?_, lastOk (by assumption)⟩, by simp only; omega⟩
             have := addM_len [] (corrFact c t 0)
             simp only [List.length_nil] at *
             omega)
      | some g =>
        have hne : l ≠ [] := by rintro rfl; simp at hgl
        have hpos : 0 < l.length := List.length_pos_iff.2 hne
        have hg : (l.map Fact.d)[((l.length : Int) - 1).toNat]? = some g.d := by
          rw [show ((l.length : Int) - 1).toNat = l.length - 1 by omega, List.getElem?_map, ← List.getLast?_eq_getElem?, hgl]; rfl
        have hnn : nextNo l t = if g.known = t then g.no + 1 else 0 := by unfold nextNo; rw [hgl]
        rw [hnn] at hr
        have hno := no_ok (hlo g hgl)
        by_cases hk : g.known = t
        · rw [if_pos hk] at hr
          repeat' ((conv => whnf); first | with_reducible refine Dec.t (show true = true from rfl) ?_ | with_reducible refine Dec.t (show false = false from rfl) ?_ | with_reducible refine Dec.f (show ¬ (true = false) by decide) ?_ | with_reducible refine Dec.f (show ¬ (false = true) by decide) ?_ | refine Dec.t (by omega) ?_ | refine Dec.f (by omega) ?_ | refine Dec.split (fun _ => ?_) (fun _ => ?_) | refine Wr.id (by omega) ?_ | refine Chk.mk (by first | omega | exact rfl | (simp only [List.length_map]; omega) | (simp [room]; done) | (simp [room]; omega) | (simp [dropL, room]; done) | (simp [dropL, room]; omega)) ?_ | refine Nam.mk (List.length_map _) ?_ | refine Prep.skip ?_ | refine Eith.l ?_ | refine chk_t (x := D.flat _) (by assumption) ?_ | refine br_mk (fun _ => ?_) (fun _ => ?_) | refine nthK_mk (map_get hx) ?_ | refine nthK_mk hg ?_ | refine ACall.of (ref04_Add l (corrFact c t (g.no + 1)) (by omega)) ?_ | refine APCall.of (ref04_Add l (corrFact c t (g.no + 1)) (by omega)) ?_ | fail)
          all_goals (conv => whnf)
          all_goals first
            | (have hp := putBad (w := w) (addM l (corrFact c t (g.no + 1))).2 (by assumption) (recBad hr (by assumption)); exact ⟨hp.1, by rw [hp.2]; exact ⟨DLe.refl _, rfl⟩⟩)
            | (refine ⟨(i + 1, (addM l (corrFact c t (g.no + 1))).1), Wm.end (by repeat (first | exact trivial | refine And.intro rfl ?_ | refine And.intro (congrArg (fun n => V.d (I n)) (wrap_nat _ (by omega))) ?_)) rfl rfl rfl, ⟨hlt, recStep hr (by assumption), ?_, lastOk (by assumption)⟩, by simp only; omega⟩
               have := addM_len l (corrFact c t (g.no + 1))
               simp only [List.length_nil] at *
               omega)
        · rw [if_neg hk] at hr
          repeat' ((conv => whnf); first | with_reducible refine Dec.t (show true = true from rfl) ?_ | with_reducible refine Dec.t (show false = false from rfl) ?_ | with_reducible refine Dec.f (show ¬ (true = false) by decide) ?_ | with_reducible refine Dec.f (show ¬ (false = true) by decide) ?_ | refine Dec.t (by omega) ?_ | refine Dec.f (by omega) ?_ | refine Dec.split (fun _ => ?_) (fun _ => ?_) | refine Wr.id (by omega) ?_ | refine Chk.mk (by first | omega | exact rfl | (simp only [List.length_map]; omega) | (simp [room]; done) | (simp [room]; omega) | (simp [dropL, room]; done) | (simp [dropL, room]; omega)) ?_ | refine Nam.mk (List.length_map _) ?_ | refine Prep.skip ?_ | refine Eith.l ?_ | refine chk_t (x := D.flat _) (by assumption) ?_ | refine br_mk (fun _ => ?_) (fun _ => ?_) | refine nthK_mk (map_get hx) ?_ | refine nthK_mk hg ?_ | refine ACall.of (ref04_Add l (corrFact c t 0) (by omega)) ?_ | refine APCall.of (ref04_Add l (corrFact c t 0) (by omega)) ?_ | fail)
          all_goals (conv => whnf)
          all_goals first
            | (have hp := putBad (w := w) (addM l (corrFact c t 0)).2 (by assumption) (recBad hr (by assumption)); exact ⟨hp.1, by rw [hp.2]; exact ⟨DLe.refl _, rfl⟩⟩)
            | (refine ⟨(i + 1, (addM l (corrFact c t 0)).1), Wm.end (by repeat (first | exact trivial | refine And.intro rfl ?_ | refine And.intro (congrArg (fun n => V.d (I n)) (wrap_nat _ (by omega))) ?_)) rfl rfl rfl, ⟨hlt, recStep hr (by assumption), ?_, lastOk (by assumption)⟩, by simp only; omega⟩
               have := addM_len l (corrFact c t 0)
               simp only [List.length_nil] at *
               omega)
    · have : i = cs.length := by omega
      subst this
      rw [List.drop_length] at hr
      have hr : recM w.facts cs t = (l, 0) := hr.symm
      rw [hr]
      repeat' ((conv => whnf); first | with_reducible refine Dec.t (show true = true from rfl) ?_ | with_reducible refine Dec.t (show false = false from rfl) ?_ | with_reducible refine Dec.f (show ¬ (true = false) by decide) ?_ | with_reducible refine Dec.f (show ¬ (false = true) by decide) ?_ | refine Dec.t (by omega) ?_ | refine Dec.f (by omega) ?_ | refine Dec.split (fun _ => ?_) (fun _ => ?_) | refine Wr.id (by omega) ?_ | refine Chk.mk (by first | omega | exact rfl | (simp only [List.length_map]; omega) | (simp [room]; done) | (simp [room]; omega) | (simp [dropL, room]; done) | (simp [dropL, room]; omega)) ?_ | refine Nam.mk (List.length_map _) ?_ | refine Prep.skip ?_ | refine Eith.l ?_ | refine chk_t (x := D.flat _) (by assumption) ?_ | refine br_mk (fun _ => ?_) (fun _ => ?_) | fail)
      all_goals (conv => whnf)
      exact (by repeat (first | exact trivial | exact rfl | exact DLe.refl _ | exact DLe.full _ _ _ | exact DLe.nil _ _ _ | exact VLe.refl _ | refine And.intro ?_ ?_ | refine VLe.d ?_ | refine DLe.agg ?_))
theorem Wk.cell_to {N : Nat} {ts : Tm} {h : Hp} {n i m ver lo len sz : Nat} {ro full : Bool} {xs ds : List D} (ys : List D) (hn : h[n]? = some (.var ((ds.map .d).set i (.sref m ver lo len full)))) (hm : h[m]? = some (.row ver sz ro xs)) (hl : lo + len ≤ xs.length) (hi : i < ds.length) (he : (xs.drop lo).take len = ys) :
    Wk N ts h ts ((h.set m (.row ver sz true xs)).set n (.vard (ds.set i (.sl sz full ys)))) := he ▸ Wk.cell hn hm hl hi
theorem corr_Apply (w : CWorld) (cs : List Corr) (t : Int) (hl : w.facts.length < 2 ^ 19) (hc : cs.length < 2 ^ 40) : CallP Try.prog 8 [.d w.d, .d (SL 6 (cs.map Corr.d)), .d (I t)] (retD [(w.put (applyM w.facts cs t)).d, I (applyM w.facts cs t).2]) := by
  refine exPure_sound (E := envOf Try.prog tt Try.f8.ntmps) (envOf_ok ttok mixed) Try.func8 (by rfl) rfl rfl (Nat.le_of_ble_eq_true rfl) ?_
  repeat' ((conv => whnf); first | with_reducible refine Dec.t (show true = true from rfl) ?_ | with_reducible refine Dec.t (show false = false from rfl) ?_ | with_reducible refine Dec.f (show ¬ (true = false) by decide) ?_ | with_reducible refine Dec.f (show ¬ (false = true) by decide) ?_ | refine Dec.t (by omega) ?_ | refine Dec.f (by omega) ?_ | refine Dec.split (fun _ => ?_) (fun _ => ?_) | refine Wr.id (by omega) ?_ | refine Chk.mk (by first | omega | exact rfl | (simp only [List.length_map]; omega) | (simp [room]; done) | (simp [room]; omega) | (simp [dropL, room]; done) | (simp [dropL, room]; omega)) ?_ | refine Nam.mk (List.length_map _) ?_ | refine Prep.skip ?_ | refine Eith.l ?_ | refine chk_t (x := D.flat _) (by assumption) ?_ | refine br_mk (fun _ => ?_) (fun _ => ?_) | refine ACall.of (facts_Check w.facts (by omega)) ?_ | refine APCall.of (facts_Check w.facts (by omega)) ?_ | refine ACall.of (corr_now w.facts (by omega)) ?_ | refine APCall.of (corr_now w.facts (by omega)) ?_ | refine ACall.ofB (corr_ContainsFunc 21 cs (fun x => ¬ x.ok) hc (fun x _ => corr_apply1 x)) (fun hb => ?_) (fun hb => ?_) | refine ACall.ofB (corr_between _ _ _) (fun _ => ?_) (fun _ => ?_) | refine APCall.ofB (corr_between _ _ _) (fun _ => ?_) (fun _ => ?_) | refine ACall.ofRow (slices_Clone_Fact w.facts (by omega)) ?_ | refine APCall.ofRow (slices_Clone_Fact w.facts (by omega)) ?_ | fail)
  all_goals (conv => whnf)
  all_goals try first
    | (have hp := putBad (w := w) (checkM w.facts) (by assumption) (apply_bad (cs := cs) (t := t) (by assumption)); exact ⟨hp.1, by rw [hp.2]; exact ⟨DLe.refl _, rfl⟩⟩)
    | (have hp := putBad (w := w) 410 (by decide) (apply_unfit (cs := cs) (t := t) (by assumption) (fun hf => by
        first
          | (obtain ⟨x, hx, hn⟩ := of_decide_eq_true hb; exact hn (hf.1.2 x hx))
          | (have h1 := hf.1.1; have h2 := hf.2; have h3 := nowP_le (l := w.facts) (by assumption); omega)
          | (rename_i hh; exact of_decide_eq_false hh hf.2.1))); exact ⟨hp.1, by rw [hp.2]; exact ⟨DLe.refl _, rfl⟩⟩)
  rename_i hhc hh1 hh2 hh3
  have hfit : fit w.facts cs t := ⟨⟨by omega, fun c hc => by
    by_cases hk : c.ok
    · exact hk
    · exact absurd ⟨c, hc, hk⟩ (of_decide_eq_false hb)⟩, of_decide_eq_true hh2, by rw [← nowP_le (by assumption)]; omega⟩
  rw [apply_fit (cs := cs) (t := t) (by assumption) hfit]
  refine ALoop.drop [48, 47] ?_
  refine ALoop.weak (Wk.cell_to (n := 1) (m := 2) (i := 10) (ds := [w.u1, w.u2, w.u3, w.u4, w.u5, w.u6, w.u7, w.u8, w.u9, w.u10, w.u1]) (w.facts.map Fact.d) rfl rfl (by simp) (Nat.le_of_ble_eq_true rfl) (by rw [List.drop_zero, List.take_length])) ?_
  refine ALoop.at (E := envOf Try.prog tt Try.f8.ntmps) (envOf_ok ttok mixed) (X := Nat × List Fact) (fun x => [(51, .d (I x.1)), (7, retD [I (checkM w.facts)])]) (fun x => [(1, .vard [w.u1, w.u2, w.u3, w.u4, w.u5, w.u6, w.u7, w.u8, w.u9, w.u10, SL 8 (x.2.map Fact.d)])]) (fun x => x.1 ≤ cs.length ∧ recM x.2 (cs.drop x.1) t = recM w.facts cs t ∧ x.2.length ≤ w.facts.length + x.1 ∧ ∀ g, x.2.getLast? = some g → g.ok) (fun x => cs.length - x.1) (0, w.facts) (by repeat (first | exact trivial | refine And.intro rfl ?_ | refine And.intro (congrArg (fun n => V.d (I n)) (wrap_nat _ (by omega))) ?_)) rfl ⟨Nat.zero_le _, rfl, Nat.le_add_right _ _, lastOk0 (by assumption)⟩ ?_
  rintro ⟨i, l⟩ ⟨hi, hr, hll, hlo⟩
  simp only at hi hr hll hlo
  dsimp only
  by_cases hlt : i < cs.length
  · obtain ⟨c, hx, hd⟩ := drop_get hlt
    rw [hd, recM] at hr
    cases hgl : l.getLast? with
    | none =>
      have : l = [] := by simpa using hgl
      subst this
      have hnn : nextNo [] t = 0 := rfl
      rw [hnn] at hr
      repeat' ((conv => whnf); first | with_reducible refine Dec.t (show true = true from rfl) ?_ | with_reducible refine Dec.t (show false = false from rfl) ?_ | with_reducible refine Dec.f (show ¬ (true = false) by decide) ?_ | with_reducible refine Dec.f (show ¬ (false = true) by decide) ?_ | refine Dec.t (by omega) ?_ | refine Dec.f (by omega) ?_ | refine Dec.split (fun _ => ?_) (fun _ => ?_) | refine Wr.id (by omega) ?_ | refine Chk.mk (by first | omega | exact rfl | (simp only [List.length_map]; omega) | (simp [room]; done) | (simp [room]; omega) | (simp [dropL, room]; done) | (simp [dropL, room]; omega)) ?_ | refine Nam.mk (List.length_map _) ?_ | refine Prep.skip ?_ | refine Eith.l ?_ | refine chk_t (x := D.flat _) (by assumption) ?_ | refine br_mk (fun _ => ?_) (fun _ => ?_) | refine nthK_mk (map_get hx) ?_ | refine ACall.of (facts_Add [] (corrFact c t 0) (by simp)) ?_ | refine APCall.of (facts_Add [] (corrFact c t 0) (by simp)) ?_ | fail)
      all_goals first | (rename_i h; exact absurd h (show ¬ (0 < ((([] : List Fact).length : Nat) : Int)) from by decide)) | skip
      all_goals (conv => whnf)
      all_goals first
        | (have hp := putBad (w := w) (addM [] (corrFact c t 0)).2 (by assumption) (recBad hr (by assumption)); exact ⟨hp.1, by rw [hp.2]; exact ⟨DLe.refl _, rfl⟩⟩)
        | (refine ⟨(i + 1, (addM [] (corrFact c t 0)).1), Wm.end (by repeat (first | exact trivial | refine And.intro rfl ?_ | refine And.intro (congrArg (fun n => V.d (I n)) (wrap_nat _ (by omega))) ?_)) rfl rfl rfl, ⟨hlt, recStep hr (by assumption), ?_, lastOk (by assumption)⟩, by simp only; omega⟩
           have := addM_len [] (corrFact c t 0)
           simp only [List.length_nil] at *
           omega)
    | some g =>
      have hne : l ≠ [] := by rintro rfl; simp at hgl
      have hpos : 0 < l.length := List.length_pos_iff.2 hne
      have hg : (l.map Fact.d)[((l.length : Int) - 1).toNat]? = some g.d := by
        rw [show ((l.length : Int) - 1).toNat = l.length - 1 by omega, List.getElem?_map, ← List.getLast?_eq_getElem?, hgl]; rfl
      have hnn : nextNo l t = if g.known = t then g.no + 1 else 0 := by unfold nextNo; rw [hgl]
      rw [hnn] at hr
      have hno := no_ok (hlo g hgl)
      by_cases hk : g.known = t
      · rw [if_pos hk] at hr
        repeat' ((conv => whnf); first | with_reducible refine Dec.t (show true = true from rfl) ?_ | with_reducible refine Dec.t (show false = false from rfl) ?_ | with_reducible refine Dec.f (show ¬ (true = false) by decide) ?_ | with_reducible refine Dec.f (show ¬ (false = true) by decide) ?_ | refine Dec.t (by omega) ?_ | refine Dec.f (by omega) ?_ | refine Dec.split (fun _ => ?_) (fun _ => ?_) | refine Wr.id (by omega) ?_ | refine Chk.mk (by first | omega | exact rfl | (simp only [List.length_map]; omega) | (simp [room]; done) | (simp [room]; omega) | (simp [dropL, room]; done) | (simp [dropL, room]; omega)) ?_ | refine Nam.mk (List.length_map _) ?_ | refine Prep.skip ?_ | refine Eith.l ?_ | refine chk_t (x := D.flat _) (by assumption) ?_ | refine br_mk (fun _ => ?_) (fun _ => ?_) | refine nthK_mk (map_get hx) ?_ | refine nthK_mk hg ?_ | refine ACall.of (facts_Add l (corrFact c t (g.no + 1)) (by omega)) ?_ | refine APCall.of (facts_Add l (corrFact c t (g.no + 1)) (by omega)) ?_ | fail)
        all_goals (conv => whnf)
        all_goals first
          | (have hp := putBad (w := w) (addM l (corrFact c t (g.no + 1))).2 (by assumption) (recBad hr (by assumption)); exact ⟨hp.1, by rw [hp.2]; exact ⟨DLe.refl _, rfl⟩⟩)
          | (refine ⟨(i + 1, (addM l (corrFact c t (g.no + 1))).1), Wm.end (by repeat (first | exact trivial | refine And.intro rfl ?_ | refine And.intro (congrArg (fun n => V.d (I n)) (wrap_nat _ (by omega))) ?_)) rfl rfl rfl, ⟨hlt, recStep hr (by assumption), ?_, lastOk (by assumption)⟩, by simp only; omega⟩
             have := addM_len l (corrFact c t (g.no + 1))
             simp only [List.length_nil] at *
             omega)
      · rw [if_neg hk] at hr
        repeat' ((conv => whnf); first | with_reducible refine Dec.t (show true = true from rfl) ?_ | with_reducible refine Dec.t (show false = false from rfl) ?_ | with_reducible refine Dec.f (show ¬ (true = false) by decide) ?_ | with_reducible refine Dec.f (show ¬ (false = true) by decide) ?_ | refine Dec.t (by omega) ?_ | refine Dec.f (by omega) ?_ | refine Dec.split (fun _ => ?_) (fun _ => ?_) | refine Wr.id (by omega) ?_ | refine Chk.mk (by first | omega | exact rfl | (simp only [List.length_map]; omega) | (simp [room]; done) | (simp [room]; omega) | (simp [dropL, room]; done) | (simp [dropL, room]; omega)) ?_ | refine Nam.mk (List.length_map _) ?_ | refine Prep.skip ?_ | refine Eith.l ?_ | refine chk_t (x := D.flat _) (by assumption) ?_ | refine br_mk (fun _ => ?_) (fun _ => ?_) | refine nthK_mk (map_get hx) ?_ | refine nthK_mk hg ?_ | refine ACall.of (facts_Add l (corrFact c t 0) (by omega)) ?_ | refine APCall.of (facts_Add l (corrFact c t 0) (by omega)) ?_ | fail)
        all_goals (conv => whnf)
        all_goals first
          | (have hp := putBad (w := w) (addM l (corrFact c t 0)).2 (by assumption) (recBad hr (by assumption)); exact ⟨hp.1, by rw [hp.2]; exact ⟨DLe.refl _, rfl⟩⟩)
          | (refine ⟨(i + 1, (addM l (corrFact c t 0)).1), Wm.end (by repeat (first | exact trivial | refine And.intro rfl ?_ | refine And.intro (congrArg (fun n => V.d (I n)) (wrap_nat _ (by omega))) ?_)) rfl rfl rfl, ⟨hlt, recStep hr (by assumption), ?_, lastOk (by assumption)⟩, by simp only; omega⟩
             have := addM_len l (corrFact c t 0)
             simp only [List.length_nil] at *
             omega)
  · have : i = cs.length := by omega
    subst this
    rw [List.drop_length] at hr
    have hr : recM w.facts cs t = (l, 0) := hr.symm
    rw [hr]
    repeat' ((conv => whnf); first | with_reducible refine Dec.t (show true = true from rfl) ?_ | with_reducible refine Dec.t (show false = false from rfl) ?_ | with_reducible refine Dec.f (show ¬ (true = false) by decide) ?_ | with_reducible refine Dec.f (show ¬ (false = true) by decide) ?_ | refine Dec.t (by omega) ?_ | refine Dec.f (by omega) ?_ | refine Dec.split (fun _ => ?_) (fun _ => ?_) | refine Wr.id (by omega) ?_ | refine Chk.mk (by first | omega | exact rfl | (simp only [List.length_map]; omega) | (simp [room]; done) | (simp [room]; omega) | (simp [dropL, room]; done) | (simp [dropL, room]; omega)) ?_ | refine Nam.mk (List.length_map _) ?_ | refine Prep.skip ?_ | refine Eith.l ?_ | refine chk_t (x := D.flat _) (by assumption) ?_ | refine br_mk (fun _ => ?_) (fun _ => ?_) | fail)
    all_goals (conv => whnf)
    exact (by repeat (first | exact trivial | exact rfl | exact DLe.refl _ | exact DLe.full _ _ _ | exact DLe.nil _ _ _ | exact VLe.refl _ | refine And.intro ?_ ?_ | refine VLe.d ?_ | refine DLe.agg ?_))
end Go.PM

