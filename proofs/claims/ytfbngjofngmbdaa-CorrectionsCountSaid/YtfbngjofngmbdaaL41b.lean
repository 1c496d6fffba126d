/- The statements of layer 41: CorrectionsCount, its contract. -/
import Derived.Test.YtfbngjofngmbdaaL41a
namespace Go.PM
open Go.Proofs
set_option maxRecDepth 10000
set_option maxHeartbeats 8000000

def wantC (k : Key) (d : Int) (v : Int) (c : Corr) : Int := if c.key = k ∧ c.from_ ≤ d ∧ d < c.to_ then c.value else v
theorem rec_at (k : Key) (d : Int) : ∀ (cs : List Corr) (l : List Fact) (t : Int), (recM l cs t).2 = 0 → (∀ c ∈ cs, c.ok) → (atM (recM l cs t).1 k d t).getD (-1) = cs.foldl (wantC k d) ((atM l k d t).getD (-1))
  | [], l, t, _, _ => rfl
  | c :: cs, l, t, h, hok => by
    unfold recM at h ⊢
    by_cases h1 : (addM l (corrFact c t (nextNo l t))).2 = 0
    · rw [if_pos h1] at h ⊢
      rw [rec_at k d cs _ t h (fun x hx => hok x (.tail _ hx)), List.foldl_cons, (addM_ok h1).2.2.2]
      congr 1
      unfold wantC
      by_cases hq : c.key = k ∧ c.from_ ≤ d ∧ d < c.to_
      · rw [if_pos hq]
        obtain ⟨rfl, h2, h3⟩ := hq
        have := at_last (f := corrFact c t (nextNo l t)) (day := d) (t := t) (addM_check h1) (Int.le_refl _) h2 h3
        rw [show c.key = (corrFact c t (nextNo l t)).key from rfl, this]
        have hv := (hok c (.head _)).2.2.2.1
        show (if (c.value : Int) < 0 then none else some c.value : Option Int).getD (-1) = c.value
        split
        · simp only [Option.getD_none]; omega
        · rfl
      · rw [if_neg hq, at_skip l [corrFact c t (nextNo l t)] k d t (fun f hf => by
          rw [List.mem_singleton.1 hf]
          rintro ⟨e, _, h2, h3⟩
          exact hq ⟨e, h2, h3⟩)]
    · rw [if_neg h1] at h; exact absurd h h1
theorem rec_early (k : Key) (d e : Int) : ∀ (cs : List Corr) (l : List Fact) (t : Int), e < t → (recM l cs t).2 = 0 → atM (recM l cs t).1 k d e = atM l k d e
  | [], l, t, _, _ => rfl
  | c :: cs, l, t, he, h => by
    unfold recM at h ⊢
    by_cases h1 : (addM l (corrFact c t (nextNo l t))).2 = 0
    · rw [if_pos h1] at h ⊢
      rw [rec_early k d e cs _ t he h, (addM_ok h1).2.2.2, at_skip l [corrFact c t (nextNo l t)] k d e (fun f hf => by
          rw [List.mem_singleton.1 hf]
          rintro ⟨_, h2, _, _⟩
          have : t ≤ e := h2
          omega)]
    · rw [if_neg h1] at h; exact absurd h h1
theorem wrap_u64 {n : Int} (h : 0 ≤ n ∧ n < 18446744073709551616) : IntKind.u64.wrap n = n := by
  simp [IntKind.wrap, IntKind.bits, IntKind.signed]
  omega
theorem Wr.u64 {n : Int} {K : Int → Prop} (m : Int) (e : n = m) (h : 0 ≤ m ∧ m < 18446744073709551616) (a : K m) : Wr .u64 n K := .keep (by rw [e, wrap_u64 h]; exact a)
theorem law41_Count (w : CWorld) (cs : List Corr) (t : Int) (day : Int) (e : Int) (hl : w.facts.length < 2 ^ 63) (hc : cs.length < 2 ^ 63) (hd : 0 ≤ day) : CallP Try.prog 4 [.d w.d, .d (SL 6 (cs.map Corr.d)), .d (I t), .d (.i .u64 day), .d (I e)] (retD [.b true]) := by
  by_cases hf : w.facts.length ≤ 30 ∧ cs.length ≤ 8
  · have hA := corr_Apply w cs t (by omega) (by omega)
    obtain ⟨W2, hW2, hF⟩ : ∃ W2 : CWorld, w.put (applyM w.facts cs t) = W2 ∧ W2.facts = (applyM w.facts cs t).1 := ⟨_, rfl, put_facts w cs t⟩
    rw [hW2] at hA
    by_cases hz : (applyM w.facts cs t).2 = 0
    · obtain ⟨h1, h2, h3, h4⟩ := applyM_ok hz
      rw [hz] at hA
      rw [h3] at hz h4 hF
      have hat : ∀ k d, (atM W2.facts k d t).getD (-1) = cs.foldl (wantC k d) ((atM w.facts k d t).getD (-1)) := fun k d => by rw [hF]; exact rec_at k d cs w.facts t hz h2.1.2
      have hea : ∀ k d, e < t → atM W2.facts k d e = atM w.facts k d e := fun k d he => by rw [hF]; exact rec_early k d e cs w.facts t he hz
      have hlen : W2.facts.length = w.facts.length + cs.length := by rw [hF]; exact h4.len
      have hK := law41_keys w cs (by omega) (by omega)
      have hM : 0 ≤ day.tmod 1024 ∧ day.tmod 1024 < 1024 := by rw [Int.tmod_eq_emod_of_nonneg hd]; omega
      clear h1 h2 h3 h4 hz hF hW2
      have hkl : (w.facts.map Fact.key ++ cs.map Corr.key).length ≤ 38 := by simp; omega
      generalize w.facts.map Fact.key ++ cs.map Corr.key = ks at hK hkl
      refine exPure_sound (E := envOf Try.prog tt Try.f4.ntmps) (envOf_ok ttok mixed) Try.func4 (by rfl) rfl rfl (Nat.le_of_ble_eq_true rfl) ?_
      repeat' ((conv => whnf); first | with_reducible refine Dec.t (show true = true from rfl) ?_ | with_reducible refine Dec.t (show false = false from rfl) ?_ | with_reducible refine Dec.f (show ¬ (true = false) by decide) ?_ | with_reducible refine Dec.f (show ¬ (false = true) by decide) ?_ | refine Dec.t (by omega) ?_ | refine Dec.f (by omega) ?_ | refine Dec.split (fun _ => ?_) (fun _ => ?_) | refine Wr.id (by omega) ?_ | refine Chk.mk (by first | omega | exact rfl | (simp only [List.length_map]; omega) | (simp [room]; done) | (simp [room]; omega) | (simp [dropL, room]; done) | (simp [dropL, room]; omega)) ?_ | refine Nam.mk (List.length_map _) ?_ | refine Prep.skip ?_ | refine Eith.l ?_ | refine chk_t (x := D.flat _) (by assumption) ?_ | refine br_mk (fun _ => ?_) (fun _ => ?_) | refine ACall.of (law41_sane) ?_ | refine APCall.of (law41_sane) ?_ | refine ACall.ofB (ref41_Few w cs hl) (fun _ => ?_) (fun h => absurd hf (of_decide_eq_false h)) | refine ACall.of (hA) ?_ | refine APCall.of (hA) ?_ | refine ACall.of (hK) ?_ | refine APCall.of (hK) ?_ | refine Wr.u64 _ rfl (by omega) ?_ | fail)
      all_goals (conv => whnf)
      generalize day.tmod 1024 = M at hM ⊢
      refine ALoop.at (E := envOf Try.prog tt Try.f4.ntmps) (envOf_ok ttok mixed) (X := Nat) (fun i => [(45, .d (I i))]) (fun _ => []) (fun i => i ≤ ks.length) (fun i => ks.length - i) 0 (by repeat (first | exact trivial | refine And.intro rfl ?_ | refine And.intro (congrArg (fun n => V.d (I n)) (wrap_nat _ (by omega))) ?_)) rfl (Nat.zero_le _) ?_
      intro i hi
      by_cases hlt : i < ks.length
      · obtain ⟨k, hx, _⟩ := drop_get hlt
        have hat := hat k M
        have hea := hea k M
        have k1 := law41_known w k M t (by omega)
        have k2 := law41_known W2 k M t (by omega)
        have k3 := law41_known w k M e (by omega)
        have k4 := law41_known W2 k M e (by omega)
        repeat' ((conv => whnf); first | with_reducible refine Dec.t (show true = true from rfl) ?_ | with_reducible refine Dec.t (show false = false from rfl) ?_ | with_reducible refine Dec.f (show ¬ (true = false) by decide) ?_ | with_reducible refine Dec.f (show ¬ (false = true) by decide) ?_ | refine Dec.t (by omega) ?_ | refine Dec.f (by omega) ?_ | refine Dec.split (fun _ => ?_) (fun _ => ?_) | refine Wr.id (by omega) ?_ | refine Chk.mk (by first | omega | exact rfl | (simp only [List.length_map]; omega) | (simp [room]; done) | (simp [room]; omega) | (simp [dropL, room]; done) | (simp [dropL, room]; omega)) ?_ | refine Nam.mk (List.length_map _) ?_ | refine Prep.skip ?_ | refine Eith.l ?_ | refine chk_t (x := D.flat _) (by assumption) ?_ | refine br_mk (fun _ => ?_) (fun _ => ?_) | refine nthK_mk (map_get hx) ?_ | refine ACall.of (k1) ?_ | refine APCall.of (k1) ?_ | refine ACall.of (k2) ?_ | refine APCall.of (k2) ?_ | refine ACall.of (k3) ?_ | refine APCall.of (k3) ?_ | refine ACall.of (k4) ?_ | refine APCall.of (k4) ?_ | fail)
        all_goals (conv => whnf)
        generalize (atM w.facts k M t).getD (-1) = base at hat ⊢
        refine ALoop.at (E := envOf Try.prog tt Try.f4.ntmps) (envOf_ok ttok mixed) (X := Nat) (fun j => [(56, .d (I j)), (16, .d (I ((cs.take j).foldl (wantC k M) base)))]) (fun _ => []) (fun j => j ≤ cs.length) (fun j => cs.length - j) 0 (by repeat (first | exact trivial | refine And.intro rfl ?_ | refine And.intro (congrArg (fun n => V.d (I n)) (wrap_nat _ (by omega))) ?_)) rfl (Nat.zero_le _) ?_
        intro j hj
        by_cases hlj : j < cs.length
        · obtain ⟨c, hc, _⟩ := drop_get hlj
          have hs : (cs.take (j + 1)).foldl (wantC k M) base = wantC k M ((cs.take j).foldl (wantC k M) base) c := by rw [List.take_add_one, hc, List.foldl_append]; rfl
          generalize (cs.take j).foldl (wantC k M) base = v at hs
          repeat' ((conv => whnf); first | with_reducible refine Dec.t (show true = true from rfl) ?_ | with_reducible refine Dec.t (show false = false from rfl) ?_ | with_reducible refine Dec.f (show ¬ (true = false) by decide) ?_ | with_reducible refine Dec.f (show ¬ (false = true) by decide) ?_ | refine Dec.t (by omega) ?_ | refine Dec.f (by omega) ?_ | refine Dec.split (fun _ => ?_) (fun _ => ?_) | refine Wr.id (by omega) ?_ | refine Chk.mk (by first | omega | exact rfl | (simp only [List.length_map]; omega) | (simp [room]; done) | (simp [room]; omega) | (simp [dropL, room]; done) | (simp [dropL, room]; omega)) ?_ | refine Nam.mk (List.length_map _) ?_ | refine Prep.skip ?_ | refine Eith.l ?_ | refine chk_t (x := D.flat _) (by assumption) ?_ | refine br_mk (fun _ => ?_) (fun _ => ?_) | refine nthK_mk (map_get hc) ?_ | refine Nam.dec (eqKey c.key k) (fun _ => ?_) (fun _ => ?_) | fail)
          all_goals (conv => whnf)
          all_goals first
            | (have e := hs.trans (show wantC k M v c = c.value from if_pos ⟨by assumption, by assumption, by assumption⟩); exact ⟨j + 1, Wm.end (by repeat (first | exact trivial | refine And.intro rfl ?_ | refine And.intro (congrArg (fun n => V.d (I n)) e.symm) ?_)) rfl rfl rfl, hlj, by omega⟩)
            | (have e := hs.trans (show wantC k M v c = v from if_neg (fun hh => by first | (rename_i h; exact h hh.2.2) | (rename_i h; exact h hh.2.1) | (rename_i h; exact h hh.1))); exact ⟨j + 1, Wm.end (by repeat (first | exact trivial | refine And.intro rfl ?_ | refine And.intro (congrArg (fun n => V.d (I n)) e.symm) ?_)) rfl rfl rfl, hlj, by omega⟩)
        · have : j = cs.length := by omega
          subst this
          rw [List.take_length, ← hat]
          repeat' ((conv => whnf); first | with_reducible refine Dec.t (show true = true from rfl) ?_ | with_reducible refine Dec.t (show false = false from rfl) ?_ | with_reducible refine Dec.f (show ¬ (true = false) by decide) ?_ | with_reducible refine Dec.f (show ¬ (false = true) by decide) ?_ | refine Dec.t (by omega) ?_ | refine Dec.f (by omega) ?_ | refine Dec.split (fun _ => ?_) (fun _ => ?_) | refine Wr.id (by omega) ?_ | refine Chk.mk (by first | omega | exact rfl | (simp only [List.length_map]; omega) | (simp [room]; done) | (simp [room]; omega) | (simp [dropL, room]; done) | (simp [dropL, room]; omega)) ?_ | refine Nam.mk (List.length_map _) ?_ | refine Prep.skip ?_ | refine Eith.l ?_ | refine chk_t (x := D.flat _) (by assumption) ?_ | refine br_mk (fun _ => ?_) (fun _ => ?_) | refine ACall.of (k1) ?_ | refine APCall.of (k1) ?_ | refine ACall.of (k2) ?_ | refine APCall.of (k2) ?_ | refine ACall.of (k3) ?_ | refine APCall.of (k3) ?_ | refine ACall.of (k4) ?_ | refine APCall.of (k4) ?_ | fail)
          all_goals (conv => whnf)
          all_goals first
            | (exfalso; rename_i h; exact h rfl)
            | (exfalso; rename_i h2 h1; exact h1 (by rw [hea h2]))
            | exact ⟨i + 1, Wm.end (by repeat (first | exact trivial | refine And.intro rfl ?_ | refine And.intro (congrArg (fun n => V.d (I n)) (wrap_nat _ (by omega))) ?_)) rfl rfl rfl, hlt, by omega⟩
      · have : i = ks.length := by omega
        subst this
        repeat' ((conv => whnf); first | with_reducible refine Dec.t (show true = true from rfl) ?_ | with_reducible refine Dec.t (show false = false from rfl) ?_ | with_reducible refine Dec.f (show ¬ (true = false) by decide) ?_ | with_reducible refine Dec.f (show ¬ (false = true) by decide) ?_ | refine Dec.t (by omega) ?_ | refine Dec.f (by omega) ?_ | refine Dec.split (fun _ => ?_) (fun _ => ?_) | refine Wr.id (by omega) ?_ | refine Chk.mk (by first | omega | exact rfl | (simp only [List.length_map]; omega) | (simp [room]; done) | (simp [room]; omega) | (simp [dropL, room]; done) | (simp [dropL, room]; omega)) ?_ | refine Nam.mk (List.length_map _) ?_ | refine Prep.skip ?_ | refine Eith.l ?_ | refine chk_t (x := D.flat _) (by assumption) ?_ | refine br_mk (fun _ => ?_) (fun _ => ?_) | fail)
        all_goals (conv => whnf)
        all_goals first | exact DLe.refl _ | (exfalso; omega)
    · have hb := applyM_bad hz
      rw [hb] at hF
      refine exPure_sound (E := envOf Try.prog tt Try.f4.ntmps) (envOf_ok ttok mixed) Try.func4 (by rfl) rfl rfl (Nat.le_of_ble_eq_true rfl) ?_
      repeat' ((conv => whnf); first | with_reducible refine Dec.t (show true = true from rfl) ?_ | with_reducible refine Dec.t (show false = false from rfl) ?_ | with_reducible refine Dec.f (show ¬ (true = false) by decide) ?_ | with_reducible refine Dec.f (show ¬ (false = true) by decide) ?_ | refine Dec.t (by omega) ?_ | refine Dec.f (by omega) ?_ | refine Dec.split (fun _ => ?_) (fun _ => ?_) | refine Wr.id (by omega) ?_ | refine Chk.mk (by first | omega | exact rfl | (simp only [List.length_map]; omega) | (simp [room]; done) | (simp [room]; omega) | (simp [dropL, room]; done) | (simp [dropL, room]; omega)) ?_ | refine Nam.mk (List.length_map _) ?_ | refine Prep.skip ?_ | refine Eith.l ?_ | refine chk_t (x := D.flat _) (by assumption) ?_ | refine br_mk (fun _ => ?_) (fun _ => ?_) | refine ACall.of (law41_sane) ?_ | refine APCall.of (law41_sane) ?_ | refine ACall.ofB (ref41_Few w cs hl) (fun _ => ?_) (fun h => absurd hf (of_decide_eq_false h)) | refine ACall.of (hA) ?_ | refine APCall.of (hA) ?_ | fail)
      all_goals first | (exfalso; rename_i h; exact h (by rw [hF]; rfl)) | (exfalso; exact hz (by assumption)) | skip
      all_goals (conv => whnf)
      all_goals exact DLe.refl _
  · refine exPure_sound (E := envOf Try.prog tt Try.f4.ntmps) (envOf_ok ttok mixed) Try.func4 (by rfl) rfl rfl (Nat.le_of_ble_eq_true rfl) ?_
    repeat' ((conv => whnf); first | with_reducible refine Dec.t (show true = true from rfl) ?_ | with_reducible refine Dec.t (show false = false from rfl) ?_ | with_reducible refine Dec.f (show ¬ (true = false) by decide) ?_ | with_reducible refine Dec.f (show ¬ (false = true) by decide) ?_ | refine Dec.t (by omega) ?_ | refine Dec.f (by omega) ?_ | refine Dec.split (fun _ => ?_) (fun _ => ?_) | refine Wr.id (by omega) ?_ | refine Chk.mk (by first | omega | exact rfl | (simp only [List.length_map]; omega) | (simp [room]; done) | (simp [room]; omega) | (simp [dropL, room]; done) | (simp [dropL, room]; omega)) ?_ | refine Nam.mk (List.length_map _) ?_ | refine Prep.skip ?_ | refine Eith.l ?_ | refine chk_t (x := D.flat _) (by assumption) ?_ | refine br_mk (fun _ => ?_) (fun _ => ?_) | refine ACall.of (law41_sane) ?_ | refine APCall.of (law41_sane) ?_ | refine ACall.ofB (ref41_Few w cs hl) (fun h => absurd (of_decide_eq_true h) hf) (fun _ => ?_) | fail)
    all_goals (conv => whnf)
    all_goals exact DLe.refl _
end Go.PM

