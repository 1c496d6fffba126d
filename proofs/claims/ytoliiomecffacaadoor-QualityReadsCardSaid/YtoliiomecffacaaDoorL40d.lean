/- QualityReads, its contract. -/
import Derived.Test.YtoliiomecffacaaDoorL40a
namespace Go.PM
open Go.Proofs
set_option maxRecDepth 10000
set_option maxHeartbeats 4000000

theorem alike_at {l : List Fact} {k : Key} {d a b : Int} (h0 : 0 ≤ d) (h1 : d ≤ 1023) (h : valuesM l k d (d + 1) a = valuesM l k d (d + 1) b) : atM l k d a = atM l k d b := by
  have hl : lo0 d = d := by unfold lo0; rw [if_neg (by omega)]
  have hn : daysN d (d + 1) = 1 := by unfold daysN; rw [hl]; unfold hi0; rw [if_neg (by omega)]; omega
  unfold valuesM at h
  rw [hn, hl] at h
  simp only [List.range_one, List.map_cons, List.map_nil, List.cons.injEq, and_true, Int.natCast_zero, Int.add_zero] at h
  unfold atM
  rw [valOf_vOf, valOf_vOf, h]
theorem findM_alike (l : List Fact) (no day a b : Int) (h : ∀ k, rdOf k day ∈ (findM l no day a).reads → atM l k day b = atM l k day a) : findM l no day b = findM l no day a := by
  unfold findM at h ⊢
  cases e0 : atM l (lotKey no 0) day a with
  | none => simp only [e0] at h ⊢; simp only [h (lotKey no 0) (by simp), e0]
  | some x0 => cases e1 : atM l (lotKey no 1) day a with
    | none => simp only [e0, e1] at h ⊢; simp only [h (lotKey no 0) (by simp), h (lotKey no 1) (by simp), e0, e1]
    | some x1 => cases e2 : atM l (lotKey no 2) day a with
      | none => simp only [e0, e1, e2] at h ⊢; simp only [h (lotKey no 0) (by simp), h (lotKey no 1) (by simp), h (lotKey no 2) (by simp), e0, e1, e2]
      | some x2 => cases e3 : atM l (lotKey no 3) day a with
        | none => simp only [e0, e1, e2, e3] at h ⊢; simp only [h (lotKey no 0) (by simp), h (lotKey no 1) (by simp), h (lotKey no 2) (by simp), h (lotKey no 3) (by simp), e0, e1, e2, e3]
        | some x3 => cases e4 : atM l (lotKey no 4) day a with
          | none => simp only [e0, e1, e2, e3, e4] at h ⊢; simp only [h (lotKey no 0) (by simp), h (lotKey no 1) (by simp), h (lotKey no 2) (by simp), h (lotKey no 3) (by simp), h (lotKey no 4) (by simp), e0, e1, e2, e3, e4]
          | some x4 => simp only [e0, e1, e2, e3, e4] at h ⊢; simp only [h (lotKey no 0) (by simp), h (lotKey no 1) (by simp), h (lotKey no 2) (by simp), h (lotKey no 3) (by simp), h (lotKey no 4) (by simp), e0, e1, e2, e3, e4]
theorem lotM_alike (w : AWorld) (no day a b : Int) (h : 0 ≤ day ∧ day < 1024 → ∀ k, rdOf k day ∈ (lotM w no day a).reads → atM w.facts k day b = atM w.facts k day a) : lotM w no day b = lotM w no day a := by
  by_cases hd : 0 ≤ day ∧ day < 1024
  · replace h := h hd
    unfold lotM at h ⊢
    rw [if_pos hd] at h ⊢
    rw [if_pos hd]
    have h0 : atM w.facts headK day b = atM w.facts headK day a := h headK (by split <;> simp)
    have hm : manyM w.facts day b = manyM w.facts day a := by unfold manyM; rw [h0]
    rw [hm]
    by_cases hn : 0 ≤ no ∧ no < manyM w.facts day a
    · rw [if_pos hn] at h ⊢
      rw [if_pos hn]
      rw [findM_alike w.facts no day a b fun k hk => h k (.tail _ hk)]
    · rw [if_neg hn, if_neg hn]
  · unfold lotM; rw [if_neg hd, if_neg hd]
theorem certF_mem (w : AWorld) (lot day known : Int) : ∀ (l : List Spec) (c : CertR) (z : Read), z ∈ c.reads → z ∈ (certF w lot day known l c).reads
  | [], c, z, h => h
  | s :: l, c, z, h => certF_mem w lot day known l (certStep w lot day known c s) z (by unfold certStep; exact List.mem_append_left _ h)
theorem certF_alike (w : AWorld) (lot day a b : Int) (hd : 0 ≤ day ∧ day < 1024) : ∀ (l : List Spec) (c : CertR) (_ : ∀ k, rdOf k day ∈ (certF w lot day a l c).reads → atM w.facts k day b = atM w.facts k day a), certF w lot day b l c = certF w lot day a l c
  | [], c, _ => rfl
  | s :: l, c, h => by
    have hr : resultM w lot s.test day b = resultM w lot s.test day a := by
      have hm : rdOf ⟨8, lot, s.test⟩ day ∈ (resultM w lot s.test day a).2.1 := by unfold resultM; rw [if_pos hd]; split <;> simp
      have := h ⟨8, lot, s.test⟩ (certF_mem w lot day a l (certStep w lot day a c s) _ (by unfold certStep; exact List.mem_append_right _ hm))
      unfold resultM
      rw [if_pos hd, if_pos hd, this]
    have hs : certStep w lot day b c s = certStep w lot day a c s := by unfold certStep; rw [hr]
    show certF w lot day b l (certStep w lot day b c s) = certF w lot day a l (certStep w lot day a c s)
    rw [hs]
    exact certF_alike w lot day a b hd l _ h
theorem stateM_alike (w : AWorld) (lot day a b : Int) (l : List Spec) (held : List Int) (hok : specsOk l ∧ lotsOk held) (h : alikeM w.facts (stateM w lot day a l held).2.1 a b) :
    stateM w lot day b l held = stateM w lot day a l held ∧ certifyM w lot day b l = certifyM w lot day a l := by
  have hat : 0 ≤ day ∧ day < 1024 → ∀ k, rdOf k day ∈ (stateM w lot day a l held).2.1 → atM w.facts k day b = atM w.facts k day a := fun hd k hk => (alike_at (d := day) (by omega) (by omega) (h _ hk)).symm
  clear h
  have hL : lotM w lot day b = lotM w lot day a := lotM_alike w lot day a b fun hd k hk => hat hd k (by
    unfold stateM
    rw [if_pos hok]
    split
    · exact List.mem_append_left _ hk
    · exact hk)
  unfold stateM certifyM at *
  rw [if_pos hok] at hat ⊢
  rw [if_pos hok]
  rw [hL]
  by_cases ho : (lotM w lot day a).ok = true
  · have hd : 0 ≤ day ∧ day < 1024 := by
      unfold lotM at ho
      by_cases h : 0 ≤ day ∧ day < 1024
      · exact h
      · rw [if_neg h] at ho; cases ho
    rw [if_pos ho] at hat
    rw [certF_alike w lot day a b hd l _ fun k hk => hat hd k (List.mem_append_right _ hk)]
    exact ⟨rfl, rfl⟩
  · rw [if_neg ho, if_neg ho]
    refine ⟨rfl, ?_⟩
    rw [if_neg (fun h => ho h.2), if_neg (fun h => ho h.2)]

theorem law40_Reads (w : AWorld) (lot day known other : Int) (l : List Spec) (held : List Int) : CallP Tryd.prog 8 [.d w.d, .d (I lot), .d (I day), .d (I known), .d (I other), .d (SL 3 (l.map Spec.d)), .d (SL 1 (held.map I))] (retD [.b true]) := by
  refine exPure_sound (E := envOf Tryd.prog tt Tryd.f8.ntmps) (envOf_ok ttok mixed) Tryd.func8 (by rfl) rfl rfl (Nat.le_of_ble_eq_true rfl) ?_
  have hFew := ref40_Few w l held
  by_cases hs : w.facts.length ≤ 60 ∧ l.length ≤ 20 ∧ held.length ≤ 20
  · rw [decide_eq_true hs] at hFew
    have h3 := quality_State w lot day known l held (by omega) (by omega) (by omega)
    by_cases hok : specsOk l ∧ lotsOk held
    · have hrl := stateM_reads w lot day known l held
      have hA := facts_Alike w.facts (stateM w lot day known l held).2.1 known other (by omega) (by omega)
      by_cases hal : alikeM w.facts (stateM w lot day known l held).2.1 known other
      · have h4 := quality_State w lot day other l held (by omega) (by omega) (by omega)
        have h5 := quality_Certify w lot day known l (by omega) (by omega)
        have h6 := quality_Certify w lot day other l (by omega) (by omega)
        obtain ⟨e1, e2⟩ := stateM_alike w lot day known other l held hok hal
        rw [e1] at h4
        rw [e2] at h6
        rw [decide_eq_true hal] at hA
        have he : (stateM w lot day known l held).2.2 = 0 := by unfold stateM; rw [if_pos hok]; split <;> rfl
        rw [he] at h3 h4
        obtain ⟨c, hc, hcl, hrl2⟩ := certifyM_cert w lot day known l
        generalize stateM w lot day known l held = m at h3 h4 hrl hA
        obtain ⟨s, reads, f⟩ := m
        simp only at hrl h3 h4 hA
        generalize certifyM w lot day known l = m at h5 h6 hc hrl2
        obtain ⟨_, reads2, e⟩ := m
        simp only at hc hrl2
        subst hc
        simp only [CertM.d] at h5 h6
        clear e1 e2 hal he
        have hS2 := same_reads reads (by omega)
        have hS3 := same_cert c (by omega)
        repeat' ((conv => whnf); first | with_reducible refine Dec.t (show true = true from rfl) ?_ | with_reducible refine Dec.t (show false = false from rfl) ?_ | with_reducible refine Dec.f (show ¬ (true = false) by decide) ?_ | with_reducible refine Dec.f (show ¬ (false = true) by decide) ?_ | refine Dec.t (by omega) ?_ | refine Dec.f (by omega) ?_ | refine Dec.split (fun _ => ?_) (fun _ => ?_) | refine Wr.id (by omega) ?_ | refine Chk.mk (by first | omega | exact rfl | (simp only [List.length_map]; omega) | (simp [room]; done) | (simp [room]; omega) | (simp [dropL, room]; done) | (simp [dropL, room]; omega)) ?_ | refine Nam.mk (List.length_map _) ?_ | refine Prep.skip ?_ | refine chk_t (x := D.flat _) (by assumption) ?_ | refine br_mk (fun _ => ?_) (fun _ => ?_) | refine ACall.of (law40_sane) ?_ | refine APCall.of (law40_sane) ?_ | refine ACall.of hFew ?_ | refine ACall.of h3 ?_ | refine ACall.of hA ?_ | refine ACall.of h4 ?_ | refine ACall.of h5 ?_ | refine ACall.of h6 ?_ | refine ACall.of hS2 ?_ | refine ACall.of hS3 ?_ | fail)
        all_goals (conv => whnf)
        all_goals exact (by repeat (first | exact trivial | exact rfl | exact DLe.refl _ | exact DLe.full _ _ _ | exact DLe.nil _ _ _ | exact VLe.refl _ | refine And.intro ?_ ?_ | refine VLe.d ?_ | refine DLe.agg ?_))
      · rw [decide_eq_false hal] at hA
        generalize stateM w lot day known l held = m at h3 hrl hA
        obtain ⟨s, reads, f⟩ := m
        simp only at hrl h3 hA
        clear hal
        repeat' ((conv => whnf); first | with_reducible refine Dec.t (show true = true from rfl) ?_ | with_reducible refine Dec.t (show false = false from rfl) ?_ | with_reducible refine Dec.f (show ¬ (true = false) by decide) ?_ | with_reducible refine Dec.f (show ¬ (false = true) by decide) ?_ | refine Dec.t (by omega) ?_ | refine Dec.f (by omega) ?_ | refine Dec.split (fun _ => ?_) (fun _ => ?_) | refine Wr.id (by omega) ?_ | refine Chk.mk (by first | omega | exact rfl | (simp only [List.length_map]; omega) | (simp [room]; done) | (simp [room]; omega) | (simp [dropL, room]; done) | (simp [dropL, room]; omega)) ?_ | refine Nam.mk (List.length_map _) ?_ | refine Prep.skip ?_ | refine chk_t (x := D.flat _) (by assumption) ?_ | refine br_mk (fun _ => ?_) (fun _ => ?_) | refine ACall.of (law40_sane) ?_ | refine APCall.of (law40_sane) ?_ | refine ACall.of hFew ?_ | refine ACall.of h3 ?_ | refine ACall.of hA ?_ | fail)
        all_goals (conv => whnf)
        all_goals exact (by repeat (first | exact trivial | exact rfl | exact DLe.refl _ | exact DLe.full _ _ _ | exact DLe.nil _ _ _ | exact VLe.refl _ | refine And.intro ?_ ?_ | refine VLe.d ?_ | refine DLe.agg ?_))
    · have hst : stateM w lot day known l held = (0, [], 400) := by unfold stateM; rw [if_neg hok]
      rw [hst] at h3
      dsimp only at h3
      repeat' ((conv => whnf); first | with_reducible refine Dec.t (show true = true from rfl) ?_ | with_reducible refine Dec.t (show false = false from rfl) ?_ | with_reducible refine Dec.f (show ¬ (true = false) by decide) ?_ | with_reducible refine Dec.f (show ¬ (false = true) by decide) ?_ | refine Dec.t (by omega) ?_ | refine Dec.f (by omega) ?_ | refine Dec.split (fun _ => ?_) (fun _ => ?_) | refine Wr.id (by omega) ?_ | refine Chk.mk (by first | omega | exact rfl | (simp only [List.length_map]; omega) | (simp [room]; done) | (simp [room]; omega) | (simp [dropL, room]; done) | (simp [dropL, room]; omega)) ?_ | refine Nam.mk (List.length_map _) ?_ | refine Prep.skip ?_ | refine chk_t (x := D.flat _) (by assumption) ?_ | refine br_mk (fun _ => ?_) (fun _ => ?_) | refine ACall.of (law40_sane) ?_ | refine APCall.of (law40_sane) ?_ | refine ACall.of hFew ?_ | refine ACall.of h3 ?_ | fail)
      all_goals (conv => whnf)
      all_goals exact (by repeat (first | exact trivial | exact rfl | exact DLe.refl _ | exact DLe.full _ _ _ | exact DLe.nil _ _ _ | exact VLe.refl _ | refine And.intro ?_ ?_ | refine VLe.d ?_ | refine DLe.agg ?_))
  · rw [decide_eq_false hs] at hFew
    repeat' ((conv => whnf); first | with_reducible refine Dec.t (show true = true from rfl) ?_ | with_reducible refine Dec.t (show false = false from rfl) ?_ | with_reducible refine Dec.f (show ¬ (true = false) by decide) ?_ | with_reducible refine Dec.f (show ¬ (false = true) by decide) ?_ | refine Dec.t (by omega) ?_ | refine Dec.f (by omega) ?_ | refine Dec.split (fun _ => ?_) (fun _ => ?_) | refine Wr.id (by omega) ?_ | refine Chk.mk (by first | omega | exact rfl | (simp only [List.length_map]; omega) | (simp [room]; done) | (simp [room]; omega) | (simp [dropL, room]; done) | (simp [dropL, room]; omega)) ?_ | refine Nam.mk (List.length_map _) ?_ | refine Prep.skip ?_ | refine chk_t (x := D.flat _) (by assumption) ?_ | refine br_mk (fun _ => ?_) (fun _ => ?_) | refine ACall.of (law40_sane) ?_ | refine APCall.of (law40_sane) ?_ | refine ACall.of hFew ?_ | fail)
    all_goals (conv => whnf)
    all_goals exact (by repeat (first | exact trivial | exact rfl | exact DLe.refl _ | exact DLe.full _ _ _ | exact DLe.nil _ _ _ | exact VLe.refl _ | refine And.intro ?_ ?_ | refine VLe.d ?_ | refine DLe.agg ?_))
end Go.PM

