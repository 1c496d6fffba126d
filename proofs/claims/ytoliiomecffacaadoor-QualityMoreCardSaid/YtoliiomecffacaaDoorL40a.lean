/- QualityCertifySpec and QualityStateSpec, their contracts. -/
import Derived.Test.YtoliiomecffacaaDoorS40a
import Derived.Test.YtoliiomecffacaaDoorR40c
namespace Go.PM
open Go.Proofs
set_option maxRecDepth 10000
set_option maxHeartbeats 1000000

theorem resultM_len (w : AWorld) (lot test day known : Int) : (resultM w lot test day known).2.1.length ≤ 1 := by
  unfold resultM
  split
  · split <;> simp
  · simp
theorem certifyM_cert (w : AWorld) (lot day known : Int) (l : List Spec) : ∃ c : Cert, (certifyM w lot day known l).c = c.d ∧ c.res.length ≤ l.length ∧ (certifyM w lot day known l).reads.length ≤ 6 + l.length := by
  unfold certifyM
  split
  · have h1 := certF_res w lot day known l ⟨[], true, []⟩
    have h2 := certF_reads w lot day known l ⟨[], true, []⟩
    have h3 := lotM_reads w lot day known
    simp only [List.length_nil, Nat.zero_add] at h1 h2
    refine ⟨⟨lot, (certF w lot day known l ⟨[], true, []⟩).res, (certF w lot day known l ⟨[], true, []⟩).good⟩, rfl, h1, ?_⟩
    simp only [List.length_append]; omega
  · exact ⟨⟨0, [], false⟩, rfl, Nat.zero_le _, Nat.zero_le _⟩
theorem stateM_reads (w : AWorld) (lot day known : Int) (l : List Spec) (held : List Int) : (stateM w lot day known l held).2.1.length ≤ 6 + l.length := by
  have h2 := certF_reads w lot day known l ⟨[], true, []⟩
  have h3 := lotM_reads w lot day known
  simp only [List.length_nil, Nat.zero_add] at h2
  unfold stateM
  split
  · split
    · simp only [List.length_append]; omega
    · simp only; omega
  · exact Nat.zero_le _

theorem ref04_SameReads (a b : List (Read)) (hl : a.length < 2 ^ 40)  : CallP Tryd.prog 15 [.d (SL 5 (a.map Read.d)), .d (SL 5 (b.map Read.d))] (retD [.b (decide (a = b))]) := by
  refine exPure_sound (E := envOf Tryd.prog tt Tryd.f15.ntmps) (envOf_ok ttok mixed) Tryd.func15 (by rfl) rfl rfl (Nat.le_of_ble_eq_true rfl) ?_
  by_cases he : a.length = b.length
  · repeat' ((conv => whnf); first | with_reducible refine Dec.t (show true = true from rfl) ?_ | with_reducible refine Dec.t (show false = false from rfl) ?_ | with_reducible refine Dec.f (show ¬ (true = false) by decide) ?_ | with_reducible refine Dec.f (show ¬ (false = true) by decide) ?_ | refine Dec.t (by omega) ?_ | refine Dec.f (by omega) ?_ | refine Dec.split (fun _ => ?_) (fun _ => ?_) | refine Wr.id (by omega) ?_ | refine Chk.mk (by first | omega | exact rfl | (simp only [List.length_map]; omega) | (simp [room]; done) | (simp [room]; omega) | (simp [dropL, room]; done) | (simp [dropL, room]; omega)) ?_ | refine Nam.mk (List.length_map _) ?_ | refine Prep.skip ?_ | refine chk_t (x := D.flat _) (by assumption) ?_ | refine br_mk (fun _ => ?_) (fun _ => ?_))
    conv => whnf
    refine ALoop.at (E := envOf Tryd.prog tt Tryd.f15.ntmps) (envOf_ok ttok mixed) (X := Nat) (fun i => [(5, .d (I i))]) (fun _ => []) (fun i => i ≤ a.length ∧ a.take i = b.take i) (fun i => a.length - i) 0 (by repeat (first | exact trivial | refine And.intro rfl ?_ | refine And.intro (congrArg (fun n => V.d (I n)) (wrap_nat _ (by omega))) ?_)) rfl ⟨Nat.zero_le _, rfl⟩ ?_
    rintro i ⟨hi, hm⟩
    by_cases hlt : i < a.length
    · obtain ⟨x, hx, _⟩ := drop_get hlt
      obtain ⟨y, hy, _⟩ := drop_get (l := b) (i := i) (by omega)
      repeat' ((conv => whnf); first | with_reducible refine Dec.t (show true = true from rfl) ?_ | with_reducible refine Dec.t (show false = false from rfl) ?_ | with_reducible refine Dec.f (show ¬ (true = false) by decide) ?_ | with_reducible refine Dec.f (show ¬ (false = true) by decide) ?_ | refine Dec.t (by omega) ?_ | refine Dec.f (by omega) ?_ | refine Dec.split (fun _ => ?_) (fun _ => ?_) | refine Wr.id (by omega) ?_ | refine Chk.mk (by first | omega | exact rfl | (simp only [List.length_map]; omega) | (simp [room]; done) | (simp [room]; omega) | (simp [dropL, room]; done) | (simp [dropL, room]; omega)) ?_ | refine Nam.mk (List.length_map _) ?_ | refine Prep.skip ?_ | refine chk_t (x := D.flat _) (by assumption) ?_ | refine br_mk (fun _ => ?_) (fun _ => ?_) | refine nthK_mk (map_get hx) ?_ | refine nthK_mk (map_get hy) ?_ | refine Nam.dec (eqRead x y) (fun _ => ?_) (fun _ => ?_))
      all_goals (conv => whnf)
      all_goals try simp only [decide_eq_true_eq, decide_eq_false_iff_not] at *
      all_goals first
        | (have e : x = y := by first | assumption | (simp_all; done)
           subst e
           refine ⟨i + 1, Wm.end (by repeat (first | exact trivial | refine And.intro rfl ?_ | refine And.intro (congrArg (fun n => V.d (I n)) (wrap_nat _ (by omega))) ?_)) rfl rfl rfl, ⟨hlt, ?_⟩, by omega⟩
           rw [List.take_add_one, List.take_add_one, hm, hx, hy])
        | (have e : ¬ x = y := by first | assumption | (simp_all; done)
           rw [decide_eq_false (fun h => e (by subst h; rw [hx] at hy; exact Option.some.inj hy))]; exact DLe.refl _)
    · have : i = a.length := by omega
      subst this
      rw [List.take_length, he, List.take_length] at hm
      repeat' ((conv => whnf); first | with_reducible refine Dec.t (show true = true from rfl) ?_ | with_reducible refine Dec.t (show false = false from rfl) ?_ | with_reducible refine Dec.f (show ¬ (true = false) by decide) ?_ | with_reducible refine Dec.f (show ¬ (false = true) by decide) ?_ | refine Dec.t (by omega) ?_ | refine Dec.f (by omega) ?_ | refine Dec.split (fun _ => ?_) (fun _ => ?_) | refine Wr.id (by omega) ?_ | refine Chk.mk (by first | omega | exact rfl | (simp only [List.length_map]; omega) | (simp [room]; done) | (simp [room]; omega) | (simp [dropL, room]; done) | (simp [dropL, room]; omega)) ?_ | refine Nam.mk (List.length_map _) ?_ | refine Prep.skip ?_ | refine chk_t (x := D.flat _) (by assumption) ?_ | refine br_mk (fun _ => ?_) (fun _ => ?_))
      all_goals (conv => whnf)
      rw [decide_eq_true hm]; exact DLe.refl _
  · repeat' ((conv => whnf); first | with_reducible refine Dec.t (show true = true from rfl) ?_ | with_reducible refine Dec.t (show false = false from rfl) ?_ | with_reducible refine Dec.f (show ¬ (true = false) by decide) ?_ | with_reducible refine Dec.f (show ¬ (false = true) by decide) ?_ | refine Dec.t (by omega) ?_ | refine Dec.f (by omega) ?_ | refine Dec.split (fun _ => ?_) (fun _ => ?_) | refine Wr.id (by omega) ?_ | refine Chk.mk (by first | omega | exact rfl | (simp only [List.length_map]; omega) | (simp [room]; done) | (simp [room]; omega) | (simp [dropL, room]; done) | (simp [dropL, room]; omega)) ?_ | refine Nam.mk (List.length_map _) ?_ | refine Prep.skip ?_ | refine chk_t (x := D.flat _) (by assumption) ?_ | refine br_mk (fun _ => ?_) (fun _ => ?_))
    all_goals (conv => whnf)
    rw [decide_eq_false (fun h => he (by rw [h]))]; exact DLe.refl _

theorem same_reads (r : List Read) (h : r.length < 2 ^ 40) : CallP Tryd.prog 15 [.d (SL 5 (r.map Read.d)), .d (SL 5 (r.map Read.d))] (retD [.b true]) := by
  have h := ref04_SameReads r r h
  rwa [decide_eq_true rfl] at h
theorem same_cert (c : Cert) (h : c.res.length < 2 ^ 40) : CallP Tryd.prog 16 [.d c.d, .d c.d] (retD [.b true]) := by
  have h := ref40_Same c c h
  rwa [decide_eq_true rfl] at h
theorem law40_CertifySpec (w : AWorld) (lot test day known : Int) (l : List Spec) (hw : w.wide) : CallP Tryd.prog 3 [.d w.d, .d (I lot), .d (I test), .d (I day), .d (I known), .d (SL 3 (l.map Spec.d))] (retD [.b true]) := by
  refine exPure_sound (E := envOf Tryd.prog tt Tryd.f3.ntmps) (envOf_ok ttok mixed) Tryd.func3 (by rfl) rfl rfl (Nat.le_of_ble_eq_true rfl) ?_
  have hFew := ref40_Few w l []
  have hle : VLes [.d w.d, .d (SL 3 (l.map Spec.d)), .d nilD] [.d w.d, .d (SL 3 (l.map Spec.d)), .d (SL 1 (([] : List Int).map I))] := ⟨VLe.refl _, VLe.refl _, VLe.d (DLe.nil _ _ _), rfl⟩
  by_cases hs : w.facts.length ≤ 60 ∧ l.length ≤ 20 ∧ ([] : List Int).length ≤ 20
  · rw [decide_eq_true hs] at hFew
    have h1 := quality_Result w lot test day known (by omega)
    have h2 := ref40_Result w lot test day known (by omega)
    have h3 := quality_Certify w lot day known l (by omega) (by omega)
    have h4 := ref40_Certify w lot day known l (by omega) (by omega) hw
    have l1 := resultM_len w lot test day known
    obtain ⟨c, hc, hcl, hrl⟩ := certifyM_cert w lot day known l
    generalize resultM w lot test day known = r at h1 h2 l1
    obtain ⟨n, rs, ok⟩ := r
    generalize certifyM w lot day known l = m at h3 h4 hc hrl
    obtain ⟨_, reads, e⟩ := m
    simp only at hc hrl l1
    subst hc
    simp only [resD, CertM.d] at h1 h2 h3 h4
    have hS1 := same_reads rs (by omega)
    have hS2 := same_reads reads (by omega)
    have hS3 := same_cert c (by omega)
    cases ok
    all_goals
      repeat' ((conv => whnf); first | with_reducible refine Dec.t (show true = true from rfl) ?_ | with_reducible refine Dec.t (show false = false from rfl) ?_ | with_reducible refine Dec.f (show ¬ (true = false) by decide) ?_ | with_reducible refine Dec.f (show ¬ (false = true) by decide) ?_ | refine Dec.t (by omega) ?_ | refine Dec.f (by omega) ?_ | refine Dec.split (fun _ => ?_) (fun _ => ?_) | refine Wr.id (by omega) ?_ | refine Chk.mk (by first | omega | exact rfl | (simp only [List.length_map]; omega) | (simp [room]; done) | (simp [room]; omega) | (simp [dropL, room]; done) | (simp [dropL, room]; omega)) ?_ | refine Nam.mk (List.length_map _) ?_ | refine Prep.skip ?_ | refine chk_t (x := D.flat _) (by assumption) ?_ | refine br_mk (fun _ => ?_) (fun _ => ?_) | refine ACall.of (law40_sane) ?_ | refine APCall.of (law40_sane) ?_ | refine ACall.le hle hFew ?_ | refine ACall.of h1 ?_ | refine ACall.of h2 ?_ | refine ACall.of h3 ?_ | refine ACall.of h4 ?_ | refine ACall.of hS1 ?_ | refine ACall.of hS2 ?_ | refine ACall.of hS3 ?_ | fail)
    all_goals (conv => whnf)
    all_goals exact (by repeat (first | exact trivial | exact rfl | exact DLe.refl _ | exact DLe.full _ _ _ | exact DLe.nil _ _ _ | exact VLe.refl _ | refine And.intro ?_ ?_ | refine VLe.d ?_ | refine DLe.agg ?_))
  · rw [decide_eq_false hs] at hFew
    repeat' ((conv => whnf); first | with_reducible refine Dec.t (show true = true from rfl) ?_ | with_reducible refine Dec.t (show false = false from rfl) ?_ | with_reducible refine Dec.f (show ¬ (true = false) by decide) ?_ | with_reducible refine Dec.f (show ¬ (false = true) by decide) ?_ | refine Dec.t (by omega) ?_ | refine Dec.f (by omega) ?_ | refine Dec.split (fun _ => ?_) (fun _ => ?_) | refine Wr.id (by omega) ?_ | refine Chk.mk (by first | omega | exact rfl | (simp only [List.length_map]; omega) | (simp [room]; done) | (simp [room]; omega) | (simp [dropL, room]; done) | (simp [dropL, room]; omega)) ?_ | refine Nam.mk (List.length_map _) ?_ | refine Prep.skip ?_ | refine chk_t (x := D.flat _) (by assumption) ?_ | refine br_mk (fun _ => ?_) (fun _ => ?_) | refine ACall.of (law40_sane) ?_ | refine APCall.of (law40_sane) ?_ | refine ACall.le hle hFew ?_ | fail)
    all_goals (conv => whnf)
    all_goals exact (by repeat (first | exact trivial | exact rfl | exact DLe.refl _ | exact DLe.full _ _ _ | exact DLe.nil _ _ _ | exact VLe.refl _ | refine And.intro ?_ ?_ | refine VLe.d ?_ | refine DLe.agg ?_))
theorem law40_StateSpec (w : AWorld) (lot : Int) (c : Cert) (day known : Int) (l : List Spec) (held : List Int) (hw : w.wide) : CallP Tryd.prog 4 [.d w.d, .d (I lot), .d c.d, .d (I day), .d (I known), .d (SL 3 (l.map Spec.d)), .d (SL 1 (held.map I))] (retD [.b true]) := by
  refine exPure_sound (E := envOf Tryd.prog tt Tryd.f4.ntmps) (envOf_ok ttok mixed) Tryd.func4 (by rfl) rfl rfl (Nat.le_of_ble_eq_true rfl) ?_
  have hFew := ref40_Few w l held
  by_cases hs : w.facts.length ≤ 60 ∧ l.length ≤ 20 ∧ held.length ≤ 20
  · rw [decide_eq_true hs] at hFew
    have h1 := quality_Check w c day known l (by omega) (by omega)
    have h2 := ref40_Check w c day known l (by omega) (by omega) hw
    have h3 := quality_State w lot day known l held (by omega) (by omega) (by omega)
    have h4 := ref40_State w lot day known l held (by omega) (by omega) (by omega) hw
    have hrl := stateM_reads w lot day known l held
    generalize checkCM w c day known l = r at h1 h2
    obtain ⟨ok, e⟩ := r
    generalize stateM w lot day known l held = m at h3 h4 hrl
    obtain ⟨s, reads, f⟩ := m
    simp only at hrl h1 h2 h3 h4
    have hS2 := same_reads reads (by omega)
    cases ok
    all_goals
      repeat' ((conv => whnf); first | with_reducible refine Dec.t (show true = true from rfl) ?_ | with_reducible refine Dec.t (show false = false from rfl) ?_ | with_reducible refine Dec.f (show ¬ (true = false) by decide) ?_ | with_reducible refine Dec.f (show ¬ (false = true) by decide) ?_ | refine Dec.t (by omega) ?_ | refine Dec.f (by omega) ?_ | refine Dec.split (fun _ => ?_) (fun _ => ?_) | refine Wr.id (by omega) ?_ | refine Chk.mk (by first | omega | exact rfl | (simp only [List.length_map]; omega) | (simp [room]; done) | (simp [room]; omega) | (simp [dropL, room]; done) | (simp [dropL, room]; omega)) ?_ | refine Nam.mk (List.length_map _) ?_ | refine Prep.skip ?_ | refine chk_t (x := D.flat _) (by assumption) ?_ | refine br_mk (fun _ => ?_) (fun _ => ?_) | refine ACall.of (law40_sane) ?_ | refine APCall.of (law40_sane) ?_ | refine ACall.of hFew ?_ | refine ACall.of h1 ?_ | refine ACall.of h2 ?_ | refine ACall.of h3 ?_ | refine ACall.of h4 ?_ | refine ACall.of hS2 ?_ | fail)
    all_goals (conv => whnf)
    all_goals exact (by repeat (first | exact trivial | exact rfl | exact DLe.refl _ | exact DLe.full _ _ _ | exact DLe.nil _ _ _ | exact VLe.refl _ | refine And.intro ?_ ?_ | refine VLe.d ?_ | refine DLe.agg ?_))
  · rw [decide_eq_false hs] at hFew
    repeat' ((conv => whnf); first | with_reducible refine Dec.t (show true = true from rfl) ?_ | with_reducible refine Dec.t (show false = false from rfl) ?_ | with_reducible refine Dec.f (show ¬ (true = false) by decide) ?_ | with_reducible refine Dec.f (show ¬ (false = true) by decide) ?_ | refine Dec.t (by omega) ?_ | refine Dec.f (by omega) ?_ | refine Dec.split (fun _ => ?_) (fun _ => ?_) | refine Wr.id (by omega) ?_ | refine Chk.mk (by first | omega | exact rfl | (simp only [List.length_map]; omega) | (simp [room]; done) | (simp [room]; omega) | (simp [dropL, room]; done) | (simp [dropL, room]; omega)) ?_ | refine Nam.mk (List.length_map _) ?_ | refine Prep.skip ?_ | refine chk_t (x := D.flat _) (by assumption) ?_ | refine br_mk (fun _ => ?_) (fun _ => ?_) | refine ACall.of (law40_sane) ?_ | refine APCall.of (law40_sane) ?_ | refine ACall.of hFew ?_ | fail)
    all_goals (conv => whnf)
    all_goals exact (by repeat (first | exact trivial | exact rfl | exact DLe.refl _ | exact DLe.full _ _ _ | exact DLe.nil _ _ _ | exact VLe.refl _ | refine And.intro ?_ ?_ | refine VLe.d ?_ | refine DLe.agg ?_))
end Go.PM

