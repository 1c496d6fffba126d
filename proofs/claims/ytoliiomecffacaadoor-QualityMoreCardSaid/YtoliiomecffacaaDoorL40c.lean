/- QualityTrue, its contract. -/
import Derived.Test.YtoliiomecffacaaDoorL40a
namespace Go.PM
open Go.Proofs
set_option maxRecDepth 10000
set_option maxHeartbeats 8000000

/-- The results that are known, in order. -/
def resOf (w : AWorld) (lot day known : Int) (l : List Spec) : List Pt := l.filterMap fun s => (atM w.facts ⟨8, lot, s.test⟩ day known).map fun n => ⟨s.test, n⟩
def goodC (w : AWorld) (lot day known : Int) (s : Spec) : Bool := match atM w.facts ⟨8, lot, s.test⟩ day known with
  | some n => decide (s.lo ≤ n) && decide (n ≤ s.hi)
  | none => false
theorem certF_true (w : AWorld) (lot day known : Int) (hd : 0 ≤ day ∧ day < 1024) : ∀ (l : List Spec) (c : CertR), (certF w lot day known l c).res = c.res ++ resOf w lot day known l ∧ (certF w lot day known l c).good = (c.good && l.all (goodC w lot day known))
  | [], c => by simp [certF, resOf]
  | s :: l, c => by
    have h1 := certF_true w lot day known hd l (certStep w lot day known c s)
    unfold certF resOf at h1 ⊢
    rw [List.foldl_cons, h1.1, h1.2, List.filterMap_cons, List.all_cons]
    have : certStep w lot day known c s = ⟨c.res ++ ((atM w.facts ⟨8, lot, s.test⟩ day known).map fun n => (⟨s.test, n⟩ : Pt)).toList, c.good && goodC w lot day known s, (certStep w lot day known c s).reads⟩ := by
      unfold certStep resultM goodC
      simp only [if_pos hd]
      cases atM w.facts ⟨8, lot, s.test⟩ day known <;> simp
    rw [this]
    cases h : atM w.facts ⟨8, lot, s.test⟩ day known <;> simp [Bool.and_assoc]
theorem resOf_snoc (w : AWorld) (lot day known : Int) (l : List Spec) (s : Spec) : resOf w lot day known (l ++ [s]) = resOf w lot day known l ++ ((atM w.facts ⟨8, lot, s.test⟩ day known).map fun n => (⟨s.test, n⟩ : Pt)).toList := by
  unfold resOf
  rw [List.filterMap_append]
  cases h : atM w.facts ⟨8, lot, s.test⟩ day known <;> simp [h]
theorem take_snoc {α : Type} {r c : List α} {x y : α} (hy : c[r.length]? = some y) : r ++ [x] = c.take (r.length + 1) ↔ r = c.take r.length ∧ y = x := by
  rw [List.take_add_one, hy]
  have hl : (c.take r.length).length = r.length := by
    have := (List.getElem?_eq_some_iff.1 hy).1
    rw [List.length_take]; omega
  constructor
  · intro h
    have := List.append_inj h hl.symm
    exact ⟨this.1, by simpa using this.2.symm⟩
  · rintro ⟨h1, h2⟩
    rw [← h1, h2]; rfl
theorem take_over {α : Type} {r c : List α} {x : α} (hy : c.length ≤ r.length) : ¬ r ++ [x] = c.take (r.length + 1) := by
  intro h
  have := congrArg List.length h
  rw [List.length_take, List.length_append] at this
  simp at this; omega
/-- A fact that the arithmetic need not see. -/
def Hid' (p : Prop) : Prop := p
theorem Hid'.out {p : Prop} (h : Hid' p) : p := h
theorem law40_True (w : AWorld) (c : Cert) (day known : Int) (l : List Spec) : CallP Tryd.prog 7 [.d w.d, .d c.d, .d (I day), .d (I known), .d (SL 3 (l.map Spec.d))] (retD [.b true]) := by
  refine exPure_sound (E := envOf Tryd.prog tt Tryd.f7.ntmps) (envOf_ok ttok mixed) Tryd.func7 (by rfl) rfl rfl (Nat.le_of_ble_eq_true rfl) ?_
  have hFew := ref40_Few w l []
  have hle : VLes [.d w.d, .d (SL 3 (l.map Spec.d)), .d nilD] [.d w.d, .d (SL 3 (l.map Spec.d)), .d (SL 1 (([] : List Int).map I))] := ⟨VLe.refl _, VLe.refl _, VLe.d (DLe.nil _ _ _), rfl⟩
  by_cases hs : w.facts.length ≤ 60 ∧ l.length ≤ 20 ∧ ([] : List Int).length ≤ 20
  · rw [decide_eq_true hs] at hFew
    by_cases hcl : c.res.length ≤ 20
    · have h1 := quality_Check w c day known l (by omega) (by omega)
      by_cases hok : specsOk l ∧ (lotM w c.lot day known).ok = true
      · have hday : 0 ≤ day ∧ day < 1024 := by
          have hlt := hok.2
          unfold lotM at hlt
          by_cases h : 0 ≤ day ∧ day < 1024
          · exact h
          · rw [if_neg h] at hlt; cases hlt
        obtain ⟨g1, g2⟩ := certF_true w c.lot day known hday l ⟨[], true, []⟩
        have hck : checkCM w c day known l = (decide (c.good = (l.all (goodC w c.lot day known)) ∧ c.res = resOf w c.lot day known l), 0) := by
          unfold checkCM
          rw [if_pos hok, g1, g2]; simp
        rw [hck] at h1
        clear g1 g2 hck
        dsimp only at h1
        generalize hok2 : decide (c.good = (l.all (goodC w c.lot day known)) ∧ c.res = resOf w c.lot day known l) = okb at h1
        replace hok2 : Hid' (decide (c.good = (l.all (goodC w c.lot day known)) ∧ c.res = resOf w c.lot day known l) = okb) := hok2
        repeat' ((conv => whnf); first | with_reducible refine Dec.t (show true = true from rfl) ?_ | with_reducible refine Dec.t (show false = false from rfl) ?_ | with_reducible refine Dec.f (show ¬ (true = false) by decide) ?_ | with_reducible refine Dec.f (show ¬ (false = true) by decide) ?_ | refine Dec.t (by omega) ?_ | refine Dec.f (by omega) ?_ | refine Dec.split (fun _ => ?_) (fun _ => ?_) | refine Wr.id (by omega) ?_ | refine Chk.mk (by first | omega | exact rfl | (simp only [List.length_map]; omega) | (simp [room]; done) | (simp [room]; omega) | (simp [dropL, room]; done) | (simp [dropL, room]; omega)) ?_ | refine Nam.mk (List.length_map _) ?_ | refine Prep.skip ?_ | refine chk_t (x := D.flat _) (by assumption) ?_ | refine br_mk (fun _ => ?_) (fun _ => ?_) | refine ACall.of (law40_sane) ?_ | refine APCall.of (law40_sane) ?_ | refine ACall.le hle hFew ?_ | refine ACall.of h1 ?_ | fail)
        all_goals (conv => whnf)
        refine ALoop.at (E := envOf Tryd.prog tt Tryd.f7.ntmps) (envOf_ok ttok mixed) (X := Nat × Bool × Bool × List Pt) (fun y => [(51, .d (I y.1)), (13, .d (.b y.2.1)), (14, .d (I y.2.2.2.length)), (15, .d (.b y.2.2.1))]) (fun _ => [])
          (fun y => y.1 ≤ l.length ∧ y.2.2.2.length ≤ y.1 ∧ Hid' (y.2.2.2 = resOf w c.lot day known (l.take y.1)) ∧ Hid' (y.2.1 = (l.take y.1).all (goodC w c.lot day known)) ∧ Hid' (y.2.2.1 = true ↔ y.2.2.2 = c.res.take y.2.2.2.length)) (fun y => l.length - y.1) (0, true, true, []) (by repeat (first | exact trivial | refine And.intro rfl ?_ | refine And.intro (congrArg (fun n => V.d (I n)) (wrap_nat _ (by omega))) ?_)) rfl
          ⟨Nat.zero_le _, Nat.zero_le _, rfl, rfl, by show _ ↔ _; simp⟩ ?_
        rintro ⟨i, g, r, R⟩ ⟨hi, hR, hm1, hm2, hm3⟩
        simp only at hi hR hm1 hm2 hm3
        dsimp only
        by_cases hlt : i < l.length
        · clear hok2
          obtain ⟨y, hy, _⟩ := drop_get hlt
          have hA := facts_At w.facts ⟨8, c.lot, y.test⟩ day known (by omega)
          have hgy : Hid' (goodC w c.lot day known y = match atM w.facts ⟨8, c.lot, y.test⟩ day known with
            | some n => decide (y.lo ≤ n) && decide (n ≤ y.hi)
            | none => false) := rfl
          have hnn : ∀ n, atM w.facts ⟨8, c.lot, y.test⟩ day known = some n → 0 ≤ n := fun n h => atM_nonneg h
          have hsn : Hid' (resOf w c.lot day known (l.take (i + 1)) = R ++ ((atM w.facts ⟨8, c.lot, y.test⟩ day known).map fun n => (⟨y.test, n⟩ : Pt)).toList) := by
            show _ = _
            rw [List.take_add_one, hy, hm1.out]; exact resOf_snoc _ _ _ _ _ _
          have hal : Hid' ((l.take (i + 1)).all (goodC w c.lot day known) = (g && goodC w c.lot day known y)) := by
            show _ = _
            rw [List.take_add_one, hy, hm2.out]; simp
          clear hm1 hm2
          generalize atM w.facts ⟨8, c.lot, y.test⟩ day known = o at hA hgy hnn hsn
          cases o with
          | none =>
            simp only [Option.getD_none, Option.isSome_none] at hA
            repeat' ((conv => whnf); first | with_reducible refine Dec.t (show true = true from rfl) ?_ | with_reducible refine Dec.t (show false = false from rfl) ?_ | with_reducible refine Dec.f (show ¬ (true = false) by decide) ?_ | with_reducible refine Dec.f (show ¬ (false = true) by decide) ?_ | refine Dec.t (by omega) ?_ | refine Dec.f (by omega) ?_ | refine Dec.split (fun _ => ?_) (fun _ => ?_) | refine Wr.id (by omega) ?_ | refine Chk.mk (by first | omega | exact rfl | (simp only [List.length_map]; omega) | (simp [room]; done) | (simp [room]; omega) | (simp [dropL, room]; done) | (simp [dropL, room]; omega)) ?_ | refine Nam.mk (List.length_map _) ?_ | refine Prep.skip ?_ | refine chk_t (x := D.flat _) (by assumption) ?_ | refine br_mk (fun _ => ?_) (fun _ => ?_) | refine nthK_mk (map_get hy) ?_ | refine ACall.of hA ?_ | fail)
            all_goals (conv => whnf)
            refine ⟨(i + 1, false, r, R), Wm.end (by repeat (first | exact trivial | refine And.intro rfl ?_ | refine And.intro (congrArg (fun n => V.d (I n)) (wrap_nat _ (by omega))) ?_)) rfl rfl rfl, ⟨hlt, by simp only; omega, ?_, ?_, hm3⟩, by simp only; omega⟩
            · show _ = _
              rw [hsn.out]; simp
            · show _ = _
              rw [hal.out, hgy.out]; simp
          | some v =>
            simp only [Option.getD_some, Option.isSome_some] at hA
            replace hnn := hnn _ rfl
            have fin : ∀ g' r' : Bool, Hid' (g' = true ↔ g = true ∧ y.lo ≤ v ∧ v ≤ y.hi) → Hid' (r' = true ↔ R ++ [⟨y.test, v⟩] = c.res.take (R.length + 1)) →
                i + 1 ≤ l.length ∧ (R ++ [⟨y.test, v⟩] : List Pt).length ≤ i + 1 ∧ Hid' ((R ++ [⟨y.test, v⟩] : List Pt) = resOf w c.lot day known (l.take (i + 1))) ∧ Hid' (g' = (l.take (i + 1)).all (goodC w c.lot day known)) ∧ Hid' (r' = true ↔ (R ++ [⟨y.test, v⟩] : List Pt) = c.res.take (R ++ [⟨y.test, v⟩] : List Pt).length) := fun g' r' h1 h2 => by
              refine ⟨hlt, by simp only [List.length_append, List.length_singleton]; omega, ?_, ?_, ?_⟩
              · show _ = _
                rw [hsn.out]; rfl
              · show _ = _
                rw [hal.out, hgy.out, Bool.eq_iff_iff, h1.out]; simp
              · show _ ↔ _
                rw [List.length_append]; exact h2.out
            clear hsn hal hgy
            by_cases hz : R.length < c.res.length
            · obtain ⟨z, hz1⟩ : ∃ z, c.res[R.length]? = some z := ⟨_, List.getElem?_eq_getElem hz⟩
              have hts : ∀ r' : Bool, Hid' ((r' = true ↔ r = true ∧ z = ⟨y.test, v⟩) → (r' = true ↔ R ++ [⟨y.test, v⟩] = c.res.take (R.length + 1))) := fun r' h => by
                rw [h, take_snoc hz1]
                exact and_congr_left fun _ => hm3.out
              cases r <;> cases g
              all_goals
                repeat' ((conv => whnf); first | with_reducible refine Dec.t (show true = true from rfl) ?_ | with_reducible refine Dec.t (show false = false from rfl) ?_ | with_reducible refine Dec.f (show ¬ (true = false) by decide) ?_ | with_reducible refine Dec.f (show ¬ (false = true) by decide) ?_ | refine Dec.t (by omega) ?_ | refine Dec.f (by omega) ?_ | refine Dec.split (fun _ => ?_) (fun _ => ?_) | refine Wr.id (by omega) ?_ | refine Chk.mk (by first | omega | exact rfl | (simp only [List.length_map]; omega) | (simp [room]; done) | (simp [room]; omega) | (simp [dropL, room]; done) | (simp [dropL, room]; omega)) ?_ | refine Nam.mk (List.length_map _) ?_ | refine Prep.skip ?_ | refine chk_t (x := D.flat _) (by assumption) ?_ | refine br_mk (fun _ => ?_) (fun _ => ?_) | refine nthK_mk (map_get hy) ?_ | refine nthK_mk (map_get hz1) ?_ | refine Nam.dec (eqPt z ⟨y.test, v⟩) (fun _ => ?_) (fun _ => ?_) | refine ACall.of hA ?_ | fail)
              all_goals (conv => whnf)
              all_goals refine ⟨(i + 1, _, _, R ++ [⟨y.test, v⟩]), Wm.end (by repeat (first | exact trivial | refine And.intro rfl ?_ | refine And.intro (congrArg (fun n => V.d (I n)) (by simp)) ?_)) rfl rfl rfl, fin _ _ ?_ (hts _ ?_), by simp only; omega⟩
              all_goals first | show _ ↔ _ | skip
              all_goals simp only [Bool.false_eq_true, false_and, and_false, and_self, true_and, false_iff, true_iff, not_true_eq_false, not_false_eq_true]
              all_goals first | done | assumption | omega | fail
            · have hts : ∀ r' : Bool, Hid' (r' = false → (r' = true ↔ R ++ [⟨y.test, v⟩] = c.res.take (R.length + 1))) := fun r' h => by
                rw [h]
                exact iff_of_false (by decide) (take_over (by omega))
              cases r <;> cases g
              all_goals
                repeat' ((conv => whnf); first | with_reducible refine Dec.t (show true = true from rfl) ?_ | with_reducible refine Dec.t (show false = false from rfl) ?_ | with_reducible refine Dec.f (show ¬ (true = false) by decide) ?_ | with_reducible refine Dec.f (show ¬ (false = true) by decide) ?_ | refine Dec.t (by omega) ?_ | refine Dec.f (by omega) ?_ | refine Dec.split (fun _ => ?_) (fun _ => ?_) | refine Wr.id (by omega) ?_ | refine Chk.mk (by first | omega | exact rfl | (simp only [List.length_map]; omega) | (simp [room]; done) | (simp [room]; omega) | (simp [dropL, room]; done) | (simp [dropL, room]; omega)) ?_ | refine Nam.mk (List.length_map _) ?_ | refine Prep.skip ?_ | refine chk_t (x := D.flat _) (by assumption) ?_ | refine br_mk (fun _ => ?_) (fun _ => ?_) | refine nthK_mk (map_get hy) ?_ | refine ACall.of hA ?_ | fail)
              all_goals (conv => whnf)
              all_goals refine ⟨(i + 1, _, _, R ++ [⟨y.test, v⟩]), Wm.end (by repeat (first | exact trivial | refine And.intro rfl ?_ | refine And.intro (congrArg (fun n => V.d (I n)) (by simp)) ?_)) rfl rfl rfl, fin _ _ ?_ (hts _ rfl), by simp only; omega⟩
              all_goals first | show _ ↔ _ | skip
              all_goals simp only [Bool.false_eq_true, false_and, and_false, and_self, true_and, false_iff, true_iff, not_true_eq_false, not_false_eq_true]
              all_goals first | done | assumption | omega | fail
        · have : i = l.length := by omega
          subst this
          rw [List.take_length] at hm1 hm2
          have hfin : Hid' (okb = true ↔ (r = true ∧ R.length = c.res.length) ∧ c.good = g) := by
            show _ ↔ _
            rw [← hok2.out, decide_eq_true_iff, hm3.out, hm2.out, ← hm1.out]
            constructor
            · rintro ⟨h1, h2⟩
              rw [h2]; exact ⟨⟨by rw [List.take_length], rfl⟩, h1⟩
            · rintro ⟨⟨h1, h2⟩, h3⟩
              rw [h2, List.take_length] at h1
              exact ⟨h3, h1.symm⟩
          clear hok2 hm1 hm2 hm3
          cases r <;> cases okb
          all_goals
            repeat' ((conv => whnf); first | with_reducible refine Dec.t (show true = true from rfl) ?_ | with_reducible refine Dec.t (show false = false from rfl) ?_ | with_reducible refine Dec.f (show ¬ (true = false) by decide) ?_ | with_reducible refine Dec.f (show ¬ (false = true) by decide) ?_ | refine Dec.t (by omega) ?_ | refine Dec.f (by omega) ?_ | refine Dec.split (fun _ => ?_) (fun _ => ?_) | refine Wr.id (by omega) ?_ | refine Chk.mk (by first | omega | exact rfl | (simp only [List.length_map]; omega) | (simp [room]; done) | (simp [room]; omega) | (simp [dropL, room]; done) | (simp [dropL, room]; omega)) ?_ | refine Nam.mk (List.length_map _) ?_ | refine Prep.skip ?_ | refine chk_t (x := D.flat _) (by assumption) ?_ | refine br_mk (fun _ => ?_) (fun _ => ?_) | fail)
          all_goals (conv => whnf)
          all_goals first | exact DLe.refl _ | exact absurd (hfin.out.1 rfl).1.1 (by decide) | exact absurd (hfin.out.2 ⟨⟨rfl, by omega⟩, by assumption⟩) (by decide) | exact absurd (hfin.out.1 rfl).2 (by assumption) | exact absurd (hfin.out.1 rfl).1.2 (by omega) | fail
      · have hck : checkCM w c day known l = (false, 400) := by unfold checkCM; rw [if_neg hok]
        rw [hck] at h1
        repeat' ((conv => whnf); first | with_reducible refine Dec.t (show true = true from rfl) ?_ | with_reducible refine Dec.t (show false = false from rfl) ?_ | with_reducible refine Dec.f (show ¬ (true = false) by decide) ?_ | with_reducible refine Dec.f (show ¬ (false = true) by decide) ?_ | refine Dec.t (by omega) ?_ | refine Dec.f (by omega) ?_ | refine Dec.split (fun _ => ?_) (fun _ => ?_) | refine Wr.id (by omega) ?_ | refine Chk.mk (by first | omega | exact rfl | (simp only [List.length_map]; omega) | (simp [room]; done) | (simp [room]; omega) | (simp [dropL, room]; done) | (simp [dropL, room]; omega)) ?_ | refine Nam.mk (List.length_map _) ?_ | refine Prep.skip ?_ | refine chk_t (x := D.flat _) (by assumption) ?_ | refine br_mk (fun _ => ?_) (fun _ => ?_) | refine ACall.of (law40_sane) ?_ | refine APCall.of (law40_sane) ?_ | refine ACall.le hle hFew ?_ | refine ACall.of h1 ?_ | fail)
        all_goals (conv => whnf)
        all_goals exact (by repeat (first | exact trivial | exact rfl | exact DLe.refl _ | exact DLe.full _ _ _ | exact DLe.nil _ _ _ | exact VLe.refl _ | refine And.intro ?_ ?_ | refine VLe.d ?_ | refine DLe.agg ?_))
    · repeat' ((conv => whnf); first | with_reducible refine Dec.t (show true = true from rfl) ?_ | with_reducible refine Dec.t (show false = false from rfl) ?_ | with_reducible refine Dec.f (show ¬ (true = false) by decide) ?_ | with_reducible refine Dec.f (show ¬ (false = true) by decide) ?_ | refine Dec.t (by omega) ?_ | refine Dec.f (by omega) ?_ | refine Dec.split (fun _ => ?_) (fun _ => ?_) | refine Wr.id (by omega) ?_ | refine Chk.mk (by first | omega | exact rfl | (simp only [List.length_map]; omega) | (simp [room]; done) | (simp [room]; omega) | (simp [dropL, room]; done) | (simp [dropL, room]; omega)) ?_ | refine Nam.mk (List.length_map _) ?_ | refine Prep.skip ?_ | refine chk_t (x := D.flat _) (by assumption) ?_ | refine br_mk (fun _ => ?_) (fun _ => ?_) | refine ACall.of (law40_sane) ?_ | refine APCall.of (law40_sane) ?_ | refine ACall.le hle hFew ?_ | fail)
      all_goals (conv => whnf)
      all_goals exact (by repeat (first | exact trivial | exact rfl | exact DLe.refl _ | exact DLe.full _ _ _ | exact DLe.nil _ _ _ | exact VLe.refl _ | refine And.intro ?_ ?_ | refine VLe.d ?_ | refine DLe.agg ?_))
  · rw [decide_eq_false hs] at hFew
    repeat' ((conv => whnf); first | with_reducible refine Dec.t (show true = true from rfl) ?_ | with_reducible refine Dec.t (show false = false from rfl) ?_ | with_reducible refine Dec.f (show ¬ (true = false) by decide) ?_ | with_reducible refine Dec.f (show ¬ (false = true) by decide) ?_ | refine Dec.t (by omega) ?_ | refine Dec.f (by omega) ?_ | refine Dec.split (fun _ => ?_) (fun _ => ?_) | refine Wr.id (by omega) ?_ | refine Chk.mk (by first | omega | exact rfl | (simp only [List.length_map]; omega) | (simp [room]; done) | (simp [room]; omega) | (simp [dropL, room]; done) | (simp [dropL, room]; omega)) ?_ | refine Nam.mk (List.length_map _) ?_ | refine Prep.skip ?_ | refine chk_t (x := D.flat _) (by assumption) ?_ | refine br_mk (fun _ => ?_) (fun _ => ?_) | refine ACall.of (law40_sane) ?_ | refine APCall.of (law40_sane) ?_ | refine ACall.le hle hFew ?_ | fail)
    all_goals (conv => whnf)
    all_goals exact (by repeat (first | exact trivial | exact rfl | exact DLe.refl _ | exact DLe.full _ _ _ | exact DLe.nil _ _ _ | exact VLe.refl _ | refine And.intro ?_ ?_ | refine VLe.d ?_ | refine DLe.agg ?_))
end Go.PM

