/- QualityFree, its contract. -/
import Derived.Test.YtoliiomecffacaaDoorL40a
namespace Go.PM
open Go.Proofs
set_option maxRecDepth 10000
set_option maxHeartbeats 8000000

def goodB (w : AWorld) (lot day known : Int) (s : Spec) : Bool := match atM w.facts ⟨8, lot, s.test⟩ day known with
  | some n => decide (s.lo ≤ n) && decide (n ≤ s.hi)
  | none => false
theorem certF_good (w : AWorld) (lot day known : Int) (hd : 0 ≤ day ∧ day < 1024) : ∀ (l : List Spec) (c : CertR), (certF w lot day known l c).good = (c.good && l.all (goodB w lot day known))
  | [], c => by simp [certF]
  | s :: l, c => by
    have h1 := certF_good w lot day known hd l (certStep w lot day known c s)
    unfold certF at h1 ⊢
    rw [List.foldl_cons, h1, List.all_cons]
    have : (certStep w lot day known c s).good = (c.good && goodB w lot day known s) := by
      unfold certStep resultM goodB
      simp only [if_pos hd]
      cases atM w.facts ⟨8, lot, s.test⟩ day known <;> simp
    rw [this, Bool.and_assoc]
/-- A fact that the arithmetic need not see. -/
def Hid (p : Prop) : Prop := p
theorem Hid.out {p : Prop} (h : Hid p) : p := h
theorem inv_step {D : Prop} {g : Spec → Bool} {xs : List Spec} {y : Spec} {b b' : Bool} (hm : b = true ↔ D ∧ ∀ s ∈ xs, g s = true) (h : b' = true ↔ b = true ∧ g y = true) : b' = true ↔ D ∧ ∀ s, s ∈ xs ∨ s = y → g s = true := by
  rw [h, hm]
  constructor
  · rintro ⟨⟨h1, h2⟩, h3⟩
    exact ⟨h1, fun s hs => hs.elim (h2 s) (fun e => e ▸ h3)⟩
  · rintro ⟨h1, h2⟩
    exact ⟨⟨h1, fun s hs => h2 s (.inl hs)⟩, h2 y (.inr rfl)⟩
theorem inv_held {D : Prop} {xs : List Int} {y lot : Int} {b b' : Bool} (hm : b = true ↔ D ∧ lot ∉ xs) (h : b' = true ↔ b = true ∧ ¬ y = lot) : b' = true ↔ D ∧ ¬ (lot ∈ xs ∨ lot = y) := by
  rw [h, hm, and_assoc, not_or]
  exact and_congr_right fun _ => and_congr_right fun _ => not_congr eq_comm
theorem inv_held' {D : Prop} {held : List Int} {i : Nat} {y lot : Int} {b b' : Bool} (hy : held[i]? = some y) (hm : Hid (b = true ↔ D ∧ lot ∉ held.take i)) (h : b' = true ↔ b = true ∧ ¬ y = lot) : Hid (b' = true ↔ D ∧ lot ∉ held.take (i + 1)) := by
  show _ ↔ _
  rw [List.take_add_one, hy, List.mem_append, Option.toList_some, List.mem_singleton]
  exact inv_held hm.out h
theorem inv_step' {D : Prop} {g : Spec → Bool} {l : List Spec} {i : Nat} {y : Spec} {b b' : Bool} (hy : l[i]? = some y) (hm : Hid (b = true ↔ D ∧ ∀ s ∈ l.take i, g s = true)) (h : b' = true ↔ b = true ∧ g y = true) : Hid (b' = true ↔ D ∧ ∀ s ∈ l.take (i + 1), g s = true) := by
  show _ ↔ _
  rw [List.take_add_one, hy]
  simp only [List.mem_append, Option.toList_some, List.mem_singleton]
  exact inv_step hm.out h
/-- A lot that is there is right. -/
theorem findM_right (l : List Fact) (no day known : Int) (h : (findM l no day known).ok = true) : (findM l no day known).l.right := by
  unfold findM at h ⊢
  cases e0 : atM l (lotKey no 0) day known with
  | none => simp only [e0] at h; cases h
  | some x0 => cases e1 : atM l (lotKey no 1) day known with
    | none => simp only [e0, e1] at h; cases h
    | some x1 => cases e2 : atM l (lotKey no 2) day known with
      | none => simp only [e0, e1, e2] at h; cases h
      | some x2 => cases e3 : atM l (lotKey no 3) day known with
        | none => simp only [e0, e1, e2, e3] at h; cases h
        | some x3 => cases e4 : atM l (lotKey no 4) day known with
          | none => simp only [e0, e1, e2, e3, e4] at h; cases h
          | some x4 =>
            simp only [e0, e1, e2, e3, e4] at h ⊢
            have := of_decide_eq_true h
            rw [if_pos this]; exact this
theorem lotM_right (w : AWorld) (no day known : Int) (h : (lotM w no day known).ok = true) : (lotM w no day known).l.right := by
  unfold lotM at h ⊢
  split at h
  · rename_i hd
    rw [if_pos hd]
    split at h
    · rename_i hn
      rw [if_pos hn]; exact findM_right _ _ _ _ h
    · cases h
  · cases h
theorem law40_Free (w : AWorld) (lot day known : Int) (l : List Spec) (held : List Int) : CallP Tryd.prog 5 [.d w.d, .d (I lot), .d (I day), .d (I known), .d (SL 3 (l.map Spec.d)), .d (SL 1 (held.map I))] (retD [.b true]) := by
  refine exPure_sound (E := envOf Tryd.prog tt Tryd.f5.ntmps) (envOf_ok ttok mixed) Tryd.func5 (by rfl) rfl rfl (Nat.le_of_ble_eq_true rfl) ?_
  have hFew := ref40_Few w l held
  by_cases hs : w.facts.length ≤ 60 ∧ l.length ≤ 20 ∧ held.length ≤ 20
  · rw [decide_eq_true hs] at hFew
    have h3 := quality_State w lot day known l held (by omega) (by omega) (by omega)
    have h4 := stock_Lot w lot day known (by omega)
    by_cases hok : specsOk l ∧ lotsOk held
    · have hst : stateM w lot day known l held = (if (lotM w lot day known).ok = true then
      (if (lotM w lot day known).l.state = 3 then 3 else if (lotM w lot day known).l.state = 2 ∨ lot ∈ held then 2
        else if (lotM w lot day known).l.state = 1 ∨ (lotM w lot day known).l.expiry ≤ day ∨ (certF w lot day known l ⟨[], true, []⟩).good = false then 1 else 0,
       (lotM w lot day known).reads ++ (certF w lot day known l ⟨[], true, []⟩).reads, 0)
    else (3, (lotM w lot day known).reads, 0)) := by unfold stateM; rw [if_pos hok]
      by_cases hlt : (lotM w lot day known).ok = true
      · rw [if_pos hlt] at hst
        have hday : 0 ≤ day ∧ day < 1024 := by
          unfold lotM at hlt
          by_cases h : 0 ≤ day ∧ day < 1024
          · exact h
          · rw [if_neg h] at hlt; cases hlt
        have hg := certF_good w lot day known hday l ⟨[], true, []⟩
        simp only [Bool.true_and] at hg
        rw [hst] at h3
        have hrt := lotM_right w lot day known hlt
        generalize lotM w lot day known = q at h3 h4 hlt hrt
        obtain ⟨x, rs, ok⟩ := q
        simp only at hlt h3 hrt
        subst hlt
        replace hrt : 0 ≤ x.state ∧ x.state ≤ 3 := hrt.2.2.2.2
        rw [hg] at h3
        generalize (certF w lot day known l ⟨[], true, []⟩).reads = crs at h3
        simp only [LotR.d] at h4
        by_cases h3s : x.state = 3
        · rw [if_pos h3s] at h3
          repeat' ((conv => whnf); first | with_reducible refine Dec.t (show true = true from rfl) ?_ | with_reducible refine Dec.t (show false = false from rfl) ?_ | with_reducible refine Dec.f (show ¬ (true = false) by decide) ?_ | with_reducible refine Dec.f (show ¬ (false = true) by decide) ?_ | refine Dec.t (by omega) ?_ | refine Dec.f (by omega) ?_ | refine Dec.split (fun _ => ?_) (fun _ => ?_) | refine Wr.id (by omega) ?_ | refine Chk.mk (by first | omega | exact rfl | (simp only [List.length_map]; omega) | (simp [room]; done) | (simp [room]; omega) | (simp [dropL, room]; done) | (simp [dropL, room]; omega)) ?_ | refine Nam.mk (List.length_map _) ?_ | refine Prep.skip ?_ | refine chk_t (x := D.flat _) (by assumption) ?_ | refine br_mk (fun _ => ?_) (fun _ => ?_) | refine ACall.of (law40_sane) ?_ | refine APCall.of (law40_sane) ?_ | refine ACall.of hFew ?_ | refine ACall.of h3 ?_ | refine ACall.of h4 ?_ | fail)
          all_goals (conv => whnf)
          all_goals exact (by repeat (first | exact trivial | exact rfl | exact DLe.refl _ | exact DLe.full _ _ _ | exact DLe.nil _ _ _ | exact VLe.refl _ | refine And.intro ?_ ?_ | refine VLe.d ?_ | refine DLe.agg ?_))
        · rw [if_neg h3s] at h3
          generalize hsv0 : (if x.state = 2 ∨ lot ∈ held then (2 : Int) else if x.state = 1 ∨ x.expiry ≤ day ∨ l.all (goodB w lot day known) = false then 1 else 0) = sv at h3
          have hsv : Hid (¬ sv = 3 ∧ (sv = 0 ↔ ((x.state = 0 ∧ day < x.expiry) ∧ lot ∉ held) ∧ l.all (goodB w lot day known) = true)) := by
            show _ ∧ _
            rw [← hsv0]
            refine ⟨by repeat' split
                       all_goals omega, ?_⟩
            by_cases hh : lot ∈ held <;> cases hga : l.all (goodB w lot day known) <;> simp [hh] <;> (repeat' split) <;> omega
          clear hsv0 hst hg hday
          repeat' ((conv => whnf); first | with_reducible refine Dec.t (show true = true from rfl) ?_ | with_reducible refine Dec.t (show false = false from rfl) ?_ | with_reducible refine Dec.f (show ¬ (true = false) by decide) ?_ | with_reducible refine Dec.f (show ¬ (false = true) by decide) ?_ | refine Dec.t (by omega) ?_ | refine Dec.f (by omega) ?_ | refine Dec.split (fun _ => ?_) (fun _ => ?_) | refine Wr.id (by omega) ?_ | refine Chk.mk (by first | omega | exact rfl | (simp only [List.length_map]; omega) | (simp [room]; done) | (simp [room]; omega) | (simp [dropL, room]; done) | (simp [dropL, room]; omega)) ?_ | refine Nam.mk (List.length_map _) ?_ | refine Prep.skip ?_ | refine chk_t (x := D.flat _) (by assumption) ?_ | refine br_mk (fun _ => ?_) (fun _ => ?_) | refine ACall.of (law40_sane) ?_ | refine APCall.of (law40_sane) ?_ | refine ACall.of hFew ?_ | refine ACall.of h3 ?_ | refine ACall.of h4 ?_ | fail)
          all_goals (conv => whnf)
          all_goals
            refine ALoop.at (E := envOf Tryd.prog tt Tryd.f5.ntmps) (envOf_ok ttok mixed) (X := Nat × Bool) (fun y => [(77, .d (I y.1)), (19, .d (.b y.2))]) (fun _ => []) (fun y => y.1 ≤ held.length ∧ Hid (y.2 = true ↔ (x.state = 0 ∧ day < x.expiry) ∧ lot ∉ held.take y.1)) (fun y => held.length - y.1) (0, _) (by repeat (first | exact trivial | refine And.intro rfl ?_ | refine And.intro (congrArg (fun n => V.d (I n)) (wrap_nat _ (by omega))) ?_)) rfl ⟨Nat.zero_le _, ?_⟩ ?_
            · show _ ↔ _
              simp only [List.take_zero, List.not_mem_nil, not_false_eq_true, and_true]; first | exact iff_of_true trivial (by omega) | exact iff_of_true rfl (by omega) | exact iff_of_false (by decide) (by omega)
            rintro ⟨i, b⟩ ⟨hi, hm⟩
            simp only at hi hm
            dsimp only
            by_cases hlt : i < held.length
            · obtain ⟨y, hy, _⟩ := drop_get hlt
              cases b
              all_goals
                repeat' ((conv => whnf); first | with_reducible refine Dec.t (show true = true from rfl) ?_ | with_reducible refine Dec.t (show false = false from rfl) ?_ | with_reducible refine Dec.f (show ¬ (true = false) by decide) ?_ | with_reducible refine Dec.f (show ¬ (false = true) by decide) ?_ | refine Dec.t (by omega) ?_ | refine Dec.f (by omega) ?_ | refine Dec.split (fun _ => ?_) (fun _ => ?_) | refine Wr.id (by omega) ?_ | refine Chk.mk (by first | omega | exact rfl | (simp only [List.length_map]; omega) | (simp [room]; done) | (simp [room]; omega) | (simp [dropL, room]; done) | (simp [dropL, room]; omega)) ?_ | refine Nam.mk (List.length_map _) ?_ | refine Prep.skip ?_ | refine chk_t (x := D.flat _) (by assumption) ?_ | refine br_mk (fun _ => ?_) (fun _ => ?_) | refine nthK_mk (map_get hy) ?_ | fail)
              all_goals (conv => whnf)
              all_goals refine ⟨(i + 1, _), Wm.end (by repeat (first | exact trivial | refine And.intro rfl ?_ | refine And.intro (congrArg (fun n => V.d (I n)) (wrap_nat _ (by omega))) ?_)) rfl rfl rfl, ⟨hlt, ?_⟩, by omega⟩
              all_goals refine inv_held' hy hm ?_
              all_goals simp only [Bool.false_eq_true, false_and, and_false, and_self, true_and, false_iff, true_iff, not_true_eq_false, not_false_eq_true, Bool.not_true, Bool.not_false, Decidable.not_not]
              all_goals first | done | assumption | omega | fail
            · have : i = held.length := by omega
              subst this
              rw [List.take_length] at hm
              repeat' ((conv => whnf); first | with_reducible refine Dec.t (show true = true from rfl) ?_ | with_reducible refine Dec.t (show false = false from rfl) ?_ | with_reducible refine Dec.f (show ¬ (true = false) by decide) ?_ | with_reducible refine Dec.f (show ¬ (false = true) by decide) ?_ | refine Dec.t (by omega) ?_ | refine Dec.f (by omega) ?_ | refine Dec.split (fun _ => ?_) (fun _ => ?_) | refine Wr.id (by omega) ?_ | refine Chk.mk (by first | omega | exact rfl | (simp only [List.length_map]; omega) | (simp [room]; done) | (simp [room]; omega) | (simp [dropL, room]; done) | (simp [dropL, room]; omega)) ?_ | refine Nam.mk (List.length_map _) ?_ | refine Prep.skip ?_ | refine chk_t (x := D.flat _) (by assumption) ?_ | refine br_mk (fun _ => ?_) (fun _ => ?_) | fail)
              all_goals (conv => whnf)
              all_goals
                refine ALoop.at (E := envOf Tryd.prog tt Tryd.f5.ntmps) (envOf_ok ttok mixed) (X := Nat × Bool) (fun y => [(90, .d (I y.1)), (19, .d (.b y.2))]) (fun _ => []) (fun y => y.1 ≤ l.length ∧ Hid (y.2 = true ↔ ((x.state = 0 ∧ day < x.expiry) ∧ lot ∉ held) ∧ ∀ s ∈ l.take y.1, goodB w lot day known s = true)) (fun y => l.length - y.1) (0, b) (by repeat (first | exact trivial | refine And.intro rfl ?_ | refine And.intro (congrArg (fun n => V.d (I n)) (wrap_nat _ (by omega))) ?_)) rfl ⟨Nat.zero_le _, ?_⟩ ?_
                · show _ ↔ _
                  simp only [List.take_zero, List.not_mem_nil, false_imp_iff, implies_true, and_true]; exact hm.out
                clear hm
                rintro ⟨i, b⟩ ⟨hi, hm⟩
                simp only at hi hm
                dsimp only
                by_cases hlt : i < l.length
                · clear hsv
                  obtain ⟨y, hy, _⟩ := drop_get hlt
                  have hA := facts_At w.facts ⟨8, lot, y.test⟩ day known (by omega)
                  have hgy : Hid (goodB w lot day known y = match atM w.facts ⟨8, lot, y.test⟩ day known with
                    | some n => decide (y.lo ≤ n) && decide (n ≤ y.hi)
                    | none => false) := rfl
                  have hnn : ∀ n, atM w.facts ⟨8, lot, y.test⟩ day known = some n → 0 ≤ n := fun n h => atM_nonneg h
                  generalize atM w.facts ⟨8, lot, y.test⟩ day known = o at hA hgy hnn
                  cases o
                  all_goals cases b
                  all_goals simp only [Option.getD_none, Option.getD_some, Option.isSome_none, Option.isSome_some] at hA
                  all_goals try replace hnn := hnn _ rfl
                  all_goals
                    repeat' ((conv => whnf); first | with_reducible refine Dec.t (show true = true from rfl) ?_ | with_reducible refine Dec.t (show false = false from rfl) ?_ | with_reducible refine Dec.f (show ¬ (true = false) by decide) ?_ | with_reducible refine Dec.f (show ¬ (false = true) by decide) ?_ | refine Dec.t (by omega) ?_ | refine Dec.f (by omega) ?_ | refine Dec.split (fun _ => ?_) (fun _ => ?_) | refine Wr.id (by omega) ?_ | refine Chk.mk (by first | omega | exact rfl | (simp only [List.length_map]; omega) | (simp [room]; done) | (simp [room]; omega) | (simp [dropL, room]; done) | (simp [dropL, room]; omega)) ?_ | refine Nam.mk (List.length_map _) ?_ | refine Prep.skip ?_ | refine chk_t (x := D.flat _) (by assumption) ?_ | refine br_mk (fun _ => ?_) (fun _ => ?_) | refine nthK_mk (map_get hy) ?_ | refine ACall.of hA ?_ | fail)
                  all_goals (conv => whnf)
                  all_goals refine ⟨(i + 1, _), Wm.end (by repeat (first | exact trivial | refine And.intro rfl ?_ | refine And.intro (congrArg (fun n => V.d (I n)) (wrap_nat _ (by omega))) ?_)) rfl rfl rfl, ⟨hlt, ?_⟩, by omega⟩
                  all_goals refine inv_step' hy hm ?_
                  all_goals simp only [hgy.out, Bool.and_eq_true, decide_eq_true_eq, Bool.false_eq_true, false_and, and_false, and_self, true_and, false_iff, true_iff, not_true_eq_false, not_false_eq_true, Bool.not_true, Bool.not_false]
                  all_goals first | done | omega | fail
                · have : i = l.length := by omega
                  subst this
                  rw [List.take_length] at hm
                  have hall : (∀ s ∈ l, goodB w lot day known s = true) ↔ l.all (goodB w lot day known) = true := by simp
                  rw [hall] at hm
                  have hfin : Hid (¬ sv = 3 ∧ (sv = 0 ↔ b = true)) := by
                    show _ ∧ _
                    exact ⟨hsv.out.1, by rw [hsv.out.2, hm.out]⟩
                  clear hm hsv hall
                  cases b
                  all_goals
                    repeat' ((conv => whnf); first | with_reducible refine Dec.t (show true = true from rfl) ?_ | with_reducible refine Dec.t (show false = false from rfl) ?_ | with_reducible refine Dec.f (show ¬ (true = false) by decide) ?_ | with_reducible refine Dec.f (show ¬ (false = true) by decide) ?_ | refine Dec.t (by omega) ?_ | refine Dec.f (by omega) ?_ | refine Dec.split (fun _ => ?_) (fun _ => ?_) | refine Wr.id (by omega) ?_ | refine Chk.mk (by first | omega | exact rfl | (simp only [List.length_map]; omega) | (simp [room]; done) | (simp [room]; omega) | (simp [dropL, room]; done) | (simp [dropL, room]; omega)) ?_ | refine Nam.mk (List.length_map _) ?_ | refine Prep.skip ?_ | refine chk_t (x := D.flat _) (by assumption) ?_ | refine br_mk (fun _ => ?_) (fun _ => ?_) | fail)
                  all_goals (conv => whnf)
                  all_goals first | exact DLe.refl _ | (exfalso; have hf := hfin.out; simp at hf; omega) | fail
      · rw [if_neg hlt] at hst
        rw [hst] at h3
        generalize lotM w lot day known = q at h3 h4 hlt
        obtain ⟨x, rs, ok⟩ := q
        simp only at hlt h3
        have hlt : ok = false := by simpa using hlt
        subst hlt
        simp only [LotR.d] at h4
        repeat' ((conv => whnf); first | with_reducible refine Dec.t (show true = true from rfl) ?_ | with_reducible refine Dec.t (show false = false from rfl) ?_ | with_reducible refine Dec.f (show ¬ (true = false) by decide) ?_ | with_reducible refine Dec.f (show ¬ (false = true) by decide) ?_ | refine Dec.t (by omega) ?_ | refine Dec.f (by omega) ?_ | refine Dec.split (fun _ => ?_) (fun _ => ?_) | refine Wr.id (by omega) ?_ | refine Chk.mk (by first | omega | exact rfl | (simp only [List.length_map]; omega) | (simp [room]; done) | (simp [room]; omega) | (simp [dropL, room]; done) | (simp [dropL, room]; omega)) ?_ | refine Nam.mk (List.length_map _) ?_ | refine Prep.skip ?_ | refine chk_t (x := D.flat _) (by assumption) ?_ | refine br_mk (fun _ => ?_) (fun _ => ?_) | refine ACall.of (law40_sane) ?_ | refine APCall.of (law40_sane) ?_ | refine ACall.of hFew ?_ | refine ACall.of h3 ?_ | refine ACall.of h4 ?_ | fail)
        all_goals (conv => whnf)
        all_goals exact (by repeat (first | exact trivial | exact rfl | exact DLe.refl _ | exact DLe.full _ _ _ | exact DLe.nil _ _ _ | exact VLe.refl _ | refine And.intro ?_ ?_ | refine VLe.d ?_ | refine DLe.agg ?_))
    · have hst : stateM w lot day known l held = (0, [], 400) := by unfold stateM; rw [if_neg hok]
      rw [hst] at h3
      dsimp only at h3
      repeat' ((conv => whnf); first | with_reducible refine Dec.t (show true = true from rfl) ?_ | with_reducible refine Dec.t (show false = false from rfl) ?_ | with_reducible refine Dec.f (show ¬ (true = false) by decide) ?_ | with_reducible refine Dec.f (show ¬ (false = true) by decide) ?_ | refine Dec.t (by omega) ?_ | refine Dec.f (by omega) ?_ | refine Dec.split (fun _ => ?_) (fun _ => ?_) | refine Wr.id (by omega) ?_ | refine Chk.mk (by first | omega | exact rfl | (simp only [List.length_map]; omega) | (simp [room]; done) | (simp [room]; omega) | (simp [dropL, room]; done) | (simp [dropL, room]; omega)) ?_ | refine Nam.mk (List.length_map _) ?_ | refine Prep.skip ?_ | refine chk_t (x := D.flat _) (by assumption) ?_ | refine br_mk (fun _ => ?_) (fun _ => ?_) | refine ACall.of (law40_sane) ?_ | refine APCall.of (law40_sane) ?_ | refine ACall.of hFew ?_ | refine ACall.of h3 ?_ | fail)
      all_goals (conv => whnf)
      all_goals exact (by repeat (first | exact trivial | exact rfl | exact DLe.refl _ | exact DLe.full _ _ _ | exact DLe.nil _ _ _ | exact VLe.refl _ | refine And.intro ?_ ?_ | refine VLe.d ?_ | refine DLe.agg ?_))
  · rw [decide_eq_false hs] at hFew
    repeat' ((conv => whnf); first | with_reducible refine Dec.t (show true = true from rfl) ?_ | with_reducible refine Dec.t (show false = false from rfl) ?_ | with_reducible refine Dec.f (show ¬ (true = false) by decide) ?_ | with_reducible refine Dec.f (show ¬ (false = true) by decide) ?_ | refine Dec.t (by omega) ?_ | refine Dec.f (by omega) ?_ | refine Dec.split (fun _ => ?_) (fun _ => ?_) | refine Wr.id (by omega) ?_ | refine Chk.mk (by first | omega | exact rfl | (simp only [List.length_map]; omega) | (simp [room]; done) | (simp [room]; omega) | (simp [dropL, room]; done) | (simp [dropL, room]; omega)) ?_ | refine Nam.mk (List.length_map _) ?_ | refine Prep.skip ?_ | refine chk_t (x := D.flat _) (by assumption) ?_ | refine br_mk (fun _ => ?_) (fun _ => ?_) | refine ACall.of (law40_sane) ?_ | refine APCall.of (law40_sane) ?_ | refine ACall.of hFew ?_ | fail)
    all_goals (conv => whnf)
    all_goals exact (by repeat (first | exact trivial | exact rfl | exact DLe.refl _ | exact DLe.full _ _ _ | exact DLe.nil _ _ _ | exact VLe.refl _ | refine And.intro ?_ ?_ | refine VLe.d ?_ | refine DLe.agg ?_))
end Go.PM

