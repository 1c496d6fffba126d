/- The law ClassesClasses, its contract. -/
import Derived.Test.YtbifaidepiejeaaL29b
import Derived.Test.YtbifaidepiejeaaPure29
namespace Go.PM
open Go.Proofs
set_option maxRecDepth 10000
set_option maxHeartbeats 1000000

structure XS where
  i : Nat
  ds : List D
theorem law29_Classes (s : List Supply) (fits : List (List Bool)) (hl : fits.length < 2 ^ 63) : CallP Try.prog 7 [.d (SL 6 (s.map Supply.d)), .d (SL 1 (fits.map rowD))] (retD [.b true]) := by
  refine exPure_sound (E := envOf Try.prog tt Try.f7.ntmps) (envOf_ok ttok mixed) Try.func7 (by rfl) rfl rfl (Nat.le_of_ble_eq_true rfl) ?_
  by_cases hs : s.length ≤ 12
  · by_cases hF : (∀ r ∈ fits, r.length ≤ 12) ∧ fits.length ≤ 12
    · obtain ⟨h1, h2⟩ := hF
      have hr : ∀ r ∈ fits, r.length < 2 ^ 20 := fun r hr => by have := h1 r hr; omega
      have hM := classes_Merge s fits (by omega) (by omega) hr
      by_cases hok : mergeOk s fits
      · have g := merge_good s fits hok
        have hag := merge_again s fits hok
        have hln := mergeM_len s fits
        have he : (mergeM s fits).2 = 0 := by unfold mergeM; rw [if_pos hok]
        have hfo : fits.length = s.length ∧ ∀ r ∈ fits, r.length = (fits.headD []).length := ⟨hok.2.1, fun r hr => by
          obtain ⟨i, hi⟩ := List.mem_iff_getElem?.1 hr
          have hil : i < s.length := by rw [← hok.2.1]; exact (List.getElem?_eq_some_iff.1 hi).1
          exact (hok.2.2 (s[i], r) (List.mem_iff_getElem?.2 ⟨i, by simp [List.getElem?_zip_eq_some, hi, hil]⟩)).2.1⟩
        generalize mergeM s fits = mm at hM g hag hln he
        obtain ⟨⟨xs, ys, of⟩, e⟩ := mm
        simp only [mergeD] at hM g hag hln he
        subst he
        obtain ⟨l1, l2, l3, l4⟩ := hln
        have hxy := g.xy
        have hofl := g.ofl
        simp only at hxy hofl
        repeat' ((conv => whnf); first | with_reducible refine Dec.t (show true = true from rfl) ?_ | with_reducible refine Dec.t (show false = false from rfl) ?_ | with_reducible refine Dec.f (show ¬ (true = false) by decide) ?_ | with_reducible refine Dec.f (show ¬ (false = true) by decide) ?_ | refine Dec.t (by omega) ?_ | refine Dec.f (by omega) ?_ | refine Dec.split (fun _ => ?_) (fun _ => ?_) | refine Wr.id (by omega) ?_ | refine Chk.mk (by first | omega | exact rfl | (simp only [List.length_map]; omega) | (simp [room]; done) | (simp [room]; omega)) ?_ | refine Nam.mk (List.length_map _) ?_ | refine Prep.skip ?_ | refine chk_t (x := D.flat _) (by assumption) ?_ | refine br_mk (fun _ => ?_) (fun _ => ?_) | refine ACall.of law29_sane ?_ | refine ACall.ofB (ref29_FewTable fits hl) (fun _ => ?_) (fun h => absurd ⟨h1, h2⟩ (of_decide_eq_false h)) | refine ACall.of hM ?_ | refine ACall.ofB (law29_formed s fits (by omega)) (fun _ => ?_) (fun h => absurd hfo (of_decide_eq_false h)) | fail)
        all_goals (conv => whnf)
        have hamt : ∀ x ∈ s, 0 ≤ x.amount ∧ x.amount ≤ 1048576 := fun x hx => by
          obtain ⟨i, hi⟩ := List.mem_iff_getElem?.1 hx
          have hil : i < fits.length := by rw [hok.2.1]; exact (List.getElem?_eq_some_iff.1 hi).1
          exact (hok.2.2 (x, fits[i]) (List.mem_iff_getElem?.2 ⟨i, by simp [List.getElem?_zip_eq_some, hi, hil]⟩)).1
        refine ALoop.at (E := envOf Try.prog tt Try.f7.ntmps) (envOf_ok ttok mixed) (X := XS) (fun x => [(78, .d (I x.i))]) (fun x => [(0, .row 0 1 false x.ds)])
          (fun x => x.i ≤ s.length ∧ ∃ sm, x.ds = sm.map I ∧ sm = sumL (List.replicate xs.length 0) (of.take x.i) ((s.map Supply.amount).take x.i) ∧ ∀ v ∈ sm, 0 ≤ v ∧ v ≤ x.i * 1048576)
          (fun x => s.length - x.i) ⟨0, List.replicate xs.length (I 0)⟩ (by repeat (first | exact trivial | refine And.intro rfl ?_ | refine And.intro (congrArg (fun n => V.d (I n)) (wrap_nat _ (by omega))) ?_)) rfl ⟨Nat.zero_le _, List.replicate xs.length 0, List.map_replicate.symm, by simp [sumL], by simp⟩ ?_
        rintro ⟨i, ds⟩ ⟨hi, sm, e1, e2, e3⟩
        simp only at hi e1 e2 e3
        subst e1
        have hsl : sm.length = xs.length := by rw [e2, sumL_len]; simp
        dsimp only
        by_cases hlt : i < s.length
        · obtain ⟨x, hx, _⟩ := drop_get hlt
          obtain ⟨k, hk, _⟩ := drop_get (l := of) (i := i) (by omega)
          obtain ⟨r, hr', _⟩ := drop_get (l := fits) (i := i) (by omega)
          obtain ⟨k0, k1, k2⟩ := g.row i k r hk hr'
          simp only at k1 k2
          have ha := hamt x (List.mem_of_getElem? hx)
          have hv : sm[k.toNat]? = some (sm[k.toNat]'(by omega)) := List.getElem?_eq_getElem (by omega)
          generalize sm[k.toNat]'(by omega) = v at hv
          have hvb := e3 v (List.mem_of_getElem? hv)
          have hv' : (sm.map I)[0 + k.toNat]? = some (I v) := by simp [hv]
          have hrl := h1 r (List.mem_of_getElem? hr')
          repeat' ((conv => whnf); first | with_reducible refine Dec.t (show true = true from rfl) ?_ | with_reducible refine Dec.t (show false = false from rfl) ?_ | with_reducible refine Dec.f (show ¬ (true = false) by decide) ?_ | with_reducible refine Dec.f (show ¬ (false = true) by decide) ?_ | refine Dec.t (by omega) ?_ | refine Dec.f (by omega) ?_ | refine Dec.split (fun _ => ?_) (fun _ => ?_) | refine Wr.id (by omega) ?_ | refine Chk.mk (by first | omega | exact rfl | (simp only [List.length_map]; omega) | (simp [room]; done) | (simp [room]; omega)) ?_ | refine Nam.mk (List.length_map _) ?_ | refine Prep.skip ?_ | refine chk_t (x := D.flat _) (by assumption) ?_ | refine br_mk (fun _ => ?_) (fun _ => ?_) | refine nthK_mk (map_get hx) ?_ | refine nthK_mk (map_get hk) ?_ | refine nthK_mk (map_get hr') ?_ | refine nthK_mk (x := rowD r) (by rw [List.getElem?_map, k2]; rfl) ?_ | refine nthK_mk hv' ?_ | refine APCall.ofB (ref29_SameRow r r (by omega)) (fun _ => ?_) (fun h => absurd rfl (of_decide_eq_false h)) | refine setK_map (f := I) (x := v) (by simpa using hv) rfl ?_ | fail)
          all_goals (conv => whnf)
          refine ⟨⟨i + 1, (sm.set (0 + k.toNat) (v + x.amount)).map I⟩, Wm.end (by repeat (first | exact trivial | refine And.intro rfl ?_ | refine And.intro (congrArg (fun n => V.d (I n)) (wrap_nat _ (by omega))) ?_)) rfl rfl rfl, ⟨hlt, _, rfl, ?_, ?_⟩, by simp only; omega⟩
          · rw [Nat.zero_add, List.take_add_one, List.take_add_one, hk, List.getElem?_map, hx]
            simp only [Option.map_some, Option.toList_some]
            rw [sumL_snoc _ _ _ _ _ (by simp; omega), ← e2, addAt, modify_set hv]
          · intro z hz
            rcases List.mem_or_eq_of_mem_set hz with hz | rfl
            · have := e3 z hz; simp only; omega
            · simp only; omega
        · have : i = s.length := by omega
          subst this
          rw [List.take_of_length_le (by omega), List.take_of_length_le (by simp), ← g.sum] at e2
          simp only at e2
          subst e2
          clear hsl e3 hi hlt
          repeat' ((conv => whnf); first | with_reducible refine Dec.t (show true = true from rfl) ?_ | with_reducible refine Dec.t (show false = false from rfl) ?_ | with_reducible refine Dec.f (show ¬ (true = false) by decide) ?_ | with_reducible refine Dec.f (show ¬ (false = true) by decide) ?_ | refine Dec.t (by omega) ?_ | refine Dec.f (by omega) ?_ | refine Dec.split (fun _ => ?_) (fun _ => ?_) | refine Wr.id (by omega) ?_ | refine Chk.mk (by first | omega | exact rfl | (simp only [List.length_map]; omega) | (simp [room]; done) | (simp [room]; omega)) ?_ | refine Nam.mk (List.length_map _) ?_ | refine Prep.skip ?_ | refine chk_t (x := D.flat _) (by assumption) ?_ | refine br_mk (fun _ => ?_) (fun _ => ?_) | fail)
          all_goals (conv => whnf)
          refine ALoop.at (E := envOf Try.prog tt Try.f7.ntmps) (envOf_ok ttok mixed) (X := Nat) (fun x => [(117, .d (I x))]) (fun _ => []) (fun x => x ≤ xs.length) (fun x => xs.length - x) 0 (by repeat (first | exact trivial | refine And.intro rfl ?_ | refine And.intro (congrArg (fun n => V.d (I n)) (wrap_nat _ (by omega))) ?_)) rfl (Nat.zero_le _) ?_
          intro k hk
          by_cases hkl : k < xs.length
          · obtain ⟨x, hx, _⟩ := drop_get hkl
            obtain ⟨y, hy, _⟩ := drop_get (l := ys) (i := k) (by omega)
            have hv' : ((xs.map Supply.amount).map I)[0 + ((k : Nat) : Int).toNat]? = some (I x.amount) := by simp [hx]
            repeat' ((conv => whnf); first | with_reducible refine Dec.t (show true = true from rfl) ?_ | with_reducible refine Dec.t (show false = false from rfl) ?_ | with_reducible refine Dec.f (show ¬ (true = false) by decide) ?_ | with_reducible refine Dec.f (show ¬ (false = true) by decide) ?_ | refine Dec.t (by omega) ?_ | refine Dec.f (by omega) ?_ | refine Dec.split (fun _ => ?_) (fun _ => ?_) | refine Wr.id (by omega) ?_ | refine Chk.mk (by first | omega | exact rfl | (simp only [List.length_map]; omega) | (simp [room]; done) | (simp [room]; omega)) ?_ | refine Nam.mk (List.length_map _) ?_ | refine Prep.skip ?_ | refine chk_t (x := D.flat _) (by assumption) ?_ | refine br_mk (fun _ => ?_) (fun _ => ?_) | refine nthK_mk (map_get hx) ?_ | refine nthK_mk hv' ?_ | refine Nam.mk (y := k) (by simp; omega) ?_ | fail)
            all_goals (conv => whnf)
            refine ALoop.at (E := envOf Try.prog tt Try.f7.ntmps) (envOf_ok ttok mixed) (X := Nat) (fun x => [(134, .d (I x))]) (fun _ => []) (fun x => x ≤ k) (fun x => k - x) 0 (by repeat (first | exact trivial | refine And.intro rfl ?_ | refine And.intro (congrArg (fun n => V.d (I n)) (wrap_nat _ (by omega))) ?_)) rfl (Nat.zero_le _) ?_
            intro j hj
            by_cases hjl : j < k
            · obtain ⟨z, hz, _⟩ := drop_get (l := ys) (i := j) (by omega)
              have hz' : (List.take ((k : Nat) : Int).toNat (ys.map rowD))[((j : Nat) : Int).toNat]? = some (rowD z) := by
                rw [Int.toNat_natCast, Int.toNat_natCast, List.getElem?_take, if_pos hjl]; simp [hz]
              have hne : ¬ z = y := fun e => by
                subst e
                have h1 := (List.getElem?_eq_some_iff.1 hz).2
                have h2 := (List.getElem?_eq_some_iff.1 hy).2
                have := (List.getElem_inj (h₀ := (List.getElem?_eq_some_iff.1 hz).1) (h₁ := (List.getElem?_eq_some_iff.1 hy).1) g.nd).1 (by rw [h1, h2])
                omega
              have hzl := h1 z (l4 z (List.mem_of_getElem? hz))
              repeat' ((conv => whnf); first | with_reducible refine Dec.t (show true = true from rfl) ?_ | with_reducible refine Dec.t (show false = false from rfl) ?_ | with_reducible refine Dec.f (show ¬ (true = false) by decide) ?_ | with_reducible refine Dec.f (show ¬ (false = true) by decide) ?_ | refine Dec.t (by omega) ?_ | refine Dec.f (by omega) ?_ | refine Dec.split (fun _ => ?_) (fun _ => ?_) | refine Wr.id (by omega) ?_ | refine Chk.mk (by first | omega | exact rfl | (simp only [List.length_map]; omega) | (simp [room]; done) | (simp [room]; omega)) ?_ | refine Nam.mk (List.length_map _) ?_ | refine Prep.skip ?_ | refine chk_t (x := D.flat _) (by assumption) ?_ | refine br_mk (fun _ => ?_) (fun _ => ?_) | refine nthK_mk hz' ?_ | refine nthK_mk (map_get hy) ?_ | refine APCall.ofB (ref29_SameRow z y (by omega)) (fun h => absurd (of_decide_eq_true h) hne) (fun _ => ?_) | refine ACall.ofB (ref29_SameRow z y (by omega)) (fun h => absurd (of_decide_eq_true h) hne) (fun _ => ?_) | fail)
              all_goals (conv => whnf)
              exact ⟨j + 1, Wm.end (by repeat (first | exact trivial | refine And.intro rfl ?_ | refine And.intro (congrArg (fun n => V.d (I n)) (wrap_nat _ (by omega))) ?_)) rfl rfl rfl, hjl, by omega⟩
            · have : j = k := by omega
              subst this
              repeat' ((conv => whnf); first | with_reducible refine Dec.t (show true = true from rfl) ?_ | with_reducible refine Dec.t (show false = false from rfl) ?_ | with_reducible refine Dec.f (show ¬ (true = false) by decide) ?_ | with_reducible refine Dec.f (show ¬ (false = true) by decide) ?_ | refine Dec.t (by omega) ?_ | refine Dec.f (by omega) ?_ | refine Dec.split (fun _ => ?_) (fun _ => ?_) | refine Wr.id (by omega) ?_ | refine Chk.mk (by first | omega | exact rfl | (simp only [List.length_map]; omega) | (simp [room]; done) | (simp [room]; omega)) ?_ | refine Nam.mk (List.length_map _) ?_ | refine Prep.skip ?_ | refine chk_t (x := D.flat _) (by assumption) ?_ | refine br_mk (fun _ => ?_) (fun _ => ?_) | fail)
              all_goals (conv => whnf)
              exact ⟨j + 1, Wm.end (by repeat (first | exact trivial | refine And.intro rfl ?_ | refine And.intro (congrArg (fun n => V.d (I n)) (wrap_nat _ (by omega))) ?_)) rfl rfl rfl, hkl, by omega⟩
          · have : k = xs.length := by omega
            subst this
            clear hk hkl
            repeat' ((conv => whnf); first | with_reducible refine Dec.t (show true = true from rfl) ?_ | with_reducible refine Dec.t (show false = false from rfl) ?_ | with_reducible refine Dec.f (show ¬ (true = false) by decide) ?_ | with_reducible refine Dec.f (show ¬ (false = true) by decide) ?_ | refine Dec.t (by omega) ?_ | refine Dec.f (by omega) ?_ | refine Dec.split (fun _ => ?_) (fun _ => ?_) | refine Wr.id (by omega) ?_ | refine Chk.mk (by first | omega | exact rfl | (simp only [List.length_map]; omega) | (simp [room]; done) | (simp [room]; omega)) ?_ | refine Nam.mk (List.length_map _) ?_ | refine Prep.skip ?_ | refine chk_t (x := D.flat _) (by assumption) ?_ | refine br_mk (fun _ => ?_) (fun _ => ?_) | fail)
            all_goals (conv => whnf)
            refine ALoop.at (E := envOf Try.prog tt Try.f7.ntmps) (envOf_ok ttok mixed) (X := Nat) (fun x => [(148, .d (I x))]) (fun _ => []) (fun i => i ≤ xs.length ∧ ∀ x ∈ xs.take i, x.amount ≤ 1048576) (fun x => xs.length - x) 0 (by repeat (first | exact trivial | refine And.intro rfl ?_ | refine And.intro (congrArg (fun n => V.d (I n)) (wrap_nat _ (by omega))) ?_)) rfl ⟨Nat.zero_le _, by simp⟩ ?_
            rintro k ⟨hk, hm⟩
            by_cases hkl : k < xs.length
            · obtain ⟨x, hx, _⟩ := drop_get hkl
              repeat' ((conv => whnf); first | with_reducible refine Dec.t (show true = true from rfl) ?_ | with_reducible refine Dec.t (show false = false from rfl) ?_ | with_reducible refine Dec.f (show ¬ (true = false) by decide) ?_ | with_reducible refine Dec.f (show ¬ (false = true) by decide) ?_ | refine Dec.t (by omega) ?_ | refine Dec.f (by omega) ?_ | refine Dec.split (fun _ => ?_) (fun _ => ?_) | refine Wr.id (by omega) ?_ | refine Chk.mk (by first | omega | exact rfl | (simp only [List.length_map]; omega) | (simp [room]; done) | (simp [room]; omega)) ?_ | refine Nam.mk (List.length_map _) ?_ | refine Prep.skip ?_ | refine chk_t (x := D.flat _) (by assumption) ?_ | refine br_mk (fun _ => ?_) (fun _ => ?_) | refine nthK_mk (map_get hx) ?_ | fail)
              all_goals (conv => whnf)
              · exact (by repeat (first | exact trivial | exact rfl | exact DLe.refl _ | exact DLe.full _ _ _ | exact DLe.nil _ _ _ | exact VLe.refl _ | refine And.intro ?_ ?_ | refine VLe.d ?_ | refine DLe.agg ?_))
              · refine ⟨k + 1, Wm.end (by repeat (first | exact trivial | refine And.intro rfl ?_ | refine And.intro (congrArg (fun n => V.d (I n)) (wrap_nat _ (by omega))) ?_)) rfl rfl rfl, ⟨hkl, fun z hz => ?_⟩, by omega⟩
                rw [List.take_add_one, hx, List.mem_append] at hz
                rcases hz with hz | hz
                · exact hm z hz
                · simp at hz; subst hz; omega
            · have : k = xs.length := by omega
              subst this
              rw [List.take_length] at hm
              have hag := hag hm
              have hsm := merge_same xs ys hag g.nd
              have hM2 := classes_Merge xs ys (by omega) (by omega) (fun r hr => by have := h1 r (l4 r hr); omega)
              rw [hsm] at hM2
              simp only [mergeD] at hM2
              clear hk hkl hm hag
              repeat' ((conv => whnf); first | with_reducible refine Dec.t (show true = true from rfl) ?_ | with_reducible refine Dec.t (show false = false from rfl) ?_ | with_reducible refine Dec.f (show ¬ (true = false) by decide) ?_ | with_reducible refine Dec.f (show ¬ (false = true) by decide) ?_ | refine Dec.t (by omega) ?_ | refine Dec.f (by omega) ?_ | refine Dec.split (fun _ => ?_) (fun _ => ?_) | refine Wr.id (by omega) ?_ | refine Chk.mk (by first | omega | exact rfl | (simp only [List.length_map]; omega) | (simp [room]; done) | (simp [room]; omega)) ?_ | refine Nam.mk (List.length_map _) ?_ | refine Prep.skip ?_ | refine chk_t (x := D.flat _) (by assumption) ?_ | refine br_mk (fun _ => ?_) (fun _ => ?_) | refine ACall.of hM2 ?_ | fail)
              all_goals (conv => whnf)
              all_goals first | (rename_i h; exact absurd (by simp) h) | skip
              refine ALoop.at (E := envOf Try.prog tt Try.f7.ntmps) (envOf_ok ttok mixed) (X := Nat) (fun x => [(175, .d (I x))]) (fun _ => []) (fun i => i ≤ xs.length) (fun x => xs.length - x) 0 (by repeat (first | exact trivial | refine And.intro rfl ?_ | refine And.intro (congrArg (fun n => V.d (I n)) (wrap_nat _ (by omega))) ?_)) rfl (Nat.zero_le _) ?_
              intro k hk
              have hln : ((List.range xs.length).map fun (i : Nat) => ((i : Nat) : Int)).length = xs.length := by simp
              by_cases hkl : k < xs.length
              · have hkk : (((List.range xs.length).map fun (i : Nat) => ((i : Nat) : Int)).map I)[((k : Nat) : Int).toNat]? = some (I k) := by simp [hkl]
                repeat' ((conv => whnf); first | with_reducible refine Dec.t (show true = true from rfl) ?_ | with_reducible refine Dec.t (show false = false from rfl) ?_ | with_reducible refine Dec.f (show ¬ (true = false) by decide) ?_ | with_reducible refine Dec.f (show ¬ (false = true) by decide) ?_ | refine Dec.t (by omega) ?_ | refine Dec.f (by omega) ?_ | refine Dec.split (fun _ => ?_) (fun _ => ?_) | refine Wr.id (by omega) ?_ | refine Chk.mk (by first | omega | exact rfl | (simp only [List.length_map]; omega) | (simp [room]; done) | (simp [room]; omega)) ?_ | refine Nam.mk (List.length_map _) ?_ | refine Prep.skip ?_ | refine chk_t (x := D.flat _) (by assumption) ?_ | refine br_mk (fun _ => ?_) (fun _ => ?_) | refine nthK_mk hkk ?_ | fail)
                all_goals (conv => whnf)
                exact ⟨k + 1, Wm.end (by repeat (first | exact trivial | refine And.intro rfl ?_ | refine And.intro (congrArg (fun n => V.d (I n)) (wrap_nat _ (by omega))) ?_)) rfl rfl rfl, hkl, by omega⟩
              · have : k = xs.length := by omega
                subst this
                repeat' ((conv => whnf); first | with_reducible refine Dec.t (show true = true from rfl) ?_ | with_reducible refine Dec.t (show false = false from rfl) ?_ | with_reducible refine Dec.f (show ¬ (true = false) by decide) ?_ | with_reducible refine Dec.f (show ¬ (false = true) by decide) ?_ | refine Dec.t (by omega) ?_ | refine Dec.f (by omega) ?_ | refine Dec.split (fun _ => ?_) (fun _ => ?_) | refine Wr.id (by omega) ?_ | refine Chk.mk (by first | omega | exact rfl | (simp only [List.length_map]; omega) | (simp [room]; done) | (simp [room]; omega)) ?_ | refine Nam.mk (List.length_map _) ?_ | refine Prep.skip ?_ | refine chk_t (x := D.flat _) (by assumption) ?_ | refine br_mk (fun _ => ?_) (fun _ => ?_) | refine ACall.ofB (ref29_SameSupplies _ _ (by omega)) (fun _ => ?_) (fun h => absurd rfl (of_decide_eq_false h)) | refine ACall.ofB (ref29_SameTable _ _ (by omega) (fun x hx => by have := h1 x (l4 x hx); omega)) (fun _ => ?_) (fun h => absurd rfl (of_decide_eq_false h)) | fail)
                all_goals (conv => whnf)
                exact (by repeat (first | exact trivial | exact rfl | exact DLe.refl _ | exact DLe.full _ _ _ | exact DLe.nil _ _ _ | exact VLe.refl _ | refine And.intro ?_ ?_ | refine VLe.d ?_ | refine DLe.agg ?_))
      · have he : mergeM s fits = (⟨[], [], []⟩, 290) := by unfold mergeM; rw [if_neg hok]
        rw [he] at hM
        simp only [mergeD, List.map_nil] at hM
        repeat' ((conv => whnf); first | with_reducible refine Dec.t (show true = true from rfl) ?_ | with_reducible refine Dec.t (show false = false from rfl) ?_ | with_reducible refine Dec.f (show ¬ (true = false) by decide) ?_ | with_reducible refine Dec.f (show ¬ (false = true) by decide) ?_ | refine Dec.t (by omega) ?_ | refine Dec.f (by omega) ?_ | refine Dec.split (fun _ => ?_) (fun _ => ?_) | refine Wr.id (by omega) ?_ | refine Chk.mk (by first | omega | exact rfl | (simp only [List.length_map]; omega) | (simp [room]; done) | (simp [room]; omega)) ?_ | refine Nam.mk (List.length_map _) ?_ | refine Prep.skip ?_ | refine chk_t (x := D.flat _) (by assumption) ?_ | refine br_mk (fun _ => ?_) (fun _ => ?_) | refine ACall.of law29_sane ?_ | refine ACall.ofB (ref29_FewTable fits hl) (fun _ => ?_) (fun h => absurd ⟨h1, h2⟩ (of_decide_eq_false h)) | refine ACall.of hM ?_ | refine Nam.mk (y := 0) rfl ?_ | fail)
        all_goals (conv => whnf)
        exact (by repeat (first | exact trivial | exact rfl | exact DLe.refl _ | exact DLe.full _ _ _ | exact DLe.nil _ _ _ | exact VLe.refl _ | refine And.intro ?_ ?_ | refine VLe.d ?_ | refine DLe.agg ?_))
    · repeat' ((conv => whnf); first | with_reducible refine Dec.t (show true = true from rfl) ?_ | with_reducible refine Dec.t (show false = false from rfl) ?_ | with_reducible refine Dec.f (show ¬ (true = false) by decide) ?_ | with_reducible refine Dec.f (show ¬ (false = true) by decide) ?_ | refine Dec.t (by omega) ?_ | refine Dec.f (by omega) ?_ | refine Dec.split (fun _ => ?_) (fun _ => ?_) | refine Wr.id (by omega) ?_ | refine Chk.mk (by first | omega | exact rfl | (simp only [List.length_map]; omega) | (simp [room]; done) | (simp [room]; omega)) ?_ | refine Nam.mk (List.length_map _) ?_ | refine Prep.skip ?_ | refine chk_t (x := D.flat _) (by assumption) ?_ | refine br_mk (fun _ => ?_) (fun _ => ?_) | refine ACall.of law29_sane ?_ | refine ACall.ofB (ref29_FewTable fits hl) (fun h => absurd (of_decide_eq_true h) hF) (fun _ => ?_) | fail)
      all_goals (conv => whnf)
      exact (by repeat (first | exact trivial | exact rfl | exact DLe.refl _ | exact DLe.full _ _ _ | exact DLe.nil _ _ _ | exact VLe.refl _ | refine And.intro ?_ ?_ | refine VLe.d ?_ | refine DLe.agg ?_))
  · repeat' ((conv => whnf); first | with_reducible refine Dec.t (show true = true from rfl) ?_ | with_reducible refine Dec.t (show false = false from rfl) ?_ | with_reducible refine Dec.f (show ¬ (true = false) by decide) ?_ | with_reducible refine Dec.f (show ¬ (false = true) by decide) ?_ | refine Dec.t (by omega) ?_ | refine Dec.f (by omega) ?_ | refine Dec.split (fun _ => ?_) (fun _ => ?_) | refine Wr.id (by omega) ?_ | refine Chk.mk (by first | omega | exact rfl | (simp only [List.length_map]; omega) | (simp [room]; done) | (simp [room]; omega)) ?_ | refine Nam.mk (List.length_map _) ?_ | refine Prep.skip ?_ | refine chk_t (x := D.flat _) (by assumption) ?_ | refine br_mk (fun _ => ?_) (fun _ => ?_) | refine ACall.of law29_sane ?_ | fail)
    all_goals (conv => whnf)
    exact (by repeat (first | exact trivial | exact rfl | exact DLe.refl _ | exact DLe.full _ _ _ | exact DLe.nil _ _ _ | exact VLe.refl _ | refine And.intro ?_ ?_ | refine VLe.d ?_ | refine DLe.agg ?_))
end Go.PM

