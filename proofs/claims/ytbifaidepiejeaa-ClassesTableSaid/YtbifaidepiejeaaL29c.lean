/- The law ClassesTable, its contract. -/
import Derived.Test.YtbifaidepiejeaaL29a
namespace Go.PM
open Go.Proofs
set_option maxRecDepth 10000
set_option maxHeartbeats 1000000

/-- The map of what was met, as a set. -/
def setM (rs : List Read) : List (D × D) := rs.map fun z => (z.d, B true)
theorem setM_find (z : Read) : ∀ (rs : List Read), mapFind tt 68 z.d (setM rs) = if z ∈ rs then some (B true) else none
  | [] => rfl
  | x :: rs => by
    have ih := setM_find z rs
    unfold setM at ih ⊢
    rw [List.map_cons, mapFind, eqRead]
    by_cases h : z = x
    · subst h; simp
    · simp only [h, decide_false, Bool.false_eq_true, if_false, List.mem_cons, false_or]
      exact ih
theorem setM_put (z : Read) : ∀ (rs : List Read), mapPut tt 68 z.d (B true) (setM rs) = setM (addRead rs z)
  | [] => rfl
  | x :: rs => by
    have ih := setM_put z rs
    unfold setM addRead at ih ⊢
    rw [List.map_cons, mapPut, eqRead]
    by_cases h : z = x
    · subst h; simp
    · simp only [h, decide_false, Bool.false_eq_true, if_false, List.mem_cons, false_or]
      rw [ih]
      split <;> simp
theorem setM_del (z : Read) : ∀ (rs : List Read), mapDel tt 68 z.d (setM rs) = setM (rs.erase z)
  | [] => rfl
  | x :: rs => by
    have ih := setM_del z rs
    unfold setM at ih ⊢
    rw [List.map_cons, mapDel, eqRead, List.erase_cons]
    by_cases h : z = x
    · subst h; simp
    · have h' : ¬ x = z := fun e => h e.symm
      simp only [h, decide_false, Bool.false_eq_true, if_false, beq_iff_eq, h']
      rw [ih]; rfl

structure XL where
  i : Nat
  es : List (D × D)
theorem law29_Table (w : AWorld) (s : List Supply) (r : List Request) (known : Int) : CallP Try.prog 5 [.d w.d, .d (SL 6 (s.map Supply.d)), .d (SL 6 (r.map Request.d)), .d (I known)] (retD [.b true]) := by
  refine exPure_sound (E := envOf Try.prog tt Try.f5.ntmps) (envOf_ok ttok mixed) Try.func5 (by rfl) rfl rfl (Nat.le_of_ble_eq_true rfl) ?_
  by_cases hF : w.facts.length ≤ 30 ∧ w.swaps.length ≤ 12 ∧ s.length ≤ 8 ∧ r.length ≤ 8
  · obtain ⟨h1, h2, h3, h4⟩ := hF
    by_cases hok : tableOk s r
    · have he : tableM w s r known = ⟨s.map fun x => rowM w x r known, allReads w s r known [], 0⟩ := by unfold tableM; rw [if_pos hok]
      have hT := classes_Table w s r known (by omega) (by omega) (by omega) (by omega)
      rw [he] at hT
      simp only [TM.d, List.map_nil] at hT
      repeat' ((conv => whnf); first | with_reducible refine Dec.t (show true = true from rfl) ?_ | with_reducible refine Dec.t (show false = false from rfl) ?_ | with_reducible refine Dec.f (show ¬ (true = false) by decide) ?_ | with_reducible refine Dec.f (show ¬ (false = true) by decide) ?_ | refine Dec.t (by omega) ?_ | refine Dec.f (by omega) ?_ | refine Dec.split (fun _ => ?_) (fun _ => ?_) | refine Wr.id (by omega) ?_ | refine Chk.mk (by first | omega | exact rfl | (simp only [List.length_map]; omega) | (simp [room]; done) | (simp [room]; omega)) ?_ | refine Nam.mk (List.length_map _) ?_ | refine Prep.skip ?_ | refine chk_t (x := D.flat _) (by assumption) ?_ | refine br_mk (fun _ => ?_) (fun _ => ?_) | refine ACall.of law29_sane ?_ | refine ACall.ofB (ref29_Few w s r) (fun _ => ?_) (fun h => absurd (of_decide_eq_false h) (by simp; omega)) | refine ACall.of hT ?_ | refine Nam.mk (y := 0) rfl ?_ | fail)
      all_goals (conv => whnf)
      all_goals first | (rename_i h; exact absurd (by simp) h) | skip
      refine ALoop.at (E := envOf Try.prog tt Try.f5.ntmps) (envOf_ok ttok mixed) (X := XL) (fun x => [(59, .d (I x.i))]) (fun x => [(1, .map tt 68 x.es)])
        (fun x => x.i ≤ s.length ∧ ∃ rs, x.es = setM rs ∧ rs.length ≤ x.i * 8 ∧ allReads w (s.drop x.i) r known rs = allReads w s r known [])
        (fun x => s.length - x.i) ⟨0, []⟩ (by repeat (first | exact trivial | refine And.intro rfl ?_ | refine And.intro (congrArg (fun n => V.d (I n)) (wrap_nat _ (by omega))) ?_)) rfl ⟨Nat.zero_le _, [], rfl, by simp, rfl⟩ ?_
      rintro ⟨i, es⟩ ⟨hi, rs, g1, g2, hm⟩
      simp only at hi g1 g2 hm
      subst g1
      dsimp only
      by_cases hlt : i < s.length
      · obtain ⟨x, hx, hxd⟩ := drop_get hlt
        rw [hxd, allReads, List.foldl_cons, ← allReads] at hm
        have hrow : ((s.map fun x => rowM w x r known).map rowD)[((i : Nat) : Int).toNat]? = some (rowD (rowM w x r known)) := by simp [hx]
        have hrl : (rowM w x r known).length = r.length := by simp [rowM]
        repeat' ((conv => whnf); first | with_reducible refine Dec.t (show true = true from rfl) ?_ | with_reducible refine Dec.t (show false = false from rfl) ?_ | with_reducible refine Dec.f (show ¬ (true = false) by decide) ?_ | with_reducible refine Dec.f (show ¬ (false = true) by decide) ?_ | refine Dec.t (by omega) ?_ | refine Dec.f (by omega) ?_ | refine Dec.split (fun _ => ?_) (fun _ => ?_) | refine Wr.id (by omega) ?_ | refine Chk.mk (by first | omega | exact rfl | (simp only [List.length_map]; omega) | (simp [room]; done) | (simp [room]; omega)) ?_ | refine Nam.mk (List.length_map _) ?_ | refine Prep.skip ?_ | refine chk_t (x := D.flat _) (by assumption) ?_ | refine br_mk (fun _ => ?_) (fun _ => ?_) | refine nthK_mk (map_get hx) ?_ | refine nthK_mk hrow ?_ | fail)
        all_goals (conv => whnf)
        refine ALoop.at (E := envOf Try.prog tt Try.f5.ntmps) (envOf_ok ttok mixed) (X := XL) (fun x => [(74, .d (I x.i))]) (fun x => [(1, .map tt 68 x.es)])
          (fun z => z.i ≤ r.length ∧ ∃ qs, z.es = setM qs ∧ qs.length ≤ i * 8 + z.i ∧ rowReads w x (r.drop z.i) known qs = rowReads w x r known rs)
          (fun x => r.length - x.i) ⟨0, setM rs⟩ (by repeat (first | exact trivial | refine And.intro rfl ?_ | refine And.intro (congrArg (fun n => V.d (I n)) (wrap_nat _ (by omega))) ?_)) rfl ⟨Nat.zero_le _, rs, rfl, by simp only; omega, rfl⟩ ?_
        rintro ⟨j, es⟩ ⟨hj, qs, k1, k2, gm⟩
        simp only at hj k1 k2 gm
        subst k1
        dsimp only
        by_cases hjl : j < r.length
        · obtain ⟨y, hy, hyd⟩ := drop_get hjl
          rw [hyd, rowReads, List.foldl_cons, ← rowReads] at gm
          have hxo := hok.2.1 x (List.mem_of_getElem? hx)
          have hyo := hok.2.2 y (List.mem_of_getElem? hy)
          have hcell : ((rowM w x r known).map B)[((j : Nat) : Int).toNat]? = some (B (fitsM w x y known).1) := by simp [rowM, hy]
          have hFit := classes_Fits w x y known (by omega) (by omega)
          by_cases hc : couldM w x y
          · rw [fitsM_could hxo hyo hc] at hFit hcell gm
            rw [List.foldl_cons, List.foldl_nil] at gm
            have hAt := facts_At w.facts (lookM x y).key y.due known (by omega)
            cases hrf : decide (refusedM w (lookM x y) known) with
            | false =>
              simp only [hrf, Bool.not_false, List.map_cons, List.map_nil] at hFit hcell
              repeat' ((conv => whnf); first | with_reducible refine Dec.t (show true = true from rfl) ?_ | with_reducible refine Dec.t (show false = false from rfl) ?_ | with_reducible refine Dec.f (show ¬ (true = false) by decide) ?_ | with_reducible refine Dec.f (show ¬ (false = true) by decide) ?_ | refine Dec.t (by omega) ?_ | refine Dec.f (by omega) ?_ | refine Dec.split (fun _ => ?_) (fun _ => ?_) | refine Wr.id (by omega) ?_ | refine Chk.mk (by first | omega | exact rfl | (simp only [List.length_map]; omega) | (simp [room]; done) | (simp [room]; omega)) ?_ | refine Nam.mk (List.length_map _) ?_ | refine Prep.skip ?_ | refine chk_t (x := D.flat _) (by assumption) ?_ | refine br_mk (fun _ => ?_) (fun _ => ?_) | refine nthK_mk (map_get hx) ?_ | refine nthK_mk (map_get hy) ?_ | refine nthK_mk hrow ?_ | refine nthK_mk hcell ?_ | refine ACall.of hFit ?_ | refine Nam.mk (y := 1) rfl ?_ | refine Nam.mk (y := 0) rfl ?_ | fail)
              all_goals (conv => whnf)
              refine ALoop.at (E := envOf Try.prog tt Try.f5.ntmps) (envOf_ok ttok mixed) (X := XL) (fun x => [(111, .d (I x.i))]) (fun x => [(1, .map tt 68 x.es)])
                (fun z => (z.i = 0 ∧ z.es = setM qs) ∨ (z.i = 1 ∧ z.es = setM (addRead qs (lookM x y)))) (fun x => 1 - x.i) ⟨0, setM qs⟩ (by repeat (first | exact trivial | refine And.intro rfl ?_ | refine And.intro (congrArg (fun n => V.d (I n)) (wrap_nat _ (by omega))) ?_)) rfl (.inl ⟨rfl, rfl⟩) ?_
              rintro ⟨n, es⟩ (⟨h5, h6⟩ | ⟨h5, h6⟩)
              · simp only at h5 h6
                subst h5 h6
                dsimp only
                have hr : ¬ refusedM w (lookM x y) known := of_decide_eq_false hrf
                cases hat : atM w.facts (lookM x y).key y.due known with
                | none =>
                  rw [hat] at hAt
                  simp only [Option.getD_none, Option.isSome_none] at hAt
                  repeat' ((conv => whnf); first | with_reducible refine Dec.t (show true = true from rfl) ?_ | with_reducible refine Dec.t (show false = false from rfl) ?_ | with_reducible refine Dec.f (show ¬ (true = false) by decide) ?_ | with_reducible refine Dec.f (show ¬ (false = true) by decide) ?_ | refine Dec.t (by omega) ?_ | refine Dec.f (by omega) ?_ | refine Dec.split (fun _ => ?_) (fun _ => ?_) | refine Wr.id (by omega) ?_ | refine Chk.mk (by first | omega | exact rfl | (simp only [List.length_map]; omega) | (simp [room]; done) | (simp [room]; omega)) ?_ | refine Nam.mk (List.length_map _) ?_ | refine Prep.skip ?_ | refine chk_t (x := D.flat _) (by assumption) ?_ | refine br_mk (fun _ => ?_) (fun _ => ?_) | refine nthK_mk (map_get hx) ?_ | refine nthK_mk (map_get hy) ?_ | refine ACall.of hAt ?_ | fail)
                  all_goals (conv => whnf)
                  all_goals first | (rename_i h; exact absurd rfl h) | skip
                  exact ⟨⟨1, setM (addRead qs (lookM x y))⟩, Wm.end (by repeat (first | exact trivial | refine And.intro rfl ?_ | refine And.intro (congrArg (fun n => V.d (I n)) (wrap_nat _ (by omega))) ?_)) (by rw [← setM_put]; rfl) rfl rfl, .inr ⟨rfl, rfl⟩, by simp only; omega⟩
                | some m =>
                  rw [hat] at hAt
                  simp only [Option.getD_some, Option.isSome_some] at hAt
                  have hm1 : ¬ m = 1 := fun e => hr (by unfold refusedM; rw [e] at hat; exact hat)
                  repeat' ((conv => whnf); first | with_reducible refine Dec.t (show true = true from rfl) ?_ | with_reducible refine Dec.t (show false = false from rfl) ?_ | with_reducible refine Dec.f (show ¬ (true = false) by decide) ?_ | with_reducible refine Dec.f (show ¬ (false = true) by decide) ?_ | refine Dec.t (by omega) ?_ | refine Dec.f (by omega) ?_ | refine Dec.split (fun _ => ?_) (fun _ => ?_) | refine Wr.id (by omega) ?_ | refine Chk.mk (by first | omega | exact rfl | (simp only [List.length_map]; omega) | (simp [room]; done) | (simp [room]; omega)) ?_ | refine Nam.mk (List.length_map _) ?_ | refine Prep.skip ?_ | refine chk_t (x := D.flat _) (by assumption) ?_ | refine br_mk (fun _ => ?_) (fun _ => ?_) | refine nthK_mk (map_get hx) ?_ | refine nthK_mk (map_get hy) ?_ | refine ACall.of hAt ?_ | fail)
                  all_goals (conv => whnf)
                  all_goals first | (rename_i h; exact absurd rfl h) | skip
                  exact ⟨⟨1, setM (addRead qs (lookM x y))⟩, Wm.end (by repeat (first | exact trivial | refine And.intro rfl ?_ | refine And.intro (congrArg (fun n => V.d (I n)) (wrap_nat _ (by omega))) ?_)) (by rw [← setM_put]; rfl) rfl rfl, .inr ⟨rfl, rfl⟩, by simp only; omega⟩
              · simp only at h5 h6
                subst h5 h6
                dsimp only
                repeat' ((conv => whnf); first | with_reducible refine Dec.t (show true = true from rfl) ?_ | with_reducible refine Dec.t (show false = false from rfl) ?_ | with_reducible refine Dec.f (show ¬ (true = false) by decide) ?_ | with_reducible refine Dec.f (show ¬ (false = true) by decide) ?_ | refine Dec.t (by omega) ?_ | refine Dec.f (by omega) ?_ | refine Dec.split (fun _ => ?_) (fun _ => ?_) | refine Wr.id (by omega) ?_ | refine Chk.mk (by first | omega | exact rfl | (simp only [List.length_map]; omega) | (simp [room]; done) | (simp [room]; omega)) ?_ | refine Nam.mk (List.length_map _) ?_ | refine Prep.skip ?_ | refine chk_t (x := D.flat _) (by assumption) ?_ | refine br_mk (fun _ => ?_) (fun _ => ?_) | fail)
                conv => whnf
                exact ⟨⟨j + 1, setM (addRead qs (lookM x y))⟩, Wm.end (by repeat (first | exact trivial | refine And.intro rfl ?_ | refine And.intro (congrArg (fun n => V.d (I n)) (wrap_nat _ (by omega))) ?_)) rfl rfl rfl, ⟨hjl, _, rfl, by have := addRead_len qs (lookM x y); simp only; omega, gm⟩, by simp only; omega⟩
            | true =>
              simp only [hrf, Bool.not_true, List.map_cons, List.map_nil] at hFit hcell
              repeat' ((conv => whnf); first | with_reducible refine Dec.t (show true = true from rfl) ?_ | with_reducible refine Dec.t (show false = false from rfl) ?_ | with_reducible refine Dec.f (show ¬ (true = false) by decide) ?_ | with_reducible refine Dec.f (show ¬ (false = true) by decide) ?_ | refine Dec.t (by omega) ?_ | refine Dec.f (by omega) ?_ | refine Dec.split (fun _ => ?_) (fun _ => ?_) | refine Wr.id (by omega) ?_ | refine Chk.mk (by first | omega | exact rfl | (simp only [List.length_map]; omega) | (simp [room]; done) | (simp [room]; omega)) ?_ | refine Nam.mk (List.length_map _) ?_ | refine Prep.skip ?_ | refine chk_t (x := D.flat _) (by assumption) ?_ | refine br_mk (fun _ => ?_) (fun _ => ?_) | refine nthK_mk (map_get hx) ?_ | refine nthK_mk (map_get hy) ?_ | refine nthK_mk hrow ?_ | refine nthK_mk hcell ?_ | refine ACall.of hFit ?_ | refine Nam.mk (y := 1) rfl ?_ | refine Nam.mk (y := 0) rfl ?_ | fail)
              all_goals (conv => whnf)
              refine ALoop.at (E := envOf Try.prog tt Try.f5.ntmps) (envOf_ok ttok mixed) (X := XL) (fun x => [(111, .d (I x.i))]) (fun x => [(1, .map tt 68 x.es)])
                (fun z => (z.i = 0 ∧ z.es = setM qs) ∨ (z.i = 1 ∧ z.es = setM (addRead qs (lookM x y)))) (fun x => 1 - x.i) ⟨0, setM qs⟩ (by repeat (first | exact trivial | refine And.intro rfl ?_ | refine And.intro (congrArg (fun n => V.d (I n)) (wrap_nat _ (by omega))) ?_)) rfl (.inl ⟨rfl, rfl⟩) ?_
              rintro ⟨n, es⟩ (⟨h5, h6⟩ | ⟨h5, h6⟩)
              · simp only at h5 h6
                subst h5 h6
                dsimp only
                have hr : refusedM w (lookM x y) known := of_decide_eq_true hrf
                have hat : atM w.facts (lookM x y).key y.due known = some 1 := hr
                rw [hat] at hAt
                simp only [Option.getD_some, Option.isSome_some] at hAt
                repeat' ((conv => whnf); first | with_reducible refine Dec.t (show true = true from rfl) ?_ | with_reducible refine Dec.t (show false = false from rfl) ?_ | with_reducible refine Dec.f (show ¬ (true = false) by decide) ?_ | with_reducible refine Dec.f (show ¬ (false = true) by decide) ?_ | refine Dec.t (by omega) ?_ | refine Dec.f (by omega) ?_ | refine Dec.split (fun _ => ?_) (fun _ => ?_) | refine Wr.id (by omega) ?_ | refine Chk.mk (by first | omega | exact rfl | (simp only [List.length_map]; omega) | (simp [room]; done) | (simp [room]; omega)) ?_ | refine Nam.mk (List.length_map _) ?_ | refine Prep.skip ?_ | refine chk_t (x := D.flat _) (by assumption) ?_ | refine br_mk (fun _ => ?_) (fun _ => ?_) | refine nthK_mk (map_get hx) ?_ | refine nthK_mk (map_get hy) ?_ | refine ACall.of hAt ?_ | fail)
                all_goals (conv => whnf)
                all_goals first | (rename_i h; exact absurd rfl h) | skip
                exact ⟨⟨1, setM (addRead qs (lookM x y))⟩, Wm.end (by repeat (first | exact trivial | refine And.intro rfl ?_ | refine And.intro (congrArg (fun n => V.d (I n)) (wrap_nat _ (by omega))) ?_)) (by rw [← setM_put]; rfl) rfl rfl, .inr ⟨rfl, rfl⟩, by simp only; omega⟩
              · simp only at h5 h6
                subst h5 h6
                dsimp only
                repeat' ((conv => whnf); first | with_reducible refine Dec.t (show true = true from rfl) ?_ | with_reducible refine Dec.t (show false = false from rfl) ?_ | with_reducible refine Dec.f (show ¬ (true = false) by decide) ?_ | with_reducible refine Dec.f (show ¬ (false = true) by decide) ?_ | refine Dec.t (by omega) ?_ | refine Dec.f (by omega) ?_ | refine Dec.split (fun _ => ?_) (fun _ => ?_) | refine Wr.id (by omega) ?_ | refine Chk.mk (by first | omega | exact rfl | (simp only [List.length_map]; omega) | (simp [room]; done) | (simp [room]; omega)) ?_ | refine Nam.mk (List.length_map _) ?_ | refine Prep.skip ?_ | refine chk_t (x := D.flat _) (by assumption) ?_ | refine br_mk (fun _ => ?_) (fun _ => ?_) | fail)
                conv => whnf
                exact ⟨⟨j + 1, setM (addRead qs (lookM x y))⟩, Wm.end (by repeat (first | exact trivial | refine And.intro rfl ?_ | refine And.intro (congrArg (fun n => V.d (I n)) (wrap_nat _ (by omega))) ?_)) rfl rfl rfl, ⟨hjl, _, rfl, by have := addRead_len qs (lookM x y); simp only; omega, gm⟩, by simp only; omega⟩
          · rw [fitsM_not hc] at hFit hcell gm
            rw [List.foldl_nil] at gm
            simp only [List.map_nil] at hFit
            repeat' ((conv => whnf); first | with_reducible refine Dec.t (show true = true from rfl) ?_ | with_reducible refine Dec.t (show false = false from rfl) ?_ | with_reducible refine Dec.f (show ¬ (true = false) by decide) ?_ | with_reducible refine Dec.f (show ¬ (false = true) by decide) ?_ | refine Dec.t (by omega) ?_ | refine Dec.f (by omega) ?_ | refine Dec.split (fun _ => ?_) (fun _ => ?_) | refine Wr.id (by omega) ?_ | refine Chk.mk (by first | omega | exact rfl | (simp only [List.length_map]; omega) | (simp [room]; done) | (simp [room]; omega)) ?_ | refine Nam.mk (List.length_map _) ?_ | refine Prep.skip ?_ | refine chk_t (x := D.flat _) (by assumption) ?_ | refine br_mk (fun _ => ?_) (fun _ => ?_) | refine nthK_mk (map_get hx) ?_ | refine nthK_mk (map_get hy) ?_ | refine nthK_mk hrow ?_ | refine nthK_mk hcell ?_ | refine ACall.of hFit ?_ | refine Nam.mk (y := 1) rfl ?_ | refine Nam.mk (y := 0) rfl ?_ | fail)
            all_goals (conv => whnf)
            refine ALoop.at (E := envOf Try.prog tt Try.f5.ntmps) (envOf_ok ttok mixed) (X := Nat) (fun x => [(111, .d (I x))]) (fun x => []) (fun z => z = 0) (fun x => x) 0 (by repeat (first | exact trivial | refine And.intro rfl ?_ | refine And.intro (congrArg (fun n => V.d (I n)) (wrap_nat _ (by omega))) ?_)) rfl rfl ?_
            rintro n rfl
            repeat' ((conv => whnf); first | with_reducible refine Dec.t (show true = true from rfl) ?_ | with_reducible refine Dec.t (show false = false from rfl) ?_ | with_reducible refine Dec.f (show ¬ (true = false) by decide) ?_ | with_reducible refine Dec.f (show ¬ (false = true) by decide) ?_ | refine Dec.t (by omega) ?_ | refine Dec.f (by omega) ?_ | refine Dec.split (fun _ => ?_) (fun _ => ?_) | refine Wr.id (by omega) ?_ | refine Chk.mk (by first | omega | exact rfl | (simp only [List.length_map]; omega) | (simp [room]; done) | (simp [room]; omega)) ?_ | refine Nam.mk (List.length_map _) ?_ | refine Prep.skip ?_ | refine chk_t (x := D.flat _) (by assumption) ?_ | refine br_mk (fun _ => ?_) (fun _ => ?_) | fail)
            conv => whnf
            exact ⟨⟨j + 1, setM qs⟩, Wm.end (by repeat (first | exact trivial | refine And.intro rfl ?_ | refine And.intro (congrArg (fun n => V.d (I n)) (wrap_nat _ (by omega))) ?_)) rfl rfl rfl, ⟨hjl, qs, rfl, by simp only; omega, gm⟩, by simp only; omega⟩
        · have : j = r.length := by omega
          subst this
          rw [List.drop_length, rowReads, List.foldl_nil] at gm
          rw [← gm] at hm
          repeat' ((conv => whnf); first | with_reducible refine Dec.t (show true = true from rfl) ?_ | with_reducible refine Dec.t (show false = false from rfl) ?_ | with_reducible refine Dec.f (show ¬ (true = false) by decide) ?_ | with_reducible refine Dec.f (show ¬ (false = true) by decide) ?_ | refine Dec.t (by omega) ?_ | refine Dec.f (by omega) ?_ | refine Dec.split (fun _ => ?_) (fun _ => ?_) | refine Wr.id (by omega) ?_ | refine Chk.mk (by first | omega | exact rfl | (simp only [List.length_map]; omega) | (simp [room]; done) | (simp [room]; omega)) ?_ | refine Nam.mk (List.length_map _) ?_ | refine Prep.skip ?_ | refine chk_t (x := D.flat _) (by assumption) ?_ | refine br_mk (fun _ => ?_) (fun _ => ?_) | fail)
          conv => whnf
          exact ⟨⟨i + 1, setM qs⟩, Wm.end (by repeat (first | exact trivial | refine And.intro rfl ?_ | refine And.intro (congrArg (fun n => V.d (I n)) (wrap_nat _ (by omega))) ?_)) rfl rfl rfl, ⟨hlt, qs, rfl, by simp only; omega, hm⟩, by simp only; omega⟩
      · have : i = s.length := by omega
        subst this
        rw [List.drop_length, allReads, List.foldl_nil] at hm
        rw [← hm]
        repeat' ((conv => whnf); first | with_reducible refine Dec.t (show true = true from rfl) ?_ | with_reducible refine Dec.t (show false = false from rfl) ?_ | with_reducible refine Dec.f (show ¬ (true = false) by decide) ?_ | with_reducible refine Dec.f (show ¬ (false = true) by decide) ?_ | refine Dec.t (by omega) ?_ | refine Dec.f (by omega) ?_ | refine Dec.split (fun _ => ?_) (fun _ => ?_) | refine Wr.id (by omega) ?_ | refine Chk.mk (by first | omega | exact rfl | (simp only [List.length_map]; omega) | (simp [room]; done) | (simp [room]; omega)) ?_ | refine Nam.mk (List.length_map _) ?_ | refine Prep.skip ?_ | refine chk_t (x := D.flat _) (by assumption) ?_ | refine br_mk (fun _ => ?_) (fun _ => ?_) | fail)
        conv => whnf
        refine ALoop.at (E := envOf Try.prog tt Try.f5.ntmps) (envOf_ok ttok mixed) (X := XL) (fun x => [(141, .d (I x.i))]) (fun x => [(1, .map tt 68 x.es)])
          (fun x => x.i ≤ rs.length ∧ x.es = setM (rs.drop x.i)) (fun x => rs.length - x.i) ⟨0, setM rs⟩ (by repeat (first | exact trivial | refine And.intro rfl ?_ | refine And.intro (congrArg (fun n => V.d (I n)) (wrap_nat _ (by omega))) ?_)) rfl ⟨Nat.zero_le _, rfl⟩ ?_
        rintro ⟨k, es⟩ ⟨hk, k1⟩
        simp only at hk k1
        subst k1
        dsimp only
        by_cases hkl : k < rs.length
        · obtain ⟨z, hz, hzd⟩ := drop_get hkl
          have hfind := setM_find z (rs.drop k)
          rw [if_pos (by rw [hzd]; exact .head _)] at hfind
          repeat' ((conv => whnf); first | with_reducible refine Dec.t (show true = true from rfl) ?_ | with_reducible refine Dec.t (show false = false from rfl) ?_ | with_reducible refine Dec.f (show ¬ (true = false) by decide) ?_ | with_reducible refine Dec.f (show ¬ (false = true) by decide) ?_ | refine Dec.t (by omega) ?_ | refine Dec.f (by omega) ?_ | refine Dec.split (fun _ => ?_) (fun _ => ?_) | refine Wr.id (by omega) ?_ | refine Chk.mk (by first | omega | exact rfl | (simp only [List.length_map]; omega) | (simp [room]; done) | (simp [room]; omega)) ?_ | refine Nam.mk (List.length_map _) ?_ | refine Prep.skip ?_ | refine chk_t (x := D.flat _) (by assumption) ?_ | refine br_mk (fun _ => ?_) (fun _ => ?_) | refine nthK_mk (map_get hz) ?_ | refine Nam.mk (congrArg (fun o => Option.getD o _) hfind) ?_ | fail)
          conv => whnf
          refine ⟨⟨k + 1, setM (rs.drop (k + 1))⟩, Wm.end (by repeat (first | exact trivial | refine And.intro rfl ?_ | refine And.intro (congrArg (fun n => V.d (I n)) (wrap_nat _ (by omega))) ?_)) (by
            rw [show rs.drop (k + 1) = (rs.drop k).erase z by rw [hzd, List.erase_cons_head], ← setM_del]; rfl) rfl rfl, ⟨hkl, rfl⟩, by simp only; omega⟩
        · have : k = rs.length := by omega
          subst this
          rw [List.drop_length]
          repeat' ((conv => whnf); first | with_reducible refine Dec.t (show true = true from rfl) ?_ | with_reducible refine Dec.t (show false = false from rfl) ?_ | with_reducible refine Dec.f (show ¬ (true = false) by decide) ?_ | with_reducible refine Dec.f (show ¬ (false = true) by decide) ?_ | refine Dec.t (by omega) ?_ | refine Dec.f (by omega) ?_ | refine Dec.split (fun _ => ?_) (fun _ => ?_) | refine Wr.id (by omega) ?_ | refine Chk.mk (by first | omega | exact rfl | (simp only [List.length_map]; omega) | (simp [room]; done) | (simp [room]; omega)) ?_ | refine Nam.mk (List.length_map _) ?_ | refine Prep.skip ?_ | refine chk_t (x := D.flat _) (by assumption) ?_ | refine br_mk (fun _ => ?_) (fun _ => ?_) | refine Nam.mk (y := 0) rfl ?_ | fail)
          all_goals first | (rename_i h; exact absurd rfl h) | skip
          conv => whnf
          exact (by repeat (first | exact trivial | exact rfl | exact DLe.refl _ | exact DLe.full _ _ _ | exact DLe.nil _ _ _ | exact VLe.refl _ | refine And.intro ?_ ?_ | refine VLe.d ?_ | refine DLe.agg ?_))
    · have he : tableM w s r known = ⟨[], [], 290⟩ := by unfold tableM; rw [if_neg hok]
      have hT := classes_Table w s r known (by omega) (by omega) (by omega) (by omega)
      rw [he] at hT
      simp only [TM.d, List.map_nil] at hT
      repeat' ((conv => whnf); first | with_reducible refine Dec.t (show true = true from rfl) ?_ | with_reducible refine Dec.t (show false = false from rfl) ?_ | with_reducible refine Dec.f (show ¬ (true = false) by decide) ?_ | with_reducible refine Dec.f (show ¬ (false = true) by decide) ?_ | refine Dec.t (by omega) ?_ | refine Dec.f (by omega) ?_ | refine Dec.split (fun _ => ?_) (fun _ => ?_) | refine Wr.id (by omega) ?_ | refine Chk.mk (by first | omega | exact rfl | (simp only [List.length_map]; omega) | (simp [room]; done) | (simp [room]; omega)) ?_ | refine Nam.mk (List.length_map _) ?_ | refine Prep.skip ?_ | refine chk_t (x := D.flat _) (by assumption) ?_ | refine br_mk (fun _ => ?_) (fun _ => ?_) | refine ACall.of law29_sane ?_ | refine ACall.ofB (ref29_Few w s r) (fun _ => ?_) (fun h => absurd (of_decide_eq_false h) (by simp; omega)) | refine ACall.of hT ?_ | refine Nam.mk (y := 0) rfl ?_ | fail)
      all_goals (conv => whnf)
      exact (by repeat (first | exact trivial | exact rfl | exact DLe.refl _ | exact DLe.full _ _ _ | exact DLe.nil _ _ _ | exact VLe.refl _ | refine And.intro ?_ ?_ | refine VLe.d ?_ | refine DLe.agg ?_))
  · repeat' ((conv => whnf); first | with_reducible refine Dec.t (show true = true from rfl) ?_ | with_reducible refine Dec.t (show false = false from rfl) ?_ | with_reducible refine Dec.f (show ¬ (true = false) by decide) ?_ | with_reducible refine Dec.f (show ¬ (false = true) by decide) ?_ | refine Dec.t (by omega) ?_ | refine Dec.f (by omega) ?_ | refine Dec.split (fun _ => ?_) (fun _ => ?_) | refine Wr.id (by omega) ?_ | refine Chk.mk (by first | omega | exact rfl | (simp only [List.length_map]; omega) | (simp [room]; done) | (simp [room]; omega)) ?_ | refine Nam.mk (List.length_map _) ?_ | refine Prep.skip ?_ | refine chk_t (x := D.flat _) (by assumption) ?_ | refine br_mk (fun _ => ?_) (fun _ => ?_) | refine ACall.of law29_sane ?_ | refine ACall.ofB (ref29_Few w s r) (fun h => absurd (of_decide_eq_true h) hF) (fun _ => ?_) | fail)
    all_goals (conv => whnf)
    exact (by repeat (first | exact trivial | exact rfl | exact DLe.refl _ | exact DLe.full _ _ _ | exact DLe.nil _ _ _ | exact VLe.refl _ | refine And.intro ?_ ?_ | refine VLe.d ?_ | refine DLe.agg ?_))
end Go.PM

