/- The law ClassesTableSpec, its contract. -/
import Derived.Test.YtbifaidepiejeaaLaw29c
import Derived.Test.YtbifaidepiejeaaRead29
namespace Go.PM
open Go.Proofs
set_option maxRecDepth 10000
set_option maxHeartbeats 1000000

theorem addRead_len (l : List Read) (z : Read) : (addRead l z).length ≤ l.length + 1 := by unfold addRead; split <;> simp
theorem addReads_len : ∀ (zs l : List Read), (zs.foldl addRead l).length ≤ l.length + zs.length
  | [], l => by simp
  | z :: zs, l => by
    have h1 := addReads_len zs (addRead l z)
    have h2 := addRead_len l z
    simp only [List.foldl_cons, List.length_cons]; omega
theorem rowReads_len (w : AWorld) (x : Supply) (known : Int) : ∀ (r : List Request) (l : List Read), (rowReads w x r known l).length ≤ l.length + r.length
  | [], l => by simp [rowReads]
  | y :: r, l => by
    have h1 := rowReads_len w x known r ((fitsM w x y known).2.foldl addRead l)
    have h2 := addReads_len (fitsM w x y known).2 l
    have h3 := fitsM_few w x y known
    unfold rowReads at h1 ⊢
    simp only [List.foldl_cons, List.length_cons]; omega
theorem allReads_len (w : AWorld) (known : Int) (r : List Request) : ∀ (s : List Supply) (l : List Read), (allReads w s r known l).length ≤ l.length + s.length * r.length
  | [], l => by simp [allReads]
  | x :: s, l => by
    have h1 := allReads_len w known r s (rowReads w x r known l)
    have h2 := rowReads_len w x known r l
    unfold allReads at h1 ⊢
    simp only [List.foldl_cons, List.length_cons, Nat.succ_mul]; omega
theorem tableM_reads (w : AWorld) (s : List Supply) (r : List Request) (known : Int) : (tableM w s r known).reads.length ≤ s.length * r.length := by
  unfold tableM
  split
  · have := allReads_len w known r s []
    simpa using this
  · simp
theorem tableM_rows (w : AWorld) (s : List Supply) (r : List Request) (known : Int) : ∀ x ∈ (tableM w s r known).fits, x.length = r.length := by
  intro x hx
  unfold tableM at hx
  split at hx
  · simp only [List.mem_map] at hx
    obtain ⟨y, _, rfl⟩ := hx
    simp [rowM]
  · cases hx
theorem tableM_fits (w : AWorld) (s : List Supply) (r : List Request) (known : Int) : (tableM w s r known).fits.length ≤ s.length := by
  unfold tableM
  split <;> simp

theorem law29_TableSpec (w : AWorld) (s : List Supply) (r : List Request) (known : Int) : CallP Try.prog 3 [.d w.d, .d (SL 6 (s.map Supply.d)), .d (SL 6 (r.map Request.d)), .d (I known)] (retD [.b true]) := by
  refine exPure_sound (E := envOf Try.prog tt Try.f3.ntmps) (envOf_ok ttok mixed) Try.func3 (by rfl) rfl rfl (Nat.le_of_ble_eq_true rfl) ?_
  by_cases hF : w.facts.length ≤ 30 ∧ w.swaps.length ≤ 12 ∧ s.length ≤ 8 ∧ r.length ≤ 8
  · obtain ⟨h1, h2, h3, h4⟩ := hF
    have hrow := tableM_rows w s r known
    have hreads : (tableM w s r known).reads.length ≤ 64 := Nat.le_trans (tableM_reads w s r known) (show _ ≤ 8 * 8 from Nat.mul_le_mul h3 h4)
    have hfits := tableM_fits w s r known
    repeat' ((conv => whnf); first | with_reducible refine Dec.t (show true = true from rfl) ?_ | with_reducible refine Dec.t (show false = false from rfl) ?_ | with_reducible refine Dec.f (show ¬ (true = false) by decide) ?_ | with_reducible refine Dec.f (show ¬ (false = true) by decide) ?_ | refine Dec.t (by omega) ?_ | refine Dec.f (by omega) ?_ | refine Dec.split (fun _ => ?_) (fun _ => ?_) | refine Wr.id (by omega) ?_ | refine Chk.mk (by first | omega | exact rfl | (simp only [List.length_map]; omega) | (simp [room]; done) | (simp [room]; omega) | (exact ⟨rfl, by simp [dropL]⟩)) ?_ | refine Nam.mk (List.length_map _) ?_ | refine Prep.skip ?_ | refine chk_t (x := D.flat _) (by assumption) ?_ | refine br_mk (fun _ => ?_) (fun _ => ?_) | refine ACall.ofB law29_sane (fun _ => ?_) (fun h => by cases h) | refine ACall.ofB (ref29_Few w s r) (fun _ => ?_) (fun h => absurd (of_decide_eq_false h) (by simp; omega)) | refine ACall.of (classes_Table w s r known (by omega) (by omega) (by omega) (by omega)) ?_ | refine ACall.of (ref29_Table w s r known (by omega) (by omega) (by omega) (by omega)) ?_)
    conv => whnf
    refine ACall.ofB (ref29_SameTable _ _ (by omega) (fun x hx => by have := hrow x hx; omega)) (fun _ => ?_) (fun h => absurd rfl (of_decide_eq_false h))
    repeat' ((conv => whnf); first | with_reducible refine Dec.t (show true = true from rfl) ?_ | with_reducible refine Dec.t (show false = false from rfl) ?_ | with_reducible refine Dec.f (show ¬ (true = false) by decide) ?_ | with_reducible refine Dec.f (show ¬ (false = true) by decide) ?_ | refine Dec.t (by omega) ?_ | refine Dec.f (by omega) ?_ | refine Dec.split (fun _ => ?_) (fun _ => ?_) | refine Wr.id (by omega) ?_ | refine Chk.mk (by first | omega | exact rfl | (simp only [List.length_map]; omega) | (simp [room]; done) | (simp [room]; omega) | (exact ⟨rfl, by simp [dropL]⟩)) ?_ | refine Nam.mk (List.length_map _) ?_ | refine Prep.skip ?_ | refine chk_t (x := D.flat _) (by assumption) ?_ | refine br_mk (fun _ => ?_) (fun _ => ?_) | refine ACall.ofB (ref04_SameReads _ _ (by omega)) (fun _ => ?_) (fun h => absurd rfl (of_decide_eq_false h)))
    conv => whnf
    refine ALoop.at (E := envOf Try.prog tt Try.f3.ntmps) (envOf_ok ttok mixed) (X := Nat) (fun i => [(65, .d (I i))]) (fun _ => []) (fun i => i ≤ s.length) (fun i => s.length - i) 0 (by repeat (first | exact trivial | refine And.intro rfl ?_ | refine And.intro (congrArg (fun n => V.d (I n)) (wrap_nat _ (by omega))) ?_)) rfl (Nat.zero_le _) ?_
    intro i hi
    by_cases hlt : i < s.length
    · obtain ⟨x, hx, _⟩ := drop_get hlt
      repeat' ((conv => whnf); first | with_reducible refine Dec.t (show true = true from rfl) ?_ | with_reducible refine Dec.t (show false = false from rfl) ?_ | with_reducible refine Dec.f (show ¬ (true = false) by decide) ?_ | with_reducible refine Dec.f (show ¬ (false = true) by decide) ?_ | refine Dec.t (by omega) ?_ | refine Dec.f (by omega) ?_ | refine Dec.split (fun _ => ?_) (fun _ => ?_) | refine Wr.id (by omega) ?_ | refine Chk.mk (by first | omega | exact rfl | (simp only [List.length_map]; omega) | (simp [room]; done) | (simp [room]; omega) | (exact ⟨rfl, by simp [dropL]⟩)) ?_ | refine Nam.mk (List.length_map _) ?_ | refine Prep.skip ?_ | refine chk_t (x := D.flat _) (by assumption) ?_ | refine br_mk (fun _ => ?_) (fun _ => ?_) | refine nthK_mk (map_get hx) ?_)
      conv => whnf
      refine ALoop.at (E := envOf Try.prog tt Try.f3.ntmps) (envOf_ok ttok mixed) (X := Nat) (fun i => [(71, .d (I i))]) (fun _ => []) (fun i => i ≤ r.length) (fun i => r.length - i) 0 (by repeat (first | exact trivial | refine And.intro rfl ?_ | refine And.intro (congrArg (fun n => V.d (I n)) (wrap_nat _ (by omega))) ?_)) rfl (Nat.zero_le _) ?_
      intro j hj
      by_cases hjl : j < r.length
      · obtain ⟨y, hy, _⟩ := drop_get hjl
        have hl := fitsM_few w x y known
        repeat' ((conv => whnf); first | with_reducible refine Dec.t (show true = true from rfl) ?_ | with_reducible refine Dec.t (show false = false from rfl) ?_ | with_reducible refine Dec.f (show ¬ (true = false) by decide) ?_ | with_reducible refine Dec.f (show ¬ (false = true) by decide) ?_ | refine Dec.t (by omega) ?_ | refine Dec.f (by omega) ?_ | refine Dec.split (fun _ => ?_) (fun _ => ?_) | refine Wr.id (by omega) ?_ | refine Chk.mk (by first | omega | exact rfl | (simp only [List.length_map]; omega) | (simp [room]; done) | (simp [room]; omega) | (exact ⟨rfl, by simp [dropL]⟩)) ?_ | refine Nam.mk (List.length_map _) ?_ | refine Prep.skip ?_ | refine chk_t (x := D.flat _) (by assumption) ?_ | refine br_mk (fun _ => ?_) (fun _ => ?_) | refine nthK_mk (map_get hx) ?_ | refine nthK_mk (map_get hy) ?_ | refine ACall.of (classes_Fits w x y known (by omega) (by omega)) ?_ | refine ACall.of (ref29_Fits w x y known (by omega) (by omega)) ?_ | refine ACall.ofB (ref04_SameReads _ _ (by omega)) (fun _ => ?_) (fun h => absurd rfl (of_decide_eq_false h)))
        all_goals (conv => whnf)
        · exact ⟨j + 1, Wm.end (by repeat (first | exact trivial | refine And.intro rfl ?_ | refine And.intro (congrArg (fun n => V.d (I n)) (wrap_nat _ (by omega))) ?_)) rfl rfl rfl, hjl, by omega⟩
        · rename_i h
          exact absurd rfl h
      · repeat' ((conv => whnf); first | with_reducible refine Dec.t (show true = true from rfl) ?_ | with_reducible refine Dec.t (show false = false from rfl) ?_ | with_reducible refine Dec.f (show ¬ (true = false) by decide) ?_ | with_reducible refine Dec.f (show ¬ (false = true) by decide) ?_ | refine Dec.t (by omega) ?_ | refine Dec.f (by omega) ?_ | refine Dec.split (fun _ => ?_) (fun _ => ?_) | refine Wr.id (by omega) ?_ | refine Chk.mk (by first | omega | exact rfl | (simp only [List.length_map]; omega) | (simp [room]; done) | (simp [room]; omega) | (exact ⟨rfl, by simp [dropL]⟩)) ?_ | refine Nam.mk (List.length_map _) ?_ | refine Prep.skip ?_ | refine chk_t (x := D.flat _) (by assumption) ?_ | refine br_mk (fun _ => ?_) (fun _ => ?_))
        conv => whnf
        exact ⟨i + 1, Wm.end (by repeat (first | exact trivial | refine And.intro rfl ?_ | refine And.intro (congrArg (fun n => V.d (I n)) (wrap_nat _ (by omega))) ?_)) rfl rfl rfl, hlt, by omega⟩
    · repeat' ((conv => whnf); first | with_reducible refine Dec.t (show true = true from rfl) ?_ | with_reducible refine Dec.t (show false = false from rfl) ?_ | with_reducible refine Dec.f (show ¬ (true = false) by decide) ?_ | with_reducible refine Dec.f (show ¬ (false = true) by decide) ?_ | refine Dec.t (by omega) ?_ | refine Dec.f (by omega) ?_ | refine Dec.split (fun _ => ?_) (fun _ => ?_) | refine Wr.id (by omega) ?_ | refine Chk.mk (by first | omega | exact rfl | (simp only [List.length_map]; omega) | (simp [room]; done) | (simp [room]; omega) | (exact ⟨rfl, by simp [dropL]⟩)) ?_ | refine Nam.mk (List.length_map _) ?_ | refine Prep.skip ?_ | refine chk_t (x := D.flat _) (by assumption) ?_ | refine br_mk (fun _ => ?_) (fun _ => ?_))
      conv => whnf
      exact (by repeat (first | exact trivial | exact rfl | exact DLe.refl _ | exact DLe.full _ _ _ | exact DLe.nil _ _ _ | exact VLe.refl _ | refine And.intro ?_ ?_ | refine VLe.d ?_ | refine DLe.agg ?_))
  · repeat' ((conv => whnf); first | with_reducible refine Dec.t (show true = true from rfl) ?_ | with_reducible refine Dec.t (show false = false from rfl) ?_ | with_reducible refine Dec.f (show ¬ (true = false) by decide) ?_ | with_reducible refine Dec.f (show ¬ (false = true) by decide) ?_ | refine Dec.t (by omega) ?_ | refine Dec.f (by omega) ?_ | refine Dec.split (fun _ => ?_) (fun _ => ?_) | refine Wr.id (by omega) ?_ | refine Chk.mk (by first | omega | exact rfl | (simp only [List.length_map]; omega) | (simp [room]; done) | (simp [room]; omega) | (exact ⟨rfl, by simp [dropL]⟩)) ?_ | refine Nam.mk (List.length_map _) ?_ | refine Prep.skip ?_ | refine chk_t (x := D.flat _) (by assumption) ?_ | refine br_mk (fun _ => ?_) (fun _ => ?_) | refine ACall.ofB law29_sane (fun _ => ?_) (fun h => by cases h) | refine ACall.ofB (ref29_Few w s r) (fun h => absurd (of_decide_eq_true h) hF) (fun _ => ?_))
    all_goals (conv => whnf)
    exact (by repeat (first | exact trivial | exact rfl | exact DLe.refl _ | exact DLe.full _ _ _ | exact DLe.nil _ _ _ | exact VLe.refl _ | refine And.intro ?_ ?_ | refine VLe.d ?_ | refine DLe.agg ?_))
end Go.PM

