/- The law ClassesReads, its contract. -/
import Derived.Test.YtbifaidepiejeaaL29a
import Derived.Test.YtbifaidepiejeaaF04c
namespace Go.PM
open Go.Proofs
set_option maxRecDepth 10000
set_option maxHeartbeats 1000000

theorem fitsM_reads (w : AWorld) (x : Supply) (y : Request) (a b : Int) : (fitsM w x y a).2 = (fitsM w x y b).2 := by
  unfold fitsM; split <;> rfl
theorem rowReads_same (w : AWorld) (x : Supply) (a b : Int) (r : List Request) (l : List Read) : rowReads w x r a l = rowReads w x r b l := by
  unfold rowReads
  congr 1
  funext l y
  rw [fitsM_reads w x y a b]
theorem allReads_same (w : AWorld) (s : List Supply) (r : List Request) (a b : Int) (l : List Read) : allReads w s r a l = allReads w s r b l := by
  unfold allReads
  congr 1
  funext l x
  rw [rowReads_same w x a b]
theorem addReads_mem : ∀ (zs l : List Read) (z : Read), z ∈ l ∨ z ∈ zs → z ∈ zs.foldl addRead l
  | [], l, z, h => by simpa using h
  | x :: zs, l, z, h => by
    rw [List.foldl_cons]
    refine addReads_mem zs _ z ?_
    have : z ∈ addRead l x ↔ z ∈ l ∨ z = x := by unfold addRead; split <;> simp_all
    rw [this]
    simp only [List.mem_cons] at h
    rcases h with h | h | h
    · exact .inl (.inl h)
    · exact .inl (.inr h)
    · exact .inr h
theorem rowReads_mem (w : AWorld) (x : Supply) (k : Int) : ∀ (r : List Request) (l : List Read) (z : Read), (z ∈ l ∨ ∃ y ∈ r, z ∈ (fitsM w x y k).2) → z ∈ rowReads w x r k l
  | [], l, z, h => by simpa [rowReads] using h
  | y :: r, l, z, h => by
    have : rowReads w x (y :: r) k l = rowReads w x r k ((fitsM w x y k).2.foldl addRead l) := rfl
    rw [this]
    refine rowReads_mem w x k r _ z ?_
    rcases h with h | ⟨q, hq, h⟩
    · exact .inl (addReads_mem _ _ _ (.inl h))
    · rcases List.mem_cons.1 hq with rfl | hq
      · exact .inl (addReads_mem _ _ _ (.inr h))
      · exact .inr ⟨q, hq, h⟩
theorem allReads_mem (w : AWorld) (r : List Request) (k : Int) : ∀ (s : List Supply) (l : List Read) (z : Read), (z ∈ l ∨ ∃ x ∈ s, ∃ y ∈ r, z ∈ (fitsM w x y k).2) → z ∈ allReads w s r k l
  | [], l, z, h => by simpa [allReads] using h
  | x :: s, l, z, h => by
    have : allReads w (x :: s) r k l = allReads w s r k (rowReads w x r k l) := rfl
    rw [this]
    refine allReads_mem w r k s _ z ?_
    rcases h with h | ⟨q, hq, y, hy, h⟩
    · exact .inl (rowReads_mem _ _ _ _ _ _ (.inl h))
    · rcases List.mem_cons.1 hq with rfl | hq
      · exact .inl (rowReads_mem _ _ _ _ _ _ (.inr ⟨y, hy, h⟩))
      · exact .inr ⟨q, hq, y, hy, h⟩

theorem alike_at {l : List Fact} {k : Key} {d a b : Int} (h0 : 0 ≤ d) (h1 : d ≤ 1023) (h : valuesM l k d (d + 1) a = valuesM l k d (d + 1) b) : atM l k d a = atM l k d b := by
  have hl : lo0 d = d := by unfold lo0; rw [if_neg (by omega)]
  have hn : daysN d (d + 1) = 1 := by unfold daysN; rw [hl]; unfold hi0; rw [if_neg (by omega)]; omega
  unfold valuesM at h
  rw [hn, hl] at h
  simp only [List.range_one, List.map_cons, List.map_nil, List.cons.injEq, and_true, Int.natCast_zero, Int.add_zero] at h
  unfold atM
  rw [valOf_vOf, valOf_vOf, h]

theorem table_alike (w : AWorld) (s : List Supply) (r : List Request) (a b : Int) (hok : tableOk s r) (h : alikeM w.facts (allReads w s r a []) a b) : (s.map fun x => rowM w x r a) = s.map fun x => rowM w x r b := by
  refine List.map_congr_left fun x hx => ?_
  unfold rowM
  refine List.map_congr_left fun y hy => ?_
  have hxo := hok.2.1 x hx
  have hyo := hok.2.2 y hy
  by_cases hc : couldM w x y
  · have hz := h (lookM x y) (allReads_mem w r a s [] _ (.inr ⟨x, hx, y, hy, by rw [fitsM_could hxo hyo hc]; exact .head _⟩))
    have hat := alike_at (d := y.due) (by have := hyo; unfold Request.ok at this; omega) (by have := hyo; unfold Request.ok at this; omega) hz
    rw [fitsM_could hxo hyo hc, fitsM_could hxo hyo hc]
    have : refusedM w (lookM x y) a ↔ refusedM w (lookM x y) b := by unfold refusedM; rw [show (lookM x y).from_ = y.due from rfl, hat]
    simp only [this]
  · rw [fitsM_not hc, fitsM_not hc]

theorem law29_Reads (w : AWorld) (s : List Supply) (r : List Request) (a b : Int) : CallP Try.prog 9 [.d w.d, .d (SL 6 (s.map Supply.d)), .d (SL 6 (r.map Request.d)), .d (I a), .d (I b)] (retD [.b true]) := by
  refine exPure_sound (E := envOf Try.prog tt Try.f9.ntmps) (envOf_ok ttok mixed) Try.func9 (by rfl) rfl rfl (Nat.le_of_ble_eq_true rfl) ?_
  by_cases hF : w.facts.length ≤ 30 ∧ w.swaps.length ≤ 12 ∧ s.length ≤ 8 ∧ r.length ≤ 8
  · obtain ⟨h1, h2, h3, h4⟩ := hF
    have hTa := classes_Table w s r a (by omega) (by omega) (by omega) (by omega)
    have hTb := classes_Table w s r b (by omega) (by omega) (by omega) (by omega)
    by_cases hok : tableOk s r
    · have ha : tableM w s r a = ⟨s.map fun x => rowM w x r a, allReads w s r a [], 0⟩ := by unfold tableM; rw [if_pos hok]
      have hb : tableM w s r b = ⟨s.map fun x => rowM w x r b, allReads w s r a [], 0⟩ := by unfold tableM; rw [if_pos hok, allReads_same w s r a b]
      have hal := table_alike w s r a b hok
      have hreads : (allReads w s r a []).length ≤ 64 := Nat.le_trans (allReads_len w a r s []) (by simp only [List.length_nil, Nat.zero_add]; exact (show _ ≤ 8 * 8 from Nat.mul_le_mul h3 h4))
      rw [ha] at hTa
      rw [hb] at hTb
      simp only [TM.d] at hTa hTb
      generalize allReads w s r a [] = rs at hTa hTb hal hreads
      have hrow : ∀ x ∈ (s.map fun x => rowM w x r a), x.length < 2 ^ 40 := fun x hx => by
        simp only [List.mem_map] at hx
        obtain ⟨y, _, rfl⟩ := hx
        simp [rowM]; omega
      have hfl : (s.map fun x => rowM w x r a).length < 2 ^ 40 := by simp; omega
      generalize (s.map fun x => rowM w x r a) = fa at hTa hal hrow hfl
      generalize (s.map fun x => rowM w x r b) = fb at hTb hal
      by_cases hA : alikeM w.facts rs a b
      · have e := hal hA
        subst e
        repeat' ((conv => whnf); first | with_reducible refine Dec.t (show true = true from rfl) ?_ | with_reducible refine Dec.t (show false = false from rfl) ?_ | with_reducible refine Dec.f (show ¬ (true = false) by decide) ?_ | with_reducible refine Dec.f (show ¬ (false = true) by decide) ?_ | refine Dec.t (by omega) ?_ | refine Dec.f (by omega) ?_ | refine Dec.split (fun _ => ?_) (fun _ => ?_) | refine Wr.id (by omega) ?_ | refine Chk.mk (by first | omega | exact rfl | (simp only [List.length_map]; omega) | (simp [room]; done) | (simp [room]; omega) | (simp [dropL, room]; done) | (simp [dropL, room]; omega)) ?_ | refine Nam.mk (List.length_map _) ?_ | refine Prep.skip ?_ | refine chk_t (x := D.flat _) (by assumption) ?_ | refine br_mk (fun _ => ?_) (fun _ => ?_) | refine ACall.of (law29_sane) ?_ | refine APCall.of (law29_sane) ?_ | refine ACall.ofB (ref29_Few w s r) (fun _ => ?_) (fun h => absurd (of_decide_eq_false h) (by simp; omega)) | refine ACall.of (hTa) ?_ | refine APCall.of (hTa) ?_ | refine ACall.of (hTb) ?_ | refine APCall.of (hTb) ?_ | refine ACall.ofB (ref04_SameReads _ _ (by omega)) (fun _ => ?_) (fun h => absurd rfl (of_decide_eq_false h)) | refine APCall.ofB (ref04_SameReads _ _ (by omega)) (fun _ => ?_) (fun h => absurd rfl (of_decide_eq_false h)) | refine ACall.ofB (facts_Alike w.facts rs a b (by omega) (by omega)) (fun _ => ?_) (fun h => absurd hA (of_decide_eq_false h)) | refine ACall.ofB (ref29_SameTable _ _ hfl hrow) (fun _ => ?_) (fun h => absurd rfl (of_decide_eq_false h)) | refine APCall.ofB (ref29_SameTable _ _ hfl hrow) (fun _ => ?_) (fun h => absurd rfl (of_decide_eq_false h)) | fail)
        all_goals (conv => whnf)
        exact (by repeat (first | exact trivial | exact rfl | exact DLe.refl _ | exact DLe.full _ _ _ | exact DLe.nil _ _ _ | exact VLe.refl _ | refine And.intro ?_ ?_ | refine VLe.d ?_ | refine DLe.agg ?_))
      · repeat' ((conv => whnf); first | with_reducible refine Dec.t (show true = true from rfl) ?_ | with_reducible refine Dec.t (show false = false from rfl) ?_ | with_reducible refine Dec.f (show ¬ (true = false) by decide) ?_ | with_reducible refine Dec.f (show ¬ (false = true) by decide) ?_ | refine Dec.t (by omega) ?_ | refine Dec.f (by omega) ?_ | refine Dec.split (fun _ => ?_) (fun _ => ?_) | refine Wr.id (by omega) ?_ | refine Chk.mk (by first | omega | exact rfl | (simp only [List.length_map]; omega) | (simp [room]; done) | (simp [room]; omega) | (simp [dropL, room]; done) | (simp [dropL, room]; omega)) ?_ | refine Nam.mk (List.length_map _) ?_ | refine Prep.skip ?_ | refine chk_t (x := D.flat _) (by assumption) ?_ | refine br_mk (fun _ => ?_) (fun _ => ?_) | refine ACall.of (law29_sane) ?_ | refine APCall.of (law29_sane) ?_ | refine ACall.ofB (ref29_Few w s r) (fun _ => ?_) (fun h => absurd (of_decide_eq_false h) (by simp; omega)) | refine ACall.of (hTa) ?_ | refine APCall.of (hTa) ?_ | refine ACall.of (hTb) ?_ | refine APCall.of (hTb) ?_ | refine ACall.ofB (ref04_SameReads _ _ (by omega)) (fun _ => ?_) (fun h => absurd rfl (of_decide_eq_false h)) | refine APCall.ofB (ref04_SameReads _ _ (by omega)) (fun _ => ?_) (fun h => absurd rfl (of_decide_eq_false h)) | refine ACall.ofB (facts_Alike w.facts rs a b (by omega) (by omega)) (fun h => absurd (of_decide_eq_true h) hA) (fun _ => ?_) | fail)
        all_goals (conv => whnf)
        exact (by repeat (first | exact trivial | exact rfl | exact DLe.refl _ | exact DLe.full _ _ _ | exact DLe.nil _ _ _ | exact VLe.refl _ | refine And.intro ?_ ?_ | refine VLe.d ?_ | refine DLe.agg ?_))
    · have ha : ∀ k, tableM w s r k = ⟨[], [], 290⟩ := fun k => by unfold tableM; rw [if_neg hok]
      rw [ha] at hTa hTb
      simp only [TM.d, List.map_nil] at hTa hTb
      repeat' ((conv => whnf); first | with_reducible refine Dec.t (show true = true from rfl) ?_ | with_reducible refine Dec.t (show false = false from rfl) ?_ | with_reducible refine Dec.f (show ¬ (true = false) by decide) ?_ | with_reducible refine Dec.f (show ¬ (false = true) by decide) ?_ | refine Dec.t (by omega) ?_ | refine Dec.f (by omega) ?_ | refine Dec.split (fun _ => ?_) (fun _ => ?_) | refine Wr.id (by omega) ?_ | refine Chk.mk (by first | omega | exact rfl | (simp only [List.length_map]; omega) | (simp [room]; done) | (simp [room]; omega) | (simp [dropL, room]; done) | (simp [dropL, room]; omega)) ?_ | refine Nam.mk (List.length_map _) ?_ | refine Prep.skip ?_ | refine chk_t (x := D.flat _) (by assumption) ?_ | refine br_mk (fun _ => ?_) (fun _ => ?_) | refine ACall.of (law29_sane) ?_ | refine APCall.of (law29_sane) ?_ | refine ACall.ofB (ref29_Few w s r) (fun _ => ?_) (fun h => absurd (of_decide_eq_false h) (by simp; omega)) | refine ACall.of (hTa) ?_ | refine APCall.of (hTa) ?_ | refine ACall.of (hTb) ?_ | refine APCall.of (hTb) ?_ | refine Nam.mk (y := 0) rfl ?_ | fail)
      all_goals (conv => whnf)
      exact (by repeat (first | exact trivial | exact rfl | exact DLe.refl _ | exact DLe.full _ _ _ | exact DLe.nil _ _ _ | exact VLe.refl _ | refine And.intro ?_ ?_ | refine VLe.d ?_ | refine DLe.agg ?_))
  · repeat' ((conv => whnf); first | with_reducible refine Dec.t (show true = true from rfl) ?_ | with_reducible refine Dec.t (show false = false from rfl) ?_ | with_reducible refine Dec.f (show ¬ (true = false) by decide) ?_ | with_reducible refine Dec.f (show ¬ (false = true) by decide) ?_ | refine Dec.t (by omega) ?_ | refine Dec.f (by omega) ?_ | refine Dec.split (fun _ => ?_) (fun _ => ?_) | refine Wr.id (by omega) ?_ | refine Chk.mk (by first | omega | exact rfl | (simp only [List.length_map]; omega) | (simp [room]; done) | (simp [room]; omega) | (simp [dropL, room]; done) | (simp [dropL, room]; omega)) ?_ | refine Nam.mk (List.length_map _) ?_ | refine Prep.skip ?_ | refine chk_t (x := D.flat _) (by assumption) ?_ | refine br_mk (fun _ => ?_) (fun _ => ?_) | refine ACall.of (law29_sane) ?_ | refine APCall.of (law29_sane) ?_ | refine ACall.ofB (ref29_Few w s r) (fun h => absurd (of_decide_eq_true h) hF) (fun _ => ?_) | fail)
    all_goals (conv => whnf)
    exact (by repeat (first | exact trivial | exact rfl | exact DLe.refl _ | exact DLe.full _ _ _ | exact DLe.nil _ _ _ | exact VLe.refl _ | refine And.intro ?_ ?_ | refine VLe.d ?_ | refine DLe.agg ?_))
end Go.PM

