/- QualityMore, its contract. -/
import Derived.Test.YtoliiomecffacaaDoorL40c
namespace Go.PM
open Go.Proofs
set_option maxRecDepth 10000
set_option maxHeartbeats 8000000

theorem incr_mono {m n : Int} (h : m ≤ n) : ∀ {l : List Int}, incr n l → incr m l
  | [], _ => trivial
  | x :: r, hx => ⟨⟨by have := hx.1.1; omega, hx.1.2⟩, hx.2⟩
theorem incr_sub {l' l : List Int} (hs : l'.Sublist l) : ∀ {n : Int}, incr n l → incr n l' := by
  induction hs with
  | slnil => exact fun h => h
  | cons x _ ih => exact fun h => incr_mono (by have := h.1.1; omega) (ih h.2)
  | cons_cons x _ ih => exact fun h => ⟨h.1, ih h.2⟩
theorem incr_ge : ∀ {l : List Int} {n : Int}, incr n l → ∀ x ∈ l, n + 1 ≤ x
  | y :: l, n, h, x, hx => by
    rcases List.mem_cons.1 hx with rfl | hx
    · have := h.1.1; omega
    · have := incr_ge h.2 x hx; have := h.1.1; omega
theorem incr_snoc {x : Int} (hx : x ≤ 1023) : ∀ {l : List Int} {n : Int}, incr n l → n < x → (∀ y, l.getLast? = some y → y < x) → incr n (l ++ [x])
  | [], n, _, h1, _ => ⟨⟨h1, hx⟩, trivial⟩
  | [a], n, h, _, h2 => ⟨h.1, ⟨h2 a rfl, hx⟩, trivial⟩
  | a :: b :: r, n, h, h1, h2 => ⟨h.1, incr_snoc hx h.2 (by
      have h3 := h2
      have : ∀ {l : List Int} {n : Int}, incr n l → ∀ y, l.getLast? = some y → n < y := by
        intro l
        induction l with
        | nil => intro n _ y hy; cases hy
        | cons c l ih =>
          intro n h y hy
          cases l with
          | nil => cases hy; exact h.1.1
          | cons d l => exact Int.lt_trans h.1.1 (ih h.2 y (by simpa using hy))
      obtain ⟨y, hy⟩ : ∃ y, (b :: r).getLast? = some y := ⟨_, List.getLast?_eq_some_getLast (by simp)⟩
      have g1 := this h.2 y hy
      have g2 := h2 y (by simpa using hy)
      omega) (fun y hy => h2 y (by simpa using hy))⟩
theorem more_held (w : AWorld) (lot day known o : Int) (l : List Spec) (held : List Int) (hok : specsOk l ∧ lotsOk held) (hok' : lotsOk (held ++ [o])) :
    (¬ o = lot → (stateM w lot day known l (held ++ [o])).1 = (stateM w lot day known l held).1) ∧ (o = lot → (stateM w lot day known l (held ++ [o])).1 = 2 ∨ (stateM w lot day known l (held ++ [o])).1 = 3) ∧ (stateM w lot day known l (held ++ [o])).2.2 = 0 := by
  have hokk : specsOk l ∧ lotsOk (held ++ [o]) := ⟨hok.1, hok'⟩
  unfold stateM
  simp only [if_pos hok, if_pos hokk]
  by_cases ho : (lotM w lot day known).ok = true
  · simp only [if_pos ho]
    refine ⟨fun h => ?_, fun h => ?_, trivial⟩
    · have : lot ∈ held ++ [o] ↔ lot ∈ held := by simp [Ne.symm h]
      simp only [this]
    · have : lot ∈ held ++ [o] := by simp [h]
      simp only [this, or_true, if_true]
      by_cases h3 : (lotM w lot day known).l.state = 3
      · simp [h3]
      · simp [h3]
  · simp only [if_neg ho]
    exact ⟨fun _ => trivial, fun _ => .inr trivial, trivial⟩
theorem more_less (w : AWorld) (lot day known : Int) (l l' : List Spec) (held : List Int) (hok : specsOk l ∧ lotsOk held) (hok' : specsOk l') (hall : l.all (goodC w lot day known) = true → l'.all (goodC w lot day known) = true) :
    ((stateM w lot day known l held).1 = 0 → (stateM w lot day known l' held).1 = 0) ∧ (stateM w lot day known l' held).2.2 = 0 := by
  have hokk : specsOk l' ∧ lotsOk held := ⟨hok', hok.2⟩
  unfold stateM
  simp only [if_pos hok, if_pos hokk]
  by_cases ho : (lotM w lot day known).ok = true
  · have hd : 0 ≤ day ∧ day < 1024 := by
      unfold lotM at ho
      by_cases h : 0 ≤ day ∧ day < 1024
      · exact h
      · rw [if_neg h] at ho; cases ho
    simp only [if_pos ho]
    rw [(certF_true w lot day known hd l ⟨[], true, []⟩).2, (certF_true w lot day known hd l' ⟨[], true, []⟩).2]
    simp only [Bool.true_and]
    refine ⟨fun h => ?_, trivial⟩
    by_cases h3 : (lotM w lot day known).l.state = 3
    · rw [if_pos h3] at h; omega
    · rw [if_neg h3] at h ⊢
      by_cases h2 : (lotM w lot day known).l.state = 2 ∨ lot ∈ held
      · rw [if_pos h2] at h; omega
      · rw [if_neg h2] at h ⊢
        by_cases h1 : (lotM w lot day known).l.state = 1 ∨ (lotM w lot day known).l.expiry ≤ day ∨ l.all (goodC w lot day known) = false
        · rw [if_pos h1] at h; omega
        · rw [not_or, not_or] at h1
          rw [if_neg]
          rw [hall (by simpa using h1.2.2)]
          rintro (q | q | q)
          · exact h1.1 q
          · exact h1.2.1 q
          · cases q
  · simp only [if_neg ho]
    exact ⟨fun h => h, trivial⟩
theorem specs_less {l : List Spec} {k : Nat} (h : specsOk l) : specsOk (l.take k ++ l.drop (k + 1)) := by
  have hs : (l.take k ++ l.drop (k + 1)).Sublist l := by rw [← List.eraseIdx_eq_take_drop_succ]; exact List.eraseIdx_sublist _ _
  exact ⟨Nat.le_trans hs.length_le h.1, fun s hm => h.2.1 s (hs.subset hm), incr_sub (hs.map _) h.2.2⟩
theorem good_less {l : List Spec} {k : Nat} {g : Spec → Bool} (h : l.all g = true) : (l.take k ++ l.drop (k + 1)).all g = true := by
  have hs : (l.take k ++ l.drop (k + 1)).Sublist l := by rw [← List.eraseIdx_eq_take_drop_succ]; exact List.eraseIdx_sublist _ _
  rw [List.all_eq_true] at h ⊢
  exact fun x hx => h x (hs.subset hx)
theorem specs_wide {l : List Spec} {k : Nat} {s : Spec} {b : Int} (hk : l[k]? = some s) (hb : 0 ≤ b) (h : specsOk l) : specsOk (l.set k ⟨s.test, s.lo - b, s.hi + b⟩) := by
  refine ⟨by simpa using h.1, fun x hx => ?_, ?_⟩
  · rcases List.mem_or_eq_of_mem_set hx with hx | rfl
    · exact h.2.1 x hx
    · have := h.2.1 s (List.mem_of_getElem? hk); simp only; omega
  · have : (l.set k ⟨s.test, s.lo - b, s.hi + b⟩).map Spec.test = l.map Spec.test := by
      rw [List.map_set]
      have hk' : (l.map Spec.test)[k]? = some s.test := by rw [List.getElem?_map, hk]; rfl
      exact set_self hk'
    rw [this]; exact h.2.2
theorem good_wide {w : AWorld} {lot day known : Int} {l : List Spec} {k : Nat} {s : Spec} {b : Int} (hk : l[k]? = some s) (hb : 0 ≤ b) (h : l.all (goodC w lot day known) = true) : (l.set k ⟨s.test, s.lo - b, s.hi + b⟩).all (goodC w lot day known) = true := by
  rw [List.all_eq_true] at h ⊢
  intro x hx
  rcases List.mem_or_eq_of_mem_set hx with hx | rfl
  · exact h x hx
  · have := h s (List.mem_of_getElem? hk)
    unfold goodC at this ⊢
    simp only
    split at this
    · simp at this ⊢; omega
    · cases this

theorem setK_mk' {α : Type} {y : α} {xs zs : List α} {n : Nat} {k : List α → Prop} (h : n < xs.length) (e : xs.set n y = zs) (hk : k zs) : setK xs n y k := setK_mk h (by rw [e]; exact hk)
theorem law40_More (w : AWorld) (lot day known : Int) (l : List Spec) (held : List Int) (at_ by_ : Int) (hat : 0 ≤ at_ ∧ at_ ≤ 255) : CallP Tryd.prog 6 [.d w.d, .d (I lot), .d (I day), .d (I known), .d (SL 3 (l.map Spec.d)), .d (SL 1 (held.map I)), .d (.i .u8 at_), .d (I by_)] (retD [.b true]) := by
  refine exPure_sound (E := envOf Tryd.prog tt Tryd.f6.ntmps) (envOf_ok ttok mixed) Tryd.func6 (by rfl) rfl rfl (Nat.le_of_ble_eq_true rfl) ?_
  have hFew := ref40_Few w l held
  by_cases hs : w.facts.length ≤ 60 ∧ l.length ≤ 20 ∧ held.length ≤ 20
  · rw [decide_eq_true hs] at hFew
    have h3 := quality_State w lot day known l held (by omega) (by omega) (by omega)
    by_cases hok : specsOk l ∧ lotsOk held
    · have he : (stateM w lot day known l held).2.2 = 0 := by unfold stateM; rw [if_pos hok]; split <;> rfl
      rw [he] at h3
      have hmore := fun o => more_held w lot day known o l held hok
      have hless := fun l' => more_less w lot day known l l' held hok
      generalize stateM w lot day known l held = m at h3 hmore hless
      obtain ⟨sv, rds, _⟩ := m
      simp only at h3 hmore hless
      have htm : 0 < l.length → 0 ≤ at_.tmod l.length ∧ at_.tmod l.length < l.length := fun h => ⟨Int.tmod_nonneg _ hat.1, Int.tmod_lt_of_pos _ (by omega)⟩
      by_cases hnil : held.length = 0
      · repeat' ((conv => whnf); first | with_reducible refine Dec.t (show true = true from rfl) ?_ | with_reducible refine Dec.t (show false = false from rfl) ?_ | with_reducible refine Dec.f (show ¬ (true = false) by decide) ?_ | with_reducible refine Dec.f (show ¬ (false = true) by decide) ?_ | refine Dec.t (by omega) ?_ | refine Dec.f (by omega) ?_ | refine Dec.split (fun _ => ?_) (fun _ => ?_) | refine Wr.id (by omega) ?_ | refine Chk.mk (by first | omega | exact rfl | (simp only [List.length_map]; omega) | (simp [room]; done) | (simp [room]; omega) | (simp [dropL, room]; done) | (simp [dropL, room]; omega)) ?_ | refine Nam.mk (List.length_map _) ?_ | refine Prep.skip ?_ | refine chk_t (x := D.flat _) (by assumption) ?_ | refine br_mk (fun _ => ?_) (fun _ => ?_) | refine ACall.of (law40_sane) ?_ | refine APCall.of (law40_sane) ?_ | refine ACall.of hFew ?_ | refine ACall.of h3 ?_ | fail)
        all_goals (conv => whnf)
        all_goals first | exact DLe.refl _ | skip
        have hpos : 0 < l.length := by omega
        have hkl : (at_.tmod ↑l.length).toNat < l.length := by have := htm hpos; omega
        obtain ⟨y, hy⟩ : ∃ y, l[(at_.tmod ↑l.length).toNat]? = some y := ⟨_, List.getElem?_eq_getElem hkl⟩
        have hy0 : ([] ++ l.map Spec.d)[0 + (at_.tmod ↑l.length).toNat]? = some y.d := by rw [List.nil_append, Nat.zero_add]; exact map_get hy
        have hyl : y.lo ≤ y.hi := hok.1.2.1 y (List.mem_of_getElem? hy)
        have e1 : ([] ++ l.map Spec.d).set (0 + (at_.tmod ↑l.length).toNat) (.agg [I y.test, I (y.lo - by_), I y.hi]) = (l.set (at_.tmod ↑l.length).toNat ⟨y.test, y.lo - by_, y.hi⟩).map Spec.d := by rw [List.nil_append, Nat.zero_add, List.map_set]; rfl
        have hy1 : ((l.set (at_.tmod ↑l.length).toNat ⟨y.test, y.lo - by_, y.hi⟩).map Spec.d)[0 + (at_.tmod ↑l.length).toNat]? = some (Spec.d ⟨y.test, y.lo - by_, y.hi⟩) := by rw [Nat.zero_add, List.getElem?_map, List.getElem?_set_self hkl]; rfl
        have e2 : ((l.set (at_.tmod ↑l.length).toNat ⟨y.test, y.lo - by_, y.hi⟩).map Spec.d).set (0 + (at_.tmod ↑l.length).toNat) (.agg [I y.test, I (y.lo - by_), I (y.hi + by_)]) = (l.set (at_.tmod ↑l.length).toNat ⟨y.test, y.lo - by_, y.hi + by_⟩).map Spec.d := by rw [Nat.zero_add, ← List.set_set (a := (⟨y.test, y.lo - by_, y.hi⟩ : Spec)) (b := ⟨y.test, y.lo - by_, y.hi + by_⟩), List.map_set, List.map_set, List.map_set]; rfl
        have e3 : (([] ++ List.take (at_.tmod ↑l.length).toNat (List.map Spec.d l)) ++ List.drop (at_.tmod ↑l.length + 1).toNat (List.map Spec.d l)) = (l.take (at_.tmod ↑l.length).toNat ++ l.drop ((at_.tmod ↑l.length).toNat + 1)).map Spec.d := by
          have := htm hpos
          rw [List.nil_append, List.map_append, List.map_take, List.map_drop, show (at_.tmod ↑l.length + 1).toNat = (at_.tmod ↑l.length).toNat + 1 by omega]
        have hl1 : (l.set (at_.tmod ↑l.length).toNat ⟨y.test, y.lo - by_, y.hi + by_⟩).length = l.length := by simp
        have hl2 : (l.take (at_.tmod ↑l.length).toNat ++ l.drop ((at_.tmod ↑l.length).toNat + 1)).length + 1 = l.length := by simp; omega
        have hA := quality_State w lot day known (l.take (at_.tmod ↑l.length).toNat ++ l.drop ((at_.tmod ↑l.length).toNat + 1)) held (by omega) (by omega) (by omega)
        have hB := quality_State w lot day known (l.set (at_.tmod ↑l.length).toNat ⟨y.test, y.lo - by_, y.hi + by_⟩) held (by omega) (by omega) (by omega)
        obtain ⟨q1, q2⟩ := hless _ (specs_less (k := (at_.tmod ↑l.length).toNat) hok.1) good_less
        obtain ⟨q3, q4⟩ := hless _ (specs_wide hy (show 0 ≤ by_ by omega) hok.1) (good_wide hy (show 0 ≤ by_ by omega))
        rw [q2] at hA
        rw [q4] at hB
        generalize stateM w lot day known (l.take (at_.tmod ↑l.length).toNat ++ l.drop ((at_.tmod ↑l.length).toNat + 1)) held = ma at hA q1 q2
        generalize stateM w lot day known (l.set (at_.tmod ↑l.length).toNat ⟨y.test, y.lo - by_, y.hi + by_⟩) held = mb at hB q3 q4
        obtain ⟨av, ars, _⟩ := ma
        obtain ⟨bv, brs, _⟩ := mb
        simp only at hA q1 q2 hB q3 q4
        clear hless hmore
        repeat' ((conv => whnf); first | with_reducible refine Dec.t (show true = true from rfl) ?_ | with_reducible refine Dec.t (show false = false from rfl) ?_ | with_reducible refine Dec.f (show ¬ (true = false) by decide) ?_ | with_reducible refine Dec.f (show ¬ (false = true) by decide) ?_ | refine Dec.t (by omega) ?_ | refine Dec.f (by omega) ?_ | refine Dec.split (fun _ => ?_) (fun _ => ?_) | refine Wr.id (by omega) ?_ | refine Chk.mk (by first | omega | exact rfl | (simp only [List.length_map]; omega) | (simp [room]; done) | (simp [room]; omega) | (simp [dropL, room]; done) | (simp [dropL, room]; omega)) ?_ | refine Nam.mk (List.length_map _) ?_ | refine Prep.skip ?_ | refine chk_t (x := D.flat _) (by assumption) ?_ | refine br_mk (fun _ => ?_) (fun _ => ?_) | refine nthK_mk hy0 ?_ | refine nthK_mk hy1 ?_ | refine setK_mk' (by simp; omega) e1 ?_ | refine setK_mk' (by simp; omega) e2 ?_ | refine ACall.of hA ?_ | refine ACall.of hB ?_ | refine Nam.mk ((whole (by simp [dropL])).trans e3) ?_ | refine Nam.mk (whole (by simp)) ?_ | refine ACall.lift ?_ | fail)
        all_goals (conv => whnf)
        all_goals first | exact DLe.refl _ | (exfalso; omega) | skip
      · obtain ⟨x, hx⟩ : ∃ x, held[((held.length : Int) - 1).toNat]? = some x := ⟨_, List.getElem?_eq_getElem (by omega)⟩
        have hxb : 0 ≤ x := incr_ge hok.2.2 x (List.mem_of_getElem? hx)
        have hlk : x < 1000 → lotsOk (held ++ [x + 1]) := fun h => ⟨by rw [List.length_append]; simp only [List.length_singleton]; omega, incr_snoc (by omega) hok.2.2 (by omega) fun y hy => by
          rw [List.getLast?_eq_getElem?, show held.length - 1 = ((held.length : Int) - 1).toNat by omega, hx] at hy
          cases hy; omega⟩
        have h5 := quality_State w lot day known l (held ++ [x + 1]) (by omega) (by rw [List.length_append]; simp only [List.length_singleton]; omega) (by omega)
        by_cases hx1 : x < 1000
        · obtain ⟨m1, m2, m3⟩ := hmore _ (hlk hx1)
          rw [m3] at h5
          generalize stateM w lot day known l (held ++ [x + 1]) = mm at h5 m1 m2 m3
          obtain ⟨tv, trs, _⟩ := mm
          simp only at h5 m1 m2 m3
          have hw : (([] ++ held.map I) ++ [I (x + 1)]) = (held ++ [x + 1]).map I := by simp
          repeat' ((conv => whnf); first | with_reducible refine Dec.t (show true = true from rfl) ?_ | with_reducible refine Dec.t (show false = false from rfl) ?_ | with_reducible refine Dec.f (show ¬ (true = false) by decide) ?_ | with_reducible refine Dec.f (show ¬ (false = true) by decide) ?_ | refine Dec.t (by omega) ?_ | refine Dec.f (by omega) ?_ | refine Dec.split (fun _ => ?_) (fun _ => ?_) | refine Wr.id (by omega) ?_ | refine Chk.mk (by first | omega | exact rfl | (simp only [List.length_map]; omega) | (simp [room]; done) | (simp [room]; omega) | (simp [dropL, room]; done) | (simp [dropL, room]; omega)) ?_ | refine Nam.mk (List.length_map _) ?_ | refine Prep.skip ?_ | refine chk_t (x := D.flat _) (by assumption) ?_ | refine br_mk (fun _ => ?_) (fun _ => ?_) | refine ACall.of (law40_sane) ?_ | refine APCall.of (law40_sane) ?_ | refine ACall.of hFew ?_ | refine ACall.of h3 ?_ | refine nthK_mk (map_get hx) ?_ | (refine APCall.fix 5 rfl rfl (by simp [dropL]) ?_ h5 ?_; exact ⟨VLe.refl _, VLe.refl _, VLe.refl _, VLe.refl _, VLe.refl _, VLe.d (by rw [show dropL ([] ++ List.map I held) 0 = [] ++ List.map I held from rfl, whole (by simp), hw]; exact DLe.refl _), rfl⟩) | fail)
          all_goals (conv => whnf)
          all_goals first | exact DLe.refl _ | (exfalso; omega) | skip
          all_goals clear h5 m1 m2 m3 hw
          all_goals
            have hpos : 0 < l.length := by omega
            have hkl : (at_.tmod ↑l.length).toNat < l.length := by have := htm hpos; omega
            obtain ⟨y, hy⟩ : ∃ y, l[(at_.tmod ↑l.length).toNat]? = some y := ⟨_, List.getElem?_eq_getElem hkl⟩
            have hy0 : ([] ++ l.map Spec.d)[0 + (at_.tmod ↑l.length).toNat]? = some y.d := by rw [List.nil_append, Nat.zero_add]; exact map_get hy
            have hyl : y.lo ≤ y.hi := hok.1.2.1 y (List.mem_of_getElem? hy)
            have e1 : ([] ++ l.map Spec.d).set (0 + (at_.tmod ↑l.length).toNat) (.agg [I y.test, I (y.lo - by_), I y.hi]) = (l.set (at_.tmod ↑l.length).toNat ⟨y.test, y.lo - by_, y.hi⟩).map Spec.d := by rw [List.nil_append, Nat.zero_add, List.map_set]; rfl
            have hy1 : ((l.set (at_.tmod ↑l.length).toNat ⟨y.test, y.lo - by_, y.hi⟩).map Spec.d)[0 + (at_.tmod ↑l.length).toNat]? = some (Spec.d ⟨y.test, y.lo - by_, y.hi⟩) := by rw [Nat.zero_add, List.getElem?_map, List.getElem?_set_self hkl]; rfl
            have e2 : ((l.set (at_.tmod ↑l.length).toNat ⟨y.test, y.lo - by_, y.hi⟩).map Spec.d).set (0 + (at_.tmod ↑l.length).toNat) (.agg [I y.test, I (y.lo - by_), I (y.hi + by_)]) = (l.set (at_.tmod ↑l.length).toNat ⟨y.test, y.lo - by_, y.hi + by_⟩).map Spec.d := by rw [Nat.zero_add, ← List.set_set (a := (⟨y.test, y.lo - by_, y.hi⟩ : Spec)) (b := ⟨y.test, y.lo - by_, y.hi + by_⟩), List.map_set, List.map_set, List.map_set]; rfl
            have e3 : (([] ++ List.take (at_.tmod ↑l.length).toNat (List.map Spec.d l)) ++ List.drop (at_.tmod ↑l.length + 1).toNat (List.map Spec.d l)) = (l.take (at_.tmod ↑l.length).toNat ++ l.drop ((at_.tmod ↑l.length).toNat + 1)).map Spec.d := by
              have := htm hpos
              rw [List.nil_append, List.map_append, List.map_take, List.map_drop, show (at_.tmod ↑l.length + 1).toNat = (at_.tmod ↑l.length).toNat + 1 by omega]
            have hl1 : (l.set (at_.tmod ↑l.length).toNat ⟨y.test, y.lo - by_, y.hi + by_⟩).length = l.length := by simp
            have hl2 : (l.take (at_.tmod ↑l.length).toNat ++ l.drop ((at_.tmod ↑l.length).toNat + 1)).length + 1 = l.length := by simp; omega
            have hA := quality_State w lot day known (l.take (at_.tmod ↑l.length).toNat ++ l.drop ((at_.tmod ↑l.length).toNat + 1)) held (by omega) (by omega) (by omega)
            have hB := quality_State w lot day known (l.set (at_.tmod ↑l.length).toNat ⟨y.test, y.lo - by_, y.hi + by_⟩) held (by omega) (by omega) (by omega)
            obtain ⟨q1, q2⟩ := hless _ (specs_less (k := (at_.tmod ↑l.length).toNat) hok.1) good_less
            obtain ⟨q3, q4⟩ := hless _ (specs_wide hy (show 0 ≤ by_ by omega) hok.1) (good_wide hy (show 0 ≤ by_ by omega))
            rw [q2] at hA
            rw [q4] at hB
            generalize stateM w lot day known (l.take (at_.tmod ↑l.length).toNat ++ l.drop ((at_.tmod ↑l.length).toNat + 1)) held = ma at hA q1 q2
            generalize stateM w lot day known (l.set (at_.tmod ↑l.length).toNat ⟨y.test, y.lo - by_, y.hi + by_⟩) held = mb at hB q3 q4
            obtain ⟨av, ars, _⟩ := ma
            obtain ⟨bv, brs, _⟩ := mb
            simp only at hA q1 q2 hB q3 q4
            clear hless hmore
            repeat' ((conv => whnf); first | with_reducible refine Dec.t (show true = true from rfl) ?_ | with_reducible refine Dec.t (show false = false from rfl) ?_ | with_reducible refine Dec.f (show ¬ (true = false) by decide) ?_ | with_reducible refine Dec.f (show ¬ (false = true) by decide) ?_ | refine Dec.t (by omega) ?_ | refine Dec.f (by omega) ?_ | refine Dec.split (fun _ => ?_) (fun _ => ?_) | refine Wr.id (by omega) ?_ | refine Chk.mk (by first | omega | exact rfl | (simp only [List.length_map]; omega) | (simp [room]; done) | (simp [room]; omega) | (simp [dropL, room]; done) | (simp [dropL, room]; omega)) ?_ | refine Nam.mk (List.length_map _) ?_ | refine Prep.skip ?_ | refine chk_t (x := D.flat _) (by assumption) ?_ | refine br_mk (fun _ => ?_) (fun _ => ?_) | refine nthK_mk hy0 ?_ | refine nthK_mk hy1 ?_ | refine setK_mk' (by simp; omega) e1 ?_ | refine setK_mk' (by simp; omega) e2 ?_ | refine ACall.of hA ?_ | refine ACall.of hB ?_ | refine Nam.mk ((whole (by simp [dropL])).trans e3) ?_ | refine Nam.mk (whole (by simp)) ?_ | refine ACall.lift ?_ | fail)
            all_goals (conv => whnf)
            all_goals first | exact DLe.refl _ | (exfalso; omega) | skip
        · repeat' ((conv => whnf); first | with_reducible refine Dec.t (show true = true from rfl) ?_ | with_reducible refine Dec.t (show false = false from rfl) ?_ | with_reducible refine Dec.f (show ¬ (true = false) by decide) ?_ | with_reducible refine Dec.f (show ¬ (false = true) by decide) ?_ | refine Dec.t (by omega) ?_ | refine Dec.f (by omega) ?_ | refine Dec.split (fun _ => ?_) (fun _ => ?_) | refine Wr.id (by omega) ?_ | refine Chk.mk (by first | omega | exact rfl | (simp only [List.length_map]; omega) | (simp [room]; done) | (simp [room]; omega) | (simp [dropL, room]; done) | (simp [dropL, room]; omega)) ?_ | refine Nam.mk (List.length_map _) ?_ | refine Prep.skip ?_ | refine chk_t (x := D.flat _) (by assumption) ?_ | refine br_mk (fun _ => ?_) (fun _ => ?_) | refine ACall.of (law40_sane) ?_ | refine APCall.of (law40_sane) ?_ | refine ACall.of hFew ?_ | refine ACall.of h3 ?_ | refine nthK_mk (map_get hx) ?_ | fail)
          all_goals (conv => whnf)
          all_goals first | exact DLe.refl _ | skip
          have hpos : 0 < l.length := by omega
          have hkl : (at_.tmod ↑l.length).toNat < l.length := by have := htm hpos; omega
          obtain ⟨y, hy⟩ : ∃ y, l[(at_.tmod ↑l.length).toNat]? = some y := ⟨_, List.getElem?_eq_getElem hkl⟩
          have hy0 : ([] ++ l.map Spec.d)[0 + (at_.tmod ↑l.length).toNat]? = some y.d := by rw [List.nil_append, Nat.zero_add]; exact map_get hy
          have hyl : y.lo ≤ y.hi := hok.1.2.1 y (List.mem_of_getElem? hy)
          have e1 : ([] ++ l.map Spec.d).set (0 + (at_.tmod ↑l.length).toNat) (.agg [I y.test, I (y.lo - by_), I y.hi]) = (l.set (at_.tmod ↑l.length).toNat ⟨y.test, y.lo - by_, y.hi⟩).map Spec.d := by rw [List.nil_append, Nat.zero_add, List.map_set]; rfl
          have hy1 : ((l.set (at_.tmod ↑l.length).toNat ⟨y.test, y.lo - by_, y.hi⟩).map Spec.d)[0 + (at_.tmod ↑l.length).toNat]? = some (Spec.d ⟨y.test, y.lo - by_, y.hi⟩) := by rw [Nat.zero_add, List.getElem?_map, List.getElem?_set_self hkl]; rfl
          have e2 : ((l.set (at_.tmod ↑l.length).toNat ⟨y.test, y.lo - by_, y.hi⟩).map Spec.d).set (0 + (at_.tmod ↑l.length).toNat) (.agg [I y.test, I (y.lo - by_), I (y.hi + by_)]) = (l.set (at_.tmod ↑l.length).toNat ⟨y.test, y.lo - by_, y.hi + by_⟩).map Spec.d := by rw [Nat.zero_add, ← List.set_set (a := (⟨y.test, y.lo - by_, y.hi⟩ : Spec)) (b := ⟨y.test, y.lo - by_, y.hi + by_⟩), List.map_set, List.map_set, List.map_set]; rfl
          have e3 : (([] ++ List.take (at_.tmod ↑l.length).toNat (List.map Spec.d l)) ++ List.drop (at_.tmod ↑l.length + 1).toNat (List.map Spec.d l)) = (l.take (at_.tmod ↑l.length).toNat ++ l.drop ((at_.tmod ↑l.length).toNat + 1)).map Spec.d := by
            have := htm hpos
            rw [List.nil_append, List.map_append, List.map_take, List.map_drop, show (at_.tmod ↑l.length + 1).toNat = (at_.tmod ↑l.length).toNat + 1 by omega]
          have hl1 : (l.set (at_.tmod ↑l.length).toNat ⟨y.test, y.lo - by_, y.hi + by_⟩).length = l.length := by simp
          have hl2 : (l.take (at_.tmod ↑l.length).toNat ++ l.drop ((at_.tmod ↑l.length).toNat + 1)).length + 1 = l.length := by simp; omega
          have hA := quality_State w lot day known (l.take (at_.tmod ↑l.length).toNat ++ l.drop ((at_.tmod ↑l.length).toNat + 1)) held (by omega) (by omega) (by omega)
          have hB := quality_State w lot day known (l.set (at_.tmod ↑l.length).toNat ⟨y.test, y.lo - by_, y.hi + by_⟩) held (by omega) (by omega) (by omega)
          obtain ⟨q1, q2⟩ := hless _ (specs_less (k := (at_.tmod ↑l.length).toNat) hok.1) good_less
          obtain ⟨q3, q4⟩ := hless _ (specs_wide hy (show 0 ≤ by_ by omega) hok.1) (good_wide hy (show 0 ≤ by_ by omega))
          rw [q2] at hA
          rw [q4] at hB
          generalize stateM w lot day known (l.take (at_.tmod ↑l.length).toNat ++ l.drop ((at_.tmod ↑l.length).toNat + 1)) held = ma at hA q1 q2
          generalize stateM w lot day known (l.set (at_.tmod ↑l.length).toNat ⟨y.test, y.lo - by_, y.hi + by_⟩) held = mb at hB q3 q4
          obtain ⟨av, ars, _⟩ := ma
          obtain ⟨bv, brs, _⟩ := mb
          simp only at hA q1 q2 hB q3 q4
          clear hless hmore
          repeat' ((conv => whnf); first | with_reducible refine Dec.t (show true = true from rfl) ?_ | with_reducible refine Dec.t (show false = false from rfl) ?_ | with_reducible refine Dec.f (show ¬ (true = false) by decide) ?_ | with_reducible refine Dec.f (show ¬ (false = true) by decide) ?_ | refine Dec.t (by omega) ?_ | refine Dec.f (by omega) ?_ | refine Dec.split (fun _ => ?_) (fun _ => ?_) | refine Wr.id (by omega) ?_ | refine Chk.mk (by first | omega | exact rfl | (simp only [List.length_map]; omega) | (simp [room]; done) | (simp [room]; omega) | (simp [dropL, room]; done) | (simp [dropL, room]; omega)) ?_ | refine Nam.mk (List.length_map _) ?_ | refine Prep.skip ?_ | refine chk_t (x := D.flat _) (by assumption) ?_ | refine br_mk (fun _ => ?_) (fun _ => ?_) | refine nthK_mk hy0 ?_ | refine nthK_mk hy1 ?_ | refine setK_mk' (by simp; omega) e1 ?_ | refine setK_mk' (by simp; omega) e2 ?_ | refine ACall.of hA ?_ | refine ACall.of hB ?_ | refine Nam.mk ((whole (by simp [dropL])).trans e3) ?_ | refine Nam.mk (whole (by simp)) ?_ | refine ACall.lift ?_ | fail)
          all_goals (conv => whnf)
          all_goals first | exact DLe.refl _ | (exfalso; omega) | skip
    · have hst : stateM w lot day known l held = (0, [], 400) := by unfold stateM; rw [if_neg hok]
      rw [hst] at h3
      dsimp only at h3
      repeat' ((conv => whnf); first | with_reducible refine Dec.t (show true = true from rfl) ?_ | with_reducible refine Dec.t (show false = false from rfl) ?_ | with_reducible refine Dec.f (show ¬ (true = false) by decide) ?_ | with_reducible refine Dec.f (show ¬ (false = true) by decide) ?_ | refine Dec.t (by omega) ?_ | refine Dec.f (by omega) ?_ | refine Dec.split (fun _ => ?_) (fun _ => ?_) | refine Wr.id (by omega) ?_ | refine Chk.mk (by first | omega | exact rfl | (simp only [List.length_map]; omega) | (simp [room]; done) | (simp [room]; omega) | (simp [dropL, room]; done) | (simp [dropL, room]; omega)) ?_ | refine Nam.mk (List.length_map _) ?_ | refine Prep.skip ?_ | refine chk_t (x := D.flat _) (by assumption) ?_ | refine br_mk (fun _ => ?_) (fun _ => ?_) | refine ACall.of (law40_sane) ?_ | refine APCall.of (law40_sane) ?_ | refine ACall.of hFew ?_ | refine ACall.of h3 ?_ | fail)
      all_goals (conv => whnf)
      all_goals exact (by repeat (first | exact trivial | exact rfl | exact DLe.refl _ | exact DLe.full _ _ _ | exact DLe.nil _ _ _ | exact VLe.refl _ | refine And.intro ?_ ?_ | refine VLe.d ?_ | refine DLe.agg ?_))
  · rw [decide_eq_false hs] at hFew
    repeat' ((conv => whnf); first | with_reducible refine Dec.t (show true = true from rfl) ?_ | with_reducible refine Dec.t (show false = false from rfl) ?_ | with_reducible refine Dec.f (show ¬ (true = false) by decide) ?_ | with_reducible refine Dec.f (show ¬ (false = true) by decide) ?_ | refine Dec.t (by omega) ?_ | refine Dec.f (by omega) ?_ | refine Dec.split (fun _ => ?_) (fun _ => ?_) | refine Wr.id (by omega) ?_ | refine Chk.mk (by first | omega | exact rfl | (simp only [List.length_map]; omega) | (simp [room]; done) | (simp [room]; omega) | (simp [dropL, room]; done) | (simp [dropL, room]; omega)) ?_ | refine Nam.mk (List.length_map _) ?_ | refine Prep.skip ?_ | refine chk_t (x := D.flat _) (by assumption) ?_ | refine br_mk (fun _ => ?_) (fun _ => ?_) | refine ACall.of (law40_sane) ?_ | refine APCall.of (law40_sane) ?_ | refine ACall.of hFew ?_ | fail)
    all_goals (conv => whnf)
    all_goals exact (by repeat (first | exact trivial | exact rfl | exact DLe.refl _ | exact DLe.full _ _ _ | exact DLe.nil _ _ _ | exact VLe.refl _ | refine And.intro ?_ ?_ | refine VLe.d ?_ | refine DLe.agg ?_))
end Go.PM

