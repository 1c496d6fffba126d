/-
  PM, part 20: rows become data.
-/
import Derived.Test.YtbifaidepiejeaaPmOps11
set_option linter.unusedSectionVars false
namespace Go.PM
variable [Glob]
variable {P : Program}

/-- Cells of a row are fixed. -/
def fixS (S : Stb) (β : Bet) (n k : Nat) : Stb := fun b o => S b o ∨ ∃ base, β[n]? = some (some (b, base)) ∧ base ≤ o ∧ o < base + k

theorem freeze {w : World} {S : Stb} {h : Hp} {β : Bet} (hr : HR w S h β) {n ver sz : Nat} {ro : Bool} {xs : List D} (hn : h[n]? = some (.row ver sz ro xs)) :
    HR w (fixS S β n (xs.length * sz)) (h.set n (.row ver sz true xs)) β ∧ Evol w S h β w (fixS S β n (xs.length * sz)) (h.set n (.row ver sz true xs)) β := by
  have hnl : n < h.length := (List.getElem?_eq_some_iff.1 hn).1
  have E : Evol w S h β w (fixS S β n (xs.length * sz)) (h.set n (.row ver sz true xs)) β := by
    refine ⟨Out.refl _, Nat.le_refl _, fun _ _ _ => rfl, fun _ c _ _ hi => ⟨c, hi, rfl⟩, fun _ l hl => ⟨l, hl⟩, fun _ _ => rfl, fun _ _ h => .inl h, fun b o hs => ?_, fun _ _ _ => rfl, fun _ h => .inl h, by simp, fun m b hm => ?_⟩
    · rcases hs with hs | ⟨base, hb, _⟩
      · exact .inl hs
      · exact .inr (.inr ⟨n, base, hb⟩)
    · by_cases hmn : n = m
      · subst hmn
        rw [hn] at hm; cases hm
        exact ⟨.row ver sz true xs, by simp [hnl], .inr ⟨ver, true, xs, rfl, Nat.le_refl _, fun _ => rfl⟩⟩
      · exact ⟨b, by rw [List.getElem?_set_ne hmn]; exact hm, BEv.refl _ _⟩
  refine ⟨⟨by simpa using hr.len, fun m b hm => ?_, hr.inj, fun b o hs => ?_, hr.glob.evol E, fun r b p hb => by rw [tl_seth] at hb; exact hr.tlt r b p hb, one_set hr.one hn (fun h => nomatch h)⟩, E⟩
  · by_cases hmn : n = m
    · subst hmn
      have : b = .row ver sz true xs := by simpa [hnl] using hm.symm
      subst this
      obtain ⟨h0, h1, h2⟩ := hr.blk n _ hn
      refine ⟨h0, h1, ?_⟩
      rcases h2 with ⟨h2, h3⟩ | ⟨b, base, c, e, h2, h3, h4, h5, h6⟩
      · exact .inl ⟨h2, h3⟩
      · refine .inr ⟨b, base, c, e, h2, h3, h4, fun i x j y hi hj => ?_, fun o ho => ?_⟩
        · obtain ⟨u, hu, hd⟩ := h5 i x j y hi hj
          exact ⟨u, hu, hd.evol E.sub E.cell⟩
        · rcases ho with ho | ⟨base', hb, _, hlt⟩
          · exact ⟨rfl, (h6 o ho).2⟩
          · rw [h2] at hb; simp at hb; subst hb; exact ⟨rfl, hlt⟩
    · rw [List.getElem?_set_ne hmn] at hm
      refine BR.keep E rfl (fun _ r b p hb => ⟨by rw [tl_seth]; exact hb, rfl, fun o ho => ?_⟩) (fun b' p hb' => ⟨rfl, fun o ho => ?_⟩) (hr.blk m b hm)
      · rcases ho with ho | ⟨base, hb', _⟩
        · exact ho
        · exact absurd rfl (hr.tne hnl hb' hb)
      rcases ho with ho | ⟨base, hb, _⟩
      · exact ho
      · exact absurd (hr.inj n m b' base p hb hb') hmn
  · rcases hs with hs | ⟨base, hb, _⟩
    · exact hr.old b o hs
    · exact hr.lt hb

/-- A slice of a fixed row is data. -/
theorem sref_data {w : World} {S : Stb} {h : Hp} {β : Bet} (hr : HR w S h β) {n ver sz lo len : Nat} {ro full : Bool} {xs : List D} {v : Value} (hn : h[n]? = some (.row ver sz ro xs)) (hl : lo + len ≤ xs.length)
    (hv : VR w S h β (.sref n ver lo len full) v) : DR w (fixS S β n (xs.length * sz)) (.sl sz full ((xs.drop lo).take len)) v := by
  cases hv with
  | sref h1 h2 =>
    obtain ⟨a, cap, rfl, hc, hf, hp⟩ := h2
    simp only [hn] at hp
    obtain ⟨_, hp⟩ := hp
    obtain ⟨g0, g1, g2⟩ := hr.blk n _ hn
    have hlen : ((xs.drop lo).take len).length = len := by simp; omega
    have helem : ∀ {i : Nat} {x : D}, ((xs.drop lo).take len)[i]? = some x → xs[lo + i]? = some x := part_get
    have key : ∀ (b base : Nat) (cells : Array Value), β[n]? = some (some (b, base)) → (0 < cap → a = some ⟨b, base + lo * sz, none⟩) →
        (∀ (i : Nat) (x : D) (j : Nat) (c : D), xs[i]? = some x → x.cells[j]? = some c → ∃ u, w.cell? ⟨b, base + i * sz + j, none⟩ = some u ∧ DR w S c u) →
        DR w (fixS S β n (xs.length * sz)) (.sl sz full ((xs.drop lo).take len)) (.slice a len cap) := by
      intro b base cells hb ha hcell
      have hD : ∀ (i : Nat) (x : D) (j : Nat) (c : D), ((xs.drop lo).take len)[i]? = some x → x.cells[j]? = some c → w.cell? ⟨b, base + lo * sz + i * sz + j, none⟩ = some ((w.cell? ⟨b, base + lo * sz + i * sz + j, none⟩).getD undef) ∧ DR w S c ((w.cell? ⟨b, base + lo * sz + i * sz + j, none⟩).getD undef) := by
        intro i x j c hx hj
        obtain ⟨u, hu, hd⟩ := hcell (lo + i) x j c (helem hx) hj
        rw [Nat.add_mul, ← Nat.add_assoc] at hu
        rw [hu]
        exact ⟨rfl, hd⟩
      have := DR.sl (w := w) (S := fixS S β n (xs.length * sz)) sz full ((xs.drop lo).take len) a cap b (base + lo * sz) (fun i j => (w.cell? ⟨b, base + lo * sz + i * sz + j, none⟩).getD undef) (by omega) (by rw [hlen]; exact hf) (fun e => by omega)
        (fun hne => ha (by have := List.length_pos_iff.2 hne; omega)) (fun i x hx => (g1 _ x (helem hx)).1) (fun i x j c hx hj => ⟨(g1 _ x (helem hx)).2 j c hj, (hD i x j c hx hj).1, .inr ⟨base, hb, by omega, ?_⟩⟩)
        (fun i x j c hx hj => (hD i x j c hx hj).2.evol (fun _ _ h => .inl h) (fun _ _ _ => rfl))
      · rw [hlen] at this; exact this
      · have hi : lo + i < xs.length := (List.getElem?_eq_some_iff.1 (helem hx)).1
        have hjs : j < sz := by rw [← (g1 _ x (helem hx)).1]; exact (List.getElem?_eq_some_iff.1 hj).1
        have : (lo + i + 1) * sz ≤ xs.length * sz := Nat.mul_le_mul_right _ hi
        rw [Nat.add_mul, Nat.add_mul] at this
        omega
    rcases g2 with ⟨rfl, hnone⟩ | ⟨b, base, c, e, k1, k2, k3, k4, k5⟩
    · have hlen0 : len = 0 := by simp at hl; omega
      subst hlen0
      simp only [List.drop_nil, List.take_nil]
      exact .sl sz full [] a cap 0 0 (fun _ _ => undef) (by simp) hf (fun _ => rfl) (by simp) (by simp) (by simp) (by simp)
    · rcases hp trivial with ⟨hnone, _⟩ | ⟨b', base', cells, elem, fz, q1, q2, q3, q4⟩
      · rw [k1] at hnone; simp at hnone
      · rw [k1] at q1; simp at q1; obtain ⟨rfl, rfl⟩ := q1
        exact key b base c k1 q2 fun i x j y hi hj => by
          obtain ⟨u, hu, hd⟩ := k4 i x j y hi hj
          exact ⟨u, by rw [cell_of_row w b _ c e (0, 0) k2]; exact hu, hd⟩

/-- A variable becomes a row. -/
theorem vard_row {w : World} {S : Stb} {h : Hp} {β : Bet} (hr : HR w S h β) {n : Nat} {xs : List D} (hn : h[n]? = some (.vard xs)) :
    HR w S (h.set n (.row 1 1 false xs)) β ∧ Evol w S h β w S (h.set n (.row 1 1 false xs)) β := by
  obtain ⟨b, cells, elem, g1, g2, g3, g4, g5⟩ := hr.blk n _ hn
  have hβ : β.set n (some (b, 0)) = β := by
    obtain ⟨hl, he⟩ := List.getElem?_eq_some_iff.1 g1
    conv => rhs; rw [← List.set_getElem_self hl]
    rw [he]
  have := upd (w' := w) hr hn (blk' := .row 1 1 false xs) (some (b, 0)) (Nat.le_refl _) (fun _ _ _ => rfl) (fun _ _ c e f _ h => ⟨c, h, rfl⟩) (fun _ _ l _ h => ⟨l, h⟩) (fun _ => rfl) (fun _ _ _ _ _ => rfl)
    (fun b' p hb => by cases hb; exact .inl ⟨0, g1⟩) (by rw [g1]; exact .inr (.inr ⟨1, false, xs, rfl, Nat.le_refl _, fun _ => rfl⟩)) (fun E => ?_)
  · rw [hβ] at this; exact this
  · rw [hβ] at E ⊢
    have hc : ∀ (i : Nat) (x : D), xs[i]? = some x → ∃ u, cells[i]? = some u ∧ x.flat = true ∧ DR w S x u := fun i x hx => by
      have hlt : i < cells.size := by rw [g3]; exact (List.getElem?_eq_some_iff.1 hx).1
      obtain ⟨a, b⟩ := g4 i x _ hx (Array.getElem?_eq_getElem hlt)
      exact ⟨_, Array.getElem?_eq_getElem hlt, a, b⟩
    refine ⟨by omega, fun i x hx => ?_, .inr ⟨b, 0, cells, elem, g1, g2, by omega, fun i x j c hx hj => ?_, fun o ho => absurd ho (g5 o)⟩⟩
    · obtain ⟨u, _, hf, _⟩ := hc i x hx
      rw [flat_cells _ hf]
      exact ⟨rfl, fun j c hj => by cases j <;> simp at hj; subst hj; exact hf⟩
    · obtain ⟨u, hu, hf, hd⟩ := hc i x hx
      rw [flat_cells _ hf] at hj
      cases j <;> simp at hj
      subst hj
      exact ⟨u, by simpa using hu, hd⟩

/-- A value that becomes data. -/
def Lift (v : V) (h : Hp) (d : D) (h' : Hp) : Prop :=
  ∀ (w : World) (S : Stb) (β : Bet) (cv : Value), HR w S h β → VR w S h β v cv → ∃ S', HR w S' h' β ∧ Evol w S h β w S' h' β ∧ DR w S' d cv

theorem lift1K_spec {v : V} {h : Hp} {k : D → Hp → Prop} (hk : lift1K v h k) : ∃ d h', k d h' ∧ Lift v h d h' := by
  unfold lift1K at hk
  split at hk
  · rename_i x
    refine ⟨x, h, hk, fun w S β cv hr hv => ⟨S, hr, Evol.refl _ _ _ _, ?_⟩⟩
    cases hv; assumption
  · rename_i n ver lo len full
    obtain ⟨b, hn, hk⟩ := nthK_iff.1 hk
    split at hk
    · rename_i ver' sz ro xs
      obtain ⟨⟨rfl, hl⟩, hk⟩ := hk.elim
      obtain ⟨_, hk⟩ := setK_iff.1 hk.elim
      refine ⟨_, _, hk, fun w S β cv hr hv => ?_⟩
      obtain ⟨r1, r2⟩ := freeze hr hn
      exact ⟨_, r1, r2, sref_data hr hn hl hv⟩
    · rename_i xs
      obtain ⟨⟨hv1, hl⟩, hk2⟩ := hk.elim
      subst hv1
      obtain ⟨_, hk⟩ := setK_iff.1 hk2.elim
      refine ⟨_, _, hk, fun w S β cv hr hv => ?_⟩
      have hnl : n < h.length := (List.getElem?_eq_some_iff.1 hn).1
      obtain ⟨r0, e0⟩ := vard_row hr hn
      have hn' : (h.set n (.row 1 1 false xs))[n]? = some (.row 1 1 false xs) := by simp [hnl]
      obtain ⟨r1, r2⟩ := freeze r0 hn'
      rw [List.set_set] at r1 r2
      exact ⟨_, r1, e0.trans r2, sref_data r0 hn' hl (hv.evol e0)⟩
    · exact hk.elim
  · split at hk
    · refine ⟨_, h, hk, fun w S β cv hr hv => ⟨S, hr, Evol.refl _ _ _ _, ?_⟩⟩
      cases hv with
      | fn _ _ arr h1 h2 =>
        have : arr = #[] := Array.eq_empty_of_size_eq_zero h1
        subst this
        exact .k _ rfl
    · exact hk.elim
  · exact hk.elim

theorem liftsK_spec : ∀ (vs : List V) (h : Hp) (k : List D → Hp → Prop), liftsK vs h k → ∃ ds h', k ds h' ∧ ds.length = vs.length ∧
    ∀ (w : World) (S : Stb) (β : Bet) (arr : List Value), HR w S h β → arr.length = vs.length → (∀ (j : Nat) (c : V) (u : Value), vs[j]? = some c → arr[j]? = some u → VR w S h β c u) →
      ∃ S', HR w S' h' β ∧ Evol w S h β w S' h' β ∧ ∀ (j : Nat) (d : D) (u : Value), ds[j]? = some d → arr[j]? = some u → d.flat = true ∧ DR w S' d u := by
  intro vs
  induction vs with
  | nil => exact fun h k hk => ⟨[], h, hk, rfl, fun w S β arr hr _ _ => ⟨S, hr, Evol.refl _ _ _ _, by simp⟩⟩
  | cons v r ih =>
    intro h k hk
    obtain ⟨d, h1, hk, hd⟩ := lift1K_spec hk
    obtain ⟨hf, hk⟩ := (chkB_iff _ _).1 hk
    obtain ⟨ds, h2, hk, hl, hds⟩ := ih _ _ hk
    refine ⟨d :: ds, h2, hk, by simp [hl], fun w S β arr hr ha hv => ?_⟩
    cases arr with
    | nil => simp at ha
    | cons y arr =>
      obtain ⟨S1, r1, e1, d1⟩ := hd w S β y hr (hv 0 v y rfl rfl)
      obtain ⟨S2, r2, e2, d2⟩ := hds w S1 β arr r1 (by simpa using ha) fun j c u hj hu => (hv (j + 1) c u (by simpa using hj) (by simpa using hu)).evol e1
      refine ⟨S2, r2, e1.trans e2, fun j x u hj hu => ?_⟩
      cases j with
      | zero => simp at hj hu; subst hj; subst hu; exact ⟨hf, d1.evol e2.sub e2.cell⟩
      | succ j => exact d2 j x u (by simpa using hj) (by simpa using hu)

theorem liftK_spec {v : V} {h : Hp} {k : D → Hp → Prop} (hk : liftK v h k) : ∃ d h', k d h' ∧ Lift v h d h' := by
  unfold liftK at hk
  split at hk
  · rename_i cs
    obtain ⟨ds, h', hk, hl, hds⟩ := liftsK_spec _ _ _ hk
    refine ⟨_, h', hk, fun w S β cv hr hv => ?_⟩
    cases hv with
    | agg _ arr g1 g2 g3 =>
      obtain ⟨S', r1, e1, d1⟩ := hds w S β arr.toList hr (by simpa using g1) fun j c u hj hu => g3 j c u hj (by simpa using hu)
      refine ⟨S', r1, e1, .agg ds arr (by omega) (fun j c hj => ?_) fun j c u hj hu => (d1 j c u hj (by simpa using hu)).2⟩
      have hlt : j < arr.toList.length := by
        have := (List.getElem?_eq_some_iff.1 hj).1
        simp; omega
      exact (d1 j c _ hj (List.getElem?_eq_getElem hlt)).1
  · exact lift1K_spec hk

theorem liftAllK_spec : ∀ (vs : List V) (h : Hp) (k : List D → Hp → Prop), liftAllK vs h k → ∃ ds h', k ds h' ∧ ds.length = vs.length ∧
    ∀ (w : World) (S : Stb) (β : Bet) (arr : List Value), HR w S h β → arr.length = vs.length → (∀ (j : Nat) (c : V) (u : Value), vs[j]? = some c → arr[j]? = some u → VR w S h β c u) →
      ∃ S', HR w S' h' β ∧ Evol w S h β w S' h' β ∧ ∀ (j : Nat) (d : D) (u : Value), ds[j]? = some d → arr[j]? = some u → DR w S' d u := by
  intro vs
  induction vs with
  | nil => exact fun h k hk => ⟨[], h, hk, rfl, fun w S β arr hr _ _ => ⟨S, hr, Evol.refl _ _ _ _, by simp⟩⟩
  | cons v r ih =>
    intro h k hk
    obtain ⟨d, h1, hk, hd⟩ := liftK_spec hk
    obtain ⟨ds, h2, hk, hl, hds⟩ := ih _ _ hk
    refine ⟨d :: ds, h2, hk, by simp [hl], fun w S β arr hr ha hv => ?_⟩
    cases arr with
    | nil => simp at ha
    | cons y arr =>
      obtain ⟨S1, r1, e1, d1⟩ := hd w S β y hr (hv 0 v y rfl rfl)
      obtain ⟨S2, r2, e2, d2⟩ := hds w S1 β arr r1 (by simpa using ha) fun j c u hj hu => (hv (j + 1) c u (by simpa using hj) (by simpa using hu)).evol e1
      refine ⟨S2, r2, e1.trans e2, fun j x u hj hu => ?_⟩
      cases j with
      | zero => simp at hj hu; subst hj; subst hu; exact d1.evol e2.sub e2.cell
      | succ j => exact d2 j x u (by simpa using hj) (by simpa using hu)

theorem liftArgsK_spec : ∀ (vs : List V) (h : Hp) (k : List V → Hp → Prop), liftArgsK vs h k → ∃ ds h', k ds h' ∧ ds.length = vs.length ∧
    ∀ (w : World) (S : Stb) (β : Bet), HR w S h β →
      ∀ (arr : List Value), arr.length = vs.length → (∀ (j : Nat) (c : V) (u : Value), vs[j]? = some c → arr[j]? = some u → VR w S h β c u) →
        ∃ S', HR w S' h' β ∧ Evol w S h β w S' h' β ∧ (∀ (j : Nat) (c : V) (u : Value), ds[j]? = some c → arr[j]? = some u → VR w S' h' β c u) := by
  intro vs
  induction vs with
  | nil => exact fun h k hk => ⟨[], h, hk, rfl, fun w S β hr arr _ _ => ⟨S, hr, Evol.refl _ _ _ _, by simp⟩⟩
  | cons v r ih =>
    intro h k hk
    have lifted : (liftK v h fun d h => liftArgsK r h fun ds h => k (.d d :: ds) h) → ∃ ds h', k ds h' ∧ ds.length = (v :: r).length ∧
        ∀ (w : World) (S : Stb) (β : Bet), HR w S h β →
          ∀ (arr : List Value), arr.length = (v :: r).length → (∀ (j : Nat) (c : V) (u : Value), (v :: r)[j]? = some c → arr[j]? = some u → VR w S h β c u) →
            ∃ S', HR w S' h' β ∧ Evol w S h β w S' h' β ∧ (∀ (j : Nat) (c : V) (u : Value), ds[j]? = some c → arr[j]? = some u → VR w S' h' β c u) := fun hk => by
      obtain ⟨d, h1, hk, hd⟩ := liftK_spec hk
      obtain ⟨ds, h2, hk, hl, hds⟩ := ih _ _ hk
      refine ⟨_, h2, hk, by simp [hl], fun w S β hr arr ha hv => ?_⟩
      cases arr with
      | nil => simp at ha
      | cons y arr =>
        obtain ⟨S1, r1, e1, d1⟩ := hd w S β y hr (hv 0 v y rfl rfl)
        obtain ⟨S2, r2, e2, d2⟩ := hds w S1 β r1 arr (by simpa using ha) fun j c u hj hu => (hv (j + 1) c u (by simpa using hj) (by simpa using hu)).evol e1
        refine ⟨S2, r2, e1.trans e2, fun j x u hj hu => ?_⟩
        cases j with
        | zero => simp at hj hu; subst hj; subst hu; exact .d (d1.evol e2.sub e2.cell)
        | succ j => exact d2 j x u (by simpa using hj) (by simpa using hu)
    have kept : (liftArgsK r h fun ds h => k (v :: ds) h) → ∃ ds h', k ds h' ∧ ds.length = (v :: r).length ∧
        ∀ (w : World) (S : Stb) (β : Bet), HR w S h β →
          ∀ (arr : List Value), arr.length = (v :: r).length → (∀ (j : Nat) (c : V) (u : Value), (v :: r)[j]? = some c → arr[j]? = some u → VR w S h β c u) →
            ∃ S', HR w S' h' β ∧ Evol w S h β w S' h' β ∧ (∀ (j : Nat) (c : V) (u : Value), ds[j]? = some c → arr[j]? = some u → VR w S' h' β c u) := fun hk => by
      obtain ⟨ds, h2, hk, hl, hds⟩ := ih _ _ hk
      refine ⟨_, h2, hk, by simp [hl], fun w S β hr arr ha hv => ?_⟩
      cases arr with
      | nil => simp at ha
      | cons y arr =>
        obtain ⟨S2, r2, e2, d2⟩ := hds w S β hr arr (by simpa using ha) fun j c u hj hu => hv (j + 1) c u (by simpa using hj) (by simpa using hu)
        refine ⟨S2, r2, e2, fun j x u hj hu => ?_⟩
        cases j with
        | zero => simp at hj hu; subst hj; subst hu; exact (hv 0 _ _ rfl rfl).evol e2
        | succ j => exact d2 j x u (by simpa using hj) (by simpa using hu)
    simp only [liftArgsK] at hk
    split at hk
    · exact lifted hk
    · exact lifted hk
    · split at hk
      · rename_i f
        obtain ⟨ds, h2, hk, hl, hds⟩ := ih _ _ hk
        refine ⟨_, h2, hk, by simp [hl], fun w S β hr arr ha hv => ?_⟩
        cases arr with
        | nil => simp at ha
        | cons y arr =>
          obtain ⟨S2, r2, e2, d2⟩ := hds w S β hr arr (by simpa using ha) fun j c u hj hu => hv (j + 1) c u (by simpa using hj) (by simpa using hu)
          refine ⟨S2, r2, e2, fun j x u hj hu => ?_⟩
          cases j with
          | zero =>
            simp at hj hu; subst hj; subst hu
            have := hv 0 _ _ rfl rfl
            cases this with
            | fn _ _ arr h1 h2 =>
              have : arr = #[] := Array.eq_empty_of_size_eq_zero h1
              subst this
              exact .d (.k _ rfl)
          | succ j => exact d2 j x u (by simpa using hj) (by simpa using hu)
      · exact kept hk
    · exact kept hk

/-- An operation's operands, as it wants them. -/
theorem liftOpK_spec {op : Op} {vs : List V} {h : Hp} {k : List V → Hp → Prop} (hk : liftOpK op vs h k) : ∃ ds h', k ds h' ∧ ds.length = vs.length ∧
    ∀ (w : World) (S : Stb) (β : Bet), HR w S h β →
      ∀ (arr : List Value), arr.length = vs.length → (∀ (j : Nat) (c : V) (u : Value), vs[j]? = some c → arr[j]? = some u → VR w S h β c u) →
        ∃ S', HR w S' h' β ∧ Evol w S h β w S' h' β ∧ (∀ (j : Nat) (c : V) (u : Value), ds[j]? = some c → arr[j]? = some u → VR w S' h' β c u) := by
  have triv : k vs h → ∃ ds h', k ds h' ∧ ds.length = vs.length ∧
    ∀ (w : World) (S : Stb) (β : Bet), HR w S h β →
      ∀ (arr : List Value), arr.length = vs.length → (∀ (j : Nat) (c : V) (u : Value), vs[j]? = some c → arr[j]? = some u → VR w S h β c u) →
        ∃ S', HR w S' h' β ∧ Evol w S h β w S' h' β ∧ (∀ (j : Nat) (c : V) (u : Value), ds[j]? = some c → arr[j]? = some u → VR w S' h' β c u) :=
    fun hk => ⟨vs, h, hk, rfl, fun w S β hr arr _ hv => ⟨S, hr, Evol.refl _ _ _ _, hv⟩⟩
  unfold liftOpK at hk
  split at hk
  · exact liftArgsK_spec _ _ _ hk
  · split at hk
    · obtain ⟨b, _, hk⟩ := nthK_iff.1 hk
      split at hk
      · exact triv hk
      · exact liftArgsK_spec _ _ _ hk
    · exact liftArgsK_spec _ _ _ hk
  · exact liftArgsK_spec _ _ _ hk
  · split at hk
    · obtain ⟨b, _, hk⟩ := nthK_iff.1 hk
      split at hk
      · exact liftArgsK_spec _ _ _ hk
      · exact triv hk
    · exact triv hk
  · exact triv hk


end Go.PM
