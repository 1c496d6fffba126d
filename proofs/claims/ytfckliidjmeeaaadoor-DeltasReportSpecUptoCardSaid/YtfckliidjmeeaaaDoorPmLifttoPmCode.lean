/-
  PM, part 20: rows become data.
-/
import Derived.Test.YtfckliidjmeeaaaDoorPmOps10toPmOps11
import Derived.Maps.RangeRun
import Derived.Laws.Cover3
import Derived.AtR
set_option linter.unusedSectionVars false
namespace Go.PM
variable [Glob]
variable {P : Program}
def fixS (S : Stb) (β : Bet) (n k : Nat) : Stb := fun b o => S b o ∨ ∃ base, β[n]? = some (some (b, base)) ∧ base ≤ o ∧ o < base + k
theorem freeze {w : World} {S : Stb} {h : Hp} {β : Bet} (hr : HR w S h β) {n ver sz : Nat} {ro : Bool} {xs : List D} (hn : h[n]? = some (.row ver sz ro xs)) :
    HR w (fixS S β n (xs.length * sz)) (h.set n (.row ver sz true xs)) β ∧ Evol w S h β w (fixS S β n (xs.length * sz)) (h.set n (.row ver sz true xs)) β := by
  have hnl : n < h.length := (List.getElem?_eq_some_iff.1 hn).1
  have E : Evol w S h β w (fixS S β n (xs.length * sz)) (h.set n (.row ver sz true xs)) β := by
    refine ⟨Out.refl _, Nat.le_refl _, fun _ _ _ => rfl, fun _ c _ _ hi => ⟨c, hi, rfl⟩, fun _ l hl => ⟨l, hl⟩, fun _ _ => rfl, fun _ _ h => .inl h, fun b o hs => ?_, fun _ _ _ => rfl, fun _ h => .inl h, by simp, fun m b hm => ?_⟩
    · rcases hs with hs | ⟨base, hb, _⟩
      · exact .inl hs
      · exact .inr (.inr ⟨n, base, hb⟩)
    · by_cases hmn : n = m
      · subst hmn
        rw [hn] at hm; cases hm
        exact ⟨.row ver sz true xs, by simp [hnl], .inr ⟨ver, true, xs, rfl, Nat.le_refl _, fun _ => rfl⟩⟩
      · exact ⟨b, by rw [List.getElem?_set_ne hmn]; exact hm, BEv.refl _ _⟩
  refine ⟨⟨by simpa using hr.len, fun m b hm => ?_, hr.inj, fun b o hs => ?_, hr.glob.evol E, fun r b p hb => by rw [tl_seth] at hb; exact hr.tlt r b p hb, one_set hr.one hn (fun h => nomatch h)⟩, E⟩
  · by_cases hmn : n = m
    · subst hmn
      have : b = .row ver sz true xs := by simpa [hnl] using hm.symm
      subst this
      obtain ⟨h0, h1, h2⟩ := hr.blk n _ hn
      refine ⟨h0, h1, ?_⟩
      rcases h2 with ⟨h2, h3⟩ | ⟨b, base, c, e, h2, h3, h4, h5, h6⟩
      · exact .inl ⟨h2, h3⟩
      · refine .inr ⟨b, base, c, e, h2, h3, h4, fun i x j y hi hj => ?_, fun o ho => ?_⟩
        · obtain ⟨u, hu, hd⟩ := h5 i x j y hi hj
          exact ⟨u, hu, hd.evol E.sub E.cell⟩
        · rcases ho with ho | ⟨base', hb, _, hlt⟩
          · exact ⟨rfl, (h6 o ho).2⟩
          · rw [h2] at hb; simp at hb; subst hb; exact ⟨rfl, hlt⟩
    · rw [List.getElem?_set_ne hmn] at hm
      refine BR.keep E rfl (fun _ r b p hb => ⟨by rw [tl_seth]; exact hb, rfl, fun o ho => ?_⟩) (fun b' p hb' => ⟨rfl, fun o ho => ?_⟩) (hr.blk m b hm)
      · rcases ho with ho | ⟨base, hb', _⟩
        · exact ho
        · exact absurd rfl (hr.tne hnl hb' hb)
      rcases ho with ho | ⟨base, hb, _⟩
      · exact ho
      · exact absurd (hr.inj n m b' base p hb hb') hmn
  · rcases hs with hs | ⟨base, hb, _⟩
    · exact hr.old b o hs
    · exact hr.lt hb
theorem sref_data {w : World} {S : Stb} {h : Hp} {β : Bet} (hr : HR w S h β) {n ver sz lo len : Nat} {ro full : Bool} {xs : List D} {v : Value} (hn : h[n]? = some (.row ver sz ro xs)) (hl : lo + len ≤ xs.length)
    (hv : VR w S h β (.sref n ver lo len full) v) : DR w (fixS S β n (xs.length * sz)) (.sl sz full ((xs.drop lo).take len)) v := by
  cases hv with
  | sref h1 h2 =>
    obtain ⟨a, cap, rfl, hc, hf, hp⟩ := h2
    simp only [hn] at hp
    obtain ⟨_, hp⟩ := hp
    obtain ⟨g0, g1, g2⟩ := hr.blk n _ hn
    have hlen : ((xs.drop lo).take len).length = len := by simp; omega
    have helem : ∀ {i : Nat} {x : D}, ((xs.drop lo).take len)[i]? = some x → xs[lo + i]? = some x := part_get
    have key : ∀ (b base : Nat) (cells : Array Value), β[n]? = some (some (b, base)) → (0 < cap → a = some ⟨b, base + lo * sz, none⟩) →
        (∀ (i : Nat) (x : D) (j : Nat) (c : D), xs[i]? = some x → x.cells[j]? = some c → ∃ u, w.cell? ⟨b, base + i * sz + j, none⟩ = some u ∧ DR w S c u) →
        DR w (fixS S β n (xs.length * sz)) (.sl sz full ((xs.drop lo).take len)) (.slice a len cap) := by
      intro b base cells hb ha hcell
      have hD : ∀ (i : Nat) (x : D) (j : Nat) (c : D), ((xs.drop lo).take len)[i]? = some x → x.cells[j]? = some c → w.cell? ⟨b, base + lo * sz + i * sz + j, none⟩ = some ((w.cell? ⟨b, base + lo * sz + i * sz + j, none⟩).getD undef) ∧ DR w S c ((w.cell? ⟨b, base + lo * sz + i * sz + j, none⟩).getD undef) := by
        intro i x j c hx hj
        obtain ⟨u, hu, hd⟩ := hcell (lo + i) x j c (helem hx) hj
        rw [Nat.add_mul, ← Nat.add_assoc] at hu
        rw [hu]
        exact ⟨rfl, hd⟩
      have := DR.sl (w := w) (S := fixS S β n (xs.length * sz)) sz full ((xs.drop lo).take len) a cap b (base + lo * sz) (fun i j => (w.cell? ⟨b, base + lo * sz + i * sz + j, none⟩).getD undef) (by omega) (by rw [hlen]; exact hf) (fun e => by omega)
        (fun hne => ha (by have := List.length_pos_iff.2 hne; omega)) (fun i x hx => (g1 _ x (helem hx)).1) (fun i x j c hx hj => ⟨(g1 _ x (helem hx)).2 j c hj, (hD i x j c hx hj).1, .inr ⟨base, hb, by omega, ?_⟩⟩)
        (fun i x j c hx hj => (hD i x j c hx hj).2.evol (fun _ _ h => .inl h) (fun _ _ _ => rfl))
      · rw [hlen] at this; exact this
      · have hi : lo + i < xs.length := (List.getElem?_eq_some_iff.1 (helem hx)).1
        have hjs : j < sz := by rw [← (g1 _ x (helem hx)).1]; exact (List.getElem?_eq_some_iff.1 hj).1
        have : (lo + i + 1) * sz ≤ xs.length * sz := Nat.mul_le_mul_right _ hi
        rw [Nat.add_mul, Nat.add_mul] at this
        omega
    rcases g2 with ⟨rfl, hnone⟩ | ⟨b, base, c, e, k1, k2, k3, k4, k5⟩
    · have hlen0 : len = 0 := by simp at hl; omega
      subst hlen0
      simp only [List.drop_nil, List.take_nil]
      exact .sl sz full [] a cap 0 0 (fun _ _ => undef) (by simp) hf (fun _ => rfl) (by simp) (by simp) (by simp) (by simp)
    · rcases hp trivial with ⟨hnone, _⟩ | ⟨b', base', cells, elem, fz, q1, q2, q3, q4⟩
      · rw [k1] at hnone; simp at hnone
      · rw [k1] at q1; simp at q1; obtain ⟨rfl, rfl⟩ := q1
        exact key b base c k1 q2 fun i x j y hi hj => by
          obtain ⟨u, hu, hd⟩ := k4 i x j y hi hj
          exact ⟨u, by rw [cell_of_row w b _ c e (0, 0) k2]; exact hu, hd⟩
theorem vard_row {w : World} {S : Stb} {h : Hp} {β : Bet} (hr : HR w S h β) {n : Nat} {xs : List D} (hn : h[n]? = some (.vard xs)) :
    HR w S (h.set n (.row 1 1 false xs)) β ∧ Evol w S h β w S (h.set n (.row 1 1 false xs)) β := by
  obtain ⟨b, cells, elem, g1, g2, g3, g4, g5⟩ := hr.blk n _ hn
  have hβ : β.set n (some (b, 0)) = β := by
    obtain ⟨hl, he⟩ := List.getElem?_eq_some_iff.1 g1
    conv => rhs; rw [← List.set_getElem_self hl]
    rw [he]
  have := upd (w' := w) hr hn (blk' := .row 1 1 false xs) (some (b, 0)) (Nat.le_refl _) (fun _ _ _ => rfl) (fun _ _ c e f _ h => ⟨c, h, rfl⟩) (fun _ _ l _ h => ⟨l, h⟩) (fun _ => rfl) (fun _ _ _ _ _ => rfl)
    (fun b' p hb => by cases hb; exact .inl ⟨0, g1⟩) (by rw [g1]; exact .inr (.inr ⟨1, false, xs, rfl, Nat.le_refl _, fun _ => rfl⟩)) (fun E => ?_)
  · rw [hβ] at this; exact this
  · rw [hβ] at E ⊢
    have hc : ∀ (i : Nat) (x : D), xs[i]? = some x → ∃ u, cells[i]? = some u ∧ x.flat = true ∧ DR w S x u := fun i x hx => by
      have hlt : i < cells.size := by rw [g3]; exact (List.getElem?_eq_some_iff.1 hx).1
      obtain ⟨a, b⟩ := g4 i x _ hx (Array.getElem?_eq_getElem hlt)
      exact ⟨_, Array.getElem?_eq_getElem hlt, a, b⟩
    refine ⟨by omega, fun i x hx => ?_, .inr ⟨b, 0, cells, elem, g1, g2, by omega, fun i x j c hx hj => ?_, fun o ho => absurd ho (g5 o)⟩⟩
    · obtain ⟨u, _, hf, _⟩ := hc i x hx
      rw [flat_cells _ hf]
      exact ⟨rfl, fun j c hj => by cases j <;> simp at hj; subst hj; exact hf⟩
    · obtain ⟨u, hu, hf, hd⟩ := hc i x hx
      rw [flat_cells _ hf] at hj
      cases j <;> simp at hj
      subst hj
      exact ⟨u, by simpa using hu, hd⟩
def Lift (v : V) (h : Hp) (d : D) (h' : Hp) : Prop :=
  ∀ (w : World) (S : Stb) (β : Bet) (cv : Value), HR w S h β → VR w S h β v cv → ∃ S', HR w S' h' β ∧ Evol w S h β w S' h' β ∧ DR w S' d cv
theorem lift1K_spec {v : V} {h : Hp} {k : D → Hp → Prop} (hk : lift1K v h k) : ∃ d h', k d h' ∧ Lift v h d h' := by
  unfold lift1K at hk
  split at hk
  · rename_i x
    refine ⟨x, h, hk, fun w S β cv hr hv => ⟨S, hr, Evol.refl _ _ _ _, ?_⟩⟩
    cases hv; assumption
  · rename_i n ver lo len full
    obtain ⟨b, hn, hk⟩ := nthK_iff.1 hk
    split at hk
    · rename_i ver' sz ro xs
      obtain ⟨⟨rfl, hl⟩, hk⟩ := hk.elim
      obtain ⟨_, hk⟩ := setK_iff.1 hk.elim
      refine ⟨_, _, hk, fun w S β cv hr hv => ?_⟩
      obtain ⟨r1, r2⟩ := freeze hr hn
      exact ⟨_, r1, r2, sref_data hr hn hl hv⟩
    · rename_i xs
      obtain ⟨⟨hv1, hl⟩, hk2⟩ := hk.elim
      subst hv1
      obtain ⟨_, hk⟩ := setK_iff.1 hk2.elim
      refine ⟨_, _, hk, fun w S β cv hr hv => ?_⟩
      have hnl : n < h.length := (List.getElem?_eq_some_iff.1 hn).1
      obtain ⟨r0, e0⟩ := vard_row hr hn
      have hn' : (h.set n (.row 1 1 false xs))[n]? = some (.row 1 1 false xs) := by simp [hnl]
      obtain ⟨r1, r2⟩ := freeze r0 hn'
      rw [List.set_set] at r1 r2
      exact ⟨_, r1, e0.trans r2, sref_data r0 hn' hl (hv.evol e0)⟩
    · exact hk.elim
  · split at hk
    · refine ⟨_, h, hk, fun w S β cv hr hv => ⟨S, hr, Evol.refl _ _ _ _, ?_⟩⟩
      cases hv with
      | fn _ _ arr h1 h2 =>
        have : arr = #[] := Array.eq_empty_of_size_eq_zero h1
        subst this
        exact .k _ rfl
    · exact hk.elim
  · exact hk.elim
theorem liftsK_spec : ∀ (vs : List V) (h : Hp) (k : List D → Hp → Prop), liftsK vs h k → ∃ ds h', k ds h' ∧ ds.length = vs.length ∧
    ∀ (w : World) (S : Stb) (β : Bet) (arr : List Value), HR w S h β → arr.length = vs.length → (∀ (j : Nat) (c : V) (u : Value), vs[j]? = some c → arr[j]? = some u → VR w S h β c u) →
      ∃ S', HR w S' h' β ∧ Evol w S h β w S' h' β ∧ ∀ (j : Nat) (d : D) (u : Value), ds[j]? = some d → arr[j]? = some u → d.flat = true ∧ DR w S' d u := by
  intro vs
  induction vs with
  | nil => exact fun h k hk => ⟨[], h, hk, rfl, fun w S β arr hr _ _ => ⟨S, hr, Evol.refl _ _ _ _, by simp⟩⟩
  | cons v r ih =>
    intro h k hk
    obtain ⟨d, h1, hk, hd⟩ := lift1K_spec hk
    obtain ⟨hf, hk⟩ := (chkB_iff _ _).1 hk
    obtain ⟨ds, h2, hk, hl, hds⟩ := ih _ _ hk
    refine ⟨d :: ds, h2, hk, by simp [hl], fun w S β arr hr ha hv => ?_⟩
    cases arr with
    | nil => simp at ha
    | cons y arr =>
      obtain ⟨S1, r1, e1, d1⟩ := hd w S β y hr (hv 0 v y rfl rfl)
      obtain ⟨S2, r2, e2, d2⟩ := hds w S1 β arr r1 (by simpa using ha) fun j c u hj hu => (hv (j + 1) c u (by simpa using hj) (by simpa using hu)).evol e1
      refine ⟨S2, r2, e1.trans e2, fun j x u hj hu => ?_⟩
      cases j with
      | zero => simp at hj hu; subst hj; subst hu; exact ⟨hf, d1.evol e2.sub e2.cell⟩
      | succ j => exact d2 j x u (by simpa using hj) (by simpa using hu)
theorem liftK_spec {v : V} {h : Hp} {k : D → Hp → Prop} (hk : liftK v h k) : ∃ d h', k d h' ∧ Lift v h d h' := by
  unfold liftK at hk
  split at hk
  · rename_i cs
    obtain ⟨ds, h', hk, hl, hds⟩ := liftsK_spec _ _ _ hk
    refine ⟨_, h', hk, fun w S β cv hr hv => ?_⟩
    cases hv with
    | agg _ arr g1 g2 g3 =>
      obtain ⟨S', r1, e1, d1⟩ := hds w S β arr.toList hr (by simpa using g1) fun j c u hj hu => g3 j c u hj (by simpa using hu)
      refine ⟨S', r1, e1, .agg ds arr (by omega) (fun j c hj => ?_) fun j c u hj hu => (d1 j c u hj (by simpa using hu)).2⟩
      have hlt : j < arr.toList.length := by
        have := (List.getElem?_eq_some_iff.1 hj).1
        simp; omega
      exact (d1 j c _ hj (List.getElem?_eq_getElem hlt)).1
  · exact lift1K_spec hk
theorem liftAllK_spec : ∀ (vs : List V) (h : Hp) (k : List D → Hp → Prop), liftAllK vs h k → ∃ ds h', k ds h' ∧ ds.length = vs.length ∧
    ∀ (w : World) (S : Stb) (β : Bet) (arr : List Value), HR w S h β → arr.length = vs.length → (∀ (j : Nat) (c : V) (u : Value), vs[j]? = some c → arr[j]? = some u → VR w S h β c u) →
      ∃ S', HR w S' h' β ∧ Evol w S h β w S' h' β ∧ ∀ (j : Nat) (d : D) (u : Value), ds[j]? = some d → arr[j]? = some u → DR w S' d u := by
  intro vs
  induction vs with
  | nil => exact fun h k hk => ⟨[], h, hk, rfl, fun w S β arr hr _ _ => ⟨S, hr, Evol.refl _ _ _ _, by simp⟩⟩
  | cons v r ih =>
    intro h k hk
    obtain ⟨d, h1, hk, hd⟩ := liftK_spec hk
    obtain ⟨ds, h2, hk, hl, hds⟩ := ih _ _ hk
    refine ⟨d :: ds, h2, hk, by simp [hl], fun w S β arr hr ha hv => ?_⟩
    cases arr with
    | nil => simp at ha
    | cons y arr =>
      obtain ⟨S1, r1, e1, d1⟩ := hd w S β y hr (hv 0 v y rfl rfl)
      obtain ⟨S2, r2, e2, d2⟩ := hds w S1 β arr r1 (by simpa using ha) fun j c u hj hu => (hv (j + 1) c u (by simpa using hj) (by simpa using hu)).evol e1
      refine ⟨S2, r2, e1.trans e2, fun j x u hj hu => ?_⟩
      cases j with
      | zero => simp at hj hu; subst hj; subst hu; exact d1.evol e2.sub e2.cell
      | succ j => exact d2 j x u (by simpa using hj) (by simpa using hu)
theorem liftArgsK_spec : ∀ (vs : List V) (h : Hp) (k : List V → Hp → Prop), liftArgsK vs h k → ∃ ds h', k ds h' ∧ ds.length = vs.length ∧
    ∀ (w : World) (S : Stb) (β : Bet), HR w S h β →
      ∀ (arr : List Value), arr.length = vs.length → (∀ (j : Nat) (c : V) (u : Value), vs[j]? = some c → arr[j]? = some u → VR w S h β c u) →
        ∃ S', HR w S' h' β ∧ Evol w S h β w S' h' β ∧ (∀ (j : Nat) (c : V) (u : Value), ds[j]? = some c → arr[j]? = some u → VR w S' h' β c u) := by
  intro vs
  induction vs with
  | nil => exact fun h k hk => ⟨[], h, hk, rfl, fun w S β hr arr _ _ => ⟨S, hr, Evol.refl _ _ _ _, by simp⟩⟩
  | cons v r ih =>
    intro h k hk
    have lifted : (liftK v h fun d h => liftArgsK r h fun ds h => k (.d d :: ds) h) → ∃ ds h', k ds h' ∧ ds.length = (v :: r).length ∧
        ∀ (w : World) (S : Stb) (β : Bet), HR w S h β →
          ∀ (arr : List Value), arr.length = (v :: r).length → (∀ (j : Nat) (c : V) (u : Value), (v :: r)[j]? = some c → arr[j]? = some u → VR w S h β c u) →
            ∃ S', HR w S' h' β ∧ Evol w S h β w S' h' β ∧ (∀ (j : Nat) (c : V) (u : Value), ds[j]? = some c → arr[j]? = some u → VR w S' h' β c u) := fun hk => by
      obtain ⟨d, h1, hk, hd⟩ := liftK_spec hk
      obtain ⟨ds, h2, hk, hl, hds⟩ := ih _ _ hk
      refine ⟨_, h2, hk, by simp [hl], fun w S β hr arr ha hv => ?_⟩
      cases arr with
      | nil => simp at ha
      | cons y arr =>
        obtain ⟨S1, r1, e1, d1⟩ := hd w S β y hr (hv 0 v y rfl rfl)
        obtain ⟨S2, r2, e2, d2⟩ := hds w S1 β r1 arr (by simpa using ha) fun j c u hj hu => (hv (j + 1) c u (by simpa using hj) (by simpa using hu)).evol e1
        refine ⟨S2, r2, e1.trans e2, fun j x u hj hu => ?_⟩
        cases j with
        | zero => simp at hj hu; subst hj; subst hu; exact .d (d1.evol e2.sub e2.cell)
        | succ j => exact d2 j x u (by simpa using hj) (by simpa using hu)
    have kept : (liftArgsK r h fun ds h => k (v :: ds) h) → ∃ ds h', k ds h' ∧ ds.length = (v :: r).length ∧
        ∀ (w : World) (S : Stb) (β : Bet), HR w S h β →
          ∀ (arr : List Value), arr.length = (v :: r).length → (∀ (j : Nat) (c : V) (u : Value), (v :: r)[j]? = some c → arr[j]? = some u → VR w S h β c u) →
            ∃ S', HR w S' h' β ∧ Evol w S h β w S' h' β ∧ (∀ (j : Nat) (c : V) (u : Value), ds[j]? = some c → arr[j]? = some u → VR w S' h' β c u) := fun hk => by
      obtain ⟨ds, h2, hk, hl, hds⟩ := ih _ _ hk
      refine ⟨_, h2, hk, by simp [hl], fun w S β hr arr ha hv => ?_⟩
      cases arr with
      | nil => simp at ha
      | cons y arr =>
        obtain ⟨S2, r2, e2, d2⟩ := hds w S β hr arr (by simpa using ha) fun j c u hj hu => hv (j + 1) c u (by simpa using hj) (by simpa using hu)
        refine ⟨S2, r2, e2, fun j x u hj hu => ?_⟩
        cases j with
        | zero => simp at hj hu; subst hj; subst hu; exact (hv 0 _ _ rfl rfl).evol e2
        | succ j => exact d2 j x u (by simpa using hj) (by simpa using hu)
    simp only [liftArgsK] at hk
    split at hk
    · exact lifted hk
    · exact lifted hk
    · split at hk
      · rename_i f
        obtain ⟨ds, h2, hk, hl, hds⟩ := ih _ _ hk
        refine ⟨_, h2, hk, by simp [hl], fun w S β hr arr ha hv => ?_⟩
        cases arr with
        | nil => simp at ha
        | cons y arr =>
          obtain ⟨S2, r2, e2, d2⟩ := hds w S β hr arr (by simpa using ha) fun j c u hj hu => hv (j + 1) c u (by simpa using hj) (by simpa using hu)
          refine ⟨S2, r2, e2, fun j x u hj hu => ?_⟩
          cases j with
          | zero =>
            simp at hj hu; subst hj; subst hu
            have := hv 0 _ _ rfl rfl
            cases this with
            | fn _ _ arr h1 h2 =>
              have : arr = #[] := Array.eq_empty_of_size_eq_zero h1
              subst this
              exact .d (.k _ rfl)
          | succ j => exact d2 j x u (by simpa using hj) (by simpa using hu)
      · exact kept hk
    · exact kept hk
theorem liftOpK_spec {op : Op} {vs : List V} {h : Hp} {k : List V → Hp → Prop} (hk : liftOpK op vs h k) : ∃ ds h', k ds h' ∧ ds.length = vs.length ∧
    ∀ (w : World) (S : Stb) (β : Bet), HR w S h β →
      ∀ (arr : List Value), arr.length = vs.length → (∀ (j : Nat) (c : V) (u : Value), vs[j]? = some c → arr[j]? = some u → VR w S h β c u) →
        ∃ S', HR w S' h' β ∧ Evol w S h β w S' h' β ∧ (∀ (j : Nat) (c : V) (u : Value), ds[j]? = some c → arr[j]? = some u → VR w S' h' β c u) := by
  have triv : k vs h → ∃ ds h', k ds h' ∧ ds.length = vs.length ∧
    ∀ (w : World) (S : Stb) (β : Bet), HR w S h β →
      ∀ (arr : List Value), arr.length = vs.length → (∀ (j : Nat) (c : V) (u : Value), vs[j]? = some c → arr[j]? = some u → VR w S h β c u) →
        ∃ S', HR w S' h' β ∧ Evol w S h β w S' h' β ∧ (∀ (j : Nat) (c : V) (u : Value), ds[j]? = some c → arr[j]? = some u → VR w S' h' β c u) :=
    fun hk => ⟨vs, h, hk, rfl, fun w S β hr arr _ hv => ⟨S, hr, Evol.refl _ _ _ _, hv⟩⟩
  unfold liftOpK at hk
  split at hk
  · exact liftArgsK_spec _ _ _ hk
  · split at hk
    · obtain ⟨b, _, hk⟩ := nthK_iff.1 hk
      split at hk
      · exact triv hk
      · exact liftArgsK_spec _ _ _ hk
    · exact liftArgsK_spec _ _ _ hk
  · exact liftArgsK_spec _ _ _ hk
  · split at hk
    · obtain ⟨b, _, hk⟩ := nthK_iff.1 hk
      split at hk
      · exact liftArgsK_spec _ _ _ hk
      · exact triv hk
    · exact triv hk
  · exact triv hk
end Go.PM
/-
  PM: ranges over maps.
-/
set_option linter.unusedSectionVars false
namespace Go.PM
open Go.ChangeMaps (setBlock)
variable [Glob]
variable {P : Program} {T : TT}
theorem gone_tail {w : World} {S : Stb} {h : Hp} {β : Bet} (hr : HR w S h β) {n b p : Nat} {blk : Blk} (hn : h[n]? = some blk) (hb : β[n]? = some (some (b, p))) (hev : ∀ t, BEv blk β[n]? .gone t) :
    HR w S (h.set n .gone) (β.set n none ++ [some (b, p)]) ∧ Evol w S h β w S (h.set n .gone) (β.set n none ++ [some (b, p)]) ∧ tl (h.set n .gone) (β.set n none ++ [some (b, p)]) (β.length - h.length) = some (some (b, p)) := by
  have hnl : n < h.length := (List.getElem?_eq_some_iff.1 hn).1
  have hlen := hr.len
  obtain ⟨β', hβ'⟩ : ∃ β', β' = β.set n none ++ [some (b, p)] := ⟨_, rfl⟩
  obtain ⟨h', hh'⟩ : ∃ h', h' = h.set n .gone := ⟨_, rfl⟩
  rw [← hβ', ← hh']
  have hl' : h'.length = h.length := by rw [hh']; simp
  have hold : ∀ i, i ≠ n → i < β.length → β'[i]? = β[i]? := fun i hi hl => by rw [hβ', List.getElem?_append_left (by simpa using hl), List.getElem?_set_ne (Ne.symm hi)]
  have hbm : β'[n]? = some none := by rw [hβ', List.getElem?_append_left (by simp; omega), List.getElem?_set_self (by omega)]
  have hlast : β'[β.length]? = some (some (b, p)) := by rw [hβ', List.getElem?_append_right (by simp)]; simp
  have hcase : ∀ i c q, β'[i]? = some (some (c, q)) → (i ≠ n ∧ i < β.length ∧ β[i]? = some (some (c, q))) ∨ (i = β.length ∧ (c, q) = (b, p)) := fun i c q hi => by
    by_cases h0 : i = n
    · subst h0; rw [hbm] at hi; cases hi
    · by_cases h1 : i < β.length
      · exact .inl ⟨h0, h1, by rw [← hold i h0 h1]; exact hi⟩
      · have : i = β.length := by
          have := (List.getElem?_eq_some_iff.1 hi).1
          rw [hβ'] at this; simp at this; omega
        subst this
        rw [hlast] at hi; simp at hi
        exact .inr ⟨rfl, by simp [hi]⟩
  have hget : ∀ i, i ≠ n → h'[i]? = h[i]? := fun i hi => by rw [hh', List.getElem?_set_ne (Ne.symm hi)]
  have hgn : h'[n]? = some .gone := by rw [hh', List.getElem?_set_self hnl]
  have htl : ∀ r c q, tl h β r = some (some (c, q)) → tl h' β' r = some (some (c, q)) := fun r c q ht => by
    unfold tl at ht ⊢
    rw [hl', hold _ (by omega) (List.getElem?_eq_some_iff.1 ht).1]
    exact ht
  have E : Evol w S h β w S h' β' := by
    refine ⟨Out.refl _, Nat.le_refl _, fun _ _ _ => rfl, fun _ c _ _ hi => ⟨c, hi, rfl⟩, fun _ l hl => ⟨l, hl⟩, fun _ _ => rfl, fun _ _ h => h, fun _ _ h => .inl h, fun _ _ _ => rfl, ?_, by omega, fun i c hi => ?_⟩
    · rintro c ⟨i, q, hi⟩
      rcases hcase i c q hi with ⟨_, _, h1⟩ | ⟨_, h1⟩
      · exact .inl ⟨i, q, h1⟩
      · simp only [Prod.mk.injEq] at h1
        obtain ⟨rfl, rfl⟩ := h1
        exact .inl ⟨_, _, hb⟩
    · have hil : i < h.length := (List.getElem?_eq_some_iff.1 hi).1
      by_cases hin : i = n
      · subst hin
        rw [hn] at hi; cases hi
        exact ⟨_, hgn, hev _⟩
      · exact ⟨c, by rw [hget i hin]; exact hi, by rw [hold i hin (by omega)]; exact BEv.refl _ _⟩
  refine ⟨⟨?_, fun i c hi => ?_, ?_, hr.old, hr.glob.evol E, fun r c q hc => ?_, ?_⟩, E, ?_⟩
  · rw [hl', hβ', List.length_append, List.length_set]; omega
  · by_cases hin : i = n
    · subst hin
      rw [hgn] at hi; cases hi
      exact hbm
    · rw [hget i hin] at hi
      have hil : i < h.length := (List.getElem?_eq_some_iff.1 hi).1
      exact BR.keep E (hold i hin (by omega)) (fun _ r b p ht => ⟨htl r b p ht, rfl, fun _ h => h⟩) (fun _ _ _ => ⟨rfl, fun _ h => h⟩) (hr.blk i c hi)
  · intro i j c q q2 h1 h2
    rcases hcase i c q h1 with ⟨x0, x1, x2⟩ | ⟨x1, x2⟩ <;> rcases hcase j c q2 h2 with ⟨y0, y1, y2⟩ | ⟨y1, y2⟩
    · exact hr.inj _ _ _ _ _ x2 y2
    · simp only [Prod.mk.injEq] at y2
      obtain ⟨rfl, rfl⟩ := y2
      exact absurd (hr.inj _ _ _ _ _ x2 hb) x0
    · simp only [Prod.mk.injEq] at x2
      obtain ⟨rfl, rfl⟩ := x2
      exact absurd (hr.inj _ _ _ _ _ y2 hb) y0
    · omega
  · unfold tl at hc
    rcases hcase _ _ _ hc with ⟨_, _, x2⟩ | ⟨_, x2⟩
    · exact hr.lt x2
    · simp only [Prod.mk.injEq] at x2
      obtain ⟨rfl, rfl⟩ := x2
      exact hr.lt hb
  · have key : ∀ {i : Nat} {c : Blk}, h'[i]? = some c → c.own = true → h[i]? = some c := fun {i c} hi hc => by
      by_cases hin : i = n
      · subst hin; rw [hgn] at hi; cases hi; cases hc
      · rwa [hget i hin] at hi
    exact fun i j b c h1 h2 h3 h4 => hr.one _ _ _ _ (key h1 h3) (key h2 h4) h3 h4
  · unfold tl
    rw [hl', show h.length + (β.length - h.length) = β.length by omega]
    exact hlast
theorem unseen_none (mes : Array MapEntry) : unseen mes #[] = mes := by
  unfold unseen
  exact Array.filter_eq_self.2 fun _ _ => by simp
theorem range_sound (hT : tokB P T = true) {o : Oper} {t : TypeId} {x : Operand} (ho : o.op = .range t x) {ti : TI} (hty : tyOf T t = some ti) {k e : TypeId} (hk : ti.kind = .map k e) {T' : TT} {kt : TypeId} {es : List (D × D)} {n nf : Nat}
    {ρ : Operand → Value} {w : World} {S : Stb} {hp : Hp} {β : Bet} (hr : HR w S hp β) (hv : VR w S hp β (.map n) (ρ x)) (hn : hp[n]? = some (.map T' kt es)) (hf : hp[nf]? = some .res) (hno : hp.all (fun b => !b.own) = true) :
    ∃ w' S' β' cv, (execOp ρ o).run P w = .ok (.value cv) w' ∧ HR w' S' ((hp.set n .gone).set nf (.miter T' kt es none)) β' ∧ VR w' S' ((hp.set n .gone).set nf (.miter T' kt es none)) β' (.ptr nf 0 0 0) cv ∧
      Evol w S hp β w' S' ((hp.set n .gone).set nf (.miter T' kt es none)) β' := by
  have hu := kind_map (tyOf_ok hT hty) hk
  have hnf : nf ≠ n := by rintro rfl; rw [hn] at hf; cases hf
  obtain ⟨mb, mes, clock, a1, a2, a3, a4, a5, a6⟩ := hr.blk n _ hn
  generalize hxx : ρ x = cx at hv
  cases hv with
  | map g1 g2 =>
    have hb := g2 (by simp [hn])
    rw [a1] at hb; simp at hb; subst hb
    obtain ⟨r0, e0, t0⟩ := gone_tail hr hn a1 (fun _ => .inl rfl)
    obtain ⟨h0, hh0⟩ : ∃ h0, h0 = hp.set n .gone := ⟨_, rfl⟩
    obtain ⟨β0, hβ0⟩ : ∃ β0, β0 = β.set n none ++ [some (mb, 0)] := ⟨_, rfl⟩
    rw [← hh0, ← hβ0] at r0 e0 t0
    rw [← hh0]
    have hf0 : h0[nf]? = some .res := by rw [hh0, List.getElem?_set_ne (Ne.symm hnf)]; exact hf
    have hfl : nf < h0.length := (List.getElem?_eq_some_iff.1 hf0).1
    have hnone : β0[nf]? = some none := by have := r0.blk nf _ hf0; simpa [BR] using this
    have hnb : nf < β0.length := (List.getElem?_eq_some_iff.1 hnone).1
    have hmlt : mb < w.heap.size := (Array.getElem?_eq_some_iff.1 a2).1
    have hset : (β0.set nf (some (w.heap.size, 0)))[nf]? = some (some (w.heap.size, 0)) := by simp [hnb]
    have hno0 : ∀ (m : Nat) (c : Blk), h0[m]? = some c → c.own = true → False := fun m c hm hc => by
      by_cases hmn : m = n
      · subst hmn
        rw [hh0, List.getElem?_set_self (List.getElem?_eq_some_iff.1 hn).1] at hm
        cases hm; cases hc
      · rw [hh0, List.getElem?_set_ne (Ne.symm hmn)] at hm
        have := List.all_eq_true.1 hno c (List.mem_of_getElem? hm)
        rw [hc] at this; cases this
    obtain ⟨r1, e1⟩ := updG r0 (w' := w.alloc (.mapIter (some mb) clock #[] clock)) hf0 (blk' := .miter T' kt es none) (some (w.heap.size, 0)) (by simp) (fun i hi _ => heap_alloc_old w _ hi) (fun i p c e f hp => by rw [hnone] at hp; simp at hp)
      (fun i p l hp => by rw [hnone] at hp; simp at hp) (fun a _ => frozen_alloc_obj w _ (fun _ _ _ h => by cases h) a) (fun i p o hp => by rw [hnone] at hp; simp at hp) (fun b p hb => .inr (by cases hb; exact Nat.le_refl _)) (by simp [BEv])
      (fun E => by
        refine ⟨w.heap.size, mb, _, mes, clock, #[], clock, clock, hset, heap_alloc_new w _, by rw [tl_set hfl]; exact t0, by rw [heap_alloc_old w _ hmlt]; exact a2, ⟨Nat.le_refl _, Nat.le_refl _, a5⟩, ?_, trivial, fun o ho => absurd (r0.old _ _ ho) (by omega), a6⟩
        rw [unseen_none]
        refine ⟨by rw [Array.length_toList]; exact a3.symm, fun i p m hi hm => ?_⟩
        obtain ⟨b1, b2, b3⟩ := a4 i p m hi (by simpa using hm)
        exact ⟨b1, b2.evol E.sub E.cell, b3.evol E.sub E.cell⟩)
      (hone := fun i j b c h1 h2 h3 h4 => by
        have key : ∀ {i : Nat} {c : Blk}, (h0.set nf (.miter T' kt es none))[i]? = some c → c.own = true → i = nf := fun {i c} hi hc => by
          by_cases hin : i = nf
          · exact hin
          · rw [List.getElem?_set_ne (Ne.symm hin)] at hi
            exact (hno0 i c hi hc).elim
        exact (key h1 h3).trans (key h2 h4).symm)
    refine ⟨_, S, _, _, ?_, r1, .ptr (v := .pointer (some ⟨w.heap.size, 0, none⟩)) rfl ?_, e0.trans e1⟩
    · simp [execOp, ho, hxx, Instr.range, run_underlying hu, MapKept.run_getObj_map a2]
    · unfold PR
      rw [List.getElem?_set_self hfl]
      exact ⟨_, hset, rfl, rfl, rfl⟩
theorem filter_erase {α : Type} (f : α → Nat) : ∀ {l : List α}, (l.map f).Nodup → ∀ {j : Nat} {e : α}, l[j]? = some e → (l.filter fun x => !(f x == f e)) = l.eraseIdx j
  | [], _, j, e, h => by simp at h
  | x :: l, hn, 0, e, h => by
    simp only [List.getElem?_cons_zero, Option.some.injEq] at h
    subst h
    have hn : f x ∉ l.map f ∧ (l.map f).Nodup := List.nodup_cons.1 hn
    rw [List.filter_cons_of_neg (by simp), List.eraseIdx_zero, List.tail_cons, List.filter_eq_self]
    intro a ha
    have : f a ≠ f x := fun e => hn.1 (e ▸ List.mem_map.2 ⟨a, ha, rfl⟩)
    simp [this]
  | x :: l, hn, j + 1, e, h => by
    have hn : f x ∉ l.map f ∧ (l.map f).Nodup := List.nodup_cons.1 hn
    have h : l[j]? = some e := by simpa using h
    have hne : f x ≠ f e := fun he => hn.1 (he ▸ List.mem_map.2 ⟨e, List.mem_of_getElem? h, rfl⟩)
    rw [List.filter_cons_of_pos (by simp only [Bool.not_eq_true', beq_eq_false_iff_ne, ne_eq]; exact hne), filter_erase f hn.2 h, List.eraseIdx_cons_succ]
theorem next_sound {o : Oper} {x : Operand} (ho : o.op = .next x false) {kt : TypeId} {left : List (D × D)} {cur : Option (D × D)} {n : Nat}
    {ρ : Operand → Value} {w : World} {S : Stb} {hp : Hp} {β : Bet} (hr : HR w S hp β) (hv : VR w S hp β (.ptr n 0 0 0) (ρ x)) (hn : hp[n]? = some (.miter T kt left cur)) :
    (left = [] ∧ (execOp ρ o).run P w = .ok (.value (.tuple #[.bool false])) w) ∨
    ∃ (j : Nat) (p : D × D) (w' : World) (k v : Value), left[j]? = some p ∧ (execOp ρ o).run P w = .ok (.value (.tuple #[.bool true, k, v])) w' ∧ DR w' S p.1 k ∧ DR w' S p.2 v ∧
      HR w' S (hp.set n (.miter T kt (left.eraseIdx j) (some p))) β ∧ Evol w S hp β w' S (hp.set n (.miter T kt (left.eraseIdx j) (some p))) β := by
  obtain ⟨r, mb, q, mes, since, seen, last, clock, a1, a2, a3, a4, ⟨b1, b2, b3⟩, ⟨c1, c2⟩, _, d1, d2⟩ := hr.blk n _ hn
  have hnl : n < hp.length := (List.getElem?_eq_some_iff.1 hn).1
  generalize hxx : ρ x = cx at hv
  cases hv with
  | ptr g0 g =>
    simp only [PR, hn] at g
    obtain ⟨b', h1, _, _, rfl⟩ := g
    rw [a1] at h1; simp at h1; subst h1
    have hset : β.set n (some (r, 0)) = β := set_self a1
    rcases run_next_at (P := P) w o.type r mb since last seen mes clock a2 a4 b3.2 b1 with ⟨e1, e2⟩ | ⟨e, he, w1, hw1, hrun⟩
    · refine .inl ⟨List.eq_nil_of_length_eq_zero ?_, ?_⟩
      · rw [c1, Array.length_toList]; exact e1
      · simp [execOp, ho, hxx, e2]
    · have he : e ∈ (unseen mes seen).toList := he
      obtain ⟨j, hj, hje⟩ := List.getElem_of_mem he
      have hjg : (unseen mes seen).toList[j]? = some e := by rw [List.getElem?_eq_getElem hj]; exact congrArg some hje
      obtain ⟨p, hp'⟩ : ∃ p, left[j]? = some p := ⟨left[j]'(by rw [c1]; exact hj), List.getElem?_eq_getElem _⟩
      obtain ⟨k1, k2, k3⟩ := c2 j p e hp' hjg
      have hem : e ∈ mes.toList := by
        have : e ∈ (unseen mes seen).toList := he
        unfold unseen at this
        simp at this ⊢
        exact this.1
      have hw1' : HR w1 S hp β ∧ Evol w S hp β w1 S hp β := by
        rcases hw1 with rfl | rfl
        · exact ⟨hr, Evol.refl _ _ _ _⟩
        · exact drawn hr
      have ha2 : w1.heap[r]? = some (.mapIter (some mb) since seen last) := by rcases hw1 with rfl | rfl <;> exact a2
      have ha4 : w1.heap[mb]? = some (.map mes clock) := by rcases hw1 with rfl | rfl <;> exact a4
      have hlt : r < w1.heap.size := (Array.getElem?_eq_some_iff.1 ha2).1
      have hne : mb ≠ r := by rintro rfl; rw [ha2] at ha4; cases ha4
      have hnew : (setBlock w1 r (.mapIter (some mb) since (seen.push e.born) clock)).heap[r]? = some (.mapIter (some mb) since (seen.push e.born) clock) := by simp [setBlock, hlt]
      have hoth : ∀ i, i ≠ r → (setBlock w1 r (.mapIter (some mb) since (seen.push e.born) clock)).heap[i]? = w1.heap[i]? := fun i hi => by simp only [setBlock]; rw [Array.getElem?_setIfInBounds_ne (Ne.symm hi)]
      have hleft : (unseen mes (seen.push e.born)).toList = (unseen mes seen).toList.eraseIdx j := by
        have hnd : ((unseen mes seen).toList.map (·.born)).Nodup := by
          have : (unseen mes seen).toList.Sublist mes.toList := by unfold unseen; rw [Array.toList_filter]; exact List.filter_sublist
          exact b3.1.sublist (this.map _)
        rw [← filter_erase (·.born) hnd hjg]
        unfold unseen
        rw [Array.toList_filter, Array.toList_filter, List.filter_filter]
        refine List.filter_congr fun x _ => ?_
        rw [Array.contains_push, Bool.not_or, Bool.and_comm]
      obtain ⟨r1, r2⟩ := upd hw1'.1 hn (blk' := .miter T kt (left.eraseIdx j) (some p)) (w' := setBlock w1 r (.mapIter (some mb) since (seen.push e.born) clock)) (some (r, 0)) (by simp [setBlock]) (fun i _ hh => hoth i (fun e => hh 0 (by rw [e]; exact a1)))
        (fun i p c e f hp hi => by rw [a1] at hp; simp at hp; obtain ⟨rfl, _⟩ := hp; rw [ha2] at hi; simp at hi)
        (fun i p l hp hi => by rw [a1] at hp; simp at hp; obtain ⟨rfl, _⟩ := hp; rw [ha2] at hi; simp at hi)
        (fun a => by
          by_cases ha : a.block = r
          · unfold World.frozen?; simp only [ha, hnew, ha2]
          · exact World.frozen?_of_block (hoth _ ha))
        (fun i p o hp hs => by rw [a1] at hp; simp at hp; obtain ⟨rfl, _⟩ := hp; exact absurd hs (d1 o))
        (fun b' p hb' => .inl ⟨0, by cases hb'; exact a1⟩) (by rw [a1]; exact .inr ⟨⟨_, _, rfl⟩, rfl⟩)
        (fun E => by
          refine ⟨r, mb, q, mes, since, seen.push e.born, clock, clock, by rw [hset]; exact a1, hnew, by rw [tl_set hnl]; exact a3, by rw [hoth mb hne]; exact ha4, ⟨b2, b2, b3⟩, ?_, ⟨seen, e, rfl, rfl, hem, (k2.evol hw1'.2.sub hw1'.2.cell).evol E.sub E.cell, (k3.evol hw1'.2.sub hw1'.2.cell).evol E.sub E.cell⟩, d1, d2⟩
          rw [hleft]
          refine ⟨by rw [List.length_eraseIdx_of_lt (by rw [c1]; exact hj), List.length_eraseIdx_of_lt hj, c1], fun i p' m hi hm => ?_⟩
          rw [List.getElem?_eraseIdx] at hi hm
          have : ∃ i' : Nat, left[i']? = some p' ∧ (unseen mes seen).toList[i']? = some m := by
            by_cases hij : i < j
            · rw [if_pos hij] at hi hm; exact ⟨_, hi, hm⟩
            · rw [if_neg hij] at hi hm; exact ⟨_, hi, hm⟩
          obtain ⟨i', f1, f2⟩ := this
          obtain ⟨f3, f4, f5⟩ := c2 i' p' m f1 f2
          exact ⟨f3, (f4.evol hw1'.2.sub hw1'.2.cell).evol E.sub E.cell, (f5.evol hw1'.2.sub hw1'.2.cell).evol E.sub E.cell⟩) (hone := fun _ => rfl)
      rw [hset] at r1 r2
      refine .inr ⟨j, p, _, _, _, hp', ?_, (k2.evol hw1'.2.sub hw1'.2.cell).evol r2.sub r2.cell, (k3.evol hw1'.2.sub hw1'.2.cell).evol r2.sub r2.cell, r1, hw1'.2.trans r2⟩
      simp [execOp, ho, hxx, hrun]
theorem entry_sound {o : Oper} {x : Operand} (ho : o.op = .entry x) {kt : TypeId} {left : List (D × D)} {p : D × D} {n : Nat}
    {ρ : Operand → Value} {w : World} {S : Stb} {hp : Hp} {β : Bet} (hr : HR w S hp β) (hv : VR w S hp β (.ptr n 0 0 0) (ρ x)) (hn : hp[n]? = some (.miter T kt left (some p))) :
    ∃ k v : Value, (execOp ρ o).run P w = .ok (.value (.tuple #[k, v])) w ∧ DR w S p.1 k ∧ DR w S p.2 v := by
  obtain ⟨r, mb, q, mes, since, seen, last, clock, a1, a2, a3, a4, ⟨b1, b2, b3⟩, _, ⟨s0, e, rfl, rfl, he, k1, k2⟩, d1, d2⟩ := hr.blk n _ hn
  generalize hxx : ρ x = cx at hv
  cases hv with
  | ptr g0 g =>
    simp only [PR, hn] at g
    obtain ⟨b', h1, _, _, rfl⟩ := g
    rw [a1] at h1; simp at h1; subst h1
    have hrun := run_entry_at (P := P) w r mb since s0 mes last e a2 a4 he b3.1
    exact ⟨_, _, by simp [execOp, ho, hxx, hrun], k1, k2⟩
end Go.PM
/-
  PM, part 16: operations one after the other.
-/
set_option linter.unusedSectionVars false
namespace Go.PM
variable [Glob]
variable {P : Program} {T : TT}
def FF (ro : Option Nat) : Fence := { Fence.wide with round := ro }
theorem FF.all (ro : Option Nat) (f : FuncId) : (FF ro).fn f := trivial
theorem callsIn_FF {ro : Option Nat} {n : Nat} {f : FuncId} {args : Array Value} {w : World} {R : Ending → World → Prop} : CallsIn (FF ro) n P f args w R ↔ Calls P f args w R :=
  callsIn_wide (n := n)
structure Cx where
  ro : Option Nat
  B : Nat
def Marks (B : Nat) (w : World) (β : Bet) (ds : List Deferred) : Prop :=
  ds.Pairwise (fun d e => d.target ≠ e.target) ∧ ∀ d ∈ ds, ∃ r, d.target = .collected r ∧ B ≤ r ∧ w.heap[r]? = some (.deferred (some [])) ∧ ¬ img β r
theorem Marks.evol {B : Nat} {w w' : World} {S S' : Stb} {h h' : Hp} {β β' : Bet} {ds : List Deferred} (hm : Marks B w β ds) (E : Evol w S h β w' S' h' β') : Marks B w' β' ds := by
  refine ⟨hm.1, fun d hd => ?_⟩
  obtain ⟨r, h1, h2, h3, h4⟩ := hm.2 d hd
  have hlt : r < w.heap.size := (Array.getElem?_eq_some_iff.1 h3).1
  refine ⟨r, h1, h2, by rw [E.frame r hlt h4]; exact h3, fun hi => ?_⟩
  rcases E.imgs r hi with hi | hi
  · exact h4 hi
  · omega
structure St (N : Nat) (C : Cx) (a : Act) (w : World) (S : Stb) (ts : Tm) (h : Hp) (β : Bet) : Prop where
  hr : HR w S h β
  tr : TR w S h β ts a.tmps
  size : a.tmps.size = N
  marks : Marks C.B w β a.defers
  round : ∀ l, C.ro = some l → ∃ r, w.heap[l]? = some (.loop r)
  base : C.B ≤ w.heap.size
theorem litD_spec {v : Value} {x : D} (h : litD v = some x) (w : World) (S : Stb) : DR w S x v ∧ x.flat = true := by
  unfold litD at h
  split at h <;> simp at h <;> (try subst h)
  · exact ⟨.b _, rfl⟩
  · exact ⟨.i _ _, rfl⟩
  · exact ⟨.s _, rfl⟩
  · exact ⟨.sl 0 true [] none 0 0 0 (fun _ _ => undef) (by simp) (by simp) (by simp) (by simp) (by simp) (by simp) (by simp), rfl⟩
  · refine ⟨.k _ ?_, rfl⟩
    cases v <;> simp_all [one]
theorem litDs_spec : ∀ {vs : List Value} {xs : List D}, litDs vs = some xs → xs.length = vs.length ∧ ∀ (j : Nat) (x : D) (v : Value), xs[j]? = some x → vs[j]? = some v → ∀ w S, DR w S x v ∧ x.flat = true
  | [], xs, h => by simp [litDs] at h; subst h; simp
  | v :: vs, xs, h => by
    simp only [litDs] at h
    split at h
    · rename_i x ys h1 h2
      simp at h; subst h
      obtain ⟨i1, i2⟩ := litDs_spec h2
      refine ⟨by simp [i1], fun j y u hy hu w S => ?_⟩
      cases j with
      | zero => simp at hy hu; subst hy; subst hu; exact litD_spec h1 w S
      | succ j => exact i2 j y u (by simpa using hy) (by simpa using hu) w S
    · cases h
theorem ofConst_spec (v : Value) (w : World) (S : Stb) (h : Hp) (β : Bet) : VR w S h β (ofConst v) v := by
  unfold ofConst
  split
  · rename_i cs
    split
    · rename_i xs hx
      obtain ⟨h1, h2⟩ := litDs_spec hx
      refine .d (.agg xs cs (by simpa using h1.symm) (fun j c hj => ?_) fun j c y hj hy => (h2 j c y hj (by simpa using hy) w S).1)
      have hl : j < cs.toList.length := by rw [← h1]; exact (List.getElem?_eq_some_iff.1 hj).1
      exact (h2 j c _ hj (List.getElem?_eq_getElem hl) w S).2
    · exact .u _
  · split
    · rename_i x hx
      exact .d (litD_spec hx w S).1
    · exact .u _
theorem constK_spec (v : Value) (k : V → Prop) (h : constK v k) : k (ofConst v) := by
  unfold constK at h
  split at h
  · exact h
  · exact h
  · exact h
  · exact h
  · rename_i cs
    simp only [ofConst]
    cases hh : litDs cs.toList <;> simp only [hh] at h ⊢ <;> exact h
  · exact h
theorem lookK_spec : ∀ (ts : Tm) (t : Nat) (k : V → Prop), lookK ts t k → k (look ts t)
  | [], t, k, h => h
  | (j, v) :: r, t, k, h => by
    simp only [lookK, look] at h ⊢
    cases hj : Nat.beq j t <;> simp only [hj] at h ⊢
    · exact lookK_spec r t k h
    · exact h
theorem globK_spec (k : V → Prop) (g : Nat) : ∀ l, globK l g k → k (globV l g)
  | [], h => h
  | (j, cs) :: r, h => by
    unfold globK at h
    unfold globV
    cases hb : Nat.beq j g with
    | true => simpa [hb] using h
    | false => simp only [hb] at h ⊢; exact globK_spec k g r h
theorem evK_spec (ts : Tm) (x : Operand) (k : V → Prop) (h : evK ts x k) : k (ev ts x) := by
  cases x with
  | tmp t => exact lookK_spec ts t k h
  | const v => exact constK_spec v k h
  | func f => exact h
  | global g => exact globK_spec k g _ h
theorem evsK_spec (ts : Tm) : ∀ (xs : List Operand) (k : List V → Prop), evsK ts xs k → k (xs.map (ev ts))
  | [], k, h => h
  | x :: r, k, h => by
    have h1 := evK_spec ts x _ h
    exact evsK_spec ts r _ h1
theorem globV_rel {w : World} {S : Stb} {h : Hp} {β : Bet} (g : Nat) : ∀ (l : List (Nat × List D)), (∀ p ∈ l, ∀ (j : Nat) (c : D), p.2[j]? = some c → c.flat = true ∧ ∃ u, w.cell? ⟨p.1, j, none⟩ = some u ∧ DR w S c u ∧ S p.1 j) → VR w S h β (globV l g) (.pointer (some ⟨g, 0, none⟩))
  | [], _ => .u _
  | (j, cs) :: r, hg => by
    unfold globV
    cases hb : Nat.beq j g with
    | true =>
      have := Nat.eq_of_beq_eq_true hb
      subst this
      have hj := hg (j, cs) (.head _)
      exact .rp cs 0 j 0 (fun i => (w.cell? ⟨j, i, none⟩).getD undef) (fun i c hi => by
        obtain ⟨h1, u, h2, h3, h4⟩ := hj i c hi
        rw [Nat.zero_add]
        exact ⟨h1, by rw [h2]; rfl, h4⟩) (fun i c hi => by
        obtain ⟨h1, u, h2, h3, h4⟩ := hj i c hi
        rw [h2]; exact h3)
    | false => exact globV_rel g r fun p hp => hg p (.tail _ hp)
theorem ev_rel {w : World} {S : Stb} {h : Hp} {β : Bet} {ts : Tm} {a : Act} (hg : GlobOk w S) (ht : TR w S h β ts a.tmps) (x : Operand) : VR w S h β (ev ts x) (a.eval x) := by
  cases x with
  | tmp t => exact ht t
  | const v => exact ofConst_spec v w S h β
  | func f => exact .fn f [] #[] rfl (by simp)
  | global g => exact globV_rel g _ hg.cells
theorem ors_rel {w : World} {S : Stb} {h : Hp} {β : Bet} {ts : Tm} {a : Act} (hg : GlobOk w S) (ht : TR w S h β ts a.tmps) (xs : List Operand) : OR w S h β a.eval xs (xs.map (ev ts)) := by
  refine ⟨by simp, fun i x v hx hv => ?_⟩
  rw [List.getElem?_map, hx] at hv
  simp at hv; subst hv
  exact ev_rel hg ht x
theorem put_rel {w : World} {S : Stb} {h : Hp} {β : Bet} {ts : Tm} {a : Act} {d : Nat} (ht : TR w S h β ts a.tmps) (hd : d < a.tmps.size) {v : V} {cv : Value} (hv : VR w S h β v cv) : TR w S h β ((d, v) :: ts) (a.tmps.setIfInBounds d cv) := by
  intro t
  simp only [look]
  by_cases hdt : d = t
  · subst hdt
    have : Nat.beq d d = true := Nat.beq_refl d
    simp only [this]
    rw [Array.getD_eq_getD_getElem?, Array.getElem?_setIfInBounds_self, if_pos hd]
    exact hv
  · have : Nat.beq d t = false := by
      cases hb : Nat.beq d t
      · rfl
      · exact absurd (Nat.eq_of_beq_eq_true hb) hdt
    simp only [this]
    rw [Array.getD_eq_getD_getElem?, Array.getElem?_setIfInBounds_ne hdt, ← Array.getD_eq_getD_getElem?]
    exact ht t
def putT (ts : Tm) (d : Option Nat) (v : V) : Tm := match d with
  | none => ts
  | some d => (d, v) :: ts
theorem putK_spec {N : Nat} {ts : Tm} {d : Option Tmp} {v : V} {k : Tm → Prop} (h : putK N ts d v k) : (∀ x, d = some x → x < N) ∧ k (putT ts d v) := by
  unfold putK at h
  cases d with
  | none => exact ⟨by simp, h⟩
  | some d =>
    simp only [] at h
    split at h
    · rename_i hb
      exact ⟨fun x hx => by cases hx; exact Nat.le_of_ble_eq_true hb, h⟩
    · exact h.elim
theorem St.put {N : Nat} {C : Cx} {a : Act} {w : World} {S : Stb} {ts : Tm} {h : Hp} {β : Bet} (hs : St N C a w S ts h β) {d : Option Nat} (hd : ∀ x, d = some x → x < N) {v : V} {cv : Value} (hv : VR w S h β v cv) : St N C (a.put d cv) w S (putT ts d v) h β := by
  cases d with
  | none => exact hs
  | some d => exact ⟨hs.hr, put_rel hs.tr (by rw [hs.size]; exact hd d rfl) hv, by simp [Act.put, hs.size], hs.marks, hs.round, hs.base⟩
theorem St.evol {N : Nat} {C : Cx} {a : Act} {w w' : World} {S S' : Stb} {ts : Tm} {h h' : Hp} {β β' : Bet} (hs : St N C a w S ts h β) (E : Evol w S h β w' S' h' β') (hr : HR w' S' h' β') : St N C a w' S' ts h' β' :=
  ⟨hr, fun t => (hs.tr t).evol E, hs.size, hs.marks.evol E, fun l hl => by
    obtain ⟨r, h1⟩ := hs.round l hl
    exact E.loops l r h1, Nat.le_trans hs.base E.size⟩
theorem nthO_eq : ∀ (l : List Oper) (j : Nat), nthO l j = l[j]?
  | [], j => by simp [nthO]
  | o :: l, 0 => rfl
  | o :: l, j + 1 => by simpa [nthO] using nthO_eq l j
def Wants (all : List Oper) (ts : Tm) (o : Oper) (run : Bool) : Prop := match o.guard with
  | none => run = true
  | some (j, want) => ∃ g t, all[j]? = some g ∧ g.dst = some t ∧ ((∃ x, look ts t = .d (.b x) ∧ run = (x == want)) ∨ (look ts t = .tup [] ∧ run = false))
theorem guardK_spec {all : List Oper} {ts : Tm} {o : Oper} {yes no : Prop} (h : guardK all ts o.guard yes no) : (Wants all ts o true ∧ yes) ∨ (Wants all ts o false ∧ no) := by
  unfold guardK at h
  unfold Wants
  cases hg : o.guard with
  | none => simp only [hg] at h ⊢; exact .inl ⟨trivial, h⟩
  | some p =>
    obtain ⟨j, want⟩ := p
    simp only [hg] at h ⊢
    rw [nthO_eq] at h
    cases ho : all[j]? with
    | none => simp [ho] at h
    | some g =>
      simp only [ho] at h
      cases hd : g.dst with
      | none => simp [hd] at h
      | some t =>
        simp only [hd] at h
        have h := lookK_spec _ _ _ h
        split at h
        · rename_i x hx
          cases want with
          | true =>
            simp only [] at h
            obtain ⟨h1, h2⟩ := (br_iff _ _ _).1 h
            cases x with
            | true => exact .inl ⟨⟨g, t, rfl, hd, .inl ⟨true, hx, rfl⟩⟩, h1 rfl⟩
            | false => exact .inr ⟨⟨g, t, rfl, hd, .inl ⟨false, hx, rfl⟩⟩, h2 rfl⟩
          | false =>
            simp only [] at h
            obtain ⟨h1, h2⟩ := (br_iff _ _ _).1 h
            cases x with
            | true => exact .inr ⟨⟨g, t, rfl, hd, .inl ⟨true, hx, rfl⟩⟩, h1 rfl⟩
            | false => exact .inl ⟨⟨g, t, rfl, hd, .inl ⟨false, hx, rfl⟩⟩, h2 rfl⟩
        · rename_i l hx
          split at h
          · exact .inr ⟨⟨g, t, rfl, hd, .inr ⟨hx, by trivial⟩⟩, h⟩
          · exact h.elim
        · exact h.elim
theorem Wants.run {N : Nat} {C : Cx} {a : Act} {w : World} {S : Stb} {ts : Tm} {h : Hp} {β : Bet} (hs : St N C a w S ts h β) {ops : Array Oper} {o : Oper} {run : Bool} (hw : Wants ops.toList ts o run) : Region.wanted o (yielded ops a.tmps) = run := by
  unfold Wants at hw
  unfold Region.wanted
  cases hg : o.guard with
  | none => simp only [hg] at hw; exact hw.symm
  | some p =>
    obtain ⟨j, want⟩ := p
    simp only [hg] at hw ⊢
    obtain ⟨g, t, h1, h2, hw⟩ := hw
    have ht := hs.tr t
    have hop : ops[j]? = some g := by simpa using h1
    rcases hw with ⟨x, h3, rfl⟩ | ⟨h3, rfl⟩
    case inr =>
      rw [h3] at ht
      have hy : yielded ops a.tmps j = none := by
        simp only [yielded, hop, Option.bind_some, h2]
        cases hc : a.tmps[t]? with
        | none => rfl
        | some v =>
          rw [Array.getD_eq_getD_getElem?, hc] at ht
          simp only [Option.getD_some] at ht
          cases ht with
          | tup _ arr _ _ => rfl
      simp [hy]
    rw [h3] at ht
    have hl : t < a.tmps.size := by
      rcases Nat.lt_or_ge t a.tmps.size with hl | hl
      · exact hl
      · rw [Array.getD_eq_getD_getElem?, Array.getElem?_eq_none hl] at ht
        cases ht with
        | d h => cases h
    have hx : a.tmps[t]? = some (.bool x) := by
      rw [Array.getD_eq_getD_getElem?, Array.getElem?_eq_getElem hl] at ht
      rw [Array.getElem?_eq_getElem hl]
      simp only [Option.getD_some] at ht
      generalize a.tmps[t] = vv at ht
      cases ht with
      | d h => cases h; rfl
    simp only [yielded, hop, Option.bind_some, h2, hx]
    cases x <;> cases want <;> rfl
def OpW (P : Program) (ro : Option Nat) (n : Nat) (o : Oper) (xs : List Operand) (vs : List V) (ns : List Nat) (bs bs' : List Blk) (v : V) : Prop :=
  ∀ (a : Act) (w : World) (S : Stb) (h : Hp) (β : Bet), HR w S h β → OR w S h β a.eval xs vs → (∀ (i m : Nat), ns[i]? = some m → h[m]? = bs[i]?) →
    ∀ (next : Act → World → Prop) (Q : Exit → Act → World → Prop),
      (∀ w' S' β' cv, HR w' S' (setL h ns bs') β' → VR w' S' (setL h ns bs') β' v cv → Evol w S h β w' S' (setL h ns bs') β' → next (a.put o.dst cv) w') →
      o.wpIn (FF ro) n P a w next Q
theorem OpS.opW {ro : Option Nat} {n : Nat} {o : Oper} {vs : List V} {ns : List Nat} {bs bs' : List Blk} {v : V} (h : OpS P o vs ns bs bs' v) (hd : ∀ c, o.op ≠ .defer c) : OpW P ro n o (opArgs o.op) vs ns bs bs' v := by
  intro a w S hp β hr hor hb next Q hk
  obtain ⟨nx, w', S', β', cv, h1, h2, h3, h4, h5⟩ := h a.eval w S hp β hr hor hb
  refine ⟨fun f _ => FF.all ro f, ?_⟩
  rw [Oper.semAt_eq _ _ _ hd, h1]
  rcases h2 with rfl | ⟨rfl, rfl⟩
  · exact hk w' S' β' cv h3 h4 h5
  · exact hk w' S' β' undef h3 h4 h5
def CallF (P : Program) (f : FuncId) (args : Array Value) (w : World) (R : Value → World → Prop) : Prop :=
  ((callFunc f args).run P w = .ok (.enter f args) w ∧ Calls P f args w fun e w' => ∃ v, e = .returned v ∧ R v w') ∨ ∃ v w', (callFunc f args).run P w = .ok (.value v) w' ∧ R v w'
def VRs (w : World) (S : Stb) (h : Hp) (β : Bet) (vs : List V) (args : Array Value) : Prop :=
  args.size = vs.length ∧ ∀ (j : Nat) (c : V) (u : Value), vs[j]? = some c → args[j]? = some u → VR w S h β c u
def CallV (P : Program) (f : FuncId) (args : List V) (h : Hp) (k : V → Hp → Prop) : Prop :=
  ∀ (w : World) (S : Stb) (β : Bet) (argv : Array Value), HR w S h β → VRs w S h β args argv →
    CallF P f argv w fun cv w' => ∃ v h' S' β', k v h' ∧ HR w' S' h' β' ∧ VR w' S' h' β' v cv ∧ Evol w S h β w' S' h' β'
def CallP (P : Program) (f : FuncId) (args : List V) (v : V) : Prop :=
  ∀ (w : World) (S : Stb) (h : Hp) (β : Bet) (argv : Array Value), HR w S h β → VRs w S h β args argv →
    CallF P f argv w fun cv w' => ∃ S' β', HR w' S' h β' ∧ VR w' S' h β' v cv ∧ Evol w S h β w' S' h β'
def CallRow (P : Program) (f : FuncId) (args : List V) (sz : Nat) (ys : List D) : Prop :=
  ∀ (w : World) (S : Stb) (h : Hp) (β : Bet) (argv : Array Value) (n : Nat), h[n]? = some .res → HR w S h β → VRs w S h β args argv →
    CallF P f argv w fun cv w' => ∃ S' β', HR w' S' (h.set n (.row 0 sz false ys)) β' ∧ VR w' S' (h.set n (.row 0 sz false ys)) β' (.sref n 0 0 ys.length false) cv ∧ Evol w S h β w' S' (h.set n (.row 0 sz false ys)) β'
def CallMap (P : Program) (f : FuncId) (args : List V) (T : TT) (kt : TypeId) (es : List (D × D)) : Prop :=
  ∀ (w : World) (S : Stb) (h : Hp) (β : Bet) (argv : Array Value) (n : Nat), h[n]? = some .res → HR w S h β → VRs w S h β args argv →
    CallF P f argv w fun cv w' => ∃ S' β', HR w' S' (h.set n (.map T kt es)) β' ∧ VR w' S' (h.set n (.map T kt es)) β' (.map n) cv ∧ Evol w S h β w' S' (h.set n (.map T kt es)) β'
def CallFix (P : Program) (f : FuncId) (args : List V) (n ver sz : Nat) (ro : Bool) (xs : List D) (v : V) : Prop :=
  ∀ (w : World) (S : Stb) (h : Hp) (β : Bet) (argv : Array Value), h[n]? = some (.row ver sz ro xs) → HR w S h β → VRs w S h β args argv →
    CallF P f argv w fun cv w' => ∃ S' β', HR w' S' (h.set n (.row ver sz true xs)) β' ∧ VR w' S' (h.set n (.row ver sz true xs)) β' v cv ∧ Evol w S h β w' S' (h.set n (.row ver sz true xs)) β'
def CallK (P : Program) (f : FuncId) (args : List V) (ns : List Nat) (bs : List Blk) (v : V) : Prop :=
  ∀ (w : World) (S : Stb) (h : Hp) (β : Bet) (argv : Array Value), (∀ (i m : Nat), ns[i]? = some m → h[m]? = bs[i]?) → HR w S h β → VRs w S h β args argv →
    CallF P f argv w fun cv w' => ∃ S' β', HR w' S' h β' ∧ VR w' S' h β' v cv ∧ Evol w S h β w' S' h β'
def CallR (P : Program) (f : FuncId) (args : List V) (h : Hp) : Res → Prop
  | .d v => CallP P f args v
  | .row sz ys => CallRow P f args sz ys
  | .map T kt es => CallMap P f args T kt es
  | .fix n v => ∀ ver sz ro xs, h[n]? = some (.row ver sz ro xs) → CallFix P f args n ver sz ro xs v
  | .keep ns v => ∀ bs, bs.length = ns.length → (∀ (i m : Nat), ns[i]? = some m → h[m]? = bs[i]?) → CallK P f args ns bs v
theorem callF_op {ro : Option Nat} {n : Nat} {o : Oper} {c : Call} {f : Operand} (ho : o.op = .call c) (hc : c.callee = .value f) {a : Act} {w : World} {g : FuncId} {cap : Array Value} (hf : a.eval f = .func (.func g) #[] cap)
    {R : Value → World → Prop} (h : CallF P g (c.args.map a.eval ++ cap) w R) {next : Act → World → Prop} {Q : Exit → Act → World → Prop} (hk : ∀ v w', R v w' → next (a.put o.dst v) w') : o.wpIn (FF ro) n P a w next Q := by
  refine ⟨fun f _ => FF.all ro f, ?_⟩
  rw [Oper.semAt_eq _ _ _ (fun c' h => by rw [ho] at h; cases h)]
  have hr : (execOp a.eval o).run P w = (callFunc g (c.args.map a.eval ++ cap)).run P w := by
    simp [execOp, ho, resolve, hc, Deferred.ofValue, hf, invoke]
  rw [hr]
  rcases h with ⟨h1, h2⟩ | ⟨v, w', h1, h2⟩
  · rw [h1, Oper.uponIn_enter]
    refine ⟨fun h => by simp [FF, Fence.wide] at h, CallsIn.mono (callsIn_FF.2 h2) fun e w' he => ?_⟩
    obtain ⟨v, rfl, hR⟩ := he
    exact hk v w' hR
  · rw [h1, Oper.uponIn_value]
    exact hk v w' h2
theorem VRs.of_or {w : World} {S : Stb} {h : Hp} {β : Bet} {ρ : Operand → Value} {xs : Array Operand} {vs : List V} (ho : OR w S h β ρ xs.toList vs) {cap : List V} {arr : Array Value} (hc : VRs w S h β cap arr) : VRs w S h β (vs ++ cap) (xs.map ρ ++ arr) := by
  obtain ⟨h1, h2⟩ := ho
  have h1 : xs.size = vs.length := by simpa using h1
  refine ⟨by simp [h1, hc.1], fun j c u hj hu => ?_⟩
  by_cases hl : j < vs.length
  · rw [List.getElem?_append_left hl] at hj
    rw [Array.getElem?_append_left (by simp; omega), Array.getElem?_map, Array.getElem?_eq_getElem (by omega)] at hu
    simp at hu; subst hu
    exact h2 j _ c (by simp) hj
  · rw [List.getElem?_append_right (by omega)] at hj
    rw [Array.getElem?_append_right (by simp; omega)] at hu
    simp only [Array.size_map, h1] at hu
    exact hc.2 _ c u hj hu
def FnV (v : V) (g : FuncId) (cap : List V) : Prop := v = .fn g cap ∨ (cap = [] ∧ v = .d (.k (.func (.func g) #[] #[])))
theorem FnV.rel {hv : V} {g : FuncId} {cap : List V} (h : FnV hv g cap) {w : World} {S : Stb} {hp : Hp} {β : Bet} {u : Value} (hr : VR w S hp β hv u) : ∃ arr, u = .func (.func g) #[] arr ∧ VRs w S hp β cap arr := by
  rcases h with rfl | ⟨rfl, rfl⟩
  · cases hr with
    | fn _ _ arr h1 h2 => exact ⟨arr, rfl, h1, h2⟩
  · cases hr with
    | d hd => cases hd with
      | k _ _ => exact ⟨#[], rfl, rfl, by simp⟩
theorem CallP.opW {ro : Option Nat} {n : Nat} {o : Oper} {c : Call} {f : Operand} (ho : o.op = .call c) (hc : c.callee = .value f) {g : FuncId} {cap vs : List V} {hv : V} (hfv : FnV hv g cap) {v : V} (h : CallP P g (vs ++ cap) v) :
    OpW P ro n o (f :: c.args.toList) (hv :: vs) [] [] [] v := by
  intro a w S hp β hr hor hb next Q hk
  have hf := hor.2 0 f _ rfl rfl
  have hor' : OR w S hp β a.eval c.args.toList vs := ⟨by simpa using hor.1, fun i x y hi hu => hor.2 (i + 1) x y (by simpa using hi) (by simpa using hu)⟩
  generalize hfe : a.eval f = fe at hf
  obtain ⟨arr, rfl, h12⟩ := hfv.rel hf
  · refine callF_op ho hc hfe (h w S hp β _ hr (VRs.of_or hor' h12)) fun cv w' hR => ?_
    obtain ⟨S', β', g1, g2, g3⟩ := hR
    exact hk w' S' β' cv (by simpa [setL] using g1) (by simpa [setL] using g2) (by simpa [setL] using g3)
theorem CallK.opW {ro : Option Nat} {n : Nat} {o : Oper} {c : Call} {f : Operand} (ho : o.op = .call c) (hc : c.callee = .value f) {g : FuncId} {cap vs : List V} {hv : V} (hfv : FnV hv g cap) {ns : List Nat} {bs : List Blk} {v : V} (h : CallK P g (vs ++ cap) ns bs v) :
    OpW P ro n o (f :: c.args.toList) (hv :: vs) ns bs bs v := by
  intro a w S hp β hr hor hb next Q hk
  have hf := hor.2 0 f _ rfl rfl
  have hor' : OR w S hp β a.eval c.args.toList vs := ⟨by simpa using hor.1, fun i x y hi hu => hor.2 (i + 1) x y (by simpa using hi) (by simpa using hu)⟩
  generalize hfe : a.eval f = fe at hf
  obtain ⟨arr, rfl, h12⟩ := hfv.rel hf
  rw [setL_same fun i m b hi hbi => by rw [hb i m hi]; exact hbi] at hk
  refine callF_op ho hc hfe (h w S hp β _ hb hr (VRs.of_or hor' h12)) fun cv w' hR => ?_
  obtain ⟨S', β', g1, g2, g3⟩ := hR
  exact hk w' S' β' cv g1 g2 g3
theorem CallRow.opW {ro : Option Nat} {n : Nat} {o : Oper} {c : Call} {f : Operand} (ho : o.op = .call c) (hc : c.callee = .value f) {g : FuncId} {cap vs : List V} {hv : V} (hfv : FnV hv g cap) {sz : Nat} {ys : List D} (h : CallRow P g (vs ++ cap) sz ys) (nf : Nat) :
    OpW P ro n o (f :: c.args.toList) (hv :: vs) [nf] [.res] [.row 0 sz false ys] (.sref nf 0 0 ys.length false) := by
  intro a w S hp β hr hor hb next Q hk
  have hf := hor.2 0 f _ rfl rfl
  have hor' : OR w S hp β a.eval c.args.toList vs := ⟨by simpa using hor.1, fun i x y hi hu => hor.2 (i + 1) x y (by simpa using hi) (by simpa using hu)⟩
  generalize hfe : a.eval f = fe at hf
  obtain ⟨arr, rfl, h12⟩ := hfv.rel hf
  · refine callF_op ho hc hfe (h w S hp β _ nf (by simpa using hb 0 nf rfl) hr (VRs.of_or hor' h12)) fun cv w' hR => ?_
    obtain ⟨S', β', g1, g2, g3⟩ := hR
    exact hk w' S' β' cv (by simpa [setL] using g1) (by simpa [setL] using g2) (by simpa [setL] using g3)
theorem CallMap.opW {ro : Option Nat} {n : Nat} {o : Oper} {c : Call} {f : Operand} (ho : o.op = .call c) (hc : c.callee = .value f) {g : FuncId} {cap vs : List V} {hv : V} (hfv : FnV hv g cap) {T : TT} {kt : TypeId} {es : List (D × D)} (h : CallMap P g (vs ++ cap) T kt es) (nf : Nat) :
    OpW P ro n o (f :: c.args.toList) (hv :: vs) [nf] [.res] [.map T kt es] (.map nf) := by
  intro a w S hp β hr hor hb next Q hk
  have hf := hor.2 0 f _ rfl rfl
  have hor' : OR w S hp β a.eval c.args.toList vs := ⟨by simpa using hor.1, fun i x y hi hu => hor.2 (i + 1) x y (by simpa using hi) (by simpa using hu)⟩
  generalize hfe : a.eval f = fe at hf
  obtain ⟨arr, rfl, h12⟩ := hfv.rel hf
  · refine callF_op ho hc hfe (h w S hp β _ nf (by simpa using hb 0 nf rfl) hr (VRs.of_or hor' h12)) fun cv w' hR => ?_
    obtain ⟨S', β', g1, g2, g3⟩ := hR
    exact hk w' S' β' cv (by simpa [setL] using g1) (by simpa [setL] using g2) (by simpa [setL] using g3)
theorem CallFix.opW {ro : Option Nat} {n : Nat} {o : Oper} {c : Call} {f : Operand} (ho : o.op = .call c) (hc : c.callee = .value f) {g : FuncId} {cap vs : List V} {hv : V} (hfv : FnV hv g cap) {m ver sz : Nat} {r : Bool} {xs : List D} {v : V} (h : CallFix P g (vs ++ cap) m ver sz r xs v) :
    OpW P ro n o (f :: c.args.toList) (hv :: vs) [m] [.row ver sz r xs] [.row ver sz true xs] v := by
  intro a w S hp β hr hor hb next Q hk
  have hf := hor.2 0 f _ rfl rfl
  have hor' : OR w S hp β a.eval c.args.toList vs := ⟨by simpa using hor.1, fun i x y hi hu => hor.2 (i + 1) x y (by simpa using hi) (by simpa using hu)⟩
  generalize hfe : a.eval f = fe at hf
  obtain ⟨arr, rfl, h12⟩ := hfv.rel hf
  · refine callF_op ho hc hfe (h w S hp β _ (by simpa using hb 0 m rfl) hr (VRs.of_or hor' h12)) fun cv w' hR => ?_
    obtain ⟨S', β', g1, g2, g3⟩ := hR
    exact hk w' S' β' cv (by simpa [setL] using g1) (by simpa [setL] using g2) (by simpa [setL] using g3)
def Post (N : Nat) (C : Cx) (w : World) (S : Stb) (h : Hp) (β : Bet) (k : Tm → Hp → Prop) (a' : Act) (w' : World) : Prop :=
  ∃ ts' h' S' β', k ts' h' ∧ St N C a' w' S' ts' h' β' ∧ Evol w S h β w' S' h' β'
def exitOf : Ex → Exit
  | .normal => .normal
  | .exit id => .exit id
  | .ret => .ret
def PostE (N : Nat) (C : Cx) (w : World) (S : Stb) (h : Hp) (β : Bet) (k : Ex → Tm → Hp → Prop) (e : Exit) (a' : Act) (w' : World) : Prop :=
  ∃ x, e = exitOf x ∧ Post N C w S h β (k x) a' w'
def AWP (P : Program) (N : Nat) (c : Code) (ts : Tm) (h : Hp) (k : Ex → Tm → Hp → Prop) : Prop :=
  ∀ (n : Nat) (C : Cx) (a : Act) (w : World) (S : Stb) (β : Bet), St N C a w S ts h β → c.wpIn (FF C.ro) n P (PostE N C w S h β k) a w
def Wk (N : Nat) (ts : Tm) (h : Hp) (ts' : Tm) (h' : Hp) : Prop :=
  ∀ (C : Cx) (a : Act) (w : World) (S : Stb) (β : Bet), St N C a w S ts h β → ∃ S' β', St N C a w S' ts' h' β' ∧ Evol w S h β w S' h' β'
structure Env.Ok (P : Program) (E : Env) : Prop where
  weak : ∀ ts h ts' h', E.weak ts h ts' h' → Wk E.N ts h ts' h'
  types : tokB P E.T = true
  mixed : P.follows .mixedOrders = true
  call : ∀ f args h k, E.call f args h k → CallV P f args h k
  pcall : ∀ f args h k, E.pcall f args h k → ∃ r, k r ∧ CallR P f args h r
  yld : ∀ (o : Oper) (c : Call) (f : Operand) (nm : Nat) vs h k, o.op = .call c → c.callee = .value f → E.yld nm vs h k →
    ∀ (n : Nat) (ro : Option Nat) (a : Act) (w : World) (S : Stb) (β : Bet), HR w S h β → VR w S h β (.yld nm) (a.eval f) → OR w S h β a.eval c.args.toList vs →
      ∀ (next : Act → World → Prop) (Q : Exit → Act → World → Prop),
        (∀ v h' w' S' β' cv, k v h' → HR w' S' h' β' → VR w' S' h' β' v cv → Evol w S h β w' S' h' β' → next (a.put o.dst cv) w') → o.wpIn (FF ro) n P a w next Q
  loop : ∀ c ts h k, E.loop c ts h k → AWP P E.N (.loop c) ts h k
  range : ∀ g ps as body ts h k, E.range g ps.toList as body ts h k → AWP P E.N (.rangeFunc g ps as body) ts h k
theorem appV_spec : ∀ (xs ys : List V) (k : List V → Prop), calleeK.appV xs ys k → k (xs ++ ys)
  | [], ys, k, h => h
  | x :: xs, ys, k, h => appV_spec xs ys _ h
theorem nfK_spec {dr : Bool} {op : Op} {nf : Nat} {k : Nat → Prop} (h : nfK dr op nf k) : ∃ nf', k nf' := by
  unfold nfK at h
  split at h
  · exact ⟨_, h⟩
  · exact ⟨_, h⟩
theorem stepK_spec {ro : Option Nat} {n : Nat} {E : Env} (hT : tokB P E.T = true) {o : Oper} {vs : List V} {nf : Nat} {h : Hp} {k : V → Hp → Prop} (hk : stepK E o.op vs nf h k) :
    ∃ v bs bs', k v (setL h (opN o.op vs nf) bs') ∧ (∀ (i m : Nat), (opN o.op vs nf)[i]? = some m → h[m]? = bs[i]?) ∧ (opRO o.op = true → bs' = bs) ∧ OpW P ro n o (opArgs o.op) vs (opN o.op vs nf) bs bs' v := by
  unfold stepK at hk
  obtain ⟨bs, hl, hb, hk⟩ := getsK_iff hk
  obtain ⟨hres, hk⟩ := (chkB_iff _ _).1 hk
  have hd : ∀ c, o.op ≠ .defer c := fun c hc => by rw [hc] at hk; exact hk.elim
  obtain ⟨v, bs', h1, h2, h3⟩ := aOp_sound hT hk hl hres
  exact ⟨v, bs, bs', setsK_iff _ _ _ _ h1, hb, h2, h3.opW hd⟩
theorem exOps_sound {n : Nat} {C : Cx} {E : Env} (hE : E.Ok P) (ops : Array Oper) {k : Tm → Hp → Prop} : ∀ (l : List Oper) (j : Nat) (nf : Nat) (ts : Tm) (h : Hp) (a : Act) (w : World) (S : Stb) (β : Bet) (Q : Exit → Act → World → Prop),
    (∀ i, l[i]? = ops[j + i]?) → exOps E ops.toList l nf ts h k → St E.N C a w S ts h β → (∀ a' w', Post E.N C w S h β k a' w' → Q .normal a' w') → wpOpsIn (FF C.ro) n P ops Q (List.range' j l.length) a w
  | [], j, nf, ts, h, a, w, S, β, Q, hl, hx, hs, hQ => hQ a w ⟨ts, h, S, β, hx, hs, Evol.refl _ _ _ _⟩
  | o :: r, j, nf, ts, h, a, w, S, β, Q, hl, hx, hs, hQ => by
    have h0 : ops[j]? = some o := by simpa using (hl 0).symm
    have hr' : ∀ i, r[i]? = ops[j + 1 + i]? := fun i => by
      have := hl (i + 1)
      simpa [Nat.add_assoc, Nat.add_comm 1 i] using this
    have next : ∀ {nf' : Nat} {v : V} {cv : Value} {h' : Hp} {w' : World} {S' : Stb} {β' : Bet}, putK E.N ts o.dst v (fun ts' => exOps E ops.toList r nf' ts' h' k) → HR w' S' h' β' → VR w' S' h' β' v cv → Evol w S h β w' S' h' β' →
        wpOpsIn (FF C.ro) n P ops Q (List.range' (j + 1) r.length) (a.put o.dst cv) w' := fun hp h1 h2 h3 => by
      obtain ⟨g1, g2⟩ := putK_spec hp
      refine exOps_sound hE ops r (j + 1) _ _ _ _ _ _ _ Q hr' g2 ((hs.evol h3 h1).put g1 h2) fun a' w' hp' => hQ a' w' ?_
      obtain ⟨t1, t2, t3, t4, t5, t6, t7⟩ := hp'
      exact ⟨t1, t2, t3, t4, t5, t6, h3.trans t7⟩
    rw [exOps_cons] at hx
    obtain ⟨nf', hx⟩ := nfK_spec hx
    simp only [List.length_cons, List.range'_succ, wpOpsIn, h0]
    rcases guardK_spec hx with ⟨hw, hx⟩ | ⟨hw, hx⟩
    · rw [if_pos (hw.run hs)]
      split at hx
      · rename_i t x e hn
        have hx := evK_spec _ _ _ hx
        have hv := ev_rel hs.hr.glob hs.tr x
        obtain ⟨bop, yt, hop, hbe⟩ : ∃ bop yt, o.op = .binOp bop t x (.const (.slice none 0 0)) yt ∧ ((bop = .eql ∧ e = true) ∨ (bop = .neq ∧ e = false)) := by
          unfold nilCmp at hn
          split at hn
          · rename_i ho; cases hn; exact ⟨_, _, ho, .inl ⟨rfl, rfl⟩⟩
          · rename_i ho; cases hn; exact ⟨_, _, ho, .inr ⟨rfl, rfl⟩⟩
          · cases hn
        unfold nilK at hx
        split at hx
        case h_2 => exact hx.elim
        rename_i ti hty
        split at hx
        case h_2 => exact hx.elim
        rename_i el hk
        have hu := kind_slice (tyOf_ok hE.types hty) hk
        have fin : ∀ (p : Prop) (aa : Option Addr) (l c : Nat), a.eval x = .slice aa l c → (aa = none → p) → (NilQ p fun q => putK E.N ts o.dst (.d (.b (q == e))) fun ts' => exOps E ops.toList r nf' ts' h k) →
            o.wpIn (FF C.ro) n P a w (wpOpsIn (FF C.ro) n P ops Q (List.range' (j + 1) r.length)) Q := fun p aa l c hev hp hq => by
          refine ⟨fun f _ => FF.all C.ro f, ?_⟩
          rw [Oper.semAt_eq _ _ _ (fun c' h => by rw [hop] at h; cases h)]
          have hrun : (execOp a.eval o).run P w = .ok (.value (.bool (aa.isNone == e))) w := by
            have hc : a.eval (.const (.slice none 0 0)) = .slice none 0 0 := rfl
            rcases hbe with ⟨rfl, rfl⟩ | ⟨rfl, rfl⟩
            · simp [execOp, hop, hev, hc, eqGuard, binOp, run_equal_slice_nil w t el aa l c hu]
            · simp [execOp, hop, hev, hc, eqGuard, binOp, run_equal_slice_nil w t el aa l c hu]
          rw [hrun, Oper.uponIn_value]
          cases aa with
          | none => exact next (hq.holds.1 (hp rfl)) hs.hr (.d (.b _)) (Evol.refl _ _ _ _)
          | some ad => exact next hq.holds.2 hs.hr (.d (.b _)) (Evol.refl _ _ _ _)
        split at hx
        · rename_i sz full xs hvx
          rw [hvx] at hv
          generalize hev : a.eval x = cv at hv
          cases hv with
          | d hd => cases hd with
            | sl _ _ _ aa cap b off uf h1 h2 h3 h4 =>
              have hz : aa = none → xs = [] := fun ha => by
                rcases Classical.em (xs = []) with h | h
                · exact h
                · rw [h4 h] at ha; cases ha
              exact fin (xs = []) aa xs.length cap hev hz hx
        · rename_i m ver lo len full hvx
          rw [hvx] at hv
          obtain ⟨b, hb, hx⟩ := nthK_iff.1 hx
          split at hx
          · rename_i cs
            generalize hev : a.eval x = cv at hv
            cases hv with
            | sref g0 g =>
              obtain ⟨aa, cap, rfl, g1, g2, g3⟩ := g
              rw [hb] at g3
              obtain ⟨_, b', cells, el', fz, c1, c2, c3, c4⟩ := g3
              refine fin (len = 0) aa len cap hev (fun ha => ?_) hx
              rcases Nat.eq_zero_or_pos cap with h | h
              · omega
              · rw [c2 h] at ha; cases ha
          · exact hx.elim
        · exact hx.elim
      have hx := evsK_spec _ _ _ hx
      split at hx
      · rename_i f as ats ho
        have hop : o.op = .call { callee := .value f, args := as, argTypes := ats } := ho
        unfold calleeK at hx
        have hx := evK_spec _ _ _ hx
        have hfr := ev_rel hs.hr.glob hs.tr f
        split at hx
        · rename_i g cap hg
          rw [hg] at hfr
          have hx := hE.call _ _ _ _ (appV_spec _ _ _ hx)
          generalize hfe : a.eval f = fe at hfr
          cases hfr with
          | fn _ _ arr e1 e2 =>
            have hor := ors_rel hs.hr.glob hs.tr as.toList
            refine callF_op hop rfl hfe (hx w S β _ hs.hr (VRs.of_or (by simpa [hop, opArgs] using hor) ⟨e1, e2⟩)) fun cv w' hR => ?_
            obtain ⟨v, h', S', β', g1, g2, g3, g4⟩ := hR
            exact next g1 g2 g3 g4
        · rename_i nm hg
          rw [hg] at hfr
          refine hE.yld o _ f nm _ _ _ hop rfl hx n C.ro a w S β hs.hr hfr (by simpa [hop, opArgs] using ors_rel hs.hr.glob hs.tr as.toList) _ _ fun v h' w' S' β' cv g1 g2 g3 g4 => next g1 g2 g3 g4
        · rename_i cv hg
          rw [hg] at hfr
          split at hx
          · rename_i g a0 b0
            split at hx
            · rename_i ha hb
              have ha : a0 = #[] := by simpa using ha
              have hb : b0 = #[] := by simpa using hb
              subst ha; subst hb
              have hx := hE.call _ _ _ _ hx
              generalize hfe : a.eval f = fe at hfr
              cases hfr with
              | d hd =>
                cases hd with
                | k _ _ =>
                  have hor := ors_rel hs.hr.glob hs.tr as.toList
                  refine callF_op hop rfl hfe (hx w S β _ hs.hr (by have := VRs.of_or (cap := []) (arr := #[]) hor ⟨rfl, by simp⟩; simpa [hop, opArgs] using this)) fun cv w' hR => ?_
                  obtain ⟨v, h', S', β', g1, g2, g3, g4⟩ := hR
                  exact next g1 g2 g3 g4
            · exact hx.elim
          · exact hx.elim
        · exact hx.elim
      · rename_i t x hop
        have hx := evK_spec _ _ _ hx
        have hv := ev_rel hs.hr.glob hs.tr x
        unfold rangeK at hx
        split at hx
        case h_2 => exact hx.elim
        rename_i m hvx
        rw [hvx] at hv
        obtain ⟨b, hb, hx⟩ := nthK_iff.1 hx
        split at hx
        case h_2 => exact hx.elim
        split at hx
        case h_2 => exact hx.elim
        rename_i ti hty
        split at hx
        case h_2 => exact hx.elim
        rename_i hk
        obtain ⟨b2, hb2, hx⟩ := nthK_iff.1 hx
        split at hx
        case h_2 => exact hx.elim
        obtain ⟨hno, hx⟩ := (chkB_iff _ _).1 hx
        obtain ⟨_, hx⟩ := setK_iff.1 hx
        obtain ⟨_, hx⟩ := setK_iff.1 hx
        obtain ⟨w', S', β', cv, e1, e2, e3, e4⟩ := range_sound (P := P) hE.types hop hty hk hs.hr hv hb hb2 hno
        refine ⟨fun f _ => FF.all C.ro f, ?_⟩
        rw [Oper.semAt_eq _ _ _ (fun c' h => by rw [hop] at h; cases h), e1, Oper.uponIn_value]
        exact next hx e2 e3 e4
      · rename_i x hop
        have hx := evK_spec _ _ _ hx
        have hv := ev_rel hs.hr.glob hs.tr x
        unfold nextK at hx
        split at hx
        case h_2 => exact hx.elim
        rename_i m ver e off hvx
        split at hx
        case h_2 => exact hx.elim
        rw [hvx] at hv
        obtain ⟨b, hb, hx⟩ := nthK_iff.1 hx
        split at hx
        case h_2 => exact hx.elim
        obtain ⟨hz, hk⟩ := hx.holds
        refine ⟨fun f _ => FF.all C.ro f, ?_⟩
        rw [Oper.semAt_eq _ _ _ (fun c' h => by rw [hop] at h; cases h)]
        rcases next_sound (P := P) hop hs.hr hv hb with ⟨hl, hrun⟩ | ⟨j', p, w', kv, vv, hj, hrun, d1, d2, r1, r2⟩
        · rw [hrun, Oper.uponIn_value]
          exact next (hz hl) hs.hr (.tup _ _ rfl fun i c u hc hu => by
            match i with
            | 0 => simp at hc hu; subst hc; subst hu; exact .d (.b _)
            | i + 1 => simp at hc) (Evol.refl _ _ _ _)
        · rw [hrun, Oper.uponIn_value]
          obtain ⟨_, hx⟩ := setK_iff.1 (hk j' p hj)
          exact next hx r1 (.tup _ _ rfl fun i c u hc hu => by
            match i with
            | 0 => simp at hc hu; subst hc; subst hu; exact .d (.b _)
            | 1 => simp at hc hu; subst hc; subst hu; exact .d d1
            | 2 => simp at hc hu; subst hc; subst hu; exact .d d2
            | i + 3 => simp at hc) r2
      · rename_i x hop
        have hx := evK_spec _ _ _ hx
        have hv := ev_rel hs.hr.glob hs.tr x
        unfold entryK at hx
        split at hx
        case h_2 => exact hx.elim
        rename_i m ver e off hvx
        split at hx
        case h_2 => exact hx.elim
        rw [hvx] at hv
        obtain ⟨b, hb, hx⟩ := nthK_iff.1 hx
        split at hx
        case h_2 => exact hx.elim
        split at hx
        case h_2 => exact hx.elim
        obtain ⟨kv, vv, hrun, d1, d2⟩ := entry_sound (P := P) hop hs.hr hv hb
        refine ⟨fun f _ => FF.all C.ro f, ?_⟩
        rw [Oper.semAt_eq _ _ _ (fun c' h => by rw [hop] at h; cases h), hrun, Oper.uponIn_value]
        exact next hx hs.hr (.tup _ _ rfl fun i c u hc hu => by
            match i with
            | 0 => simp at hc hu; subst hc; subst hu; exact .d d1
            | 1 => simp at hc hu; subst hc; subst hu; exact .d d2
            | i + 2 => simp at hc) (Evol.refl _ _ _ _)
      · obtain ⟨ds, h1, hx, hl1, hds⟩ := liftOpK_spec hx
        obtain ⟨v, bs, bs', g1, g2, _, g3⟩ := stepK_spec (ro := C.ro) (n := n) hE.types hx
        obtain ⟨o1, o2⟩ := ors_rel hs.hr.glob hs.tr (opArgs o.op)
        obtain ⟨S1, r1, e1, d1⟩ := hds w S β hs.hr ((opArgs o.op).map a.eval) (by simp) fun j c u hj hu => by
          simp only [List.getElem?_map, Option.map_eq_some_iff] at hu
          obtain ⟨x, hx, rfl⟩ := hu
          exact o2 j x c hx hj
        refine g3 a w S1 h1 β r1 ⟨by rw [hl1]; exact o1, fun j x y hx hu => d1 j y _ hu (by simp [hx])⟩ g2 _ _ fun w' S' β' cv q1 q2 q3 => next g1 q1 q2 (e1.trans q3)
    · rw [if_neg (by rw [hw.run hs]; simp)]
      refine ⟨fun f _ => FF.all C.ro f, ?_⟩
      exact next hx hs.hr (.tup [] #[] rfl (by simp)) (Evol.refl _ _ _ _)
end Go.PM
