/- What merging gives: plain facts on the model of Merge. -/
import Derived.Test.YtbifaidepiejeaaMerge
namespace Go.PM
set_option maxRecDepth 10000

/-- The amounts, summed by class. -/
def addAt (l : List Int) (k n : Int) : List Int := l.modify k.toNat (· + n)
def sumL : List Int → List Int → List Int → List Int
  | l, k :: ks, n :: ns => sumL (addAt l k n) ks ns
  | l, _, _ => l

theorem modify_left {α : Type} {f : α → α} : ∀ (l l2 : List α) (i : Nat), i < l.length → (l ++ l2).modify i f = l.modify i f ++ l2
  | [], _, i, h => by simp at h
  | x :: l, l2, 0, h => by simp [List.modify]
  | x :: l, l2, i + 1, h => by
    rw [List.cons_append, List.modify_succ_cons, List.modify_succ_cons, modify_left l l2 i (by simpa using h)]; rfl
theorem modify_len {α : Type} {f : α → α} : ∀ (l : List α) (x : α), (l ++ [x]).modify l.length f = l ++ [f x]
  | [], x => by simp [List.modify]
  | y :: l, x => by
    rw [List.cons_append, List.length_cons, List.modify_succ_cons, modify_len l x]; rfl

theorem sumL_len : ∀ (ks ns l : List Int), (sumL l ks ns).length = l.length
  | [], _, l => by cases l <;> rfl
  | _ :: _, [], l => rfl
  | k :: ks, n :: ns, l => by rw [sumL, sumL_len ks ns]; simp [addAt]

theorem sumL_app : ∀ (ks ns l : List Int) (x : Int), (∀ k ∈ ks, 0 ≤ k ∧ k < l.length) → sumL (l ++ [x]) ks ns = sumL l ks ns ++ [x]
  | [], _, l, x, _ => by simp [sumL]
  | _ :: _, [], l, x, _ => rfl
  | k :: ks, n :: ns, l, x, h => by
    obtain ⟨h0, h1⟩ := h k (.head _)
    have e : addAt (l ++ [x]) k n = addAt l k n ++ [x] := by
      unfold addAt
      rw [modify_left _ _ _ (by omega)]
    rw [sumL, sumL, e]
    exact sumL_app ks ns _ x fun k hk => by have := h k (.tail _ hk); simpa [addAt] using this

theorem sumL_snoc : ∀ (ks ns l : List Int) (k n : Int), ks.length = ns.length → sumL l (ks ++ [k]) (ns ++ [n]) = addAt (sumL l ks ns) k n
  | [], [], l, k, n, _ => rfl
  | [], _ :: _, l, k, n, h => by simp at h
  | _ :: _, [], l, k, n, h => by simp at h
  | a :: ks, b :: ns, l, k, n, h => by
    simp only [List.cons_append, sumL]
    exact sumL_snoc ks ns _ k n (by simpa using h)

structure MGood (ss : List Supply) (fs : List (List Bool)) (m : MS) : Prop where
  xy : m.xs.length = m.ys.length
  ofl : m.of.length = ss.length
  fl : fs.length = ss.length
  nd : m.ys.Nodup
  row : ∀ (i : Nat) (k : Int) (r : List Bool), m.of[i]? = some k → fs[i]? = some r → 0 ≤ k ∧ k < m.ys.length ∧ m.ys[k.toNat]? = some r
  sub : ∀ r ∈ m.ys, r ∈ fs
  sum : m.xs.map Supply.amount = sumL (List.replicate m.xs.length 0) m.of (ss.map Supply.amount)
  pos : ∀ x ∈ m.xs, (∀ s ∈ ss, 0 ≤ s.amount) → 0 ≤ x.amount

theorem idxFrom_get {α : Type} {p : α → Prop} [DecidablePred p] : ∀ (l : List α) (i : Nat), 0 ≤ idxFrom p l i → (i : Int) ≤ idxFrom p l i ∧ ∃ x, l[(idxFrom p l i).toNat - i]? = some x ∧ p x
  | [], i, h => by simp [idxFrom] at h
  | x :: r, i, h => by
    unfold idxFrom at h ⊢
    by_cases hp : p x
    · simp only [hp, if_true] at h ⊢
      exact ⟨by omega, x, by simp, hp⟩
    · simp only [hp, if_false] at h ⊢
      obtain ⟨h1, y, h2, h3⟩ := idxFrom_get r (i + 1) h
      refine ⟨by omega, y, ?_, h3⟩
      rw [show (idxFrom p r (i + 1)).toNat - i = ((idxFrom p r (i + 1)).toNat - (i + 1)) + 1 by omega]
      simpa using h2
theorem idxM_get {α : Type} {p : α → Prop} [DecidablePred p] {l : List α} (h : 0 ≤ idxM p l) : ∃ x, l[(idxM p l).toNat]? = some x ∧ p x := by
  obtain ⟨_, x, h2, h3⟩ := idxFrom_get (p := p) l 0 h
  exact ⟨x, by simpa [idxM] using h2, h3⟩

theorem MGood.step {ss : List Supply} {fs : List (List Bool)} {m : MS} (g : MGood ss fs m) (s : Supply) (r : List Bool) : MGood (ss ++ [s]) (fs ++ [r]) (mStep m s r) := by
  have hin : ∀ k ∈ m.of, 0 ≤ k ∧ k < m.ys.length := fun k hk => by
    obtain ⟨i, hi⟩ := List.mem_iff_getElem?.1 hk
    have hil : i < fs.length := by rw [g.fl, ← g.ofl]; exact (List.getElem?_eq_some_iff.1 hi).1
    have := g.row i k _ hi (List.getElem?_eq_getElem hil)
    exact ⟨this.1, this.2.1⟩
  unfold mStep
  split
  · rename_i hneg
    have hnot : r ∉ m.ys := fun hr => by
      have := (idxM_nonneg (p := (· = r)) m.ys).2 ⟨r, hr, rfl⟩
      omega
    refine ⟨by simp [g.xy], by simp [g.ofl], by simp [g.fl], ?_, ?_, ?_, ?_, ?_⟩
    · rw [List.nodup_append]
      exact ⟨g.nd, by simp, fun a ha b hb => by simp at hb; subst hb; rintro rfl; exact hnot ha⟩
    · intro i k q hi hq
      by_cases hlt : i < m.of.length
      · rw [List.getElem?_append_left hlt] at hi
        rw [List.getElem?_append_left (by rw [g.fl, ← g.ofl]; exact hlt)] at hq
        obtain ⟨a, b, c⟩ := g.row i k q hi hq
        refine ⟨a, by simp; omega, ?_⟩
        rw [List.getElem?_append_left (by omega)]; exact c
      · rw [List.getElem?_append_right (by omega)] at hi
        rw [List.getElem?_append_right (by rw [g.fl, ← g.ofl]; omega)] at hq
        have e : i - m.of.length = 0 := by
          have := (List.getElem?_eq_some_iff.1 hi).1
          simp at this; omega
        rw [e] at hi
        rw [show i - fs.length = 0 by rw [g.fl, ← g.ofl]; exact e] at hq
        simp at hi hq
        subst hi hq
        exact ⟨by omega, by simp; omega, by simp⟩
    · intro q hq
      simp only [List.mem_append, List.mem_singleton] at hq ⊢
      rcases hq with hq | hq
      · exact .inl (g.sub q hq)
      · exact .inr hq
    · simp only [List.map_append, List.map_cons, List.map_nil, List.length_append, List.length_singleton]
      rw [List.replicate_succ', sumL_snoc _ _ _ _ _ (by simp [g.ofl]), sumL_app _ _ _ _ (by simpa [g.xy] using hin), ← g.sum]
      unfold addAt
      rw [show ((m.ys.length : Nat) : Int).toNat = (m.xs.map Supply.amount).length by simp [g.xy], modify_len]
      simp
    · intro x hx h
      simp only [List.mem_append, List.mem_singleton] at hx
      rcases hx with hx | rfl
      · exact g.pos x hx fun s hs => h s (by simp [hs])
      · exact h x (by simp)
  · rename_i hpos
    have hpos : 0 ≤ idxM (· = r) m.ys := by omega
    obtain ⟨q, hq, rfl⟩ := idxM_get hpos
    have hlt := (idxM_lt (p := (· = q)) m.ys).1
    refine ⟨by simp [g.xy], by simp [g.ofl], by simp [g.fl], g.nd, ?_, ?_, ?_, ?_⟩
    · intro i k z hi hz
      by_cases hl : i < m.of.length
      · rw [List.getElem?_append_left hl] at hi
        rw [List.getElem?_append_left (by rw [g.fl, ← g.ofl]; exact hl)] at hz
        exact g.row i k z hi hz
      · rw [List.getElem?_append_right (by omega)] at hi
        rw [List.getElem?_append_right (by rw [g.fl, ← g.ofl]; omega)] at hz
        have e : i - m.of.length = 0 := by
          have := (List.getElem?_eq_some_iff.1 hi).1
          simp at this; omega
        rw [e] at hi
        rw [show i - fs.length = 0 by rw [g.fl, ← g.ofl]; exact e] at hz
        simp at hi hz
        subst hi hz
        exact ⟨hpos, by omega, hq⟩
    · intro z hz
      simp [g.sub z hz]
    · simp only [List.map_append, List.map_cons, List.map_nil, List.length_modify]
      rw [sumL_snoc _ _ _ _ _ (by simp [g.ofl]), ← g.sum]
      unfold addAt
      rw [Nat.zero_add]
      refine List.ext_getElem? fun i => ?_
      simp only [List.getElem?_map, List.getElem?_modify]
      cases hx : m.xs[i]? with
      | none => simp
      | some x => simp; split <;> simp [addAmount]
    · intro x hx h
      obtain ⟨i, hi⟩ := List.mem_iff_getElem?.1 hx
      rw [List.getElem?_modify] at hi
      cases hy : m.xs[i]? with
      | none => simp [hy] at hi
      | some y =>
        have h1 := g.pos y (List.mem_of_getElem? hy) fun s hs => h s (by simp [hs])
        have h2 := h s (by simp)
        simp only [hy, Option.map_eq_map, Option.map_some, Option.some.injEq] at hi
        subst hi
        split
        · simp [addAmount]; omega
        · exact h1

theorem mLoop_good : ∀ (s : List Supply) (fits : List (List Bool)) (ss : List Supply) (fs : List (List Bool)) (m : MS), s.length = fits.length → MGood ss fs m → MGood (ss ++ s) (fs ++ fits) (mLoop s fits m)
  | [], [], ss, fs, m, _, g => by simpa [mLoop] using g
  | [], _ :: _, _, _, _, h, _ => by simp at h
  | _ :: _, [], _, _, _, h, _ => by simp at h
  | s :: ss', r :: rs', ss, fs, m, h, g => by
    have := mLoop_good ss' rs' (ss ++ [s]) (fs ++ [r]) (mStep m s r) (by simpa using h) (g.step s r)
    simpa [mLoop] using this

theorem merge_good (s : List Supply) (fits : List (List Bool)) (h : mergeOk s fits) : MGood s fits (mergeM s fits).1 := by
  unfold mergeM
  rw [if_pos h]
  have := mLoop_good s fits [] [] ⟨[], [], []⟩ h.2.1.symm ⟨rfl, rfl, rfl, List.nodup_nil, by simp, by simp, by simp [sumL], by simp⟩
  simpa using this

/-- Different rows: nothing is joined. -/
theorem mLoop_same : ∀ (xs : List Supply) (ys : List (List Bool)) (m : MS), xs.length = ys.length → (m.ys ++ ys).Nodup → mLoop xs ys m = ⟨m.xs ++ xs, m.ys ++ ys, m.of ++ (List.range xs.length).map fun (i : Nat) => (((m.ys.length + i) : Nat) : Int)⟩
  | [], [], m, _, _ => by simp [mLoop]
  | [], _ :: _, _, h, _ => by simp at h
  | _ :: _, [], _, h, _ => by simp at h
  | x :: xs, y :: ys, m, h, hn => by
    have hneg : idxM (· = y) m.ys < 0 := by
      have h1 := (idxM_lt (p := (· = y)) m.ys).2
      have h2 : ¬ 0 ≤ idxM (· = y) m.ys := fun h0 => by
        obtain ⟨z, hz, e⟩ := (idxM_nonneg (p := (· = y)) m.ys).1 h0
        subst e
        rw [List.nodup_append] at hn
        exact hn.2.2 z hz z (.head _) rfl
      omega
    rw [mLoop, mStep, if_pos hneg, mLoop_same xs ys _ (by simpa using h) (by simpa using hn)]
    simp only [List.append_assoc, List.cons_append, List.nil_append, List.length_append, List.length_singleton, List.length_cons, List.range_succ_eq_map, List.map_cons, List.map_map, MS.mk.injEq, true_and, Nat.add_zero]
    congr 2
    refine List.map_congr_left fun i _ => ?_
    simp only [Function.comp, List.length_nil]; omega

theorem merge_same (xs : List Supply) (ys : List (List Bool)) (h : mergeOk xs ys) (hn : ys.Nodup) : mergeM xs ys = (⟨xs, ys, (List.range xs.length).map fun (i : Nat) => ((i : Nat) : Int)⟩, 0) := by
  unfold mergeM
  rw [if_pos h, mLoop_same xs ys _ h.2.1.symm (by simpa using hn)]
  simp

theorem merge_again (s : List Supply) (fits : List (List Bool)) (h : mergeOk s fits) (hm : ∀ x ∈ (mergeM s fits).1.xs, x.amount ≤ 1048576) : mergeOk (mergeM s fits).1.xs (mergeM s fits).1.ys := by
  have g := merge_good s fits h
  obtain ⟨h1, h2, h3⟩ := h
  have hrow : ∀ r ∈ fits, r.length = (fits.headD []).length ∧ r.length ≤ 64 := fun r hr => by
    obtain ⟨i, hi⟩ := List.mem_iff_getElem?.1 hr
    have hil : i < s.length := by rw [← h2]; exact (List.getElem?_eq_some_iff.1 hi).1
    have := h3 (s[i], r) (List.mem_iff_getElem?.2 ⟨i, by simp [List.getElem?_zip_eq_some, hi, hil]⟩)
    exact ⟨this.2.1, this.2.2⟩
  have hamt : ∀ x ∈ s, 0 ≤ x.amount := fun x hx => by
    obtain ⟨i, hi⟩ := List.mem_iff_getElem?.1 hx
    have hil : i < fits.length := by rw [h2]; exact (List.getElem?_eq_some_iff.1 hi).1
    have := h3 (x, fits[i]) (List.mem_iff_getElem?.2 ⟨i, by simp [List.getElem?_zip_eq_some, hi, hil]⟩)
    exact this.1.1
  have hlen : ∀ r ∈ (mergeM s fits).1.ys, r.length = (fits.headD []).length := fun r hr => (hrow r (g.sub r hr)).1
  refine ⟨?_, g.xy.symm, fun p hp => ?_⟩
  · have : (mergeM s fits).1.ys.length ≤ s.length := by
      unfold mergeM
      rw [if_pos ⟨h1, h2, h3⟩]
      have key : ∀ (s : List Supply) (fits : List (List Bool)) (m : MS), (mLoop s fits m).ys.length ≤ m.ys.length + s.length := by
        intro s
        induction s with
        | nil => intro fits m; simp [mLoop]
        | cons x s ih =>
          intro fits m
          cases fits with
          | nil => simp [mLoop]
          | cons r rs =>
            have h1 := ih rs (mStep m x r)
            have h2 : (mStep m x r).ys.length ≤ m.ys.length + 1 := by unfold mStep; split <;> simp
            simp only [mLoop, List.length_cons]; omega
      simpa using key s fits ⟨[], [], []⟩
    rw [g.xy]; omega
  · obtain ⟨hx, hy⟩ := List.of_mem_zip hp
    refine ⟨⟨g.pos _ hx hamt, hm _ hx⟩, ?_, (hrow _ (g.sub _ hy)).2⟩
    rw [hlen _ hy]
    cases hys : (mergeM s fits).1.ys with
    | nil => rw [hys] at hy; cases hy
    | cons r rs => exact (hlen r (by rw [hys]; exact .head _)).symm
end Go.PM

