/- Plain lemmas for what is allocated from classes. -/
import Derived.Test.YtbifaidepiejeaaPure29
namespace Go.PM
def restF : List Int → List Int → Int → Int
  | a :: ks, n :: ns, k => (if a = k then n else 0) + restF ks ns k
  | _, _, _ => 0
theorem restF_pos : ∀ (ks ns : List Int) (k : Int), (∀ n ∈ ns, 0 ≤ n) → 0 ≤ restF ks ns k
  | [], _, _, _ => by simp [restF]
  | _ :: _, [], _, _ => by simp [restF]
  | a :: ks, n :: ns, k, h => by
    have ih := restF_pos ks ns k fun m hm => h m (.tail _ hm)
    have := h n (.head _)
    rw [restF]
    split <;> omega
theorem sumL_get : ∀ (ks ns l : List Int) (k : Nat) (v : Int), (∀ a ∈ ks, 0 ≤ a) → l[k]? = some v → (sumL l ks ns)[k]? = some (v + restF ks ns k)
  | [], ns, l, k, v, _, h => by simp [sumL, restF, h]
  | _ :: _, [], l, k, v, _, h => by simp [sumL, restF, h]
  | a :: ks, n :: ns, l, k, v, ha, h => by
    rw [sumL, restF]
    have h0 := ha a (.head _)
    have hr : ∀ a ∈ ks, 0 ≤ a := fun b hb => ha b (.tail _ hb)
    by_cases he : a = (k : Int)
    · rw [if_pos he, sumL_get ks ns _ k (v + n) hr (by unfold addAt; rw [he]; simp [h])]
      congr 1; omega
    · rw [if_neg he, sumL_get ks ns _ k v hr (by unfold addAt; rw [List.getElem?_modify]; simp [show ¬ a.toNat = k by omega, h])]
      congr 1; omega
theorem sum_set : ∀ (l : List Int) (r : Nat) (u v : Int), l[r]? = some u → (l.set r v).sum = l.sum + v - u
  | [], r, u, v, h => by simp at h
  | a :: l, 0, u, v, h => by simp at h; subst h; simp; omega
  | a :: l, r + 1, u, v, h => by
    have := sum_set l r u v (by simpa using h)
    simp [this]; omega
theorem sum_nonneg : ∀ (l : List Int), (∀ v ∈ l, 0 ≤ v) → 0 ≤ l.sum
  | [], _ => by simp
  | a :: l, h => by
    have := sum_nonneg l fun v hv => h v (.tail _ hv)
    have := h a (.head _)
    simp; omega
theorem all_zero : ∀ (l : List Int), (∀ v ∈ l, 0 ≤ v) → l.sum ≤ 0 → ∀ v ∈ l, v = 0
  | [], _, _ => by simp
  | a :: l, h, hs => by
    have h1 := sum_nonneg l fun v hv => h v (.tail _ hv)
    have h2 := h a (.head _)
    simp at hs
    have h3 := all_zero l (fun v hv => h v (.tail _ hv)) (by omega)
    intro v hv
    cases hv with
    | head => omega
    | tail _ hv => exact h3 v hv
theorem zero_sum : ∀ (l : List Int), (∀ v ∈ l, v = 0) → l.sum = 0
  | [], _ => rfl
  | a :: l, h => by
    have := zero_sum l fun v hv => h v (.tail _ hv)
    have := h a (.head _)
    simp; omega
/-- What is given of a row of a class. -/
def RowG (y : List Bool) (g : List Int) : Prop := g.length = y.length ∧ ∀ (j : Nat) (v : Int), g[j]? = some v → 0 ≤ v ∧ v ≤ 255 ∧ (0 < v → y[j]? = some true)
theorem RowG.set {y : List Bool} {g : List Int} (h : RowG y g) {r : Nat} {v : Int} (h0 : 0 ≤ v ∧ v ≤ 255) (hy : 0 < v → y[r]? = some true) : RowG y (g.set r v) := by
  refine ⟨by rw [List.length_set]; exact h.1, fun j u hj => ?_⟩
  by_cases hjr : r = j
  · subst hjr
    by_cases hl : r < g.length
    · rw [List.getElem?_set_self hl] at hj; cases hj
      exact ⟨h0.1, h0.2, hy⟩
    · rw [List.getElem?_eq_none (by rw [List.length_set]; omega)] at hj; cases hj
  · rw [List.getElem?_set_ne hjr] at hj
    exact h.2 j u hj
theorem RowG.pos {y : List Bool} {g : List Int} (h : RowG y g) : ∀ v ∈ g, 0 ≤ v := fun v hv => by
  obtain ⟨j, hj⟩ := List.mem_iff_getElem?.1 hv
  exact (h.2 j v hj).1
theorem RowG.zero (y : List Bool) : RowG y (List.replicate y.length 0) := ⟨by simp, fun j v hj => by
  have := List.mem_of_getElem? hj
  rw [List.mem_replicate] at this
  omega⟩
def colS (G : List (List Int)) (j : Nat) : Int := (G.map fun g => g.getD j 0).sum
theorem colS_snoc (G : List (List Int)) (g : List Int) (j : Nat) : colS (G ++ [g]) j = colS G j + g.getD j 0 := by unfold colS; simp
theorem colS_set : ∀ (G : List (List Int)) (k : Nat) (g u : List Int) (j : Nat), G[k]? = some u → colS (G.set k g) j = colS G j + g.getD j 0 - u.getD j 0
  | [], k, g, u, j, h => by simp at h
  | a :: G, 0, g, u, j, h => by simp at h; subst h; simp [colS]; omega
  | a :: G, k + 1, g, u, j, h => by
    have := colS_set G k g u j (by simpa using h)
    simp only [colS, List.set_cons_succ, List.map_cons, List.sum_cons] at this ⊢
    omega
/-- The totals of columns. -/
def TotIs (G : List (List Int)) (many : Nat) (tot : List Int) : Prop := tot.length = many ∧ ∀ j, j < many → tot[j]? = some (colS G j)
theorem TotIs.zero (many : Nat) : TotIs [] many (List.replicate many 0) := ⟨by simp, fun j hj => by simp [colS, hj]⟩
theorem colS_same {G H : List (List Int)} {many : Nat} {tot : List Int} (h : TotIs G many tot) (he : ∀ j, j < many → colS H j = colS G j) : TotIs H many tot := ⟨h.1, fun j hj => by rw [h.2 j hj, he j hj]⟩
theorem TotIs.newrow {G : List (List Int)} {many : Nat} {tot : List Int} (h : TotIs G many tot) : TotIs (G ++ [List.replicate many 0]) many tot :=
  colS_same h fun j hj => by rw [colS_snoc]; simp [List.getD_eq_getElem?_getD, hj]
theorem TotIs.step {G : List (List Int)} {many : Nat} {tot : List Int} (h : TotIs G many tot) {k r : Nat} {g : List Int} {u v t : Int} (hk : G[k]? = some g) (hg : g[r]? = some u) (ht : tot[r]? = some t) :
    TotIs (G.set k (g.set r v)) many (tot.set r (t + (v - u))) := by
  have hrl := (List.getElem?_eq_some_iff.1 ht).1
  have hgl := (List.getElem?_eq_some_iff.1 hg).1
  refine ⟨by rw [List.length_set]; exact h.1, fun j hj => ?_⟩
  rw [colS_set G k _ g j hk]
  have h1 := h.2 j hj
  by_cases hjr : r = j
  · subst hjr
    rw [ht] at h1; cases h1
    rw [List.getElem?_set_self hrl, List.getD_eq_getElem?_getD, List.getElem?_set_self hgl, List.getD_eq_getElem?_getD, hg]
    simp; omega
  · rw [List.getElem?_set_ne hjr, h1, List.getD_eq_getElem?_getD, List.getElem?_set_ne hjr, List.getD_eq_getElem?_getD]
    congr 1; omega
theorem colS_bound : ∀ (G : List (List Int)) (j : Nat), (∀ g ∈ G, ∀ v ∈ g, 0 ≤ v ∧ v ≤ 255) → 0 ≤ colS G j ∧ colS G j ≤ 255 * G.length
  | [], _, _ => by simp [colS]
  | g :: G, j, h => by
    have ih := colS_bound G j fun x hx => h x (.tail _ hx)
    have : 0 ≤ g.getD j 0 ∧ g.getD j 0 ≤ 255 := by
      rw [List.getD_eq_getElem?_getD]
      cases hg : g[j]? with
      | none => simp
      | some v => exact h g (.head _) v (List.mem_of_getElem? hg)
    simp only [colS, List.map_cons, List.sum_cons, List.length_cons] at ih ⊢
    omega
theorem tot_zero {G : List (List Int)} {many : Nat} {tot : List Int} (h : TotIs G many tot) (hz : ∀ g ∈ G, ∀ v ∈ g, v = 0) {j : Nat} (hj : j < many) : tot[j]? = some 0 := by
  rw [h.2 j hj]
  congr 1
  unfold colS
  refine zero_sum _ fun v hv => ?_
  obtain ⟨g, hg, rfl⟩ := List.mem_map.1 hv
  rw [List.getD_eq_getElem?_getD]
  cases hx : g[j]? with
  | none => rfl
  | some v => exact hz g hg v (List.mem_of_getElem? hx)
/-- What holds while a class is allocated. -/
def InvA (y : List Bool) (Gs : List (List Int)) (m : Nat) (a : Int) (r : Nat) (left : Int) (g tot : List Int) : Prop :=
  RowG y g ∧ TotIs (Gs ++ [g]) m tot ∧ left = a - g.sum ∧ 0 ≤ left ∧ ∀ (j : Nat) (v : Int), r ≤ j → g[j]? = some v → v = 0
theorem InvA.init {y : List Bool} {Gs : List (List Int)} {m : Nat} {a : Int} {tot : List Int} (h : TotIs Gs m tot) (hy : y.length = m) (ha : 0 ≤ a) : InvA y Gs m a 0 a (List.replicate m 0) tot := by
  refine ⟨hy ▸ RowG.zero y, h.newrow, ?_, ha, fun j v _ hj => (List.mem_replicate.1 (List.mem_of_getElem? hj)).2⟩
  rw [zero_sum _ fun v hv => (List.mem_replicate.1 hv).2]; omega
theorem InvA.skip {y : List Bool} {Gs : List (List Int)} {m : Nat} {a : Int} {r : Nat} {left : Int} {g tot : List Int} (h : InvA y Gs m a r left g tot) : InvA y Gs m a (r + 1) left g tot :=
  ⟨h.1, h.2.1, h.2.2.1, h.2.2.2.1, fun j v hj => h.2.2.2.2 j v (by omega)⟩
theorem InvA.step {y : List Bool} {Gs : List (List Int)} {m : Nat} {a : Int} {r : Nat} {left : Int} {g tot : List Int} (h : InvA y Gs m a r left g tot) (hr : r < g.length) (hyr : y[r]? = some true) {w v t : Int} (hw : 0 ≤ w ∧ w ≤ 255) (hv : v = min left w) (ht : tot[r]? = some t) :
    InvA y Gs m a (r + 1) (left - v) (g.set r v) (tot.set r (t + v)) := by
  obtain ⟨h1, h2, h3, h4, h5⟩ := h
  have hg : g[r]? = some 0 := by
    have := h5 r g[r] (Nat.le_refl _) (List.getElem?_eq_getElem hr)
    rw [List.getElem?_eq_getElem hr, this]
  have hv0 : 0 ≤ v ∧ v ≤ 255 ∧ v ≤ left := by omega
  refine ⟨h1.set ⟨hv0.1, hv0.2.1⟩ fun _ => hyr, ?_, ?_, by omega, fun j u hj hu => ?_⟩
  · have hs := TotIs.step (v := v) h2 (k := Gs.length) (g := g) (by simp) hg ht
    rw [show v - 0 = v by omega] at hs
    have e : (Gs ++ [g]).set Gs.length (g.set r v) = Gs ++ [g.set r v] := by simp
    rw [e] at hs
    exact hs
  · rw [sum_set g r 0 v hg]; omega
  · rw [List.getElem?_set_ne (by omega)] at hu
    exact h5 j u (by omega) hu
theorem InvA.tot {y : List Bool} {Gs : List (List Int)} {m : Nat} {a : Int} {r : Nat} {left : Int} {g tot : List Int} (h : InvA y Gs m a r left g tot) (hG : ∀ x ∈ Gs, ∀ v ∈ x, 0 ≤ v ∧ v ≤ 255) {j : Nat} (hj : j < m) : ∃ t, tot[j]? = some t ∧ 0 ≤ t ∧ t ≤ 255 * (Gs.length + 1) := by
  refine ⟨_, h.2.1.2 j hj, ?_⟩
  have := colS_bound (Gs ++ [g]) j fun x hx v hv => by
    rcases List.mem_append.1 hx with hx | hx
    · exact hG x hx v hv
    · rw [List.mem_singleton] at hx
      subst hx
      obtain ⟨i, hi⟩ := List.mem_iff_getElem?.1 hv
      have := h.1.2 i v hi
      omega
  simpa using this
theorem RowG.bnd {y : List Bool} {g : List Int} (h : RowG y g) : ∀ v ∈ g, 0 ≤ v ∧ v ≤ 255 := fun v hv => by
  obtain ⟨i, hi⟩ := List.mem_iff_getElem?.1 hv
  have := h.2 i v hi
  omega
/-- What holds while a supply's allocation is taken. -/
def InvB (y : List Bool) (G : List (List Int)) (k m : Nat) (a : Int) (r : Nat) (left : Int) (g tot : List Int) : Prop :=
  RowG y g ∧ TotIs (G.set k g) m tot ∧ (0 ≤ left ∧ left ≤ a) ∧ g.sum + (a - left) = (G.getD k []).sum ∧ (left = 0 ∨ ∀ (j : Nat) (v : Int), j < r → g[j]? = some v → v = 0)
theorem InvB.init {y : List Bool} {G : List (List Int)} {k m : Nat} {a : Int} {g tot : List Int} (hk : G[k]? = some g) (hy : RowG y g) (h : TotIs G m tot) (ha : 0 ≤ a) : InvB y G k m a 0 a g tot := by
  have hl := (List.getElem?_eq_some_iff.1 hk).1
  refine ⟨hy, ?_, by omega, ?_, .inr fun j v hj => by omega⟩
  · have e : G.set k g = G := by
      refine List.ext_getElem? fun i => ?_
      by_cases hi : k = i
      · subst hi; rw [List.getElem?_set_self hl, hk]
      · rw [List.getElem?_set_ne hi]
    rw [e]; exact h
  · rw [List.getD_eq_getElem?_getD, hk]; simp
theorem InvB.step {y : List Bool} {G : List (List Int)} {k m : Nat} {a : Int} {r : Nat} {left : Int} {g tot : List Int} (h : InvB y G k m a r left g tot) (hk : k < G.length) {u v t : Int} (hu : g[r]? = some u) (hv : v = min left u) (ht : tot[r]? = some t) :
    InvB y G k m a (r + 1) (left - v) (g.set r (u - v)) (tot.set r (t - v)) := by
  obtain ⟨h1, h2, h3, h4, h5⟩ := h
  have hub := h1.2 r u hu
  have hrl := (List.getElem?_eq_some_iff.1 hu).1
  refine ⟨h1.set (by omega) fun hp => hub.2.2 (by omega), ?_, by omega, ?_, ?_⟩
  · have hs := TotIs.step (v := u - v) h2 (k := k) (g := g) (by rw [List.getElem?_set_self hk]) hu ht
    rw [List.set_set, show t + (u - v - u) = t - v by omega] at hs
    exact hs
  · rw [sum_set g r u (u - v) hu]; omega
  · by_cases hl : left - v = 0
    · exact .inl hl
    · refine .inr fun j x hj hx => ?_
      have hvu : v = u := by omega
      by_cases hjr : r = j
      · subst hjr
        rw [List.getElem?_set_self hrl] at hx; cases hx; omega
      · rw [List.getElem?_set_ne hjr] at hx
        rcases h5 with h5 | h5
        · omega
        · exact h5 j x (by omega) hx
/-- What holds before a supply. -/
def InvO (ys : List (List Bool)) (ks am : List Int) (m i : Nat) (G : List (List Int)) (tot : List Int) : Prop :=
  (∀ (k : Nat) (g : List Int) (y : List Bool), G[k]? = some g → ys[k]? = some y → RowG y g) ∧ TotIs G m tot ∧ ∀ (k : Nat) (g : List Int), G[k]? = some g → g.sum ≤ restF (ks.drop i) (am.drop i) k
theorem InvO.next {ys : List (List Bool)} {ks am : List Int} {m i : Nat} {G : List (List Int)} {tot : List Int} (h : InvO ys ks am m i G tot) {k : Nat} {y : List Bool} {a : Int} (hk : k < G.length) (hy : ys[k]? = some y) (hki : ks[i]? = some (k : Int)) (hai : am[i]? = some a) (ham : ∀ n ∈ am, 0 ≤ n)
    {left : Int} {g tot' : List Int} (hB : InvB y G k m a g.length left g tot') : InvO ys ks am m (i + 1) (G.set k g) tot' := by
  obtain ⟨h1, h2, h3⟩ := h
  obtain ⟨b1, b2, b3, b4, b5⟩ := hB
  obtain ⟨i1, e1⟩ := List.getElem?_eq_some_iff.1 hki
  obtain ⟨i2, e2⟩ := List.getElem?_eq_some_iff.1 hai
  have hr : ∀ q : Nat, restF (ks.drop i) (am.drop i) q = (if (k : Int) = q then a else 0) + restF (ks.drop (i + 1)) (am.drop (i + 1)) q := fun q => by
    rw [List.drop_eq_getElem_cons i1, List.drop_eq_getElem_cons i2, restF, e1, e2]
  have hpos : ∀ q : Nat, 0 ≤ restF (ks.drop (i + 1)) (am.drop (i + 1)) q := fun q => restF_pos _ _ _ fun n hn => ham n (List.mem_of_mem_drop hn)
  refine ⟨fun q x z hx hz => ?_, b2, fun q x hx => ?_⟩
  · by_cases hq : k = q
    · subst hq
      rw [List.getElem?_set_self hk] at hx; cases hx
      rw [hy] at hz; cases hz
      exact b1
    · rw [List.getElem?_set_ne hq] at hx
      exact h1 q x z hx hz
  · by_cases hq : k = q
    · subst hq
      rw [List.getElem?_set_self hk] at hx; cases hx
      obtain ⟨G0, hG0⟩ : ∃ G0, G[k]? = some G0 := ⟨_, List.getElem?_eq_getElem hk⟩
      have h4 := h3 k G0 hG0
      rw [hr, if_pos rfl] at h4
      rw [List.getD_eq_getElem?_getD, hG0] at b4
      simp only [Option.getD_some] at b4
      rcases b5 with b5 | b5
      · omega
      · have hz : ∀ v ∈ g, v = 0 := fun v hv => by
          obtain ⟨j, hj⟩ := List.mem_iff_getElem?.1 hv
          exact b5 j v (List.getElem?_eq_some_iff.1 hj).1 hj
        rw [zero_sum g hz]
        exact hpos k
    · rw [List.getElem?_set_ne hq] at hx
      have h4 := h3 q x hx
      rw [hr, if_neg (by omega)] at h4
      omega
theorem InvO.done {ys : List (List Bool)} {ks am : List Int} {m i : Nat} {G : List (List Int)} {tot : List Int} (h : InvO ys ks am m i G tot) (hi : ks.length ≤ i) (hl : G.length = ys.length) {j : Nat} (hj : j < m) : tot[j]? = some 0 := by
  obtain ⟨h1, h2, h3⟩ := h
  refine tot_zero h2 (fun g hg => ?_) hj
  obtain ⟨k, hk⟩ := List.mem_iff_getElem?.1 hg
  have hkl := (List.getElem?_eq_some_iff.1 hk).1
  have hR := h1 k g _ hk (List.getElem?_eq_getElem (by omega))
  have hs := h3 k g hk
  rw [List.drop_eq_nil_of_le hi] at hs
  simp only [restF] at hs
  exact all_zero g hR.pos hs
theorem restF_le : ∀ (ks ns : List Int) (k b : Int), (∀ n ∈ ns, 0 ≤ n ∧ n ≤ b) → 0 ≤ b → restF ks ns k ≤ b * ks.length
  | [], _, _, b, _, _ => by simp [restF]
  | _ :: ks, [], _, b, _, hb => by simp only [restF]; exact Int.mul_nonneg hb (by omega)
  | a :: ks, n :: ns, k, b, h, hb => by
    have ih := restF_le ks ns k b (fun m hm => h m (.tail _ hm)) hb
    have := h n (.head _)
    rw [restF, List.length_cons, show ((ks.length + 1 : Nat) : Int) = ks.length + 1 by omega, Int.mul_add, Int.mul_one]
    split <;> omega
theorem class_rest {s : List Supply} {fits : List (List Bool)} {xs : List Supply} {ys : List (List Bool)} {of : List Int} (g : MGood s fits ⟨xs, ys, of⟩) {k : Nat} {x : Supply} (hx : xs[k]? = some x) : x.amount = restF of (s.map Supply.amount) k := by
  have h := g.sum
  simp only at h
  have hkl := (List.getElem?_eq_some_iff.1 hx).1
  have hk : (xs.map Supply.amount)[k]? = some x.amount := by rw [List.getElem?_map, hx]; rfl
  have hof : ∀ a ∈ of, 0 ≤ a := fun a ha => by
    obtain ⟨i, hi⟩ := List.mem_iff_getElem?.1 ha
    have h1 := (List.getElem?_eq_some_iff.1 hi).1
    have h2 := g.ofl
    have h3 := g.fl
    simp only at h2
    exact (g.row i a _ hi (List.getElem?_eq_getElem (by omega))).1
  rw [h, sumL_get of _ _ k 0 hof (by simp [hkl])] at hk
  simp only [Option.some.injEq] at hk
  omega
end Go.PM

