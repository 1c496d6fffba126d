/- ClassesPieces: what its walks need. -/
import Derived.Test.YtbifaidepiejeaaL29b
import Derived.Test.YtbifaidepiejeaaPure29p
import Derived.Test.YtbifaidepiejeaaPmOwn
namespace Go.PM
open Go.Proofs
set_option maxRecDepth 10000
set_option maxHeartbeats 1000000

def wD (l : List Int) : D := SL 1 (l.map (D.i .u8))
structure XP where
  r : Nat
  a : Nat
  l : Int
  g : List Int
  t : List Int
theorem formed_of {s : List Supply} {fits : List (List Bool)} (hok : mergeOk s fits) : fits.length = s.length ∧ ∀ r ∈ fits, r.length = (fits.headD []).length := ⟨hok.2.1, fun r hr => by
  obtain ⟨i, hi⟩ := List.mem_iff_getElem?.1 hr
  have hil : i < s.length := by rw [← hok.2.1]; exact (List.getElem?_eq_some_iff.1 hi).1
  exact (hok.2.2 (s[i], r) (List.mem_iff_getElem?.2 ⟨i, by simp [List.getElem?_zip_eq_some, hi, hil]⟩)).2.1⟩
theorem amounts_of {s : List Supply} {fits : List (List Bool)} (hok : mergeOk s fits) : ∀ n ∈ s.map Supply.amount, 0 ≤ n ∧ n ≤ 1048576 := fun n hn => by
  obtain ⟨x, hx, rfl⟩ := List.mem_map.1 hn
  obtain ⟨i, hi⟩ := List.mem_iff_getElem?.1 hx
  have hil : i < fits.length := by rw [hok.2.1]; exact (List.getElem?_eq_some_iff.1 hi).1
  exact (hok.2.2 (x, fits[i]) (List.mem_iff_getElem?.2 ⟨i, by simp [List.getElem?_zip_eq_some, hi, hil]⟩)).1
theorem class_bound {s : List Supply} {fits : List (List Bool)} (hok : mergeOk s fits) (hs : s.length ≤ 12) {xs : List Supply} {ys : List (List Bool)} {of : List Int} (g : MGood s fits ⟨xs, ys, of⟩) {k : Nat} {x : Supply} (hx : xs[k]? = some x) : 0 ≤ x.amount ∧ x.amount ≤ 12582912 := by
  have ha := amounts_of hok
  rw [class_rest g hx]
  have h1 := restF_pos of (s.map Supply.amount) k fun n hn => (ha n hn).1
  have h2 := restF_le of (s.map Supply.amount) k 1048576 ha (by decide)
  have h3 := g.ofl
  simp only at h3
  omega
theorem map_get0' {α : Type} {f : α → D} {l : List α} {i : Nat} {x : α} (h : l[i]? = some x) : (l.map f)[0 + i]? = some (f x) := by simp [h]
theorem LP.post {P : Program} {N : Nat} {c : Code} {ts : Tm} {h : Hp} {k k' : Ex → Tm → Hp → Prop} (hl : LP P N c ts h k) (hk : ∀ e ts' h', k e ts' h' → ∃ ts2 h2, Wm N h.length ts' h' ts2 h2 ∧ k' e ts2 h2) : LP P N c ts h k' := fun n C a w S β hs b kk cs hro hb hr => by
  obtain ⟨e, a', w', ⟨x, e', hp⟩, harr⟩ := hl n C a w S β hs b kk cs hro hb hr
  exact ⟨e, a', w', ⟨x, e', hp.weak (hk x)⟩, harr⟩
/-- A loop's ends are joined: what comes behind it is walked once. -/
theorem ALoop.cut {P : Program} {N : Nat} {c : Code} {ts : Tm} {h : Hp} {k : Ex → Tm → Hp → Prop} {Y : Type} (n : Nat) (tv : Y → Tm) (hv : Y → List (Nat × Blk)) (Post : Y → Prop)
    (hl : ALoop P N c ts h fun e ts' h' => match e with
      | .exit id => id = n ∧ ∃ y, Post y ∧ Wm N h.length ts' h' (over (tv y) ts) (hset h (hv y))
      | e => k e ts' h')
    (hk : ∀ y, Post y → k (.exit n) (over (tv y) ts) (hset h (hv y))) : ALoop P N c ts h k := ⟨LP.post hl.holds fun e ts' h' hh => by
  cases e with
  | exit id =>
    obtain ⟨rfl, y, hp, hw⟩ := hh
    exact ⟨_, _, hw, hk y hp⟩
  | normal => exact ⟨_, _, Wk.refl.wm, hh⟩
  | ret => exact ⟨_, _, Wk.refl.wm, hh⟩⟩
/-- A variable's data as values. -/
theorem Wk.asVar {N : Nat} {ts : Tm} {h : Hp} {n : Nat} {cs : List D} (hn : h[n]? = some (.vard cs)) : Wk N ts h ts (h.set n (.var (cs.map V.d))) := fun C a w S β hs => by
  obtain ⟨r1, e1⟩ := turned hs.hr hn (blk' := .var (cs.map V.d)) (.inr (.inl ⟨.inl ⟨_, rfl⟩, rfl⟩)) (fun _ _ _ _ _ hb => by cases hb) (fun E => by
    obtain ⟨b, cells, elem, a1, a2, a3, a4, a5⟩ := hs.hr.blk n _ hn
    refine ⟨b, cells, elem, a1, a2, by rw [a3]; simp, fun j c u hj hu => ?_, a5⟩
    simp only [List.getElem?_map, Option.map_eq_some_iff] at hj
    obtain ⟨d, hd, rfl⟩ := hj
    obtain ⟨f1, f2⟩ := a4 j d u hd hu
    exact ⟨f1, .d (f2.evol E.sub E.cell)⟩)
  exact ⟨S, β, hs.evol e1 r1, e1⟩
/-- The loop rule over heaps that grow. -/
theorem ALoop.atH {P : Program} {E : Env} (hE : E.Ok P) {c : Code} {ts : Tm} {h : Hp} {k : Ex → Tm → Hp → Prop} {X : Type} (tv : X → Tm) (hx : X → Hp) (Inv : X → Prop) (μ : X → Nat) (x0 : X) (ht : SameT ts (over (tv x0) ts)) (hh : h = hx x0) (h0 : Inv x0)
    (round : ∀ x, Inv x → exCode E c (over (tv x) ts) (hx x) fun e ts' h' => match e with
      | .normal => ∃ y, Wm E.N (hx x0).length ts' h' (over (tv y) ts) (hx y) ∧ Inv y ∧ μ y < μ x
      | e => k e ts' h') : ALoop P E.N c ts h k := ALoop.of hE (fun x => over (tv x) ts) hx Inv μ x0 ht hh h0 round
theorem lenOfK_to {k : Nat → Prop} {n : Nat} : ∀ {h : Hp}, h.length = n → k n → roomK.lenOfK h k := by
  intro h
  induction h generalizing k n with
  | nil => intro e hk; subst e; exact hk
  | cons b h ih => intro e hk; subst e; exact ih rfl hk
theorem appK_to {ys : List Blk} {h : Hp} : ∀ {k : Hp → Prop}, k (h ++ ys) → appK h ys k := by
  induction h with
  | nil => exact fun hk => hk
  | cons b h ih => exact fun hk => ih hk
theorem setK_to {α : Type} {y : α} {xs zs : List α} {n : Nat} {k : List α → Prop} (h : n < xs.length) (e : xs.set n y = zs) (hk : k zs) : setK xs n y k := setK_mk h (by rw [e]; exact hk)
theorem setsK_to {h h2 : Hp} {ns : List Nat} {n : Nat} {b : Blk} {k : Hp → Prop} (e : ns = [n]) (hl : n < h.length) (hs : h.set n b = h2) (hk : k h2) : setsK h ns [b] k := by
  subst e
  exact setK_to (k := fun h' => setsK h' [] [] k) hl hs hk
theorem resL_to : ∀ {n : Nat} {k : List Blk → Prop}, k (List.replicate n .res) → resL n k
  | 0, _, hk => hk
  | n + 1, _, hk => resL_to (n := n) hk
theorem padK_to {h h2 : Hp} {n : Nat} {k : Hp → Prop} (e : h ++ List.replicate n .res = h2) (hk : k h2) : padK h n k := resL_to (appK_to (by rw [e]; exact hk))
/-- A loop's ends are joined, over heaps that grow. -/
theorem ALoop.cutH {P : Program} {N : Nat} {c : Code} {ts : Tm} {h : Hp} {k : Ex → Tm → Hp → Prop} {Y : Type} (n : Nat) (tv : Y → Tm) (hx : Y → Hp) (Post : Y → Prop)
    (hl : ALoop P N c ts h fun e ts' h' => match e with
      | .exit id => id = n ∧ ∃ y, Post y ∧ Wm N h.length ts' h' (over (tv y) ts) (hx y)
      | e => k e ts' h')
    (hk : ∀ y, Post y → k (.exit n) (over (tv y) ts) (hx y)) : ALoop P N c ts h k := ⟨LP.post hl.holds fun e ts' h' hh => by
  cases e with
  | exit id =>
    obtain ⟨rfl, y, hp, hw⟩ := hh
    exact ⟨_, _, hw, hk y hp⟩
  | normal => exact ⟨_, _, Wk.refl.wm, hh⟩
  | ret => exact ⟨_, _, Wk.refl.wm, hh⟩⟩
structure XK where
  k : Nat
  a : Nat
  G : List (List Int)
  t : List Int
/-- What holds before a class is allocated. -/
def InvK (xs : List Supply) (ys : List (List Bool)) (m n : Nat) (x : XK) : Prop :=
  x.k ≤ xs.length ∧ x.G.length = x.k ∧ x.a ≤ n ∧ (∀ (j : Nat) (g : List Int) (y : List Bool) (s : Supply), x.G[j]? = some g → ys[j]? = some y → xs[j]? = some s → RowG y g ∧ g.sum ≤ s.amount) ∧ TotIs x.G m x.t
def rowsB (G : List (List Int)) : List Blk := G.map fun g => .row 0 1 false (g.map I)
theorem rowsB_len (G : List (List Int)) : (rowsB G).length = G.length := List.length_map _
/-- The rows' slices, of which n are there. -/
def cellsV (K m n : Nat) : List V := (List.range K).map fun j => if j < n then .sref (j + 1 + 1) 0 0 m false else .d (.sl 0 true [])
theorem cellsV_zero (K m : Nat) : cellsV K m 0 = (List.replicate K (D.sl 0 true [])).map V.d := by
  unfold cellsV
  refine List.ext_getElem? fun i => ?_
  by_cases hi : i < K
  · simp [hi]
  · simp [List.getElem?_eq_none, hi]
theorem cellsV_get {K m n j : Nat} (h : j < n) (hn : n ≤ K) : (cellsV K m n)[j]? = some (.sref (j + 1 + 1) 0 0 m false) := by
  unfold cellsV
  rw [List.getElem?_map, List.getElem?_range (by omega)]
  simp [h]
theorem cellsV_set {K m n : Nat} (h : n < K) : (cellsV K m n).set n (.sref (n + 1 + 1) 0 0 m false) = cellsV K m (n + 1) := by
  unfold cellsV
  refine List.ext_getElem? fun i => ?_
  by_cases hi : n = i
  · subst hi
    rw [List.getElem?_set_self (by simpa using h), List.getElem?_map, List.getElem?_range h]
    simp
  · rw [List.getElem?_set_ne hi, List.getElem?_map, List.getElem?_map]
    by_cases hl : i < K
    · rw [List.getElem?_range hl]
      simp only [Option.map_some, Option.some.injEq]
      by_cases h1 : i < n
      · rw [if_pos h1, if_pos (by omega)]
      · rw [if_neg h1, if_neg (by omega)]
    · rw [List.getElem?_eq_none (by simpa using hl)]; rfl
theorem cellsV_len (K m n : Nat) : (cellsV K m n).length = K := by unfold cellsV; simp
/-- The heap: the rows' slices, the totals, the rows. (z only keeps it folded.) -/
def H0 (z K m n : Nat) (t : List Int) (G : List (List Int)) : Hp := match z with
  | 0 => .var (cellsV K m n) :: .row 0 1 false (t.map I) :: rowsB G
  | _ + 1 => .var (cellsV K m n) :: .row 0 1 false (t.map I) :: rowsB G
theorem H0_eq (z K m n : Nat) (t : List Int) (G : List (List Int)) : H0 z K m n t G = .var (cellsV K m n) :: .row 0 1 false (t.map I) :: rowsB G := by cases z <;> rfl
theorem H0_len (z K m n : Nat) (t : List Int) (G : List (List Int)) : (H0 z K m n t G).length = G.length + 1 + 1 := by rw [H0_eq, List.length_cons, List.length_cons, rowsB_len]
theorem H0_0 (z K m n : Nat) (t : List Int) (G : List (List Int)) : (H0 z K m n t G)[0]? = some (.var (cellsV K m n)) := by rw [H0_eq]; rfl
theorem H0_1 (z K m n : Nat) (t : List Int) (G : List (List Int)) : (H0 z K m n t G)[1]? = some (.row 0 1 false (t.map I)) := by rw [H0_eq]; rfl
theorem H0_j (z K m n : Nat) (t : List Int) {G : List (List Int)} {j : Nat} {g : List Int} (h : G[j]? = some g) : (H0 z K m n t G)[j + 1 + 1]? = some (.row 0 1 false (g.map I)) := by
  rw [H0_eq, List.getElem?_cons_succ, List.getElem?_cons_succ]
  unfold rowsB
  rw [List.getElem?_map, h]; rfl
theorem setK_same {α : Type} {xs : List α} {n : Nat} {y : α} {k : List α → Prop} (h : xs[n]? = some y) (hk : k xs) : setK xs n y k := by
  have hl := (List.getElem?_eq_some_iff.1 h).1
  refine setK_to hl ?_ hk
  refine List.ext_getElem? fun i => ?_
  by_cases hi : n = i
  · subst hi; rw [List.getElem?_set_self hl, h]
  · rw [List.getElem?_set_ne hi]
theorem H0_set0 {z K m n n' : Nat} {t : List Int} {G : List (List Int)} {k : Hp → Prop} (hk : k (H0 z K m n' t G)) : setK (H0 z K m n t G) 0 (.var (cellsV K m n')) k :=
  setK_to (by rw [H0_len]; omega) (by rw [H0_eq, H0_eq]; rfl) hk
theorem H0_set1 {z K m n : Nat} {t t' : List Int} {G : List (List Int)} {k : Hp → Prop} (hk : k (H0 z K m n t' G)) : setK (H0 z K m n t G) 1 (.row 0 1 false (t'.map I)) k :=
  setK_to (by rw [H0_len]; omega) (by rw [H0_eq, H0_eq]; rfl) hk
theorem H0_setj {z K m n j : Nat} {t : List Int} {G G' : List (List Int)} {g : List Int} {k : Hp → Prop} (hj : j < G.length) (hG : G.set j g = G') (hk : k (H0 z K m n t G')) : setK (H0 z K m n t G) (j + 1 + 1) (.row 0 1 false (g.map I)) k :=
  setK_to (by rw [H0_len]; omega) (by rw [H0_eq, H0_eq, ← hG, List.set_cons_succ, List.set_cons_succ]; unfold rowsB; rw [List.map_set]) hk
def H1 (z K m n : Nat) (t : List Int) (G : List (List Int)) : Hp := match z with
  | 0 => .var (cellsV K m n) :: .row 0 1 false (t.map I) :: (rowsB G ++ [.res])
  | _ + 1 => .var (cellsV K m n) :: .row 0 1 false (t.map I) :: (rowsB G ++ [.res])
theorem H1_eq (z K m n : Nat) (t : List Int) (G : List (List Int)) : H1 z K m n t G = .var (cellsV K m n) :: .row 0 1 false (t.map I) :: (rowsB G ++ [.res]) := by cases z <;> rfl
theorem H1_pad (z K m n : Nat) (t : List Int) (G : List (List Int)) : H0 z K m n t G ++ List.replicate 1 .res = H1 z K m n t G := by rw [H0_eq, H1_eq]; rfl
theorem H1_j (z K m n : Nat) (t : List Int) {G : List (List Int)} {j : Nat} (h : G.length = j) : (H1 z K m n t G)[j + 1 + 1]? = some .res := by
  rw [H1_eq, List.getElem?_cons_succ, List.getElem?_cons_succ, List.getElem?_append_right (by rw [rowsB_len]; omega), rowsB_len, h]; simp
theorem H1_setj {z K m n j : Nat} {t : List Int} {G : List (List Int)} {g : List Int} {b : Blk} {k : Hp → Prop} (hj : G.length = j) (hb : b = .row 0 1 false (g.map I)) (hk : k (H0 z K m n t (G ++ [g]))) : setK (H1 z K m n t G) (j + 1 + 1) b k :=
  setK_to (by rw [H1_eq, List.length_cons, List.length_cons, List.length_append, rowsB_len]; simp; omega) (by
    rw [H1_eq, H0_eq, List.set_cons_succ, List.set_cons_succ, List.set_append_right _ _ (by rw [rowsB_len]; omega), rowsB_len, hj, hb]
    simp [rowsB]) hk
end Go.PM

