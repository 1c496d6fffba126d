/-
  PM, part 28: maps that own the rows that their values lie over. A row is lent, and handed back.
-/
import Derived.Test.YtbifaidepiejeaaPmClose
set_option linter.unusedSectionVars false
namespace Go.PM
variable [Glob]
variable {P : Program} {T : TT}

/-- A block turns, the world and the names staying. -/
theorem turned {w : World} {S : Stb} {h : Hp} {β : Bet} (hr : HR w S h β) {n : Nat} {blk blk' : Blk} (hn : h[n]? = some blk) (hev : BEv blk β[n]? blk' β[n]?)
    (hone : ∀ (k : Nat) (b : Blk), k ≠ n → h[k]? = some b → b.own = true → blk'.own = true → False)
    (hbr : Evol w S h β w S (h.set n blk') β → BR w S (h.set n blk') β n blk') : HR w S (h.set n blk') β ∧ Evol w S h β w S (h.set n blk') β := by
  have hnl : n < h.length := (List.getElem?_eq_some_iff.1 hn).1
  have E : Evol w S h β w S (h.set n blk') β := by
    refine ⟨Out.refl _, Nat.le_refl _, fun _ _ _ => rfl, fun _ c _ _ hi => ⟨c, hi, rfl⟩, fun _ l hl => ⟨l, hl⟩, fun _ _ => rfl, fun _ _ h => h, fun _ _ h => .inl h, fun _ _ _ => rfl, fun _ h => .inl h, by simp, fun m b hm => ?_⟩
    by_cases hmn : n = m
    · subst hmn
      rw [hn] at hm; cases hm
      exact ⟨blk', by simp [hnl], hev⟩
    · exact ⟨b, by rw [List.getElem?_set_ne hmn]; exact hm, BEv.refl _ _⟩
  refine ⟨⟨by simpa using hr.len, fun m b hm => ?_, hr.inj, hr.old, hr.glob.evol E, fun r b p hb => by rw [tl_seth] at hb; exact hr.tlt r b p hb, ?_⟩, E⟩
  · by_cases hmn : n = m
    · subst hmn
      have : b = blk' := by simpa [hnl] using hm.symm
      subst this
      exact hbr E
    · rw [List.getElem?_set_ne hmn] at hm
      exact BR.keep E rfl (fun _ r b p hb => ⟨by rw [tl_seth]; exact hb, rfl, fun _ h => h⟩) (fun _ _ _ => ⟨rfl, fun _ h => h⟩) (hr.blk m b hm)
  · have key : ∀ {m : Nat} {c : Blk}, (h.set n blk')[m]? = some c → (m = n ∧ c = blk') ∨ (m ≠ n ∧ h[m]? = some c) := fun {m c} hm => by
      by_cases hmn : n = m
      · subst hmn
        rw [List.getElem?_set_self hnl] at hm
        cases hm; exact .inl ⟨rfl, rfl⟩
      · rw [List.getElem?_set_ne hmn] at hm
        exact .inr ⟨Ne.symm hmn, hm⟩
    intro k m b c h1 h2 h3 h4
    rcases key h1 with ⟨rfl, rfl⟩ | ⟨a1, a2⟩ <;> rcases key h2 with ⟨rfl, rfl⟩ | ⟨b1, b2⟩
    · rfl
    · exact (hone m c b1 b2 h4 h3).elim
    · exact (hone k b a1 a2 h3 h4).elim
    · exact hr.one _ _ _ _ a2 b2 h3 h4

/-- A new map may own rows. -/
theorem Wk.toOwn {N : Nat} {ts : Tm} {h : Hp} {n sz : Nat} {kt : TypeId} (hsz : 0 < sz) (hn : h[n]? = some (.mapn T kt)) (ho : h.all (fun b => !b.own) = true) : Wk N ts h ts (h.set n (.mapo T kt sz [] none)) := fun C a w S β hs => by
  obtain ⟨r1, e1⟩ := turned hs.hr hn (blk' := .mapo T kt sz [] none) (.inr ⟨.inr (.inr ⟨_, _, _, rfl⟩), rfl⟩) (fun k b _ hk hb _ => by
    have := List.all_eq_true.1 ho b (List.mem_of_getElem? hk)
    simp [hb] at this) (fun E => by
    obtain ⟨b, a1, a2, a5⟩ := hs.hr.blk n _ hn
    exact ⟨hsz, b, #[], a1, a2, rfl, fun j m hj => by simp at hj, ⟨fun j => j, fun j p m hj => by simp at hj, fun i j hi => by obtain ⟨_, _, hi⟩ := hi; simp at hi⟩, trivial, a5⟩)
  exact ⟨S, β, hs.evol e1 r1, e1⟩

/-- A key that is not there is lent. -/
theorem Wk.lend0 {N : Nat} {ts : Tm} {h : Hp} {n sz : Nat} {kt : TypeId} {k : D} {es : List (D × Option (List D))} (hn : h[n]? = some (.mapo T kt sz es none)) (hkk : eqD T 4 kt k.cells k.cells = true) (hne : ∀ p ∈ es, eqD T 4 kt k.cells p.1.cells = false) :
    Wk N ts h ts (h.set n (.mapo T kt sz es (some (k, .d (.sl 0 true []), none)))) := fun C a w S β hs => by
  obtain ⟨r1, e1⟩ := turned hs.hr hn (blk' := .mapo T kt sz es (some (k, .d (.sl 0 true []), none))) (.inr ⟨.inr ⟨_, _, _, rfl⟩, rfl⟩) (fun k b hk1 hk hb _ => hk1 (hs.hr.one _ _ _ _ hk hn hb rfl)) (fun E => by
    obtain ⟨hsz, b, mes, a1, a2, a3, ab, ⟨q, a4, aq⟩, _, a5⟩ := hs.hr.blk n _ hn
    refine ⟨hsz, b, mes, a1, a2, a3, ab, ⟨q, fun j p m hj hm => ?_, aq⟩, ⟨rfl, hkk, rfl, hne⟩, a5⟩
    obtain ⟨b1, b2, b3⟩ := a4.stay E (by simp) (fun _ _ _ _ => rfl) j p m hj hm
    obtain ⟨k2, x⟩ := p
    cases x with
    | some xs => exact ⟨b1, b2, b3⟩
    | none => obtain ⟨v, hv, _⟩ := b3; cases hv)
  exact ⟨S, β, hs.evol e1 r1, e1⟩

theorem mid_get {α : Type} {pre post : List α} {x : α} : (pre ++ x :: post)[pre.length]? = some x := by simp
theorem mid_ne {α : Type} {pre post : List α} {x y : α} {j : Nat} (hj : j ≠ pre.length) : (pre ++ x :: post)[j]? = (pre ++ y :: post)[j]? := by
  by_cases h : j < pre.length
  · rw [List.getElem?_append_left h, List.getElem?_append_left h]
  · rw [List.getElem?_append_right (by omega), List.getElem?_append_right (by omega)]
    obtain ⟨i, hi⟩ : ∃ i, j - pre.length = i + 1 := ⟨j - pre.length - 1, by omega⟩
    rw [hi]; rfl
theorem mid_mem {α : Type} {pre post : List α} {x y : α} {j : Nat} (hj : j ≠ pre.length) (h : (pre ++ x :: post)[j]? = some y) : y ∈ pre ++ post := by
  by_cases h1 : j < pre.length
  · rw [List.getElem?_append_left h1] at h
    exact List.mem_append.2 (.inl (List.mem_of_getElem? h))
  · rw [List.getElem?_append_right (by omega)] at h
    obtain ⟨i, hi⟩ : ∃ i, j - pre.length = i + 1 := ⟨j - pre.length - 1, by omega⟩
    rw [hi] at h
    exact List.mem_append.2 (.inr (List.mem_of_getElem? (by simpa using h)))

/-- The row of a key is lent. -/
theorem Wk.lend {N : Nat} {ts : Tm} {h : Hp} {n sz : Nat} {kt : TypeId} {k : D} {xs : List D} {pre post : List (D × Option (List D))} (hn : h[n]? = some (.mapo T kt sz (pre ++ (k, some xs) :: post) none)) (hkk : eqD T 4 kt k.cells k.cells = true)
    (hne : ∀ p ∈ pre ++ post, eqD T 4 kt k.cells p.1.cells = false) :
    Wk N ts h ts (h.set n (.mapo T kt sz (pre ++ (k, none) :: post) (some (k, .sref h.length 0 0 xs.length false, some pre.length))) ++ [.row 0 sz false xs]) := fun C a w S β hs => by
  have hr := hs.hr
  have hnl : n < h.length := (List.getElem?_eq_some_iff.1 hn).1
  have hlen := hr.len
  obtain ⟨hsz, bm, mes, a1, a2, a3, ab, ⟨q, a4, aq⟩, _, a5⟩ := hr.blk n _ hn
  have hmj : ∃ m, mes[pre.length]? = some m := ⟨mes[pre.length]'(by rw [a3]; simp), Array.getElem?_eq_getElem _⟩
  obtain ⟨m0, hm0⟩ := hmj
  obtain ⟨c1, c2, b, base, cells, elem, cap, g1, g2, g3, g4, g5, g6, g7⟩ := a4 pre.length _ m0 mid_get hm0
  have g1' : β[h.length + q pre.length]? = some (some (b, base)) := g1
  have hrl : h.length + q pre.length < β.length := (List.getElem?_eq_some_iff.1 g1').1
  obtain ⟨h', hh'⟩ : ∃ h', h' = h.set n (.mapo T kt sz (pre ++ (k, none) :: post) (some (k, .sref h.length 0 0 xs.length false, some pre.length))) ++ [.row 0 sz false xs] := ⟨_, rfl⟩
  obtain ⟨β', hβ'⟩ : ∃ β', β' = β.take h.length ++ (some (b, base) :: (β.set (h.length + q pre.length) none).drop h.length) := ⟨_, rfl⟩
  have htk : (β.take h.length).length = h.length := by rw [List.length_take]; omega
  have hl' : h'.length = h.length + 1 := by rw [hh']; simp
  have hold : ∀ i, i < h.length → β'[i]? = β[i]? := fun i hi => by rw [hβ', List.getElem?_append_left (by omega), List.getElem?_take_of_lt hi]
  have hmid : β'[h.length]? = some (some (b, base)) := by rw [hβ', List.getElem?_append_right (by omega), htk]; simp
  have htail : ∀ r, tl h' β' r = if r = q pre.length then some none else tl h β r := fun r => by
    unfold tl
    rw [hl', hβ', List.getElem?_append_right (by omega), htk, show h.length + 1 + r - h.length = r + 1 by omega, List.getElem?_cons_succ, List.getElem?_drop]
    by_cases e : r = q pre.length
    · rw [if_pos e, e, List.getElem?_set_self hrl]
    · rw [if_neg e, List.getElem?_set_ne (by omega)]
  have hcase : ∀ i c p, β'[i]? = some (some (c, p)) → (i < h.length ∧ β[i]? = some (some (c, p))) ∨ (i = h.length ∧ (c, p) = (b, base)) ∨ (∃ r, i = h.length + 1 + r ∧ r ≠ q pre.length ∧ β[h.length + r]? = some (some (c, p))) := fun i c p hi => by
    by_cases h1 : i < h.length
    · exact .inl ⟨h1, by rw [← hold i h1]; exact hi⟩
    · by_cases h2 : i = h.length
      · subst h2
        rw [hmid] at hi; simp at hi
        exact .inr (.inl ⟨rfl, by simp [hi]⟩)
      · obtain ⟨r, hr1⟩ : ∃ r, i = h.length + 1 + r := ⟨i - h.length - 1, by omega⟩
        have := htail r
        unfold tl at this
        rw [hl', ← hr1, hi] at this
        split at this
        · cases this
        · exact .inr (.inr ⟨r, hr1, by assumption, this.symm⟩)
  have hget : ∀ i, i < h.length → i ≠ n → h'[i]? = h[i]? := fun i hi hne => by rw [hh', List.getElem?_append_left (by simpa using hi), List.getElem?_set_ne (Ne.symm hne)]
  have hgn : h'[n]? = some (.mapo T kt sz (pre ++ (k, none) :: post) (some (k, .sref h.length 0 0 xs.length false, some pre.length))) := by rw [hh', List.getElem?_append_left (by simpa using hnl), List.getElem?_set_self hnl]
  have hgr : h'[h.length]? = some (.row 0 sz false xs) := by rw [hh', List.getElem?_append_right (by simp)]; simp
  have E : Evol w S h β w S h' β' := by
    refine ⟨Out.refl _, Nat.le_refl _, fun _ _ _ => rfl, fun _ c _ _ hi => ⟨c, hi, rfl⟩, fun _ l hl => ⟨l, hl⟩, fun _ _ => rfl, fun _ _ h => h, fun _ _ h => .inl h, fun _ _ _ => rfl, ?_, by omega, fun i c hi => ?_⟩
    · rintro c ⟨i, p, hi⟩
      rcases hcase i c p hi with ⟨_, h1⟩ | ⟨_, h1⟩ | ⟨r, _, _, h1⟩
      · exact .inl ⟨i, p, h1⟩
      · simp only [Prod.mk.injEq] at h1
        obtain ⟨rfl, rfl⟩ := h1
        exact .inl ⟨_, _, g1'⟩
      · exact .inl ⟨_, p, h1⟩
    · have hil : i < h.length := (List.getElem?_eq_some_iff.1 hi).1
      by_cases hin : i = n
      · subst hin
        rw [hn] at hi; cases hi
        exact ⟨_, hgn, .inr ⟨.inr ⟨_, _, _, rfl⟩, hold i hil⟩⟩
      · exact ⟨c, by rw [hget i hil hin]; exact hi, by rw [hold i hil]; exact BEv.refl _ _⟩
  have hR : HR w S h' β' := by
    refine ⟨?_, fun i c hi => ?_, ?_, hr.old, hr.glob.evol E, fun r c p hc => ?_, ?_⟩
    · rw [hl', hβ', List.length_append, List.length_cons, htk, List.length_drop, List.length_set]; omega
    · by_cases hin : i = n
      · subst hin
        rw [hgn] at hi; cases hi
        refine ⟨hsz, bm, mes, by rw [hold i hnl]; exact a1, by rw [a2]; simp, by rw [a3]; simp, ab, ⟨q, fun j p m hj hm => ?_, fun j1 j2 h1 h2 => ?_⟩, ⟨rfl, hkk, mid_get, fun j p hj hp => ?_⟩, a5⟩
        · by_cases hjp : j = pre.length
          · subst hjp
            rw [mid_get] at hj; cases hj
            rw [hm0] at hm; cases hm
            refine ⟨c1, c2.evol E.sub E.cell, _, rfl, .sref (by rw [g3]; rfl) ⟨_, cap, g3, g4, by simp, ?_⟩⟩
            rw [hgr]
            exact ⟨Nat.le_refl _, fun _ => .inr ⟨b, base, cells, elem, (0, 0), hmid, fun _ => by simp, g2, by simpa using g5⟩⟩
          · have hj' := hj
            rw [mid_ne (y := (k, some xs)) hjp] at hj
            obtain ⟨d1, d2, d3⟩ := a4 j p m hj hm
            refine ⟨d1, d2.evol E.sub E.cell, ?_⟩
            obtain ⟨k2, x⟩ := p
            cases x with
            | none => obtain ⟨v, hv, _⟩ := d3; cases hv
            | some ys =>
              obtain ⟨b2, base2, cells2, elem2, cap2, f1, f2, f3, f4, f5, f6, f7⟩ := d3
              have hqq : q j ≠ q pre.length := fun e => hjp (aq j pre.length ⟨_, _, hj⟩ ⟨_, _, mid_get⟩ e)
              refine ⟨b2, base2, cells2, elem2, cap2, by rw [htail, if_neg hqq]; exact f1, f2, f3, f4, f5, fun i x hi => ?_, f7⟩
              obtain ⟨e1, e2⟩ := f6 i x hi
              refine ⟨e1, fun j c hj => ?_⟩
              obtain ⟨e3, u, e4, e5⟩ := e2 j c hj
              exact ⟨e3, u, e4, e5.evol E.sub E.cell⟩
        · have key : ∀ {j : Nat}, (∃ (k' : D) (ys : List D), (pre ++ (k, none) :: post)[j]? = some (k', some ys)) → ∃ (k' : D) (ys : List D), (pre ++ (k, some xs) :: post)[j]? = some (k', some ys) := fun {j} ⟨k', ys, hj⟩ => by
            by_cases hjp : j = pre.length
            · subst hjp; exact ⟨_, _, mid_get⟩
            · exact ⟨k', ys, by rw [mid_ne (y := (k, none)) hjp]; exact hj⟩
          exact aq j1 j2 (key h1) (key h2)
        · exact hne p (mid_mem hj hp)
      · by_cases hil : i < h.length
        · rw [hget i hil hin] at hi
          exact BR.keep E (hold i hil) (fun ho => absurd (hr.one _ _ _ _ hi hn ho rfl) hin) (fun _ _ _ => ⟨rfl, fun _ h => h⟩) (hr.blk i c hi)
        · have : i = h.length := by have := (List.getElem?_eq_some_iff.1 hi).1; omega
          subst this
          rw [hgr] at hi; cases hi
          refine ⟨hsz, fun i x hx => ⟨(g6 i x hx).1, fun j c hj => ((g6 i x hx).2 j c hj).1⟩, .inr ⟨b, base, cells, elem, hmid, g2, ?_, fun i x j c hx hc => ?_, fun o ho => absurd ho (g7 o)⟩⟩
          · exact Nat.le_trans (Nat.add_le_add_left (Nat.mul_le_mul_right _ g4) _) g5
          · obtain ⟨_, u, e4, e5⟩ := (g6 i x hx).2 j c hc
            exact ⟨u, e4, e5.evol E.sub E.cell⟩
    · intro i j c p p2 h1 h2
      have main : ∀ {i c p}, β'[i]? = some (some (c, p)) → ∃ i', β[i']? = some (some (c, p)) ∧ ((i < h.length ∧ i' = i) ∨ (i = h.length ∧ i' = h.length + q pre.length) ∨ ∃ r, i = h.length + 1 + r ∧ r ≠ q pre.length ∧ i' = h.length + r) := fun {i c p} hi => by
        rcases hcase i c p hi with ⟨x1, x2⟩ | ⟨x1, x2⟩ | ⟨r, x1, x2, x3⟩
        · exact ⟨i, x2, .inl ⟨x1, rfl⟩⟩
        · simp only [Prod.mk.injEq] at x2
          obtain ⟨rfl, rfl⟩ := x2
          exact ⟨_, g1', .inr (.inl ⟨x1, rfl⟩)⟩
        · exact ⟨_, x3, .inr (.inr ⟨r, x1, x2, rfl⟩)⟩
      obtain ⟨i', y1, y2⟩ := main h1
      obtain ⟨j', z1, z2⟩ := main h2
      have := hr.inj _ _ _ _ _ y1 z1
      rcases y2 with ⟨_, _⟩ | ⟨_, _⟩ | ⟨r, _, _, _⟩ <;> rcases z2 with ⟨_, _⟩ | ⟨_, _⟩ | ⟨r2, _, _, _⟩ <;> omega
    · rw [htail] at hc
      split at hc
      · cases hc
      · exact hr.tlt r c p hc
    · have key : ∀ {i : Nat} {c : Blk}, h'[i]? = some c → c.own = true → i = n := fun {i c} hi hc => by
        by_cases hin : i = n
        · exact hin
        · by_cases hil : i < h.length
          · rw [hget i hil hin] at hi
            exact hr.one _ _ _ _ hi hn hc rfl
          · have : i = h.length := by have := (List.getElem?_eq_some_iff.1 hi).1; omega
            subst this
            rw [hgr] at hi; cases hi; cases hc
      exact fun i j b c h1 h2 h3 h4 => (key h1 h3).trans (key h2 h4).symm
  rw [← hh']
  exact ⟨S, β', hs.evol E hR, E⟩

/-- What was lent is handed back. -/
theorem Wk.unlend {N : Nat} {ts : Tm} {h : Hp} {n m ver sz len : Nat} {full : Bool} {kt : TypeId} {k : D} {xs : List D} {pre post : List (D × Option (List D))} (hn : h[n]? = some (.mapo T kt sz (pre ++ (k, none) :: post) (some (k, .sref m ver 0 len full, some pre.length))))
    (hm : h[m]? = some (.row ver sz false xs)) (hxs : xs ≠ []) (hl : len = xs.length) :
    Wk N ts h ts ((h.set m .gone).set n (.mapo T kt sz (pre ++ (k, some xs) :: post) none)) := fun C a w S β hs => by
  have hr := hs.hr
  have hnl : n < h.length := (List.getElem?_eq_some_iff.1 hn).1
  have hml : m < h.length := (List.getElem?_eq_some_iff.1 hm).1
  have hmn : m ≠ n := by rintro rfl; rw [hn] at hm; cases hm
  have hlen := hr.len
  subst hl
  obtain ⟨hsz, bm, mes, a1, a2, a3, ab, ⟨q, a4, aq⟩, ⟨_, hkk, hj0, hj1⟩, a5⟩ := hr.blk n _ hn
  obtain ⟨_, r1, r2⟩ := hr.blk m _ hm
  rcases r2 with ⟨r2, _⟩ | ⟨b, base, cells, elem, s1, s2, s3, s4, s5⟩
  · exact absurd r2 hxs
  have hmj : ∃ m0, mes[pre.length]? = some m0 := ⟨mes[pre.length]'(by rw [a3]; simp), Array.getElem?_eq_getElem _⟩
  obtain ⟨m0, hm0⟩ := hmj
  obtain ⟨c1, c2, v, hv, hvr⟩ := a4 pre.length _ m0 mid_get hm0
  cases hv
  have hnoS : ∀ o, ¬ S b o := fun o ho => by cases (s5 o ho).1
  -- the slice
  obtain ⟨cap, t1, t2, t3⟩ : ∃ cap, m0.val = .slice (some ⟨b, base, none⟩) xs.length cap ∧ xs.length ≤ cap ∧ base + cap * sz ≤ cells.size := by
    cases hvr with
    | sref h1 h2 =>
      obtain ⟨a, cap, e, hc, _, hp⟩ := h2
      simp only [hm] at hp
      obtain ⟨_, hp⟩ := hp
      have hpos : 0 < xs.length := List.length_pos_iff.2 hxs
      rcases hp trivial with ⟨hb, h0⟩ | ⟨b2, base2, cells2, elem2, fz, f1, f2, f3, f4⟩
      · omega
      · rw [s1] at f1; simp at f1
        obtain ⟨rfl, rfl⟩ := f1
        rw [s2] at f3; simp at f3
        obtain ⟨rfl, _⟩ := f3
        refine ⟨cap, by rw [e, f2 (by omega)]; simp, hc, by simpa using f4⟩
  obtain ⟨h', hh'⟩ : ∃ h', h' = (h.set m .gone).set n (.mapo T kt sz (pre ++ (k, some xs) :: post) none) := ⟨_, rfl⟩
  obtain ⟨β', hβ'⟩ : ∃ β', β' = β.set m none ++ [some (b, base)] := ⟨_, rfl⟩
  have hl' : h'.length = h.length := by rw [hh']; simp
  have hold : ∀ i, i ≠ m → i < β.length → β'[i]? = β[i]? := fun i hi hl => by rw [hβ', List.getElem?_append_left (by simpa using hl), List.getElem?_set_ne (Ne.symm hi)]
  have hbm : β'[m]? = some none := by rw [hβ', List.getElem?_append_left (by simp; omega), List.getElem?_set_self (by omega)]
  have hlast : β'[β.length]? = some (some (b, base)) := by rw [hβ', List.getElem?_append_right (by simp)]; simp
  have hcase : ∀ i c p, β'[i]? = some (some (c, p)) → (i ≠ m ∧ i < β.length ∧ β[i]? = some (some (c, p))) ∨ (i = β.length ∧ (c, p) = (b, base)) := fun i c p hi => by
    by_cases h0 : i = m
    · subst h0; rw [hbm] at hi; cases hi
    · by_cases h1 : i < β.length
      · exact .inl ⟨h0, h1, by rw [← hold i h0 h1]; exact hi⟩
      · have : i = β.length := by
          have := (List.getElem?_eq_some_iff.1 hi).1
          rw [hβ'] at this; simp at this; omega
        subst this
        rw [hlast] at hi; simp at hi
        exact .inr ⟨rfl, by simp [hi]⟩
  have hget : ∀ i, i ≠ m → i ≠ n → h'[i]? = h[i]? := fun i hi hne => by rw [hh', List.getElem?_set_ne (Ne.symm hne), List.getElem?_set_ne (Ne.symm hi)]
  have hgn : h'[n]? = some (.mapo T kt sz (pre ++ (k, some xs) :: post) none) := by rw [hh', List.getElem?_set_self (by simpa using hnl)]
  have hgm : h'[m]? = some .gone := by rw [hh', List.getElem?_set_ne (Ne.symm hmn), List.getElem?_set_self hml]
  have htl : ∀ r c p, tl h β r = some (some (c, p)) → tl h' β' r = some (some (c, p)) := fun r c p ht => by
    unfold tl at ht ⊢
    rw [hl', hold _ (by omega) (List.getElem?_eq_some_iff.1 ht).1]
    exact ht
  have E : Evol w S h β w S h' β' := by
    refine ⟨Out.refl _, Nat.le_refl _, fun _ _ _ => rfl, fun _ c _ _ hi => ⟨c, hi, rfl⟩, fun _ l hl => ⟨l, hl⟩, fun _ _ => rfl, fun _ _ h => h, fun _ _ h => .inl h, fun _ _ _ => rfl, ?_, by omega, fun i c hi => ?_⟩
    · rintro c ⟨i, p, hi⟩
      rcases hcase i c p hi with ⟨_, _, h1⟩ | ⟨_, h1⟩
      · exact .inl ⟨i, p, h1⟩
      · simp only [Prod.mk.injEq] at h1
        obtain ⟨rfl, rfl⟩ := h1
        exact .inl ⟨_, _, s1⟩
    · have hil : i < h.length := (List.getElem?_eq_some_iff.1 hi).1
      by_cases hin : i = n
      · subst hin
        rw [hn] at hi; cases hi
        exact ⟨_, hgn, .inr ⟨.inr ⟨_, _, _, rfl⟩, hold i (Ne.symm hmn) (by omega)⟩⟩
      · by_cases him : i = m
        · subst him
          rw [hm] at hi; cases hi
          exact ⟨_, hgm, .inl rfl⟩
        · exact ⟨c, by rw [hget i him hin]; exact hi, by rw [hold i him (by omega)]; exact BEv.refl _ _⟩
  have hR : HR w S h' β' := by
    refine ⟨?_, fun i c hi => ?_, ?_, hr.old, hr.glob.evol E, fun r c p hc => ?_, ?_⟩
    · rw [hl', hβ', List.length_append, List.length_set]; omega
    · by_cases hin : i = n
      · subst hin
        rw [hgn] at hi; cases hi
        refine ⟨hsz, bm, mes, by rw [hold i (Ne.symm hmn) (by omega)]; exact a1, by rw [a2]; simp, by rw [a3]; simp, ab, ⟨fun j => if j = pre.length then β.length - h.length else q j, fun j p m hj hm => ?_, fun j1 j2 h1 h2 => ?_⟩, trivial, a5⟩
        · by_cases hjp : j = pre.length
          · subst hjp
            rw [mid_get] at hj; cases hj
            rw [hm0] at hm; cases hm
            refine ⟨c1, c2.evol E.sub E.cell, b, base, cells, elem, cap, ?_, s2, t1, t2, t3, fun i x hx => ⟨(r1 i x hx).1, fun j c hj => ⟨(r1 i x hx).2 j c hj, ?_⟩⟩, hnoS⟩
            · unfold tl
              dsimp only
              rw [if_pos rfl, hl', show h.length + (β.length - h.length) = β.length by omega]
              exact hlast
            · obtain ⟨u, e1, e2⟩ := s4 i x j c hx hj
              exact ⟨u, e1, e2.evol E.sub E.cell⟩
          · have hj' := hj
            rw [mid_ne (y := (k, none)) hjp] at hj
            obtain ⟨d1, d2, d3⟩ := a4 j p m hj hm
            refine ⟨d1, d2.evol E.sub E.cell, ?_⟩
            obtain ⟨k2, x⟩ := p
            cases x with
            | none =>
              obtain ⟨v, hv, _⟩ := d3
              simp only [Option.some.injEq, Prod.mk.injEq] at hv
              have := hj1 j _ hjp hj
              rw [← hv.1, hkk] at this; cases this
            | some ys =>
              obtain ⟨b2, base2, cells2, elem2, cap2, f1, f2, f3, f4, f5, f6, f7⟩ := d3
              refine ⟨b2, base2, cells2, elem2, cap2, by dsimp only; rw [if_neg hjp]; exact htl _ _ _ f1, f2, f3, f4, f5, fun i x hi => ?_, f7⟩
              obtain ⟨e1, e2⟩ := f6 i x hi
              refine ⟨e1, fun j c hj => ?_⟩
              obtain ⟨e3, u, e4, e5⟩ := e2 j c hj
              exact ⟨e3, u, e4, e5.evol E.sub E.cell⟩
        · have key : ∀ {j : Nat}, j ≠ pre.length → (∃ (k' : D) (ys : List D), (pre ++ (k, some xs) :: post)[j]? = some (k', some ys)) → (∃ (k' : D) (ys : List D), (pre ++ (k, none) :: post)[j]? = some (k', some ys)) ∧ q j < β.length - h.length := fun {j} hjp ⟨k', ys, hj⟩ => by
            rw [mid_ne (y := (k, none)) hjp] at hj
            refine ⟨⟨k', ys, hj⟩, ?_⟩
            have hjl : j < mes.size := by rw [a3]; exact (List.getElem?_eq_some_iff.1 hj).1
            obtain ⟨_, _, b2, base2, _, _, _, f1, _⟩ := a4 j _ _ hj (Array.getElem?_eq_getElem hjl)
            have := (List.getElem?_eq_some_iff.1 f1).1
            omega
          intro e
          simp only at e
          by_cases e1 : j1 = pre.length <;> by_cases e2 : j2 = pre.length
          · omega
          · have := (key e2 h2).2
            rw [if_pos e1, if_neg e2] at e; omega
          · have := (key e1 h1).2
            rw [if_neg e1, if_pos e2] at e; omega
          · rw [if_neg e1, if_neg e2] at e
            exact aq j1 j2 (key e1 h1).1 (key e2 h2).1 e
      · by_cases him : i = m
        · subst him
          rw [hgm] at hi; cases hi
          exact hbm
        · rw [hget i him hin] at hi
          have hil : i < h.length := (List.getElem?_eq_some_iff.1 hi).1
          exact BR.keep E (hold i him (by omega)) (fun ho => absurd (hr.one _ _ _ _ hi hn ho rfl) hin) (fun _ _ _ => ⟨rfl, fun _ h => h⟩) (hr.blk i c hi)
    · intro i j c p p2 h1 h2
      rcases hcase i c p h1 with ⟨x0, x1, x2⟩ | ⟨x1, x2⟩ <;> rcases hcase j c p2 h2 with ⟨y0, y1, y2⟩ | ⟨y1, y2⟩
      · exact hr.inj _ _ _ _ _ x2 y2
      · simp only [Prod.mk.injEq] at y2
        obtain ⟨rfl, rfl⟩ := y2
        exact absurd (hr.inj _ _ _ _ _ x2 s1) x0
      · simp only [Prod.mk.injEq] at x2
        obtain ⟨rfl, rfl⟩ := x2
        exact absurd (hr.inj _ _ _ _ _ y2 s1) y0
      · omega
    · unfold tl at hc
      rcases hcase _ _ _ hc with ⟨_, _, x2⟩ | ⟨_, x2⟩
      · exact hr.lt x2
      · simp only [Prod.mk.injEq] at x2
        obtain ⟨rfl, rfl⟩ := x2
        exact hr.lt s1
    · have key : ∀ {i : Nat} {c : Blk}, h'[i]? = some c → c.own = true → i = n := fun {i c} hi hc => by
        by_cases hin : i = n
        · exact hin
        · by_cases him : i = m
          · subst him
            rw [hgm] at hi; cases hi; cases hc
          · rw [hget i him hin] at hi
            exact hr.one _ _ _ _ hi hn hc rfl
      exact fun i j b c h1 h2 h3 h4 => (key h1 h3).trans (key h2 h4).symm
  rw [← hh']
  exact ⟨S, β', hs.evol E hR, E⟩

/-- The rows of a map are fixed: its values are data. -/
theorem Wk.fixed {N : Nat} {ts : Tm} {h : Hp} {n sz : Nat} {kt : TypeId} {es : List (D × Option (List D))} (l : List (D × List D)) (hn : h[n]? = some (.mapo T kt sz es none)) (hl : es = l.map fun p => (p.1, some p.2)) :
    Wk N ts h ts (h.set n (.map T kt (l.map fun p => (p.1, .sl sz false p.2)))) := fun C a w S β hs => by
  have hr := hs.hr
  have hnl : n < h.length := (List.getElem?_eq_some_iff.1 hn).1
  subst hl
  obtain ⟨hsz, bm, mes, a1, a2, a3, ab, ⟨q, a4, aq⟩, _, a5⟩ := hr.blk n _ hn
  obtain ⟨S', hS'⟩ : ∃ S' : Stb, S' = fun b o => S b o ∨ ∃ r p, tl h β r = some (some (b, p)) := ⟨_, rfl⟩
  have E : Evol w S h β w S' (h.set n (.map T kt (l.map fun p => (p.1, .sl sz false p.2)))) β := by
    subst hS'
    refine ⟨Out.refl _, Nat.le_refl _, fun _ _ _ => rfl, fun _ c _ _ hi => ⟨c, hi, rfl⟩, fun _ l hl => ⟨l, hl⟩, fun _ _ => rfl, fun _ _ h => .inl h, fun b o hs => ?_, fun _ _ _ => rfl, fun _ h => .inl h, by simp, fun m b hm => ?_⟩
    · rcases hs with hs | ⟨r, p, ht⟩
      · exact .inl hs
      · exact .inr (.inr (tl_img ht))
    · by_cases hmn : n = m
      · subst hmn
        rw [hn] at hm; cases hm
        exact ⟨_, by rw [List.getElem?_set_self hnl], .inr ⟨.inl ⟨_, rfl⟩, rfl⟩⟩
      · exact ⟨b, by rw [List.getElem?_set_ne hmn]; exact hm, BEv.refl _ _⟩
  have hno : ∀ b o, (∃ i p, i < h.length ∧ β[i]? = some (some (b, p))) → S' b o → S b o := fun b o ⟨i, p, hi, hb⟩ ho => by
    subst hS'
    rcases ho with ho | ⟨r, p2, ht⟩
    · exact ho
    · exact absurd rfl (hr.tne hi hb ht)
  refine ⟨S', β, ?_, E⟩
  refine hs.evol E ⟨by simpa using hr.len, fun m b hm => ?_, hr.inj, fun b o ho => ?_, hr.glob.evol E, fun r b p hb => by rw [tl_seth] at hb; exact hr.tlt r b p hb, one_set hr.one hn (fun h => nomatch h)⟩
  · by_cases hmn : n = m
    · subst hmn
      have : b = .map T kt (l.map fun p => (p.1, .sl sz false p.2)) := by simpa [hnl] using hm.symm
      subst this
      refine ⟨bm, mes, _, a1, a2, by rw [a3]; simp, fun j p m hj hm => ?_, by have := Born.idx ab; rw [a3] at this; exact this, fun o ho => a5 o (hno _ o ⟨n, 0, hnl, a1⟩ ho)⟩
      simp only [List.getElem?_map, Option.map_eq_some_iff] at hj
      obtain ⟨⟨k2, xs⟩, hj, rfl⟩ := hj
      obtain ⟨d1, d2, b, base, cells, elem, cap, g1, g2, g3, g4, g5, g6, g7⟩ := a4 j (k2, some xs) m (by simp [hj]) hm
      refine ⟨d1, d2.evol E.sub E.cell, ?_⟩
      rw [g3]
      refine .sl sz false xs _ cap b base (fun i j => (cells[base + i * sz + j]?).getD undef) g4 (by simp) (fun h => by omega) (fun _ => rfl) (fun i x hx => (g6 i x hx).1) (fun i x j c hx hj => ?_) fun i x j c hx hj => ?_
      · obtain ⟨e1, u, e2, e3⟩ := (g6 i x hx).2 j c hj
        refine ⟨e1, ?_, by subst hS'; exact .inr ⟨_, _, g1⟩⟩
        rw [cell_of_row _ b (base + i * sz + j) cells elem (0, 0) g2, e2]; rfl
      · obtain ⟨e1, u, e2, e3⟩ := (g6 i x hx).2 j c hj
        rw [e2]
        exact e3.evol E.sub E.cell
    · rw [List.getElem?_set_ne hmn] at hm
      have hml : m < h.length := (List.getElem?_eq_some_iff.1 hm).1
      exact BR.keep E rfl (fun ho => absurd (hr.one _ _ _ _ hm hn ho rfl) (Ne.symm hmn)) (fun b' p hb' => ⟨rfl, fun o ho => hno b' o ⟨m, p, hml, hb'⟩ ho⟩) (hr.blk m b hm)
  · subst hS'
    rcases ho with ho | ⟨r, p, ht⟩
    · exact hr.old b o ho
    · exact hr.tlt r b p ht

/-- The loop rule, each round beginning from a state that says less. -/
theorem ALoop.atW {E : Env} (hE : E.Ok P) {c : Code} {ts : Tm} {h : Hp} {k : Ex → Tm → Hp → Prop} {X : Type} (tv : X → Tm) (hv : X → List (Nat × Blk)) (Inv : X → Prop) (μ : X → Nat) (x0 : X) (ht : SameT ts (over (tv x0) ts)) (hh : h = hset h (hv x0)) (h0 : Inv x0)
    (round : ∀ x, Inv x → ∃ ts1 h1, Wk E.N (over (tv x) ts) (hset h (hv x)) ts1 h1 ∧ exCode E c ts1 h1 fun e ts' h' => match e with
      | .normal => ∃ y, Wm E.N h.length ts' h' (over (tv y) ts) (hset h (hv y)) ∧ Inv y ∧ μ y < μ x
      | e => k e ts' h') : ALoop P E.N c ts h k := by
  refine ⟨?_⟩
  have hl := LP.loop (P := P) (N := E.N) (c := c) (k := k) (X := X) (fun x => over (tv x) ts) (fun x => hset h (hv x)) Inv μ x0 h0 fun x hi => by
    obtain ⟨ts1, h1, hw, hx⟩ := round x hi
    rw [← hh]
    exact AWP.weak hw (AWP.mono (fun e ts h hk => by cases e <;> exact hk) (exCode_sound hE c _ _ _ hx))
  rw [← hh] at hl
  exact LP.weak (Wk.tmps ht.mem) hl

end Go.PM
