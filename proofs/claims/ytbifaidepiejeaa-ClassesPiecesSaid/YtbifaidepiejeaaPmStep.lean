/-
  PM, part 4: one block turns; the rest stays.
-/
import Derived.Test.YtbifaidepiejeaaPmRel
import Derived.Laws.CopyRow
import Derived.Laws.Rows
import Derived.Laws.Cells
import Derived.Laws.AppendOwn
import Derived.Deep.Draws
set_option linter.unusedSectionVars false
namespace Go.PM
variable [Glob]

theorem one_eq (v : Value) : one v = v.oneCell' := by cases v <;> rfl

/-- The block of a name lies in the world. -/
theorem HR.lt {w : World} {S : Stb} {h : Hp} {β : Bet} (hr : HR w S h β) {n b p : Nat} (hn : β[n]? = some (some (b, p))) : b < w.heap.size := by
  by_cases hlt : n < h.length
  case neg =>
    refine hr.tlt (n - h.length) b p ?_
    unfold tl
    rw [show h.length + (n - h.length) = n by omega]
    exact hn
  have hb := hr.blk n h[n] (List.getElem?_eq_getElem hlt)
  have key : ∀ {b' : Nat} {o : Obj}, w.heap[b']? = some o → b' < w.heap.size := fun h => (Array.getElem?_eq_some_iff.1 h).1
  cases hx : h[n] with
  | res => rw [hx] at hb; simp only [BR] at hb; rw [hn] at hb; simp at hb
  | gone => rw [hx] at hb; simp only [BR] at hb; rw [hn] at hb; simp at hb
  | var cs =>
    rw [hx] at hb; obtain ⟨b', c, e, h1, h2, _⟩ := hb
    rw [hn] at h1; simp at h1; obtain ⟨rfl, _⟩ := h1; exact key h2
  | vard cs =>
    rw [hx] at hb; obtain ⟨b', c, e, h1, h2, _⟩ := hb
    rw [hn] at h1; simp at h1; obtain ⟨rfl, _⟩ := h1; exact key h2
  | row ver sz ro xs =>
    rw [hx] at hb; obtain ⟨_, _, ⟨_, h1⟩ | ⟨b', base, c, e, h1, h2, _⟩⟩ := hb
    · rw [hn] at h1; simp at h1
    · rw [hn] at h1; simp at h1; obtain ⟨rfl, _⟩ := h1; exact key h2
  | map T kt es =>
    rw [hx] at hb; obtain ⟨b', c, e, h1, h2, _⟩ := hb
    rw [hn] at h1; simp at h1; obtain ⟨rfl, _⟩ := h1; exact key h2
  | mapn T kt =>
    rw [hx] at hb; obtain ⟨b', h1, h2, _⟩ := hb
    rw [hn] at h1; simp at h1; obtain ⟨rfl, _⟩ := h1; exact key h2
  | mapo T kt sz es l =>
    rw [hx] at hb; obtain ⟨_, b', c, h1, h2, _⟩ := hb
    rw [hn] at h1; simp at h1; obtain ⟨rfl, _⟩ := h1; exact key h2
  | miter T kt l c =>
    rw [hx] at hb; obtain ⟨b', mb, q, mes, since, seen, last, clock, h1, h2, _⟩ := hb
    rw [hn] at h1; simp at h1; obtain ⟨rfl, _⟩ := h1; exact key h2
  | loop =>
    rw [hx] at hb; obtain ⟨b', l, h1, h2, _⟩ := hb
    rw [hn] at h1; simp at h1; obtain ⟨rfl, _⟩ := h1; exact key h2

/-- A block that is not touched. -/
theorem BR.keep0 {w w' : World} {S S' : Stb} {h h' : Hp} {β β' : Bet} (E : Evol0 w S h β w' S' h' β') {m : Nat} {blk : Blk} (hβ : β'[m]? = β[m]?)
    (hT : blk.own = true → ∀ r b p, tl h β r = some (some (b, p)) → tl h' β' r = some (some (b, p)) ∧ w'.heap[b]? = w.heap[b]? ∧ ∀ o, S' b o → S b o)
    (hb : ∀ b p, β[m]? = some (some (b, p)) → w'.heap[b]? = w.heap[b]? ∧ ∀ o, S' b o → S b o) (hx : BR w S h β m blk) : BR w' S' h' β' m blk := by
  cases blk with
  | res => simp only [BR] at hx ⊢; rw [hβ]; exact hx
  | gone => simp only [BR] at hx ⊢; rw [hβ]; exact hx
  | var cs =>
    obtain ⟨b, c, e, h1, h2, h3, h4, h5⟩ := hx
    obtain ⟨k1, k2⟩ := hb b 0 h1
    exact ⟨b, c, e, by rw [hβ]; exact h1, by rw [k1]; exact h2, h3, fun j x u hj hu => ⟨(h4 j x u hj hu).1, (h4 j x u hj hu).2.evol0 E⟩, fun o ho => h5 o (k2 o ho)⟩
  | vard cs =>
    obtain ⟨b, c, e, h1, h2, h3, h4, h5⟩ := hx
    obtain ⟨k1, k2⟩ := hb b 0 h1
    exact ⟨b, c, e, by rw [hβ]; exact h1, by rw [k1]; exact h2, h3, fun j x u hj hu => ⟨(h4 j x u hj hu).1, (h4 j x u hj hu).2.evol E.sub E.cell⟩, fun o ho => h5 o (k2 o ho)⟩
  | row ver sz ro xs =>
    obtain ⟨h0, h1, h2⟩ := hx
    refine ⟨h0, h1, ?_⟩
    rcases h2 with ⟨h2, h3⟩ | ⟨b, base, c, e, h2, h3, h4, h5, h6⟩
    · exact .inl ⟨h2, by rw [hβ]; exact h3⟩
    · obtain ⟨k1, k2⟩ := hb b base h2
      refine .inr ⟨b, base, c, e, by rw [hβ]; exact h2, by rw [k1]; exact h3, h4, fun i x j y hi hj => ?_, fun o ho => h6 o (k2 o ho)⟩
      obtain ⟨u, hu, hd⟩ := h5 i x j y hi hj
      exact ⟨u, hu, hd.evol E.sub E.cell⟩
  | map T kt es =>
    obtain ⟨b, c, e, h1, h2, h3, h4, h5⟩ := hx
    obtain ⟨k1, k2⟩ := hb b 0 h1
    refine ⟨b, c, e, by rw [hβ]; exact h1, by rw [k1]; exact h2, h3, fun j p m hj hu => ?_, h5.1, fun o ho => h5.2 o (k2 o ho)⟩
    obtain ⟨a1, a2, a3⟩ := h4 j p m hj hu
    exact ⟨a1, a2.evol E.sub E.cell, a3.evol E.sub E.cell⟩
  | mapn T kt =>
    obtain ⟨b, h1, h2, h3⟩ := hx
    obtain ⟨k1, k2⟩ := hb b 0 h1
    exact ⟨b, by rw [hβ]; exact h1, by rw [k1]; exact h2, fun o ho => h3 o (k2 o ho)⟩
  | mapo T kt sz es l =>
    obtain ⟨h0, b, c, h1, h2, h3, hborn, ⟨q, h4, hq⟩, h5, h6⟩ := hx
    obtain ⟨k1, k2⟩ := hb b 0 h1
    refine ⟨h0, b, c, by rw [hβ]; exact h1, by rw [k1]; exact h2, h3, hborn, ⟨q, fun j p m hj hu => ?_, hq⟩, h5, fun o ho => h6 o (k2 o ho)⟩
    obtain ⟨a1, a2, a3⟩ := h4 j p m hj hu
    refine ⟨a1, a2.evol E.sub E.cell, ?_⟩
    obtain ⟨key, x⟩ := p
    cases x with
    | none =>
      obtain ⟨v, v1, v2⟩ := a3
      exact ⟨v, v1, v2.evol0 E⟩
    | some xs =>
      obtain ⟨b2, base, cells, elem, cap, g1, g2, g3, g4, g5, g6, g7⟩ := a3
      obtain ⟨t1, t2, t3⟩ := hT rfl _ _ _ g1
      refine ⟨b2, base, cells, elem, cap, t1, by rw [t2]; exact g2, g3, g4, g5, fun i x hi => ?_, fun o ho => g7 o (t3 o ho)⟩
      obtain ⟨f1, f2⟩ := g6 i x hi
      refine ⟨f1, fun j c hj => ?_⟩
      obtain ⟨f3, u, f4, f5⟩ := f2 j c hj
      exact ⟨f3, u, f4, f5.evol E.sub E.cell⟩
  | miter T kt l c =>
    obtain ⟨r, mb, q, mes, since, seen, last, clock, h1, h2, h3, h4, h5, ⟨h6, h7⟩, h8, h9, h10⟩ := hx
    obtain ⟨k1, k2⟩ := hb r 0 h1
    obtain ⟨t1, t2, t3⟩ := hT rfl _ _ _ h3
    refine ⟨r, mb, q, mes, since, seen, last, clock, by rw [hβ]; exact h1, by rw [k1]; exact h2, t1, by rw [t2]; exact h4, h5, ⟨h6, fun i p m hi hm => ?_⟩, ?_, fun o ho => h9 o (k2 o ho), fun o ho => h10 o (t3 o ho)⟩
    · obtain ⟨a1, a2, a3⟩ := h7 i p m hi hm
      exact ⟨a1, a2.evol E.sub E.cell, a3.evol E.sub E.cell⟩
    · cases c with
      | none => trivial
      | some p =>
        obtain ⟨s0, m, e1, e2, e3, e4, e5⟩ := h8
        exact ⟨s0, m, e1, e2, e3, e4.evol E.sub E.cell, e5.evol E.sub E.cell⟩
  | loop st pend N ts ps as body =>
    obtain ⟨b, l, h1, h2, h3, h4, h5, h6, h7, h8, h9, h10⟩ := hx
    obtain ⟨k1, k2⟩ := hb b 0 h1
    exact ⟨b, l, by rw [hβ]; exact h1, by rw [k1]; exact h2, h3, h4, h5, h6, h7, fun t => (h8 t).evol0 E, fun o ho => h9 o (k2 o ho), h10⟩

theorem BR.keep {w w' : World} {S S' : Stb} {h h' : Hp} {β β' : Bet} (E : Evol w S h β w' S' h' β') {m : Nat} {blk : Blk} (hβ : β'[m]? = β[m]?)
    (hT : blk.own = true → ∀ r b p, tl h β r = some (some (b, p)) → tl h' β' r = some (some (b, p)) ∧ w'.heap[b]? = w.heap[b]? ∧ ∀ o, S' b o → S b o)
    (hb : ∀ b p, β[m]? = some (some (b, p)) → w'.heap[b]? = w.heap[b]? ∧ ∀ o, S' b o → S b o) (hx : BR w S h β m blk) : BR w' S' h' β' m blk := BR.keep0 E.to0 hβ hT hb hx

theorem tl_set {h : Hp} {β : Bet} {n : Nat} (hn : n < h.length) (b : Blk) (t : Option (Nat × Nat)) (r : Nat) : tl (h.set n b) (β.set n t) r = tl h β r := by
  unfold tl
  rw [List.length_set, List.getElem?_set_ne (by omega)]
theorem tl_seth {h : Hp} {β : Bet} {n : Nat} (b : Blk) (r : Nat) : tl (h.set n b) β r = tl h β r := by
  unfold tl
  rw [List.length_set]
theorem tl_img {h : Hp} {β : Bet} {r b p : Nat} (ht : tl h β r = some (some (b, p))) : img β b := ⟨_, p, ht⟩
/-- A name's block is not an owned one. -/
theorem HR.tne {w : World} {S : Stb} {h : Hp} {β : Bet} (hr : HR w S h β) {n b p r c q : Nat} (hn : n < h.length) (h1 : β[n]? = some (some (b, p))) (h2 : tl h β r = some (some (c, q))) : c ≠ b := by
  rintro rfl
  have := hr.inj _ _ _ _ _ h1 h2
  omega
theorem one_set {h : Hp} {n : Nat} {blk blk' : Blk} (ho : ∀ (n m : Nat) (b c : Blk), h[n]? = some b → h[m]? = some c → b.own = true → c.own = true → n = m) (hn : h[n]? = some blk) (hb : blk'.own = true → blk.own = true) :
    ∀ (k m : Nat) (b c : Blk), (h.set n blk')[k]? = some b → (h.set n blk')[m]? = some c → b.own = true → c.own = true → k = m := by
  have key : ∀ {m : Nat} {c : Blk}, (h.set n blk')[m]? = some c → c.own = true → ∃ c' : Blk, h[m]? = some c' ∧ c'.own = true := fun {m c} hm hc => by
    by_cases hmn : n = m
    · subst hmn
      have hl := (List.getElem?_eq_some_iff.1 hn).1
      rw [List.getElem?_set_self hl] at hm
      cases hm
      exact ⟨blk, hn, hb hc⟩
    · rw [List.getElem?_set_ne hmn] at hm
      exact ⟨c, hm, hc⟩
  intro k m b c h1 h2 h3 h4
  obtain ⟨b', e1, e2⟩ := key h1 h3
  obtain ⟨c', e3, e4⟩ := key h2 h4
  exact ho _ _ _ _ e1 e3 e2 e4

/-- **One name's block turns.** -/
theorem updG {w w' : World} {S : Stb} {h : Hp} {β : Bet} (hr : HR w S h β) {n : Nat} {blk blk' : Blk} (hn : h[n]? = some blk) (t' : Option (Nat × Nat))
    (size : w.heap.size ≤ w'.heap.size)
    (others : ∀ i, i < w.heap.size → (∀ p, β[n]? ≠ some (some (i, p))) → w'.heap[i]? = w.heap[i]?)
    (own : ∀ i p c e f, β[n]? = some (some (i, p)) → w.heap[i]? = some (.cells c e f) → ∃ c', w'.heap[i]? = some (.cells c' e f) ∧ c'.size = c.size)
    (ownl : ∀ i p l, β[n]? = some (some (i, p)) → w.heap[i]? = some (.loop l) → ∃ l', w'.heap[i]? = some (.loop l'))
    (froz : ∀ a, a.block < w.heap.size → w'.frozen? a = w.frozen? a)
    (cell : ∀ i p o, β[n]? = some (some (i, p)) → S i o → w'.cell? ⟨i, o, none⟩ = w.cell? ⟨i, o, none⟩)
    (ht : ∀ b p, t' = some (b, p) → (∃ q, β[n]? = some (some (b, q))) ∨ w.heap.size ≤ b)
    (hev : BEv blk β[n]? blk' (some t'))
    (hbr : Evol w S h β w' S (h.set n blk') (β.set n t') → BR w' S (h.set n blk') (β.set n t') n blk') (hout : Out w w' := by exact ⟨⟨rfl, rfl⟩, rfl, by first | exact Nat.le_refl _ | exact Nat.le_succ _⟩) (hone : ∀ (k m : Nat) (b c : Blk), (h.set n blk')[k]? = some b → (h.set n blk')[m]? = some c → b.own = true → c.own = true → k = m) :
    HR w' S (h.set n blk') (β.set n t') ∧ Evol w S h β w' S (h.set n blk') (β.set n t') := by
  have hnl : n < h.length := (List.getElem?_eq_some_iff.1 hn).1
  have hnb : n < β.length := Nat.lt_of_lt_of_le hnl hr.len
  have hset : (β.set n t')[n]? = some t' := by simp [hnb]
  have E : Evol w S h β w' S (h.set n blk') (β.set n t') := by
    constructor
    · exact hout
    · exact size
    · intro i hi hni
      exact others i hi fun p hp => hni ⟨n, p, hp⟩
    · intro i c e f hi
      by_cases hc : ∃ p, β[n]? = some (some (i, p))
      · obtain ⟨p, hp⟩ := hc
        exact own i p c e f hp hi
      · rw [others i (Array.getElem?_eq_some_iff.1 hi).1 fun p hp => hc ⟨p, hp⟩]
        exact ⟨c, hi, rfl⟩
    · intro i l hi
      by_cases hc : ∃ p, β[n]? = some (some (i, p))
      · obtain ⟨p, hp⟩ := hc
        exact ownl i p l hp hi
      · rw [others i (Array.getElem?_eq_some_iff.1 hi).1 fun p hp => hc ⟨p, hp⟩]
        exact ⟨l, hi⟩
    · exact froz
    · exact fun _ _ h => h
    · exact fun _ _ h => .inl h
    · intro b o hs
      by_cases hc : ∃ p, β[n]? = some (some (b, p))
      · obtain ⟨p, hp⟩ := hc
        exact cell b p o hp hs
      · exact World.cell?_of_block (a := ⟨b, o, none⟩) (others b (hr.old b o hs) fun p hp => hc ⟨p, hp⟩)
    · rintro b ⟨m, p, hm⟩
      by_cases hmn : m = n
      · subst hmn
        rw [hset] at hm
        rcases ht b p (by simpa using hm) with ⟨q, hq⟩ | hb
        · exact .inl ⟨m, q, hq⟩
        · exact .inr hb
      · rw [List.getElem?_set_ne (Ne.symm hmn)] at hm
        exact .inl ⟨m, p, hm⟩
    · simp
    · intro m b hm
      by_cases hmn : m = n
      · subst hmn
        rw [hn] at hm; cases hm
        exact ⟨blk', by simp [hnl], by rw [hset]; exact hev⟩
      · exact ⟨b, by rw [List.getElem?_set_ne (Ne.symm hmn)]; exact hm, by rw [List.getElem?_set_ne (Ne.symm hmn)]; exact BEv.refl _ _⟩
  have htl : ∀ r b p, tl h β r = some (some (b, p)) → w'.heap[b]? = w.heap[b]? := fun r b p hb => by
    refine others b (hr.lt hb) fun q hq => ?_
    exact hr.tne hnl hq hb rfl
  refine ⟨⟨by simpa using hr.len, fun m b hm => ?_, ?_, fun b o hs => Nat.lt_of_lt_of_le (hr.old b o hs) size, hr.glob.evol E, fun r b p hb => by
      rw [tl_set hnl] at hb
      exact Nat.lt_of_lt_of_le (hr.tlt r b p hb) size, hone⟩, E⟩
  · by_cases hmn : m = n
    · subst hmn
      have : b = blk' := by simpa [hnl] using hm.symm
      subst this
      exact hbr E
    · rw [List.getElem?_set_ne (Ne.symm hmn)] at hm
      refine BR.keep E (by rw [List.getElem?_set_ne (Ne.symm hmn)]) (fun _ r b p hb => ⟨by rw [tl_set hnl]; exact hb, htl r b p hb, fun _ h => h⟩) (fun b' p hb' => ⟨?_, fun _ h => h⟩) (hr.blk m b hm)
      exact others b' (hr.lt hb') fun q hq => hmn (hr.inj m n b' p q hb' hq)
  · intro m1 m2 b p q h1 h2
    have hcase : ∀ m p, (β.set n t')[m]? = some (some (b, p)) → (m ≠ n ∧ β[m]? = some (some (b, p))) ∨ (m = n ∧ t' = some (b, p)) := by
      intro m p hm
      by_cases hmn : m = n
      · subst hmn; rw [hset] at hm; exact .inr ⟨rfl, by simpa using hm⟩
      · rw [List.getElem?_set_ne (Ne.symm hmn)] at hm; exact .inl ⟨hmn, hm⟩
    rcases hcase m1 p h1 with ⟨a1, a2⟩ | ⟨a1, a2⟩ <;> rcases hcase m2 q h2 with ⟨b1, b2⟩ | ⟨b1, b2⟩
    · exact hr.inj _ _ _ _ _ a2 b2
    · rcases ht b q b2 with ⟨r, hr'⟩ | hge
      · exact absurd (hr.inj _ _ _ _ _ a2 hr') a1
      · exact absurd (hr.lt a2) (by omega)
    · rcases ht b p a2 with ⟨r, hr'⟩ | hge
      · exact absurd (hr.inj _ _ _ _ _ b2 hr') b1
      · exact absurd (hr.lt b2) (by omega)
    · omega

theorem updF {w w' : World} {S : Stb} {h : Hp} {β : Bet} (hr : HR w S h β) {n : Nat} {blk blk' : Blk} (hn : h[n]? = some blk) (t' : Option (Nat × Nat))
    (size : w.heap.size ≤ w'.heap.size)
    (others : ∀ i, i < w.heap.size → (∀ p, β[n]? ≠ some (some (i, p))) → w'.heap[i]? = w.heap[i]?)
    (own : ∀ i p c e f, β[n]? = some (some (i, p)) → w.heap[i]? = some (.cells c e f) → ∃ c', w'.heap[i]? = some (.cells c' e f) ∧ c'.size = c.size)
    (ownl : ∀ i p l, β[n]? = some (some (i, p)) → w.heap[i]? = some (.loop l) → ∃ l', w'.heap[i]? = some (.loop l'))
    (froz : ∀ a, a.block < w.heap.size → w'.frozen? a = w.frozen? a)
    (cell : ∀ i p o, β[n]? = some (some (i, p)) → S i o → w'.cell? ⟨i, o, none⟩ = w.cell? ⟨i, o, none⟩)
    (ht : ∀ b p, t' = some (b, p) → (∃ q, β[n]? = some (some (b, q))) ∨ w.heap.size ≤ b)
    (hev : BEv blk β[n]? blk' (some t'))
    (hbr : Evol w S h β w' S (h.set n blk') (β.set n t') → BR w' S (h.set n blk') (β.set n t') n blk') (hout : Out w w' := by exact ⟨⟨rfl, rfl⟩, rfl, by first | exact Nat.le_refl _ | exact Nat.le_succ _⟩) (hone : blk'.own = true → blk.own = true := by first | exact fun h => nomatch h | exact fun h => h | exact fun _ => rfl) :
    HR w' S (h.set n blk') (β.set n t') ∧ Evol w S h β w' S (h.set n blk') (β.set n t') :=
  updG hr hn t' size others own ownl froz cell ht hev hbr hout (one_set hr.one hn hone)

theorem upd {w w' : World} {S : Stb} {h : Hp} {β : Bet} (hr : HR w S h β) {n : Nat} {blk blk' : Blk} (hn : h[n]? = some blk) (t' : Option (Nat × Nat))
    (size : w.heap.size ≤ w'.heap.size)
    (others : ∀ i, i < w.heap.size → (∀ p, β[n]? ≠ some (some (i, p))) → w'.heap[i]? = w.heap[i]?)
    (own : ∀ i p c e f, β[n]? = some (some (i, p)) → w.heap[i]? = some (.cells c e f) → ∃ c', w'.heap[i]? = some (.cells c' e f) ∧ c'.size = c.size)
    (ownl : ∀ i p l, β[n]? = some (some (i, p)) → w.heap[i]? = some (.loop l) → ∃ l', w'.heap[i]? = some (.loop l'))
    (froz : ∀ a, w'.frozen? a = w.frozen? a)
    (cell : ∀ i p o, β[n]? = some (some (i, p)) → S i o → w'.cell? ⟨i, o, none⟩ = w.cell? ⟨i, o, none⟩)
    (ht : ∀ b p, t' = some (b, p) → (∃ q, β[n]? = some (some (b, q))) ∨ w.heap.size ≤ b)
    (hev : BEv blk β[n]? blk' (some t'))
    (hbr : Evol w S h β w' S (h.set n blk') (β.set n t') → BR w' S (h.set n blk') (β.set n t') n blk') (hout : Out w w' := by exact ⟨⟨rfl, rfl⟩, rfl, by first | exact Nat.le_refl _ | exact Nat.le_succ _⟩) (hone : blk'.own = true → blk.own = true := by first | exact fun h => nomatch h | exact fun h => h | exact fun _ => rfl) :
    HR w' S (h.set n blk') (β.set n t') ∧ Evol w S h β w' S (h.set n blk') (β.set n t') :=
  updF hr hn t' size others own ownl (fun a _ => froz a) cell ht hev hbr hout hone

/-- A draw alone. -/
theorem drawn {w : World} {S : Stb} {h : Hp} {β : Bet} (hr : HR w S h β) : HR w.drew S h β ∧ Evol w S h β w.drew S h β := by
  have E : Evol w S h β w.drew S h β :=
    ⟨⟨⟨rfl, rfl⟩, rfl, Nat.le_succ _⟩, Nat.le_refl _, fun _ _ _ => rfl, fun _ c _ _ hi => ⟨c, hi, rfl⟩, fun _ l hl => ⟨l, hl⟩, fun _ _ => rfl, fun _ _ h => h, fun _ _ h => .inl h, fun _ _ _ => rfl, fun _ h => .inl h, Nat.le_refl _, fun _ b hb => ⟨b, hb, BEv.refl _ _⟩⟩
  exact ⟨⟨hr.len, fun n b hn => BR.keep E rfl (fun _ _ _ _ h => ⟨h, rfl, fun _ h => h⟩) (fun _ _ _ => ⟨rfl, fun _ h => h⟩) (hr.blk n b hn), hr.inj, hr.old, hr.glob.evol E, hr.tlt, hr.one⟩, E⟩

/-- Names are reserved. -/
theorem padded {w : World} {S : Stb} {h : Hp} {β : Bet} (hr : HR w S h β) (m : Nat) : ∃ β', HR w S (h ++ List.replicate m .res) β' ∧ Evol w S h β w S (h ++ List.replicate m .res) β' := by
  have hlen := hr.len
  obtain ⟨β', hβ'⟩ : ∃ β', β' = β.take h.length ++ (List.replicate m none ++ β.drop h.length) := ⟨_, rfl⟩
  have htk : (β.take h.length).length = h.length := by rw [List.length_take]; omega
  have hold : ∀ (k : Nat), k < h.length → β'[k]? = β[k]? := fun k hk => by
    rw [hβ', List.getElem?_append_left (by omega), List.getElem?_take_of_lt hk]
  have hmid : ∀ (k : Nat), h.length ≤ k → k < h.length + m → β'[k]? = some none := fun k h1 h2 => by
    rw [hβ', List.getElem?_append_right (by omega), List.getElem?_append_left (by rw [List.length_replicate]; omega), List.getElem?_replicate, if_pos (by omega)]
  have htail : ∀ (k : Nat), h.length + m ≤ k → β'[k]? = β[k - m]? := fun k h1 => by
    rw [hβ', List.getElem?_append_right (by omega), List.getElem?_append_right (by rw [List.length_replicate]; omega), List.getElem?_drop, List.length_replicate]
    congr 1; omega
  have hcase : ∀ (k b p : Nat), β'[k]? = some (some (b, p)) → (k < h.length ∧ β[k]? = some (some (b, p))) ∨ (h.length + m ≤ k ∧ β[k - m]? = some (some (b, p))) := fun k b p hk => by
    by_cases h1 : k < h.length
    · exact .inl ⟨h1, by rw [← hold k h1]; exact hk⟩
    · by_cases h2 : k < h.length + m
      · rw [hmid k (by omega) h2] at hk; cases hk
      · exact .inr ⟨by omega, by rw [← htail k (by omega)]; exact hk⟩
  have htl : ∀ r, tl (h ++ List.replicate m .res) β' r = tl h β r := fun r => by
    unfold tl
    rw [List.length_append, List.length_replicate, htail _ (by omega)]
    congr 1; omega
  refine ⟨β', ?_⟩
  have E : Evol w S h β w S (h ++ List.replicate m .res) β' := by
    refine ⟨Out.refl _, Nat.le_refl _, fun _ _ _ => rfl, fun _ c _ _ hi => ⟨c, hi, rfl⟩, fun _ l hl => ⟨l, hl⟩, fun _ _ => rfl, fun _ _ h => h, fun _ _ h => .inl h, fun _ _ _ => rfl, ?_, by simp, ?_⟩
    · rintro b ⟨k, p, hk⟩
      rcases hcase k b p hk with ⟨_, h1⟩ | ⟨_, h1⟩
      · exact .inl ⟨_, p, h1⟩
      · exact .inl ⟨_, p, h1⟩
    · intro k b hk
      have hkl : k < h.length := (List.getElem?_eq_some_iff.1 hk).1
      exact ⟨b, by rw [List.getElem?_append_left hkl]; exact hk, by rw [hold k hkl]; exact BEv.refl _ _⟩
  refine ⟨⟨by rw [hβ']; simp only [List.length_append, List.length_replicate, htk, List.length_drop]; omega, fun k b hk => ?_, ?_, hr.old, hr.glob.evol E, fun r b p hb => by rw [htl] at hb; exact hr.tlt r b p hb, ?_⟩, E⟩
  · by_cases hkl : k < h.length
    · rw [List.getElem?_append_left hkl] at hk
      exact BR.keep E (hold k hkl) (fun _ r b p hb => ⟨by rw [htl]; exact hb, rfl, fun _ h => h⟩) (fun _ _ _ => ⟨rfl, fun _ h => h⟩) (hr.blk k b hk)
    · rw [List.getElem?_append_right (by omega), List.getElem?_replicate] at hk
      split at hk <;> simp at hk
      subst hk
      simp only [BR]
      exact hmid k (by omega) (by omega)
  · intro k1 k2 b p q h1 h2
    rcases hcase _ _ _ h1 with ⟨a1, a2⟩ | ⟨a1, a2⟩ <;> rcases hcase _ _ _ h2 with ⟨b1, b2⟩ | ⟨b1, b2⟩
    all_goals (have := hr.inj _ _ _ _ _ a2 b2; omega)
  · have key : ∀ {m' : Nat} {c : Blk}, (h ++ List.replicate m Blk.res)[m']? = some c → c.own = true → h[m']? = some c := fun {m' c} hm hc => by
      by_cases hkl : m' < h.length
      · rw [List.getElem?_append_left hkl] at hm; exact hm
      · rw [List.getElem?_append_right (by omega), List.getElem?_replicate] at hm
        split at hm <;> simp at hm
        subst hm; cases hc
    exact fun n1 n2 b c h1 h2 h3 h4 => hr.one _ _ _ _ (key h1 h3) (key h2 h4) h3 h4

theorem frozen_alloc_cells (w : World) (c : Array Value) (t : TypeId) (a : Addr) : (w.alloc (.cells c t)).frozen? a = w.frozen? a := by
  by_cases h : a.block = w.heap.size
  · have e1 : (w.alloc (.cells c t)).heap[a.block]? = some (.cells c t) := by rw [h]; exact heap_alloc_new w _
    have e2 : w.heap[a.block]? = none := by rw [h]; simp
    simp [World.frozen?, e1, e2]
  · exact World.frozen?_alloc_old _ _ _ h

theorem frozen_alloc_obj (w : World) (o : Obj) (ho : ∀ c t f, o ≠ .cells c t f) (a : Addr) : (w.alloc o).frozen? a = w.frozen? a := by
  by_cases h : a.block = w.heap.size
  · have e1 : (w.alloc o).heap[a.block]? = some o := by rw [h]; exact heap_alloc_new w _
    have e2 : w.heap[a.block]? = none := by rw [h]; simp
    unfold World.frozen?
    rw [e1, e2]
    cases o <;> first | rfl | exact absurd rfl (ho _ _ _)
  · exact World.frozen?_alloc_old _ _ _ h

theorem old_at (w : World) (o : Obj) (i : Nat) (hi : i < w.heap.size) : (w.alloc o).heap[i]? = w.heap[i]? := heap_alloc_old w o i hi
/-- A new block under a reserved name. -/
theorem alloced {w : World} {S : Stb} {h : Hp} {β : Bet} (hr : HR w S h β) {n : Nat} (hn : h[n]? = some .res) (o : Obj) (blk' : Blk) (base : Nat)
    (hfz : ∀ a, (w.alloc o).frozen? a = w.frozen? a)
    (hbr : Evol w S h β (w.alloc o) S (h.set n blk') (β.set n (some (w.heap.size, base))) → (∀ o, ¬ S w.heap.size o) → (β.set n (some (w.heap.size, base)))[n]? = some (some (w.heap.size, base)) →
      (w.alloc o).heap[w.heap.size]? = some o → BR (w.alloc o) S (h.set n blk') (β.set n (some (w.heap.size, base))) n blk') (hone : blk'.own = false := by rfl) :
    HR (w.alloc o) S (h.set n blk') (β.set n (some (w.heap.size, base))) ∧ Evol w S h β (w.alloc o) S (h.set n blk') (β.set n (some (w.heap.size, base))) := by
  have hnone : β[n]? = some none := by have := hr.blk n _ hn; simpa [BR] using this
  have hnb : n < β.length := (List.getElem?_eq_some_iff.1 hnone).1
  refine upd hr hn (some (w.heap.size, base)) (by simp) (fun i hi _ => heap_alloc_old w o i hi) (fun i p c e f hp => by rw [hnone] at hp; simp at hp) (fun i p l hp => by rw [hnone] at hp; simp at hp) hfz
    (fun i p o hp => by rw [hnone] at hp; simp at hp) (fun b p hb => .inr (by cases hb; exact Nat.le_refl _)) (by simp [BEv]) (fun E => hbr E (fun o ho => absurd (hr.old _ _ ho) (by omega)) (by simp [hnb]) (heap_alloc_new w o)) (hone := fun h => absurd (hone.symm.trans h) (by decide))

/-- The cells of a name's block are written. -/
theorem written {w : World} {S : Stb} {h : Hp} {β : Bet} (hr : HR w S h β) {n b base : Nat} {blk blk' : Blk} (hn : h[n]? = some blk) (hb : β[n]? = some (some (b, base))) {cells cells' : Array Value} {e : TypeId}
    (hw : w.heap[b]? = some (.cells cells e (0, 0))) (hsz : cells'.size = cells.size) (base' : Nat)
    (hS : ∀ o, S b o → cells'[o]? = cells[o]?) (hev : BEv blk (some (some (b, base))) blk' (some (some (b, base'))))
    (hbr : Evol w S h β (w.setRow b cells') S (h.set n blk') (β.set n (some (b, base'))) → (β.set n (some (b, base')))[n]? = some (some (b, base')) →
      (w.setRow b cells').heap[b]? = some (.cells cells' e (0, 0)) → BR (w.setRow b cells') S (h.set n blk') (β.set n (some (b, base'))) n blk') (hone : blk'.own = false := by rfl) :
    HR (w.setRow b cells') S (h.set n blk') (β.set n (some (b, base'))) ∧ Evol w S h β (w.setRow b cells') S (h.set n blk') (β.set n (some (b, base'))) := by
  have hnb : n < β.length := (List.getElem?_eq_some_iff.1 hb).1
  have hnew := setRow_heap w b cells cells' e (0, 0) hw
  refine upd hr hn (some (b, base')) (by simp) (fun i hi hne => setRow_other w b i _ (fun e => hne base (by rw [e]; exact hb))) (fun i p c e' f hp hi => ?_) (fun i p l hp hi => by rw [hb] at hp; simp at hp; obtain ⟨rfl, _⟩ := hp; rw [hw] at hi; simp at hi) (fun a => ?_) (fun i p o hp hs => ?_)
    (fun b' p hb' => .inl ⟨base, by cases hb'; exact hb⟩) (by rw [hb]; exact hev) (fun E => hbr E (by simp [hnb]) hnew) (hone := fun h => absurd (hone.symm.trans h) (by decide))
  · rw [hb] at hp; simp at hp; obtain ⟨rfl, _⟩ := hp
    rw [hw] at hi; simp at hi; obtain ⟨rfl, rfl, rfl⟩ := hi
    exact ⟨cells', hnew, hsz⟩
  · by_cases hab : a.block = b
    · unfold World.frozen?
      rw [hab, hnew, hw]
    · exact World.frozen?_of_block (setRow_other w b a.block _ hab)
  · rw [hb] at hp; simp at hp; obtain ⟨rfl, _⟩ := hp
    rw [cell_of_row _ b o cells' e (0, 0) hnew, cell_of_row _ b o cells e (0, 0) hw]
    exact hS o hs

theorem set_self {α : Type} {l : List α} {n : Nat} {x : α} (h : l[n]? = some x) : l.set n x = l := by
  apply List.ext_getElem?
  intro i
  by_cases hi : n = i
  · subst hi
    rw [List.getElem?_set_self (List.getElem?_eq_some_iff.1 h).1, h]
  · rw [List.getElem?_set_ne hi]

/-- Blocks written back under their names. -/
def setL : Hp → List Nat → List Blk → Hp
  | h, [], _ => h
  | h, n :: ns, bs => match bs with
    | [] => h
    | b :: bs => setL (h.set n b) ns bs

theorem setL_same : ∀ {ns : List Nat} {bs : List Blk} {h : Hp}, (∀ (i n : Nat) (b : Blk), ns[i]? = some n → bs[i]? = some b → h[n]? = some b) → setL h ns bs = h
  | [], bs, h, _ => by simp [setL]
  | n :: ns, [], h, _ => by simp [setL]
  | n :: ns, b :: bs, h, hh => by
    rw [setL, set_self (hh 0 n b rfl rfl)]
    exact setL_same fun i m c hi hc => hh (i + 1) m c hi hc

theorem setsK_iff : ∀ (ns : List Nat) (bs : List Blk) (h : Hp) (k : Hp → Prop), setsK h ns bs k → k (setL h ns bs)
  | [], bs, h, k, hk => by simpa [setsK, setL] using hk
  | n :: ns, [], h, k, hk => by simpa [setsK, setL] using hk
  | n :: ns, b :: bs, h, k, hk => by
    simp only [setsK] at hk
    have := (setK_iff.1 hk).2
    simpa [setL] using setsK_iff ns bs (h.set n b) k this

theorem getsK_iff : ∀ {ns : List Nat} {h : Hp} {k : List Blk → Prop}, getsK h ns k → ∃ bs, bs.length = ns.length ∧ (∀ (i n : Nat), ns[i]? = some n → h[n]? = bs[i]?) ∧ k bs
  | [], h, k, hk => ⟨[], rfl, fun i n hi => by simp at hi, hk⟩
  | n :: ns, h, k, hk => by
    simp only [getsK] at hk
    obtain ⟨b, hb, hk⟩ := nthK_iff.1 hk
    obtain ⟨bs, h1, h2, h3⟩ := getsK_iff hk
    refine ⟨b :: bs, by simp [h1], fun i m hi => ?_, h3⟩
    cases i with
    | zero => simp at hi; subst hi; simpa using hb
    | succ i => simpa using h2 i m (by simpa using hi)

end Go.PM
