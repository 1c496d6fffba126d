/-
  PM, part 19: states that say less. Temporaries forgotten, names dropped, rows that become data.
-/
import Derived.Test.YtbifaidepiejeaaPmWalk
set_option linter.unusedSectionVars false
namespace Go.PM
variable [Glob]
variable {P : Program}

theorem Wk.refl {N : Nat} {ts : Tm} {h : Hp} : Wk N ts h ts h := fun C a w S β hs => ⟨S, β, hs, Evol.refl _ _ _ _⟩

theorem Wk.trans {N : Nat} {ts ts1 ts2 : Tm} {h h1 h2 : Hp} (x : Wk N ts h ts1 h1) (y : Wk N ts1 h1 ts2 h2) : Wk N ts h ts2 h2 := fun C a w S β hs => by
  obtain ⟨S1, β1, s1, e1⟩ := x C a w S β hs
  obtain ⟨S2, β2, s2, e2⟩ := y C a w S1 β1 s1
  exact ⟨S2, β2, s2, e1.trans e2⟩

theorem AWP.weak {N : Nat} {c : Code} {ts ts' : Tm} {h h' : Hp} {k : Ex → Tm → Hp → Prop} (x : Wk N ts h ts' h') (hc : AWP P N c ts' h' k) : AWP P N c ts h k := fun n C a w S β hs => by
  obtain ⟨S1, β1, s1, e1⟩ := x C a w S β hs
  exact wpIn_mono (hc n C a w S1 β1 s1) fun e a2 w2 hp => hp.then e1

/-- Temporaries are forgotten. -/
theorem Wk.tmps {N : Nat} {ts ts' : Tm} {h : Hp} (hh : ∀ p ∈ ts', look ts p.1 = p.2) : Wk N ts h ts' h := fun C a w S β hs => by
  refine ⟨S, β, ⟨hs.hr, fun t => ?_, hs.size, hs.marks, hs.round, hs.base⟩, Evol.refl _ _ _ _⟩
  have key : ∀ l : Tm, (∀ p ∈ l, look ts p.1 = p.2) → look l t = .u ∨ look l t = look ts t := by
    intro l
    induction l with
    | nil => intro _; exact .inl rfl
    | cons p l ih =>
      intro hl
      obtain ⟨j, v⟩ := p
      simp only [look]
      cases hj : Nat.beq j t with
      | true =>
        have := hl (j, v) (.head _)
        rw [← Nat.eq_of_beq_eq_true hj]
        exact .inr this.symm
      | false => exact ih fun p hp => hl p (.tail _ hp)
  rcases key ts' hh with e | e
  · rw [e]; exact .u _
  · rw [e]; exact hs.tr t

/-! ### Names are dropped -/

/-- A value that names blocks below a bound alone. -/
def nm1 (n : Nat) : V → Bool
  | .ptr m _ _ _ => Nat.blt m n
  | .sref m _ _ _ _ => Nat.blt m n
  | .yld m => Nat.blt m n
  | .map m => Nat.blt m n
  | .agg _ => false
  | .tup _ => false
  | .fn _ cap => match cap with
    | [] => true
    | _ => false
  | _ => true

def nmV (n : Nat) : V → Bool
  | .agg cs => cs.all (nm1 n)
  | .tup cs => cs.all (nm1 n)
  | .fn _ cap => cap.all (nm1 n)
  | v => nm1 n v

def nmBlk (n : Nat) : Blk → Bool
  | .var cs => cs.all (nmV n)
  | .loop _ _ _ ts _ _ _ => ts.all fun p => nmV n p.2
  | .mapo _ _ _ _ lent => match lent with
    | some (_, v, _) => nm1 n v
    | none => true
  | _ => true

theorem blt_lt {m n : Nat} (h : Nat.blt m n = true) : m < n := Nat.le_of_ble_eq_true h

/-- The blocks of the names below n, and the owned ones. -/
def cutB (h : Hp) (β : Bet) (n : Nat) : Bet := β.take (min n h.length) ++ β.drop h.length

theorem take_get {α : Type} {l : List α} {n m : Nat} (h : m < n) : (l.take n)[m]? = l[m]? := List.getElem?_take_of_lt h

theorem cutB_get {h : Hp} {β : Bet} {n m : Nat} (h1 : m < n) (h2 : m < h.length) : (cutB h β n)[m]? = β[m]? := by
  unfold cutB
  by_cases hl : h.length ≤ β.length
  · rw [List.getElem?_append_left (by rw [List.length_take]; omega), List.getElem?_take_of_lt (by omega)]
  · rw [List.drop_eq_nil_of_le (by omega), List.append_nil, List.getElem?_take_of_lt (by omega)]
theorem cutB_tl {h : Hp} {β : Bet} {n : Nat} (hl : h.length ≤ β.length) (r : Nat) : tl (h.take n) (cutB h β n) r = tl h β r := by
  unfold tl cutB
  rw [List.getElem?_append_right (by simp only [List.length_take]; omega), List.getElem?_drop]
  congr 1
  simp only [List.length_take]; omega
theorem cutB_case {h : Hp} {β : Bet} {n m b p : Nat} (hl : h.length ≤ β.length) (hm : (cutB h β n)[m]? = some (some (b, p))) : ∃ m', β[m']? = some (some (b, p)) ∧ ((m < min n h.length ∧ m' = m) ∨ (min n h.length ≤ m ∧ m' = m - min n h.length + h.length)) := by
  by_cases h1 : m < min n h.length
  · rw [cutB_get (by omega) (by omega)] at hm
    exact ⟨m, hm, .inl ⟨h1, rfl⟩⟩
  · unfold cutB at hm
    rw [List.getElem?_append_right (by rw [List.length_take]; omega), List.getElem?_drop, List.length_take] at hm
    refine ⟨_, hm, .inr ⟨by omega, by omega⟩⟩
theorem got {α : Type} {l : List α} {n : Nat} {x : α} (h : l[n]? = some x) : n < l.length := (List.getElem?_eq_some_iff.1 h).1

theorem VR.drop1 {w : World} {S : Stb} {h : Hp} {β : Bet} {n : Nat} {x : V} {v : Value} (hx : VR w S h β x v) (hb : nm1 n x = true) : VR w S (h.take n) (cutB h β n) x v := by
  cases hx with
  | u => exact .u _
  | d h => exact .d h
  | agg => cases hb
  | tup => cases hb
  | @ptr m _ _ _ _ h1 h2 =>
    have hl := blt_lt hb
    refine .ptr h1 ?_
    unfold PR at h2 ⊢
    rw [take_get hl]
    by_cases hm : m < h.length
    · rw [cutB_get hl hm]; exact h2
    · rw [List.getElem?_eq_none (by omega)] at h2; exact h2.elim
  | rp cs o b off uf h1 h2 => exact .rp cs o b off uf h1 h2
  | @sref m _ _ _ _ _ h1 h2 =>
    have hl := blt_lt hb
    refine .sref h1 ?_
    unfold SR at h2 ⊢
    rw [take_get hl]
    by_cases hm : m < h.length
    · rw [cutB_get hl hm]; exact h2
    · obtain ⟨a, cap, _, _, _, h2⟩ := h2
      rw [List.getElem?_eq_none (by omega)] at h2; exact h2.elim
  | fn f cap arr h1 h2 =>
    cases cap with
    | nil => exact .fn f [] arr h1 (by simp)
    | cons => cases hb
  | @yld m _ h1 h2 =>
    have hl := blt_lt hb
    by_cases hm : m < h.length
    · exact .yld (by rw [take_get hl]; exact h1) (by rw [take_get hl, cutB_get hl hm]; exact h2)
    · rw [List.getElem?_eq_none (by omega)] at h1; exact h1.elim
  | @map m _ h1 h2 =>
    have hl := blt_lt hb
    by_cases hm : m < h.length
    · exact .map (by rw [take_get hl]; exact h1) (by rw [take_get hl, cutB_get hl hm]; exact h2)
    · rw [List.getElem?_eq_none (by omega)] at h1; exact h1.elim

theorem VR.drop {w : World} {S : Stb} {h : Hp} {β : Bet} {n : Nat} {x : V} {v : Value} (hx : VR w S h β x v) (hb : nmV n x = true) : VR w S (h.take n) (cutB h β n) x v := by
  have all : ∀ {cs : List V} {j : Nat} {c : V}, cs.all (nm1 n) = true → cs[j]? = some c → nm1 n c = true := fun h hj => List.all_eq_true.1 h _ (List.mem_of_getElem? hj)
  cases hx with
  | agg cs arr h1 h2 h3 => exact .agg cs arr h1 h2 fun j c u hc hu => (h3 j c u hc hu).drop1 (all hb hc)
  | tup cs arr h1 h2 => exact .tup cs arr h1 fun j c u hc hu => (h2 j c u hc hu).drop1 (all hb hc)
  | fn f cap arr h1 h2 => exact .fn f cap arr h1 fun j c u hc hu => (h2 j c u hc hu).drop1 (all hb hc)
  | u => exact .u _
  | d h => exact .d h
  | ptr h1 h2 => exact (VR.ptr h1 h2).drop1 hb
  | rp cs o b off uf h1 h2 => exact .rp cs o b off uf h1 h2
  | sref h1 h2 => exact (VR.sref h1 h2).drop1 hb
  | yld h1 h2 => exact (VR.yld h1 h2).drop1 hb
  | map h1 h2 => exact (VR.map h1 h2).drop1 hb

theorem TR.drop {w : World} {S : Stb} {h : Hp} {β : Bet} {n : Nat} {ts : Tm} {tmps : Array Value} (hx : TR w S h β ts tmps) (hb : ts.all (fun p => nmV n p.2) = true) : TR w S (h.take n) (cutB h β n) ts tmps := fun t => by
  refine (hx t).drop ?_
  have key : ∀ l : Tm, l.all (fun p => nmV n p.2) = true → nmV n (look l t) = true := by
    intro l
    induction l with
    | nil => intro _; rfl
    | cons p l ih =>
      intro hl
      obtain ⟨j, v⟩ := p
      simp only [List.all_cons, Bool.and_eq_true] at hl
      simp only [look]
      cases Nat.beq j t with
      | true => exact hl.1
      | false => exact ih hl.2
  exact key ts hb

theorem BR.drop {w : World} {S : Stb} {h : Hp} {β : Bet} {n m : Nat} (hm : m < n) (hmh : m < h.length) (hlen : h.length ≤ β.length) {b : Blk} (hx : BR w S h β m b) (hb : nmBlk n b = true) : BR w S (h.take n) (cutB h β n) m b := by
  cases b with
  | res => simp only [BR] at hx ⊢; rw [cutB_get hm hmh]; exact hx
  | gone => simp only [BR] at hx ⊢; rw [cutB_get hm hmh]; exact hx
  | var cs =>
    obtain ⟨b, c, e, h1, h2, h3, h4, h5⟩ := hx
    exact ⟨b, c, e, by rw [cutB_get hm hmh]; exact h1, h2, h3, fun j x u hj hu => ⟨(h4 j x u hj hu).1, (h4 j x u hj hu).2.drop (List.all_eq_true.1 hb _ (List.mem_of_getElem? hj))⟩, h5⟩
  | vard cs =>
    obtain ⟨b, c, e, h1, h2⟩ := hx
    exact ⟨b, c, e, by rw [cutB_get hm hmh]; exact h1, h2⟩
  | row ver sz ro xs =>
    obtain ⟨h0, h1, h2⟩ := hx
    refine ⟨h0, h1, ?_⟩
    rcases h2 with ⟨h2, h3⟩ | ⟨b, base, c, e, h2, h3⟩
    · exact .inl ⟨h2, by rw [cutB_get hm hmh]; exact h3⟩
    · exact .inr ⟨b, base, c, e, by rw [cutB_get hm hmh]; exact h2, h3⟩
  | map T kt es =>
    obtain ⟨b, c, e, h1, h2⟩ := hx
    exact ⟨b, c, e, by rw [cutB_get hm hmh]; exact h1, h2⟩
  | mapn T kt =>
    obtain ⟨b, h1, h2⟩ := hx
    exact ⟨b, by rw [cutB_get hm hmh]; exact h1, h2⟩
  | mapo T kt sz es l =>
    obtain ⟨h0, b, c, h1, h2, h3, hborn, ⟨q, h4, hq⟩, h5, h6⟩ := hx
    refine ⟨h0, b, c, by rw [cutB_get hm hmh]; exact h1, h2, h3, hborn, ⟨q, fun j p mm hj hu => ?_, hq⟩, h5, h6⟩
    obtain ⟨a1, a2, a3⟩ := h4 j p mm hj hu
    refine ⟨a1, a2, ?_⟩
    obtain ⟨key, x⟩ := p
    cases x with
    | none =>
      obtain ⟨v, v1, v2⟩ := a3
      subst v1
      exact ⟨v, rfl, v2.drop1 hb⟩
    | some xs =>
      obtain ⟨b2, base, cells, elem, cap, g1, g2⟩ := a3
      exact ⟨b2, base, cells, elem, cap, by rw [cutB_tl hlen]; exact g1, g2⟩
  | miter T kt l c =>
    obtain ⟨r, mb, q, mes, since, seen, last, clock, h1, h2, h3, h4⟩ := hx
    exact ⟨r, mb, q, mes, since, seen, last, clock, by rw [cutB_get hm hmh]; exact h1, h2, by rw [cutB_tl hlen]; exact h3, h4⟩
  | loop st pend N ts ps as body =>
    obtain ⟨b, l, h1, h2, h3, h4, h5, h6, h7, h8, h9⟩ := hx
    exact ⟨b, l, by rw [cutB_get hm hmh]; exact h1, h2, h3, h4, h5, h6, h7, h8.drop hb, h9⟩

/-- Names from n on are dropped: of the heap. -/
theorem HR.drop {w : World} {S : Stb} {h : Hp} {β : Bet} (hr : HR w S h β) {n : Nat} (hb : (h.take n).all (nmBlk n) = true) : HR w S (h.take n) (cutB h β n) where
  len := by have := hr.len; unfold cutB; simp only [List.length_take, List.length_append, List.length_drop]; omega
  blk := fun m b hm => by
    have hmn : m < n := by
      have := (List.getElem?_eq_some_iff.1 hm).1
      simp at this; omega
    have hbb := List.all_eq_true.1 hb _ (List.mem_of_getElem? hm)
    rw [take_get hmn] at hm
    exact (hr.blk m b hm).drop hmn (got hm) hr.len hbb
  inj := fun m1 m2 b p q h1 h2 => by
    obtain ⟨k1, e1, c1⟩ := cutB_case hr.len h1
    obtain ⟨k2, e2, c2⟩ := cutB_case hr.len h2
    have := hr.inj _ _ _ _ _ e1 e2
    omega
  old := hr.old
  glob := hr.glob
  tlt := fun r b p hb => by rw [cutB_tl hr.len] at hb; exact hr.tlt r b p hb
  one := fun n1 n2 b c h1 h2 => by
    have key : ∀ {m : Nat} {b : Blk}, (h.take n)[m]? = some b → h[m]? = some b := fun {m b} hm => by
      have hmn : m < n := by
        have := (List.getElem?_eq_some_iff.1 hm).1
        simp at this; omega
      rwa [take_get hmn] at hm
    exact hr.one n1 n2 b c (key h1) (key h2)

/-- The evolution up to a state whose new names are dropped. -/
theorem Evol.drop {w w' : World} {S S' : Stb} {h h' : Hp} {β β' : Bet} (E : Evol w S h β w' S' h' β') {n : Nat} (hn : h.length ≤ n) (hl : h'.length ≤ β'.length) : Evol w S h β w' S' (h'.take n) (cutB h' β' n) where
  outer := E.outer
  size := E.size
  frame := E.frame
  shape := E.shape
  loops := E.loops
  froz := E.froz
  sub := E.sub
  new := E.new
  cell := E.cell
  imgs := fun b hb => by
    obtain ⟨m, p, hm⟩ := hb
    obtain ⟨m', e, _⟩ := cutB_case hl hm
    exact E.imgs b ⟨m', p, e⟩
  len := by have := E.len; simp; omega
  blk := fun m b hm => by
    obtain ⟨b', h1, h2⟩ := E.blk m b hm
    have hmn : m < n := by
      have := (List.getElem?_eq_some_iff.1 hm).1; omega
    exact ⟨b', by rw [take_get hmn]; exact h1, by rw [cutB_get hmn (got h1)]; exact h2⟩

theorem Marks.drop {B : Nat} {w : World} {h : Hp} {β : Bet} {ds : List Deferred} (hl : h.length ≤ β.length) (hm : Marks B w β ds) (n : Nat) : Marks B w (cutB h β n) ds := by
  refine ⟨hm.1, fun d hd => ?_⟩
  obtain ⟨r, h1, h2, h3, h4⟩ := hm.2 d hd
  refine ⟨r, h1, h2, h3, fun ⟨m, p, hp⟩ => ?_⟩
  obtain ⟨m', e, _⟩ := cutB_case hl hp
  exact h4 ⟨m', p, e⟩

/-- From a run's end that began with m names: a state that says less. -/
def Wm (N m : Nat) (ts : Tm) (h : Hp) (ts' : Tm) (h' : Hp) : Prop :=
  ∀ (C : Cx) (a : Act) (w0 w : World) (S0 S : Stb) (h0 : Hp) (β0 β : Bet), h0.length = m → St N C a w S ts h β → Evol w0 S0 h0 β0 w S h β → ∃ S' β', St N C a w S' ts' h' β' ∧ Evol w0 S0 h0 β0 w S' h' β'

theorem Wk.wm {N m : Nat} {ts ts' : Tm} {h h' : Hp} (x : Wk N ts h ts' h') : Wm N m ts h ts' h' := fun C a w0 w S0 S h0 β0 β _ hs hE => by
  obtain ⟨S', β', s1, e1⟩ := x C a w S β hs
  exact ⟨S', β', s1, hE.trans e1⟩

theorem Wm.trans {N m : Nat} {ts ts1 ts2 : Tm} {h h1 h2 : Hp} (x : Wm N m ts h ts1 h1) (y : Wm N m ts1 h1 ts2 h2) : Wm N m ts h ts2 h2 := fun C a w0 w S0 S h0 β0 β hl hs hE => by
  obtain ⟨S1, β1, s1, e1⟩ := x C a w0 w S0 S h0 β0 β hl hs hE
  exact y C a w0 w S0 S1 h0 β0 β1 hl s1 e1

/-- Names from n on are dropped. -/
theorem Wm.drop {N m n : Nat} {ts : Tm} {h : Hp} (hn : m ≤ n) (h1 : ts.all (fun p => nmV n p.2) = true) (h2 : (h.take n).all (nmBlk n) = true) : Wm N m ts h ts (h.take n) := fun C a w0 w S0 S h0 β0 β hl hs hE =>
  ⟨S, cutB h β n, ⟨hs.hr.drop h2, hs.tr.drop h1, hs.size, hs.marks.drop hs.hr.len n, hs.round, hs.base⟩, hE.drop (by omega) hs.hr.len⟩

theorem Post.weak {N : Nat} {C : Cx} {w : World} {S : Stb} {h : Hp} {β : Bet} {k k' : Tm → Hp → Prop} {a' : Act} {w' : World} (hp : Post N C w S h β k a' w') (hk : ∀ ts' h', k ts' h' → ∃ ts2 h2, Wm N h.length ts' h' ts2 h2 ∧ k' ts2 h2) : Post N C w S h β k' a' w' := by
  obtain ⟨t1, t2, t3, t4, t5, t6, t7⟩ := hp
  obtain ⟨ts2, h2, x, y⟩ := hk _ _ t5
  obtain ⟨S', β', s1, e1⟩ := x C a' w w' S t3 h β t4 rfl t6 t7
  exact ⟨ts2, h2, S', β', y, s1, e1⟩

theorem AWP.post {N : Nat} {c : Code} {ts : Tm} {h : Hp} {k k' : Ex → Tm → Hp → Prop} (hc : AWP P N c ts h k) (hk : ∀ e ts' h', k e ts' h' → ∃ ts2 h2, Wm N h.length ts' h' ts2 h2 ∧ k' e ts2 h2) : AWP P N c ts h k' :=
  fun n C a w S β hs => wpIn_mono (hc n C a w S β hs) fun _ _ _ ⟨x, e, hp⟩ => ⟨x, e, hp.weak (hk x)⟩

/-- A loop's body is about to run. -/
def LP (P : Program) (N : Nat) (c : Code) (ts : Tm) (h : Hp) (k : Ex → Tm → Hp → Prop) : Prop :=
  ∀ (n : Nat) (C : Cx) (a : Act) (w : World) (S : Stb) (β : Bet), St N C a w S ts h β →
    ∀ (b : Frame) (kk : List Item) (cs : List Frame), b.roundOf = (FF C.ro).round → (FF C.ro).fn b.fn → (FF C.ro).room (cs.length + 1 + n) →
      ∃ e a' w', PostE N C w S h β k e a' w' ∧ ArrivesIn (Machine.fenced P (FF C.ro)) P (lone (b.atR a (.code c :: .inLoop c :: kk)) cs w) b kk cs e a' w'

theorem AWP.of_LP {N : Nat} {c : Code} {ts : Tm} {h : Hp} {k : Ex → Tm → Hp → Prop} (hl : LP P N c ts h k) : AWP P N (.loop c) ts h k := by
  intro n C a w S β hs b kk cs hro hb hr
  obtain ⟨e, a', w', hq, harr⟩ := hl n C a w S β hs b kk cs hro hb hr
  exact ⟨e, a', w', hq, .of_steps (.one (fenced_calm hb hr rfl) stepR_loop) harr⟩

theorem LP.weak {N : Nat} {c : Code} {ts ts' : Tm} {h h' : Hp} {k : Ex → Tm → Hp → Prop} (x : Wk N ts h ts' h') (hl : LP P N c ts' h' k) : LP P N c ts h k := by
  intro n C a w S β hs b kk cs hro hb hr
  obtain ⟨S1, β1, s1, e1⟩ := x C a w S β hs
  obtain ⟨e, a', w', hq, harr⟩ := hl n C a w S1 β1 s1 b kk cs hro hb hr
  exact ⟨e, a', w', hq.then e1, harr⟩

/-- One round ahead of the others. -/
theorem LP.peel {N : Nat} {c : Code} {ts : Tm} {h : Hp} {k : Ex → Tm → Hp → Prop} (round : AWP P N c ts h fun e ts1 h1 => match e with
      | .normal => LP P N c ts1 h1 k
      | e => k e ts1 h1) : LP P N c ts h k := by
  intro n C a w S β hs b kk cs hro hb hr
  obtain ⟨e, a₁, w₁, hq, harr⟩ := round n C a w S β hs b (.inLoop c :: kk) cs hro hb hr
  obtain ⟨ex, rfl, t1, t2, t3, t4, t5, t6, t7⟩ := hq
  cases ex with
  | normal =>
    obtain ⟨e₂, a₂, w₂, hq₂, harr₂⟩ := t5 n C a₁ w₁ t3 t4 t6 b kk cs hro hb hr
    exact ⟨e₂, a₂, w₂, hq₂.then t7, .of_steps (StepsIn.trans harr (.one (fenced_calm hb hr rfl) stepR_inLoop)) harr₂⟩
  | exit id => exact ⟨_, a₁, w₁, ⟨.exit id, rfl, t1, t2, t3, t4, t5, t6, t7⟩, .pass (x := .inLoop c) rfl (fun _ _ => .inl (by simp [exitOf])) harr⟩
  | ret => exact ⟨_, a₁, w₁, ⟨.ret, rfl, t1, t2, t3, t4, t5, t6, t7⟩, .pass (x := .inLoop c) rfl (fun _ _ => .inl (by simp [exitOf])) harr⟩

/-- **The loop rule.** A family of states, and a measure that falls. -/
theorem LP.loop {N : Nat} {c : Code} {k : Ex → Tm → Hp → Prop} {X : Type} (tsx : X → Tm) (hx : X → Hp) (Inv : X → Prop) (μ : X → Nat) (x0 : X) (h0 : Inv x0)
    (round : ∀ x, Inv x → AWP P N c (tsx x) (hx x) fun e ts h => match e with
      | .normal => ∃ y, Wm N (hx x0).length ts h (tsx y) (hx y) ∧ Inv y ∧ μ y < μ x
      | e => k e ts h) : LP P N c (tsx x0) (hx x0) k := by
  intro n C a w S β hs
  intro b kk cs hro hb hr
  have key : ∀ (j : Nat) (x : X) (a' : Act) (w' : World) (S' : Stb) (β' : Bet), μ x = j → Inv x → St N C a' w' S' (tsx x) (hx x) β' → Evol w S (hx x0) β w' S' (hx x) β' →
      ∃ e a2 w2, PostE N C w S (hx x0) β k e a2 w2 ∧ ArrivesIn (Machine.fenced P (FF C.ro)) P (lone (b.atR a' (.code c :: .inLoop c :: kk)) cs w') b kk cs e a2 w2 := by
    intro j
    induction j using Nat.strongRecOn with
    | _ j ih =>
      intro x a' w' S' β' hj hI hs' hE
      obtain ⟨e, a₁, w₁, hq, harr⟩ := round x hI n C a' w' S' β' hs' b (.inLoop c :: kk) cs hro hb hr
      obtain ⟨ex, rfl, t1, t2, t3, t4, t5, t6, t7⟩ := hq
      cases ex with
      | normal =>
        obtain ⟨y, hw, hy, hlt⟩ := t5
        obtain ⟨S2, β2, s2, e2⟩ := hw C a₁ w w₁ S t3 (hx x0) β t4 rfl t6 (hE.trans t7)
        obtain ⟨e₂, a₂, w₂, hq₂, harr₂⟩ := ih (μ y) (hj ▸ hlt) y a₁ w₁ S2 β2 rfl hy s2 e2
        exact ⟨e₂, a₂, w₂, hq₂, .of_steps (StepsIn.trans harr (.one (fenced_calm hb hr rfl) stepR_inLoop)) harr₂⟩
      | exit id => exact ⟨_, a₁, w₁, ⟨.exit id, rfl, t1, t2, t3, t4, t5, t6, hE.trans t7⟩, .pass (x := .inLoop c) rfl (fun _ _ => .inl (by simp [exitOf])) harr⟩
      | ret => exact ⟨_, a₁, w₁, ⟨.ret, rfl, t1, t2, t3, t4, t5, t6, hE.trans t7⟩, .pass (x := .inLoop c) rfl (fun _ _ => .inl (by simp [exitOf])) harr⟩
  obtain ⟨e, a', w', hq, harr⟩ := key _ x0 a w S β rfl h0 hs (Evol.refl _ _ _ _)
  exact ⟨e, a', w', hq, harr⟩

theorem AWP.loop {N : Nat} {c : Code} {k : Ex → Tm → Hp → Prop} {X : Type} (tsx : X → Tm) (hx : X → Hp) (Inv : X → Prop) (μ : X → Nat) (x0 : X) (h0 : Inv x0)
    (round : ∀ x, Inv x → AWP P N c (tsx x) (hx x) fun e ts h => match e with
      | .normal => ∃ y, Wm N (hx x0).length ts h (tsx y) (hx y) ∧ Inv y ∧ μ y < μ x
      | e => k e ts h) : AWP P N (.loop c) (tsx x0) (hx x0) k := .of_LP (LP.loop tsx hx Inv μ x0 h0 round)

end Go.PM
