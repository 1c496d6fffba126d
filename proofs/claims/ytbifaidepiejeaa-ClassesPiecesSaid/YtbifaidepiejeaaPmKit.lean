/-
  PM, part 24: what walks are made with.
-/
import Derived.Test.YtbifaidepiejeaaPmEnv
set_option linter.unusedSectionVars false
namespace Go.PM
variable [Glob]
variable {P : Program}

abbrev I (n : Int) : D := .i .i64 n
abbrev B (x : Bool) : D := .b x

theorem wrap_nat (i : Nat) (h : i < 9223372036854775807) : IntKind.i64.wrap ((i : Int) + 1) = ((i + 1 : Nat) : Int) := by
  rw [wrap_id (by omega)]; omega

theorem drop_get {α : Type} {l : List α} {i : Nat} (h : i < l.length) : ∃ x, l[i]? = some x ∧ l.drop i = x :: l.drop (i + 1) :=
  ⟨l[i], List.getElem?_eq_getElem h, List.drop_eq_getElem_cons h⟩
theorem map_get {α β : Type} {f : α → β} {l : List α} {i : Nat} {x : α} (h : l[i]? = some x) : (l.map f)[((i : Nat) : Int).toNat]? = some (f x) := by simp [h]

/-- Temporaries with some overridden. -/
def over (ov ts : Tm) : Tm := ov ++ ts.filter fun p => !(ov.any fun q => Nat.beq p.1 q.1)
/-- A heap with some blocks overridden. -/
def hset : Hp → List (Nat × Blk) → Hp
  | h, [] => h
  | h, p :: r => hset (h.set p.1 p.2) r

/-- The loop rule, the state given by what changes. -/
theorem ALoop.at {E : Env} (hE : E.Ok P) {c : Code} {ts : Tm} {h : Hp} {k : Ex → Tm → Hp → Prop} {X : Type} (tv : X → Tm) (hv : X → List (Nat × Blk)) (Inv : X → Prop) (μ : X → Nat) (x0 : X) (ht : SameT ts (over (tv x0) ts)) (hh : h = hset h (hv x0)) (h0 : Inv x0)
    (round : ∀ x, Inv x → exCode E c (over (tv x) ts) (hset h (hv x)) fun e ts' h' => match e with
      | .normal => ∃ y, Wm E.N h.length ts' h' (over (tv y) ts) (hset h (hv y)) ∧ Inv y ∧ μ y < μ x
      | e => k e ts' h') : ALoop P E.N c ts h k := by
  refine ALoop.of hE (X := X) (fun x => over (tv x) ts) (fun x => hset h (hv x)) Inv μ x0 ht hh h0 fun x hi => ?_
  have := round x hi
  rw [← hh]
  exact this

theorem Prep.skip {N : Nat} {ts : Tm} {h : Hp} {k : Tm → Hp → Prop} (hk : k ts h) : Prep (Wk N) ts h k := Prep.mk ts h Wk.refl hk

/-- A round's end. -/
theorem Wm.end {N m : Nat} {ts ts' : Tm} {h h' : Hp} (ht : SameT ts ts') (hh : h.take m = h') (h1 : ts'.all (fun p => nmV m p.2) = true) (h2 : h'.all (nmBlk m) = true) : Wm N m ts h ts' h' :=
  Wm.fin m (Nat.le_refl _) ht hh h1 h2

/-- A named truth value, as a decision. -/
theorem Nam.dec {x : Bool} {p : Prop} [Decidable p] {K : Bool → Prop} (e : x = decide p) (a : p → K true) (b : ¬p → K false) : Nam x K := by
  refine Nam.mk rfl ?_
  rw [e]
  by_cases h : p
  · rw [decide_eq_true h]; exact a h
  · rw [decide_eq_false h]; exact b h

/-- A call that answers a truth value: both ways. -/
theorem ACall.ofB {f : FuncId} {args : List V} {h : Hp} {k : V → Hp → Prop} {x : Bool} (hc : CallP P f args (retD [.b x])) (a : x = true → k (.d (.b true)) h) (b : x = false → k (.d (.b false)) h) : ACall P f args h k := by
  refine ACall.of hc ?_
  cases x
  · exact b rfl
  · exact a rfl
theorem APCall.ofB {f : FuncId} {args : List V} {h : Hp} {k : Res → Prop} {x : Bool} (hc : CallP P f args (retD [.b x])) (a : x = true → k (.d (.d (.b true)))) (b : x = false → k (.d (.d (.b false)))) : APCall P f args h k := by
  refine APCall.of hc ?_
  cases x
  · exact b rfl
  · exact a rfl

/-- A branch on a decided proposition. -/
theorem br_dec {x : Bool} {p : Prop} [Decidable p] {A B : Prop} (e : x = decide p) (a : p → A) (b : ¬p → B) : brN x.toNat A B := by
  subst e
  exact br_mk (fun h => a (of_decide_eq_true h)) fun h => b (of_decide_eq_false h)
theorem br_eq {x y : Int} {A B : Prop} (a : x = y → A) (b : x ≠ y → B) : brN (x == y).toNat A B := br_dec (p := x = y) (by rw [Bool.eq_iff_iff]; simp) a b
theorem br_ne {x y : Int} {A B : Prop} (a : x ≠ y → A) (b : x = y → B) : brN (x != y).toNat A B := br_mk (fun h => a (by simpa using h)) fun h => b (by simpa using h)

theorem br_not {x : Bool} {A B : Prop} (h : x = !true) (a : B) : brN x.toNat A B := br_f (by simpa using h) a

/-- Canonical data. -/
abbrev SL (sz : Nat) (xs : List D) : D := .sl sz false xs

/-- A call by a contract whose arguments say less. -/
theorem ACall.le {f : FuncId} {args args' : List V} {h : Hp} {k : V → Hp → Prop} {v : V} (hle : VLes args args') (hc : CallP P f args' v) (hk : k v h) : ACall P f args h k := .of (hc.le hle) hk
theorem ACall.leB {f : FuncId} {args args' : List V} {h : Hp} {k : V → Hp → Prop} {x : Bool} (hle : VLes args args') (hc : CallP P f args' (retD [.b x])) (a : x = true → k (.d (.b true)) h) (b : x = false → k (.d (.b false)) h) : ACall P f args h k := .ofB (hc.le hle) a b
theorem APCall.le {f : FuncId} {args args' : List V} {h : Hp} {k : Res → Prop} {v : V} (hle : VLes args args') (hc : CallP P f args' v) (hk : k (.d v)) : APCall P f args h k := .of (hc.le hle) hk
theorem APCall.leB {f : FuncId} {args args' : List V} {h : Hp} {k : Res → Prop} {x : Bool} (hle : VLes args args') (hc : CallP P f args' (retD [.b x])) (a : x = true → k (.d (.d (.b true)))) (b : x = false → k (.d (.d (.b false)))) : APCall P f args h k := .ofB (hc.le hle) a b
theorem VLe.refl (v : V) : VLe v v := by
  cases v with
  | d x => exact DLe.refl x
  | tup xs =>
    show VLe.VLesT xs xs
    induction xs with
    | nil => rfl
    | cons x xs ih =>
      refine ⟨?_, ih⟩
      cases x <;> first | exact DLe.refl _ | rfl
  | _ => rfl
theorem VLe.d {x y : D} (h : DLe x y) : VLe (.d x) (.d y) := h
/-- Both answers of a slice held against nil. -/
theorem NilQ.both {p : Prop} {K : Bool → Prop} (a : p → K true) (b : K false) : NilQ p K := ⟨⟨a, b⟩⟩

/-- A truth value at a walk's end. -/
theorem leafB {x y : Bool} (h : x = y) : VLe (outD (.d (.b x)) [.b x]) (retD [.b y]) := by subst h; exact VLe.refl _
theorem leafT {p : Prop} [Decidable p] (h : p) : VLe (outD (.d (.b true)) [.b true]) (retD [.b (decide p)]) := leafB (decide_eq_true h).symm
theorem leafF {p : Prop} [Decidable p] (h : ¬p) : VLe (outD (.d (.b false)) [.b false]) (retD [.b (decide p)]) := leafB (decide_eq_false h).symm

/-- The first place, from i on, at which p holds; -1: nowhere. -/
def idxFrom {α : Type} (p : α → Prop) [DecidablePred p] : List α → Nat → Int
  | [], _ => -1
  | x :: r, i => if p x then (i : Int) else idxFrom p r (i + 1)
def idxM {α : Type} (p : α → Prop) [DecidablePred p] (l : List α) : Int := idxFrom p l 0
theorem idxFrom_nonneg {α : Type} {p : α → Prop} [DecidablePred p] : ∀ (l : List α) (i : Nat), 0 ≤ idxFrom p l i ↔ ∃ x ∈ l, p x
  | [], i => by simp [idxFrom]
  | x :: r, i => by
    simp only [idxFrom]
    by_cases h : p x
    · simp [h]
    · simp [h, idxFrom_nonneg r (i + 1)]
theorem idxM_nonneg {α : Type} {p : α → Prop} [DecidablePred p] (l : List α) : 0 ≤ idxM p l ↔ ∃ x ∈ l, p x := idxFrom_nonneg l 0

/-- A nil slice in a temporary becomes a slice over a row of no elements. -/
theorem Wk.virtT {N : Nat} {ts : Tm} {h : Hp} {t a sz : Nat} (ro : Bool) (hsz : 0 < sz) (ht : look ts t = .d (.sl a true [])) : Wk N ts h ((t, .sref h.length 0 0 0 false) :: ts) (h ++ [.row 0 sz ro []]) := fun C act w S β hs => by
  obtain ⟨β0, r1, e1⟩ := padded hs.hr 1
  have hres : (h ++ List.replicate 1 Blk.res)[h.length]? = some .res := by simp
  have hnone : β0[h.length]? = some none := by have := r1.blk _ _ hres; simpa [BR] using this
  have hset : (h ++ List.replicate 1 Blk.res).set h.length (.row 0 sz ro []) = h ++ [.row 0 sz ro []] := by simp
  have hv := hs.tr t
  rw [ht] at hv
  obtain ⟨ad, had⟩ : ∃ ad, act.tmps.getD t undef = .slice ad 0 0 := by
    generalize act.tmps.getD t undef = cv at hv
    cases hv with
    | d hd => cases hd with
      | sl _ _ _ ad cap b off uf h1 h2 => exact ⟨ad, by rw [h2 rfl]; rfl⟩
  obtain ⟨r2, e2, v2⟩ := virtual_row r1 hres hnone 0 sz ro hsz trivial ad
  rw [hset] at r2 e2 v2
  have h0 := hs.evol (e1.trans e2) r2
  refine ⟨S, β0, ⟨r2, fun t' => ?_, h0.size, h0.marks, h0.round, h0.base⟩, e1.trans e2⟩
  simp only [look]
  cases hb : Nat.beq t t' with
  | true =>
    have := Nat.eq_of_beq_eq_true hb
    subst this
    rw [had]; exact v2
  | false => exact h0.tr t'

theorem ALoop.weak {N : Nat} {c : Code} {ts ts' : Tm} {h h' : Hp} {k : Ex → Tm → Hp → Prop} (hw : Wk N ts h ts' h') (hl : ALoop P N c ts' h' k) : ALoop P N c ts h k := ⟨LP.weak hw hl.holds⟩

/-- Temporaries are forgotten ahead of a loop. -/
def dropT (l : List Nat) (ts : Tm) : Tm := ts.filter fun p => !(l.any fun q => Nat.beq q p.1)
theorem look_dropT (l : List Nat) (t : Nat) : ∀ ts : Tm, look (dropT l ts) t = .u ∨ look (dropT l ts) t = look ts t
  | [] => .inl rfl
  | (j, v) :: r => by
    have ih := look_dropT l t r
    have hl : dropT l ((j, v) :: r) = (if (!(l.any fun q => Nat.beq q j)) = true then (j, v) :: dropT l r else dropT l r) := by
      simp only [dropT, List.filter_cons]
    by_cases hb : (l.any fun q => Nat.beq q j) = true
    · rw [hl, if_neg (by simp [hb])]
      simp only [look]
      cases hj : Nat.beq j t with
      | false => exact ih
      | true =>
        have hjt := Nat.eq_of_beq_eq_true hj
        subst hjt
        refine .inl ?_
        have : ∀ ts : Tm, look (dropT l ts) j = .u := by
          intro ts
          induction ts with
          | nil => rfl
          | cons q r ih2 =>
            simp only [dropT, List.filter_cons] at ih2 ⊢
            split
            · rename_i h1
              simp only [look]
              cases hq : Nat.beq q.1 j with
              | false => exact ih2
              | true =>
                have := Nat.eq_of_beq_eq_true hq
                rw [this, hb] at h1; cases h1
            · exact ih2
        exact this r
    · rw [hl, if_pos (by rw [Bool.not_eq_true] at hb; rw [hb]; rfl)]
      simp only [look]
      cases Nat.beq j t with
      | true => exact .inr rfl
      | false => exact ih
theorem ALoop.drop {N : Nat} {c : Code} {ts : Tm} {h : Hp} {k : Ex → Tm → Hp → Prop} (l : List Nat) (hx : ALoop P N c (dropT l ts) h k) : ALoop P N c ts h k :=
  ALoop.weak (fun C a w S β hs => ⟨S, β, ⟨hs.hr, fun t => by
    rcases look_dropT l t ts with e | e
    · rw [e]; exact .u _
    · rw [e]; exact hs.tr t, hs.size, hs.marks, hs.round, hs.base⟩, Evol.refl _ _ _ _⟩) hx
theorem ALoop.virt {N : Nat} {c : Code} {ts : Tm} {h : Hp} {k : Ex → Tm → Hp → Prop} (t a sz : Nat) (ro : Bool) (hsz : 0 < sz) (ht : look ts t = .d (.sl a true []))
    (hl : roomK.lenOfK h fun n => appK h [.row 0 sz ro []] fun h' => ALoop P N c ((t, .sref n 0 0 0 false) :: ts) h' k) : ALoop P N c ts h k :=
  ALoop.weak (Wk.virtT ro hsz ht) (appK_spec _ _ _ (lenOfK_spec _ _ hl))

theorem take_all {α β : Type} (f : α → β) (l : List α) : ((l.map f).drop 0).take l.length = l.map f := by
  rw [List.drop_zero, ← List.length_map (f := f), List.take_length]
theorem take_all' {α : Type} (l : List α) : (l.drop 0).take l.length = l := by rw [List.drop_zero, List.take_length]

/-- A variable's cell that holds a slice over a row becomes data, the row being fixed. -/
theorem Wk.cell {N : Nat} {ts : Tm} {h : Hp} {n i m ver lo len sz : Nat} {ro full : Bool} {xs ds : List D} (hn : h[n]? = some (.var ((ds.map .d).set i (.sref m ver lo len full)))) (hm : h[m]? = some (.row ver sz ro xs)) (hl : lo + len ≤ xs.length) (hi : i < ds.length) :
    Wk N ts h ts ((h.set m (.row ver sz true xs)).set n (.vard (ds.set i (.sl sz full ((xs.drop lo).take len))))) := fun C act w S β hs => by
  have hnm : m ≠ n := by rintro rfl; rw [hn] at hm; cases hm
  have hml : m < h.length := (List.getElem?_eq_some_iff.1 hm).1
  have hnl : n < h.length := (List.getElem?_eq_some_iff.1 hn).1
  obtain ⟨b, cells, elem, g1, g2, g3, g4, g5⟩ := hs.hr.blk n _ hn
  obtain ⟨r1, e1⟩ := freeze hs.hr hm
  have hil : i < cells.size := by rw [g3]; simpa using hi
  have hd : DR w (fixS S β m (xs.length * sz)) (.sl sz full ((xs.drop lo).take len)) cells[i] :=
    sref_data hs.hr hm hl (g4 i _ cells[i] (by simp [hi]) (Array.getElem?_eq_getElem hil)).2
  have hn1 : (h.set m (.row ver sz true xs))[n]? = some (.var ((ds.map .d).set i (.sref m ver lo len full))) := by rw [List.getElem?_set_ne hnm]; exact hn
  have hβ : β.set n (some (b, 0)) = β := by
    obtain ⟨hl, he⟩ := List.getElem?_eq_some_iff.1 g1
    conv => rhs; rw [← List.set_getElem_self hl]
    rw [he]
  have := upd (w' := w) r1 hn1 (blk' := .vard (ds.set i (.sl sz full ((xs.drop lo).take len)))) (some (b, 0)) (Nat.le_refl _) (fun _ _ _ => rfl) (fun _ _ c e f _ h => ⟨c, h, rfl⟩) (fun _ _ l _ h => ⟨l, h⟩) (fun _ => rfl) (fun _ _ _ _ _ => rfl)
    (fun b' p hb => by cases hb; exact .inl ⟨0, g1⟩) (by rw [g1]; exact .inr (.inl ⟨.inr ⟨_, rfl⟩, rfl⟩)) (fun E => ?_)
  · rw [hβ] at this
    have E := e1.trans this.2
    exact ⟨_, β, hs.evol E this.1, E⟩
  · rw [hβ] at E ⊢
    refine ⟨b, cells, elem, g1, g2, by rw [g3]; simp, fun j c u hj hu => ?_, fun o ho => ?_⟩
    · by_cases hij : i = j
      · subst hij
        simp [hi] at hj
        subst hj
        rw [Array.getElem?_eq_getElem hil] at hu
        cases hu
        exact ⟨rfl, hd.evol E.sub E.cell⟩
      · rw [List.getElem?_set_ne hij] at hj
        obtain ⟨f1, f2⟩ := g4 j (.d c) u (by rw [List.getElem?_set_ne hij]; simp [hj]) hu
        refine ⟨f1, ?_⟩
        cases f2 with
        | d f2 => exact f2.evol (e1.trans E).sub (e1.trans E).cell
    · rcases ho with ho | ⟨base, hb, _⟩
      · exact g5 o ho
      · exact hnm (r1.inj m n b base 0 hb g1)

theorem all_nm {n i : Nat} {ds : List D} {v : V} (h : nmV n v = true) : ((ds.map V.d).set i v).all (nmV n) = true := by
  rw [List.all_eq_true]
  intro x hx
  rcases List.mem_or_eq_of_mem_set hx with hx | rfl
  · obtain ⟨d, _, rfl⟩ := List.mem_map.1 hx; rfl
  · exact h
theorem all_cons' {α : Type} {p : α → Bool} {a : α} {l : List α} (h : p a = true) (hl : l.all p = true) : (a :: l).all p = true := by rw [List.all_cons, h, hl]; rfl

/-- All of a row. -/
theorem whole {α : Type} {l : List α} {n : Nat} (h : n = l.length) : (l.drop 0).take n = l := by subst h; simp

/-! ### A loop, round by round -/

def LoopN (P : Program) (N : Nat) (c : Code) (k : Ex → Tm → Hp → Prop) : Nat → Tm → Hp → Prop
  | 0, _, _ => False
  | n + 1, ts, h => AWP P N c ts h fun e ts' h' => match e with
    | .normal => LoopN P N c k n ts' h'
    | e => k e ts' h'

theorem AWP.rounds {N : Nat} {c : Code} {k : Ex → Tm → Hp → Prop} {n : Nat} {ts : Tm} {h : Hp} (hl : LoopN P N c k n ts h) : LP P N c ts h k := by
  refine LP.loop (X := Nat × Tm × Hp) (fun x => x.2.1) (fun x => x.2.2) (fun x => LoopN P N c k x.1 x.2.1 x.2.2) (fun x => x.1) (n, ts, h) hl ?_
  rintro ⟨m, ts1, h1⟩ hi
  cases m with
  | zero => exact hi.elim
  | succ m =>
    refine AWP.mono (fun e ts2 h2 hk => ?_) hi
    cases e with
    | normal => exact ⟨(m, ts2, h2), Wk.refl.wm, hk, Nat.lt_succ_self m⟩
    | exit id => exact hk
    | ret => exact hk

structure ALoopN (P : Program) (N : Nat) (c : Code) (n : Nat) (ts : Tm) (h : Hp) (k : Ex → Tm → Hp → Prop) : Prop where
  wrap ::
  holds : LoopN P N c k n ts h

/-- A loop of at most n rounds, walked round by round. -/
theorem ALoop.rounds {N : Nat} {c : Code} {ts : Tm} {h : Hp} {k : Ex → Tm → Hp → Prop} (n : Nat) (hl : ALoopN P N c n ts h k) : ALoop P N c ts h k := ⟨AWP.rounds hl.holds⟩
theorem ALoopN.step {E : Env} (hE : E.Ok P) {c : Code} {n : Nat} {ts : Tm} {h : Hp} {k : Ex → Tm → Hp → Prop}
    (hx : exCode E c ts h fun e ts' h' => match e with
      | .normal => ALoopN P E.N c n ts' h' k
      | e => k e ts' h') : ALoopN P E.N c (n + 1) ts h k := by
  refine ⟨AWP.mono (fun e ts2 h2 hk => ?_) (exCode_sound hE c _ _ _ hx)⟩
  cases e with
  | normal => exact hk.holds
  | exit id => exact hk
  | ret => exact hk

/-- A nil slice in a variable's cell becomes a slice over a row of no elements. -/
theorem Wk.virtC {N : Nat} {ts : Tm} {h : Hp} {n i a sz : Nat} {cs : List D} (ro : Bool) (hsz : 0 < sz) (hn : h[n]? = some (.vard cs)) (hi : cs[i]? = some (.sl a true [])) :
    Wk N ts h ts ((h ++ [Blk.row 0 sz ro []]).set n (.var ((cs.map V.d).set i (.sref h.length 0 0 0 false)))) := fun C act w S β hs => by
  have hil : i < cs.length := (List.getElem?_eq_some_iff.1 hi).1
  have hnl : n < h.length := (List.getElem?_eq_some_iff.1 hn).1
  obtain ⟨β0, r1, e1⟩ := padded hs.hr 1
  have hres : (h ++ List.replicate 1 Blk.res)[h.length]? = some .res := by simp
  have hnone : β0[h.length]? = some none := by have := r1.blk _ _ hres; simpa [BR] using this
  have hset : (h ++ List.replicate 1 Blk.res).set h.length (.row 0 sz ro []) = h ++ [.row 0 sz ro []] := by simp
  obtain ⟨b0, cells0, elem0, k1, k2, k3, k4, k5⟩ := hs.hr.blk n _ hn
  have hcl : i < cells0.size := by omega
  obtain ⟨ad, had⟩ : ∃ ad, cells0[i] = .slice ad 0 0 := by
    have := (k4 i _ cells0[i] hi (Array.getElem?_eq_getElem hcl)).2
    generalize cells0[i] = cv at this
    cases this with
    | sl _ _ _ ad cap b off uf h1 h2 => exact ⟨ad, by rw [h2 rfl]; rfl⟩
  obtain ⟨r2, e2, v2⟩ := virtual_row r1 hres hnone 0 sz ro hsz trivial ad
  rw [hset] at r2 e2 v2
  have e12 := e1.trans e2
  have hn2 : (h ++ [Blk.row 0 sz ro []])[n]? = some (.vard cs) := by rw [List.getElem?_append_left hnl]; exact hn
  obtain ⟨b, cells, elem, g1, g2, g3, g4, g5⟩ := r2.blk n _ hn2
  have hβ : β0.set n (some (b, 0)) = β0 := by
    obtain ⟨hl, he⟩ := List.getElem?_eq_some_iff.1 g1
    conv => rhs; rw [← List.set_getElem_self hl]
    rw [he]
  have hb : b = b0 := by
    obtain ⟨x, hx, ev⟩ := e12.blk n _ hn
    rw [hn2] at hx
    cases hx
    rcases ev with h' | ⟨_, ht⟩ | ⟨_, _, _, h', _⟩
    · cases h'
    · rw [g1, k1] at ht; simp at ht; exact ht
    · cases h'
  subst hb
  have hcell : cells = cells0 := by rw [k2] at g2; cases g2; rfl
  subst hcell
  have := upd (w' := w) r2 hn2 (blk' := .var ((cs.map .d).set i (.sref h.length 0 0 0 false))) (some (b, 0)) (Nat.le_refl _) (fun _ _ _ => rfl) (fun _ _ c e f _ h => ⟨c, h, rfl⟩) (fun _ _ l _ h => ⟨l, h⟩) (fun _ => rfl) (fun _ _ _ _ _ => rfl)
    (fun b' p hb => by cases hb; exact .inl ⟨0, g1⟩) (by rw [g1]; exact .inr (.inl ⟨.inl ⟨_, rfl⟩, rfl⟩)) (fun E => ?_)
  · rw [hβ] at this
    have E := e12.trans this.2
    exact ⟨_, β0, hs.evol E this.1, E⟩
  · rw [hβ] at E ⊢
    refine ⟨b, cells, elem, g1, g2, by rw [g3]; simp, fun j c u hj hu => ?_, g5⟩
    by_cases hij : i = j
    · subst hij
      simp [hil] at hj
      subst hj
      rw [Array.getElem?_eq_getElem hcl] at hu
      cases hu
      rw [had]
      exact ⟨rfl, v2.evol E⟩
    · rw [List.getElem?_set_ne hij, List.getElem?_map] at hj
      cases hd : cs[j]? with
      | none => simp [hd] at hj
      | some d =>
        simp [hd] at hj
        subst hj
        obtain ⟨f1, f2⟩ := g4 j d u hd hu
        exact ⟨f1, .d (f2.evol E.sub E.cell)⟩

theorem ALoop.virtC {N : Nat} {c : Code} {ts : Tm} {h : Hp} {k : Ex → Tm → Hp → Prop} (n i a sz : Nat) {cs : List D} (ro : Bool) (hsz : 0 < sz) (hn : h[n]? = some (.vard cs)) (hi : cs[i]? = some (.sl a true []))
    (hl : roomK.lenOfK h fun m => appK h [.row 0 sz ro []] fun h' => ALoop P N c ts (h'.set n (.var ((cs.map .d).set i (.sref m 0 0 0 false)))) k) : ALoop P N c ts h k :=
  ALoop.weak (Wk.virtC ro hsz hn hi) (appK_spec _ _ _ (lenOfK_spec _ _ hl))

/-- A temporary's slice over a row becomes data. -/
theorem Wk.liftT {N : Nat} {ts : Tm} {h : Hp} {t m ver lo len sz : Nat} {ro full : Bool} {xs : List D} (ht : look ts t = .sref m ver lo len full) (hm : h[m]? = some (.row ver sz ro xs)) (hl : lo + len ≤ xs.length) :
    Wk N ts h ((t, .d (.sl sz full ((xs.drop lo).take len))) :: ts) (h.set m (.row ver sz true xs)) := fun C act w S β hs => by
  obtain ⟨r1, e1⟩ := freeze hs.hr hm
  have hv := hs.tr t
  rw [ht] at hv
  have hd := sref_data hs.hr hm hl hv
  have h0 := hs.evol e1 r1
  refine ⟨_, β, ⟨r1, fun t' => ?_, h0.size, h0.marks, h0.round, h0.base⟩, e1⟩
  simp only [look]
  cases hb : Nat.beq t t' with
  | true =>
    have := Nat.eq_of_beq_eq_true hb
    subst this
    exact .d hd
  | false => exact h0.tr t'

end Go.PM
