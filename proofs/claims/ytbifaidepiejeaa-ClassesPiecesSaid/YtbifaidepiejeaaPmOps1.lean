/-
  PM, part 5: operations, first half: what a type table must say; loads and stores; new variables; addresses.
-/
import Derived.Test.YtbifaidepiejeaaPmStep
import Derived.Laws.StructEq
set_option linter.unusedSectionVars false
namespace Go.PM
variable [Glob]
variable {P : Program} {T : TT}

/-! ### The type table -/

def zEq : D → Value → Bool
  | .b x, .bool y => x == y
  | .i k n, .int k' m => decide (k = k') && decide (n = m)
  | .s x, .string y => decide (x.data.toList = y.data.toList)
  | .sl _ true [], .slice none 0 0 => true
  | .k (.pointer none), .pointer none => true
  | .k .nilFunc, .nilFunc => true
  | .k (.map none), .map none => true
  | .k .nilIface, .nilIface => true
  | _, _ => false

def zsEq : List D → List Value → Bool
  | [], [] => true
  | x :: xs, v :: vs => zEq x v && zsEq xs vs
  | _, _ => false

theorem bytes_ext {x y : ByteArray} (h : x.data.toList = y.data.toList) : x = y := by
  cases x; cases y; simp at h; simp [h]

theorem zEq_spec {x : D} {v : Value} (h : zEq x v = true) (w : World) (S : Stb) : DR w S x v ∧ x.flat = true := by
  unfold zEq at h
  split at h
  · rw [beq_iff_eq.1 h]; exact ⟨.b _, rfl⟩
  · simp at h; obtain ⟨rfl, rfl⟩ := h; exact ⟨.i _ _, rfl⟩
  · rw [bytes_ext (of_decide_eq_true h)]; exact ⟨.s _, rfl⟩
  · refine ⟨?_, rfl⟩
    exact .sl _ true [] none 0 0 0 (fun _ _ => undef) (by simp) (by simp) (by simp) (by simp) (by simp) (by simp) (by simp)
  · exact ⟨.k _ rfl, rfl⟩
  · exact ⟨.k _ rfl, rfl⟩
  · exact ⟨.k _ rfl, rfl⟩
  · exact ⟨.k _ rfl, rfl⟩
  · cases h

theorem zsEq_spec : ∀ {xs : List D} {vs : List Value}, zsEq xs vs = true → xs.length = vs.length ∧ ∀ (j : Nat) (x : D) (v : Value), xs[j]? = some x → vs[j]? = some v → ∀ w S, DR w S x v ∧ x.flat = true
  | [], [], _ => by simp
  | [], _ :: _, h => by simp [zsEq] at h
  | _ :: _, [], h => by simp [zsEq] at h
  | x :: xs, v :: vs, h => by
    simp only [zsEq, Bool.and_eq_true] at h
    obtain ⟨h1, h2⟩ := h
    obtain ⟨i1, i2⟩ := zsEq_spec h2
    refine ⟨by simp [i1], fun j y u hy hu w S => ?_⟩
    cases j with
    | zero => simp at hy hu; subst hy; subst hu; exact zEq_spec h1 w S
    | succ j => exact i2 j y u (by simpa using hy) (by simpa using hu) w S

def fieldsOk (P : Program) : List (Nat × TypeId) → List Field → Bool
  | [], [] => true
  | p :: ps, f :: fs => decide (p.1 = f.offset) && decide (p.2 = f.type) && decide (f.name ≠ "_") && decide (P.cellsOf f.type ≠ 0) && fieldsOk P ps fs
  | _, _ => false

def kindOk (P : Program) (t : TypeId) : TK → Bool
  | .bool => match P.underlying t with | some .bool => true | _ => false
  | .int k => match P.underlying t with | some (.int k') => decide (k = k') | _ => false
  | .string => match P.underlying t with | some .string => true | _ => false
  | .str fs => match P.underlying t with | some (.struct fields) => fieldsOk P fs fields.toList && !P.stoodInHeld t && !P.eqGuardType P.depth t | _ => false
  | .arr n e => match P.underlying t with | some (.array n' e') => decide (n = n') && decide (e = e') && !P.eqGuardType P.depth t | _ => false
  | .slice e => match P.underlying t with | some (.slice e') => decide (e = e') | _ => false
  | .map k e => match P.underlying t with | some (.map k' e') => decide (k = k') && decide (e = e') | _ => false
  | .other => match P.underlying t with | some (.struct _) => false | some (.array _ _) => false | some _ => true | none => false

def zkOk (ti : TI) (z : Value) : Bool := match z with
  | .agg _ => isAggT ti
  | .tuple _ => false
  | _ => !isAggT ti

def tiOk (P : Program) (t : TypeId) (ti : TI) : Bool :=
  kindOk P t ti.kind && match P.info? t with
    | some i => decide (i.size = ti.size) && decide (i.bytes = ti.bytes) && decide (ti.zero.length = ti.size) && match i.zero with
      | some z => zsEq ti.zero z.cells.toList && zkOk ti z
      | none => false
    | none => false

def tokB (P : Program) (T : TT) : Bool := T.all fun p => tiOk P p.1 p.2

theorem tyOf_ok {T : TT} {t : TypeId} {ti : TI} (hT : tokB P T = true) (h : tyOf T t = some ti) : tiOk P t ti = true := by
  induction T with
  | nil => simp [tyOf] at h
  | cons p T ih =>
    obtain ⟨k, v⟩ := p
    simp only [tokB, List.all_cons, Bool.and_eq_true] at hT
    simp only [tyOf] at h
    split at h
    · rename_i hk
      have : k = t := Nat.eq_of_beq_eq_true hk
      subst this; cases h; exact hT.1
    · exact ih hT.2 h

structure TyInfo (P : Program) (t : TypeId) (ti : TI) (i : TypeInfo) (z : Value) : Prop where
  info : P.info? t = some i
  size : i.size = ti.size
  bytes : i.bytes = ti.bytes
  zlen : ti.zero.length = ti.size
  zero : i.zero = some z
  zs : zsEq ti.zero z.cells.toList = true
  zk : zkOk ti z = true

theorem tiOk_info {t : TypeId} {ti : TI} (h : tiOk P t ti = true) : ∃ i z, TyInfo P t ti i z := by
  simp only [tiOk, Bool.and_eq_true] at h
  obtain ⟨_, h⟩ := h
  cases hi : P.info? t with
  | none => simp [hi] at h
  | some i =>
    simp only [hi] at h
    cases hz : i.zero with
    | none => simp [hz] at h
    | some z =>
      simp only [hz, Bool.and_eq_true, decide_eq_true_eq] at h
      exact ⟨i, z, hi, h.1.1.1, h.1.1.2, h.1.2, hz, h.2.1, h.2.2⟩

theorem TyInfo.agg {t : TypeId} {ti : TI} {i : TypeInfo} {z : Value} (h : TyInfo P t ti i z) (ha : isAggT ti = true) : ∃ cs, z = .agg cs := by
  have := h.zk
  unfold zkOk at this
  split at this
  · exact ⟨_, rfl⟩
  · cases this
  · rw [ha] at this; cases this

theorem TyInfo.nag {t : TypeId} {ti : TI} {i : TypeInfo} {z : Value} (h : TyInfo P t ti i z) (ha : isAggT ti = false) : one z = true := by
  have := h.zk
  unfold zkOk at this
  split at this
  · rw [ha] at this; cases this
  · cases this
  · cases z <;> simp_all [one]

theorem tiOk_kind {t : TypeId} {ti : TI} (h : tiOk P t ti = true) : kindOk P t ti.kind = true := by
  simp only [tiOk, Bool.and_eq_true] at h; exact h.1

theorem kind_slice {t e : TypeId} {ti : TI} (h : tiOk P t ti = true) (hk : ti.kind = .slice e) : P.underlying t = some (.slice e) := by
  have := tiOk_kind h
  rw [hk] at this
  simp only [kindOk] at this
  split at this
  · rename_i e' he; rw [he, of_decide_eq_true this]
  · cases this
theorem kind_arr {t e : TypeId} {n : Nat} {ti : TI} (h : tiOk P t ti = true) (hk : ti.kind = .arr n e) : P.underlying t = some (.array n e) := by
  have := tiOk_kind h
  rw [hk] at this
  simp only [kindOk] at this
  split at this
  · rename_i n' e' he; simp at this; rw [he, this.1.1, this.1.2]
  · cases this
theorem kind_arr_guard {t e : TypeId} {n : Nat} {ti : TI} (h : tiOk P t ti = true) (hk : ti.kind = .arr n e) : P.eqGuardType P.depth t = false := by
  have := tiOk_kind h
  rw [hk] at this
  simp only [kindOk] at this
  split at this
  · rename_i n' e' he; simp at this; exact this.2
  · cases this
theorem kind_map {t k e : TypeId} {ti : TI} (h : tiOk P t ti = true) (hk : ti.kind = .map k e) : P.underlying t = some (.map k e) := by
  have := tiOk_kind h
  rw [hk] at this
  simp only [kindOk] at this
  split at this
  · rename_i n' e' he; simp at this; rw [he, this.1, this.2]
  · cases this
theorem kind_int {t : TypeId} {k : IntKind} {ti : TI} (h : tiOk P t ti = true) (hk : ti.kind = .int k) : P.underlying t = some (.int k) := by
  have := tiOk_kind h
  rw [hk] at this
  simp only [kindOk] at this
  split at this
  · rename_i k' he; rw [he, of_decide_eq_true this]
  · cases this
theorem kind_bool {t : TypeId} {ti : TI} (h : tiOk P t ti = true) (hk : ti.kind = .bool) : P.underlying t = some .bool := by
  have := tiOk_kind h
  rw [hk] at this
  simp only [kindOk] at this
  split at this
  · assumption
  · cases this
theorem kind_string {t : TypeId} {ti : TI} (h : tiOk P t ti = true) (hk : ti.kind = .string) : P.underlying t = some .string := by
  have := tiOk_kind h
  rw [hk] at this
  simp only [kindOk] at this
  split at this
  · assumption
  · cases this
theorem kind_str {t : TypeId} {fs : List (Nat × TypeId)} {ti : TI} (h : tiOk P t ti = true) (hk : ti.kind = .str fs) :
    ∃ fields, P.underlying t = some (.struct fields) ∧ fieldsOk P fs fields.toList = true ∧ P.stoodInHeld t = false ∧ P.eqGuardType P.depth t = false := by
  have := tiOk_kind h
  rw [hk] at this
  simp only [kindOk] at this
  split at this
  · rename_i fields he
    simp only [Bool.and_eq_true, Bool.not_eq_true'] at this
    exact ⟨fields, he, this.1.1, this.1.2, this.2⟩
  · cases this

theorem fieldsOk_get : ∀ {ps : List (Nat × TypeId)} {fs : List Field}, fieldsOk P ps fs = true → ps.length = fs.length ∧ ∀ (j : Nat) (p : Nat × TypeId), ps[j]? = some p →
    ∃ f, fs[j]? = some f ∧ p.1 = f.offset ∧ p.2 = f.type ∧ f.name ≠ "_" ∧ P.cellsOf f.type ≠ 0
  | [], [], _ => by simp
  | [], _ :: _, h => by simp [fieldsOk] at h
  | _ :: _, [], h => by simp [fieldsOk] at h
  | p :: ps, f :: fs, h => by
    simp only [fieldsOk, Bool.and_eq_true, decide_eq_true_eq] at h
    obtain ⟨⟨⟨⟨h1, h2⟩, h3⟩, h4⟩, h5⟩ := h
    obtain ⟨i1, i2⟩ := fieldsOk_get h5
    refine ⟨by simp [i1], fun j q hq => ?_⟩
    cases j with
    | zero => simp at hq; subst hq; exact ⟨f, rfl, h1, h2, h3, h4⟩
    | succ j =>
      obtain ⟨g, hg, r⟩ := i2 j q (by simpa using hq)
      exact ⟨g, by simpa using hg, r⟩

/-- Is it an aggregate? As the model asks. -/
theorem run_isAgg {t : TypeId} {ti : TI} (h : tiOk P t ti = true) (w : World) : (isAgg t).run P w = .ok (isAggT ti) w := by
  have hk := tiOk_kind h
  unfold isAgg isAggT
  cases hkk : ti.kind with
  | bool => simp [run_underlying (kind_bool h hkk)]
  | int k => simp [run_underlying (kind_int h hkk)]
  | string => simp [run_underlying (kind_string h hkk)]
  | str fs => obtain ⟨f, hf, _⟩ := kind_str h hkk; simp [run_underlying hf]
  | arr n e => simp [run_underlying (kind_arr h hkk)]
  | slice e => simp [run_underlying (kind_slice h hkk)]
  | map k e => simp [run_underlying (kind_map h hkk)]
  | other =>
    rw [hkk] at hk
    simp only [kindOk] at hk
    cases hu : P.underlying t with
    | none => simp [hu] at hk
    | some d => cases d <;> simp_all [run_underlying hu]

theorem run_typeInfo' {t : TypeId} {i : TypeInfo} (h : P.info? t = some i) (w : World) : (typeInfo t).run P w = .ok i w := by
  unfold typeInfo
  simp [program, Sem.run, h]
theorem run_sizeOf' {t : TypeId} {ti : TI} (h : tiOk P t ti = true) (w : World) : (sizeOf t).run P w = .ok ti.size w := by
  obtain ⟨i, z, hi⟩ := tiOk_info h
  simp [sizeOf, run_typeInfo' hi.info, hi.size]
theorem run_zeroValue' {t : TypeId} {ti : TI} {i : TypeInfo} {z : Value} (h : TyInfo P t ti i z) (w : World) : (zeroValue t).run P w = .ok z w := by
  simp [zeroValue, run_typeInfo' h.info, h.zero]

/-! ### Overlays -/

def ov {α : Type} (xs : List α) (o : Nat) (ys : List α) : List α := xs.take o ++ ys ++ xs.drop (o + ys.length)

theorem ov_get {α : Type} {xs ys : List α} {o : Nat} (h : o + ys.length ≤ xs.length) (j : Nat) :
    (ov xs o ys)[j]? = if j < o then xs[j]? else if j < o + ys.length then ys[j - o]? else xs[j]? := by
  unfold ov
  have ht : (xs.take o).length = o := by simp; omega
  by_cases h1 : j < o
  · rw [if_pos h1, List.append_assoc, List.getElem?_append_left (by omega), List.getElem?_take_of_lt h1]
  · rw [if_neg h1]
    by_cases h2 : j < o + ys.length
    · rw [if_pos h2, List.getElem?_append_left (by simp; omega), List.getElem?_append_right (by omega), ht]
    · rw [if_neg h2, List.getElem?_append_right (by simp; omega), List.getElem?_drop]
      congr 1
      simp
      omega

theorem ov_length {α : Type} {xs ys : List α} {o : Nat} (h : o + ys.length ≤ xs.length) : (ov xs o ys).length = xs.length := by
  unfold ov; simp; omega

theorem layK_spec {α : Type} : ∀ (ys xs : List α) (o : Nat) (k : List α → Prop), layK xs o ys k → ys = [] ∧ k xs ∨ ys ≠ [] ∧ o + ys.length ≤ xs.length ∧ k (ov xs o ys)
  | [], xs, o, k, h => .inl ⟨rfl, by simpa [layK] using h⟩
  | y :: ys, xs, o, k, h => by
    simp only [layK] at h
    obtain ⟨h1, h2⟩ := setK_iff.1 h
    refine .inr ⟨by simp, ?_⟩
    rcases layK_spec ys _ _ _ h2 with ⟨rfl, h3⟩ | ⟨_, h3, h4⟩
    · refine ⟨by simp; omega, ?_⟩
      have : xs.set o y = ov xs o [y] := by
        apply List.ext_getElem?
        intro j
        rw [ov_get (by simp; omega), List.getElem?_set]
        by_cases hj : o = j
        · subst hj; simp [h1]
        · rw [if_neg hj]
          split
          · rfl
          · rw [if_neg (by simp; omega)]
      rwa [← this]
    · have hl : o + 1 + ys.length ≤ xs.length := by simpa using h3
      refine ⟨by simp; omega, ?_⟩
      have : ov (xs.set o y) (o + 1) ys = ov xs o (y :: ys) := by
        apply List.ext_getElem?
        intro j
        rw [ov_get h3, ov_get (by simp; omega), List.getElem?_set]
        by_cases hj : o = j
        · subst hj; simp [h1]
        · simp only [if_neg hj, List.length_cons]
          by_cases a : j < o
          · rw [if_pos a, if_pos (by omega)]
          · rw [if_neg a, if_neg (by omega : ¬ j < o + 1)]
            by_cases b : j < o + 1 + ys.length
            · rw [if_pos b, if_pos (by omega), show j - o = (j - (o + 1)) + 1 from by omega, List.getElem?_cons_succ]
            · rw [if_neg b, if_neg (by omega)]
      rwa [← this]

/-! ### What an operation must do -/

/-- Operands and their values. -/
def OR (w : World) (S : Stb) (h : Hp) (β : Bet) (ρ : Operand → Value) (xs : List Operand) (vs : List V) : Prop :=
  xs.length = vs.length ∧ ∀ (i : Nat) (x : Operand) (v : V), xs[i]? = some x → vs[i]? = some v → VR w S h β v (ρ x)

/-- An operation, of its operands' values, turns the named blocks 'bs' into 'bs'' and hands back 'v'. -/
def OpS (P : Program) (o : Oper) (vs : List V) (ns : List Nat) (bs bs' : List Blk) (v : V) : Prop :=
  ∀ (ρ : Operand → Value) (w : World) (S : Stb) (h : Hp) (β : Bet), HR w S h β → OR w S h β ρ (opArgs o.op) vs → (∀ (i n : Nat), ns[i]? = some n → h[n]? = bs[i]?) →
    ∃ nx w' S' β' cv, (execOp ρ o).run P w = .ok nx w' ∧ (nx = .value cv ∨ (nx = .skip ∧ cv = undef)) ∧
      HR w' S' (setL h ns bs') β' ∧ VR w' S' (setL h ns bs') β' v cv ∧ Evol w S h β w' S' (setL h ns bs') β'

/-- Operations that leave the world as it is. -/
theorem OpS.pure {o : Oper} {vs : List V} {ns : List Nat} {bs : List Blk} {v : V}
    (h : ∀ (ρ : Operand → Value) (w : World) (S : Stb) (h : Hp) (β : Bet), HR w S h β → OR w S h β ρ (opArgs o.op) vs → (∀ (i n : Nat), ns[i]? = some n → h[n]? = bs[i]?) →
      ∃ nx cv, (execOp ρ o).run P w = .ok nx w ∧ (nx = .value cv ∨ (nx = .skip ∧ cv = undef)) ∧ VR w S h β v cv) : OpS P o vs ns bs bs v := by
  intro ρ w S hp β hr ho hb
  obtain ⟨nx, cv, h1, h2, h3⟩ := h ρ w S hp β hr ho hb
  have hs : setL hp ns bs = hp := setL_same fun i n b hi hbi => by rw [hb i n hi, hbi]
  rw [hs]
  exact ⟨nx, w, S, β, cv, h1, h2, hr, h3, Evol.refl _ _ _ _⟩

theorem OR.one {w : World} {S : Stb} {h : Hp} {β : Bet} {ρ : Operand → Value} {x : Operand} {v : V} (ho : OR w S h β ρ [x] [v]) : VR w S h β v (ρ x) := ho.2 0 x v rfl rfl
theorem OR.two {w : World} {S : Stb} {h : Hp} {β : Bet} {ρ : Operand → Value} {x y : Operand} {p v : V} (ho : OR w S h β ρ [x, y] [p, v]) : VR w S h β p (ρ x) ∧ VR w S h β v (ρ y) :=
  ⟨ho.2 0 x p rfl rfl, ho.2 1 y v rfl rfl⟩
theorem OR.three {w : World} {S : Stb} {h : Hp} {β : Bet} {ρ : Operand → Value} {x y z : Operand} {p v t : V} (ho : OR w S h β ρ [x, y, z] [p, v, t]) :
    VR w S h β p (ρ x) ∧ VR w S h β v (ρ y) ∧ VR w S h β t (ρ z) :=
  ⟨ho.2 0 x p rfl rfl, ho.2 1 y v rfl rfl, ho.2 2 z t rfl rfl⟩

/-! ### Loads -/

/-- Data cells in memory. -/
def CellsAt (w : World) (S : Stb) (b off : Nat) (cs : List D) : Prop :=
  ∀ (j : Nat) (c : D), cs[j]? = some c → ∃ u, w.cell? ⟨b, off + j, none⟩ = some u ∧ DR w S c u ∧ c.flat = true

def CellsAtV (w : World) (S : Stb) (h : Hp) (β : Bet) (b off : Nat) (cs : List V) : Prop :=
  ∀ (j : Nat) (c : V), cs[j]? = some c → ∃ u, w.cell? ⟨b, off + j, none⟩ = some u ∧ VR w S h β c u ∧ c.flat = true

theorem addr_add (b o n : Nat) : (⟨b, o, none⟩ : Addr).add n = ⟨b, o + n, none⟩ := Addr.add_lit b o n

/-- The cells' values, as a list. -/
theorem cells_list {α : Type} {R : α → Value → Prop} {w : World} {b off : Nat} : ∀ (cs : List α), (∀ (j : Nat) (c : α), cs[j]? = some c → ∃ u, w.cell? ⟨b, off + j, none⟩ = some u ∧ R c u) →
    ∃ us : List Value, us.length = cs.length ∧ (∀ (j : Nat) (y : Value), us[j]? = some y → w.cell? ((⟨b, off, none⟩ : Addr).add j) = some y) ∧ ∀ (j : Nat) (c : α) (y : Value), cs[j]? = some c → us[j]? = some y → R c y := by
  intro cs
  induction cs generalizing off with
  | nil => exact fun _ => ⟨[], rfl, by simp, by simp⟩
  | cons c cs ih =>
    intro h
    obtain ⟨y0, h1, h2⟩ := h 0 c rfl
    obtain ⟨us, g1, g2, g3⟩ := ih (off := off + 1) fun j x hx => by
      obtain ⟨u, a, b⟩ := h (j + 1) x (by simpa using hx)
      exact ⟨u, by rwa [show off + 1 + j = off + (j + 1) by omega], b⟩
    refine ⟨y0 :: us, by simp [g1], fun j v hv => ?_, fun j x v hx hv => ?_⟩
    · cases j with
      | zero => simp at hv; subst hv; rw [addr_add]; exact h1
      | succ j =>
        have := g2 j v (by simpa using hv)
        rw [addr_add] at this ⊢
        rwa [show off + 1 + j = off + (j + 1) by omega] at this
    · cases j with
      | zero => simp at hx hv; subst hx; subst hv; exact h2
      | succ j => exact g3 j x v (by simpa using hx) (by simpa using hv)

theorem run_loadVar_cells {t : TypeId} {ti : TI} (h : tiOk P t ti = true) (ha : isAggT ti = true) {w : World} {b off : Nat} {us : List Value} (hl : us.length = ti.size)
    (hu : ∀ (j : Nat) (y : Value), us[j]? = some y → w.cell? ((⟨b, off, none⟩ : Addr).add j) = some y) : (loadVar t ⟨b, off, none⟩).run P w = .ok (.agg us.toArray) w := by
  simp [loadVar, run_isAgg h, ha, run_sizeOf' h, ← hl, run_loadCells_list w _ us hu]

theorem run_loadVar_one {t : TypeId} {ti : TI} (h : tiOk P t ti = true) (ha : isAggT ti = false) {w : World} {a : Addr} {u : Value} (hu : w.cell? a = some u) : (loadVar t a).run P w = .ok u w := by
  simp [loadVar, run_isAgg h, ha, load, Sem.run, hu]

theorem takeK_spec {α : Type} : ∀ (n : Nat) (xs : List α) (k : List α → Prop), takeK xs n k → n ≤ xs.length ∧ k (xs.take n)
  | 0, xs, k, h => by simpa [takeK] using h
  | n + 1, [], k, h => by simp [takeK] at h
  | n + 1, x :: xs, k, h => by
    simp only [takeK] at h
    obtain ⟨h1, h2⟩ := takeK_spec n xs _ h
    exact ⟨by simp; omega, by simpa using h2⟩

theorem dropK_spec {α : Type} : ∀ (n : Nat) (xs : List α) (k : List α → Prop), dropK xs n k → n ≤ xs.length ∧ k (xs.drop n)
  | 0, xs, k, h => by simpa [dropK] using h
  | n + 1, [], k, h => by simp [dropK] at h
  | n + 1, x :: xs, k, h => by
    simp only [dropK] at h
    obtain ⟨h1, h2⟩ := dropK_spec n xs _ h
    exact ⟨by simp; omega, by simpa using h2⟩

theorem allD_spec : ∀ (cs : List V) (k : List D → Prop) (no : Prop), allD cs k no → (∃ l : List D, cs = l.map .d ∧ k l) ∨ no
  | [], k, no, h => .inl ⟨[], rfl, by simpa [allD] using h⟩
  | x :: r, k, no, h => by
    cases x with
    | d y =>
      simp only [allD] at h
      rcases allD_spec r _ _ h with ⟨l, rfl, hk⟩ | hno
      · exact .inl ⟨y :: l, rfl, hk⟩
      · exact .inr hno
    | _ => exact .inr (by simpa [allD] using h)

/-- What 'mkAgg' makes. -/
def MkA (cs : List V) (v : V) : Prop := (∃ l : List D, cs = l.map .d ∧ v = .d (.agg l)) ∨ v = .agg cs

theorem mkAgg_det {cs : List V} {k : V → Prop} (h : mkAgg cs k) : ∃ v, k v ∧ MkA cs v := by
  unfold mkAgg at h
  rcases allD_spec _ _ _ h with ⟨l, rfl, hk⟩ | hno
  · exact ⟨_, hk, .inl ⟨l, rfl, rfl⟩⟩
  · exact ⟨_, hno, .inr rfl⟩

theorem MkA.rel {cs : List V} {v : V} (h : MkA cs v) {w : World} {S : Stb} {hp : Hp} {β : Bet} {us : List Value} (hl : us.length = cs.length)
    (hr : ∀ (j : Nat) (c : V) (y : Value), cs[j]? = some c → us[j]? = some y → VR w S hp β c y ∧ c.flat = true) : VR w S hp β v (.agg us.toArray) := by
  have hget : ∀ (j : Nat) (c : V), cs[j]? = some c → ∃ y, us[j]? = some y := fun j c hc => by
    have hj : j < us.length := by rw [hl]; exact (List.getElem?_eq_some_iff.1 hc).1
    exact ⟨us[j], List.getElem?_eq_getElem hj⟩
  rcases h with ⟨l, rfl, rfl⟩ | rfl
  · refine .d (.agg l _ (by simpa using hl) (fun j c hc => ?_) fun j c y hc hy => ?_)
    · obtain ⟨y, hy⟩ := hget j (.d c) (by simp [hc])
      exact (hr j (.d c) y (by simp [hc]) hy).2
    · have := (hr j (.d c) y (by simp [hc]) (by simpa using hy)).1
      cases this; assumption
  · refine .agg cs _ (by simpa using hl) (fun j c hc => ?_) fun j c y hc hy => (hr j c y hc (by simpa using hy)).1
    obtain ⟨y, hy⟩ := hget j c hc
    exact (hr j c y hc hy).2

/-- What 'readD' reads. -/
def RdD (ti : TI) (cs : List D) (o : Nat) (x : D) : Prop :=
  (isAggT ti = true ∧ o + ti.size ≤ cs.length ∧ x = .agg ((cs.drop o).take ti.size)) ∨ (isAggT ti = false ∧ cs[o]? = some x)

theorem readD_det {ti : TI} {cs : List D} {o : Nat} {k : D → Prop} (hk : readD ti cs o k) : ∃ x, k x ∧ RdD ti cs o x := by
  unfold readD at hk
  cases ha : isAggT ti with
  | true =>
    simp only [ha] at hk
    cases o with
    | zero =>
      simp only [] at hk
      split at hk
      · rename_i h1
        have h1 := Nat.eq_of_beq_eq_true h1
        exact ⟨_, hk, .inl ⟨ha, by omega, by simp [← h1]⟩⟩
      · obtain ⟨h3, h4⟩ := takeK_spec _ _ _ hk
        exact ⟨_, h4, .inl ⟨ha, by omega, by simp⟩⟩
    | succ o =>
      simp only [] at hk
      obtain ⟨h1, h2⟩ := dropK_spec _ _ _ hk
      obtain ⟨h3, h4⟩ := takeK_spec _ _ _ h2
      exact ⟨_, h4, .inl ⟨ha, by simp at h3; omega, rfl⟩⟩
  | false =>
    simp only [ha] at hk
    obtain ⟨x, h1, h2⟩ := nthK_iff.1 hk
    exact ⟨x, h2, .inr ⟨ha, h1⟩⟩

theorem part_get {α : Type} {cs : List α} {o n j : Nat} {c : α} (hj : ((cs.drop o).take n)[j]? = some c) : cs[o + j]? = some c := by
  rw [List.getElem?_take] at hj
  split at hj
  · simpa using hj
  · cases hj

theorem RdD.run {t : TypeId} {ti : TI} (h : tiOk P t ti = true) {cs : List D} {o : Nat} {x : D} (hk : RdD ti cs o x) {w : World} {S : Stb} {b off : Nat} (hc : CellsAt w S b off cs) :
    ∃ cv, (loadVar t ⟨b, off + o, none⟩).run P w = .ok cv w ∧ DR w S x cv := by
  rcases hk with ⟨ha, hl, rfl⟩ | ⟨ha, hx⟩
  · obtain ⟨us, g1, g2, g3⟩ := cells_list (R := fun c y => DR w S c y ∧ c.flat = true) (w := w) (b := b) (off := off + o) ((cs.drop o).take ti.size) fun j c hj => by
      obtain ⟨y, a1, a2, a3⟩ := hc _ c (part_get hj)
      exact ⟨y, by rwa [show off + o + j = off + (o + j) by omega], a2, a3⟩
    have hlen : ((cs.drop o).take ti.size).length = ti.size := by simp; omega
    refine ⟨_, run_loadVar_cells h ha (by omega) g2, .agg _ _ (by simpa using g1) (fun j c hj => ?_) fun j c y hj hu => (g3 j c y hj (by simpa using hu)).1⟩
    have hjl : j < us.length := by rw [g1]; exact (List.getElem?_eq_some_iff.1 hj).1
    exact (g3 j c _ hj (List.getElem?_eq_getElem hjl)).2
  · obtain ⟨y, a1, a2, _⟩ := hc o x hx
    exact ⟨y, run_loadVar_one h ha a1, a2⟩

/-- What 'readV' reads. -/
def RdV (ti : TI) (cs : List V) (o : Nat) (x : V) : Prop :=
  (isAggT ti = true ∧ o + ti.size ≤ cs.length ∧ MkA ((cs.drop o).take ti.size) x) ∨ (isAggT ti = false ∧ cs[o]? = some x)

theorem readV_det {ti : TI} {cs : List V} {o : Nat} {k : V → Prop} (hk : readV ti cs o k) : ∃ x, k x ∧ RdV ti cs o x := by
  unfold readV at hk
  cases ha : isAggT ti with
  | true =>
    simp only [ha] at hk
    obtain ⟨h1, h2⟩ := dropK_spec _ _ _ hk
    obtain ⟨h3, h4⟩ := takeK_spec _ _ _ h2
    obtain ⟨v, hv, hm⟩ := mkAgg_det h4
    exact ⟨v, hv, .inl ⟨ha, by simp at h3; omega, hm⟩⟩
  | false =>
    simp only [ha] at hk
    obtain ⟨x, h1, h2⟩ := nthK_iff.1 hk
    exact ⟨x, h2, .inr ⟨ha, h1⟩⟩

theorem RdV.run {t : TypeId} {ti : TI} (h : tiOk P t ti = true) {cs : List V} {o : Nat} {x : V} (hk : RdV ti cs o x) {w : World} {S : Stb} {hp : Hp} {β : Bet} {b off : Nat} (hc : CellsAtV w S hp β b off cs) :
    ∃ cv, (loadVar t ⟨b, off + o, none⟩).run P w = .ok cv w ∧ VR w S hp β x cv := by
  rcases hk with ⟨ha, hl, hm⟩ | ⟨ha, hx⟩
  · obtain ⟨us, g1, g2, g3⟩ := cells_list (R := fun c y => VR w S hp β c y ∧ c.flat = true) (w := w) (b := b) (off := off + o) ((cs.drop o).take ti.size) fun j c hj => by
      obtain ⟨y, a1, a2, a3⟩ := hc _ c (part_get hj)
      exact ⟨y, by rwa [show off + o + j = off + (o + j) by omega], a2, a3⟩
    have hlen : ((cs.drop o).take ti.size).length = ti.size := by simp; omega
    exact ⟨_, run_loadVar_cells h ha (by omega) g2, hm.rel g1 fun j c y hj hu => g3 j c y hj hu⟩
  · obtain ⟨y, a1, a2, _⟩ := hc o x hx
    exact ⟨y, run_loadVar_one h ha a1, a2⟩

theorem BR.vard_cells {w : World} {S : Stb} {h : Hp} {β : Bet} {n : Nat} {cs : List D} (hb : BR w S h β n (.vard cs)) : ∃ b, β[n]? = some (some (b, 0)) ∧ CellsAt w S b 0 cs := by
  obtain ⟨b, c, e, h1, h2, h3, h4, h5⟩ := hb
  refine ⟨b, h1, fun j x hj => ?_⟩
  have hj' : j < c.size := by rw [h3]; exact (List.getElem?_eq_some_iff.1 hj).1
  obtain ⟨a1, a2⟩ := h4 j x c[j] hj (Array.getElem?_eq_getElem hj')
  exact ⟨c[j], by rw [Nat.zero_add, cell_of_row w b j c e (0, 0) h2, Array.getElem?_eq_getElem hj'], a2, a1⟩

theorem BR.var_cells {w : World} {S : Stb} {h : Hp} {β : Bet} {n : Nat} {cs : List V} (hb : BR w S h β n (.var cs)) : ∃ b, β[n]? = some (some (b, 0)) ∧ CellsAtV w S h β b 0 cs := by
  obtain ⟨b, c, e, h1, h2, h3, h4, h5⟩ := hb
  refine ⟨b, h1, fun j x hj => ?_⟩
  have hj' : j < c.size := by rw [h3]; exact (List.getElem?_eq_some_iff.1 hj).1
  obtain ⟨a1, a2⟩ := h4 j x c[j] hj (Array.getElem?_eq_getElem hj')
  exact ⟨c[j], by rw [Nat.zero_add, cell_of_row w b j c e (0, 0) h2, Array.getElem?_eq_getElem hj'], a2, a1⟩

theorem BR.row_cells {w : World} {S : Stb} {h : Hp} {β : Bet} {n ver sz : Nat} {ro : Bool} {xs : List D} (hb : BR w S h β n (.row ver sz ro xs)) {i : Nat} {x : D} (hx : xs[i]? = some x) :
    ∃ b base, β[n]? = some (some (b, base)) ∧ CellsAt w S b (base + i * sz) x.cells := by
  obtain ⟨h0, h1, ⟨rfl, _⟩ | ⟨b, base, c, e, h2, h3, h4, h5, h6⟩⟩ := hb
  · simp at hx
  · refine ⟨b, base, h2, fun j y hy => ?_⟩
    obtain ⟨u, hu, hd⟩ := h5 i x j y hx hy
    exact ⟨u, by rw [cell_of_row w b _ c e (0, 0) h3]; exact hu, hd, (h1 i x hx).2 j y hy⟩

theorem aLoad_sound (hT : tokB P T = true) {o : Oper} {t : TypeId} {a : Operand} (ho : o.op = .load t a) {av : V} {bs : List Blk} {K : Kt} (hbs : bs.length = (addrN av).length) (h : aLoad T t av bs K) :
    ∃ v, K v bs ∧ OpS P o [av] (addrN av) bs bs v := by
  unfold aLoad at h
  cases hty : tyOf T t with
  | none => simp [hty] at h
  | some ti =>
    have hti := tyOf_ok hT hty
    simp only [hty] at h
    have hexec : ∀ (ρ : Operand → Value) (w : World) (b off : Nat) cv, ρ a = .pointer (some ⟨b, off, none⟩) → (loadVar t ⟨b, off, none⟩).run P w = .ok cv w → (execOp ρ o).run P w = .ok (.value cv) w := by
      intro ρ w b off cv hρ hl
      simp [execOp, ho, Instr.loadAt, Instr.sureAddr, hρ, hl]
    split at h
    · rename_i cs off
      obtain ⟨x, hk, hx⟩ := readD_det h
      refine ⟨_, hk, OpS.pure fun ρ w S hp β hr hor _ => ?_⟩
      have hv := (show OR w S hp β ρ [a] _ by simpa [ho, opArgs] using hor).one
      generalize ha : ρ a = av at hv
      cases hv with
      | rp _ _ b base uf h1 h2 =>
        obtain ⟨cv, e1, e2⟩ := hx.run hti (w := w) (S := S) (b := b) (off := base) fun j c hj => ⟨uf j, (h1 j c hj).2.1, h2 j c hj, (h1 j c hj).1⟩
        exact ⟨_, cv, hexec ρ w b _ cv ha e1, .inl rfl, .d e2⟩
    · rename_i n ver e off cs
      obtain ⟨x, hk, hx⟩ := readD_det h
      refine ⟨_, hk, OpS.pure fun ρ w S hp β hr hor hb => ?_⟩
      have hv := (show OR w S hp β ρ [a] _ by simpa [ho, opArgs] using hor).one
      have hn : hp[n]? = some (.vard cs) := by simpa [addrN] using hb 0 n rfl
      generalize ha : ρ a = av at hv
      cases hv with
      | ptr h1 h2 =>
        simp only [PR, hn] at h2
        obtain ⟨b, hbn, rfl, rfl, rfl⟩ := h2
        obtain ⟨b', hb', hc⟩ := (hr.blk n _ hn).vard_cells
        rw [hbn] at hb'; simp at hb'; subst hb'
        obtain ⟨cv, e1, e2⟩ := hx.run hti hc
        rw [Nat.zero_add] at e1
        exact ⟨_, cv, hexec ρ w b _ cv ha e1, .inl rfl, .d e2⟩
    · rename_i n ver e off cs
      obtain ⟨x, hk, hx⟩ := readV_det h
      refine ⟨_, hk, OpS.pure fun ρ w S hp β hr hor hb => ?_⟩
      have hv := (show OR w S hp β ρ [a] _ by simpa [ho, opArgs] using hor).one
      have hn : hp[n]? = some (.var cs) := by simpa [addrN] using hb 0 n rfl
      generalize ha : ρ a = av at hv
      cases hv with
      | ptr h1 h2 =>
        simp only [PR, hn] at h2
        obtain ⟨b, hbn, rfl, rfl, rfl⟩ := h2
        obtain ⟨b', hb', hc⟩ := (hr.blk n _ hn).var_cells
        rw [hbn] at hb'; simp at hb'; subst hb'
        obtain ⟨cv, e1, e2⟩ := hx.run hti hc
        rw [Nat.zero_add] at e1
        exact ⟨_, cv, hexec ρ w b _ cv ha e1, .inl rfl, e2⟩
    · rename_i n ver e off ver' sz ro xs
      obtain ⟨hver, h⟩ := h.elim
      subst hver
      obtain ⟨y, hy, h⟩ := nthK_iff.1 h
      obtain ⟨x, hk, hx⟩ := readD_det h
      refine ⟨_, hk, OpS.pure fun ρ w S hp β hr hor hb => ?_⟩
      have hv := (show OR w S hp β ρ [a] _ by simpa [ho, opArgs] using hor).one
      have hn : hp[n]? = some (.row ver sz ro xs) := by simpa [addrN] using hb 0 n rfl
      generalize ha : ρ a = av at hv
      cases hv with
      | ptr h1 h2 =>
        simp only [PR, hn] at h2
        obtain ⟨_, _, h2⟩ := h2
        obtain ⟨b, base, hbn, rfl⟩ := h2 trivial
        obtain ⟨b', base', hb', hc⟩ := (hr.blk n _ hn).row_cells hy
        rw [hbn] at hb'; simp at hb'; obtain ⟨rfl, rfl⟩ := hb'
        obtain ⟨cv, e1, e2⟩ := hx.run hti hc
        exact ⟨_, cv, hexec ρ w b _ cv ha e1, .inl rfl, .d e2⟩
    · exact h.elim

end Go.PM
