/-
  PM, part 5: operations, first half: what a type table must say; loads and stores; new variables; addresses.
-/
import Derived.Test.YtfckliidjmeeaaaDoorPmReltoPmStep
import Derived.Laws.StructEq
set_option linter.unusedSectionVars false
namespace Go.PM
variable [Glob]
variable {P : Program} {T : TT}
def zEq : D → Value → Bool
  | .b x, .bool y => x == y
  | .i k n, .int k' m => decide (k = k') && decide (n = m)
  | .s x, .string y => decide (x.data.toList = y.data.toList)
  | .sl _ true [], .slice none 0 0 => true
  | .k (.pointer none), .pointer none => true
  | .k .nilFunc, .nilFunc => true
  | .k (.map none), .map none => true
  | .k .nilIface, .nilIface => true
  | _, _ => false
def zsEq : List D → List Value → Bool
  | [], [] => true
  | x :: xs, v :: vs => zEq x v && zsEq xs vs
  | _, _ => false
theorem bytes_ext {x y : ByteArray} (h : x.data.toList = y.data.toList) : x = y := by
  cases x; cases y; simp at h; simp [h]
theorem zEq_spec {x : D} {v : Value} (h : zEq x v = true) (w : World) (S : Stb) : DR w S x v ∧ x.flat = true := by
  unfold zEq at h
  split at h
  · rw [beq_iff_eq.1 h]; exact ⟨.b _, rfl⟩
  · simp at h; obtain ⟨rfl, rfl⟩ := h; exact ⟨.i _ _, rfl⟩
  · rw [bytes_ext (of_decide_eq_true h)]; exact ⟨.s _, rfl⟩
  · refine ⟨?_, rfl⟩
    exact .sl _ true [] none 0 0 0 (fun _ _ => undef) (by simp) (by simp) (by simp) (by simp) (by simp) (by simp) (by simp)
  · exact ⟨.k _ rfl, rfl⟩
  · exact ⟨.k _ rfl, rfl⟩
  · exact ⟨.k _ rfl, rfl⟩
  · exact ⟨.k _ rfl, rfl⟩
  · cases h
theorem zsEq_spec : ∀ {xs : List D} {vs : List Value}, zsEq xs vs = true → xs.length = vs.length ∧ ∀ (j : Nat) (x : D) (v : Value), xs[j]? = some x → vs[j]? = some v → ∀ w S, DR w S x v ∧ x.flat = true
  | [], [], _ => by simp
  | [], _ :: _, h => by simp [zsEq] at h
  | _ :: _, [], h => by simp [zsEq] at h
  | x :: xs, v :: vs, h => by
    simp only [zsEq, Bool.and_eq_true] at h
    obtain ⟨h1, h2⟩ := h
    obtain ⟨i1, i2⟩ := zsEq_spec h2
    refine ⟨by simp [i1], fun j y u hy hu w S => ?_⟩
    cases j with
    | zero => simp at hy hu; subst hy; subst hu; exact zEq_spec h1 w S
    | succ j => exact i2 j y u (by simpa using hy) (by simpa using hu) w S
def fieldsOk (P : Program) : List (Nat × TypeId) → List Field → Bool
  | [], [] => true
  | p :: ps, f :: fs => decide (p.1 = f.offset) && decide (p.2 = f.type) && decide (f.name ≠ "_") && decide (P.cellsOf f.type ≠ 0) && fieldsOk P ps fs
  | _, _ => false
def kindOk (P : Program) (t : TypeId) : TK → Bool
  | .bool => match P.underlying t with | some .bool => true | _ => false
  | .int k => match P.underlying t with | some (.int k') => decide (k = k') | _ => false
  | .string => match P.underlying t with | some .string => true | _ => false
  | .str fs => match P.underlying t with | some (.struct fields) => fieldsOk P fs fields.toList && !P.stoodInHeld t && !P.eqGuardType P.depth t | _ => false
  | .arr n e => match P.underlying t with | some (.array n' e') => decide (n = n') && decide (e = e') && !P.eqGuardType P.depth t | _ => false
  | .slice e => match P.underlying t with | some (.slice e') => decide (e = e') | _ => false
  | .map k e => match P.underlying t with | some (.map k' e') => decide (k = k') && decide (e = e') | _ => false
  | .other => match P.underlying t with | some (.struct _) => false | some (.array _ _) => false | some _ => true | none => false
def zkOk (ti : TI) (z : Value) : Bool := match z with
  | .agg _ => isAggT ti
  | .tuple _ => false
  | _ => !isAggT ti
def tiOk (P : Program) (t : TypeId) (ti : TI) : Bool :=
  kindOk P t ti.kind && match P.info? t with
    | some i => decide (i.size = ti.size) && decide (i.bytes = ti.bytes) && decide (ti.zero.length = ti.size) && match i.zero with
      | some z => zsEq ti.zero z.cells.toList && zkOk ti z
      | none => false
    | none => false
def tokB (P : Program) (T : TT) : Bool := T.all fun p => tiOk P p.1 p.2
theorem tyOf_ok {T : TT} {t : TypeId} {ti : TI} (hT : tokB P T = true) (h : tyOf T t = some ti) : tiOk P t ti = true := by
  induction T with
  | nil => simp [tyOf] at h
  | cons p T ih =>
    obtain ⟨k, v⟩ := p
    simp only [tokB, List.all_cons, Bool.and_eq_true] at hT
    simp only [tyOf] at h
    split at h
    · rename_i hk
      have : k = t := Nat.eq_of_beq_eq_true hk
      subst this; cases h; exact hT.1
    · exact ih hT.2 h
structure TyInfo (P : Program) (t : TypeId) (ti : TI) (i : TypeInfo) (z : Value) : Prop where
  info : P.info? t = some i
  size : i.size = ti.size
  bytes : i.bytes = ti.bytes
  zlen : ti.zero.length = ti.size
  zero : i.zero = some z
  zs : zsEq ti.zero z.cells.toList = true
  zk : zkOk ti z = true
theorem tiOk_info {t : TypeId} {ti : TI} (h : tiOk P t ti = true) : ∃ i z, TyInfo P t ti i z := by
  simp only [tiOk, Bool.and_eq_true] at h
  obtain ⟨_, h⟩ := h
  cases hi : P.info? t with
  | none => simp [hi] at h
  | some i =>
    simp only [hi] at h
    cases hz : i.zero with
    | none => simp [hz] at h
    | some z =>
      simp only [hz, Bool.and_eq_true, decide_eq_true_eq] at h
      exact ⟨i, z, hi, h.1.1.1, h.1.1.2, h.1.2, hz, h.2.1, h.2.2⟩
theorem TyInfo.agg {t : TypeId} {ti : TI} {i : TypeInfo} {z : Value} (h : TyInfo P t ti i z) (ha : isAggT ti = true) : ∃ cs, z = .agg cs := by
  have := h.zk
  unfold zkOk at this
  split at this
  · exact ⟨_, rfl⟩
  · cases this
  · rw [ha] at this; cases this
theorem TyInfo.nag {t : TypeId} {ti : TI} {i : TypeInfo} {z : Value} (h : TyInfo P t ti i z) (ha : isAggT ti = false) : one z = true := by
  have := h.zk
  unfold zkOk at this
  split at this
  · rw [ha] at this; cases this
  · cases this
  · cases z <;> simp_all [one]
theorem tiOk_kind {t : TypeId} {ti : TI} (h : tiOk P t ti = true) : kindOk P t ti.kind = true := by
  simp only [tiOk, Bool.and_eq_true] at h; exact h.1
theorem kind_slice {t e : TypeId} {ti : TI} (h : tiOk P t ti = true) (hk : ti.kind = .slice e) : P.underlying t = some (.slice e) := by
  have := tiOk_kind h
  rw [hk] at this
  simp only [kindOk] at this
  split at this
  · rename_i e' he; rw [he, of_decide_eq_true this]
  · cases this
theorem kind_arr {t e : TypeId} {n : Nat} {ti : TI} (h : tiOk P t ti = true) (hk : ti.kind = .arr n e) : P.underlying t = some (.array n e) := by
  have := tiOk_kind h
  rw [hk] at this
  simp only [kindOk] at this
  split at this
  · rename_i n' e' he; simp at this; rw [he, this.1.1, this.1.2]
  · cases this
theorem kind_arr_guard {t e : TypeId} {n : Nat} {ti : TI} (h : tiOk P t ti = true) (hk : ti.kind = .arr n e) : P.eqGuardType P.depth t = false := by
  have := tiOk_kind h
  rw [hk] at this
  simp only [kindOk] at this
  split at this
  · rename_i n' e' he; simp at this; exact this.2
  · cases this
theorem kind_map {t k e : TypeId} {ti : TI} (h : tiOk P t ti = true) (hk : ti.kind = .map k e) : P.underlying t = some (.map k e) := by
  have := tiOk_kind h
  rw [hk] at this
  simp only [kindOk] at this
  split at this
  · rename_i n' e' he; simp at this; rw [he, this.1, this.2]
  · cases this
theorem kind_int {t : TypeId} {k : IntKind} {ti : TI} (h : tiOk P t ti = true) (hk : ti.kind = .int k) : P.underlying t = some (.int k) := by
  have := tiOk_kind h
  rw [hk] at this
  simp only [kindOk] at this
  split at this
  · rename_i k' he; rw [he, of_decide_eq_true this]
  · cases this
theorem kind_bool {t : TypeId} {ti : TI} (h : tiOk P t ti = true) (hk : ti.kind = .bool) : P.underlying t = some .bool := by
  have := tiOk_kind h
  rw [hk] at this
  simp only [kindOk] at this
  split at this
  · assumption
  · cases this
theorem kind_string {t : TypeId} {ti : TI} (h : tiOk P t ti = true) (hk : ti.kind = .string) : P.underlying t = some .string := by
  have := tiOk_kind h
  rw [hk] at this
  simp only [kindOk] at this
  split at this
  · assumption
  · cases this
theorem kind_str {t : TypeId} {fs : List (Nat × TypeId)} {ti : TI} (h : tiOk P t ti = true) (hk : ti.kind = .str fs) :
    ∃ fields, P.underlying t = some (.struct fields) ∧ fieldsOk P fs fields.toList = true ∧ P.stoodInHeld t = false ∧ P.eqGuardType P.depth t = false := by
  have := tiOk_kind h
  rw [hk] at this
  simp only [kindOk] at this
  split at this
  · rename_i fields he
    simp only [Bool.and_eq_true, Bool.not_eq_true'] at this
    exact ⟨fields, he, this.1.1, this.1.2, this.2⟩
  · cases this
theorem fieldsOk_get : ∀ {ps : List (Nat × TypeId)} {fs : List Field}, fieldsOk P ps fs = true → ps.length = fs.length ∧ ∀ (j : Nat) (p : Nat × TypeId), ps[j]? = some p →
    ∃ f, fs[j]? = some f ∧ p.1 = f.offset ∧ p.2 = f.type ∧ f.name ≠ "_" ∧ P.cellsOf f.type ≠ 0
  | [], [], _ => by simp
  | [], _ :: _, h => by simp [fieldsOk] at h
  | _ :: _, [], h => by simp [fieldsOk] at h
  | p :: ps, f :: fs, h => by
    simp only [fieldsOk, Bool.and_eq_true, decide_eq_true_eq] at h
    obtain ⟨⟨⟨⟨h1, h2⟩, h3⟩, h4⟩, h5⟩ := h
    obtain ⟨i1, i2⟩ := fieldsOk_get h5
    refine ⟨by simp [i1], fun j q hq => ?_⟩
    cases j with
    | zero => simp at hq; subst hq; exact ⟨f, rfl, h1, h2, h3, h4⟩
    | succ j =>
      obtain ⟨g, hg, r⟩ := i2 j q (by simpa using hq)
      exact ⟨g, by simpa using hg, r⟩
theorem run_isAgg {t : TypeId} {ti : TI} (h : tiOk P t ti = true) (w : World) : (isAgg t).run P w = .ok (isAggT ti) w := by
  have hk := tiOk_kind h
  unfold isAgg isAggT
  cases hkk : ti.kind with
  | bool => simp [run_underlying (kind_bool h hkk)]
  | int k => simp [run_underlying (kind_int h hkk)]
  | string => simp [run_underlying (kind_string h hkk)]
  | str fs => obtain ⟨f, hf, _⟩ := kind_str h hkk; simp [run_underlying hf]
  | arr n e => simp [run_underlying (kind_arr h hkk)]
  | slice e => simp [run_underlying (kind_slice h hkk)]
  | map k e => simp [run_underlying (kind_map h hkk)]
  | other =>
    rw [hkk] at hk
    simp only [kindOk] at hk
    cases hu : P.underlying t with
    | none => simp [hu] at hk
    | some d => cases d <;> simp_all [run_underlying hu]
theorem run_typeInfo' {t : TypeId} {i : TypeInfo} (h : P.info? t = some i) (w : World) : (typeInfo t).run P w = .ok i w := by
  unfold typeInfo
  simp [program, Sem.run, h]
theorem run_sizeOf' {t : TypeId} {ti : TI} (h : tiOk P t ti = true) (w : World) : (sizeOf t).run P w = .ok ti.size w := by
  obtain ⟨i, z, hi⟩ := tiOk_info h
  simp [sizeOf, run_typeInfo' hi.info, hi.size]
theorem run_zeroValue' {t : TypeId} {ti : TI} {i : TypeInfo} {z : Value} (h : TyInfo P t ti i z) (w : World) : (zeroValue t).run P w = .ok z w := by
  simp [zeroValue, run_typeInfo' h.info, h.zero]
def ov {α : Type} (xs : List α) (o : Nat) (ys : List α) : List α := xs.take o ++ ys ++ xs.drop (o + ys.length)
theorem ov_get {α : Type} {xs ys : List α} {o : Nat} (h : o + ys.length ≤ xs.length) (j : Nat) :
    (ov xs o ys)[j]? = if j < o then xs[j]? else if j < o + ys.length then ys[j - o]? else xs[j]? := by
  unfold ov
  have ht : (xs.take o).length = o := by simp; omega
  by_cases h1 : j < o
  · rw [if_pos h1, List.append_assoc, List.getElem?_append_left (by omega), List.getElem?_take_of_lt h1]
  · rw [if_neg h1]
    by_cases h2 : j < o + ys.length
    · rw [if_pos h2, List.getElem?_append_left (by simp; omega), List.getElem?_append_right (by omega), ht]
    · rw [if_neg h2, List.getElem?_append_right (by simp; omega), List.getElem?_drop]
      congr 1
      simp
      omega
theorem ov_length {α : Type} {xs ys : List α} {o : Nat} (h : o + ys.length ≤ xs.length) : (ov xs o ys).length = xs.length := by
  unfold ov; simp; omega
theorem layK_spec {α : Type} : ∀ (ys xs : List α) (o : Nat) (k : List α → Prop), layK xs o ys k → ys = [] ∧ k xs ∨ ys ≠ [] ∧ o + ys.length ≤ xs.length ∧ k (ov xs o ys)
  | [], xs, o, k, h => .inl ⟨rfl, by simpa [layK] using h⟩
  | y :: ys, xs, o, k, h => by
    simp only [layK] at h
    obtain ⟨h1, h2⟩ := setK_iff.1 h
    refine .inr ⟨by simp, ?_⟩
    rcases layK_spec ys _ _ _ h2 with ⟨rfl, h3⟩ | ⟨_, h3, h4⟩
    · refine ⟨by simp; omega, ?_⟩
      have : xs.set o y = ov xs o [y] := by
        apply List.ext_getElem?
        intro j
        rw [ov_get (by simp; omega), List.getElem?_set]
        by_cases hj : o = j
        · subst hj; simp [h1]
        · rw [if_neg hj]
          split
          · rfl
          · rw [if_neg (by simp; omega)]
      rwa [← this]
    · have hl : o + 1 + ys.length ≤ xs.length := by simpa using h3
      refine ⟨by simp; omega, ?_⟩
      have : ov (xs.set o y) (o + 1) ys = ov xs o (y :: ys) := by
        apply List.ext_getElem?
        intro j
        rw [ov_get h3, ov_get (by simp; omega), List.getElem?_set]
        by_cases hj : o = j
        · subst hj; simp [h1]
        · simp only [if_neg hj, List.length_cons]
          by_cases a : j < o
          · rw [if_pos a, if_pos (by omega)]
          · rw [if_neg a, if_neg (by omega : ¬ j < o + 1)]
            by_cases b : j < o + 1 + ys.length
            · rw [if_pos b, if_pos (by omega), show j - o = (j - (o + 1)) + 1 from by omega, List.getElem?_cons_succ]
            · rw [if_neg b, if_neg (by omega)]
      rwa [← this]
def OR (w : World) (S : Stb) (h : Hp) (β : Bet) (ρ : Operand → Value) (xs : List Operand) (vs : List V) : Prop :=
  xs.length = vs.length ∧ ∀ (i : Nat) (x : Operand) (v : V), xs[i]? = some x → vs[i]? = some v → VR w S h β v (ρ x)
def OpS (P : Program) (o : Oper) (vs : List V) (ns : List Nat) (bs bs' : List Blk) (v : V) : Prop :=
  ∀ (ρ : Operand → Value) (w : World) (S : Stb) (h : Hp) (β : Bet), HR w S h β → OR w S h β ρ (opArgs o.op) vs → (∀ (i n : Nat), ns[i]? = some n → h[n]? = bs[i]?) →
    ∃ nx w' S' β' cv, (execOp ρ o).run P w = .ok nx w' ∧ (nx = .value cv ∨ (nx = .skip ∧ cv = undef)) ∧
      HR w' S' (setL h ns bs') β' ∧ VR w' S' (setL h ns bs') β' v cv ∧ Evol w S h β w' S' (setL h ns bs') β'
theorem OpS.pure {o : Oper} {vs : List V} {ns : List Nat} {bs : List Blk} {v : V}
    (h : ∀ (ρ : Operand → Value) (w : World) (S : Stb) (h : Hp) (β : Bet), HR w S h β → OR w S h β ρ (opArgs o.op) vs → (∀ (i n : Nat), ns[i]? = some n → h[n]? = bs[i]?) →
      ∃ nx cv, (execOp ρ o).run P w = .ok nx w ∧ (nx = .value cv ∨ (nx = .skip ∧ cv = undef)) ∧ VR w S h β v cv) : OpS P o vs ns bs bs v := by
  intro ρ w S hp β hr ho hb
  obtain ⟨nx, cv, h1, h2, h3⟩ := h ρ w S hp β hr ho hb
  have hs : setL hp ns bs = hp := setL_same fun i n b hi hbi => by rw [hb i n hi, hbi]
  rw [hs]
  exact ⟨nx, w, S, β, cv, h1, h2, hr, h3, Evol.refl _ _ _ _⟩
theorem OR.one {w : World} {S : Stb} {h : Hp} {β : Bet} {ρ : Operand → Value} {x : Operand} {v : V} (ho : OR w S h β ρ [x] [v]) : VR w S h β v (ρ x) := ho.2 0 x v rfl rfl
theorem OR.two {w : World} {S : Stb} {h : Hp} {β : Bet} {ρ : Operand → Value} {x y : Operand} {p v : V} (ho : OR w S h β ρ [x, y] [p, v]) : VR w S h β p (ρ x) ∧ VR w S h β v (ρ y) :=
  ⟨ho.2 0 x p rfl rfl, ho.2 1 y v rfl rfl⟩
theorem OR.three {w : World} {S : Stb} {h : Hp} {β : Bet} {ρ : Operand → Value} {x y z : Operand} {p v t : V} (ho : OR w S h β ρ [x, y, z] [p, v, t]) :
    VR w S h β p (ρ x) ∧ VR w S h β v (ρ y) ∧ VR w S h β t (ρ z) :=
  ⟨ho.2 0 x p rfl rfl, ho.2 1 y v rfl rfl, ho.2 2 z t rfl rfl⟩
def CellsAt (w : World) (S : Stb) (b off : Nat) (cs : List D) : Prop :=
  ∀ (j : Nat) (c : D), cs[j]? = some c → ∃ u, w.cell? ⟨b, off + j, none⟩ = some u ∧ DR w S c u ∧ c.flat = true
def CellsAtV (w : World) (S : Stb) (h : Hp) (β : Bet) (b off : Nat) (cs : List V) : Prop :=
  ∀ (j : Nat) (c : V), cs[j]? = some c → ∃ u, w.cell? ⟨b, off + j, none⟩ = some u ∧ VR w S h β c u ∧ c.flat = true
theorem addr_add (b o n : Nat) : (⟨b, o, none⟩ : Addr).add n = ⟨b, o + n, none⟩ := Addr.add_lit b o n
theorem cells_list {α : Type} {R : α → Value → Prop} {w : World} {b off : Nat} : ∀ (cs : List α), (∀ (j : Nat) (c : α), cs[j]? = some c → ∃ u, w.cell? ⟨b, off + j, none⟩ = some u ∧ R c u) →
    ∃ us : List Value, us.length = cs.length ∧ (∀ (j : Nat) (y : Value), us[j]? = some y → w.cell? ((⟨b, off, none⟩ : Addr).add j) = some y) ∧ ∀ (j : Nat) (c : α) (y : Value), cs[j]? = some c → us[j]? = some y → R c y := by
  intro cs
  induction cs generalizing off with
  | nil => exact fun _ => ⟨[], rfl, by simp, by simp⟩
  | cons c cs ih =>
    intro h
    obtain ⟨y0, h1, h2⟩ := h 0 c rfl
    obtain ⟨us, g1, g2, g3⟩ := ih (off := off + 1) fun j x hx => by
      obtain ⟨u, a, b⟩ := h (j + 1) x (by simpa using hx)
      exact ⟨u, by rwa [show off + 1 + j = off + (j + 1) by omega], b⟩
    refine ⟨y0 :: us, by simp [g1], fun j v hv => ?_, fun j x v hx hv => ?_⟩
    · cases j with
      | zero => simp at hv; subst hv; rw [addr_add]; exact h1
      | succ j =>
        have := g2 j v (by simpa using hv)
        rw [addr_add] at this ⊢
        rwa [show off + 1 + j = off + (j + 1) by omega] at this
    · cases j with
      | zero => simp at hx hv; subst hx; subst hv; exact h2
      | succ j => exact g3 j x v (by simpa using hx) (by simpa using hv)
theorem run_loadVar_cells {t : TypeId} {ti : TI} (h : tiOk P t ti = true) (ha : isAggT ti = true) {w : World} {b off : Nat} {us : List Value} (hl : us.length = ti.size)
    (hu : ∀ (j : Nat) (y : Value), us[j]? = some y → w.cell? ((⟨b, off, none⟩ : Addr).add j) = some y) : (loadVar t ⟨b, off, none⟩).run P w = .ok (.agg us.toArray) w := by
  simp [loadVar, run_isAgg h, ha, run_sizeOf' h, ← hl, run_loadCells_list w _ us hu]
theorem run_loadVar_one {t : TypeId} {ti : TI} (h : tiOk P t ti = true) (ha : isAggT ti = false) {w : World} {a : Addr} {u : Value} (hu : w.cell? a = some u) : (loadVar t a).run P w = .ok u w := by
  simp [loadVar, run_isAgg h, ha, load, Sem.run, hu]
theorem takeK_spec {α : Type} : ∀ (n : Nat) (xs : List α) (k : List α → Prop), takeK xs n k → n ≤ xs.length ∧ k (xs.take n)
  | 0, xs, k, h => by simpa [takeK] using h
  | n + 1, [], k, h => by simp [takeK] at h
  | n + 1, x :: xs, k, h => by
    simp only [takeK] at h
    obtain ⟨h1, h2⟩ := takeK_spec n xs _ h
    exact ⟨by simp; omega, by simpa using h2⟩
theorem dropK_spec {α : Type} : ∀ (n : Nat) (xs : List α) (k : List α → Prop), dropK xs n k → n ≤ xs.length ∧ k (xs.drop n)
  | 0, xs, k, h => by simpa [dropK] using h
  | n + 1, [], k, h => by simp [dropK] at h
  | n + 1, x :: xs, k, h => by
    simp only [dropK] at h
    obtain ⟨h1, h2⟩ := dropK_spec n xs _ h
    exact ⟨by simp; omega, by simpa using h2⟩
theorem allD_spec : ∀ (cs : List V) (k : List D → Prop) (no : Prop), allD cs k no → (∃ l : List D, cs = l.map .d ∧ k l) ∨ no
  | [], k, no, h => .inl ⟨[], rfl, by simpa [allD] using h⟩
  | x :: r, k, no, h => by
    cases x with
    | d y =>
      simp only [allD] at h
      rcases allD_spec r _ _ h with ⟨l, rfl, hk⟩ | hno
      · exact .inl ⟨y :: l, rfl, hk⟩
      · exact .inr hno
    | _ => exact .inr (by simpa [allD] using h)
def MkA (cs : List V) (v : V) : Prop := (∃ l : List D, cs = l.map .d ∧ v = .d (.agg l)) ∨ v = .agg cs
theorem mkAgg_det {cs : List V} {k : V → Prop} (h : mkAgg cs k) : ∃ v, k v ∧ MkA cs v := by
  unfold mkAgg at h
  rcases allD_spec _ _ _ h with ⟨l, rfl, hk⟩ | hno
  · exact ⟨_, hk, .inl ⟨l, rfl, rfl⟩⟩
  · exact ⟨_, hno, .inr rfl⟩
theorem MkA.rel {cs : List V} {v : V} (h : MkA cs v) {w : World} {S : Stb} {hp : Hp} {β : Bet} {us : List Value} (hl : us.length = cs.length)
    (hr : ∀ (j : Nat) (c : V) (y : Value), cs[j]? = some c → us[j]? = some y → VR w S hp β c y ∧ c.flat = true) : VR w S hp β v (.agg us.toArray) := by
  have hget : ∀ (j : Nat) (c : V), cs[j]? = some c → ∃ y, us[j]? = some y := fun j c hc => by
    have hj : j < us.length := by rw [hl]; exact (List.getElem?_eq_some_iff.1 hc).1
    exact ⟨us[j], List.getElem?_eq_getElem hj⟩
  rcases h with ⟨l, rfl, rfl⟩ | rfl
  · refine .d (.agg l _ (by simpa using hl) (fun j c hc => ?_) fun j c y hc hy => ?_)
    · obtain ⟨y, hy⟩ := hget j (.d c) (by simp [hc])
      exact (hr j (.d c) y (by simp [hc]) hy).2
    · have := (hr j (.d c) y (by simp [hc]) (by simpa using hy)).1
      cases this; assumption
  · refine .agg cs _ (by simpa using hl) (fun j c hc => ?_) fun j c y hc hy => (hr j c y hc (by simpa using hy)).1
    obtain ⟨y, hy⟩ := hget j c hc
    exact (hr j c y hc hy).2
def RdD (ti : TI) (cs : List D) (o : Nat) (x : D) : Prop :=
  (isAggT ti = true ∧ o + ti.size ≤ cs.length ∧ x = .agg ((cs.drop o).take ti.size)) ∨ (isAggT ti = false ∧ cs[o]? = some x)
theorem readD_det {ti : TI} {cs : List D} {o : Nat} {k : D → Prop} (hk : readD ti cs o k) : ∃ x, k x ∧ RdD ti cs o x := by
  unfold readD at hk
  cases ha : isAggT ti with
  | true =>
    simp only [ha] at hk
    cases o with
    | zero =>
      simp only [] at hk
      split at hk
      · rename_i h1
        have h1 := Nat.eq_of_beq_eq_true h1
        exact ⟨_, hk, .inl ⟨ha, by omega, by simp [← h1]⟩⟩
      · obtain ⟨h3, h4⟩ := takeK_spec _ _ _ hk
        exact ⟨_, h4, .inl ⟨ha, by omega, by simp⟩⟩
    | succ o =>
      simp only [] at hk
      obtain ⟨h1, h2⟩ := dropK_spec _ _ _ hk
      obtain ⟨h3, h4⟩ := takeK_spec _ _ _ h2
      exact ⟨_, h4, .inl ⟨ha, by simp at h3; omega, rfl⟩⟩
  | false =>
    simp only [ha] at hk
    obtain ⟨x, h1, h2⟩ := nthK_iff.1 hk
    exact ⟨x, h2, .inr ⟨ha, h1⟩⟩
theorem part_get {α : Type} {cs : List α} {o n j : Nat} {c : α} (hj : ((cs.drop o).take n)[j]? = some c) : cs[o + j]? = some c := by
  rw [List.getElem?_take] at hj
  split at hj
  · simpa using hj
  · cases hj
theorem RdD.run {t : TypeId} {ti : TI} (h : tiOk P t ti = true) {cs : List D} {o : Nat} {x : D} (hk : RdD ti cs o x) {w : World} {S : Stb} {b off : Nat} (hc : CellsAt w S b off cs) :
    ∃ cv, (loadVar t ⟨b, off + o, none⟩).run P w = .ok cv w ∧ DR w S x cv := by
  rcases hk with ⟨ha, hl, rfl⟩ | ⟨ha, hx⟩
  · obtain ⟨us, g1, g2, g3⟩ := cells_list (R := fun c y => DR w S c y ∧ c.flat = true) (w := w) (b := b) (off := off + o) ((cs.drop o).take ti.size) fun j c hj => by
      obtain ⟨y, a1, a2, a3⟩ := hc _ c (part_get hj)
      exact ⟨y, by rwa [show off + o + j = off + (o + j) by omega], a2, a3⟩
    have hlen : ((cs.drop o).take ti.size).length = ti.size := by simp; omega
    refine ⟨_, run_loadVar_cells h ha (by omega) g2, .agg _ _ (by simpa using g1) (fun j c hj => ?_) fun j c y hj hu => (g3 j c y hj (by simpa using hu)).1⟩
    have hjl : j < us.length := by rw [g1]; exact (List.getElem?_eq_some_iff.1 hj).1
    exact (g3 j c _ hj (List.getElem?_eq_getElem hjl)).2
  · obtain ⟨y, a1, a2, _⟩ := hc o x hx
    exact ⟨y, run_loadVar_one h ha a1, a2⟩
def RdV (ti : TI) (cs : List V) (o : Nat) (x : V) : Prop :=
  (isAggT ti = true ∧ o + ti.size ≤ cs.length ∧ MkA ((cs.drop o).take ti.size) x) ∨ (isAggT ti = false ∧ cs[o]? = some x)
theorem readV_det {ti : TI} {cs : List V} {o : Nat} {k : V → Prop} (hk : readV ti cs o k) : ∃ x, k x ∧ RdV ti cs o x := by
  unfold readV at hk
  cases ha : isAggT ti with
  | true =>
    simp only [ha] at hk
    obtain ⟨h1, h2⟩ := dropK_spec _ _ _ hk
    obtain ⟨h3, h4⟩ := takeK_spec _ _ _ h2
    obtain ⟨v, hv, hm⟩ := mkAgg_det h4
    exact ⟨v, hv, .inl ⟨ha, by simp at h3; omega, hm⟩⟩
  | false =>
    simp only [ha] at hk
    obtain ⟨x, h1, h2⟩ := nthK_iff.1 hk
    exact ⟨x, h2, .inr ⟨ha, h1⟩⟩
theorem RdV.run {t : TypeId} {ti : TI} (h : tiOk P t ti = true) {cs : List V} {o : Nat} {x : V} (hk : RdV ti cs o x) {w : World} {S : Stb} {hp : Hp} {β : Bet} {b off : Nat} (hc : CellsAtV w S hp β b off cs) :
    ∃ cv, (loadVar t ⟨b, off + o, none⟩).run P w = .ok cv w ∧ VR w S hp β x cv := by
  rcases hk with ⟨ha, hl, hm⟩ | ⟨ha, hx⟩
  · obtain ⟨us, g1, g2, g3⟩ := cells_list (R := fun c y => VR w S hp β c y ∧ c.flat = true) (w := w) (b := b) (off := off + o) ((cs.drop o).take ti.size) fun j c hj => by
      obtain ⟨y, a1, a2, a3⟩ := hc _ c (part_get hj)
      exact ⟨y, by rwa [show off + o + j = off + (o + j) by omega], a2, a3⟩
    have hlen : ((cs.drop o).take ti.size).length = ti.size := by simp; omega
    exact ⟨_, run_loadVar_cells h ha (by omega) g2, hm.rel g1 fun j c y hj hu => g3 j c y hj hu⟩
  · obtain ⟨y, a1, a2, _⟩ := hc o x hx
    exact ⟨y, run_loadVar_one h ha a1, a2⟩
theorem BR.vard_cells {w : World} {S : Stb} {h : Hp} {β : Bet} {n : Nat} {cs : List D} (hb : BR w S h β n (.vard cs)) : ∃ b, β[n]? = some (some (b, 0)) ∧ CellsAt w S b 0 cs := by
  obtain ⟨b, c, e, h1, h2, h3, h4, h5⟩ := hb
  refine ⟨b, h1, fun j x hj => ?_⟩
  have hj' : j < c.size := by rw [h3]; exact (List.getElem?_eq_some_iff.1 hj).1
  obtain ⟨a1, a2⟩ := h4 j x c[j] hj (Array.getElem?_eq_getElem hj')
  exact ⟨c[j], by rw [Nat.zero_add, cell_of_row w b j c e (0, 0) h2, Array.getElem?_eq_getElem hj'], a2, a1⟩
theorem BR.var_cells {w : World} {S : Stb} {h : Hp} {β : Bet} {n : Nat} {cs : List V} (hb : BR w S h β n (.var cs)) : ∃ b, β[n]? = some (some (b, 0)) ∧ CellsAtV w S h β b 0 cs := by
  obtain ⟨b, c, e, h1, h2, h3, h4, h5⟩ := hb
  refine ⟨b, h1, fun j x hj => ?_⟩
  have hj' : j < c.size := by rw [h3]; exact (List.getElem?_eq_some_iff.1 hj).1
  obtain ⟨a1, a2⟩ := h4 j x c[j] hj (Array.getElem?_eq_getElem hj')
  exact ⟨c[j], by rw [Nat.zero_add, cell_of_row w b j c e (0, 0) h2, Array.getElem?_eq_getElem hj'], a2, a1⟩
theorem BR.row_cells {w : World} {S : Stb} {h : Hp} {β : Bet} {n ver sz : Nat} {ro : Bool} {xs : List D} (hb : BR w S h β n (.row ver sz ro xs)) {i : Nat} {x : D} (hx : xs[i]? = some x) :
    ∃ b base, β[n]? = some (some (b, base)) ∧ CellsAt w S b (base + i * sz) x.cells := by
  obtain ⟨h0, h1, ⟨rfl, _⟩ | ⟨b, base, c, e, h2, h3, h4, h5, h6⟩⟩ := hb
  · simp at hx
  · refine ⟨b, base, h2, fun j y hy => ?_⟩
    obtain ⟨u, hu, hd⟩ := h5 i x j y hx hy
    exact ⟨u, by rw [cell_of_row w b _ c e (0, 0) h3]; exact hu, hd, (h1 i x hx).2 j y hy⟩
theorem aLoad_sound (hT : tokB P T = true) {o : Oper} {t : TypeId} {a : Operand} (ho : o.op = .load t a) {av : V} {bs : List Blk} {K : Kt} (hbs : bs.length = (addrN av).length) (h : aLoad T t av bs K) :
    ∃ v, K v bs ∧ OpS P o [av] (addrN av) bs bs v := by
  unfold aLoad at h
  cases hty : tyOf T t with
  | none => simp [hty] at h
  | some ti =>
    have hti := tyOf_ok hT hty
    simp only [hty] at h
    have hexec : ∀ (ρ : Operand → Value) (w : World) (b off : Nat) cv, ρ a = .pointer (some ⟨b, off, none⟩) → (loadVar t ⟨b, off, none⟩).run P w = .ok cv w → (execOp ρ o).run P w = .ok (.value cv) w := by
      intro ρ w b off cv hρ hl
      simp [execOp, ho, Instr.loadAt, Instr.sureAddr, hρ, hl]
    split at h
    · rename_i cs off
      obtain ⟨x, hk, hx⟩ := readD_det h
      refine ⟨_, hk, OpS.pure fun ρ w S hp β hr hor _ => ?_⟩
      have hv := (show OR w S hp β ρ [a] _ by simpa [ho, opArgs] using hor).one
      generalize ha : ρ a = av at hv
      cases hv with
      | rp _ _ b base uf h1 h2 =>
        obtain ⟨cv, e1, e2⟩ := hx.run hti (w := w) (S := S) (b := b) (off := base) fun j c hj => ⟨uf j, (h1 j c hj).2.1, h2 j c hj, (h1 j c hj).1⟩
        exact ⟨_, cv, hexec ρ w b _ cv ha e1, .inl rfl, .d e2⟩
    · rename_i n ver e off cs
      obtain ⟨x, hk, hx⟩ := readD_det h
      refine ⟨_, hk, OpS.pure fun ρ w S hp β hr hor hb => ?_⟩
      have hv := (show OR w S hp β ρ [a] _ by simpa [ho, opArgs] using hor).one
      have hn : hp[n]? = some (.vard cs) := by simpa [addrN] using hb 0 n rfl
      generalize ha : ρ a = av at hv
      cases hv with
      | ptr h1 h2 =>
        simp only [PR, hn] at h2
        obtain ⟨b, hbn, rfl, rfl, rfl⟩ := h2
        obtain ⟨b', hb', hc⟩ := (hr.blk n _ hn).vard_cells
        rw [hbn] at hb'; simp at hb'; subst hb'
        obtain ⟨cv, e1, e2⟩ := hx.run hti hc
        rw [Nat.zero_add] at e1
        exact ⟨_, cv, hexec ρ w b _ cv ha e1, .inl rfl, .d e2⟩
    · rename_i n ver e off cs
      obtain ⟨x, hk, hx⟩ := readV_det h
      refine ⟨_, hk, OpS.pure fun ρ w S hp β hr hor hb => ?_⟩
      have hv := (show OR w S hp β ρ [a] _ by simpa [ho, opArgs] using hor).one
      have hn : hp[n]? = some (.var cs) := by simpa [addrN] using hb 0 n rfl
      generalize ha : ρ a = av at hv
      cases hv with
      | ptr h1 h2 =>
        simp only [PR, hn] at h2
        obtain ⟨b, hbn, rfl, rfl, rfl⟩ := h2
        obtain ⟨b', hb', hc⟩ := (hr.blk n _ hn).var_cells
        rw [hbn] at hb'; simp at hb'; subst hb'
        obtain ⟨cv, e1, e2⟩ := hx.run hti hc
        rw [Nat.zero_add] at e1
        exact ⟨_, cv, hexec ρ w b _ cv ha e1, .inl rfl, e2⟩
    · rename_i n ver e off ver' sz ro xs
      obtain ⟨hver, h⟩ := h.elim
      subst hver
      obtain ⟨y, hy, h⟩ := nthK_iff.1 h
      obtain ⟨x, hk, hx⟩ := readD_det h
      refine ⟨_, hk, OpS.pure fun ρ w S hp β hr hor hb => ?_⟩
      have hv := (show OR w S hp β ρ [a] _ by simpa [ho, opArgs] using hor).one
      have hn : hp[n]? = some (.row ver sz ro xs) := by simpa [addrN] using hb 0 n rfl
      generalize ha : ρ a = av at hv
      cases hv with
      | ptr h1 h2 =>
        simp only [PR, hn] at h2
        obtain ⟨_, _, h2⟩ := h2
        obtain ⟨b, base, hbn, rfl⟩ := h2 trivial
        obtain ⟨b', base', hb', hc⟩ := (hr.blk n _ hn).row_cells hy
        rw [hbn] at hb'; simp at hb'; obtain ⟨rfl, rfl⟩ := hb'
        obtain ⟨cv, e1, e2⟩ := hx.run hti hc
        exact ⟨_, cv, hexec ρ w b _ cv ha e1, .inl rfl, .d e2⟩
    · exact h.elim
end Go.PM
/-
  PM, part 6: operations: stores, new variables, addresses, fields, elements.
-/
set_option linter.unusedSectionVars false
namespace Go.PM
variable [Glob]
variable {P : Program} {T : TT}
def ClK (v : V) (l : List V) : Prop :=
  (∃ cs, v = .d (.agg cs) ∧ l = cs.map .d) ∨ (∃ x : D, x.flat = true ∧ v = .d x ∧ l = [.d x]) ∨ (v = .agg l) ∨ (v.flat = true ∧ l = [v])
theorem cellsK_det {v : V} {k : List V → Prop} (h : cellsK v k) : ∃ l, k l ∧ ClK v l := by
  unfold cellsK at h
  split at h
  · exact ⟨_, h, .inl ⟨_, rfl, rfl⟩⟩
  · rename_i x hx
    refine ⟨_, h, .inr (.inl ⟨x, ?_, rfl, rfl⟩)⟩
    cases x <;> first | rfl | exact absurd rfl (hx _)
  · exact ⟨_, h, .inr (.inr (.inl rfl))⟩
  · exact h.elim
  · exact h.elim
  · rename_i h1 h2 h3 h4 h5
    refine ⟨_, h, .inr (.inr (.inr ⟨?_, rfl⟩))⟩
    cases v <;> first | rfl | exact absurd rfl (h2 _) | exact absurd rfl (h3 _) | exact absurd rfl h4 | exact absurd rfl (h5 _)
theorem one_cells {v : Value} (h : one v = true) : v.cells = #[v] := by cases v <;> simp_all [one, Value.cells]
theorem DR.cells {w : World} {S : Stb} {x : D} {v : Value} (h : DR w S x v) : v.cells.toList.length = x.cells.length ∧
    ∀ (j : Nat) (c : D) (y : Value), x.cells[j]? = some c → v.cells.toList[j]? = some y → DR w S c y ∧ c.flat = true := by
  by_cases hx : x.flat = true
  · have hv := one_cells (h.one hx)
    have hc : x.cells = [x] := by cases x <;> simp_all [D.cells, D.flat]
    rw [hv, hc]
    refine ⟨rfl, fun j c y hj hy => ?_⟩
    cases j with
    | zero => simp at hj hy; subst hj; subst hy; exact ⟨h, hx⟩
    | succ j => simp at hj
  · cases h with
    | agg cs arr h1 h2 h3 =>
      simp only [Value.cells, D.cells]
      exact ⟨by simpa using h1, fun j c y hj hy => ⟨h3 j c y hj (by simpa using hy), h2 j c hj⟩⟩
    | _ => simp [D.flat] at hx
theorem ClK.rel {v : V} {l : List V} (h : ClK v l) {w : World} {S : Stb} {hp : Hp} {β : Bet} {cv : Value} (hv : VR w S hp β v cv) : cv.cells.toList.length = l.length ∧
    ∀ (j : Nat) (c : V) (y : Value), l[j]? = some c → cv.cells.toList[j]? = some y → VR w S hp β c y ∧ c.flat = true := by
  rcases h with ⟨cs, rfl, rfl⟩ | ⟨x, hx, rfl, rfl⟩ | rfl | ⟨hf, rfl⟩
  · cases hv with
    | d hd =>
      obtain ⟨a, b⟩ := hd.cells
      refine ⟨by simpa [D.cells] using a, fun j c y hj hy => ?_⟩
      simp only [List.getElem?_map, Option.map_eq_some_iff] at hj
      obtain ⟨c', hc', rfl⟩ := hj
      obtain ⟨r1, r2⟩ := b j c' y hc' hy
      exact ⟨.d r1, r2⟩
  · have hv1 := one_cells (hv.one (by exact hx))
    rw [hv1]
    refine ⟨rfl, fun j c y hj hy => ?_⟩
    cases j with
    | zero => simp at hj hy; subst hj; subst hy; exact ⟨hv, hx⟩
    | succ j => simp at hj
  · cases hv with
    | agg cs arr h1 h2 h3 =>
      simp only [Value.cells]
      exact ⟨by simpa using h1, fun j c y hj hy => ⟨h3 j c y hj (by simpa using hy), h2 j c hj⟩⟩
  · have hv1 := one_cells (hv.one hf)
    rw [hv1]
    refine ⟨rfl, fun j c y hj hy => ?_⟩
    cases j with
    | zero => simp at hj hy; subst hj; subst hy; exact ⟨hv, hf⟩
    | succ j => simp at hj
theorem run_storeVar_ok {t : TypeId} {ti : TI} (h : tiOk P t ti = true) {w : World} {b off : Nat} {v : Value} {cells : Array Value} {e : TypeId} (hw : w.heap[b]? = some (.cells cells e (0, 0)))
    (hs : v.cells.toList.length = ti.size) (h1 : ∀ y ∈ v.cells.toList, one y = true) (hl : off + v.cells.toList.length ≤ cells.size) :
    (storeVar t ⟨b, off, none⟩ v).run P w = .ok () (w.setRow b (ov cells.toList off v.cells.toList).toArray) := by
  have := run_storeCells_at P b off e v.cells.toList 0 cells w hw (by omega) (fun y hy => by rw [← one_eq]; exact h1 y hy)
  simp only [Nat.add_zero] at this
  have hs' : v.cells.size = ti.size := by simpa using hs
  simp [storeVar, run_sizeOf' h, hs', this, ov]
theorem writeD_det {cs : List D} {o : Nat} {x : D} {k : List D → Prop} (h : writeD cs o x k) (hx : x.cells ≠ []) : o + x.cells.length ≤ cs.length ∧ k (ov cs o x.cells) := by
  unfold writeD at h
  split at h
  · rename_i l
    simp only [D.cells] at hx ⊢
    split at h
    · split at h
      · rename_i h1
        have h1 := Nat.eq_of_beq_eq_true h1
        refine ⟨by omega, ?_⟩
        have : ov cs 0 l = l := by simp [ov, ← h1]
        rwa [this]
      · rcases layK_spec _ _ _ _ h with ⟨rfl, _⟩ | ⟨_, h1, h2⟩
        · exact absurd rfl hx
        · exact ⟨h1, h2⟩
    · rcases layK_spec _ _ _ _ h with ⟨rfl, _⟩ | ⟨_, h1, h2⟩
      · exact absurd rfl hx
      · exact ⟨h1, h2⟩
  · rename_i hx'
    have hc : x.cells = [x] := by cases x <;> first | rfl | exact absurd rfl (hx' _)
    rw [hc]
    obtain ⟨h1, h2⟩ := setK_iff.1 h
    refine ⟨by simp; omega, ?_⟩
    have hl : layK cs o [x] (fun z => z = cs.set o x) := by
      simp only [layK]; exact setK_mk h1 rfl
    rcases layK_spec _ _ _ _ hl with ⟨h3, _⟩ | ⟨_, _, h4⟩
    · cases h3
    · rwa [h4]
theorem ov_map {α β : Type} (f : α → β) (xs ys : List α) (o : Nat) : (ov xs o ys).map f = ov (xs.map f) o (ys.map f) := by
  simp [ov]
theorem ov_rel {α β : Type} {R : α → β → Prop} {xs ys : List α} {us vs : List β} {o o' : Nat} (hl : o + ys.length ≤ xs.length) (hl' : o' + vs.length ≤ us.length) (he : ys.length = vs.length)
    (hx : ∀ (j : Nat) (x : α) (y : β), xs[j]? = some x → us[(o' - o) + j]? = some y → R x y) (hoo : o ≤ o')
    (hy : ∀ (j : Nat) (x : α) (y : β), ys[j]? = some x → vs[j]? = some y → R x y) :
    ∀ (j : Nat) (x : α) (y : β), (ov xs o ys)[j]? = some x → (ov us o' vs)[(o' - o) + j]? = some y → R x y := by
  intro j x y h1 h2
  rw [ov_get hl] at h1
  rw [ov_get hl'] at h2
  by_cases a : j < o
  · rw [if_pos a] at h1
    rw [if_pos (by omega)] at h2
    exact hx j x y h1 h2
  · rw [if_neg a] at h1
    rw [if_neg (by omega)] at h2
    by_cases b : j < o + ys.length
    · rw [if_pos b] at h1
      rw [if_pos (by omega), show o' - o + j - o' = j - o by omega] at h2
      exact hy _ x y h1 h2
    · rw [if_neg b] at h1
      rw [if_neg (by omega)] at h2
      exact hx j x y h1 h2
theorem flat_cells (x : D) (hx : x.flat = true) : x.cells = [x] := by cases x <;> simp_all [D.cells, D.flat]
theorem ofCells_cells {y : D} {l : List D} (hl : l.length = y.cells.length) (hf : ∀ (j : Nat) (c : D), l[j]? = some c → c.flat = true) : (ofCells y l).cells = l := by
  unfold ofCells
  split
  · rfl
  · rename_i hy
    have : y.cells = [y] := by cases y <;> first | rfl | exact absurd rfl (hy _)
    rw [this] at hl
    match l, hl with
    | [z], _ => exact flat_cells z (hf 0 z rfl)
theorem BR.vard_var {w : World} {S : Stb} {h : Hp} {β : Bet} {n : Nat} {cs : List D} : BR w S h β n (.vard cs) ↔ BR w S h β n (.var (cs.map .d)) := by
  constructor
  · rintro ⟨b, c, e, h1, h2, h3, h4, h5⟩
    refine ⟨b, c, e, h1, h2, by simpa using h3, fun j x y hj hy => ?_, h5⟩
    simp only [List.getElem?_map, Option.map_eq_some_iff] at hj
    obtain ⟨c', hc', rfl⟩ := hj
    exact ⟨(h4 j c' y hc' hy).1, .d (h4 j c' y hc' hy).2⟩
  · rintro ⟨b, c, e, h1, h2, h3, h4, h5⟩
    refine ⟨b, c, e, h1, h2, by simpa using h3, fun j x y hj hy => ?_, h5⟩
    obtain ⟨q1, q2⟩ := h4 j (.d x) y (by simp [hj]) hy
    cases q2 with
    | d hd => exact ⟨q1, hd⟩
theorem store_core {t : TypeId} {ti : TI} (hti : tiOk P t ti = true) {o : Oper} {a x : Operand} (ho : o.op = .store t a x) {ρ : Operand → Value} {w : World} {S : Stb} {hp : Hp} {β : Bet} (hr : HR w S hp β)
    {n b off : Nat} {blk blk' : Blk} {cs l : List V} (hn : hp[n]? = some blk) (hbr : BR w S hp β n (.var cs)) (hbn : β[n]? = some (some (b, 0))) (ha : ρ a = .pointer (some ⟨b, off, none⟩))
    (hx : (ρ x).cells.toList.length = l.length ∧ ∀ (j : Nat) (c : V) (y : Value), l[j]? = some c → (ρ x).cells.toList[j]? = some y → VR w S hp β c y ∧ c.flat = true)
    (hl : l.length = ti.size) (hlen : off + l.length ≤ cs.length)
    (hev : BEv blk (some (some (b, 0))) blk' (some (some (b, 0)))) (hb' : ∀ w S h β, BR w S h β n (.var (ov cs off l)) → BR w S h β n blk') (hone' : blk'.own = false := by rfl) :
    ∃ nx w' S' β' cv, (execOp ρ o).run P w = .ok nx w' ∧ (nx = .value cv ∨ (nx = .skip ∧ cv = undef)) ∧ HR w' S' (hp.set n blk') β' ∧ VR w' S' (hp.set n blk') β' .u cv ∧ Evol w S hp β w' S' (hp.set n blk') β' := by
  obtain ⟨b', cells, e, k1, k2, k3, k4, k5⟩ := hbr
  rw [hbn] at k1; simp at k1; subst k1
  obtain ⟨q1, q2⟩ := hx
  have hlc : off + (ρ x).cells.toList.length ≤ cells.toList.length := by rw [q1]; simp only [Array.length_toList, k3]; exact hlen
  have hone : ∀ y ∈ (ρ x).cells.toList, one y = true := fun y hy => by
    obtain ⟨j, hj⟩ := List.mem_iff_getElem?.1 hy
    have hjl : j < l.length := by rw [← q1]; exact (List.getElem?_eq_some_iff.1 hj).1
    obtain ⟨d1, d2⟩ := q2 j _ y (List.getElem?_eq_getElem hjl) hj
    exact d1.one d2
  have hrun := run_storeVar_ok hti k2 (by rw [q1]; exact hl) hone (by simpa using hlc)
  have hset : β.set n (some (b, 0)) = β := set_self hbn
  have hol := ov_length hlc
  obtain ⟨r1, r2⟩ := written (hone := hone') hr (blk' := blk') hn hbn k2 (cells' := (ov cells.toList off (ρ x).cells.toList).toArray) (by simp only [List.size_toArray, hol, Array.length_toList]) 0 (fun o ho => absurd ho (k5 o)) hev
    (fun E _ hh => by
      rw [hset] at E ⊢
      refine hb' _ _ _ _ ⟨b, _, e, hbn, hh, ?_, fun j c y hj hy => ?_, k5⟩
      · simp only [List.size_toArray, hol, Array.length_toList, k3, ov_length hlen]
      · have := ov_rel (R := fun (c : V) (y : Value) => c.flat = true ∧ VR w S hp β c y) (xs := cs) (ys := l) (us := cells.toList) (vs := (ρ x).cells.toList) (o := off) (o' := off) hlen hlc q1.symm
          (fun j c y hj hy => k4 j c y hj (by simpa using hy)) (Nat.le_refl _) (fun j c y hj hy => ⟨(q2 j c y hj hy).2, (q2 j c y hj hy).1⟩) j c y hj (by simpa using hy)
        exact ⟨this.1, this.2.evol E⟩)
  rw [hset] at r1 r2
  refine ⟨.skip, _, S, β, undef, ?_, .inr ⟨rfl, rfl⟩, r1, .u _, r2⟩
  simp [execOp, ho, Instr.storeAt, Instr.sureAddr, ha, hrun]
theorem store_row {t : TypeId} {ti : TI} (hti : tiOk P t ti = true) {o : Oper} {a x : Operand} (ho : o.op = .store t a x) {ρ : Operand → Value} {w : World} {S : Stb} {hp : Hp} {β : Bet} (hr : HR w S hp β)
    {n ver e off sz : Nat} {xs : List D} {y xd : D} (hn : hp[n]? = some (.row ver sz false xs)) (ha : PR hp β n ver e off (ρ a)) (hx : DR w S xd (ρ x))
    (hl : xd.cells.length = ti.size) (hpos : 0 < ti.size) (hy : xs[e]? = some y) (hlen : off + xd.cells.length ≤ y.cells.length) :
    ∃ nx w' S' β' cv, (execOp ρ o).run P w = .ok nx w' ∧ (nx = .value cv ∨ (nx = .skip ∧ cv = undef)) ∧ HR w' S' (hp.set n (.row ver sz false (xs.set e (ofCells y (ov y.cells off xd.cells))))) β' ∧
      VR w' S' (hp.set n (.row ver sz false (xs.set e (ofCells y (ov y.cells off xd.cells))))) β' .u cv ∧ Evol w S hp β w' S' (hp.set n (.row ver sz false (xs.set e (ofCells y (ov y.cells off xd.cells))))) β' := by
  simp only [PR, hn] at ha
  obtain ⟨b, base, hbn, ha⟩ := ha.2.2 trivial
  obtain ⟨g0, g1, ⟨rfl, _⟩ | ⟨b', base', cells, el, k1, k2, k3, k4, k5⟩⟩ := hr.blk n _ hn
  · simp at hy
  · rw [hbn] at k1; simp at k1; obtain ⟨rfl, rfl⟩ := k1
    obtain ⟨q1, q2⟩ := hx.cells
    have he : e < xs.length := (List.getElem?_eq_some_iff.1 hy).1
    have hysz := (g1 e y hy).1
    have hmul : e * sz + sz ≤ xs.length * sz := by have := Nat.mul_le_mul_right sz (show e + 1 ≤ xs.length from he); rwa [Nat.succ_mul] at this
    have hlc : base + e * sz + off + (ρ x).cells.toList.length ≤ cells.toList.length := by rw [q1]; simp only [Array.length_toList]; omega
    have hone : ∀ y ∈ (ρ x).cells.toList, one y = true := fun y hy => by
      obtain ⟨j, hj⟩ := List.mem_iff_getElem?.1 hy
      have hjl : j < xd.cells.length := by rw [← q1]; exact (List.getElem?_eq_some_iff.1 hj).1
      obtain ⟨d1, d2⟩ := q2 j _ y (List.getElem?_eq_getElem hjl) hj
      exact d1.one d2
    have hnS : ∀ o, ¬ S b o := fun o ho => by have := (k5 o ho).1; cases this
    have hrun := run_storeVar_ok hti k2 (by rw [q1]; exact hl) hone (by simpa using hlc)
    have hset : β.set n (some (b, base)) = β := set_self hbn
    have hol := ov_length hlc
    have hovl := ov_length hlen
    have hflat : ∀ (j : Nat) (c : D), (ov y.cells off xd.cells)[j]? = some c → c.flat = true := fun j c hj => by
      rw [ov_get hlen] at hj
      split at hj
      · exact (g1 e y hy).2 j c hj
      · split at hj
        · obtain ⟨z, hz⟩ : ∃ z, (ρ x).cells.toList[j - off]? = some z := by
            have hjl : j - off < (ρ x).cells.toList.length := by rw [q1]; exact (List.getElem?_eq_some_iff.1 hj).1
            exact ⟨_, List.getElem?_eq_getElem hjl⟩
          exact (q2 _ c z hj hz).2
        · exact (g1 e y hy).2 j c hj
    have hofc : (ofCells y (ov y.cells off xd.cells)).cells = ov y.cells off xd.cells := ofCells_cells hovl hflat
    obtain ⟨r1, r2⟩ := written hr (blk' := .row ver sz false (xs.set e (ofCells y (ov y.cells off xd.cells)))) hn hbn k2 (cells' := (ov cells.toList (base + e * sz + off) (ρ x).cells.toList).toArray)
      (by simp only [List.size_toArray, hol, Array.length_toList]) base (fun o ho => absurd ho (hnS o)) (by simp [BEv])
      (fun E _ hh => by
        rw [hset] at E ⊢
        refine ⟨g0, fun i z hz => ?_, .inr ⟨b, base, _, el, hbn, hh, ?_, fun i z j c hz hj => ?_, fun o ho => absurd ho (hnS o)⟩⟩
        · rw [List.getElem?_set] at hz
          split at hz
          · rename_i hi; subst hi
            simp at hz; obtain ⟨_, rfl⟩ := hz
            rw [hofc]
            exact ⟨by rw [hovl]; exact hysz, hflat⟩
          · exact g1 i z hz
        · simp only [List.size_toArray, hol, Array.length_toList, List.length_set]; exact k3
        · simp only [List.getElem?_toArray]
          rw [ov_get hlc]
          rw [List.getElem?_set] at hz
          split at hz
          · rename_i hi; subst hi
            simp at hz; obtain ⟨_, rfl⟩ := hz
            rw [hofc, ov_get hlen] at hj
            by_cases a1 : j < off
            · rw [if_pos a1] at hj
              rw [if_pos (by omega)]
              obtain ⟨u, hu, hd⟩ := k4 e y j c hy hj
              exact ⟨u, by simpa using hu, hd.evol E.sub E.cell⟩
            · rw [if_neg a1] at hj
              by_cases a2 : j < off + xd.cells.length
              · rw [if_pos a2] at hj
                rw [if_neg (by omega), if_pos (by rw [q1]; omega)]
                have hjl : j - off < (ρ x).cells.toList.length := by rw [q1]; omega
                refine ⟨(ρ x).cells.toList[j - off], ?_, ((q2 (j - off) c _ hj (List.getElem?_eq_getElem hjl)).1).evol E.sub E.cell⟩
                rw [show base + e * sz + j - (base + e * sz + off) = j - off by omega]
                exact List.getElem?_eq_getElem hjl
              · rw [if_neg a2] at hj
                rw [if_neg (by omega), if_neg (by rw [q1]; omega)]
                obtain ⟨u, hu, hd⟩ := k4 e y j c hy hj
                exact ⟨u, by simpa using hu, hd.evol E.sub E.cell⟩
          · rename_i hi
            have hjz : j < sz := by rw [← (g1 i z hz).1]; exact (List.getElem?_eq_some_iff.1 hj).1
            obtain ⟨u, hu, hd⟩ := k4 i z j c hz hj
            refine ⟨u, ?_, hd.evol E.sub E.cell⟩
            rcases Nat.lt_or_ge i e with hlt | hge
            · have := Nat.mul_le_mul_right sz (show i + 1 ≤ e from hlt)
              rw [Nat.succ_mul] at this
              rw [if_pos (by omega)]; simpa using hu
            · have := Nat.mul_le_mul_right sz (show e + 1 ≤ i by omega)
              rw [Nat.succ_mul] at this
              rw [if_neg (by omega), if_neg (by rw [q1]; omega)]; simpa using hu)
    rw [hset] at r1 r2
    refine ⟨.skip, _, S, β, undef, ?_, .inr ⟨rfl, rfl⟩, r1, .u _, r2⟩
    simp [execOp, ho, Instr.storeAt, Instr.sureAddr, ha, hrun]
theorem aStore_sound (hT : tokB P T = true) {o : Oper} {t : TypeId} {a x : Operand} (ho : o.op = .store t a x) {av xv : V} {bs : List Blk} {K : Kt} (h : aStore T t av xv bs K) :
    ∃ v bs', K v bs' ∧ OpS P o [av, xv] (addrN av) bs bs' v := by
  unfold aStore at h
  cases hty : tyOf T t with
  | none => simp [hty] at h
  | some ti =>
    have hti := tyOf_ok hT hty
    simp only [hty] at h
    replace h := (chkB_iff _ _).1 h
    obtain ⟨hpos0, h⟩ := h
    have hpos : 0 < ti.size := Nat.le_of_ble_eq_true hpos0
    clear hpos0
    split at h
    · -- vard
      rename_i n ver e off cs
      split at h
      · rename_i xd
        obtain ⟨hsz, h⟩ := (chkB_iff _ _).1 h
        have hsz := Nat.eq_of_beq_eq_true hsz
        obtain ⟨hlen, hk⟩ := writeD_det h (fun e => by rw [e] at hsz; simp at hsz; omega)
        refine ⟨_, _, hk, fun ρ w S hp β hr hor hb => ?_⟩
        have hor2 := (show OR w S hp β ρ [a, x] _ by simpa [ho, opArgs] using hor).two
        have hn : hp[n]? = some (.vard cs) := by simpa [addrN] using hb 0 n rfl
        obtain ⟨hp1, hx1⟩ := hor2
        simp only [addrN, setL]
        generalize ha : ρ a = aw at hp1
        cases hp1 with
        | ptr g1 g2 =>
          simp only [PR, hn] at g2
          obtain ⟨b, hbn, rfl, rfl, rfl⟩ := g2
          cases hx1 with
          | d hd =>
            obtain ⟨q1, q2⟩ := hd.cells
            refine store_core hti ho hr (l := xd.cells.map .d) hn (BR.vard_var.1 (hr.blk n _ hn)) hbn ha ⟨by simpa using q1, fun j c y hj hy => ?_⟩ (by simpa using hsz) (by simpa using hlen) (by simp [BEv]) (fun w S h β hh => ?_)
            · simp only [List.getElem?_map, Option.map_eq_some_iff] at hj
              obtain ⟨c', hc', rfl⟩ := hj
              exact ⟨.d (q2 j c' y hc' hy).1, (q2 j c' y hc' hy).2⟩
            · rw [← ov_map] at hh
              exact BR.vard_var.2 hh
      · rename_i hnd
        obtain ⟨l, h, hcl⟩ := cellsK_det h
        obtain ⟨hsz, h⟩ := (chkB_iff _ _).1 h
        have hsz := Nat.eq_of_beq_eq_true hsz
        rcases layK_spec _ _ _ _ h with ⟨rfl, hk⟩ | ⟨hne, hlen, hk⟩
        · simp at hsz; omega
        · refine ⟨_, _, hk, fun ρ w S hp β hr hor hb => ?_⟩
          have hor2 := (show OR w S hp β ρ [a, x] _ by simpa [ho, opArgs] using hor).two
          have hn : hp[n]? = some (.vard cs) := by simpa [addrN] using hb 0 n rfl
          obtain ⟨hp1, hx1⟩ := hor2
          simp only [addrN, setL]
          generalize ha : ρ a = aw at hp1
          cases hp1 with
          | ptr g1 g2 =>
            simp only [PR, hn] at g2
            obtain ⟨b, hbn, rfl, rfl, rfl⟩ := g2
            exact store_core hti ho hr (l := l) hn (BR.vard_var.1 (hr.blk n _ hn)) hbn ha (hcl.rel hx1) hsz hlen (by simp [BEv]) (fun w S h β hh => hh)
    · -- var
      rename_i n ver e off cs
      obtain ⟨l, h, hcl⟩ := cellsK_det h
      obtain ⟨hsz, h⟩ := (chkB_iff _ _).1 h
      have hsz := Nat.eq_of_beq_eq_true hsz
      rcases layK_spec _ _ _ _ h with ⟨rfl, hk⟩ | ⟨hne, hlen, hk⟩
      · simp at hsz; omega
      · refine ⟨_, _, hk, fun ρ w S hp β hr hor hb => ?_⟩
        have hor2 := (show OR w S hp β ρ [a, x] _ by simpa [ho, opArgs] using hor).two
        have hn : hp[n]? = some (.var cs) := by simpa [addrN] using hb 0 n rfl
        obtain ⟨hp1, hx1⟩ := hor2
        simp only [addrN, setL]
        generalize ha : ρ a = aw at hp1
        cases hp1 with
        | ptr g1 g2 =>
          simp only [PR, hn] at g2
          obtain ⟨b, hbn, rfl, rfl, rfl⟩ := g2
          exact store_core hti ho hr (l := l) hn (hr.blk n _ hn) hbn ha (hcl.rel hx1) hsz hlen (by simp [BEv]) (fun w S h β hh => hh)
    · -- row
      rename_i n ver e off ver' sz ro xs
      split at h
      · rename_i xd
        obtain ⟨hsz, h⟩ := (chkB_iff _ _).1 h
        have hsz := Nat.eq_of_beq_eq_true hsz
        obtain ⟨hver, h⟩ := h.elim
        subst hver
        obtain ⟨y, hy, h⟩ := nthK_iff.1 h
        obtain ⟨hlen, h⟩ := writeD_det h (fun e => by rw [e] at hsz; simp at hsz; omega)
        obtain ⟨_, hk⟩ := setK_iff.1 h
        refine ⟨_, _, hk, fun ρ w S hp β hr hor hb => ?_⟩
        have hor2 := (show OR w S hp β ρ [a, x] _ by simpa [ho, opArgs] using hor).two
        have hn : hp[n]? = some (.row ver sz false xs) := by simpa [addrN] using hb 0 n rfl
        obtain ⟨hp1, hx1⟩ := hor2
        simp only [addrN, setL]
        cases hp1 with
        | ptr g1 g2 => cases hx1 with
          | d hd => exact store_row hti ho hr hn g2 hd hsz hpos hy hlen
      · exact h.elim
    · exact h.elim
end Go.PM
/-
  PM, part 7: operations: new variables, composites, fields, elements, arithmetic.
-/
set_option linter.unusedSectionVars false
namespace Go.PM
variable [Glob]
variable {P : Program} {T : TT}
theorem run_newVar (w : World) (t : TypeId) (v : Value) : (newVar t v).run P w = .ok ⟨w.heap.size, 0, none⟩ (w.alloc (.cells v.cells t)) := by
  simp [newVar, newRow, newObj, Sem.run]
theorem alloc_var {w : World} {S : Stb} {h : Hp} {β : Bet} (hr : HR w S h β) {n : Nat} (hn : h[n]? = some .res) (t : TypeId) (cells : Array Value) (blk' : Blk) (cs : List V)
    (hl : cells.toList.length = cs.length) (hc : ∀ (j : Nat) (c : V) (y : Value), cs[j]? = some c → cells.toList[j]? = some y → VR w S h β c y ∧ c.flat = true)
    (hb : ∀ w S h β, BR w S h β n (.var cs) → BR w S h β n blk') (hk : (∃ cs, blk' = .var cs) ∨ ∃ cs, blk' = .vard cs) :
    ∃ β', HR (w.alloc (.cells cells t)) S (h.set n blk') β' ∧ Evol w S h β (w.alloc (.cells cells t)) S (h.set n blk') β' ∧ VR (w.alloc (.cells cells t)) S (h.set n blk') β' (.ptr n 0 0 0) (.pointer (some ⟨w.heap.size, 0, none⟩)) := by
  have hnl : n < h.length := (List.getElem?_eq_some_iff.1 hn).1
  obtain ⟨r1, r2⟩ := alloced (hone := by rcases hk with ⟨_, rfl⟩ | ⟨_, rfl⟩ <;> rfl) hr hn (.cells cells t) blk' 0 (frozen_alloc_cells w cells t) (fun E hS hβ hh =>
    hb _ _ _ _ ⟨w.heap.size, cells, t, hβ, hh, by simpa using hl, fun j c y hj hy => by
      obtain ⟨a, b⟩ := hc j c y hj (by simpa using hy)
      exact ⟨b, a.evol E⟩, hS⟩)
  refine ⟨_, r1, r2, .ptr rfl ?_⟩
  have hget : (h.set n blk')[n]? = some blk' := by simp [hnl]
  have hβ : (β.set n (some (w.heap.size, 0)))[n]? = some (some (w.heap.size, 0)) := by
    have : n < β.length := Nat.lt_of_lt_of_le hnl hr.len
    simp [this]
  unfold PR
  rw [hget]
  rcases hk with ⟨cs, rfl⟩ | ⟨cs, rfl⟩ <;> exact ⟨_, hβ, rfl, rfl, rfl⟩
theorem zs_cells {ti : TI} {z : Value} (h : zsEq ti.zero z.cells.toList = true) (w : World) (S : Stb) (hp : Hp) (β : Bet) : z.cells.toList.length = (ti.zero.map V.d).length ∧
    ∀ (j : Nat) (c : V) (y : Value), (ti.zero.map V.d)[j]? = some c → z.cells.toList[j]? = some y → VR w S hp β c y ∧ c.flat = true := by
  obtain ⟨h1, h2⟩ := zsEq_spec h
  refine ⟨by simp [h1], fun j c y hj hy => ?_⟩
  simp only [List.getElem?_map, Option.map_eq_some_iff] at hj
  obtain ⟨c', hc', rfl⟩ := hj
  obtain ⟨a, b⟩ := h2 j c' y hc' hy w S
  exact ⟨.d a, b⟩
theorem aAlloc_sound (hT : tokB P T = true) {o : Oper} {t : TypeId} (ho : o.op = .alloc t) {vs : List V} {nf : Nat} {K : Kt} (h : zeroV T t fun _ z => K (.ptr nf 0 0 0) [.vard z]) :
    ∃ v bs', K v bs' ∧ OpS P o vs [nf] [.res] bs' v := by
  unfold zeroV at h
  cases hty : tyOf T t with
  | none => simp [hty] at h
  | some ti =>
    simp only [hty] at h
    obtain ⟨i, z, hi⟩ := tiOk_info (tyOf_ok hT hty)
    refine ⟨_, _, h, fun ρ w S hp β hr hor hb => ?_⟩
    have hn : hp[nf]? = some .res := by simpa using hb 0 nf rfl
    obtain ⟨a, b⟩ := zs_cells hi.zs w S hp β
    obtain ⟨β', r1, r2, r3⟩ := alloc_var hr hn t z.cells (.vard ti.zero) (ti.zero.map .d) a b (fun _ _ _ _ hh => BR.vard_var.2 hh) (.inr ⟨_, rfl⟩)
    refine ⟨_, _, S, β', _, ?_, .inl rfl, by simpa [setL] using r1, by simpa [setL] using r3, by simpa [setL] using r2⟩
    simp [execOp, ho, Instr.alloc, run_zeroValue' hi, run_newVar]
theorem aBox_sound {o : Oper} {t : TypeId} {x : Operand} (ho : o.op = .box t x) {xv : V} {nf : Nat} {K : Kt} (h : mkBox xv fun b => K (.ptr nf 0 0 0) [b]) :
    ∃ v bs', K v bs' ∧ OpS P o [xv] [nf] [.res] bs' v := by
  unfold mkBox at h
  split at h
  · rename_i xd
    refine ⟨_, _, h, fun ρ w S hp β hr hor hb => ?_⟩
    have hn : hp[nf]? = some .res := by simpa using hb 0 nf rfl
    have hv := (show OR w S hp β ρ [x] _ by simpa [ho, opArgs] using hor).one
    cases hv with
    | d hd =>
      obtain ⟨a, b⟩ := hd.cells
      obtain ⟨β', r1, r2, r3⟩ := alloc_var hr hn t (ρ x).cells (.vard xd.cells) (xd.cells.map .d) (by simpa using a) (fun j c y hj hy => by
        simp only [List.getElem?_map, Option.map_eq_some_iff] at hj
        obtain ⟨c', hc', rfl⟩ := hj
        exact ⟨.d (b j c' y hc' hy).1, (b j c' y hc' hy).2⟩) (fun _ _ _ _ hh => BR.vard_var.2 hh) (.inr ⟨_, rfl⟩)
      refine ⟨_, _, S, β', _, ?_, .inl rfl, by simpa [setL] using r1, by simpa [setL] using r3, by simpa [setL] using r2⟩
      simp [execOp, ho, Instr.box, run_newVar]
  · obtain ⟨l, h, hcl⟩ := cellsK_det h
    refine ⟨_, _, h, fun ρ w S hp β hr hor hb => ?_⟩
    have hn : hp[nf]? = some .res := by simpa using hb 0 nf rfl
    have hv := (show OR w S hp β ρ [x] _ by simpa [ho, opArgs] using hor).one
    obtain ⟨a, b⟩ := hcl.rel hv
    obtain ⟨β', r1, r2, r3⟩ := alloc_var hr hn t (ρ x).cells (.var l) l a b (fun _ _ _ _ hh => hh) (.inl ⟨_, rfl⟩)
    refine ⟨_, _, S, β', _, ?_, .inl rfl, by simpa [setL] using r1, by simpa [setL] using r3, by simpa [setL] using r2⟩
    simp [execOp, ho, Instr.box, run_newVar]
theorem pure1 {o : Oper} {x : Operand} (hargs : opArgs o.op = [x]) {xv v : V} {bs : List Blk} {ns : List Nat}
    (h : ∀ (ρ : Operand → Value) (w : World) (S : Stb) (hp : Hp) (β : Bet), VR w S hp β xv (ρ x) → ∃ cv, (execOp ρ o).run P w = .ok (.value cv) w ∧ VR w S hp β v cv) : OpS P o [xv] ns bs bs v :=
  OpS.pure fun ρ w S hp β _ hor _ => by
    obtain ⟨cv, a, b⟩ := h ρ w S hp β (OR.one (by rw [hargs] at hor; exact hor))
    exact ⟨_, cv, a, .inl rfl, b⟩
theorem pure2 {o : Oper} {x y : Operand} (hargs : opArgs o.op = [x, y]) {xv yv v : V} {bs : List Blk} {ns : List Nat}
    (h : ∀ (ρ : Operand → Value) (w : World) (S : Stb) (hp : Hp) (β : Bet), VR w S hp β xv (ρ x) → VR w S hp β yv (ρ y) → ∃ cv, (execOp ρ o).run P w = .ok (.value cv) w ∧ VR w S hp β v cv) : OpS P o [xv, yv] ns bs bs v :=
  OpS.pure fun ρ w S hp β _ hor _ => by
    have h2 := OR.two (by rw [hargs] at hor; exact hor)
    obtain ⟨cv, a, b⟩ := h ρ w S hp β h2.1 h2.2
    exact ⟨_, cv, a, .inl rfl, b⟩
theorem aMove_sound {o : Oper} {x : Operand} (ho : o.op = .move x ∨ o.op = .assign x) {xv : V} {bs : List Blk} {ns : List Nat} : OpS P o [xv] ns bs bs xv := by
  refine pure1 (x := x) (by rcases ho with h | h <;> simp [h, opArgs]) fun ρ w S hp β hv => ⟨ρ x, ?_, hv⟩
  rcases ho with h | h <;> simp [execOp, h]
theorem aNilCheck_sound {o : Oper} {x : Operand} (ho : o.op = .nilCheck x) {xv : V} {bs : List Blk} {ns : List Nat} {K : V → Prop} (h : aNilCheck xv K) : ∃ v, K v ∧ OpS P o [xv] ns bs bs v := by
  have hargs : opArgs o.op = [x] := by simp [ho, opArgs]
  unfold aNilCheck at h
  split at h
  · refine ⟨_, h, pure1 hargs fun ρ w S hp β hv => ⟨ρ x, ?_, hv⟩⟩
    cases hv' : ρ x <;> rw [hv'] at hv
    case pointer a =>
      cases hv with
      | ptr h1 h2 =>
        obtain ⟨b, q, e⟩ := h2.ptr
        cases e
        simp [execOp, ho, hv']
    all_goals (cases hv with
      | ptr h1 h2 => obtain ⟨b, q, e⟩ := h2.ptr; cases e)
  · refine ⟨_, h, pure1 hargs fun ρ w S hp β hv => ⟨ρ x, ?_, hv⟩⟩
    generalize hv' : ρ x = cv at hv
    cases hv with
    | rp cs o b off uf h1 h2 => simp [execOp, ho, hv']
  · refine ⟨_, h, pure1 hargs fun ρ w S hp β hv => ⟨ρ x, ?_, hv⟩⟩
    generalize hv' : ρ x = cv at hv
    cases hv with
    | fn f cap arr h1 h2 => simp [execOp, ho, hv']
  · refine ⟨_, h, pure1 hargs fun ρ w S hp β hv => ⟨ρ x, ?_, hv⟩⟩
    generalize hv' : ρ x = cv at hv
    cases hv with
    | d h => cases h with
      | k v h => simp [execOp, ho, hv']
  · exact h.elim
theorem aPick_sound {o : Oper} {c a b : Operand} (ho : o.op = .pick c a b) {x : Bool} {av bv : V} {bs : List Blk} {ns : List Nat} {K : Kt} (h : br x (K av bs) (K bv bs)) :
    ∃ v, K v bs ∧ OpS P o [.d (.b x), av, bv] ns bs bs v := by
  obtain ⟨h1, h2⟩ := (br_iff _ _ _).1 h
  have key : ∀ (v : V) (y : Operand), (∀ (ρ : Operand → Value) (w : World) (S : Stb) (hp : Hp) (β : Bet), VR w S hp β av (ρ a) → VR w S hp β bv (ρ b) → VR w S hp β v (ρ y)) → (y = if x = true then a else b) → OpS P o [.d (.b x), av, bv] ns bs bs v := by
    intro v y hv hy
    refine OpS.pure fun ρ w S hp β _ hor _ => ?_
    have h3 := (show OR w S hp β ρ [c, a, b] _ by simpa [ho, opArgs] using hor).three
    obtain ⟨a1, a2, a3⟩ := h3
    generalize hc : ρ c = cw at a1
    cases a1 with
    | d hd => cases hd with
      | b => exact ⟨_, ρ y, by cases x <;> simp [execOp, ho, asBool, hc, hy], .inl rfl, hv ρ w S hp β a2 a3⟩
  cases hx : x with
  | true => exact ⟨av, h1 hx, by subst hx; exact key av a (fun _ _ _ _ _ h _ => h) (by simp)⟩
  | false => exact ⟨bv, h2 hx, by subst hx; exact key bv b (fun _ _ _ _ _ _ h => h) (by simp)⟩
theorem fieldOff_det {t : TypeId} {f : Nat} {k : Nat → TypeId → Prop} (hT : tokB P T = true) (h : fieldOff T t f k) : ∃ fields fd, P.underlying t = some (.struct fields) ∧ fields[f]? = some fd ∧ P.cellsOf fd.type ≠ 0 ∧ k fd.offset fd.type := by
  unfold fieldOff at h
  cases hty : tyOf T t with
  | none => simp [hty] at h
  | some ti =>
    simp only [hty] at h
    split at h
    · rename_i fs hk
      obtain ⟨p, hp, h⟩ := nthK_iff.1 h
      obtain ⟨fields, hu, hf, _⟩ := kind_str (tyOf_ok hT hty) hk
      obtain ⟨fd, h1, h2, h3, h4, h5⟩ := (fieldsOk_get hf).2 f p hp
      exact ⟨fields, fd, hu, by simpa using h1, h5, by rw [← h2, ← h3]; exact h⟩
    · exact h.elim
theorem run_fieldPlace {w : World} {a : Addr} {fd : Field} (h : P.cellsOf fd.type ≠ 0) : (fieldPlace a fd).run P w = .ok (a.add fd.offset) w := by
  unfold Program.cellsOf at h
  cases hi : P.info? fd.type with
  | none => simp [hi] at h
  | some i =>
    simp [hi] at h
    simp [fieldPlace, sizeOf, run_typeInfo' hi, h]
theorem aFieldAddr_sound (hT : tokB P T = true) {o : Oper} {t : TypeId} {x : Operand} {f : Nat} (ho : o.op = .fieldAddr t x f) {xv : V} {bs : List Blk} {ns : List Nat} {K : V → Prop} (h : aFieldAddr T t xv f K) :
    ∃ v, K v ∧ OpS P o [xv] ns bs bs v := by
  unfold aFieldAddr at h
  replace h := fieldOff_det hT h
  obtain ⟨fields, fd, hu, hf, hc, h⟩ := h
  have hexec : ∀ (ρ : Operand → Value) (w : World) (b off : Nat), ρ x = .pointer (some ⟨b, off, none⟩) → (execOp ρ o).run P w = .ok (.value (.pointer (some ⟨b, off + fd.offset, none⟩))) w := by
    intro ρ w b off hρ
    simp [execOp, ho, Instr.fieldAt, run_underlying hu, hf, Instr.sureAddr, hρ, run_fieldPlace hc, addr_add]
  split at h
  · rename_i n ver e off
    refine ⟨_, h, pure1 (x := x) (by simp [ho, opArgs]) fun ρ w S hp β hv => ?_⟩
    generalize hρ : ρ x = cw at hv
    cases hv with
    | ptr h1 h2 =>
      obtain ⟨b, q, rfl⟩ := h2.ptr
      exact ⟨_, hexec ρ w b q hρ, .ptr rfl (h2.add _)⟩
  · rename_i cs off
    refine ⟨_, h, pure1 (x := x) (by simp [ho, opArgs]) fun ρ w S hp β hv => ?_⟩
    generalize hρ : ρ x = cw at hv
    cases hv with
    | rp _ _ b base uf h1 h2 => exact ⟨_, hexec ρ w b _ hρ, by rw [Nat.add_assoc]; exact .rp cs (off + fd.offset) b base uf h1 h2⟩
  · exact h.elim
theorem run_part_agg {t : TypeId} {ti : TI} (h : tiOk P t ti = true) (ha : isAggT ti = true) (w : World) (cs : Array Value) (off : Nat) : (part t cs off).run P w = .ok (.agg (cs.extract off (off + ti.size))) w := by
  simp [part, run_isAgg h, ha, run_sizeOf' h]
theorem run_part_one {t : TypeId} {ti : TI} (h : tiOk P t ti = true) (ha : isAggT ti = false) (w : World) {cs : Array Value} {off : Nat} {v : Value} (hv : cs[off]? = some v) : (part t cs off).run P w = .ok v w := by
  simp [part, run_isAgg h, ha, hv]
theorem extract_get (arr : Array Value) (o n j : Nat) (h : o + n ≤ arr.size) : (arr.extract o (o + n)).toList[j]? = if j < n then arr[o + j]? else none := by
  by_cases hj : j < n
  · rw [if_pos hj]
    simp only [Array.getElem?_toList]
    rw [Array.getElem?_extract]
    simp only [Nat.min_eq_left h]
    rw [if_pos (by omega)]
  · rw [if_neg hj]
    simp only [Array.getElem?_toList]
    rw [Array.getElem?_extract]
    simp only [Nat.min_eq_left h]
    rw [if_neg (by omega)]
theorem RdD.part {t : TypeId} {ti : TI} (h : tiOk P t ti = true) {cs : List D} {o : Nat} {x : D} (hk : RdD ti cs o x) {w : World} {S : Stb} {arr : Array Value} (hl : arr.size = cs.length)
    (hc : ∀ (j : Nat) (c : D) (y : Value), cs[j]? = some c → arr[j]? = some y → DR w S c y ∧ c.flat = true) : ∃ cv, (part t arr o).run P w = .ok cv w ∧ DR w S x cv := by
  have get : ∀ (j : Nat) (c : D), cs[j]? = some c → ∃ y, arr[j]? = some y := fun j c hj => by
    have : j < arr.size := by rw [hl]; exact (List.getElem?_eq_some_iff.1 hj).1
    exact ⟨_, Array.getElem?_eq_getElem this⟩
  rcases hk with ⟨ha, hle, rfl⟩ | ⟨ha, hx⟩
  · have hsz : (arr.extract o (o + ti.size)).size = ti.size := by simp; omega
    refine ⟨_, run_part_agg h ha w arr o, .agg _ _ (by rw [hsz]; simp; omega) (fun j c hj => ?_) (fun j c y hj hy => ?_)⟩
    · have hj' := part_get hj
      obtain ⟨y, hy⟩ := get _ c hj'
      exact (hc _ c y hj' hy).2
    · have hj' := part_get hj
      have hjn : j < ti.size := by rw [List.getElem?_take] at hj; split at hj <;> first | assumption | cases hj
      have := extract_get arr o ti.size j (by omega)
      rw [if_pos hjn, Array.getElem?_toList, hy] at this
      exact (hc _ c y hj' this.symm).1
  · obtain ⟨y, hy⟩ := get o x hx
    exact ⟨y, run_part_one h ha w hy, (hc o x y hx hy).1⟩
theorem RdV.part {t : TypeId} {ti : TI} (h : tiOk P t ti = true) {cs : List V} {o : Nat} {x : V} (hk : RdV ti cs o x) {w : World} {S : Stb} {hp : Hp} {β : Bet} {arr : Array Value} (hl : arr.size = cs.length)
    (hc : ∀ (j : Nat) (c : V) (y : Value), cs[j]? = some c → arr[j]? = some y → VR w S hp β c y ∧ c.flat = true) : ∃ cv, (part t arr o).run P w = .ok cv w ∧ VR w S hp β x cv := by
  have get : ∀ (j : Nat) (c : V), cs[j]? = some c → ∃ y, arr[j]? = some y := fun j c hj => by
    have : j < arr.size := by rw [hl]; exact (List.getElem?_eq_some_iff.1 hj).1
    exact ⟨_, Array.getElem?_eq_getElem this⟩
  rcases hk with ⟨ha, hle, hm⟩ | ⟨ha, hx⟩
  · have hsz : (arr.extract o (o + ti.size)).size = ti.size := by simp; omega
    refine ⟨_, run_part_agg h ha w arr o, ?_⟩
    have := hm.rel (w := w) (S := S) (hp := hp) (β := β) (us := (arr.extract o (o + ti.size)).toList) (by simp; omega) (fun j c y hj hy => by
      have hj' := part_get hj
      have hjn : j < ti.size := by rw [List.getElem?_take] at hj; split at hj <;> first | assumption | cases hj
      have := extract_get arr o ti.size j (by omega)
      rw [if_pos hjn, hy] at this
      exact hc _ c y hj' this.symm)
    rw [Array.toArray_toList] at this
    exact this
  · obtain ⟨y, hy⟩ := get o x hx
    exact ⟨y, run_part_one h ha w hy, (hc o x y hx hy).1⟩
theorem aField_sound (hT : tokB P T = true) {o : Oper} {t : TypeId} {x : Operand} {f : Nat} (ho : o.op = .field t x f) {xv : V} {bs : List Blk} {ns : List Nat} {K : V → Prop} (h : aField T t xv f K) :
    ∃ v, K v ∧ OpS P o [xv] ns bs bs v := by
  unfold aField at h
  replace h := fieldOff_det hT h
  obtain ⟨fields, fd, hu, hf, hc, h⟩ := h
  cases hty : tyOf T fd.type with
  | none => simp [hty] at h
  | some ti =>
    have hti := tyOf_ok hT hty
    simp only [hty] at h
    have hexec : ∀ (ρ : Operand → Value) (w : World) (arr : Array Value) (cv : Value), ρ x = .agg arr → (part fd.type arr fd.offset).run P w = .ok cv w → (execOp ρ o).run P w = .ok (.value cv) w := by
      intro ρ w arr cv hρ hr
      simp [execOp, ho, Instr.field, run_underlying hu, hf, asAgg, hρ, hr]
    split at h
    · rename_i cs
      replace h := readD_det h
      obtain ⟨y, hk, hy⟩ := h
      refine ⟨_, hk, pure1 (x := x) (by simp [ho, opArgs]) fun ρ w S hp β hv => ?_⟩
      generalize hρ : ρ x = cw at hv
      cases hv with
      | d hd => cases hd with
        | agg _ arr h1 h2 h3 =>
          obtain ⟨cv, e1, e2⟩ := hy.part hti (w := w) (S := S) h1 fun j c y hj hy => ⟨h3 j c y hj hy, h2 j c hj⟩
          exact ⟨cv, hexec ρ w arr cv hρ e1, .d e2⟩
    · rename_i cs
      replace h := readV_det h
      obtain ⟨y, hk, hy⟩ := h
      refine ⟨_, hk, pure1 (x := x) (by simp [ho, opArgs]) fun ρ w S hp β hv => ?_⟩
      generalize hρ : ρ x = cw at hv
      cases hv with
      | agg _ arr h1 h2 h3 =>
        obtain ⟨cv, e1, e2⟩ := hy.part hti (w := w) (S := S) h1 fun j c y hj hy => ⟨h3 j c y hj hy, h2 j c hj⟩
        exact ⟨cv, hexec ρ w arr cv hρ e1, e2⟩
    · exact h.elim
theorem run_asIntOf (k : IntKind) (n : Int) (w : World) : (asIntOf (.int k n)).run P w = .ok (k, n) w := by simp [asIntOf]
theorem run_indexAt_slice {t e : TypeId} {te : TI} (ht : P.underlying t = some (.slice e)) (he : tiOk P e te = true) {w : World} {k : IntKind} {n : Int} {b off len cap : Nat} (h0 : 0 ≤ n) (h1 : n < len) :
    (Instr.indexAt t (.slice (some ⟨b, off, none⟩) len cap) (.int k n)).run P w = .ok (.pointer (some ⟨b, off + n.toNat * te.size, none⟩)) w := by
  simp [Instr.indexAt, run_asIntOf, run_underlying ht, run_sizeOf' he, h0, h1, addr_add]
theorem run_indexAt_arr {t e : TypeId} {te : TI} {len : Nat} (ht : P.underlying t = some (.array len e)) (he : tiOk P e te = true) {w : World} {k : IntKind} {n : Int} {b off : Nat} (h0 : 0 ≤ n) (h1 : n < len) :
    (Instr.indexAt t (.pointer (some ⟨b, off, none⟩)) (.int k n)).run P w = .ok (.pointer (some ⟨b, off + n.toNat * te.size, none⟩)) w := by
  simp [Instr.indexAt, run_asIntOf, run_underlying ht, run_sizeOf' he, h0, h1, addr_add, Instr.sureAddr]
theorem aIndexAddr_sound (hT : tokB P T = true) {o : Oper} {t : TypeId} {x ix : Operand} (ho : o.op = .indexAddr t x ix) {xv iv : V} {bs : List Blk} {K : Kt} (h : aIndexAddr T t xv iv bs K) :
    ∃ v, K v bs ∧ OpS P o [xv, iv] (idxN xv) bs bs v := by
  unfold aIndexAddr at h
  split at h
  · rename_i ti k n hty
    have hti := tyOf_ok hT hty
    have hargs : opArgs o.op = [x, ix] := by simp [ho, opArgs]
    have hexec : ∀ (ρ : Operand → Value) (w : World) cv, ρ ix = .int k n → (Instr.indexAt t (ρ x) (.int k n)).run P w = .ok cv w → (execOp ρ o).run P w = .ok (.value cv) w := by
      intro ρ w cv h1 h2
      simp [execOp, ho, h1, h2]
    have hint : ∀ {w : World} {S : Stb} {hp : Hp} {β : Bet} {cv : Value}, VR w S hp β (.d (.i k n)) cv → cv = .int k n := by
      intro w S hp β cv hv
      cases hv with
      | d hd => cases hd; rfl
    split at h
    · -- pure slice
      rename_i e sz full xs hk
      cases hte : tyOf T e with
      | none => simp [hte] at h
      | some te =>
        have hteo := tyOf_ok hT hte
        simp only [hte] at h
        replace h := (chkB_iff _ _).1 h
        obtain ⟨hsz, h⟩ := h
        replace h := h.elim
        obtain ⟨h0, h⟩ := h
        replace h := nthK_iff.1 h
        obtain ⟨y, hy, h⟩ := h
        have hsz := Nat.eq_of_beq_eq_true hsz
        refine ⟨_, h, pure2 hargs fun ρ w S hp β hv hi => ?_⟩
        have hi := hint hi
        generalize hρ : ρ x = cw at hv
        cases hv with
        | d hd => cases hd with
          | sl _ _ _ a cap b off uf g1 g2 g3 g4 g5 g6 g7 =>
            have hlt : n.toNat < xs.length := (List.getElem?_eq_some_iff.1 hy).1
            have ha := g4 (fun e => by rw [e] at hlt; simp at hlt)
            subst ha
            refine ⟨_, hexec ρ w _ hi (by rw [hρ]; exact run_indexAt_slice (kind_slice hti hk) hteo h0 (by omega)), ?_⟩
            have := VR.rp (w := w) (S := S) (h := hp) (β := β) y.cells 0 b (off + n.toNat * te.size) (uf n.toNat) (fun j c hj => by
              have := g6 n.toNat y j c hy hj
              rw [hsz] at this
              exact this) (fun j c hj => g7 n.toNat y j c hy hj)
            simpa using this
    · -- a row
      rename_i e m ver lo len full ver' sz ro xs hk
      cases hte : tyOf T e with
      | none => simp [hte] at h
      | some te =>
        have hteo := tyOf_ok hT hte
        simp only [hte] at h
        replace h := (chkB_iff _ _).1 h
        obtain ⟨hsz, h⟩ := h
        replace h := h.elim
        obtain ⟨⟨hver, h0, h1⟩, h⟩ := h
        have hsz := Nat.eq_of_beq_eq_true hsz
        subst hver
        refine ⟨_, h, OpS.pure fun ρ w S hp β hr hor hb => ?_⟩
        have hn : hp[m]? = some (.row ver sz ro xs) := by simpa [idxN] using hb 0 m rfl
        obtain ⟨hv, hi⟩ := OR.two (by rw [hargs] at hor; exact hor)
        have hi := hint hi
        generalize hρ : ρ x = cw at hv
        cases hv with
        | sref g0 g =>
          obtain ⟨a, cap, rfl, hc, hf, g⟩ := g
          rw [hn] at g
          obtain ⟨_, g⟩ := g
          rcases g rfl with ⟨_, hz⟩ | ⟨b, base, cells, el, fz, k1, k2, k3, k4⟩
          · omega
          · have ha := k2 (by omega)
            subst ha
            refine ⟨_, _, hexec ρ w _ hi (by rw [hρ]; exact run_indexAt_slice (kind_slice hti hk) hteo h0 h1), .inl rfl, .ptr rfl ?_⟩
            unfold PR; rw [hn]
            refine ⟨Nat.le_refl _, ⟨_, _, rfl⟩, fun _ => ⟨b, base, k1, ?_⟩⟩
            rw [← hsz, Nat.add_mul]
            simp [Nat.add_assoc]
    · -- a variable that a slice lies over
      rename_i e m ver lo len full cs hk
      cases hte : tyOf T e with
      | none => simp [hte] at h
      | some te =>
        have hteo := tyOf_ok hT hte
        simp only [hte] at h
        replace h := (chkB_iff _ _).1 h
        obtain ⟨hsz, h⟩ := h
        replace h := h.elim
        obtain ⟨⟨h0, h1⟩, h⟩ := h
        have hsz := Nat.eq_of_beq_eq_true hsz
        refine ⟨_, h, OpS.pure fun ρ w S hp β hr hor hb => ?_⟩
        have hn : hp[m]? = some (.var cs) := by simpa [idxN] using hb 0 m rfl
        obtain ⟨hv, hi⟩ := OR.two (by rw [hargs] at hor; exact hor)
        have hi := hint hi
        generalize hρ : ρ x = cw at hv
        cases hv with
        | sref g0 g =>
          obtain ⟨a, cap, rfl, hc, hf, g⟩ := g
          rw [hn] at g
          obtain ⟨_, b, cells, el, fz, k1, k2, k3, k4⟩ := g
          have ha := k2 (by omega)
          subst ha
          refine ⟨_, _, hexec ρ w _ hi (by rw [hρ]; exact run_indexAt_slice (kind_slice hti hk) hteo h0 h1), .inl rfl, .ptr rfl ?_⟩
          unfold PR; rw [hn]
          refine ⟨b, k1, rfl, rfl, ?_⟩
          rw [hsz, Nat.mul_one]
    · -- a variable that a slice lies over
      rename_i e m ver lo len full cs hk
      cases hte : tyOf T e with
      | none => simp [hte] at h
      | some te =>
        have hteo := tyOf_ok hT hte
        simp only [hte] at h
        replace h := (chkB_iff _ _).1 h
        obtain ⟨hsz, h⟩ := h
        replace h := h.elim
        obtain ⟨⟨h0, h1⟩, h⟩ := h
        have hsz := Nat.eq_of_beq_eq_true hsz
        refine ⟨_, h, OpS.pure fun ρ w S hp β hr hor hb => ?_⟩
        have hn : hp[m]? = some (.vard cs) := by simpa [idxN] using hb 0 m rfl
        obtain ⟨hv, hi⟩ := OR.two (by rw [hargs] at hor; exact hor)
        have hi := hint hi
        generalize hρ : ρ x = cw at hv
        cases hv with
        | sref g0 g =>
          obtain ⟨a, cap, rfl, hc, hf, g⟩ := g
          rw [hn] at g
          obtain ⟨_, b, cells, el, fz, k1, k2, k3, k4⟩ := g
          have ha := k2 (by omega)
          subst ha
          refine ⟨_, _, hexec ρ w _ hi (by rw [hρ]; exact run_indexAt_slice (kind_slice hti hk) hteo h0 h1), .inl rfl, .ptr rfl ?_⟩
          unfold PR; rw [hn]
          refine ⟨b, k1, rfl, rfl, ?_⟩
          rw [hsz, Nat.mul_one]
    · -- an array variable
      rename_i len e m ver el off hk
      cases hte : tyOf T e with
      | none => simp [hte] at h
      | some te =>
        have hteo := tyOf_ok hT hte
        simp only [hte] at h
        replace h := h.elim
        obtain ⟨⟨h0, h1⟩, h⟩ := h
        refine ⟨_, h, pure2 hargs fun ρ w S hp β hv hi => ?_⟩
        have hi := hint hi
        generalize hρ : ρ x = cw at hv
        cases hv with
        | ptr g1 g2 =>
          obtain ⟨b, q, rfl⟩ := g2.ptr
          exact ⟨_, hexec ρ w _ hi (by rw [hρ]; exact run_indexAt_arr (kind_arr hti hk) hteo h0 h1), .ptr rfl (g2.add _)⟩
    · -- an element of an array that is read only
      rename_i len e cs off hk
      cases hte : tyOf T e with
      | none => simp [hte] at h
      | some te =>
        have hteo := tyOf_ok hT hte
        simp only [hte] at h
        replace h := h.elim
        obtain ⟨⟨h0, h1⟩, h⟩ := h
        refine ⟨_, h, pure2 hargs fun ρ w S hp β hv hi => ?_⟩
        have hi := hint hi
        generalize hρ : ρ x = cw at hv
        cases hv with
        | rp _ _ b base uf g1 g2 =>
          exact ⟨_, hexec ρ w _ hi (by rw [hρ]; exact run_indexAt_arr (kind_arr hti hk) hteo h0 h1), by rw [Nat.add_assoc]; exact .rp cs (off + n.toNat * te.size) b base uf g1 g2⟩
    · exact h.elim
  · exact h.elim
end Go.PM
