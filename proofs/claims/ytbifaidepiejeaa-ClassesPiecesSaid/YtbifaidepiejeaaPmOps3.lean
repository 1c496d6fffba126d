/-
  PM, part 7: operations: new variables, composites, fields, elements, arithmetic.
-/
import Derived.Test.YtbifaidepiejeaaPmOps2
set_option linter.unusedSectionVars false
namespace Go.PM
variable [Glob]
variable {P : Program} {T : TT}

theorem run_newVar (w : World) (t : TypeId) (v : Value) : (newVar t v).run P w = .ok ⟨w.heap.size, 0, none⟩ (w.alloc (.cells v.cells t)) := by
  simp [newVar, newRow, newObj, Sem.run]

/-- A new variable's block, of cells that stand for 'cs'. -/
theorem alloc_var {w : World} {S : Stb} {h : Hp} {β : Bet} (hr : HR w S h β) {n : Nat} (hn : h[n]? = some .res) (t : TypeId) (cells : Array Value) (blk' : Blk) (cs : List V)
    (hl : cells.toList.length = cs.length) (hc : ∀ (j : Nat) (c : V) (y : Value), cs[j]? = some c → cells.toList[j]? = some y → VR w S h β c y ∧ c.flat = true)
    (hb : ∀ w S h β, BR w S h β n (.var cs) → BR w S h β n blk') (hk : (∃ cs, blk' = .var cs) ∨ ∃ cs, blk' = .vard cs) :
    ∃ β', HR (w.alloc (.cells cells t)) S (h.set n blk') β' ∧ Evol w S h β (w.alloc (.cells cells t)) S (h.set n blk') β' ∧ VR (w.alloc (.cells cells t)) S (h.set n blk') β' (.ptr n 0 0 0) (.pointer (some ⟨w.heap.size, 0, none⟩)) := by
  have hnl : n < h.length := (List.getElem?_eq_some_iff.1 hn).1
  obtain ⟨r1, r2⟩ := alloced (hone := by rcases hk with ⟨_, rfl⟩ | ⟨_, rfl⟩ <;> rfl) hr hn (.cells cells t) blk' 0 (frozen_alloc_cells w cells t) (fun E hS hβ hh =>
    hb _ _ _ _ ⟨w.heap.size, cells, t, hβ, hh, by simpa using hl, fun j c y hj hy => by
      obtain ⟨a, b⟩ := hc j c y hj (by simpa using hy)
      exact ⟨b, a.evol E⟩, hS⟩)
  refine ⟨_, r1, r2, .ptr rfl ?_⟩
  have hget : (h.set n blk')[n]? = some blk' := by simp [hnl]
  have hβ : (β.set n (some (w.heap.size, 0)))[n]? = some (some (w.heap.size, 0)) := by
    have : n < β.length := Nat.lt_of_lt_of_le hnl hr.len
    simp [this]
  unfold PR
  rw [hget]
  rcases hk with ⟨cs, rfl⟩ | ⟨cs, rfl⟩ <;> exact ⟨_, hβ, rfl, rfl, rfl⟩

theorem zs_cells {ti : TI} {z : Value} (h : zsEq ti.zero z.cells.toList = true) (w : World) (S : Stb) (hp : Hp) (β : Bet) : z.cells.toList.length = (ti.zero.map V.d).length ∧
    ∀ (j : Nat) (c : V) (y : Value), (ti.zero.map V.d)[j]? = some c → z.cells.toList[j]? = some y → VR w S hp β c y ∧ c.flat = true := by
  obtain ⟨h1, h2⟩ := zsEq_spec h
  refine ⟨by simp [h1], fun j c y hj hy => ?_⟩
  simp only [List.getElem?_map, Option.map_eq_some_iff] at hj
  obtain ⟨c', hc', rfl⟩ := hj
  obtain ⟨a, b⟩ := h2 j c' y hc' hy w S
  exact ⟨.d a, b⟩

theorem aAlloc_sound (hT : tokB P T = true) {o : Oper} {t : TypeId} (ho : o.op = .alloc t) {vs : List V} {nf : Nat} {K : Kt} (h : zeroV T t fun _ z => K (.ptr nf 0 0 0) [.vard z]) :
    ∃ v bs', K v bs' ∧ OpS P o vs [nf] [.res] bs' v := by
  unfold zeroV at h
  cases hty : tyOf T t with
  | none => simp [hty] at h
  | some ti =>
    simp only [hty] at h
    obtain ⟨i, z, hi⟩ := tiOk_info (tyOf_ok hT hty)
    refine ⟨_, _, h, fun ρ w S hp β hr hor hb => ?_⟩
    have hn : hp[nf]? = some .res := by simpa using hb 0 nf rfl
    obtain ⟨a, b⟩ := zs_cells hi.zs w S hp β
    obtain ⟨β', r1, r2, r3⟩ := alloc_var hr hn t z.cells (.vard ti.zero) (ti.zero.map .d) a b (fun _ _ _ _ hh => BR.vard_var.2 hh) (.inr ⟨_, rfl⟩)
    refine ⟨_, _, S, β', _, ?_, .inl rfl, by simpa [setL] using r1, by simpa [setL] using r3, by simpa [setL] using r2⟩
    simp [execOp, ho, Instr.alloc, run_zeroValue' hi, run_newVar]

theorem aBox_sound {o : Oper} {t : TypeId} {x : Operand} (ho : o.op = .box t x) {xv : V} {nf : Nat} {K : Kt} (h : mkBox xv fun b => K (.ptr nf 0 0 0) [b]) :
    ∃ v bs', K v bs' ∧ OpS P o [xv] [nf] [.res] bs' v := by
  unfold mkBox at h
  split at h
  · rename_i xd
    refine ⟨_, _, h, fun ρ w S hp β hr hor hb => ?_⟩
    have hn : hp[nf]? = some .res := by simpa using hb 0 nf rfl
    have hv := (show OR w S hp β ρ [x] _ by simpa [ho, opArgs] using hor).one
    cases hv with
    | d hd =>
      obtain ⟨a, b⟩ := hd.cells
      obtain ⟨β', r1, r2, r3⟩ := alloc_var hr hn t (ρ x).cells (.vard xd.cells) (xd.cells.map .d) (by simpa using a) (fun j c y hj hy => by
        simp only [List.getElem?_map, Option.map_eq_some_iff] at hj
        obtain ⟨c', hc', rfl⟩ := hj
        exact ⟨.d (b j c' y hc' hy).1, (b j c' y hc' hy).2⟩) (fun _ _ _ _ hh => BR.vard_var.2 hh) (.inr ⟨_, rfl⟩)
      refine ⟨_, _, S, β', _, ?_, .inl rfl, by simpa [setL] using r1, by simpa [setL] using r3, by simpa [setL] using r2⟩
      simp [execOp, ho, Instr.box, run_newVar]
  · obtain ⟨l, h, hcl⟩ := cellsK_det h
    refine ⟨_, _, h, fun ρ w S hp β hr hor hb => ?_⟩
    have hn : hp[nf]? = some .res := by simpa using hb 0 nf rfl
    have hv := (show OR w S hp β ρ [x] _ by simpa [ho, opArgs] using hor).one
    obtain ⟨a, b⟩ := hcl.rel hv
    obtain ⟨β', r1, r2, r3⟩ := alloc_var hr hn t (ρ x).cells (.var l) l a b (fun _ _ _ _ hh => hh) (.inl ⟨_, rfl⟩)
    refine ⟨_, _, S, β', _, ?_, .inl rfl, by simpa [setL] using r1, by simpa [setL] using r3, by simpa [setL] using r2⟩
    simp [execOp, ho, Instr.box, run_newVar]

/-! ### Operations that only compute -/

/-- An operation on one operand that leaves the world alone. -/
theorem pure1 {o : Oper} {x : Operand} (hargs : opArgs o.op = [x]) {xv v : V} {bs : List Blk} {ns : List Nat}
    (h : ∀ (ρ : Operand → Value) (w : World) (S : Stb) (hp : Hp) (β : Bet), VR w S hp β xv (ρ x) → ∃ cv, (execOp ρ o).run P w = .ok (.value cv) w ∧ VR w S hp β v cv) : OpS P o [xv] ns bs bs v :=
  OpS.pure fun ρ w S hp β _ hor _ => by
    obtain ⟨cv, a, b⟩ := h ρ w S hp β (OR.one (by rw [hargs] at hor; exact hor))
    exact ⟨_, cv, a, .inl rfl, b⟩

theorem pure2 {o : Oper} {x y : Operand} (hargs : opArgs o.op = [x, y]) {xv yv v : V} {bs : List Blk} {ns : List Nat}
    (h : ∀ (ρ : Operand → Value) (w : World) (S : Stb) (hp : Hp) (β : Bet), VR w S hp β xv (ρ x) → VR w S hp β yv (ρ y) → ∃ cv, (execOp ρ o).run P w = .ok (.value cv) w ∧ VR w S hp β v cv) : OpS P o [xv, yv] ns bs bs v :=
  OpS.pure fun ρ w S hp β _ hor _ => by
    have h2 := OR.two (by rw [hargs] at hor; exact hor)
    obtain ⟨cv, a, b⟩ := h ρ w S hp β h2.1 h2.2
    exact ⟨_, cv, a, .inl rfl, b⟩

theorem aMove_sound {o : Oper} {x : Operand} (ho : o.op = .move x ∨ o.op = .assign x) {xv : V} {bs : List Blk} {ns : List Nat} : OpS P o [xv] ns bs bs xv := by
  refine pure1 (x := x) (by rcases ho with h | h <;> simp [h, opArgs]) fun ρ w S hp β hv => ⟨ρ x, ?_, hv⟩
  rcases ho with h | h <;> simp [execOp, h]

theorem aNilCheck_sound {o : Oper} {x : Operand} (ho : o.op = .nilCheck x) {xv : V} {bs : List Blk} {ns : List Nat} {K : V → Prop} (h : aNilCheck xv K) : ∃ v, K v ∧ OpS P o [xv] ns bs bs v := by
  have hargs : opArgs o.op = [x] := by simp [ho, opArgs]
  unfold aNilCheck at h
  split at h
  · refine ⟨_, h, pure1 hargs fun ρ w S hp β hv => ⟨ρ x, ?_, hv⟩⟩
    cases hv' : ρ x <;> rw [hv'] at hv
    case pointer a =>
      cases hv with
      | ptr h1 h2 =>
        obtain ⟨b, q, e⟩ := h2.ptr
        cases e
        simp [execOp, ho, hv']
    all_goals (cases hv with
      | ptr h1 h2 => obtain ⟨b, q, e⟩ := h2.ptr; cases e)
  · refine ⟨_, h, pure1 hargs fun ρ w S hp β hv => ⟨ρ x, ?_, hv⟩⟩
    generalize hv' : ρ x = cv at hv
    cases hv with
    | rp cs o b off uf h1 h2 => simp [execOp, ho, hv']
  · refine ⟨_, h, pure1 hargs fun ρ w S hp β hv => ⟨ρ x, ?_, hv⟩⟩
    generalize hv' : ρ x = cv at hv
    cases hv with
    | fn f cap arr h1 h2 => simp [execOp, ho, hv']
  · refine ⟨_, h, pure1 hargs fun ρ w S hp β hv => ⟨ρ x, ?_, hv⟩⟩
    generalize hv' : ρ x = cv at hv
    cases hv with
    | d h => cases h with
      | k v h => simp [execOp, ho, hv']
  · exact h.elim

theorem aPick_sound {o : Oper} {c a b : Operand} (ho : o.op = .pick c a b) {x : Bool} {av bv : V} {bs : List Blk} {ns : List Nat} {K : Kt} (h : br x (K av bs) (K bv bs)) :
    ∃ v, K v bs ∧ OpS P o [.d (.b x), av, bv] ns bs bs v := by
  obtain ⟨h1, h2⟩ := (br_iff _ _ _).1 h
  have key : ∀ (v : V) (y : Operand), (∀ (ρ : Operand → Value) (w : World) (S : Stb) (hp : Hp) (β : Bet), VR w S hp β av (ρ a) → VR w S hp β bv (ρ b) → VR w S hp β v (ρ y)) → (y = if x = true then a else b) → OpS P o [.d (.b x), av, bv] ns bs bs v := by
    intro v y hv hy
    refine OpS.pure fun ρ w S hp β _ hor _ => ?_
    have h3 := (show OR w S hp β ρ [c, a, b] _ by simpa [ho, opArgs] using hor).three
    obtain ⟨a1, a2, a3⟩ := h3
    generalize hc : ρ c = cw at a1
    cases a1 with
    | d hd => cases hd with
      | b => exact ⟨_, ρ y, by cases x <;> simp [execOp, ho, asBool, hc, hy], .inl rfl, hv ρ w S hp β a2 a3⟩
  cases hx : x with
  | true => exact ⟨av, h1 hx, by subst hx; exact key av a (fun _ _ _ _ _ h _ => h) (by simp)⟩
  | false => exact ⟨bv, h2 hx, by subst hx; exact key bv b (fun _ _ _ _ _ _ h => h) (by simp)⟩

theorem fieldOff_det {t : TypeId} {f : Nat} {k : Nat → TypeId → Prop} (hT : tokB P T = true) (h : fieldOff T t f k) : ∃ fields fd, P.underlying t = some (.struct fields) ∧ fields[f]? = some fd ∧ P.cellsOf fd.type ≠ 0 ∧ k fd.offset fd.type := by
  unfold fieldOff at h
  cases hty : tyOf T t with
  | none => simp [hty] at h
  | some ti =>
    simp only [hty] at h
    split at h
    · rename_i fs hk
      obtain ⟨p, hp, h⟩ := nthK_iff.1 h
      obtain ⟨fields, hu, hf, _⟩ := kind_str (tyOf_ok hT hty) hk
      obtain ⟨fd, h1, h2, h3, h4, h5⟩ := (fieldsOk_get hf).2 f p hp
      exact ⟨fields, fd, hu, by simpa using h1, h5, by rw [← h2, ← h3]; exact h⟩
    · exact h.elim

theorem run_fieldPlace {w : World} {a : Addr} {fd : Field} (h : P.cellsOf fd.type ≠ 0) : (fieldPlace a fd).run P w = .ok (a.add fd.offset) w := by
  unfold Program.cellsOf at h
  cases hi : P.info? fd.type with
  | none => simp [hi] at h
  | some i =>
    simp [hi] at h
    simp [fieldPlace, sizeOf, run_typeInfo' hi, h]

theorem aFieldAddr_sound (hT : tokB P T = true) {o : Oper} {t : TypeId} {x : Operand} {f : Nat} (ho : o.op = .fieldAddr t x f) {xv : V} {bs : List Blk} {ns : List Nat} {K : V → Prop} (h : aFieldAddr T t xv f K) :
    ∃ v, K v ∧ OpS P o [xv] ns bs bs v := by
  unfold aFieldAddr at h
  replace h := fieldOff_det hT h
  obtain ⟨fields, fd, hu, hf, hc, h⟩ := h
  have hexec : ∀ (ρ : Operand → Value) (w : World) (b off : Nat), ρ x = .pointer (some ⟨b, off, none⟩) → (execOp ρ o).run P w = .ok (.value (.pointer (some ⟨b, off + fd.offset, none⟩))) w := by
    intro ρ w b off hρ
    simp [execOp, ho, Instr.fieldAt, run_underlying hu, hf, Instr.sureAddr, hρ, run_fieldPlace hc, addr_add]
  split at h
  · rename_i n ver e off
    refine ⟨_, h, pure1 (x := x) (by simp [ho, opArgs]) fun ρ w S hp β hv => ?_⟩
    generalize hρ : ρ x = cw at hv
    cases hv with
    | ptr h1 h2 =>
      obtain ⟨b, q, rfl⟩ := h2.ptr
      exact ⟨_, hexec ρ w b q hρ, .ptr rfl (h2.add _)⟩
  · rename_i cs off
    refine ⟨_, h, pure1 (x := x) (by simp [ho, opArgs]) fun ρ w S hp β hv => ?_⟩
    generalize hρ : ρ x = cw at hv
    cases hv with
    | rp _ _ b base uf h1 h2 => exact ⟨_, hexec ρ w b _ hρ, by rw [Nat.add_assoc]; exact .rp cs (off + fd.offset) b base uf h1 h2⟩
  · exact h.elim

/-! ### Parts of aggregates -/

theorem run_part_agg {t : TypeId} {ti : TI} (h : tiOk P t ti = true) (ha : isAggT ti = true) (w : World) (cs : Array Value) (off : Nat) : (part t cs off).run P w = .ok (.agg (cs.extract off (off + ti.size))) w := by
  simp [part, run_isAgg h, ha, run_sizeOf' h]
theorem run_part_one {t : TypeId} {ti : TI} (h : tiOk P t ti = true) (ha : isAggT ti = false) (w : World) {cs : Array Value} {off : Nat} {v : Value} (hv : cs[off]? = some v) : (part t cs off).run P w = .ok v w := by
  simp [part, run_isAgg h, ha, hv]

theorem extract_get (arr : Array Value) (o n j : Nat) (h : o + n ≤ arr.size) : (arr.extract o (o + n)).toList[j]? = if j < n then arr[o + j]? else none := by
  by_cases hj : j < n
  · rw [if_pos hj]
    simp only [Array.getElem?_toList]
    rw [Array.getElem?_extract]
    simp only [Nat.min_eq_left h]
    rw [if_pos (by omega)]
  · rw [if_neg hj]
    simp only [Array.getElem?_toList]
    rw [Array.getElem?_extract]
    simp only [Nat.min_eq_left h]
    rw [if_neg (by omega)]

theorem RdD.part {t : TypeId} {ti : TI} (h : tiOk P t ti = true) {cs : List D} {o : Nat} {x : D} (hk : RdD ti cs o x) {w : World} {S : Stb} {arr : Array Value} (hl : arr.size = cs.length)
    (hc : ∀ (j : Nat) (c : D) (y : Value), cs[j]? = some c → arr[j]? = some y → DR w S c y ∧ c.flat = true) : ∃ cv, (part t arr o).run P w = .ok cv w ∧ DR w S x cv := by
  have get : ∀ (j : Nat) (c : D), cs[j]? = some c → ∃ y, arr[j]? = some y := fun j c hj => by
    have : j < arr.size := by rw [hl]; exact (List.getElem?_eq_some_iff.1 hj).1
    exact ⟨_, Array.getElem?_eq_getElem this⟩
  rcases hk with ⟨ha, hle, rfl⟩ | ⟨ha, hx⟩
  · have hsz : (arr.extract o (o + ti.size)).size = ti.size := by simp; omega
    refine ⟨_, run_part_agg h ha w arr o, .agg _ _ (by rw [hsz]; simp; omega) (fun j c hj => ?_) (fun j c y hj hy => ?_)⟩
    · have hj' := part_get hj
      obtain ⟨y, hy⟩ := get _ c hj'
      exact (hc _ c y hj' hy).2
    · have hj' := part_get hj
      have hjn : j < ti.size := by rw [List.getElem?_take] at hj; split at hj <;> first | assumption | cases hj
      have := extract_get arr o ti.size j (by omega)
      rw [if_pos hjn, Array.getElem?_toList, hy] at this
      exact (hc _ c y hj' this.symm).1
  · obtain ⟨y, hy⟩ := get o x hx
    exact ⟨y, run_part_one h ha w hy, (hc o x y hx hy).1⟩

theorem RdV.part {t : TypeId} {ti : TI} (h : tiOk P t ti = true) {cs : List V} {o : Nat} {x : V} (hk : RdV ti cs o x) {w : World} {S : Stb} {hp : Hp} {β : Bet} {arr : Array Value} (hl : arr.size = cs.length)
    (hc : ∀ (j : Nat) (c : V) (y : Value), cs[j]? = some c → arr[j]? = some y → VR w S hp β c y ∧ c.flat = true) : ∃ cv, (part t arr o).run P w = .ok cv w ∧ VR w S hp β x cv := by
  have get : ∀ (j : Nat) (c : V), cs[j]? = some c → ∃ y, arr[j]? = some y := fun j c hj => by
    have : j < arr.size := by rw [hl]; exact (List.getElem?_eq_some_iff.1 hj).1
    exact ⟨_, Array.getElem?_eq_getElem this⟩
  rcases hk with ⟨ha, hle, hm⟩ | ⟨ha, hx⟩
  · have hsz : (arr.extract o (o + ti.size)).size = ti.size := by simp; omega
    refine ⟨_, run_part_agg h ha w arr o, ?_⟩
    have := hm.rel (w := w) (S := S) (hp := hp) (β := β) (us := (arr.extract o (o + ti.size)).toList) (by simp; omega) (fun j c y hj hy => by
      have hj' := part_get hj
      have hjn : j < ti.size := by rw [List.getElem?_take] at hj; split at hj <;> first | assumption | cases hj
      have := extract_get arr o ti.size j (by omega)
      rw [if_pos hjn, hy] at this
      exact hc _ c y hj' this.symm)
    rw [Array.toArray_toList] at this
    exact this
  · obtain ⟨y, hy⟩ := get o x hx
    exact ⟨y, run_part_one h ha w hy, (hc o x y hx hy).1⟩

theorem aField_sound (hT : tokB P T = true) {o : Oper} {t : TypeId} {x : Operand} {f : Nat} (ho : o.op = .field t x f) {xv : V} {bs : List Blk} {ns : List Nat} {K : V → Prop} (h : aField T t xv f K) :
    ∃ v, K v ∧ OpS P o [xv] ns bs bs v := by
  unfold aField at h
  replace h := fieldOff_det hT h
  obtain ⟨fields, fd, hu, hf, hc, h⟩ := h
  cases hty : tyOf T fd.type with
  | none => simp [hty] at h
  | some ti =>
    have hti := tyOf_ok hT hty
    simp only [hty] at h
    have hexec : ∀ (ρ : Operand → Value) (w : World) (arr : Array Value) (cv : Value), ρ x = .agg arr → (part fd.type arr fd.offset).run P w = .ok cv w → (execOp ρ o).run P w = .ok (.value cv) w := by
      intro ρ w arr cv hρ hr
      simp [execOp, ho, Instr.field, run_underlying hu, hf, asAgg, hρ, hr]
    split at h
    · rename_i cs
      replace h := readD_det h
      obtain ⟨y, hk, hy⟩ := h
      refine ⟨_, hk, pure1 (x := x) (by simp [ho, opArgs]) fun ρ w S hp β hv => ?_⟩
      generalize hρ : ρ x = cw at hv
      cases hv with
      | d hd => cases hd with
        | agg _ arr h1 h2 h3 =>
          obtain ⟨cv, e1, e2⟩ := hy.part hti (w := w) (S := S) h1 fun j c y hj hy => ⟨h3 j c y hj hy, h2 j c hj⟩
          exact ⟨cv, hexec ρ w arr cv hρ e1, .d e2⟩
    · rename_i cs
      replace h := readV_det h
      obtain ⟨y, hk, hy⟩ := h
      refine ⟨_, hk, pure1 (x := x) (by simp [ho, opArgs]) fun ρ w S hp β hv => ?_⟩
      generalize hρ : ρ x = cw at hv
      cases hv with
      | agg _ arr h1 h2 h3 =>
        obtain ⟨cv, e1, e2⟩ := hy.part hti (w := w) (S := S) h1 fun j c y hj hy => ⟨h3 j c y hj hy, h2 j c hj⟩
        exact ⟨cv, hexec ρ w arr cv hρ e1, e2⟩
    · exact h.elim

/-! ### Elements' addresses -/

theorem run_asIntOf (k : IntKind) (n : Int) (w : World) : (asIntOf (.int k n)).run P w = .ok (k, n) w := by simp [asIntOf]

theorem run_indexAt_slice {t e : TypeId} {te : TI} (ht : P.underlying t = some (.slice e)) (he : tiOk P e te = true) {w : World} {k : IntKind} {n : Int} {b off len cap : Nat} (h0 : 0 ≤ n) (h1 : n < len) :
    (Instr.indexAt t (.slice (some ⟨b, off, none⟩) len cap) (.int k n)).run P w = .ok (.pointer (some ⟨b, off + n.toNat * te.size, none⟩)) w := by
  simp [Instr.indexAt, run_asIntOf, run_underlying ht, run_sizeOf' he, h0, h1, addr_add]

theorem run_indexAt_arr {t e : TypeId} {te : TI} {len : Nat} (ht : P.underlying t = some (.array len e)) (he : tiOk P e te = true) {w : World} {k : IntKind} {n : Int} {b off : Nat} (h0 : 0 ≤ n) (h1 : n < len) :
    (Instr.indexAt t (.pointer (some ⟨b, off, none⟩)) (.int k n)).run P w = .ok (.pointer (some ⟨b, off + n.toNat * te.size, none⟩)) w := by
  simp [Instr.indexAt, run_asIntOf, run_underlying ht, run_sizeOf' he, h0, h1, addr_add, Instr.sureAddr]

theorem aIndexAddr_sound (hT : tokB P T = true) {o : Oper} {t : TypeId} {x ix : Operand} (ho : o.op = .indexAddr t x ix) {xv iv : V} {bs : List Blk} {K : Kt} (h : aIndexAddr T t xv iv bs K) :
    ∃ v, K v bs ∧ OpS P o [xv, iv] (idxN xv) bs bs v := by
  unfold aIndexAddr at h
  split at h
  · rename_i ti k n hty
    have hti := tyOf_ok hT hty
    have hargs : opArgs o.op = [x, ix] := by simp [ho, opArgs]
    have hexec : ∀ (ρ : Operand → Value) (w : World) cv, ρ ix = .int k n → (Instr.indexAt t (ρ x) (.int k n)).run P w = .ok cv w → (execOp ρ o).run P w = .ok (.value cv) w := by
      intro ρ w cv h1 h2
      simp [execOp, ho, h1, h2]
    have hint : ∀ {w : World} {S : Stb} {hp : Hp} {β : Bet} {cv : Value}, VR w S hp β (.d (.i k n)) cv → cv = .int k n := by
      intro w S hp β cv hv
      cases hv with
      | d hd => cases hd; rfl
    split at h
    · -- pure slice
      rename_i e sz full xs hk
      cases hte : tyOf T e with
      | none => simp [hte] at h
      | some te =>
        have hteo := tyOf_ok hT hte
        simp only [hte] at h
        replace h := (chkB_iff _ _).1 h
        obtain ⟨hsz, h⟩ := h
        replace h := h.elim
        obtain ⟨h0, h⟩ := h
        replace h := nthK_iff.1 h
        obtain ⟨y, hy, h⟩ := h
        have hsz := Nat.eq_of_beq_eq_true hsz
        refine ⟨_, h, pure2 hargs fun ρ w S hp β hv hi => ?_⟩
        have hi := hint hi
        generalize hρ : ρ x = cw at hv
        cases hv with
        | d hd => cases hd with
          | sl _ _ _ a cap b off uf g1 g2 g3 g4 g5 g6 g7 =>
            have hlt : n.toNat < xs.length := (List.getElem?_eq_some_iff.1 hy).1
            have ha := g4 (fun e => by rw [e] at hlt; simp at hlt)
            subst ha
            refine ⟨_, hexec ρ w _ hi (by rw [hρ]; exact run_indexAt_slice (kind_slice hti hk) hteo h0 (by omega)), ?_⟩
            have := VR.rp (w := w) (S := S) (h := hp) (β := β) y.cells 0 b (off + n.toNat * te.size) (uf n.toNat) (fun j c hj => by
              have := g6 n.toNat y j c hy hj
              rw [hsz] at this
              exact this) (fun j c hj => g7 n.toNat y j c hy hj)
            simpa using this
    · -- a row
      rename_i e m ver lo len full ver' sz ro xs hk
      cases hte : tyOf T e with
      | none => simp [hte] at h
      | some te =>
        have hteo := tyOf_ok hT hte
        simp only [hte] at h
        replace h := (chkB_iff _ _).1 h
        obtain ⟨hsz, h⟩ := h
        replace h := h.elim
        obtain ⟨⟨hver, h0, h1⟩, h⟩ := h
        have hsz := Nat.eq_of_beq_eq_true hsz
        subst hver
        refine ⟨_, h, OpS.pure fun ρ w S hp β hr hor hb => ?_⟩
        have hn : hp[m]? = some (.row ver sz ro xs) := by simpa [idxN] using hb 0 m rfl
        obtain ⟨hv, hi⟩ := OR.two (by rw [hargs] at hor; exact hor)
        have hi := hint hi
        generalize hρ : ρ x = cw at hv
        cases hv with
        | sref g0 g =>
          obtain ⟨a, cap, rfl, hc, hf, g⟩ := g
          rw [hn] at g
          obtain ⟨_, g⟩ := g
          rcases g rfl with ⟨_, hz⟩ | ⟨b, base, cells, el, fz, k1, k2, k3, k4⟩
          · omega
          · have ha := k2 (by omega)
            subst ha
            refine ⟨_, _, hexec ρ w _ hi (by rw [hρ]; exact run_indexAt_slice (kind_slice hti hk) hteo h0 h1), .inl rfl, .ptr rfl ?_⟩
            unfold PR; rw [hn]
            refine ⟨Nat.le_refl _, ⟨_, _, rfl⟩, fun _ => ⟨b, base, k1, ?_⟩⟩
            rw [← hsz, Nat.add_mul]
            simp [Nat.add_assoc]
    · -- a variable that a slice lies over
      rename_i e m ver lo len full cs hk
      cases hte : tyOf T e with
      | none => simp [hte] at h
      | some te =>
        have hteo := tyOf_ok hT hte
        simp only [hte] at h
        replace h := (chkB_iff _ _).1 h
        obtain ⟨hsz, h⟩ := h
        replace h := h.elim
        obtain ⟨⟨h0, h1⟩, h⟩ := h
        have hsz := Nat.eq_of_beq_eq_true hsz
        refine ⟨_, h, OpS.pure fun ρ w S hp β hr hor hb => ?_⟩
        have hn : hp[m]? = some (.var cs) := by simpa [idxN] using hb 0 m rfl
        obtain ⟨hv, hi⟩ := OR.two (by rw [hargs] at hor; exact hor)
        have hi := hint hi
        generalize hρ : ρ x = cw at hv
        cases hv with
        | sref g0 g =>
          obtain ⟨a, cap, rfl, hc, hf, g⟩ := g
          rw [hn] at g
          obtain ⟨_, b, cells, el, fz, k1, k2, k3, k4⟩ := g
          have ha := k2 (by omega)
          subst ha
          refine ⟨_, _, hexec ρ w _ hi (by rw [hρ]; exact run_indexAt_slice (kind_slice hti hk) hteo h0 h1), .inl rfl, .ptr rfl ?_⟩
          unfold PR; rw [hn]
          refine ⟨b, k1, rfl, rfl, ?_⟩
          rw [hsz, Nat.mul_one]
    · -- a variable that a slice lies over
      rename_i e m ver lo len full cs hk
      cases hte : tyOf T e with
      | none => simp [hte] at h
      | some te =>
        have hteo := tyOf_ok hT hte
        simp only [hte] at h
        replace h := (chkB_iff _ _).1 h
        obtain ⟨hsz, h⟩ := h
        replace h := h.elim
        obtain ⟨⟨h0, h1⟩, h⟩ := h
        have hsz := Nat.eq_of_beq_eq_true hsz
        refine ⟨_, h, OpS.pure fun ρ w S hp β hr hor hb => ?_⟩
        have hn : hp[m]? = some (.vard cs) := by simpa [idxN] using hb 0 m rfl
        obtain ⟨hv, hi⟩ := OR.two (by rw [hargs] at hor; exact hor)
        have hi := hint hi
        generalize hρ : ρ x = cw at hv
        cases hv with
        | sref g0 g =>
          obtain ⟨a, cap, rfl, hc, hf, g⟩ := g
          rw [hn] at g
          obtain ⟨_, b, cells, el, fz, k1, k2, k3, k4⟩ := g
          have ha := k2 (by omega)
          subst ha
          refine ⟨_, _, hexec ρ w _ hi (by rw [hρ]; exact run_indexAt_slice (kind_slice hti hk) hteo h0 h1), .inl rfl, .ptr rfl ?_⟩
          unfold PR; rw [hn]
          refine ⟨b, k1, rfl, rfl, ?_⟩
          rw [hsz, Nat.mul_one]
    · -- an array variable
      rename_i len e m ver el off hk
      cases hte : tyOf T e with
      | none => simp [hte] at h
      | some te =>
        have hteo := tyOf_ok hT hte
        simp only [hte] at h
        replace h := h.elim
        obtain ⟨⟨h0, h1⟩, h⟩ := h
        refine ⟨_, h, pure2 hargs fun ρ w S hp β hv hi => ?_⟩
        have hi := hint hi
        generalize hρ : ρ x = cw at hv
        cases hv with
        | ptr g1 g2 =>
          obtain ⟨b, q, rfl⟩ := g2.ptr
          exact ⟨_, hexec ρ w _ hi (by rw [hρ]; exact run_indexAt_arr (kind_arr hti hk) hteo h0 h1), .ptr rfl (g2.add _)⟩
    · -- an element of an array that is read only
      rename_i len e cs off hk
      cases hte : tyOf T e with
      | none => simp [hte] at h
      | some te =>
        have hteo := tyOf_ok hT hte
        simp only [hte] at h
        replace h := h.elim
        obtain ⟨⟨h0, h1⟩, h⟩ := h
        refine ⟨_, h, pure2 hargs fun ρ w S hp β hv hi => ?_⟩
        have hi := hint hi
        generalize hρ : ρ x = cw at hv
        cases hv with
        | rp _ _ b base uf g1 g2 =>
          exact ⟨_, hexec ρ w _ hi (by rw [hρ]; exact run_indexAt_arr (kind_arr hti hk) hteo h0 h1), by rw [Nat.add_assoc]; exact .rp cs (off + n.toNat * te.size) b base uf g1 g2⟩
    · exact h.elim
  · exact h.elim

end Go.PM
