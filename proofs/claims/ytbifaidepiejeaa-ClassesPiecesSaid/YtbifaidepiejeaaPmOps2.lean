/-
  PM, part 6: operations: stores, new variables, addresses, fields, elements.
-/
import Derived.Test.YtbifaidepiejeaaPmOps1
set_option linter.unusedSectionVars false
namespace Go.PM
variable [Glob]
variable {P : Program} {T : TT}

/-! ### Stores -/

/-- What 'cellsK' gives. -/
def ClK (v : V) (l : List V) : Prop :=
  (∃ cs, v = .d (.agg cs) ∧ l = cs.map .d) ∨ (∃ x : D, x.flat = true ∧ v = .d x ∧ l = [.d x]) ∨ (v = .agg l) ∨ (v.flat = true ∧ l = [v])

theorem cellsK_det {v : V} {k : List V → Prop} (h : cellsK v k) : ∃ l, k l ∧ ClK v l := by
  unfold cellsK at h
  split at h
  · exact ⟨_, h, .inl ⟨_, rfl, rfl⟩⟩
  · rename_i x hx
    refine ⟨_, h, .inr (.inl ⟨x, ?_, rfl, rfl⟩)⟩
    cases x <;> first | rfl | exact absurd rfl (hx _)
  · exact ⟨_, h, .inr (.inr (.inl rfl))⟩
  · exact h.elim
  · exact h.elim
  · rename_i h1 h2 h3 h4 h5
    refine ⟨_, h, .inr (.inr (.inr ⟨?_, rfl⟩))⟩
    cases v <;> first | rfl | exact absurd rfl (h2 _) | exact absurd rfl (h3 _) | exact absurd rfl h4 | exact absurd rfl (h5 _)

theorem one_cells {v : Value} (h : one v = true) : v.cells = #[v] := by cases v <;> simp_all [one, Value.cells]

theorem DR.cells {w : World} {S : Stb} {x : D} {v : Value} (h : DR w S x v) : v.cells.toList.length = x.cells.length ∧
    ∀ (j : Nat) (c : D) (y : Value), x.cells[j]? = some c → v.cells.toList[j]? = some y → DR w S c y ∧ c.flat = true := by
  by_cases hx : x.flat = true
  · have hv := one_cells (h.one hx)
    have hc : x.cells = [x] := by cases x <;> simp_all [D.cells, D.flat]
    rw [hv, hc]
    refine ⟨rfl, fun j c y hj hy => ?_⟩
    cases j with
    | zero => simp at hj hy; subst hj; subst hy; exact ⟨h, hx⟩
    | succ j => simp at hj
  · cases h with
    | agg cs arr h1 h2 h3 =>
      simp only [Value.cells, D.cells]
      exact ⟨by simpa using h1, fun j c y hj hy => ⟨h3 j c y hj (by simpa using hy), h2 j c hj⟩⟩
    | _ => simp [D.flat] at hx

theorem ClK.rel {v : V} {l : List V} (h : ClK v l) {w : World} {S : Stb} {hp : Hp} {β : Bet} {cv : Value} (hv : VR w S hp β v cv) : cv.cells.toList.length = l.length ∧
    ∀ (j : Nat) (c : V) (y : Value), l[j]? = some c → cv.cells.toList[j]? = some y → VR w S hp β c y ∧ c.flat = true := by
  rcases h with ⟨cs, rfl, rfl⟩ | ⟨x, hx, rfl, rfl⟩ | rfl | ⟨hf, rfl⟩
  · cases hv with
    | d hd =>
      obtain ⟨a, b⟩ := hd.cells
      refine ⟨by simpa [D.cells] using a, fun j c y hj hy => ?_⟩
      simp only [List.getElem?_map, Option.map_eq_some_iff] at hj
      obtain ⟨c', hc', rfl⟩ := hj
      obtain ⟨r1, r2⟩ := b j c' y hc' hy
      exact ⟨.d r1, r2⟩
  · have hv1 := one_cells (hv.one (by exact hx))
    rw [hv1]
    refine ⟨rfl, fun j c y hj hy => ?_⟩
    cases j with
    | zero => simp at hj hy; subst hj; subst hy; exact ⟨hv, hx⟩
    | succ j => simp at hj
  · cases hv with
    | agg cs arr h1 h2 h3 =>
      simp only [Value.cells]
      exact ⟨by simpa using h1, fun j c y hj hy => ⟨h3 j c y hj (by simpa using hy), h2 j c hj⟩⟩
  · have hv1 := one_cells (hv.one hf)
    rw [hv1]
    refine ⟨rfl, fun j c y hj hy => ?_⟩
    cases j with
    | zero => simp at hj hy; subst hj; subst hy; exact ⟨hv, hf⟩
    | succ j => simp at hj

theorem run_storeVar_ok {t : TypeId} {ti : TI} (h : tiOk P t ti = true) {w : World} {b off : Nat} {v : Value} {cells : Array Value} {e : TypeId} (hw : w.heap[b]? = some (.cells cells e (0, 0)))
    (hs : v.cells.toList.length = ti.size) (h1 : ∀ y ∈ v.cells.toList, one y = true) (hl : off + v.cells.toList.length ≤ cells.size) :
    (storeVar t ⟨b, off, none⟩ v).run P w = .ok () (w.setRow b (ov cells.toList off v.cells.toList).toArray) := by
  have := run_storeCells_at P b off e v.cells.toList 0 cells w hw (by omega) (fun y hy => by rw [← one_eq]; exact h1 y hy)
  simp only [Nat.add_zero] at this
  have hs' : v.cells.size = ti.size := by simpa using hs
  simp [storeVar, run_sizeOf' h, hs', this, ov]

/-- What 'writeD' writes. -/
theorem writeD_det {cs : List D} {o : Nat} {x : D} {k : List D → Prop} (h : writeD cs o x k) (hx : x.cells ≠ []) : o + x.cells.length ≤ cs.length ∧ k (ov cs o x.cells) := by
  unfold writeD at h
  split at h
  · rename_i l
    simp only [D.cells] at hx ⊢
    split at h
    · split at h
      · rename_i h1
        have h1 := Nat.eq_of_beq_eq_true h1
        refine ⟨by omega, ?_⟩
        have : ov cs 0 l = l := by simp [ov, ← h1]
        rwa [this]
      · rcases layK_spec _ _ _ _ h with ⟨rfl, _⟩ | ⟨_, h1, h2⟩
        · exact absurd rfl hx
        · exact ⟨h1, h2⟩
    · rcases layK_spec _ _ _ _ h with ⟨rfl, _⟩ | ⟨_, h1, h2⟩
      · exact absurd rfl hx
      · exact ⟨h1, h2⟩
  · rename_i hx'
    have hc : x.cells = [x] := by cases x <;> first | rfl | exact absurd rfl (hx' _)
    rw [hc]
    obtain ⟨h1, h2⟩ := setK_iff.1 h
    refine ⟨by simp; omega, ?_⟩
    have hl : layK cs o [x] (fun z => z = cs.set o x) := by
      simp only [layK]; exact setK_mk h1 rfl
    rcases layK_spec _ _ _ _ hl with ⟨h3, _⟩ | ⟨_, _, h4⟩
    · cases h3
    · rwa [h4]

theorem ov_map {α β : Type} (f : α → β) (xs ys : List α) (o : Nat) : (ov xs o ys).map f = ov (xs.map f) o (ys.map f) := by
  simp [ov]

/-- Pairs of an overlay. -/
theorem ov_rel {α β : Type} {R : α → β → Prop} {xs ys : List α} {us vs : List β} {o o' : Nat} (hl : o + ys.length ≤ xs.length) (hl' : o' + vs.length ≤ us.length) (he : ys.length = vs.length)
    (hx : ∀ (j : Nat) (x : α) (y : β), xs[j]? = some x → us[(o' - o) + j]? = some y → R x y) (hoo : o ≤ o')
    (hy : ∀ (j : Nat) (x : α) (y : β), ys[j]? = some x → vs[j]? = some y → R x y) :
    ∀ (j : Nat) (x : α) (y : β), (ov xs o ys)[j]? = some x → (ov us o' vs)[(o' - o) + j]? = some y → R x y := by
  intro j x y h1 h2
  rw [ov_get hl] at h1
  rw [ov_get hl'] at h2
  by_cases a : j < o
  · rw [if_pos a] at h1
    rw [if_pos (by omega)] at h2
    exact hx j x y h1 h2
  · rw [if_neg a] at h1
    rw [if_neg (by omega)] at h2
    by_cases b : j < o + ys.length
    · rw [if_pos b] at h1
      rw [if_pos (by omega), show o' - o + j - o' = j - o by omega] at h2
      exact hy _ x y h1 h2
    · rw [if_neg b] at h1
      rw [if_neg (by omega)] at h2
      exact hx j x y h1 h2

theorem flat_cells (x : D) (hx : x.flat = true) : x.cells = [x] := by cases x <;> simp_all [D.cells, D.flat]

theorem ofCells_cells {y : D} {l : List D} (hl : l.length = y.cells.length) (hf : ∀ (j : Nat) (c : D), l[j]? = some c → c.flat = true) : (ofCells y l).cells = l := by
  unfold ofCells
  split
  · rfl
  · rename_i hy
    have : y.cells = [y] := by cases y <;> first | rfl | exact absurd rfl (hy _)
    rw [this] at hl
    match l, hl with
    | [z], _ => exact flat_cells z (hf 0 z rfl)

theorem BR.vard_var {w : World} {S : Stb} {h : Hp} {β : Bet} {n : Nat} {cs : List D} : BR w S h β n (.vard cs) ↔ BR w S h β n (.var (cs.map .d)) := by
  constructor
  · rintro ⟨b, c, e, h1, h2, h3, h4, h5⟩
    refine ⟨b, c, e, h1, h2, by simpa using h3, fun j x y hj hy => ?_, h5⟩
    simp only [List.getElem?_map, Option.map_eq_some_iff] at hj
    obtain ⟨c', hc', rfl⟩ := hj
    exact ⟨(h4 j c' y hc' hy).1, .d (h4 j c' y hc' hy).2⟩
  · rintro ⟨b, c, e, h1, h2, h3, h4, h5⟩
    refine ⟨b, c, e, h1, h2, by simpa using h3, fun j x y hj hy => ?_, h5⟩
    obtain ⟨q1, q2⟩ := h4 j (.d x) y (by simp [hj]) hy
    cases q2 with
    | d hd => exact ⟨q1, hd⟩

/-- A store into a variable's block. -/
theorem store_core {t : TypeId} {ti : TI} (hti : tiOk P t ti = true) {o : Oper} {a x : Operand} (ho : o.op = .store t a x) {ρ : Operand → Value} {w : World} {S : Stb} {hp : Hp} {β : Bet} (hr : HR w S hp β)
    {n b off : Nat} {blk blk' : Blk} {cs l : List V} (hn : hp[n]? = some blk) (hbr : BR w S hp β n (.var cs)) (hbn : β[n]? = some (some (b, 0))) (ha : ρ a = .pointer (some ⟨b, off, none⟩))
    (hx : (ρ x).cells.toList.length = l.length ∧ ∀ (j : Nat) (c : V) (y : Value), l[j]? = some c → (ρ x).cells.toList[j]? = some y → VR w S hp β c y ∧ c.flat = true)
    (hl : l.length = ti.size) (hlen : off + l.length ≤ cs.length)
    (hev : BEv blk (some (some (b, 0))) blk' (some (some (b, 0)))) (hb' : ∀ w S h β, BR w S h β n (.var (ov cs off l)) → BR w S h β n blk') (hone' : blk'.own = false := by rfl) :
    ∃ nx w' S' β' cv, (execOp ρ o).run P w = .ok nx w' ∧ (nx = .value cv ∨ (nx = .skip ∧ cv = undef)) ∧ HR w' S' (hp.set n blk') β' ∧ VR w' S' (hp.set n blk') β' .u cv ∧ Evol w S hp β w' S' (hp.set n blk') β' := by
  obtain ⟨b', cells, e, k1, k2, k3, k4, k5⟩ := hbr
  rw [hbn] at k1; simp at k1; subst k1
  obtain ⟨q1, q2⟩ := hx
  have hlc : off + (ρ x).cells.toList.length ≤ cells.toList.length := by rw [q1]; simp only [Array.length_toList, k3]; exact hlen
  have hone : ∀ y ∈ (ρ x).cells.toList, one y = true := fun y hy => by
    obtain ⟨j, hj⟩ := List.mem_iff_getElem?.1 hy
    have hjl : j < l.length := by rw [← q1]; exact (List.getElem?_eq_some_iff.1 hj).1
    obtain ⟨d1, d2⟩ := q2 j _ y (List.getElem?_eq_getElem hjl) hj
    exact d1.one d2
  have hrun := run_storeVar_ok hti k2 (by rw [q1]; exact hl) hone (by simpa using hlc)
  have hset : β.set n (some (b, 0)) = β := set_self hbn
  have hol := ov_length hlc
  obtain ⟨r1, r2⟩ := written (hone := hone') hr (blk' := blk') hn hbn k2 (cells' := (ov cells.toList off (ρ x).cells.toList).toArray) (by simp only [List.size_toArray, hol, Array.length_toList]) 0 (fun o ho => absurd ho (k5 o)) hev
    (fun E _ hh => by
      rw [hset] at E ⊢
      refine hb' _ _ _ _ ⟨b, _, e, hbn, hh, ?_, fun j c y hj hy => ?_, k5⟩
      · simp only [List.size_toArray, hol, Array.length_toList, k3, ov_length hlen]
      · have := ov_rel (R := fun (c : V) (y : Value) => c.flat = true ∧ VR w S hp β c y) (xs := cs) (ys := l) (us := cells.toList) (vs := (ρ x).cells.toList) (o := off) (o' := off) hlen hlc q1.symm
          (fun j c y hj hy => k4 j c y hj (by simpa using hy)) (Nat.le_refl _) (fun j c y hj hy => ⟨(q2 j c y hj hy).2, (q2 j c y hj hy).1⟩) j c y hj (by simpa using hy)
        exact ⟨this.1, this.2.evol E⟩)
  rw [hset] at r1 r2
  refine ⟨.skip, _, S, β, undef, ?_, .inr ⟨rfl, rfl⟩, r1, .u _, r2⟩
  simp [execOp, ho, Instr.storeAt, Instr.sureAddr, ha, hrun]

/-- A store into an element of a row. -/
theorem store_row {t : TypeId} {ti : TI} (hti : tiOk P t ti = true) {o : Oper} {a x : Operand} (ho : o.op = .store t a x) {ρ : Operand → Value} {w : World} {S : Stb} {hp : Hp} {β : Bet} (hr : HR w S hp β)
    {n ver e off sz : Nat} {xs : List D} {y xd : D} (hn : hp[n]? = some (.row ver sz false xs)) (ha : PR hp β n ver e off (ρ a)) (hx : DR w S xd (ρ x))
    (hl : xd.cells.length = ti.size) (hpos : 0 < ti.size) (hy : xs[e]? = some y) (hlen : off + xd.cells.length ≤ y.cells.length) :
    ∃ nx w' S' β' cv, (execOp ρ o).run P w = .ok nx w' ∧ (nx = .value cv ∨ (nx = .skip ∧ cv = undef)) ∧ HR w' S' (hp.set n (.row ver sz false (xs.set e (ofCells y (ov y.cells off xd.cells))))) β' ∧
      VR w' S' (hp.set n (.row ver sz false (xs.set e (ofCells y (ov y.cells off xd.cells))))) β' .u cv ∧ Evol w S hp β w' S' (hp.set n (.row ver sz false (xs.set e (ofCells y (ov y.cells off xd.cells))))) β' := by
  simp only [PR, hn] at ha
  obtain ⟨b, base, hbn, ha⟩ := ha.2.2 trivial
  obtain ⟨g0, g1, ⟨rfl, _⟩ | ⟨b', base', cells, el, k1, k2, k3, k4, k5⟩⟩ := hr.blk n _ hn
  · simp at hy
  · rw [hbn] at k1; simp at k1; obtain ⟨rfl, rfl⟩ := k1
    obtain ⟨q1, q2⟩ := hx.cells
    have he : e < xs.length := (List.getElem?_eq_some_iff.1 hy).1
    have hysz := (g1 e y hy).1
    have hmul : e * sz + sz ≤ xs.length * sz := by have := Nat.mul_le_mul_right sz (show e + 1 ≤ xs.length from he); rwa [Nat.succ_mul] at this
    have hlc : base + e * sz + off + (ρ x).cells.toList.length ≤ cells.toList.length := by rw [q1]; simp only [Array.length_toList]; omega
    have hone : ∀ y ∈ (ρ x).cells.toList, one y = true := fun y hy => by
      obtain ⟨j, hj⟩ := List.mem_iff_getElem?.1 hy
      have hjl : j < xd.cells.length := by rw [← q1]; exact (List.getElem?_eq_some_iff.1 hj).1
      obtain ⟨d1, d2⟩ := q2 j _ y (List.getElem?_eq_getElem hjl) hj
      exact d1.one d2
    have hnS : ∀ o, ¬ S b o := fun o ho => by have := (k5 o ho).1; cases this
    have hrun := run_storeVar_ok hti k2 (by rw [q1]; exact hl) hone (by simpa using hlc)
    have hset : β.set n (some (b, base)) = β := set_self hbn
    have hol := ov_length hlc
    have hovl := ov_length hlen
    have hflat : ∀ (j : Nat) (c : D), (ov y.cells off xd.cells)[j]? = some c → c.flat = true := fun j c hj => by
      rw [ov_get hlen] at hj
      split at hj
      · exact (g1 e y hy).2 j c hj
      · split at hj
        · obtain ⟨z, hz⟩ : ∃ z, (ρ x).cells.toList[j - off]? = some z := by
            have hjl : j - off < (ρ x).cells.toList.length := by rw [q1]; exact (List.getElem?_eq_some_iff.1 hj).1
            exact ⟨_, List.getElem?_eq_getElem hjl⟩
          exact (q2 _ c z hj hz).2
        · exact (g1 e y hy).2 j c hj
    have hofc : (ofCells y (ov y.cells off xd.cells)).cells = ov y.cells off xd.cells := ofCells_cells hovl hflat
    obtain ⟨r1, r2⟩ := written hr (blk' := .row ver sz false (xs.set e (ofCells y (ov y.cells off xd.cells)))) hn hbn k2 (cells' := (ov cells.toList (base + e * sz + off) (ρ x).cells.toList).toArray)
      (by simp only [List.size_toArray, hol, Array.length_toList]) base (fun o ho => absurd ho (hnS o)) (by simp [BEv])
      (fun E _ hh => by
        rw [hset] at E ⊢
        refine ⟨g0, fun i z hz => ?_, .inr ⟨b, base, _, el, hbn, hh, ?_, fun i z j c hz hj => ?_, fun o ho => absurd ho (hnS o)⟩⟩
        · rw [List.getElem?_set] at hz
          split at hz
          · rename_i hi; subst hi
            simp at hz; obtain ⟨_, rfl⟩ := hz
            rw [hofc]
            exact ⟨by rw [hovl]; exact hysz, hflat⟩
          · exact g1 i z hz
        · simp only [List.size_toArray, hol, Array.length_toList, List.length_set]; exact k3
        · simp only [List.getElem?_toArray]
          rw [ov_get hlc]
          rw [List.getElem?_set] at hz
          split at hz
          · rename_i hi; subst hi
            simp at hz; obtain ⟨_, rfl⟩ := hz
            rw [hofc, ov_get hlen] at hj
            by_cases a1 : j < off
            · rw [if_pos a1] at hj
              rw [if_pos (by omega)]
              obtain ⟨u, hu, hd⟩ := k4 e y j c hy hj
              exact ⟨u, by simpa using hu, hd.evol E.sub E.cell⟩
            · rw [if_neg a1] at hj
              by_cases a2 : j < off + xd.cells.length
              · rw [if_pos a2] at hj
                rw [if_neg (by omega), if_pos (by rw [q1]; omega)]
                have hjl : j - off < (ρ x).cells.toList.length := by rw [q1]; omega
                refine ⟨(ρ x).cells.toList[j - off], ?_, ((q2 (j - off) c _ hj (List.getElem?_eq_getElem hjl)).1).evol E.sub E.cell⟩
                rw [show base + e * sz + j - (base + e * sz + off) = j - off by omega]
                exact List.getElem?_eq_getElem hjl
              · rw [if_neg a2] at hj
                rw [if_neg (by omega), if_neg (by rw [q1]; omega)]
                obtain ⟨u, hu, hd⟩ := k4 e y j c hy hj
                exact ⟨u, by simpa using hu, hd.evol E.sub E.cell⟩
          · rename_i hi
            have hjz : j < sz := by rw [← (g1 i z hz).1]; exact (List.getElem?_eq_some_iff.1 hj).1
            obtain ⟨u, hu, hd⟩ := k4 i z j c hz hj
            refine ⟨u, ?_, hd.evol E.sub E.cell⟩
            rcases Nat.lt_or_ge i e with hlt | hge
            · have := Nat.mul_le_mul_right sz (show i + 1 ≤ e from hlt)
              rw [Nat.succ_mul] at this
              rw [if_pos (by omega)]; simpa using hu
            · have := Nat.mul_le_mul_right sz (show e + 1 ≤ i by omega)
              rw [Nat.succ_mul] at this
              rw [if_neg (by omega), if_neg (by rw [q1]; omega)]; simpa using hu)
    rw [hset] at r1 r2
    refine ⟨.skip, _, S, β, undef, ?_, .inr ⟨rfl, rfl⟩, r1, .u _, r2⟩
    simp [execOp, ho, Instr.storeAt, Instr.sureAddr, ha, hrun]

theorem aStore_sound (hT : tokB P T = true) {o : Oper} {t : TypeId} {a x : Operand} (ho : o.op = .store t a x) {av xv : V} {bs : List Blk} {K : Kt} (h : aStore T t av xv bs K) :
    ∃ v bs', K v bs' ∧ OpS P o [av, xv] (addrN av) bs bs' v := by
  unfold aStore at h
  cases hty : tyOf T t with
  | none => simp [hty] at h
  | some ti =>
    have hti := tyOf_ok hT hty
    simp only [hty] at h
    replace h := (chkB_iff _ _).1 h
    obtain ⟨hpos0, h⟩ := h
    have hpos : 0 < ti.size := Nat.le_of_ble_eq_true hpos0
    clear hpos0
    split at h
    · -- vard
      rename_i n ver e off cs
      split at h
      · rename_i xd
        obtain ⟨hsz, h⟩ := (chkB_iff _ _).1 h
        have hsz := Nat.eq_of_beq_eq_true hsz
        obtain ⟨hlen, hk⟩ := writeD_det h (fun e => by rw [e] at hsz; simp at hsz; omega)
        refine ⟨_, _, hk, fun ρ w S hp β hr hor hb => ?_⟩
        have hor2 := (show OR w S hp β ρ [a, x] _ by simpa [ho, opArgs] using hor).two
        have hn : hp[n]? = some (.vard cs) := by simpa [addrN] using hb 0 n rfl
        obtain ⟨hp1, hx1⟩ := hor2
        simp only [addrN, setL]
        generalize ha : ρ a = aw at hp1
        cases hp1 with
        | ptr g1 g2 =>
          simp only [PR, hn] at g2
          obtain ⟨b, hbn, rfl, rfl, rfl⟩ := g2
          cases hx1 with
          | d hd =>
            obtain ⟨q1, q2⟩ := hd.cells
            refine store_core hti ho hr (l := xd.cells.map .d) hn (BR.vard_var.1 (hr.blk n _ hn)) hbn ha ⟨by simpa using q1, fun j c y hj hy => ?_⟩ (by simpa using hsz) (by simpa using hlen) (by simp [BEv]) (fun w S h β hh => ?_)
            · simp only [List.getElem?_map, Option.map_eq_some_iff] at hj
              obtain ⟨c', hc', rfl⟩ := hj
              exact ⟨.d (q2 j c' y hc' hy).1, (q2 j c' y hc' hy).2⟩
            · rw [← ov_map] at hh
              exact BR.vard_var.2 hh
      · rename_i hnd
        obtain ⟨l, h, hcl⟩ := cellsK_det h
        obtain ⟨hsz, h⟩ := (chkB_iff _ _).1 h
        have hsz := Nat.eq_of_beq_eq_true hsz
        rcases layK_spec _ _ _ _ h with ⟨rfl, hk⟩ | ⟨hne, hlen, hk⟩
        · simp at hsz; omega
        · refine ⟨_, _, hk, fun ρ w S hp β hr hor hb => ?_⟩
          have hor2 := (show OR w S hp β ρ [a, x] _ by simpa [ho, opArgs] using hor).two
          have hn : hp[n]? = some (.vard cs) := by simpa [addrN] using hb 0 n rfl
          obtain ⟨hp1, hx1⟩ := hor2
          simp only [addrN, setL]
          generalize ha : ρ a = aw at hp1
          cases hp1 with
          | ptr g1 g2 =>
            simp only [PR, hn] at g2
            obtain ⟨b, hbn, rfl, rfl, rfl⟩ := g2
            exact store_core hti ho hr (l := l) hn (BR.vard_var.1 (hr.blk n _ hn)) hbn ha (hcl.rel hx1) hsz hlen (by simp [BEv]) (fun w S h β hh => hh)
    · -- var
      rename_i n ver e off cs
      obtain ⟨l, h, hcl⟩ := cellsK_det h
      obtain ⟨hsz, h⟩ := (chkB_iff _ _).1 h
      have hsz := Nat.eq_of_beq_eq_true hsz
      rcases layK_spec _ _ _ _ h with ⟨rfl, hk⟩ | ⟨hne, hlen, hk⟩
      · simp at hsz; omega
      · refine ⟨_, _, hk, fun ρ w S hp β hr hor hb => ?_⟩
        have hor2 := (show OR w S hp β ρ [a, x] _ by simpa [ho, opArgs] using hor).two
        have hn : hp[n]? = some (.var cs) := by simpa [addrN] using hb 0 n rfl
        obtain ⟨hp1, hx1⟩ := hor2
        simp only [addrN, setL]
        generalize ha : ρ a = aw at hp1
        cases hp1 with
        | ptr g1 g2 =>
          simp only [PR, hn] at g2
          obtain ⟨b, hbn, rfl, rfl, rfl⟩ := g2
          exact store_core hti ho hr (l := l) hn (hr.blk n _ hn) hbn ha (hcl.rel hx1) hsz hlen (by simp [BEv]) (fun w S h β hh => hh)
    · -- row
      rename_i n ver e off ver' sz ro xs
      split at h
      · rename_i xd
        obtain ⟨hsz, h⟩ := (chkB_iff _ _).1 h
        have hsz := Nat.eq_of_beq_eq_true hsz
        obtain ⟨hver, h⟩ := h.elim
        subst hver
        obtain ⟨y, hy, h⟩ := nthK_iff.1 h
        obtain ⟨hlen, h⟩ := writeD_det h (fun e => by rw [e] at hsz; simp at hsz; omega)
        obtain ⟨_, hk⟩ := setK_iff.1 h
        refine ⟨_, _, hk, fun ρ w S hp β hr hor hb => ?_⟩
        have hor2 := (show OR w S hp β ρ [a, x] _ by simpa [ho, opArgs] using hor).two
        have hn : hp[n]? = some (.row ver sz false xs) := by simpa [addrN] using hb 0 n rfl
        obtain ⟨hp1, hx1⟩ := hor2
        simp only [addrN, setL]
        cases hp1 with
        | ptr g1 g2 => cases hx1 with
          | d hd => exact store_row hti ho hr hn g2 hd hsz hpos hy hlen
      · exact h.elim
    · exact h.elim

end Go.PM
