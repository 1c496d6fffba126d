/-
  PM, part 10: operations that make slices and maps.
-/
import Derived.Test.YtbifaidepiejeaaPmOps5
set_option linter.unusedSectionVars false
namespace Go.PM
variable [Glob]
variable {P : Program} {T : TT}

/-- A new row. -/
theorem alloc_row {w : World} {S : Stb} {h : Hp} {β : Bet} (hr : HR w S h β) {n : Nat} (hn : h[n]? = some .res) (e : TypeId) (cells : Array Value) (sz len cap : Nat) (xs : List D) (hsz : 0 < sz)
    (hxs : ∀ (i : Nat) (x : D), xs[i]? = some x → x.cells.length = sz ∧ ∀ (j : Nat) (c : D), x.cells[j]? = some c → c.flat = true)
    (hl : xs.length * sz ≤ cells.size) (hcap : cap * sz ≤ cells.size) (hlen : len ≤ cap)
    (hc : ∀ (i : Nat) (x : D) (j : Nat) (c : D), xs[i]? = some x → x.cells[j]? = some c → ∃ y, cells[i * sz + j]? = some y ∧ DR w S c y) :
    ∃ β', HR (w.alloc (.cells cells e)) S (h.set n (.row 0 sz false xs)) β' ∧ Evol w S h β (w.alloc (.cells cells e)) S (h.set n (.row 0 sz false xs)) β' ∧
      VR (w.alloc (.cells cells e)) S (h.set n (.row 0 sz false xs)) β' (.sref n 0 0 len false) (.slice (some ⟨w.heap.size, 0, none⟩) len cap) := by
  have hnl : n < h.length := (List.getElem?_eq_some_iff.1 hn).1
  obtain ⟨r1, r2⟩ := alloced hr hn (.cells cells e) (.row 0 sz false xs) 0 (frozen_alloc_cells w cells e) (fun E hS hβ hh =>
    ⟨hsz, hxs, .inr ⟨w.heap.size, 0, cells, e, hβ, hh, by omega, fun i x j c hx hj => by
      obtain ⟨y, a, b⟩ := hc i x j c hx hj
      exact ⟨y, by rw [Nat.zero_add]; exact a, b.evol E.sub E.cell⟩, fun o ho => absurd ho (hS o)⟩⟩)
  refine ⟨_, r1, r2, .sref rfl ⟨_, cap, rfl, hlen, by simp, ?_⟩⟩
  have hget : (h.set n (Blk.row 0 sz false xs))[n]? = some (.row 0 sz false xs) := by simp [hnl]
  have hβ : (β.set n (some (w.heap.size, 0)))[n]? = some (some (w.heap.size, 0)) := by
    have : n < β.length := Nat.lt_of_lt_of_le hnl hr.len
    simp [this]
  rw [hget]
  exact ⟨Nat.le_refl _, fun _ => .inr ⟨w.heap.size, 0, cells, e, (0, 0), hβ, fun _ => by simp, heap_alloc_new w _, by simpa using hcap⟩⟩

theorem elemsOf_det {te : TI} : ∀ (is : List Nat) (vs : List V) (j : Nat) (k : List D → Prop), elemsOf te is vs j k → ∃ ys, k ys ∧ ys.length = is.length ∧ (∀ (i : Nat) (y : D), ys[i]? = some y → y.cells.length = te.size) ∧
      ∀ (w : World) (S : Stb) (hp : Hp) (β : Bet) (us : List Value) (cells : Array Value), is.length = us.length → (∀ (i : Nat) (v : V) (u : Value), vs[i]? = some v → us[i]? = some u → VR w S hp β v u) →
        (j + is.length) * te.size ≤ cells.size →
        ∃ cells', Instr.fill (fun i => some (i * te.size, te.size)) cells (is.zip us) = some cells' ∧ cells'.size = cells.size ∧ (∀ m, m < j * te.size → cells'[m]? = cells[m]?) ∧
          ∀ (i : Nat) (y : D) (q : Nat) (c : D), ys[i]? = some y → y.cells[q]? = some c → ∃ u, cells'[(j + i) * te.size + q]? = some u ∧ DR w S c u ∧ c.flat = true
  | [], vs, j, k, h => ⟨[], by simpa [elemsOf] using h, rfl, by simp, fun w S hp β us cells hus _ _ => ⟨cells, by simp [Instr.fill], rfl, fun _ _ => rfl, by simp⟩⟩
  | i :: r, [], j, k, h => by simp [elemsOf] at h
  | i :: r, v :: vs, j, k, h => by
    simp only [elemsOf] at h
    split at h
    · rename_i hij
      have hij := Nat.eq_of_beq_eq_true hij
      subst hij
      unfold elemD at h
      split at h
      · rename_i x
        obtain ⟨hsz, h⟩ := (chkB_iff _ _).1 h
        have hsz := Nat.eq_of_beq_eq_true hsz
        obtain ⟨ys, hk, h1, h2, h3⟩ := elemsOf_det (te := te) r vs (i + 1) _ h
        refine ⟨x :: ys, hk, by simp [h1], fun m y hm => ?_, fun w S hp β us cells hus hv hl => ?_⟩
        · cases m with
          | zero => simp at hm; subst hm; exact hsz
          | succ m => exact h2 m y (by simpa using hm)
        · match us, hus with
          | u :: us, hus =>
            have hv0 := hv 0 _ u rfl rfl
            cases hv0 with
            | d hd =>
              obtain ⟨q1, q2⟩ := hd.cells
              have hl' : (i + (r.length + 1)) * te.size ≤ cells.size := by simpa using hl
              rw [Nat.add_mul, Nat.succ_mul] at hl'
              have hlc : i * te.size + u.cells.toList.length ≤ cells.toList.length := by rw [q1, hsz]; simp only [Array.length_toList]; omega
              have hov := ov_length hlc
              obtain ⟨cells', e1, e2, e3, e4⟩ := h3 w S hp β us (ov cells.toList (i * te.size) u.cells.toList).toArray (by simpa using hus) (fun m v u hm hu => hv (m + 1) v u (by simpa using hm) (by simpa using hu))
                (by simp only [List.size_toArray, hov, Array.length_toList]; rw [Nat.add_mul, Nat.succ_mul]; omega)
              refine ⟨cells', ?_, by rw [e2]; simp only [List.size_toArray, hov, Array.length_toList], fun m hm => ?_, fun m y q c hy hc => ?_⟩
              · rw [List.zip_cons_cons, fill_cons (off := i * te.size) (size := te.size) rfl (by rw [q1]; exact hsz) (by omega)]
                exact e1
              · rw [e3 m (by rw [Nat.succ_mul]; omega)]
                simp only [List.getElem?_toArray]
                rw [ov_get hlc, if_pos hm]
                simp
              · cases m with
                | zero =>
                  simp at hy; subst hy
                  have hq : q < te.size := by rw [← hsz]; exact (List.getElem?_eq_some_iff.1 hc).1
                  have hqu : q < u.cells.toList.length := by rw [q1, hsz]; exact hq
                  refine ⟨u.cells.toList[q], ?_, (q2 q c _ hc (List.getElem?_eq_getElem hqu)).1, (q2 q c _ hc (List.getElem?_eq_getElem hqu)).2⟩
                  rw [Nat.add_zero, e3 _ (by rw [Nat.succ_mul]; omega)]
                  simp only [List.getElem?_toArray]
                  rw [ov_get hlc, if_neg (by omega), if_pos (by omega), show i * te.size + q - i * te.size = q by omega]
                  exact List.getElem?_eq_getElem hqu
                | succ m =>
                  obtain ⟨u', a, b, c'⟩ := e4 m y q c (by simpa using hy) hc
                  exact ⟨u', by rw [show i + (m + 1) = i + 1 + m by omega]; exact a, b, c'⟩
      · exact h.elim
    · exact h.elim

/-- New cells that will never change: data. -/
theorem alloc_data {w : World} {S : Stb} {h : Hp} {β : Bet} (hr : HR w S h β) (e : TypeId) (cells : Array Value) (sz : Nat) (xs : List D) (hsz : 0 < sz)
    (hxs : ∀ (i : Nat) (x : D), xs[i]? = some x → x.cells.length = sz ∧ ∀ (j : Nat) (c : D), x.cells[j]? = some c → c.flat = true)
    (hc : ∀ (i : Nat) (x : D) (j : Nat) (c : D), xs[i]? = some x → x.cells[j]? = some c → ∃ y, cells[i * sz + j]? = some y ∧ DR w S c y) :
    ∃ S', HR (w.alloc (.cells cells e)) S' h β ∧ Evol w S h β (w.alloc (.cells cells e)) S' h β ∧ DR (w.alloc (.cells cells e)) S' (.sl sz true xs) (.slice (some ⟨w.heap.size, 0, none⟩) xs.length xs.length) := by
  have hold : ∀ i, i < w.heap.size → (w.alloc (.cells cells e)).heap[i]? = w.heap[i]? := fun i hi => heap_alloc_old w _ i hi
  have hnew := heap_alloc_new w (.cells cells e)
  refine ⟨fun b o => S b o ∨ b = w.heap.size, ?_⟩
  have E : Evol w S h β (w.alloc (.cells cells e)) (fun b o => S b o ∨ b = w.heap.size) h β := by
    refine ⟨⟨⟨rfl, rfl⟩, rfl, Nat.le_refl _⟩, by simp, fun i hi _ => hold i hi, fun i c e f hi => ⟨c, by rw [hold i (Array.getElem?_eq_some_iff.1 hi).1]; exact hi, rfl⟩, fun i l hi => ⟨l, by rw [hold i (Array.getElem?_eq_some_iff.1 hi).1]; exact hi⟩,
      fun a _ => frozen_alloc_cells w cells e a, fun _ _ h => .inl h, fun b o hs => ?_, fun b o hs => World.cell?_of_block (a := ⟨b, o, none⟩) (hold b (hr.old b o hs)), fun _ h => .inl h, Nat.le_refl _, fun _ b hb => ⟨b, hb, BEv.refl _ _⟩⟩
    rcases hs with h | rfl
    · exact .inl h
    · exact .inr (.inl (Nat.le_refl _))
  have hsz' : w.heap.size < (w.alloc (.cells cells e)).heap.size := by show w.heap.size < (w.heap.push _).size; simp
  refine ⟨⟨hr.len, fun n b hn => BR.keep E rfl (fun _ r b' p hb => ⟨hb, hold b' (hr.tlt r b' p hb), fun o ho => ?_⟩) (fun b' p hb => ⟨hold b' (hr.lt hb), fun o ho => ?_⟩) (hr.blk n b hn), hr.inj, fun b o hs => ?_, hr.glob.evol E, fun r b p hb => Nat.lt_of_lt_of_le (hr.tlt r b p hb) E.size, hr.one⟩, E, ?_⟩
  · rcases ho with h | rfl
    · exact h
    · exact absurd (hr.tlt _ _ _ hb) (by omega)
  · rcases ho with h | rfl
    · exact h
    · exact absurd (hr.lt hb) (by omega)
  · rcases hs with h | rfl
    · exact Nat.lt_of_lt_of_le (hr.old b o h) E.size
    · exact hsz'
  · refine .sl sz true xs _ xs.length w.heap.size 0 (fun i j => (cells[i * sz + j]?).getD undef) (Nat.le_refl _) (fun _ => rfl) (fun h => by omega) (fun _ => rfl) (fun i x hx => (hxs i x hx).1) (fun i x j c hx hj => ⟨(hxs i x hx).2 j c hj, ?_, .inr rfl⟩) (fun i x j c hx hj => ?_)
    · obtain ⟨y, a, _⟩ := hc i x j c hx hj
      rw [cell_of_row _ w.heap.size (0 + i * sz + j) cells e (0, 0) hnew, Nat.zero_add, a]; rfl
    · obtain ⟨y, a, b⟩ := hc i x j c hx hj
      rw [a]
      exact b.evol E.sub E.cell

theorem aBuildSlice_sound (hT : tokB P T = true) {o : Oper} {t : TypeId} {len : Nat} {parts : Array (Nat × Operand)} (ho : o.op = .buildSlice t len parts) {vs : List V} {K : V → Prop}
    (h : aBuildSlice T t len (ixs parts.toList) vs K) : ∃ v, K v ∧ ∀ (ns : List Nat) (bs : List Blk), OpS P o vs ns bs bs v := by
  unfold aBuildSlice at h
  cases hty : tyOf T t with
  | none => simp [hty] at h
  | some ti =>
    have hti := tyOf_ok hT hty
    simp only [hty] at h
    split at h
    · rename_i e hk
      cases hte : tyOf T e with
      | none => simp [hte] at h
      | some te =>
        have hteo := tyOf_ok hT hte
        simp only [hte] at h
        obtain ⟨i, z, hi⟩ := tiOk_info hteo
        replace h := (chkB_iff _ _).1 h
        obtain ⟨hchk, h⟩ := h
        simp only [Bool.and_eq_true] at hchk
        obtain ⟨⟨hlen, hpos⟩, hsize⟩ := hchk
        have hlen := Nat.eq_of_beq_eq_true hlen
        have hpos : 0 < te.size := Nat.le_of_ble_eq_true hpos
        have hsize := Nat.le_of_ble_eq_true hsize
        obtain ⟨ys, hkk, h1, h2, h3⟩ := elemsOf_det (te := te) _ _ _ _ h
        refine ⟨_, hkk, fun ns bs ρ w S hp β hr hor hb => ?_⟩
        have hor' : OR w S hp β ρ (parts.toList.map (·.2)) vs := by simpa [ho, opArgs] using hor
        obtain ⟨g1, g2⟩ := hor'.vals
        have hzip : (parts.toList.map fun p => (p.1, ρ p.2)) = (ixs parts.toList).zip ((parts.toList.map (·.2)).map ρ) := by
          simp only [ixs, List.map_map, List.zip_map']
          rfl
        obtain ⟨cells', e1, e2, e3, e4⟩ := h3 w S hp β ((parts.toList.map (·.2)).map ρ) ((Array.range (len * te.size)).map (z.cells[· % z.cells.size]!)) (by simp [ixs]) g2 (by simp [hlen])
        have e2' : cells'.size = len * te.size := by rw [e2]; simp
        have hyl : ys.length = len := by rw [h1, hlen]
        obtain ⟨S', r1, r2, r3⟩ := alloc_data hr e cells' te.size ys hpos (fun i y hy => ⟨h2 i y hy, fun j c hc => by
          obtain ⟨_, _, _, hf⟩ := e4 i y j c hy hc
          exact hf⟩) (fun i y j c hy hc => by
          obtain ⟨u, a, b, _⟩ := e4 i y j c hy hc
          rw [Nat.zero_add] at a
          exact ⟨u, a, b⟩)
        have hs : setL hp ns bs = hp := setL_same fun i n b hi hbi => by rw [hb i n hi, hbi]
        refine ⟨_, _, S', β, _, ?_, .inl rfl, by rw [hs]; exact r1, by rw [hs]; exact .d r3, by rw [hs]; exact r2⟩
        rw [hyl]
        have hparts : (parts.map fun (i, x) => (i, ρ x)).toList = (ixs parts.toList).zip ((parts.toList.map (·.2)).map ρ) := by rw [← hzip]; simp
        simp only [execOp, ho, Instr.buildSlice, Sem.run_bind, run_underlying (kind_slice hti hk), Result.andThen_ok, run_sizeOf' hteo]
        rw [if_neg (by omega)]
        by_cases h0 : len * te.size = 0
        · rw [if_pos h0]
          rw [h0] at e1
          have e1' : Instr.fill (fun i => some (i * te.size, te.size)) #[] ((ixs parts.toList).zip ((parts.toList.map (·.2)).map ρ)) = some cells' := by simpa [Array.range_zero'] using e1
          simp only [Sem.run_bind, Sem.run_pure, Result.andThen_ok, hparts, h0, Array.range_zero', Array.map_empty]
          rw [e1']
          simp only [Sem.run_bind, Sem.run_pure, Result.andThen_ok, newRow, newObj, Sem.run]
          rfl
        · rw [if_neg h0]
          simp only [Sem.run_bind, run_zeroValue' hi, Sem.run_pure, Result.andThen_ok, hparts, e1, newRow, newObj, Sem.run]
          rfl
      
    · exact h.elim


theorem madeCells_get (z : Array Value) (n k : Nat) (hk : k < n) : (madeCells z n)[k]? = some z[k % z.size]! := by
  simp [madeCells, hk]

theorem zeroElem_cells {te : TI} (h : te.zero.length = te.size) (ha : isAggT te = false → te.size = 1) (hf : ∀ (j : Nat) (c : D), te.zero[j]? = some c → c.flat = true) : (zeroElem te).cells = te.zero := by
  unfold zeroElem
  cases hag : isAggT te with
  | true => rfl
  | false =>
    have h1 := ha hag
    rw [h1] at h
    match hz : te.zero, h with
    | [x], _ =>
      have := hf 0 x (by rw [hz]; rfl)
      exact flat_cells x this

theorem aMakeRow_sound (hT : tokB P T = true) {o : Oper} {t : TypeId} {l c : Operand} (ho : o.op = .makeSlice t l c) {ti te : TI} {e : TypeId} (hti : tiOk P t ti = true) (hk : ti.kind = .slice e) (hteo : tiOk P e te = true) {n m : Int} {nf : Nat} {K : Kt}
    (hby : te.bytes ≤ 65536) (hpos : 0 < te.size) (hzl : te.zero.length = te.size) (hone : (isAggT te || Nat.beq te.size 1) = true)
    (h : aMakeRow te n m nf K) : ∃ v bs', K v bs' ∧ OpS P o [.d (.i .i64 n), .d (.i .i64 m)] [nf] [.res] bs' v := by
  unfold aMakeRow at h
  have hargs : opArgs o.op = [l, c] := by simp [ho, opArgs]
  obtain ⟨i, z, hi⟩ := tiOk_info hteo
  replace h := h.elim
  obtain ⟨⟨h0, hnm, hm⟩, h⟩ := h
  refine ⟨_, _, h, fun ρ w S hp β hr hor hb => ?_⟩
  have hn : hp[nf]? = some .res := by simpa using hb 0 nf rfl
  obtain ⟨hl, hc⟩ := OR.two (by rw [hargs] at hor; exact hor)
  have hl := int_inv hl
  have hc := int_inv hc
  unfold room at hm
  have hm0 : 0 ≤ m := by omega
  have hb2 : (i.bytes : Int) * m ≤ 281474976710656 := by
    rw [hi.bytes]
    have h1 : (te.bytes : Int) ≤ 65536 := by omega
    have h2 : (te.bytes : Int) * m ≤ 65536 * m := Int.mul_le_mul_of_nonneg_right h1 hm0
    have h3 : (65536 : Int) * m ≤ 65536 * 1073741824 := Int.mul_le_mul_of_nonneg_left (by omega) (by omega)
    omega
  have hrun := run_make (P := P) w t e i z (kind_slice hti hk) hi.info hi.zero .i64 .i64 n m h0 hnm hb2 (by omega)
  obtain ⟨zs1, zs2⟩ := zsEq_spec hi.zs
  have hzf : ∀ (j : Nat) (c : D), te.zero[j]? = some c → c.flat = true := fun j c hj => by
    have hl : j < z.cells.toList.length := by rw [← zs1]; exact (List.getElem?_eq_some_iff.1 hj).1
    exact (zs2 j c _ hj (List.getElem?_eq_getElem hl) w S).2
  have hzc : (zeroElem te).cells = te.zero := zeroElem_cells hzl (fun ha => by
    cases hag : isAggT te with
    | true => rw [hag] at ha; cases ha
    | false => simpa [hag] using hone) hzf
  have hzsz : z.cells.size = te.size := by rw [← hzl, zs1]; simp
  have hnm' : n.toNat ≤ m.toNat := by omega
  obtain ⟨β', r1, r2, r3⟩ := alloc_row hr hn e (madeCells z.cells (m.toNat * i.size)) te.size n.toNat m.toNat (List.replicate n.toNat (zeroElem te)) hpos (fun j x hx => by
      rw [List.getElem?_replicate] at hx
      split at hx <;> simp at hx
      subst hx
      rw [hzc]
      exact ⟨hzl, hzf⟩) (by rw [size_madeCells, hi.size, List.length_replicate]; exact Nat.mul_le_mul_right _ hnm') (by rw [size_madeCells, hi.size]; exact Nat.le_refl _) hnm' (fun j x q c hx hq => by
      rw [List.getElem?_replicate] at hx
      split at hx <;> simp at hx
      rename_i hjn
      subst hx
      rw [hzc] at hq
      have hq' : q < te.size := by rw [← hzl]; exact (List.getElem?_eq_some_iff.1 hq).1
      have hlt : j * te.size + q < m.toNat * i.size := by
        rw [hi.size]
        have := Nat.mul_le_mul_right te.size (show j + 1 ≤ m.toNat by omega)
        rw [Nat.succ_mul] at this
        omega
      refine ⟨_, madeCells_get _ _ _ hlt, ?_⟩
      rw [hzsz, Nat.mul_comm j te.size, Nat.mul_add_mod, Nat.mod_eq_of_lt hq']
      have hqz : q < z.cells.size := by omega
      rw [getElem!_pos z.cells q hqz]
      exact (zs2 q c _ hq (by simp [hqz]) w S).1)
  refine ⟨_, _, S, β', _, ?_, .inl rfl, by simpa [setL] using r1, by simpa [setL] using r3, by simpa [setL] using r2⟩
  simp [execOp, ho, hl, hc, hrun]

/-- A new variable with a slice over it. -/
theorem alloc_over {w : World} {S : Stb} {h : Hp} {β : Bet} (hr : HR w S h β) {n : Nat} (hn : h[n]? = some .res) (e : TypeId) (cells : Array Value) (xs : List D) (hl : cells.size = xs.length)
    (hc : ∀ (i : Nat) (x : D) (y : Value), xs[i]? = some x → cells[i]? = some y → x.flat = true ∧ DR w S x y) :
    ∃ β', HR (w.alloc (.cells cells e)) S (h.set n (.vard xs)) β' ∧ Evol w S h β (w.alloc (.cells cells e)) S (h.set n (.vard xs)) β' ∧
      VR (w.alloc (.cells cells e)) S (h.set n (.vard xs)) β' (.sref n 1 0 xs.length true) (.slice (some ⟨w.heap.size, 0, none⟩) xs.length xs.length) := by
  have hnl : n < h.length := (List.getElem?_eq_some_iff.1 hn).1
  obtain ⟨r1, r2⟩ := alloced hr hn (.cells cells e) (.vard xs) 0 (frozen_alloc_cells w cells e) (fun E hS hβ hh =>
    ⟨w.heap.size, cells, e, hβ, hh, hl, fun j c u hj hu => by
      obtain ⟨a, b⟩ := hc j c u hj hu
      exact ⟨a, b.evol E.sub E.cell⟩, hS⟩)
  refine ⟨_, r1, r2, .sref rfl ⟨_, _, rfl, Nat.le_refl _, fun _ => rfl, ?_⟩⟩
  have hget : (h.set n (Blk.vard xs))[n]? = some (.vard xs) := by simp [hnl]
  have hβ : (β.set n (some (w.heap.size, 0)))[n]? = some (some (w.heap.size, 0)) := by
    have : n < β.length := Nat.lt_of_lt_of_le hnl hr.len
    simp [this]
  rw [hget]
  exact ⟨rfl, w.heap.size, cells, e, (0, 0), hβ, fun _ => rfl, heap_alloc_new w _, by omega⟩

theorem aMakeSlice_sound (hT : tokB P T = true) {o : Oper} {t : TypeId} {l c : Operand} (ho : o.op = .makeSlice t l c) {lv cv : V} {nf : Nat} {K : Kt}
    (h : aMakeSlice T t lv cv nf K) : ∃ v bs', K v bs' ∧ OpS P o [lv, cv] [nf] [.res] bs' v := by
  unfold aMakeSlice at h
  have hargs : opArgs o.op = [l, c] := by simp [ho, opArgs]
  split at h
  · rename_i ti n m hty
    have hti := tyOf_ok hT hty
    split at h
    · rename_i e hk
      cases hte : tyOf T e with
      | none => simp [hte] at h
      | some te =>
        have hteo := tyOf_ok hT hte
        simp only [hte] at h
        obtain ⟨i, z, hi⟩ := tiOk_info hteo
        replace h := (chkB_iff _ _).1 h
        obtain ⟨hchk, h⟩ := h
        simp only [Bool.and_eq_true] at hchk
        obtain ⟨⟨⟨hby, hpos⟩, hzl⟩, hone⟩ := hchk
        have hby := Nat.le_of_ble_eq_true hby
        have hpos : 0 < te.size := Nat.le_of_ble_eq_true hpos
        have hzl := Nat.eq_of_beq_eq_true hzl
        have row : aMakeRow te n m nf K → ∃ v bs', K v bs' ∧ OpS P o [.d (.i .i64 n), .d (.i .i64 m)] [nf] [.res] bs' v := fun h => aMakeRow_sound hT ho hti hk hteo hby hpos hzl hone h
        split at h
        · rename_i e2 hk2
          rcases h.elim with h2 | h2
          · exact row h2
          · obtain ⟨⟨h0, hnm, hm⟩, h3⟩ := h2.elim
            subst hnm
            obtain ⟨hsz, h⟩ := (chkB_iff _ _).1 h3
            have hsz := Nat.eq_of_beq_eq_true hsz
            refine ⟨_, _, h, fun ρ w S hp β hr hor hb => ?_⟩
            have hn : hp[nf]? = some .res := by simpa using hb 0 nf rfl
            obtain ⟨hl, hc⟩ := OR.two (by rw [hargs] at hor; exact hor)
            have hl := int_inv hl
            have hc := int_inv hc
            unfold room at hm
            have hb2 : (i.bytes : Int) * n ≤ 281474976710656 := by
              rw [hi.bytes]
              have h1 : (te.bytes : Int) ≤ 65536 := by omega
              have h2 : (te.bytes : Int) * n ≤ 65536 * n := Int.mul_le_mul_of_nonneg_right h1 h0
              have h3 : (65536 : Int) * n ≤ 65536 * 1073741824 := Int.mul_le_mul_of_nonneg_left (by omega) (by omega)
              omega
            have hrun := run_make (P := P) w t e i z (kind_slice hti hk) hi.info hi.zero .i64 .i64 n n h0 (Int.le_refl _) hb2 (by omega)
            obtain ⟨zs1, zs2⟩ := zsEq_spec hi.zs
            have hzf : ∀ (j : Nat) (c : D), te.zero[j]? = some c → c.flat = true := fun j c hj => by
              have hl : j < z.cells.toList.length := by rw [← zs1]; exact (List.getElem?_eq_some_iff.1 hj).1
              exact (zs2 j c _ hj (List.getElem?_eq_getElem hl) w S).2
            have hzc : (zeroElem te).cells = te.zero := zeroElem_cells hzl (fun ha => hsz) hzf
            have hzfl : (zeroElem te).flat = true := by
              unfold zeroElem
              have hag : isAggT te = false := by simp [isAggT, hk2]
              rw [hag]
              have : te.zero.length = 1 := by omega
              match hz : te.zero, this with
              | [x], _ => exact hzf 0 x (by rw [hz]; rfl)
            have hzsz : z.cells.size = 1 := by rw [← hsz, ← hzl, zs1]; simp
            obtain ⟨β', r1, r2, r3⟩ := alloc_over hr hn e (madeCells z.cells (n.toNat * i.size)) (List.replicate n.toNat (zeroElem te)) (by rw [size_madeCells, hi.size, List.length_replicate, hsz, Nat.mul_one]) (fun j x y hx hy => by
                rw [List.getElem?_replicate] at hx
                split at hx <;> simp at hx
                rename_i hjn
                subst hx
                rw [madeCells_get _ _ _ (by rw [hi.size, hsz, Nat.mul_one]; exact hjn)] at hy
                cases hy
                rw [hzsz, Nat.mod_one]
                have hqz : 0 < z.cells.size := by omega
                rw [getElem!_pos z.cells 0 hqz]
                have h0 : te.zero[0]? = some (zeroElem te) := by rw [← hzc, flat_cells _ hzfl]; rfl
                exact ⟨hzfl, (zs2 0 _ _ h0 (by simp [hqz]) w S).1⟩)
            rw [List.length_replicate] at r3
            refine ⟨_, _, S, β', _, ?_, .inl rfl, by simpa [setL] using r1, by simpa [setL] using r3, by simpa [setL] using r2⟩
            simp [execOp, ho, hl, hc, hrun]
        · exact row h
    · exact h.elim
  · exact h.elim

theorem aMakeMap_sound {o : Oper} {t : TypeId} (ho : o.op = .makeMap t none) {vs : List V} {kt : TypeId} {nf : Nat} : OpS P o vs [nf] [.res] [.map T kt []] (.map nf) := by
  intro ρ w S hp β hr hor hb
  have hn : hp[nf]? = some .res := by simpa using hb 0 nf rfl
  have hnl : nf < hp.length := (List.getElem?_eq_some_iff.1 hn).1
  obtain ⟨r1, r2⟩ := alloced hr hn (.map #[] 0) (.map T kt []) 0 (frozen_alloc_obj w _ (fun _ _ _ h => by cases h)) (fun E hS hβ hh =>
    ⟨w.heap.size, #[], 0, hβ, hh, rfl, by simp, Born.nil, hS⟩)
  have hβ : (β.set nf (some (w.heap.size, 0)))[nf]? = some (some (w.heap.size, 0)) := by
    have : nf < β.length := Nat.lt_of_lt_of_le hnl hr.len
    simp [this]
  have hget : (hp.set nf (Blk.map T kt []))[nf]? = some (.map T kt []) := by simp [hnl]
  refine ⟨_, _, S, _, _, ?_, .inl rfl, by simpa [setL] using r1, .map (by simp only [setL]; rw [hget]; trivial) (fun _ => hβ), by simpa [setL] using r2⟩
  simp [execOp, ho, Instr.makeMap, newObj, Sem.run]

theorem aMakeMapN_sound {o : Oper} {t : TypeId} (ho : o.op = .makeMap t none) {vs : List V} {kt : TypeId} {nf : Nat} : OpS P o vs [nf] [.res] [.mapn T kt] (.map nf) := by
  intro ρ w S hp β hr hor hb
  have hn : hp[nf]? = some .res := by simpa using hb 0 nf rfl
  have hnl : nf < hp.length := (List.getElem?_eq_some_iff.1 hn).1
  obtain ⟨r1, r2⟩ := alloced hr hn (.map #[] 0) (.mapn T kt) 0 (frozen_alloc_obj w _ (fun _ _ _ h => by cases h)) (fun E hS hβ hh =>
    ⟨w.heap.size, hβ, hh, hS⟩)
  have hβ : (β.set nf (some (w.heap.size, 0)))[nf]? = some (some (w.heap.size, 0)) := by
    have : nf < β.length := Nat.lt_of_lt_of_le hnl hr.len
    simp [this]
  have hget : (hp.set nf (Blk.mapn T kt))[nf]? = some (.mapn T kt) := by simp [hnl]
  refine ⟨_, _, S, _, _, ?_, .inl rfl, by simpa [setL] using r1, .map (by simp only [setL]; rw [hget]; trivial) (fun _ => hβ), by simpa [setL] using r2⟩
  simp [execOp, ho, Instr.makeMap, newObj, Sem.run]

end Go.PM
