/-
  PM, part 9: operations that make composites and slices.
-/
import Derived.Test.YtfckliidjmeeaaaDoorPmOps4
import Derived.Laws.MakeOwn
set_option linter.unusedSectionVars false
namespace Go.PM
variable [Glob]
variable {P : Program} {T : TT}
theorem run_mapM_list {α β : Type} (g : α → Sem β) (r : α → β) (w : World) : ∀ l : List α, (∀ a ∈ l, (g a).run P w = .ok (r a) w) → (l.mapM g).run P w = .ok (l.map r) w
  | [], _ => by simp
  | a :: l, h => by
    simp only [List.mapM_cons, Sem.run_bind, h a (by simp), Result.andThen_ok, run_mapM_list g r w l (fun b hb => h b (by simp [hb])), Sem.run_pure, List.map_cons]
theorem run_mapM_arr {α β : Type} (g : α → Sem β) (r : α → β) (w : World) (l : Array α) (h : ∀ a ∈ l.toList, (g a).run P w = .ok (r a) w) : (l.mapM g).run P w = .ok (l.map r) w := by
  rw [Array.mapM_eq_mapM_toList]
  simp only [Sem.run_map, run_mapM_list g r w l.toList h, Result.andThen_ok]
  congr 1
  apply Array.ext'
  simp
theorem ov_cons {α : Type} {xs ys : List α} {o : Nat} {y : α} (h : o + 1 + ys.length ≤ xs.length) : ov (xs.set o y) (o + 1) ys = ov xs o (y :: ys) := by
  apply List.ext_getElem?
  intro j
  rw [ov_get (by simp; omega), ov_get (by simp; omega), List.getElem?_set]
  by_cases hj : o = j
  · subst hj; simp; omega
  · simp only [if_neg hj, List.length_cons]
    by_cases a : j < o
    · rw [if_pos a, if_pos (by omega)]
    · rw [if_neg a, if_neg (by omega : ¬ j < o + 1)]
      by_cases b : j < o + 1 + ys.length
      · rw [if_pos b, if_pos (by omega), show j - o = (j - (o + 1)) + 1 from by omega, List.getElem?_cons_succ]
      · rw [if_neg b, if_neg (by omega)]
theorem ov_nil {α : Type} (xs : List α) (o : Nat) : ov xs o [] = xs := by simp [ov]
theorem foldl_set (off : Nat) : ∀ (l : List Value) (k : Nat) (cells : Array Value), off + k + l.length ≤ cells.size →
    ((l.zipIdx k).foldl (fun (cs : Array Value) (p : Value × Nat) => cs.setIfInBounds (off + p.2) p.1) cells).toList = ov cells.toList (off + k) l
  | [], k, cells, _ => by simp [ov_nil]
  | v :: l, k, cells, h => by
    simp only [List.zipIdx_cons, List.foldl_cons]
    have hl : off + k + 1 + l.length ≤ cells.size := by simp at h; omega
    rw [foldl_set off l (k + 1) _ (by simp; omega)]
    rw [Array.toList_setIfInBounds, show off + (k + 1) = off + k + 1 by omega]
    exact ov_cons (by simpa using hl)
theorem fill_cons {place : Nat → Option (Nat × Nat)} {cells : Array Value} {i off size : Nat} {v : Value} {rest : List (Nat × Value)} (hp : place i = some (off, size)) (hs : v.cells.toList.length = size) (hl : off + size ≤ cells.size) :
    Instr.fill place cells ((i, v) :: rest) = Instr.fill place (ov cells.toList off v.cells.toList).toArray rest := by
  have hs' : v.cells.size = size := by simpa using hs
  have hf : (v.cells.zipIdx.foldl (fun cs (c, j) => cs.setIfInBounds (off + j) c) cells) = (ov cells.toList off v.cells.toList).toArray := by
    rw [← Array.foldl_toList, Array.toList_zipIdx]
    apply Array.ext'
    have := foldl_set off v.cells.toList 0 cells (by rw [hs]; simpa using hl)
    simpa using this
  rw [Instr.fill, hp]
  simp only [hs', ne_eq, not_true_eq_false, decide_false, Bool.false_or]
  rw [if_neg (by simp; omega)]
  rw [hf]
theorem partsK_det (hT : tokB P T = true) {fs : List (Nat × TypeId)} {fields : Array Field} (hfs : fieldsOk P fs fields.toList = true) {k : List V → Prop} :
    ∀ (is : List Nat) (vs : List V) (cs : List V), partsK T fs is vs cs k → ∃ cs', k cs' ∧ cs'.length = cs.length ∧ ∀ (w : World) (S : Stb) (hp : Hp) (β : Bet) (us : List Value) (cells : Array Value), is.length = us.length →
      (∀ (i : Nat) (v : V) (u : Value), vs[i]? = some v → us[i]? = some u → VR w S hp β v u) → (is.length ≤ vs.length) → cells.size = cs.length →
      (∀ (j : Nat) (c : V) (y : Value), cs[j]? = some c → cells[j]? = some y → VR w S hp β c y ∧ c.flat = true) →
      ∃ cells', Instr.fill ((fields.map fun f => (f.offset, P.cellsOf f.type))[·]?) cells (is.zip us) = some cells' ∧ cells'.size = cs.length ∧
        ∀ (j : Nat) (c : V) (y : Value), cs'[j]? = some c → cells'[j]? = some y → VR w S hp β c y ∧ c.flat = true
  | [], vs, cs, h => ⟨cs, by simpa [partsK] using h, rfl, fun w S hp β us cells _ _ _ h1 h2 => ⟨cells, by simp [Instr.fill], h1, h2⟩⟩
  | f :: r, [], cs, h => by simp [partsK] at h
  | f :: r, v :: vs, cs, h => by
    simp only [partsK] at h
    obtain ⟨p, hp, h⟩ := nthK_iff.1 h
    cases hty : tyOf T p.2 with
    | none => simp [hty] at h
    | some ti =>
      simp only [hty] at h
      obtain ⟨l, h, hcl⟩ := cellsK_det h
      obtain ⟨hsz, h⟩ := (chkB_iff _ _).1 h
      have hsz := Nat.eq_of_beq_eq_true hsz
      obtain ⟨i, z, hi⟩ := tiOk_info (tyOf_ok hT hty)
      obtain ⟨fd, hf1, hf2, hf3, _, hf5⟩ := (fieldsOk_get hfs).2 f p hp
      have hco : P.cellsOf fd.type = ti.size := by rw [← hf3]; simp [Program.cellsOf, hi.info, hi.size]
      rcases layK_spec _ _ _ _ h with ⟨rfl, _⟩ | ⟨hne, hlen, hk⟩
      · rw [hco] at hf5; simp at hsz; omega
      · obtain ⟨cs', hk', hl', hrest⟩ := partsK_det hT hfs r vs _ hk
        have hovl := ov_length hlen
        refine ⟨cs', hk', by rw [hl', hovl], fun w S hp β us cells hus hv hle hcs hc => ?_⟩
        match us, hus with
        | u :: us, hus =>
          obtain ⟨q1, q2⟩ := hcl.rel (hv 0 v u rfl rfl)
          have hlc : p.1 + u.cells.toList.length ≤ cells.toList.length := by rw [q1]; simp only [Array.length_toList, hcs]; exact hlen
          have hovc := ov_length hlc
          obtain ⟨cells', e1, e2, e3⟩ := hrest w S hp β us (ov cells.toList p.1 u.cells.toList).toArray (by simpa using hus) (fun i v u hi hu => hv (i + 1) v u (by simpa using hi) (by simpa using hu)) (by simpa using hle)
            (by simp only [List.size_toArray, hovc, Array.length_toList, hcs, hovl]) (fun j c y hj hy => by
              have := ov_rel (R := fun (c : V) (y : Value) => VR w S hp β c y ∧ c.flat = true) (xs := cs) (ys := l) (us := cells.toList) (vs := u.cells.toList) (o := p.1) (o' := p.1) hlen hlc q1.symm
                (fun j c y hj hy => hc j c y hj (by simpa using hy)) (Nat.le_refl _) q2 j c y hj (by simpa using hy)
              exact this)
          refine ⟨cells', ?_, by rw [e2, hovl], e3⟩
          rw [List.zip_cons_cons, fill_cons (off := p.1) (size := ti.size) ?_ (by rw [q1]; exact hsz) (by rw [hcs]; omega)]
          · exact e1
          · have : fields[f]? = some fd := by simpa using hf1
            simp [this, hf2, hco]
theorem fill_mono {p1 p2 : Nat → Option (Nat × Nat)} (h : ∀ i q, p1 i = some q → p2 i = some q) : ∀ (l : List (Nat × Value)) (cells cells' : Array Value), Instr.fill p1 cells l = some cells' → Instr.fill p2 cells l = some cells'
  | [], cells, cells', e => by simpa [Instr.fill] using e
  | (i, v) :: r, cells, cells', e => by
    unfold Instr.fill at e ⊢
    cases hp : p1 i with
    | none => rw [hp] at e; simp at e
    | some q =>
      rw [hp] at e
      rw [h i q hp]
      simp only at e ⊢
      split at e
      · cases e
      · rename_i hc
        rw [if_neg hc]
        exact fill_mono h r _ _ e
def arrField (e : TypeId) (i : Nat) : Field := { (default : Field) with name := "x", type := e, offset := i }
theorem arr_fields {e : TypeId} (he : P.cellsOf e ≠ 0) : ∀ (l : List Nat), fieldsOk P (l.map fun i => (i, e)) (l.map (arrField e)) = true
  | [] => rfl
  | i :: r => by
    simp only [List.map_cons, fieldsOk, Bool.and_eq_true, decide_eq_true_eq]
    exact ⟨⟨⟨⟨rfl, rfl⟩, (show "x" ≠ "_" by decide)⟩, he⟩, arr_fields he r⟩
theorem aBuild_sound (hT : tokB P T = true) {o : Oper} {t : TypeId} {parts : Array (Nat × Operand)} (ho : o.op = .build t parts) {vs : List V} {bs : List Blk} {ns : List Nat} {K : V → Prop} (h : aBuild T t (ixs parts.toList) vs K) :
    ∃ v, K v ∧ OpS P o vs ns bs bs v := by
  unfold aBuild at h
  cases hty : tyOf T t with
  | none => simp [hty] at h
  | some ti =>
    have hti := tyOf_ok hT hty
    simp only [hty] at h
    split at h
    · rename_i fs hk
      obtain ⟨fields, hu, hfs, _, _⟩ := kind_str hti hk
      obtain ⟨i, z, hi⟩ := tiOk_info hti
      have hplaces : ∀ w, (fields.mapM fun f => do pure (f.offset, ← sizeOf f.type) : Sem (Array (Nat × Nat))).run P w = .ok (fields.map fun f => (f.offset, P.cellsOf f.type)) w := by
        intro w
        refine run_mapM_arr _ (fun f => (f.offset, P.cellsOf f.type)) w fields fun f hf => ?_
        obtain ⟨j, hj⟩ := List.mem_iff_getElem?.1 hf
        have hjl : j < fs.length := by rw [(fieldsOk_get hfs).1]; exact (List.getElem?_eq_some_iff.1 hj).1
        obtain ⟨fd, h1, h2, h3, h4, h5⟩ := (fieldsOk_get hfs).2 j _ (List.getElem?_eq_getElem hjl)
        rw [hj] at h1; cases h1
        unfold Program.cellsOf at h5 ⊢
        cases hii : P.info? f.type with
        | none => simp [hii] at h5
        | some ii => simp [sizeOf, run_typeInfo' hii]
      have hexec : ∀ (ρ : Operand → Value) (w : World) (cells : Array Value), Instr.fill ((fields.map fun f => (f.offset, P.cellsOf f.type))[·]?) z.cells (parts.toList.map fun p => (p.1, ρ p.2)) = some cells → (execOp ρ o).run P w = .ok (.value (.agg cells)) w := by
        intro ρ w cells hf
        have e1 : (parts.map fun (i, x) => (i, ρ x)).toList = parts.toList.map fun p => (p.1, ρ p.2) := by simp
        simp only [execOp, ho, Instr.build, Sem.run_bind, run_zeroValue' hi, Result.andThen_ok, run_underlying hu, hplaces, e1, hf, Sem.run_pure]
      have hzip : ∀ (ρ : Operand → Value), (parts.toList.map fun p => (p.1, ρ p.2)) = (ixs parts.toList).zip ((parts.toList.map (·.2)).map ρ) := by
        intro ρ
        simp only [ixs, List.map_map, List.zip_map']
        rfl
      have hzs := fun (w : World) (S : Stb) (hp : Hp) (β : Bet) => zs_cells hi.zs w S hp β
      split at h
      · rename_i hixs
        refine ⟨_, h, OpS.pure fun ρ w S hp β _ hor _ => ⟨.value (.agg z.cells), .agg z.cells, hexec ρ w z.cells ?_, .inl rfl, ?_⟩⟩
        · rw [hzip, hixs]; simp [Instr.fill]
        · obtain ⟨a, b⟩ := hzs w S hp β
          refine .d (.agg ti.zero z.cells (by simpa using a) (fun j c hj => ?_) fun j c y hj hy => ?_)
          · have hl : j < z.cells.toList.length := by rw [a]; simpa using (List.getElem?_eq_some_iff.1 hj).1
            exact (b j (.d c) _ (by simp [hj]) (List.getElem?_eq_getElem hl)).2
          · have := (b j (.d c) y (by simp [hj]) (by simpa using hy)).1
            cases this; assumption
      · obtain ⟨cs', h, hlen, hrel⟩ := partsK_det hT hfs _ _ _ h
        obtain ⟨v, hk, hm⟩ := mkAgg_det h
        refine ⟨v, hk, OpS.pure fun ρ w S hp β _ hor _ => ?_⟩
        have hor' : OR w S hp β ρ (parts.toList.map (·.2)) vs := by simpa [ho, opArgs] using hor
        obtain ⟨g1, g2⟩ := hor'.vals
        obtain ⟨a, b⟩ := hzs w S hp β
        obtain ⟨cells', e1, e2, e3⟩ := hrel w S hp β ((parts.toList.map (·.2)).map ρ) z.cells (by simp [ixs]) g2 (by rw [← g1]; simp [ixs]) (by simpa using a) (fun j c y hj hy => b j c y hj (by simpa using hy))
        refine ⟨.value (.agg cells'), .agg cells', hexec ρ w cells' (by rw [hzip]; exact e1), .inl rfl, ?_⟩
        have := hm.rel (w := w) (S := S) (hp := hp) (β := β) (us := cells'.toList) (by simp only [Array.length_toList, e2, hlen]) (fun j c y hj hy => e3 j c y hj (by simpa using hy))
        rwa [Array.toArray_toList] at this
    · rename_i n e hk
      have hu := kind_arr hti hk
      obtain ⟨i, z, hi⟩ := tiOk_info hti
      cases hte : tyOf T e with
      | none => simp [hte] at h
      | some te =>
        simp only [hte] at h
        have hteo := tyOf_ok hT hte
        obtain ⟨i', z', hi'⟩ := tiOk_info hteo
        cases hsz : Nat.beq te.size 1 with
        | false => simp [hsz] at h
        | true =>
          simp only [hsz] at h
          have hs1 := Nat.eq_of_beq_eq_true hsz
          have hce : P.cellsOf e = 1 := by rw [← hs1]; simp [Program.cellsOf, hi'.info, hi'.size]
          have hsize : ∀ w, (sizeOf e).run P w = .ok 1 w := fun w => by
            have := run_sizeOf' (P := P) hteo (w := w)
            rwa [hs1] at this
          have hexec : ∀ (ρ : Operand → Value) (w : World) (cells : Array Value), Instr.fill (fun i => some (i * 1, 1)) z.cells (parts.toList.map fun p => (p.1, ρ p.2)) = some cells → (execOp ρ o).run P w = .ok (.value (.agg cells)) w := by
            intro ρ w cells hf
            have e1 : (parts.map fun (i, x) => (i, ρ x)).toList = parts.toList.map fun p => (p.1, ρ p.2) := by simp
            simp only [execOp, ho, Instr.build, Sem.run_bind, run_zeroValue' hi, Result.andThen_ok, run_underlying hu, hsize, e1, hf, Sem.run_pure]
          have hzip : ∀ (ρ : Operand → Value), (parts.toList.map fun p => (p.1, ρ p.2)) = (ixs parts.toList).zip ((parts.toList.map (·.2)).map ρ) := by
            intro ρ
            simp only [ixs, List.map_map, List.zip_map']
            rfl
          have hzs := fun (w : World) (S : Stb) (hp : Hp) (β : Bet) => zs_cells hi.zs w S hp β
          split at h
          · rename_i hixs
            refine ⟨_, h, OpS.pure fun ρ w S hp β _ hor _ => ⟨.value (.agg z.cells), .agg z.cells, hexec ρ w z.cells ?_, .inl rfl, ?_⟩⟩
            · rw [hzip, hixs]; simp [Instr.fill]
            · obtain ⟨a, b⟩ := hzs w S hp β
              refine .d (.agg ti.zero z.cells (by simpa using a) (fun j c hj => ?_) fun j c y hj hy => ?_)
              · have hl : j < z.cells.toList.length := by rw [a]; simpa using (List.getElem?_eq_some_iff.1 hj).1
                exact (b j (.d c) _ (by simp [hj]) (List.getElem?_eq_getElem hl)).2
              · have := (b j (.d c) y (by simp [hj]) (by simpa using hy)).1
                cases this; assumption
          · have hfs : fieldsOk P ((List.range n).map fun i => (i, e)) ((List.range n).map (arrField e)).toArray.toList = true := by
              simpa using arr_fields (P := P) (by rw [hce]; decide) (List.range n)
            obtain ⟨cs', h, hlen, hrel⟩ := partsK_det hT hfs _ _ _ h
            obtain ⟨v, hk, hm⟩ := mkAgg_det h
            refine ⟨v, hk, OpS.pure fun ρ w S hp β _ hor _ => ?_⟩
            have hor' : OR w S hp β ρ (parts.toList.map (·.2)) vs := by simpa [ho, opArgs] using hor
            obtain ⟨g1, g2⟩ := hor'.vals
            obtain ⟨a, b⟩ := hzs w S hp β
            obtain ⟨cells', e1, e2, e3⟩ := hrel w S hp β ((parts.toList.map (·.2)).map ρ) z.cells (by simp [ixs]) g2 (by rw [← g1]; simp [ixs]) (by simpa using a) (fun j c y hj hy => b j c y hj (by simpa using hy))
            have e1' := fill_mono (p2 := fun i => some (i * 1, 1)) (fun i q hq => by
              simp only [List.map_toArray, List.getElem?_toArray, List.map_map, List.getElem?_map] at hq
              cases hr : (List.range n)[i]? with
              | none => rw [hr] at hq; cases hq
              | some j =>
                rw [hr] at hq
                have hj : j = i := by
                  obtain ⟨hl, hv⟩ := List.getElem?_eq_some_iff.1 hr
                  simpa using hv.symm
                subst hj
                cases hq
                show some (j * 1, 1) = some ((arrField e j).offset, P.cellsOf (arrField e j).type)
                rw [show (arrField e j).type = e from rfl, hce, Nat.mul_one]; rfl) _ _ _ e1
            refine ⟨.value (.agg cells'), .agg cells', hexec ρ w cells' (by rw [hzip]; exact e1'), .inl rfl, ?_⟩
            have := hm.rel (w := w) (S := S) (hp := hp) (β := β) (us := cells'.toList) (by simp only [Array.length_toList, e2, hlen]) (fun j c y hj hy => e3 j c y hj (by simpa using hy))
            rwa [Array.toArray_toList] at this
    · exact h.elim
end Go.PM
/-
  PM, part 10: operations that make slices and maps.
-/
set_option linter.unusedSectionVars false
namespace Go.PM
variable [Glob]
variable {P : Program} {T : TT}
theorem alloc_row {w : World} {S : Stb} {h : Hp} {β : Bet} (hr : HR w S h β) {n : Nat} (hn : h[n]? = some .res) (e : TypeId) (cells : Array Value) (sz len cap : Nat) (xs : List D) (hsz : 0 < sz)
    (hxs : ∀ (i : Nat) (x : D), xs[i]? = some x → x.cells.length = sz ∧ ∀ (j : Nat) (c : D), x.cells[j]? = some c → c.flat = true)
    (hl : xs.length * sz ≤ cells.size) (hcap : cap * sz ≤ cells.size) (hlen : len ≤ cap)
    (hc : ∀ (i : Nat) (x : D) (j : Nat) (c : D), xs[i]? = some x → x.cells[j]? = some c → ∃ y, cells[i * sz + j]? = some y ∧ DR w S c y) :
    ∃ β', HR (w.alloc (.cells cells e)) S (h.set n (.row 0 sz false xs)) β' ∧ Evol w S h β (w.alloc (.cells cells e)) S (h.set n (.row 0 sz false xs)) β' ∧
      VR (w.alloc (.cells cells e)) S (h.set n (.row 0 sz false xs)) β' (.sref n 0 0 len false) (.slice (some ⟨w.heap.size, 0, none⟩) len cap) := by
  have hnl : n < h.length := (List.getElem?_eq_some_iff.1 hn).1
  obtain ⟨r1, r2⟩ := alloced hr hn (.cells cells e) (.row 0 sz false xs) 0 (frozen_alloc_cells w cells e) (fun E hS hβ hh =>
    ⟨hsz, hxs, .inr ⟨w.heap.size, 0, cells, e, hβ, hh, by omega, fun i x j c hx hj => by
      obtain ⟨y, a, b⟩ := hc i x j c hx hj
      exact ⟨y, by rw [Nat.zero_add]; exact a, b.evol E.sub E.cell⟩, fun o ho => absurd ho (hS o)⟩⟩)
  refine ⟨_, r1, r2, .sref rfl ⟨_, cap, rfl, hlen, by simp, ?_⟩⟩
  have hget : (h.set n (Blk.row 0 sz false xs))[n]? = some (.row 0 sz false xs) := by simp [hnl]
  have hβ : (β.set n (some (w.heap.size, 0)))[n]? = some (some (w.heap.size, 0)) := by
    have : n < β.length := Nat.lt_of_lt_of_le hnl hr.len
    simp [this]
  rw [hget]
  exact ⟨Nat.le_refl _, fun _ => .inr ⟨w.heap.size, 0, cells, e, (0, 0), hβ, fun _ => by simp, heap_alloc_new w _, by simpa using hcap⟩⟩
theorem elemsOf_det {te : TI} : ∀ (is : List Nat) (vs : List V) (j : Nat) (k : List D → Prop), elemsOf te is vs j k → ∃ ys, k ys ∧ ys.length = is.length ∧ (∀ (i : Nat) (y : D), ys[i]? = some y → y.cells.length = te.size) ∧
      ∀ (w : World) (S : Stb) (hp : Hp) (β : Bet) (us : List Value) (cells : Array Value), is.length = us.length → (∀ (i : Nat) (v : V) (u : Value), vs[i]? = some v → us[i]? = some u → VR w S hp β v u) →
        (j + is.length) * te.size ≤ cells.size →
        ∃ cells', Instr.fill (fun i => some (i * te.size, te.size)) cells (is.zip us) = some cells' ∧ cells'.size = cells.size ∧ (∀ m, m < j * te.size → cells'[m]? = cells[m]?) ∧
          ∀ (i : Nat) (y : D) (q : Nat) (c : D), ys[i]? = some y → y.cells[q]? = some c → ∃ u, cells'[(j + i) * te.size + q]? = some u ∧ DR w S c u ∧ c.flat = true
  | [], vs, j, k, h => ⟨[], by simpa [elemsOf] using h, rfl, by simp, fun w S hp β us cells hus _ _ => ⟨cells, by simp [Instr.fill], rfl, fun _ _ => rfl, by simp⟩⟩
  | i :: r, [], j, k, h => by simp [elemsOf] at h
  | i :: r, v :: vs, j, k, h => by
    simp only [elemsOf] at h
    split at h
    · rename_i hij
      have hij := Nat.eq_of_beq_eq_true hij
      subst hij
      unfold elemD at h
      split at h
      · rename_i x
        obtain ⟨hsz, h⟩ := (chkB_iff _ _).1 h
        have hsz := Nat.eq_of_beq_eq_true hsz
        obtain ⟨ys, hk, h1, h2, h3⟩ := elemsOf_det (te := te) r vs (i + 1) _ h
        refine ⟨x :: ys, hk, by simp [h1], fun m y hm => ?_, fun w S hp β us cells hus hv hl => ?_⟩
        · cases m with
          | zero => simp at hm; subst hm; exact hsz
          | succ m => exact h2 m y (by simpa using hm)
        · match us, hus with
          | u :: us, hus =>
            have hv0 := hv 0 _ u rfl rfl
            cases hv0 with
            | d hd =>
              obtain ⟨q1, q2⟩ := hd.cells
              have hl' : (i + (r.length + 1)) * te.size ≤ cells.size := by simpa using hl
              rw [Nat.add_mul, Nat.succ_mul] at hl'
              have hlc : i * te.size + u.cells.toList.length ≤ cells.toList.length := by rw [q1, hsz]; simp only [Array.length_toList]; omega
              have hov := ov_length hlc
              obtain ⟨cells', e1, e2, e3, e4⟩ := h3 w S hp β us (ov cells.toList (i * te.size) u.cells.toList).toArray (by simpa using hus) (fun m v u hm hu => hv (m + 1) v u (by simpa using hm) (by simpa using hu))
                (by simp only [List.size_toArray, hov, Array.length_toList]; rw [Nat.add_mul, Nat.succ_mul]; omega)
              refine ⟨cells', ?_, by rw [e2]; simp only [List.size_toArray, hov, Array.length_toList], fun m hm => ?_, fun m y q c hy hc => ?_⟩
              · rw [List.zip_cons_cons, fill_cons (off := i * te.size) (size := te.size) rfl (by rw [q1]; exact hsz) (by omega)]
                exact e1
              · rw [e3 m (by rw [Nat.succ_mul]; omega)]
                simp only [List.getElem?_toArray]
                rw [ov_get hlc, if_pos hm]
                simp
              · cases m with
                | zero =>
                  simp at hy; subst hy
                  have hq : q < te.size := by rw [← hsz]; exact (List.getElem?_eq_some_iff.1 hc).1
                  have hqu : q < u.cells.toList.length := by rw [q1, hsz]; exact hq
                  refine ⟨u.cells.toList[q], ?_, (q2 q c _ hc (List.getElem?_eq_getElem hqu)).1, (q2 q c _ hc (List.getElem?_eq_getElem hqu)).2⟩
                  rw [Nat.add_zero, e3 _ (by rw [Nat.succ_mul]; omega)]
                  simp only [List.getElem?_toArray]
                  rw [ov_get hlc, if_neg (by omega), if_pos (by omega), show i * te.size + q - i * te.size = q by omega]
                  exact List.getElem?_eq_getElem hqu
                | succ m =>
                  obtain ⟨u', a, b, c'⟩ := e4 m y q c (by simpa using hy) hc
                  exact ⟨u', by rw [show i + (m + 1) = i + 1 + m by omega]; exact a, b, c'⟩
      · exact h.elim
    · exact h.elim
theorem alloc_data {w : World} {S : Stb} {h : Hp} {β : Bet} (hr : HR w S h β) (e : TypeId) (cells : Array Value) (sz : Nat) (xs : List D) (hsz : 0 < sz)
    (hxs : ∀ (i : Nat) (x : D), xs[i]? = some x → x.cells.length = sz ∧ ∀ (j : Nat) (c : D), x.cells[j]? = some c → c.flat = true)
    (hc : ∀ (i : Nat) (x : D) (j : Nat) (c : D), xs[i]? = some x → x.cells[j]? = some c → ∃ y, cells[i * sz + j]? = some y ∧ DR w S c y) :
    ∃ S', HR (w.alloc (.cells cells e)) S' h β ∧ Evol w S h β (w.alloc (.cells cells e)) S' h β ∧ DR (w.alloc (.cells cells e)) S' (.sl sz true xs) (.slice (some ⟨w.heap.size, 0, none⟩) xs.length xs.length) := by
  have hold : ∀ i, i < w.heap.size → (w.alloc (.cells cells e)).heap[i]? = w.heap[i]? := fun i hi => heap_alloc_old w _ i hi
  have hnew := heap_alloc_new w (.cells cells e)
  refine ⟨fun b o => S b o ∨ b = w.heap.size, ?_⟩
  have E : Evol w S h β (w.alloc (.cells cells e)) (fun b o => S b o ∨ b = w.heap.size) h β := by
    refine ⟨⟨⟨rfl, rfl⟩, rfl, Nat.le_refl _⟩, by simp, fun i hi _ => hold i hi, fun i c e f hi => ⟨c, by rw [hold i (Array.getElem?_eq_some_iff.1 hi).1]; exact hi, rfl⟩, fun i l hi => ⟨l, by rw [hold i (Array.getElem?_eq_some_iff.1 hi).1]; exact hi⟩,
      fun a _ => frozen_alloc_cells w cells e a, fun _ _ h => .inl h, fun b o hs => ?_, fun b o hs => World.cell?_of_block (a := ⟨b, o, none⟩) (hold b (hr.old b o hs)), fun _ h => .inl h, Nat.le_refl _, fun _ b hb => ⟨b, hb, BEv.refl _ _⟩⟩
    rcases hs with h | rfl
    · exact .inl h
    · exact .inr (.inl (Nat.le_refl _))
  have hsz' : w.heap.size < (w.alloc (.cells cells e)).heap.size := by show w.heap.size < (w.heap.push _).size; simp
  refine ⟨⟨hr.len, fun n b hn => BR.keep E rfl (fun _ r b' p hb => ⟨hb, hold b' (hr.tlt r b' p hb), fun o ho => ?_⟩) (fun b' p hb => ⟨hold b' (hr.lt hb), fun o ho => ?_⟩) (hr.blk n b hn), hr.inj, fun b o hs => ?_, hr.glob.evol E, fun r b p hb => Nat.lt_of_lt_of_le (hr.tlt r b p hb) E.size, hr.one⟩, E, ?_⟩
  · rcases ho with h | rfl
    · exact h
    · exact absurd (hr.tlt _ _ _ hb) (by omega)
  · rcases ho with h | rfl
    · exact h
    · exact absurd (hr.lt hb) (by omega)
  · rcases hs with h | rfl
    · exact Nat.lt_of_lt_of_le (hr.old b o h) E.size
    · exact hsz'
  · refine .sl sz true xs _ xs.length w.heap.size 0 (fun i j => (cells[i * sz + j]?).getD undef) (Nat.le_refl _) (fun _ => rfl) (fun h => by omega) (fun _ => rfl) (fun i x hx => (hxs i x hx).1) (fun i x j c hx hj => ⟨(hxs i x hx).2 j c hj, ?_, .inr rfl⟩) (fun i x j c hx hj => ?_)
    · obtain ⟨y, a, _⟩ := hc i x j c hx hj
      rw [cell_of_row _ w.heap.size (0 + i * sz + j) cells e (0, 0) hnew, Nat.zero_add, a]; rfl
    · obtain ⟨y, a, b⟩ := hc i x j c hx hj
      rw [a]
      exact b.evol E.sub E.cell
theorem aBuildSlice_sound (hT : tokB P T = true) {o : Oper} {t : TypeId} {len : Nat} {parts : Array (Nat × Operand)} (ho : o.op = .buildSlice t len parts) {vs : List V} {K : V → Prop}
    (h : aBuildSlice T t len (ixs parts.toList) vs K) : ∃ v, K v ∧ ∀ (ns : List Nat) (bs : List Blk), OpS P o vs ns bs bs v := by
  unfold aBuildSlice at h
  cases hty : tyOf T t with
  | none => simp [hty] at h
  | some ti =>
    have hti := tyOf_ok hT hty
    simp only [hty] at h
    split at h
    · rename_i e hk
      cases hte : tyOf T e with
      | none => simp [hte] at h
      | some te =>
        have hteo := tyOf_ok hT hte
        simp only [hte] at h
        obtain ⟨i, z, hi⟩ := tiOk_info hteo
        replace h := (chkB_iff _ _).1 h
        obtain ⟨hchk, h⟩ := h
        simp only [Bool.and_eq_true] at hchk
        obtain ⟨⟨hlen, hpos⟩, hsize⟩ := hchk
        have hlen := Nat.eq_of_beq_eq_true hlen
        have hpos : 0 < te.size := Nat.le_of_ble_eq_true hpos
        have hsize := Nat.le_of_ble_eq_true hsize
        obtain ⟨ys, hkk, h1, h2, h3⟩ := elemsOf_det (te := te) _ _ _ _ h
        refine ⟨_, hkk, fun ns bs ρ w S hp β hr hor hb => ?_⟩
        have hor' : OR w S hp β ρ (parts.toList.map (·.2)) vs := by simpa [ho, opArgs] using hor
        obtain ⟨g1, g2⟩ := hor'.vals
        have hzip : (parts.toList.map fun p => (p.1, ρ p.2)) = (ixs parts.toList).zip ((parts.toList.map (·.2)).map ρ) := by
          simp only [ixs, List.map_map, List.zip_map']
          rfl
        obtain ⟨cells', e1, e2, e3, e4⟩ := h3 w S hp β ((parts.toList.map (·.2)).map ρ) ((Array.range (len * te.size)).map (z.cells[· % z.cells.size]!)) (by simp [ixs]) g2 (by simp [hlen])
        have e2' : cells'.size = len * te.size := by rw [e2]; simp
        have hyl : ys.length = len := by rw [h1, hlen]
        obtain ⟨S', r1, r2, r3⟩ := alloc_data hr e cells' te.size ys hpos (fun i y hy => ⟨h2 i y hy, fun j c hc => by
          obtain ⟨_, _, _, hf⟩ := e4 i y j c hy hc
          exact hf⟩) (fun i y j c hy hc => by
          obtain ⟨u, a, b, _⟩ := e4 i y j c hy hc
          rw [Nat.zero_add] at a
          exact ⟨u, a, b⟩)
        have hs : setL hp ns bs = hp := setL_same fun i n b hi hbi => by rw [hb i n hi, hbi]
        refine ⟨_, _, S', β, _, ?_, .inl rfl, by rw [hs]; exact r1, by rw [hs]; exact .d r3, by rw [hs]; exact r2⟩
        rw [hyl]
        have hparts : (parts.map fun (i, x) => (i, ρ x)).toList = (ixs parts.toList).zip ((parts.toList.map (·.2)).map ρ) := by rw [← hzip]; simp
        simp only [execOp, ho, Instr.buildSlice, Sem.run_bind, run_underlying (kind_slice hti hk), Result.andThen_ok, run_sizeOf' hteo]
        rw [if_neg (by omega)]
        by_cases h0 : len * te.size = 0
        · rw [if_pos h0]
          rw [h0] at e1
          have e1' : Instr.fill (fun i => some (i * te.size, te.size)) #[] ((ixs parts.toList).zip ((parts.toList.map (·.2)).map ρ)) = some cells' := by simpa [Array.range_zero'] using e1
          simp only [Sem.run_bind, Sem.run_pure, Result.andThen_ok, hparts, h0, Array.range_zero', Array.map_empty]
          rw [e1']
          simp only [Sem.run_bind, Sem.run_pure, Result.andThen_ok, newRow, newObj, Sem.run]
          rfl
        · rw [if_neg h0]
          simp only [Sem.run_bind, run_zeroValue' hi, Sem.run_pure, Result.andThen_ok, hparts, e1, newRow, newObj, Sem.run]
          rfl
      
    · exact h.elim
theorem madeCells_get (z : Array Value) (n k : Nat) (hk : k < n) : (madeCells z n)[k]? = some z[k % z.size]! := by
  simp [madeCells, hk]
theorem zeroElem_cells {te : TI} (h : te.zero.length = te.size) (ha : isAggT te = false → te.size = 1) (hf : ∀ (j : Nat) (c : D), te.zero[j]? = some c → c.flat = true) : (zeroElem te).cells = te.zero := by
  unfold zeroElem
  cases hag : isAggT te with
  | true => rfl
  | false =>
    have h1 := ha hag
    rw [h1] at h
    match hz : te.zero, h with
    | [x], _ =>
      have := hf 0 x (by rw [hz]; rfl)
      exact flat_cells x this
theorem aMakeRow_sound (hT : tokB P T = true) {o : Oper} {t : TypeId} {l c : Operand} (ho : o.op = .makeSlice t l c) {ti te : TI} {e : TypeId} (hti : tiOk P t ti = true) (hk : ti.kind = .slice e) (hteo : tiOk P e te = true) {n m : Int} {nf : Nat} {K : Kt}
    (hby : te.bytes ≤ 65536) (hpos : 0 < te.size) (hzl : te.zero.length = te.size) (hone : (isAggT te || Nat.beq te.size 1) = true)
    (h : aMakeRow te n m nf K) : ∃ v bs', K v bs' ∧ OpS P o [.d (.i .i64 n), .d (.i .i64 m)] [nf] [.res] bs' v := by
  unfold aMakeRow at h
  have hargs : opArgs o.op = [l, c] := by simp [ho, opArgs]
  obtain ⟨i, z, hi⟩ := tiOk_info hteo
  replace h := h.elim
  obtain ⟨⟨h0, hnm, hm⟩, h⟩ := h
  refine ⟨_, _, h, fun ρ w S hp β hr hor hb => ?_⟩
  have hn : hp[nf]? = some .res := by simpa using hb 0 nf rfl
  obtain ⟨hl, hc⟩ := OR.two (by rw [hargs] at hor; exact hor)
  have hl := int_inv hl
  have hc := int_inv hc
  unfold room at hm
  have hm0 : 0 ≤ m := by omega
  have hb2 : (i.bytes : Int) * m ≤ 281474976710656 := by
    rw [hi.bytes]
    have h1 : (te.bytes : Int) ≤ 65536 := by omega
    have h2 : (te.bytes : Int) * m ≤ 65536 * m := Int.mul_le_mul_of_nonneg_right h1 hm0
    have h3 : (65536 : Int) * m ≤ 65536 * 1073741824 := Int.mul_le_mul_of_nonneg_left (by omega) (by omega)
    omega
  have hrun := run_make (P := P) w t e i z (kind_slice hti hk) hi.info hi.zero .i64 .i64 n m h0 hnm hb2 (by omega)
  obtain ⟨zs1, zs2⟩ := zsEq_spec hi.zs
  have hzf : ∀ (j : Nat) (c : D), te.zero[j]? = some c → c.flat = true := fun j c hj => by
    have hl : j < z.cells.toList.length := by rw [← zs1]; exact (List.getElem?_eq_some_iff.1 hj).1
    exact (zs2 j c _ hj (List.getElem?_eq_getElem hl) w S).2
  have hzc : (zeroElem te).cells = te.zero := zeroElem_cells hzl (fun ha => by
    cases hag : isAggT te with
    | true => rw [hag] at ha; cases ha
    | false => simpa [hag] using hone) hzf
  have hzsz : z.cells.size = te.size := by rw [← hzl, zs1]; simp
  have hnm' : n.toNat ≤ m.toNat := by omega
  obtain ⟨β', r1, r2, r3⟩ := alloc_row hr hn e (madeCells z.cells (m.toNat * i.size)) te.size n.toNat m.toNat (List.replicate n.toNat (zeroElem te)) hpos (fun j x hx => by
      rw [List.getElem?_replicate] at hx
      split at hx <;> simp at hx
      subst hx
      rw [hzc]
      exact ⟨hzl, hzf⟩) (by rw [size_madeCells, hi.size, List.length_replicate]; exact Nat.mul_le_mul_right _ hnm') (by rw [size_madeCells, hi.size]; exact Nat.le_refl _) hnm' (fun j x q c hx hq => by
      rw [List.getElem?_replicate] at hx
      split at hx <;> simp at hx
      rename_i hjn
      subst hx
      rw [hzc] at hq
      have hq' : q < te.size := by rw [← hzl]; exact (List.getElem?_eq_some_iff.1 hq).1
      have hlt : j * te.size + q < m.toNat * i.size := by
        rw [hi.size]
        have := Nat.mul_le_mul_right te.size (show j + 1 ≤ m.toNat by omega)
        rw [Nat.succ_mul] at this
        omega
      refine ⟨_, madeCells_get _ _ _ hlt, ?_⟩
      rw [hzsz, Nat.mul_comm j te.size, Nat.mul_add_mod, Nat.mod_eq_of_lt hq']
      have hqz : q < z.cells.size := by omega
      rw [getElem!_pos z.cells q hqz]
      exact (zs2 q c _ hq (by simp [hqz]) w S).1)
  refine ⟨_, _, S, β', _, ?_, .inl rfl, by simpa [setL] using r1, by simpa [setL] using r3, by simpa [setL] using r2⟩
  simp [execOp, ho, hl, hc, hrun]
theorem alloc_over {w : World} {S : Stb} {h : Hp} {β : Bet} (hr : HR w S h β) {n : Nat} (hn : h[n]? = some .res) (e : TypeId) (cells : Array Value) (xs : List D) (hl : cells.size = xs.length)
    (hc : ∀ (i : Nat) (x : D) (y : Value), xs[i]? = some x → cells[i]? = some y → x.flat = true ∧ DR w S x y) :
    ∃ β', HR (w.alloc (.cells cells e)) S (h.set n (.vard xs)) β' ∧ Evol w S h β (w.alloc (.cells cells e)) S (h.set n (.vard xs)) β' ∧
      VR (w.alloc (.cells cells e)) S (h.set n (.vard xs)) β' (.sref n 1 0 xs.length true) (.slice (some ⟨w.heap.size, 0, none⟩) xs.length xs.length) := by
  have hnl : n < h.length := (List.getElem?_eq_some_iff.1 hn).1
  obtain ⟨r1, r2⟩ := alloced hr hn (.cells cells e) (.vard xs) 0 (frozen_alloc_cells w cells e) (fun E hS hβ hh =>
    ⟨w.heap.size, cells, e, hβ, hh, hl, fun j c u hj hu => by
      obtain ⟨a, b⟩ := hc j c u hj hu
      exact ⟨a, b.evol E.sub E.cell⟩, hS⟩)
  refine ⟨_, r1, r2, .sref rfl ⟨_, _, rfl, Nat.le_refl _, fun _ => rfl, ?_⟩⟩
  have hget : (h.set n (Blk.vard xs))[n]? = some (.vard xs) := by simp [hnl]
  have hβ : (β.set n (some (w.heap.size, 0)))[n]? = some (some (w.heap.size, 0)) := by
    have : n < β.length := Nat.lt_of_lt_of_le hnl hr.len
    simp [this]
  rw [hget]
  exact ⟨rfl, w.heap.size, cells, e, (0, 0), hβ, fun _ => rfl, heap_alloc_new w _, by omega⟩
theorem aMakeSlice_sound (hT : tokB P T = true) {o : Oper} {t : TypeId} {l c : Operand} (ho : o.op = .makeSlice t l c) {lv cv : V} {nf : Nat} {K : Kt}
    (h : aMakeSlice T t lv cv nf K) : ∃ v bs', K v bs' ∧ OpS P o [lv, cv] [nf] [.res] bs' v := by
  unfold aMakeSlice at h
  have hargs : opArgs o.op = [l, c] := by simp [ho, opArgs]
  split at h
  · rename_i ti n m hty
    have hti := tyOf_ok hT hty
    split at h
    · rename_i e hk
      cases hte : tyOf T e with
      | none => simp [hte] at h
      | some te =>
        have hteo := tyOf_ok hT hte
        simp only [hte] at h
        obtain ⟨i, z, hi⟩ := tiOk_info hteo
        replace h := (chkB_iff _ _).1 h
        obtain ⟨hchk, h⟩ := h
        simp only [Bool.and_eq_true] at hchk
        obtain ⟨⟨⟨hby, hpos⟩, hzl⟩, hone⟩ := hchk
        have hby := Nat.le_of_ble_eq_true hby
        have hpos : 0 < te.size := Nat.le_of_ble_eq_true hpos
        have hzl := Nat.eq_of_beq_eq_true hzl
        have row : aMakeRow te n m nf K → ∃ v bs', K v bs' ∧ OpS P o [.d (.i .i64 n), .d (.i .i64 m)] [nf] [.res] bs' v := fun h => aMakeRow_sound hT ho hti hk hteo hby hpos hzl hone h
        split at h
        · rename_i e2 hk2
          rcases h.elim with h2 | h2
          · exact row h2
          · obtain ⟨⟨h0, hnm, hm⟩, h3⟩ := h2.elim
            subst hnm
            obtain ⟨hsz, h⟩ := (chkB_iff _ _).1 h3
            have hsz := Nat.eq_of_beq_eq_true hsz
            refine ⟨_, _, h, fun ρ w S hp β hr hor hb => ?_⟩
            have hn : hp[nf]? = some .res := by simpa using hb 0 nf rfl
            obtain ⟨hl, hc⟩ := OR.two (by rw [hargs] at hor; exact hor)
            have hl := int_inv hl
            have hc := int_inv hc
            unfold room at hm
            have hb2 : (i.bytes : Int) * n ≤ 281474976710656 := by
              rw [hi.bytes]
              have h1 : (te.bytes : Int) ≤ 65536 := by omega
              have h2 : (te.bytes : Int) * n ≤ 65536 * n := Int.mul_le_mul_of_nonneg_right h1 h0
              have h3 : (65536 : Int) * n ≤ 65536 * 1073741824 := Int.mul_le_mul_of_nonneg_left (by omega) (by omega)
              omega
            have hrun := run_make (P := P) w t e i z (kind_slice hti hk) hi.info hi.zero .i64 .i64 n n h0 (Int.le_refl _) hb2 (by omega)
            obtain ⟨zs1, zs2⟩ := zsEq_spec hi.zs
            have hzf : ∀ (j : Nat) (c : D), te.zero[j]? = some c → c.flat = true := fun j c hj => by
              have hl : j < z.cells.toList.length := by rw [← zs1]; exact (List.getElem?_eq_some_iff.1 hj).1
              exact (zs2 j c _ hj (List.getElem?_eq_getElem hl) w S).2
            have hzc : (zeroElem te).cells = te.zero := zeroElem_cells hzl (fun ha => hsz) hzf
            have hzfl : (zeroElem te).flat = true := by
              unfold zeroElem
              have hag : isAggT te = false := by simp [isAggT, hk2]
              rw [hag]
              have : te.zero.length = 1 := by omega
              match hz : te.zero, this with
              | [x], _ => exact hzf 0 x (by rw [hz]; rfl)
            have hzsz : z.cells.size = 1 := by rw [← hsz, ← hzl, zs1]; simp
            obtain ⟨β', r1, r2, r3⟩ := alloc_over hr hn e (madeCells z.cells (n.toNat * i.size)) (List.replicate n.toNat (zeroElem te)) (by rw [size_madeCells, hi.size, List.length_replicate, hsz, Nat.mul_one]) (fun j x y hx hy => by
                rw [List.getElem?_replicate] at hx
                split at hx <;> simp at hx
                rename_i hjn
                subst hx
                rw [madeCells_get _ _ _ (by rw [hi.size, hsz, Nat.mul_one]; exact hjn)] at hy
                cases hy
                rw [hzsz, Nat.mod_one]
                have hqz : 0 < z.cells.size := by omega
                rw [getElem!_pos z.cells 0 hqz]
                have h0 : te.zero[0]? = some (zeroElem te) := by rw [← hzc, flat_cells _ hzfl]; rfl
                exact ⟨hzfl, (zs2 0 _ _ h0 (by simp [hqz]) w S).1⟩)
            rw [List.length_replicate] at r3
            refine ⟨_, _, S, β', _, ?_, .inl rfl, by simpa [setL] using r1, by simpa [setL] using r3, by simpa [setL] using r2⟩
            simp [execOp, ho, hl, hc, hrun]
        · exact row h
    · exact h.elim
  · exact h.elim
theorem aMakeMap_sound {o : Oper} {t : TypeId} (ho : o.op = .makeMap t none) {vs : List V} {kt : TypeId} {nf : Nat} : OpS P o vs [nf] [.res] [.map T kt []] (.map nf) := by
  intro ρ w S hp β hr hor hb
  have hn : hp[nf]? = some .res := by simpa using hb 0 nf rfl
  have hnl : nf < hp.length := (List.getElem?_eq_some_iff.1 hn).1
  obtain ⟨r1, r2⟩ := alloced hr hn (.map #[] 0) (.map T kt []) 0 (frozen_alloc_obj w _ (fun _ _ _ h => by cases h)) (fun E hS hβ hh =>
    ⟨w.heap.size, #[], 0, hβ, hh, rfl, by simp, Born.nil, hS⟩)
  have hβ : (β.set nf (some (w.heap.size, 0)))[nf]? = some (some (w.heap.size, 0)) := by
    have : nf < β.length := Nat.lt_of_lt_of_le hnl hr.len
    simp [this]
  have hget : (hp.set nf (Blk.map T kt []))[nf]? = some (.map T kt []) := by simp [hnl]
  refine ⟨_, _, S, _, _, ?_, .inl rfl, by simpa [setL] using r1, .map (by simp only [setL]; rw [hget]; trivial) (fun _ => hβ), by simpa [setL] using r2⟩
  simp [execOp, ho, Instr.makeMap, newObj, Sem.run]
theorem aMakeMapN_sound {o : Oper} {t : TypeId} (ho : o.op = .makeMap t none) {vs : List V} {kt : TypeId} {nf : Nat} : OpS P o vs [nf] [.res] [.mapn T kt] (.map nf) := by
  intro ρ w S hp β hr hor hb
  have hn : hp[nf]? = some .res := by simpa using hb 0 nf rfl
  have hnl : nf < hp.length := (List.getElem?_eq_some_iff.1 hn).1
  obtain ⟨r1, r2⟩ := alloced hr hn (.map #[] 0) (.mapn T kt) 0 (frozen_alloc_obj w _ (fun _ _ _ h => by cases h)) (fun E hS hβ hh =>
    ⟨w.heap.size, hβ, hh, hS⟩)
  have hβ : (β.set nf (some (w.heap.size, 0)))[nf]? = some (some (w.heap.size, 0)) := by
    have : nf < β.length := Nat.lt_of_lt_of_le hnl hr.len
    simp [this]
  have hget : (hp.set nf (Blk.mapn T kt))[nf]? = some (.mapn T kt) := by simp [hnl]
  refine ⟨_, _, S, _, _, ?_, .inl rfl, by simpa [setL] using r1, .map (by simp only [setL]; rw [hget]; trivial) (fun _ => hβ), by simpa [setL] using r2⟩
  simp [execOp, ho, Instr.makeMap, newObj, Sem.run]
end Go.PM
/-
  PM, part 11: slice expressions and append.
-/
set_option linter.unusedSectionVars false
namespace Go.PM
variable [Glob]
variable {P : Program} {T : TT}
def bnd (x : Option Value) (v : Option Int) : Prop :=
  match x, v with
  | none, none => True
  | some y, some n => ∃ k, y = .int k n
  | _, _ => False
theorem run_sliceBound {k : IntKind} {n : Int} {y : Nat} {c : BoundsCode} {w : World} (h0 : 0 ≤ n) (h1 : n ≤ y) : (Instr.sliceBound (.int k n) y c).run P w = .ok n.toNat w := by
  simp [Instr.sliceBound, run_asIntOf, h0, h1]
theorem run_sliceBounds {isSlice : Bool} {len cap : Nat} {low high max : Option Value} {lo hi mx : Option Int} (hlo : bnd low lo) (hhi : bnd high hi) (hmx : bnd max mx) {w : World}
    (h1 : ∀ m, mx = some m → 0 ≤ m ∧ m ≤ cap) (h2 : ∀ h, hi = some h → 0 ≤ h ∧ h ≤ mx.getD cap) (h3 : ∀ l, lo = some l → 0 ≤ l ∧ l ≤ hi.getD len) (h4 : mx.isSome = true → hi.isSome = true) :
    (Instr.sliceBounds isSlice len cap low high max).run P w = .ok ((lo.getD 0).toNat, (hi.getD len).toNat, (mx.getD cap).toNat) w := by
  cases mx with
  | some m =>
    cases hi with
    | none => simp at h4
    | some h =>
      obtain ⟨m0, m1⟩ := h1 m rfl
      obtain ⟨a0, a1⟩ := h2 h rfl
      simp at a1
      cases max with
      | none => exact hmx.elim
      | some mv => cases high with
        | none => exact hhi.elim
        | some hv =>
          obtain ⟨k1, rfl⟩ := hmx
          obtain ⟨k2, rfl⟩ := hhi
          have e1 : ∀ c, (Instr.sliceBound (.int k1 m) cap c).run P w = .ok m.toNat w := fun c => run_sliceBound m0 m1
          have e2 : ∀ c, (Instr.sliceBound (.int k2 h) m.toNat c).run P w = .ok h.toNat w := fun c => run_sliceBound a0 (by omega)
          cases lo with
          | none => cases low with
            | none => simp [Instr.sliceBounds, e1, e2]
            | some _ => exact hlo.elim
          | some l => cases low with
            | none => exact hlo.elim
            | some lv =>
              obtain ⟨k3, rfl⟩ := hlo
              obtain ⟨l0, l1⟩ := h3 l rfl
              simp at l1
              have e3 : ∀ c, (Instr.sliceBound (.int k3 l) h.toNat c).run P w = .ok l.toNat w := fun c => run_sliceBound l0 (by omega)
              simp [Instr.sliceBounds, e1, e2, e3]
  | none =>
    cases max with
    | some _ => exact hmx.elim
    | none =>
      cases hi with
      | none => cases high with
        | some _ => exact hhi.elim
        | none =>
          cases lo with
          | none => cases low with
            | none => simp [Instr.sliceBounds]
            | some _ => exact hlo.elim
          | some l => cases low with
            | none => exact hlo.elim
            | some lv =>
              obtain ⟨k3, rfl⟩ := hlo
              obtain ⟨l0, l1⟩ := h3 l rfl
              have e3 : ∀ c, (Instr.sliceBound (.int k3 l) len c).run P w = .ok l.toNat w := fun c => run_sliceBound l0 l1
              simp [Instr.sliceBounds, e3]
      | some h => cases high with
        | none => exact hhi.elim
        | some hv =>
          obtain ⟨k2, rfl⟩ := hhi
          obtain ⟨a0, a1⟩ := h2 h rfl
          have e2 : ∀ c, (Instr.sliceBound (.int k2 h) cap c).run P w = .ok h.toNat w := fun c => run_sliceBound a0 a1
          cases lo with
          | none => cases low with
            | none => simp [Instr.sliceBounds, e2]
            | some _ => exact hlo.elim
          | some l => cases low with
            | none => exact hlo.elim
            | some lv =>
              obtain ⟨k3, rfl⟩ := hlo
              obtain ⟨l0, l1⟩ := h3 l rfl
              simp at l1
              have e3 : ∀ c, (Instr.sliceBound (.int k3 l) h.toNat c).run P w = .ok l.toNat w := fun c => run_sliceBound l0 (by omega)
              simp [Instr.sliceBounds, e2, e3]
theorem DR.sub {w : World} {S : Stb} {sz : Nat} {full full' : Bool} {xs : List D} {a : Option Addr} {n cap : Nat} (h : DR w S (.sl sz full xs) (.slice a n cap)) {L H M : Nat} (hLH : L ≤ H) (hH : H ≤ xs.length) (hHM : H ≤ M)
    (hf : full' = true → M = H) {es : Nat} (hes : sz = es ∨ sz = 0) : DR w S (.sl sz full' ((xs.take H).drop L)) (.slice (if M = L then a else a.map (·.add (L * es))) (H - L) (M - L)) := by
  cases h with
  | sl _ _ _ _ _ b off uf g1 g2 g3 g4 g5 g6 g7 =>
    have hlen : ((xs.take H).drop L).length = H - L := by simp; omega
    have hget : ∀ (i : Nat) (x : D), ((xs.take H).drop L)[i]? = some x → xs[L + i]? = some x := fun i x hi => by
      rw [List.getElem?_drop, List.getElem?_take] at hi
      split at hi
      · exact hi
      · cases hi
    have hsz0 : sz = 0 → (xs.take H).drop L = [] := fun h0 => by rw [g3 h0]; simp
    rw [← hlen]
    refine .sl sz full' _ _ (M - L) b (off + L * sz) (fun i j => uf (L + i) j) (by omega) (fun hf' => by have := hf hf'; omega) hsz0 (fun hne => ?_) (fun i x hi => g5 _ x (hget i x hi)) (fun i x j c hi hj => ?_) (fun i x j c hi hj => g7 _ x j c (hget i x hi) hj)
    · have h0 : L < H := by
        rcases Nat.lt_or_ge L H with h | h
        · exact h
        · exact absurd (List.eq_nil_of_length_eq_zero (by omega)) hne
      have hxs : xs ≠ [] := fun e => by rw [e] at hH; simp at hH; omega
      have hszn : sz = es := by
        rcases hes with h | h
        · exact h
        · exact absurd (g3 h) hxs
      rw [if_neg (by omega), g4 hxs, ← hszn]
      simp [addr_add]
    · obtain ⟨f1, f2, f3⟩ := g6 _ x j c (hget i x hi) hj
      rw [Nat.add_mul] at f2 f3
      exact ⟨f1, by rw [show off + L * sz + i * sz + j = off + (L * sz + i * sz) + j by omega]; exact f2, by rw [show off + L * sz + i * sz + j = off + (L * sz + i * sz) + j by omega]; exact f3⟩
theorem optI_det {b : Bool} {vs : List V} {k : Option Int → List V → Prop} (h : optI b vs k) : (b = false ∧ k none vs) ∨ (b = true ∧ ∃ kd n r, vs = .d (.i kd n) :: r ∧ k (some n) r) := by
  unfold optI at h
  split at h
  · exact .inl ⟨rfl, h⟩
  · split at h
    · exact .inr ⟨rfl, _, _, _, rfl, h⟩
    · exact h.elim
theorem elemSize_pos (hT : tokB P T = true) {t : TypeId} (h : 0 < elemSize T t) : ∃ e te, P.underlying t = some (.slice e) ∧ tiOk P e te = true ∧ te.size = elemSize T t := by
  unfold elemSize at h ⊢
  cases hty : tyOf T t with
  | none => simp [hty] at h
  | some ti =>
    simp only [hty] at h ⊢
    cases hk : ti.kind with
    | slice e =>
      simp only [hk] at h ⊢
      cases hte : tyOf T e with
      | none => simp [hte] at h
      | some te => exact ⟨e, te, kind_slice (tyOf_ok hT hty) hk, tyOf_ok hT hte, rfl⟩
    | _ => simp [hk] at h
theorem run_slice_slice {t e : TypeId} {te : TI} (ht : P.underlying t = some (.slice e)) (he : tiOk P e te = true) {w : World} {a : Option Addr} {len cap : Nat} {low high max : Option Value} {l h m : Nat}
    (hb : (Instr.sliceBounds true len cap low high max).run P w = .ok (l, h, m) w) :
    (Instr.sliceAt t (.slice a len cap) low high max).run P w = .ok (.slice (if m = l then a else a.map (·.add (l * te.size))) (h - l) (m - l)) w := by
  simp [Instr.sliceAt, Instr.slice, run_underlying ht, hb, run_sizeOf' he]
theorem slice_args {x : Operand} {lo hi mx : Option Operand} {r1 : List V} {xv : V} {l h m : Option Int} {r2 r3 r4 : List V}
    (a1 : (lo.isSome = false ∧ l = none ∧ r2 = r1) ∨ (lo.isSome = true ∧ ∃ kd n, r1 = .d (.i kd n) :: r2 ∧ l = some n))
    (a2 : (hi.isSome = false ∧ h = none ∧ r3 = r2) ∨ (hi.isSome = true ∧ ∃ kd n, r2 = .d (.i kd n) :: r3 ∧ h = some n))
    (a3 : (mx.isSome = false ∧ m = none ∧ r4 = r3) ∨ (mx.isSome = true ∧ ∃ kd n, r3 = .d (.i kd n) :: r4 ∧ m = some n))
    {w : World} {S : Stb} {hp : Hp} {β : Bet} {ρ : Operand → Value} (hor : OR w S hp β ρ (x :: (lo.toList ++ (hi.toList ++ mx.toList))) (xv :: r1)) :
    VR w S hp β xv (ρ x) ∧ bnd (lo.map ρ) l ∧ bnd (hi.map ρ) h ∧ bnd (mx.map ρ) m := by
  refine ⟨hor.2 0 x xv rfl rfl, ?_⟩
  have tl : ∀ {xs : List Operand} {vs : List V} {y : Operand} {v : V}, OR w S hp β ρ (y :: xs) (v :: vs) → VR w S hp β v (ρ y) ∧ OR w S hp β ρ xs vs := by
    intro xs vs y v ho
    exact ⟨ho.2 0 y v rfl rfl, by simpa using ho.1, fun i z y hz hu => ho.2 (i + 1) z y (by simpa using hz) (by simpa using hu)⟩
  have h0 := (tl hor).2
  rcases a1 with ⟨b1, rfl, rfl⟩ | ⟨b1, kd, n, rfl, rfl⟩
  · cases lo with
    | some _ => simp at b1
    | none =>
      refine ⟨trivial, ?_⟩
      simp only [Option.toList_none, List.nil_append] at h0
      rcases a2 with ⟨b2, rfl, rfl⟩ | ⟨b2, kd2, n2, rfl, rfl⟩
      · cases hi with
        | some _ => simp at b2
        | none =>
          refine ⟨trivial, ?_⟩
          simp only [Option.toList_none, List.nil_append] at h0
          rcases a3 with ⟨b3, rfl, rfl⟩ | ⟨b3, kd3, n3, rfl, rfl⟩
          · cases mx with
            | some _ => simp at b3
            | none => trivial
          · cases mx with
            | none => simp at b3
            | some z => exact ⟨kd3, int_inv (tl h0).1⟩
      · cases hi with
        | none => simp at b2
        | some y =>
          obtain ⟨c1, c2⟩ := tl h0
          refine ⟨⟨kd2, int_inv c1⟩, ?_⟩
          rcases a3 with ⟨b3, rfl, rfl⟩ | ⟨b3, kd3, n3, rfl, rfl⟩
          · cases mx with
            | some _ => simp at b3
            | none => trivial
          · cases mx with
            | none => simp at b3
            | some z => exact ⟨kd3, int_inv (tl c2).1⟩
  · cases lo with
    | none => simp at b1
    | some y0 =>
      obtain ⟨c0, h0⟩ := tl h0
      refine ⟨⟨kd, int_inv c0⟩, ?_⟩
      rcases a2 with ⟨b2, rfl, rfl⟩ | ⟨b2, kd2, n2, rfl, rfl⟩
      · cases hi with
        | some _ => simp at b2
        | none =>
          refine ⟨trivial, ?_⟩
          simp only [Option.toList_none, List.nil_append] at h0
          rcases a3 with ⟨b3, rfl, rfl⟩ | ⟨b3, kd3, n3, rfl, rfl⟩
          · cases mx with
            | some _ => simp at b3
            | none => trivial
          · cases mx with
            | none => simp at b3
            | some z => exact ⟨kd3, int_inv (tl h0).1⟩
      · cases hi with
        | none => simp at b2
        | some y =>
          obtain ⟨c1, c2⟩ := tl h0
          refine ⟨⟨kd2, int_inv c1⟩, ?_⟩
          rcases a3 with ⟨b3, rfl, rfl⟩ | ⟨b3, kd3, n3, rfl, rfl⟩
          · cases mx with
            | some _ => simp at b3
            | none => trivial
          · cases mx with
            | none => simp at b3
            | some z => exact ⟨kd3, int_inv (tl c2).1⟩
theorem SR.sub {w : World} {h : Hp} {β : Bet} {n ver lo len : Nat} {full full' : Bool} {v : Value} (hs : SR w h β n ver lo len full v) {ver' sz : Nat} {ro : Bool} {xs : List D} (hn : h[n]? = some (.row ver' sz ro xs)) {L H M : Nat}
    {a : Option Addr} {cap : Nat} (hv : v = .slice a len cap) (hLH : L ≤ H) (hHM : H ≤ M) (hM : M ≤ cap) (hf : full' = true → M = H) :
    SR w h β n ver (lo + L) (H - L) full' (.slice (if M = L then a else a.map (·.add (L * sz))) (H - L) (M - L)) := by
  obtain ⟨a', cap', hv', hc, hfull, hs⟩ := hs
  rw [hv] at hv'; simp at hv'; obtain ⟨rfl, rfl⟩ := hv'
  refine ⟨_, _, rfl, by omega, fun h => by have := hf h; omega, ?_⟩
  rw [hn] at hs ⊢
  obtain ⟨h1, h2⟩ := hs
  refine ⟨h1, fun e => ?_⟩
  rcases h2 e with ⟨g1, g2⟩ | ⟨b, base, cells, el, fz, g1, g2, g3, g4⟩
  · exact .inl ⟨g1, by omega⟩
  · refine .inr ⟨b, base, cells, el, fz, g1, fun hpos => ?_, g3, ?_⟩
    · rw [if_neg (by omega), g2 (by omega)]
      simp [addr_add, Nat.add_mul, Nat.add_assoc]
    · have := Nat.mul_le_mul_right sz (show lo + L + (M - L) ≤ lo + cap by omega)
      omega
theorem optI3 {lo hi mx : Bool} {r : List V} {F : Option Int → Option Int → Option Int → Prop} (h : optI lo r fun l r => optI hi r fun h r => optI mx r fun m _ => F l h m) :
    ∃ l r2 hh r3 m r4, ((lo = false ∧ l = none ∧ r2 = r) ∨ (lo = true ∧ ∃ kd n, r = .d (.i kd n) :: r2 ∧ l = some n)) ∧
      ((hi = false ∧ hh = none ∧ r3 = r2) ∨ (hi = true ∧ ∃ kd n, r2 = .d (.i kd n) :: r3 ∧ hh = some n)) ∧
      ((mx = false ∧ m = none ∧ r4 = r3) ∨ (mx = true ∧ ∃ kd n, r3 = .d (.i kd n) :: r4 ∧ m = some n)) ∧ F l hh m := by
  have one : ∀ {b : Bool} {vs : List V} {k : Option Int → List V → Prop}, optI b vs k → ∃ l r2, ((b = false ∧ l = none ∧ r2 = vs) ∨ (b = true ∧ ∃ kd n, vs = .d (.i kd n) :: r2 ∧ l = some n)) ∧ k l r2 := by
    intro b vs k h
    rcases optI_det h with ⟨b, h⟩ | ⟨b, kd, n, r', e, h⟩
    · exact ⟨none, vs, .inl ⟨b, rfl, rfl⟩, h⟩
    · exact ⟨some n, r', .inr ⟨b, kd, n, e, rfl⟩, h⟩
  obtain ⟨l, r2, a1, h1⟩ := one h
  obtain ⟨hh, r3, a2, h2⟩ := one h1
  obtain ⟨m, r4, a3, h3⟩ := one h2
  exact ⟨l, r2, hh, r3, m, r4, a1, a2, a3, h3⟩
theorem arrLen_some (hT : tokB P T = true) {t : TypeId} {N : Nat} (h : arrLen T t = some N) : ∃ e te, P.underlying t = some (.array N e) ∧ tiOk P e te = true ∧ te.size = 1 := by
  unfold arrLen at h
  cases hh : tyOf T t with
  | none => simp [hh] at h
  | some ti =>
    simp only [hh] at h
    cases hk : ti.kind <;> simp only [hk] at h <;> try (cases h; done)
    rename_i n e
    cases hte : tyOf T e with
    | none => simp [hte] at h
    | some te =>
      simp only [hte] at h
      split at h
      · rename_i h1
        cases h
        exact ⟨e, te, kind_arr (tyOf_ok hT hh) hk, tyOf_ok hT hte, Nat.eq_of_beq_eq_true h1⟩
      · cases h
theorem aSlice_sound (hT : tokB P T = true) {o : Oper} {t : TypeId} {x : Operand} {lo hi mx : Option Operand} (ho : o.op = .slice t x lo hi mx) {xv : V} {r : List V} {bs : List Blk} {K : Kt}
    (h : optI lo.isSome r fun l r => optI hi.isSome r fun h r => optI mx.isSome r fun m _ => aSlice T t xv l h m bs K) : ∃ v, K v bs ∧ OpS P o (xv :: r) (slN xv) bs bs v := by
  have hargs : opArgs o.op = x :: (lo.toList ++ (hi.toList ++ mx.toList)) := by simp [ho, opArgs]
  replace h := optI3 h
  obtain ⟨l, r2, hh, r3, m, r4, a1, a2, a3, h⟩ := h
  have args : ∀ {w : World} {S : Stb} {hp : Hp} {β : Bet} {ρ : Operand → Value}, OR w S hp β ρ (opArgs o.op) (xv :: r) → VR w S hp β xv (ρ x) ∧ bnd (lo.map ρ) l ∧ bnd (hi.map ρ) hh ∧ bnd (mx.map ρ) m := fun hor => slice_args a1 a2 a3 (by rw [← hargs]; exact hor)
  have hexec : ∀ (ρ : Operand → Value) (w : World) cv, (Instr.sliceAt t (ρ x) (lo.map ρ) (hi.map ρ) (mx.map ρ)).run P w = .ok cv w → (execOp ρ o).run P w = .ok (.value cv) w := by
    intro ρ w cv hr
    simp [execOp, ho, hr]
  unfold aSlice at h
  split at h
  · -- a pure slice
    rename_i sz full xs
    replace h := (chkB_iff _ _).1 h
    obtain ⟨hchk, h⟩ := h
    simp only [Bool.and_eq_true, Bool.or_eq_true] at hchk
    have hpos : 0 < elemSize T t := Nat.le_of_ble_eq_true hchk.1
    have hes : sz = elemSize T t ∨ sz = 0 := hchk.2.imp Nat.eq_of_beq_eq_true Nat.eq_of_beq_eq_true
    obtain ⟨e, te, hu, hte, hsz⟩ := elemSize_pos hT hpos
    have key : ∀ (L H : Nat) (full' : Bool), l.getD 0 = L → hh.getD xs.length = H → L ≤ H → H ≤ xs.length → (full' = true → m = some (H : Int) ∨ (full = true ∧ m = none ∧ H = xs.length)) → (∀ q, m = some q → q = H) → (m.isSome = true → hh.isSome = true) →
        OpS P o (.d (.sl sz full xs) :: r) (slN (.d (.sl sz full xs))) [] [] (.d (.sl sz full' ((xs.take H).drop L))) := by
      intro L H full' hL hH hLH hHx hf hm hmh
      refine OpS.pure fun ρ w S hp β _ hor _ => ?_
      obtain ⟨hv, b1, b2, b3⟩ := args hor
      generalize hρ : ρ x = cw at hv
      cases hv with
      | d hd =>
        have hd0 := hd
        cases hd with
        | sl _ _ _ a cap b off uf g1 g2 g3 g4 g5 g6 g7 =>
          have hM : ∃ M : Nat, m.getD (cap : Int) = M ∧ H ≤ M ∧ M ≤ cap ∧ (full' = true → M = H) := by
            cases hmm : m with
            | none =>
              refine ⟨cap, rfl, by omega, Nat.le_refl _, fun h' => ?_⟩
              rcases hf h' with h'' | ⟨h1, _, h3⟩
              · rw [hmm] at h''; cases h''
              · rw [g2 h1, h3]
            | some q =>
              have := hm q hmm
              exact ⟨H, by simp [this], Nat.le_refl _, by omega, fun _ => rfl⟩
          obtain ⟨M, hM1, hM2, hM3, hM4⟩ := hM
          have hrun := run_sliceBounds (P := P) (isSlice := true) (len := xs.length) (cap := cap) b1 b2 b3 (w := w) (fun q hq => by rw [hm q hq]; omega) (fun q hq => by rw [hq] at hH; simp at hH; rw [hM1]; omega)
            (fun q hq => by rw [hq] at hL; simp at hL; rw [hH]; omega) hmh
          rw [hL, hH, hM1] at hrun
          simp only [Int.toNat_natCast] at hrun
          refine ⟨_, _, hexec ρ w _ (by rw [hρ]; exact run_slice_slice hu hte hrun), .inl rfl, .d ?_⟩
          exact hd0.sub hLH hHx hM2 hM4 (by rw [hsz]; exact hes)
    split at h
    · refine ⟨_, h, ?_⟩
      have := key 0 xs.length full rfl rfl (Nat.zero_le _) (Nat.le_refl _) (fun h => .inr ⟨h, rfl, rfl⟩) (fun q hq => by cases hq) (fun h => by cases h)
      simpa using this
    · rename_i h0
      have gen : Chk (0 ≤ h0 ∧ h0 ≤ xs.length) (K (.d (.sl sz false (xs.take h0.toNat))) []) → ∃ v, K v [] ∧ OpS P o (.d (.sl sz full xs) :: r) (slN (.d (.sl sz full xs))) [] [] v := fun h => by
        replace h := h.elim
        obtain ⟨⟨c1, c2⟩, h⟩ := h
        refine ⟨_, h, ?_⟩
        have := key 0 h0.toNat false rfl (by simp; omega) (Nat.zero_le _) (by omega) (fun h => by cases h) (fun q hq => by cases hq) (fun h => by cases h)
        simpa using this
      cases full with
      | false => exact gen h
      | true =>
        cases xs with
        | nil =>
          replace h := h.elim
          obtain ⟨rfl, h⟩ := h
          refine ⟨_, h, ?_⟩
          have := key 0 0 true rfl rfl (Nat.zero_le _) (Nat.zero_le _) (fun _ => .inr ⟨rfl, rfl, rfl⟩) (fun q hq => by cases hq) (fun h => by cases h)
          simpa using this
        | cons y ys => exact gen h
    · rename_i l0
      replace h := h.elim
      obtain ⟨⟨c1, c2⟩, h⟩ := h
      refine ⟨_, h, ?_⟩
      have := key l0.toNat xs.length full (by simp; omega) rfl (by omega) (Nat.le_refl _) (fun h => .inr ⟨h, rfl, rfl⟩) (fun q hq => by cases hq) (fun h => by cases h)
      simpa using this
    · rename_i l0 h0
      replace h := h.elim
      obtain ⟨⟨c1, c2, c3⟩, h⟩ := h
      exact ⟨_, h, key l0.toNat h0.toNat false (by simp; omega) (by simp; omega) (by omega) (by omega) (fun h => by cases h) (fun q hq => by cases hq) (fun h => by cases h)⟩
    · rename_i h0 m0
      replace h := h.elim
      obtain ⟨⟨c1, c2, c3⟩, h⟩ := h
      refine ⟨_, h, ?_⟩
      have := key 0 h0.toNat true rfl (by simp; omega) (Nat.zero_le _) (by omega) (fun _ => .inl (by congr 1; omega)) (fun q hq => by cases hq; omega) (fun _ => rfl)
      simpa using this
    · rename_i l0 h0 m0
      replace h := h.elim
      obtain ⟨⟨c1, c2, c3, c4⟩, h⟩ := h
      exact ⟨_, h, key l0.toNat h0.toNat true (by simp; omega) (by simp; omega) (by omega) (by omega) (fun _ => .inl (by congr 1; omega)) (fun q hq => by cases hq; omega) (fun _ => rfl)⟩
    · exact h.elim
  · -- a string
    rename_i b
    replace h := (chkB_iff _ _).1 h
    obtain ⟨hchk, h⟩ := h
    have hu : P.underlying t = some .string := by
      unfold aSlice.stringTy' at hchk
      cases hty : tyOf T t with
      | none => simp [hty] at hchk
      | some ti =>
        simp only [hty] at hchk
        cases hk : ti.kind <;> simp [hk] at hchk
        exact kind_string (tyOf_ok hT hty) hk
    have key : ∀ (L H : Nat), m = none → l.getD 0 = L → hh.getD b.size = H → L ≤ H → H ≤ b.size → OpS P o (.d (.s b) :: r) (slN (.d (.s b))) [] [] (.d (.s (b.extract L H))) := by
      intro L H hm hL hH hLH hHb
      refine OpS.pure fun ρ w S hp β _ hor _ => ?_
      obtain ⟨hv, b1, b2, b3⟩ := args hor
      subst hm
      have hmn : mx.map ρ = none := by
        cases hmm : mx.map ρ with
        | none => rfl
        | some y => rw [hmm] at b3; exact b3.elim
      have hrun := run_sliceBounds (P := P) (isSlice := false) (len := b.size) (cap := b.size) (max := none) (mx := none) b1 b2 trivial (w := w) (fun q hq => by cases hq) (fun q hq => by rw [hq] at hH; simp at hH ⊢; omega)
        (fun q hq => by rw [hq] at hL; simp at hL; rw [hH]; omega) (fun h => by cases h)
      rw [hL, hH] at hrun
      simp only [Int.toNat_natCast] at hrun
      refine ⟨_, .string (b.extract L H), hexec ρ w _ ?_, .inl rfl, .d (.s _)⟩
      rw [str_inv hv, hmn]
      simp [Instr.sliceAt, Instr.slice, run_underlying hu, hrun]
    have hfull : b.extract 0 b.size = b := by
      cases b with
      | mk d => simp [ByteArray.extract, ByteArray.size, ByteArray.copySlice]
    split at h
    · refine ⟨_, h, ?_⟩
      have := key 0 b.size rfl rfl rfl (Nat.zero_le _) (Nat.le_refl _)
      rwa [hfull] at this
    · rename_i h0
      replace h := h.elim
      obtain ⟨⟨c1, c2⟩, h⟩ := h
      exact ⟨_, h, key 0 h0.toNat rfl rfl (by simp; omega) (Nat.zero_le _) (by omega)⟩
    · rename_i l0
      replace h := h.elim
      obtain ⟨⟨c1, c2⟩, h⟩ := h
      exact ⟨_, h, key l0.toNat b.size rfl (by simp; omega) rfl (by omega) (Nat.le_refl _)⟩
    · rename_i l0 h0
      replace h := h.elim
      obtain ⟨⟨c1, c2, c3⟩, h⟩ := h
      exact ⟨_, h, key l0.toNat h0.toNat rfl (by simp; omega) (by simp; omega) (by omega) (by omega)⟩
    · exact h.elim
  · -- a row
    rename_i n ver l0 len full ver' sz ro xs
    replace h := (chkB_iff _ _).1 h
    obtain ⟨hchk, h⟩ := h
    simp only [Bool.and_eq_true] at hchk
    have hpos : 0 < elemSize T t := Nat.le_of_ble_eq_true hchk.1
    have hes : sz = elemSize T t := Nat.eq_of_beq_eq_true hchk.2
    obtain ⟨e, te, hu, hte, hsz⟩ := elemSize_pos hT hpos
    have key : ∀ (L H : Nat) (full' : Bool), l.getD 0 = L → hh.getD len = H → L ≤ H → H ≤ len → (full' = true → m = some (H : Int) ∨ (full = true ∧ m = none ∧ H = len)) → (∀ q, m = some q → q = H) → (m.isSome = true → hh.isSome = true) →
        OpS P o (.sref n ver l0 len full :: r) (slN (.sref n ver l0 len full)) [.row ver' sz ro xs] [.row ver' sz ro xs] (.sref n ver (l0 + L) (H - L) full') := by
      intro L H full' hL hH hLH hHx hf hm hmh
      refine OpS.pure fun ρ w S hp β hr hor hb => ?_
      have hn : hp[n]? = some (.row ver' sz ro xs) := by simpa [slN] using hb 0 n rfl
      obtain ⟨hv, b1, b2, b3⟩ := args hor
      generalize hρ : ρ x = cw at hv
      cases hv with
      | sref g0 g =>
        obtain ⟨a, cap, rfl, g1, g2, g3⟩ := id g
        have hM : ∃ M : Nat, m.getD (cap : Int) = M ∧ H ≤ M ∧ M ≤ cap ∧ (full' = true → M = H) := by
          cases hmm : m with
          | none =>
            refine ⟨cap, rfl, by omega, Nat.le_refl _, fun h' => ?_⟩
            rcases hf h' with h'' | ⟨h1, _, h3⟩
            · rw [hmm] at h''; cases h''
            · rw [g2 h1, h3]
          | some q =>
            have := hm q hmm
            exact ⟨H, by simp [this], Nat.le_refl _, by omega, fun _ => rfl⟩
        obtain ⟨M, hM1, hM2, hM3, hM4⟩ := hM
        have hrun := run_sliceBounds (P := P) (isSlice := true) (len := len) (cap := cap) b1 b2 b3 (w := w) (fun q hq => by rw [hm q hq]; omega) (fun q hq => by rw [hq] at hH; simp at hH; rw [hM1]; omega)
          (fun q hq => by rw [hq] at hL; simp at hL; rw [hH]; omega) hmh
        rw [hL, hH, hM1] at hrun
        simp only [Int.toNat_natCast] at hrun
        refine ⟨_, _, hexec ρ w _ (by rw [hρ]; exact run_slice_slice hu hte hrun), .inl rfl, .sref rfl ?_⟩
        rw [hsz, ← hes]
        exact SR.sub g hn rfl hLH hM2 hM3 hM4
    split at h
    · refine ⟨_, h, ?_⟩
      have := key 0 len full rfl rfl (Nat.zero_le _) (Nat.le_refl _) (fun h => .inr ⟨h, rfl, rfl⟩) (fun q hq => by cases hq) (fun h => by cases h)
      simpa using this
    · rename_i h0
      replace h := h.elim
      obtain ⟨⟨c1, c2⟩, h⟩ := h
      refine ⟨_, h, ?_⟩
      have := key 0 h0.toNat false rfl (by simp; omega) (Nat.zero_le _) (by omega) (fun h => by cases h) (fun q hq => by cases hq) (fun h => by cases h)
      simpa using this
    · rename_i l1
      replace h := h.elim
      obtain ⟨⟨c1, c2⟩, h⟩ := h
      exact ⟨_, h, key l1.toNat len full (by simp; omega) rfl (by omega) (Nat.le_refl _) (fun h => .inr ⟨h, rfl, rfl⟩) (fun q hq => by cases hq) (fun h => by cases h)⟩
    · rename_i l1 h0
      replace h := h.elim
      obtain ⟨⟨c1, c2, c3⟩, h⟩ := h
      exact ⟨_, h, key l1.toNat h0.toNat false (by simp; omega) (by simp; omega) (by omega) (by omega) (fun h => by cases h) (fun q hq => by cases hq) (fun h => by cases h)⟩
    · rename_i h0 m0
      replace h := h.elim
      obtain ⟨⟨c1, c2, c3⟩, h⟩ := h
      refine ⟨_, h, ?_⟩
      have := key 0 h0.toNat true rfl (by simp; omega) (Nat.zero_le _) (by omega) (fun _ => .inl (by congr 1; omega)) (fun q hq => by cases hq; omega) (fun _ => rfl)
      simpa using this
    · rename_i l1 h0 m0
      replace h := h.elim
      obtain ⟨⟨c1, c2, c3, c4⟩, h⟩ := h
      exact ⟨_, h, key l1.toNat h0.toNat true (by simp; omega) (by simp; omega) (by omega) (by omega) (fun _ => .inl (by congr 1; omega)) (fun q hq => by cases hq; omega) (fun _ => rfl)⟩
    · exact h.elim
  · -- an array
    rename_i n ver e0 o0 cs
    split at h
    · rename_i N hN
      obtain ⟨e, te, hu, hte, hsz⟩ := arrLen_some hT hN
      have key : ∀ (H : Nat) (full' : Bool), l = none → m = none → hh.getD N = H → H ≤ N → N ≤ cs.length → (full' = true → H = N) → o0 = 0 →
          OpS P o (.ptr n ver e0 o0 :: r) (slN (.ptr n ver e0 o0)) [.vard cs] [.vard cs] (.sref n 1 0 H full') := by
        intro H full' hl hm hH hHN hNc hf ho0
        subst hl; subst hm; subst ho0
        refine OpS.pure fun ρ w S hp β hr hor hb => ?_
        have hn : hp[n]? = some (.vard cs) := by simpa [slN] using hb 0 n rfl
        obtain ⟨hv, b1, b2, b3⟩ := args hor
        have hmn : mx.map ρ = none := by
          cases hmm : mx.map ρ with
          | none => rfl
          | some y => rw [hmm] at b3; exact b3.elim
        generalize hρ : ρ x = cw at hv
        cases hv with
        | ptr g0 g =>
          simp only [PR, hn] at g
          obtain ⟨b, g1, g2, g3, rfl⟩ := g
          obtain ⟨b', cells, el, k1, k2, k3, k4, k5⟩ := hr.blk n _ hn
          rw [g1] at k1; simp at k1; subst k1
          have hrun := run_sliceBounds (P := P) (isSlice := false) (len := N) (cap := N) (max := none) (mx := none) b1 b2 trivial (w := w) (fun q hq => by cases hq) (fun q hq => by rw [hq] at hH; simp at hH ⊢; omega)
            (fun q hq => by cases hq) (fun h => by cases h)
          rw [hH] at hrun
          simp only [Int.toNat_natCast, Option.getD_none] at hrun
          refine ⟨_, .slice (some ⟨b, 0, none⟩) H N, hexec ρ w _ ?_, .inl rfl, .sref rfl ⟨_, _, rfl, hHN, fun h => (hf h).symm, ?_⟩⟩
          · rw [hρ, hmn]
            have h0 : (Int.toNat 0) = 0 := rfl
            simp [Instr.sliceAt, run_underlying hu, Instr.sureAddr, hrun, run_sizeOf' hte, addr_add, h0]
          · rw [hn]
            exact ⟨rfl, b, cells, el, _, g1, fun _ => rfl, k2, by omega⟩
      split at h
      · replace h := h.elim
        obtain ⟨c1, h⟩ := h
        exact ⟨_, h, key N true rfl rfl rfl (Nat.le_refl _) c1 (fun _ => rfl) rfl⟩
      · rename_i h0
        replace h := h.elim
        obtain ⟨⟨c1, c2, c3⟩, h⟩ := h
        exact ⟨_, h, key h0.toNat false rfl rfl (by simp; omega) (by omega) c3 (fun h => by cases h) rfl⟩
      · exact h.elim
    · exact h.elim
  · -- nothing of a variable that a slice lies over
    rename_i n ver l0 len full cs
    replace h := (chkB_iff _ _).1 h
    obtain ⟨hchk, h⟩ := h
    have hes : elemSize T t = 1 := Nat.eq_of_beq_eq_true hchk
    obtain ⟨e, te, hu, hte, hsz⟩ := elemSize_pos hT (t := t) (by omega)
    split at h
    · rename_i h0 m0
      replace h := h.elim
      obtain ⟨⟨rfl, rfl⟩, h⟩ := h
      refine ⟨_, h, ?_⟩
      refine OpS.pure fun ρ w S hp β hr hor hb => ?_
      obtain ⟨hv, b1, b2, b3⟩ := args hor
      generalize hρ : ρ x = cw at hv
      cases hv with
      | sref g0 g =>
        obtain ⟨a, cap, rfl, g1, g2, g3⟩ := id g
        have hrun := run_sliceBounds (P := P) (isSlice := true) (len := len) (cap := cap) b1 b2 b3 (w := w) (fun q hq => by cases hq; simp) (fun q hq => by cases hq; simp) (fun q hq => by cases hq) (fun _ => rfl)
        simp only [Option.getD_none, Option.getD_some, Int.toNat_zero] at hrun
        refine ⟨_, _, hexec ρ w _ (by rw [hρ]; exact run_slice_slice hu hte hrun), .inl rfl, .d ?_⟩
        exact .sl 1 true [] _ 0 0 0 (fun _ _ => .nilIface) (by simp) (fun _ => rfl) (by simp) (by simp) (by simp) (by simp) (by simp)
    · exact h.elim
  · exact h.elim
end Go.PM
