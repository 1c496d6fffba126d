/-
  PM, part 9: operations that make composites and slices.
-/
import Derived.Test.YtbifaidepiejeaaPmOps4
import Derived.Laws.MakeOwn
set_option linter.unusedSectionVars false
namespace Go.PM
variable [Glob]
variable {P : Program} {T : TT}

theorem run_mapM_list {α β : Type} (g : α → Sem β) (r : α → β) (w : World) : ∀ l : List α, (∀ a ∈ l, (g a).run P w = .ok (r a) w) → (l.mapM g).run P w = .ok (l.map r) w
  | [], _ => by simp
  | a :: l, h => by
    simp only [List.mapM_cons, Sem.run_bind, h a (by simp), Result.andThen_ok, run_mapM_list g r w l (fun b hb => h b (by simp [hb])), Sem.run_pure, List.map_cons]

theorem run_mapM_arr {α β : Type} (g : α → Sem β) (r : α → β) (w : World) (l : Array α) (h : ∀ a ∈ l.toList, (g a).run P w = .ok (r a) w) : (l.mapM g).run P w = .ok (l.map r) w := by
  rw [Array.mapM_eq_mapM_toList]
  simp only [Sem.run_map, run_mapM_list g r w l.toList h, Result.andThen_ok]
  congr 1
  apply Array.ext'
  simp

theorem ov_cons {α : Type} {xs ys : List α} {o : Nat} {y : α} (h : o + 1 + ys.length ≤ xs.length) : ov (xs.set o y) (o + 1) ys = ov xs o (y :: ys) := by
  apply List.ext_getElem?
  intro j
  rw [ov_get (by simp; omega), ov_get (by simp; omega), List.getElem?_set]
  by_cases hj : o = j
  · subst hj; simp; omega
  · simp only [if_neg hj, List.length_cons]
    by_cases a : j < o
    · rw [if_pos a, if_pos (by omega)]
    · rw [if_neg a, if_neg (by omega : ¬ j < o + 1)]
      by_cases b : j < o + 1 + ys.length
      · rw [if_pos b, if_pos (by omega), show j - o = (j - (o + 1)) + 1 from by omega, List.getElem?_cons_succ]
      · rw [if_neg b, if_neg (by omega)]

theorem ov_nil {α : Type} (xs : List α) (o : Nat) : ov xs o [] = xs := by simp [ov]

theorem foldl_set (off : Nat) : ∀ (l : List Value) (k : Nat) (cells : Array Value), off + k + l.length ≤ cells.size →
    ((l.zipIdx k).foldl (fun (cs : Array Value) (p : Value × Nat) => cs.setIfInBounds (off + p.2) p.1) cells).toList = ov cells.toList (off + k) l
  | [], k, cells, _ => by simp [ov_nil]
  | v :: l, k, cells, h => by
    simp only [List.zipIdx_cons, List.foldl_cons]
    have hl : off + k + 1 + l.length ≤ cells.size := by simp at h; omega
    rw [foldl_set off l (k + 1) _ (by simp; omega)]
    rw [Array.toList_setIfInBounds, show off + (k + 1) = off + k + 1 by omega]
    exact ov_cons (by simpa using hl)

theorem fill_cons {place : Nat → Option (Nat × Nat)} {cells : Array Value} {i off size : Nat} {v : Value} {rest : List (Nat × Value)} (hp : place i = some (off, size)) (hs : v.cells.toList.length = size) (hl : off + size ≤ cells.size) :
    Instr.fill place cells ((i, v) :: rest) = Instr.fill place (ov cells.toList off v.cells.toList).toArray rest := by
  have hs' : v.cells.size = size := by simpa using hs
  have hf : (v.cells.zipIdx.foldl (fun cs (c, j) => cs.setIfInBounds (off + j) c) cells) = (ov cells.toList off v.cells.toList).toArray := by
    rw [← Array.foldl_toList, Array.toList_zipIdx]
    apply Array.ext'
    have := foldl_set off v.cells.toList 0 cells (by rw [hs]; simpa using hl)
    simpa using this
  rw [Instr.fill, hp]
  simp only [hs', ne_eq, not_true_eq_false, decide_false, Bool.false_or]
  rw [if_neg (by simp; omega)]
  rw [hf]

/-! ### Composites -/

theorem partsK_det (hT : tokB P T = true) {fs : List (Nat × TypeId)} {fields : Array Field} (hfs : fieldsOk P fs fields.toList = true) {k : List V → Prop} :
    ∀ (is : List Nat) (vs : List V) (cs : List V), partsK T fs is vs cs k → ∃ cs', k cs' ∧ cs'.length = cs.length ∧ ∀ (w : World) (S : Stb) (hp : Hp) (β : Bet) (us : List Value) (cells : Array Value), is.length = us.length →
      (∀ (i : Nat) (v : V) (u : Value), vs[i]? = some v → us[i]? = some u → VR w S hp β v u) → (is.length ≤ vs.length) → cells.size = cs.length →
      (∀ (j : Nat) (c : V) (y : Value), cs[j]? = some c → cells[j]? = some y → VR w S hp β c y ∧ c.flat = true) →
      ∃ cells', Instr.fill ((fields.map fun f => (f.offset, P.cellsOf f.type))[·]?) cells (is.zip us) = some cells' ∧ cells'.size = cs.length ∧
        ∀ (j : Nat) (c : V) (y : Value), cs'[j]? = some c → cells'[j]? = some y → VR w S hp β c y ∧ c.flat = true
  | [], vs, cs, h => ⟨cs, by simpa [partsK] using h, rfl, fun w S hp β us cells _ _ _ h1 h2 => ⟨cells, by simp [Instr.fill], h1, h2⟩⟩
  | f :: r, [], cs, h => by simp [partsK] at h
  | f :: r, v :: vs, cs, h => by
    simp only [partsK] at h
    obtain ⟨p, hp, h⟩ := nthK_iff.1 h
    cases hty : tyOf T p.2 with
    | none => simp [hty] at h
    | some ti =>
      simp only [hty] at h
      obtain ⟨l, h, hcl⟩ := cellsK_det h
      obtain ⟨hsz, h⟩ := (chkB_iff _ _).1 h
      have hsz := Nat.eq_of_beq_eq_true hsz
      obtain ⟨i, z, hi⟩ := tiOk_info (tyOf_ok hT hty)
      obtain ⟨fd, hf1, hf2, hf3, _, hf5⟩ := (fieldsOk_get hfs).2 f p hp
      have hco : P.cellsOf fd.type = ti.size := by rw [← hf3]; simp [Program.cellsOf, hi.info, hi.size]
      rcases layK_spec _ _ _ _ h with ⟨rfl, _⟩ | ⟨hne, hlen, hk⟩
      · rw [hco] at hf5; simp at hsz; omega
      · obtain ⟨cs', hk', hl', hrest⟩ := partsK_det hT hfs r vs _ hk
        have hovl := ov_length hlen
        refine ⟨cs', hk', by rw [hl', hovl], fun w S hp β us cells hus hv hle hcs hc => ?_⟩
        match us, hus with
        | u :: us, hus =>
          obtain ⟨q1, q2⟩ := hcl.rel (hv 0 v u rfl rfl)
          have hlc : p.1 + u.cells.toList.length ≤ cells.toList.length := by rw [q1]; simp only [Array.length_toList, hcs]; exact hlen
          have hovc := ov_length hlc
          obtain ⟨cells', e1, e2, e3⟩ := hrest w S hp β us (ov cells.toList p.1 u.cells.toList).toArray (by simpa using hus) (fun i v u hi hu => hv (i + 1) v u (by simpa using hi) (by simpa using hu)) (by simpa using hle)
            (by simp only [List.size_toArray, hovc, Array.length_toList, hcs, hovl]) (fun j c y hj hy => by
              have := ov_rel (R := fun (c : V) (y : Value) => VR w S hp β c y ∧ c.flat = true) (xs := cs) (ys := l) (us := cells.toList) (vs := u.cells.toList) (o := p.1) (o' := p.1) hlen hlc q1.symm
                (fun j c y hj hy => hc j c y hj (by simpa using hy)) (Nat.le_refl _) q2 j c y hj (by simpa using hy)
              exact this)
          refine ⟨cells', ?_, by rw [e2, hovl], e3⟩
          rw [List.zip_cons_cons, fill_cons (off := p.1) (size := ti.size) ?_ (by rw [q1]; exact hsz) (by rw [hcs]; omega)]
          · exact e1
          · have : fields[f]? = some fd := by simpa using hf1
            simp [this, hf2, hco]

theorem fill_mono {p1 p2 : Nat → Option (Nat × Nat)} (h : ∀ i q, p1 i = some q → p2 i = some q) : ∀ (l : List (Nat × Value)) (cells cells' : Array Value), Instr.fill p1 cells l = some cells' → Instr.fill p2 cells l = some cells'
  | [], cells, cells', e => by simpa [Instr.fill] using e
  | (i, v) :: r, cells, cells', e => by
    unfold Instr.fill at e ⊢
    cases hp : p1 i with
    | none => rw [hp] at e; simp at e
    | some q =>
      rw [hp] at e
      rw [h i q hp]
      simp only at e ⊢
      split at e
      · cases e
      · rename_i hc
        rw [if_neg hc]
        exact fill_mono h r _ _ e
def arrField (e : TypeId) (i : Nat) : Field := { (default : Field) with name := "x", type := e, offset := i }
theorem arr_fields {e : TypeId} (he : P.cellsOf e ≠ 0) : ∀ (l : List Nat), fieldsOk P (l.map fun i => (i, e)) (l.map (arrField e)) = true
  | [] => rfl
  | i :: r => by
    simp only [List.map_cons, fieldsOk, Bool.and_eq_true, decide_eq_true_eq]
    exact ⟨⟨⟨⟨rfl, rfl⟩, (show "x" ≠ "_" by decide)⟩, he⟩, arr_fields he r⟩
theorem aBuild_sound (hT : tokB P T = true) {o : Oper} {t : TypeId} {parts : Array (Nat × Operand)} (ho : o.op = .build t parts) {vs : List V} {bs : List Blk} {ns : List Nat} {K : V → Prop} (h : aBuild T t (ixs parts.toList) vs K) :
    ∃ v, K v ∧ OpS P o vs ns bs bs v := by
  unfold aBuild at h
  cases hty : tyOf T t with
  | none => simp [hty] at h
  | some ti =>
    have hti := tyOf_ok hT hty
    simp only [hty] at h
    split at h
    · rename_i fs hk
      obtain ⟨fields, hu, hfs, _, _⟩ := kind_str hti hk
      obtain ⟨i, z, hi⟩ := tiOk_info hti
      have hplaces : ∀ w, (fields.mapM fun f => do pure (f.offset, ← sizeOf f.type) : Sem (Array (Nat × Nat))).run P w = .ok (fields.map fun f => (f.offset, P.cellsOf f.type)) w := by
        intro w
        refine run_mapM_arr _ (fun f => (f.offset, P.cellsOf f.type)) w fields fun f hf => ?_
        obtain ⟨j, hj⟩ := List.mem_iff_getElem?.1 hf
        have hjl : j < fs.length := by rw [(fieldsOk_get hfs).1]; exact (List.getElem?_eq_some_iff.1 hj).1
        obtain ⟨fd, h1, h2, h3, h4, h5⟩ := (fieldsOk_get hfs).2 j _ (List.getElem?_eq_getElem hjl)
        rw [hj] at h1; cases h1
        unfold Program.cellsOf at h5 ⊢
        cases hii : P.info? f.type with
        | none => simp [hii] at h5
        | some ii => simp [sizeOf, run_typeInfo' hii]
      have hexec : ∀ (ρ : Operand → Value) (w : World) (cells : Array Value), Instr.fill ((fields.map fun f => (f.offset, P.cellsOf f.type))[·]?) z.cells (parts.toList.map fun p => (p.1, ρ p.2)) = some cells → (execOp ρ o).run P w = .ok (.value (.agg cells)) w := by
        intro ρ w cells hf
        have e1 : (parts.map fun (i, x) => (i, ρ x)).toList = parts.toList.map fun p => (p.1, ρ p.2) := by simp
        simp only [execOp, ho, Instr.build, Sem.run_bind, run_zeroValue' hi, Result.andThen_ok, run_underlying hu, hplaces, e1, hf, Sem.run_pure]
      have hzip : ∀ (ρ : Operand → Value), (parts.toList.map fun p => (p.1, ρ p.2)) = (ixs parts.toList).zip ((parts.toList.map (·.2)).map ρ) := by
        intro ρ
        simp only [ixs, List.map_map, List.zip_map']
        rfl
      have hzs := fun (w : World) (S : Stb) (hp : Hp) (β : Bet) => zs_cells hi.zs w S hp β
      split at h
      · rename_i hixs
        refine ⟨_, h, OpS.pure fun ρ w S hp β _ hor _ => ⟨.value (.agg z.cells), .agg z.cells, hexec ρ w z.cells ?_, .inl rfl, ?_⟩⟩
        · rw [hzip, hixs]; simp [Instr.fill]
        · obtain ⟨a, b⟩ := hzs w S hp β
          refine .d (.agg ti.zero z.cells (by simpa using a) (fun j c hj => ?_) fun j c y hj hy => ?_)
          · have hl : j < z.cells.toList.length := by rw [a]; simpa using (List.getElem?_eq_some_iff.1 hj).1
            exact (b j (.d c) _ (by simp [hj]) (List.getElem?_eq_getElem hl)).2
          · have := (b j (.d c) y (by simp [hj]) (by simpa using hy)).1
            cases this; assumption
      · obtain ⟨cs', h, hlen, hrel⟩ := partsK_det hT hfs _ _ _ h
        obtain ⟨v, hk, hm⟩ := mkAgg_det h
        refine ⟨v, hk, OpS.pure fun ρ w S hp β _ hor _ => ?_⟩
        have hor' : OR w S hp β ρ (parts.toList.map (·.2)) vs := by simpa [ho, opArgs] using hor
        obtain ⟨g1, g2⟩ := hor'.vals
        obtain ⟨a, b⟩ := hzs w S hp β
        obtain ⟨cells', e1, e2, e3⟩ := hrel w S hp β ((parts.toList.map (·.2)).map ρ) z.cells (by simp [ixs]) g2 (by rw [← g1]; simp [ixs]) (by simpa using a) (fun j c y hj hy => b j c y hj (by simpa using hy))
        refine ⟨.value (.agg cells'), .agg cells', hexec ρ w cells' (by rw [hzip]; exact e1), .inl rfl, ?_⟩
        have := hm.rel (w := w) (S := S) (hp := hp) (β := β) (us := cells'.toList) (by simp only [Array.length_toList, e2, hlen]) (fun j c y hj hy => e3 j c y hj (by simpa using hy))
        rwa [Array.toArray_toList] at this
    · rename_i n e hk
      have hu := kind_arr hti hk
      obtain ⟨i, z, hi⟩ := tiOk_info hti
      cases hte : tyOf T e with
      | none => simp [hte] at h
      | some te =>
        simp only [hte] at h
        have hteo := tyOf_ok hT hte
        obtain ⟨i', z', hi'⟩ := tiOk_info hteo
        cases hsz : Nat.beq te.size 1 with
        | false => simp [hsz] at h
        | true =>
          simp only [hsz] at h
          have hs1 := Nat.eq_of_beq_eq_true hsz
          have hce : P.cellsOf e = 1 := by rw [← hs1]; simp [Program.cellsOf, hi'.info, hi'.size]
          have hsize : ∀ w, (sizeOf e).run P w = .ok 1 w := fun w => by
            have := run_sizeOf' (P := P) hteo (w := w)
            rwa [hs1] at this
          have hexec : ∀ (ρ : Operand → Value) (w : World) (cells : Array Value), Instr.fill (fun i => some (i * 1, 1)) z.cells (parts.toList.map fun p => (p.1, ρ p.2)) = some cells → (execOp ρ o).run P w = .ok (.value (.agg cells)) w := by
            intro ρ w cells hf
            have e1 : (parts.map fun (i, x) => (i, ρ x)).toList = parts.toList.map fun p => (p.1, ρ p.2) := by simp
            simp only [execOp, ho, Instr.build, Sem.run_bind, run_zeroValue' hi, Result.andThen_ok, run_underlying hu, hsize, e1, hf, Sem.run_pure]
          have hzip : ∀ (ρ : Operand → Value), (parts.toList.map fun p => (p.1, ρ p.2)) = (ixs parts.toList).zip ((parts.toList.map (·.2)).map ρ) := by
            intro ρ
            simp only [ixs, List.map_map, List.zip_map']
            rfl
          have hzs := fun (w : World) (S : Stb) (hp : Hp) (β : Bet) => zs_cells hi.zs w S hp β
          split at h
          · rename_i hixs
            refine ⟨_, h, OpS.pure fun ρ w S hp β _ hor _ => ⟨.value (.agg z.cells), .agg z.cells, hexec ρ w z.cells ?_, .inl rfl, ?_⟩⟩
            · rw [hzip, hixs]; simp [Instr.fill]
            · obtain ⟨a, b⟩ := hzs w S hp β
              refine .d (.agg ti.zero z.cells (by simpa using a) (fun j c hj => ?_) fun j c y hj hy => ?_)
              · have hl : j < z.cells.toList.length := by rw [a]; simpa using (List.getElem?_eq_some_iff.1 hj).1
                exact (b j (.d c) _ (by simp [hj]) (List.getElem?_eq_getElem hl)).2
              · have := (b j (.d c) y (by simp [hj]) (by simpa using hy)).1
                cases this; assumption
          · have hfs : fieldsOk P ((List.range n).map fun i => (i, e)) ((List.range n).map (arrField e)).toArray.toList = true := by
              simpa using arr_fields (P := P) (by rw [hce]; decide) (List.range n)
            obtain ⟨cs', h, hlen, hrel⟩ := partsK_det hT hfs _ _ _ h
            obtain ⟨v, hk, hm⟩ := mkAgg_det h
            refine ⟨v, hk, OpS.pure fun ρ w S hp β _ hor _ => ?_⟩
            have hor' : OR w S hp β ρ (parts.toList.map (·.2)) vs := by simpa [ho, opArgs] using hor
            obtain ⟨g1, g2⟩ := hor'.vals
            obtain ⟨a, b⟩ := hzs w S hp β
            obtain ⟨cells', e1, e2, e3⟩ := hrel w S hp β ((parts.toList.map (·.2)).map ρ) z.cells (by simp [ixs]) g2 (by rw [← g1]; simp [ixs]) (by simpa using a) (fun j c y hj hy => b j c y hj (by simpa using hy))
            have e1' := fill_mono (p2 := fun i => some (i * 1, 1)) (fun i q hq => by
              simp only [List.map_toArray, List.getElem?_toArray, List.map_map, List.getElem?_map] at hq
              cases hr : (List.range n)[i]? with
              | none => rw [hr] at hq; cases hq
              | some j =>
                rw [hr] at hq
                have hj : j = i := by
                  obtain ⟨hl, hv⟩ := List.getElem?_eq_some_iff.1 hr
                  simpa using hv.symm
                subst hj
                cases hq
                show some (j * 1, 1) = some ((arrField e j).offset, P.cellsOf (arrField e j).type)
                rw [show (arrField e j).type = e from rfl, hce, Nat.mul_one]; rfl) _ _ _ e1
            refine ⟨.value (.agg cells'), .agg cells', hexec ρ w cells' (by rw [hzip]; exact e1'), .inl rfl, ?_⟩
            have := hm.rel (w := w) (S := S) (hp := hp) (β := β) (us := cells'.toList) (by simp only [Array.length_toList, e2, hlen]) (fun j c y hj hy => e3 j c y hj (by simpa using hy))
            rwa [Array.toArray_toList] at this
    · exact h.elim

end Go.PM
