/-
  PM, part 12: append.
-/
import Derived.Test.YtfckliidjmeeaaaDoorPmOps5toPmOps7
set_option linter.unusedSectionVars false
namespace Go.PM
variable [Glob]
variable {P : Program} {T : TT}
def ElK (x : V) (bx : List Blk) (sz : Nat) (ys : List D) : Prop :=
  (∃ full, x = .d (.sl sz full ys) ∧ bx = []) ∨ (∃ m ver lo len full ro xs, x = .sref m ver lo len full ∧ bx = [.row ver sz ro xs] ∧ lo + len ≤ xs.length ∧ ys = (xs.drop lo).take len) ∨
  (∃ m ver lo len full cs, x = .sref m ver lo len full ∧ bx = [.vard cs] ∧ lo + len ≤ cs.length ∧ sz = 1 ∧ ys = (cs.drop lo).take len)
def ElA (x : V) (bx : List Blk) (sz : Nat) (ys : List D) : Prop := ElK x bx sz ys ∨ ∃ b, x = .d (.s b) ∧ bx = [] ∧ sz = 1 ∧ ys = bytesD b
theorem elemsK_det {x : V} {bx : List Blk} {k : Nat → List D → Prop} (h : elemsK x bx k) : ∃ sz ys, k sz ys ∧ ElA x bx sz ys := by
  unfold elemsK at h
  split at h
  · exact ⟨_, _, h, .inl (.inl ⟨_, rfl, rfl⟩)⟩
  · exact ⟨_, _, h, .inr ⟨_, rfl, rfl, rfl, rfl⟩⟩
  · rename_i n ver lo len full ver' sz ro xs
    split at h
    · replace h := h.elim
      obtain ⟨⟨rfl, h1⟩, h⟩ := h
      exact ⟨_, _, h.elim, .inl (.inr (.inl ⟨n, ver, 0, len, full, ro, xs, rfl, rfl, by omega, by simp⟩))⟩
    · replace h := h.elim
      obtain ⟨⟨rfl, h1⟩, h⟩ := h
      exact ⟨_, _, h.elim, .inl (.inr (.inl ⟨n, ver, lo, len, full, ro, xs, rfl, rfl, h1, rfl⟩))⟩
  · rename_i n ver lo len full cs
    replace h := h.elim
    obtain ⟨h1, h⟩ := h
    exact ⟨_, _, h.elim, .inl (.inr (.inr ⟨n, ver, lo, len, full, cs, rfl, rfl, h1, rfl, rfl⟩))⟩
  · exact h.elim
structure SrcR (P : Program) (w : World) (S : Stb) (size : Nat) (cv : Value) (ys : List D) (a : Option Addr) (cap : Nat) (news : List Value) : Prop where
  val : cv = .slice a ys.length cap
  first : ∀ w' : World, w'.heap = w.heap → (Builtin.firstCells size ys.length cv).run P w' = .ok news.toArray w'
  len : news.length = ys.length * size
  one : ∀ v ∈ news, one v = true
  cells : ∀ (i : Nat) (y : D) (j : Nat) (c : D), ys[i]? = some y → y.cells[j]? = some c → ∃ u, news[i * size + j]? = some u ∧ DR w S c u ∧ c.flat = true
  sizes : ∀ (i : Nat) (y : D), ys[i]? = some y → y.cells.length = size
  cap_ : ys.length ≤ cap
theorem split_idx {k n sz : Nat} (h : k < n * sz) : k / sz < n ∧ k % sz < sz ∧ k / sz * sz + k % sz = k := by
  have hsz : 0 < sz := by
    rcases Nat.eq_zero_or_pos sz with h0 | h0
    · subst h0; simp at h
    · exact h0
  refine ⟨Nat.div_lt_of_lt_mul (by rw [Nat.mul_comm]; exact h), Nat.mod_lt _ hsz, ?_⟩
  rw [Nat.mul_comm]; exact Nat.div_add_mod k sz
theorem cell_heap {w w' : World} (h : w'.heap = w.heap) (a : Addr) : w'.cell? a = w.cell? a := by simp [World.cell?, h]
theorem ElK.src {x : V} {bx : List Blk} {sz : Nat} {ys : List D} (h : ElK x bx sz ys) {size : Nat} (hpos : 0 < size) (hsz : sz = size ∨ sz = 0) {w : World} {S : Stb} {hp : Hp} {β : Bet} (hr : HR w S hp β)
    (hb : ∀ (i n : Nat), (srcN x)[i]? = some n → hp[n]? = bx[i]?) {cv : Value} (hv : VR w S hp β x cv) : ∃ a cap news, SrcR P w S size cv ys a cap news := by
  rcases h with ⟨full, rfl, rfl⟩ | ⟨m, ver, lo, len, full, ro, xs, rfl, rfl, hle, rfl⟩ | ⟨m, ver, lo, len, full, cs, rfl, rfl, hle, rfl, rfl⟩
  · cases hv with
    | d hd => cases hd with
      | sl _ _ _ a cap b off uf g1 g2 g3 g4 g5 g6 g7 =>
        by_cases hne : ys = []
        · subst hne
          refine ⟨a, cap, [], rfl, fun w' _ => ?_, by simp, by simp, by simp, by simp, g1⟩
          cases a <;> simp [Builtin.firstCells, loadCells, loadCellsFrom]
        · have hs : sz = size := by
            rcases hsz with h | h
            · exact h
            · exact absurd (g3 h) hne
          subst hs
          have ha := g4 hne
          subst ha
          have hget : ∀ k, k < ys.length * sz → ∃ y c, ys[k / sz]? = some y ∧ y.cells[k % sz]? = some c := fun k hk => by
            obtain ⟨s1, s2, _⟩ := split_idx hk
            refine ⟨ys[k / sz], (ys[k / sz]).cells[k % sz]'(by rw [g5 _ _ (List.getElem?_eq_getElem s1)]; exact s2), List.getElem?_eq_getElem s1, List.getElem?_eq_getElem _⟩
          refine ⟨_, cap, (List.range (ys.length * sz)).map fun k => uf (k / sz) (k % sz), rfl, fun w' hw' => ?_, by simp, fun v hv => ?_, fun i y j c hy hc => ?_, g5, g1⟩
          · refine run_firstCells_some w' sz ys.length _ _ _ _ (by simp) fun k v hv => ?_
            rw [cell_heap hw']
            simp only [List.getElem?_map, Option.map_eq_some_iff] at hv
            obtain ⟨k', hk', rfl⟩ := hv
            obtain ⟨hkl, rfl⟩ := List.getElem?_eq_some_iff.1 hk'
            simp only [List.getElem_range]
            have hkl' : k < ys.length * sz := by simpa using hkl
            obtain ⟨y, c, h1, h2⟩ := hget k hkl'
            have := (g6 _ y _ c h1 h2).2.1
            rw [addr_add]
            rwa [Nat.add_assoc, (split_idx hkl').2.2] at this
          · simp only [List.mem_map, List.mem_range] at hv
            obtain ⟨k, hk, rfl⟩ := hv
            obtain ⟨y, c, h1, h2⟩ := hget k hk
            exact (g7 _ y _ c h1 h2).one (g6 _ y _ c h1 h2).1
          · have hi : i < ys.length := (List.getElem?_eq_some_iff.1 hy).1
            have hj : j < sz := by rw [← g5 i y hy]; exact (List.getElem?_eq_some_iff.1 hc).1
            have hlt : i * sz + j < ys.length * sz := by
              have := Nat.mul_le_mul_right sz (show i + 1 ≤ ys.length from hi)
              rw [Nat.succ_mul] at this; omega
            refine ⟨uf i j, ?_, g7 i y j c hy hc, (g6 i y j c hy hc).1⟩
            simp only [List.getElem?_map, List.getElem?_range hlt, Option.map_some]
            rw [Nat.mul_comm i sz, Nat.mul_add_div hpos, Nat.mul_add_mod, Nat.div_eq_of_lt hj, Nat.mod_eq_of_lt hj, Nat.add_zero]
  · cases hv with
    | sref g0 g =>
      have hn : hp[m]? = some (.row ver sz ro xs) := by simpa [srcN] using hb 0 m rfl
      obtain ⟨a, cap, rfl, g1, g2, g3⟩ := g
      rw [hn] at g3
      obtain ⟨_, g3⟩ := g3
      obtain ⟨k0, k1, k2⟩ := hr.blk m _ hn
      have hs : sz = size := by
        rcases hsz with h | h
        · exact h
        · omega
      subst hs
      have hyl : ((xs.drop lo).take len).length = len := by simp; omega
      have hys : ∀ (i : Nat) (y : D), ((xs.drop lo).take len)[i]? = some y → xs[lo + i]? = some y := fun i y h => part_get h
      rcases g3 rfl with ⟨c1, c2⟩ | ⟨b, base, cells, el, fz, c1, c2, c3, c4⟩
      · have hl0 : len = 0 := by omega
        subst hl0
        refine ⟨a, cap, [], by simp, fun w' _ => ?_, by simp, by simp, by simp, by simp, by simp⟩
        cases a <;> simp [Builtin.firstCells, loadCells, loadCellsFrom]
      · rcases k2 with ⟨_, e2⟩ | ⟨b', base', cells', el', e1, e2, e3, e4, e5⟩
        · rw [c1] at e2; simp at e2
        · rw [c1] at e1; simp at e1; obtain ⟨rfl, rfl⟩ := e1
          rw [c3] at e2; simp at e2; obtain ⟨rfl, rfl, rfl⟩ := e2
          by_cases hl0 : len = 0
          · subst hl0
            refine ⟨a, cap, [], by simp, fun w' _ => ?_, by simp, by simp, by simp, by simp, by simp⟩
            cases a <;> simp [Builtin.firstCells, loadCells, loadCellsFrom]
          · have ha := c2 (by omega)
            subst ha
            have hbound : base + lo * sz + len * sz ≤ cells.size := by
              have := Nat.mul_le_mul_right sz (show lo + len ≤ lo + cap by omega)
              rw [Nat.add_mul] at this
              omega
            have hcell : ∀ (i : Nat) (y : D) (j : Nat) (c : D), ((xs.drop lo).take len)[i]? = some y → y.cells[j]? = some c → ∃ u, cells[base + lo * sz + (i * sz + j)]? = some u ∧ DR w S c u ∧ c.flat = true := fun i y j c hy hc => by
              obtain ⟨u, h1, h2⟩ := e4 _ y j c (hys i y hy) hc
              rw [Nat.add_mul] at h1
              exact ⟨u, by rw [show base + lo * sz + (i * sz + j) = base + (lo * sz + i * sz) + j by omega]; exact h1, h2, (k1 _ y (hys i y hy)).2 j c hc⟩
            have hnews : ∀ k, k < len * sz → ((cells.toList.drop (base + lo * sz)).take (len * sz))[k]? = cells[base + lo * sz + k]? := fun k hk => by
              rw [List.getElem?_take_of_lt hk, List.getElem?_drop]; simp
            refine ⟨_, cap, (cells.toList.drop (base + lo * sz)).take (len * sz), by rw [hyl], fun w' hw' => ?_, by rw [hyl]; simp; omega, fun v hv => ?_, fun i y j c hy hc => ?_, fun i y hy => (k1 _ y (hys i y hy)).1, by rw [hyl]; exact g1⟩
            · rw [hyl]
              refine run_firstCells_some w' sz len _ _ _ _ (by simp; omega) fun k v hv => ?_
              rw [cell_heap hw']
              have hk : k < len * sz := by have := (List.getElem?_eq_some_iff.1 hv).1; simp at this; omega
              rw [hnews k hk] at hv
              rw [addr_add, cell_of_row w b _ cells el _ c3]
              exact hv
            · obtain ⟨k, hk⟩ := List.mem_iff_getElem?.1 hv
              have hkl : k < len * sz := by have := (List.getElem?_eq_some_iff.1 hk).1; simp at this; omega
              obtain ⟨s1, s2, s3⟩ := split_idx hkl
              have hy : ((xs.drop lo).take len)[k / sz]? = some (((xs.drop lo).take len)[k / sz]'(by omega)) := List.getElem?_eq_getElem _
              have hcl := (k1 _ _ (hys _ _ hy)).1
              obtain ⟨u, u1, u2, u3⟩ := hcell _ _ (k % sz) _ hy (List.getElem?_eq_getElem (by omega))
              rw [s3] at u1
              rw [hnews k hkl, u1] at hk
              cases hk
              exact u2.one u3
            · obtain ⟨u, u1, u2, u3⟩ := hcell i y j c hy hc
              have hi : i < len := by rw [← hyl]; exact (List.getElem?_eq_some_iff.1 hy).1
              have hj : j < sz := by rw [← (k1 _ y (hys i y hy)).1]; exact (List.getElem?_eq_some_iff.1 hc).1
              have hlt : i * sz + j < len * sz := by
                have := Nat.mul_le_mul_right sz (show i + 1 ≤ len from hi)
                rw [Nat.succ_mul] at this; omega
              exact ⟨u, by rw [hnews _ hlt]; exact u1, u2, u3⟩
  · cases hv with
    | sref g0 g =>
      have hn : hp[m]? = some (.vard cs) := by simpa [srcN] using hb 0 m rfl
      obtain ⟨a, cap, rfl, g1, g2, g3⟩ := g
      rw [hn] at g3
      obtain ⟨_, b, cells, el, fz, c1, c2, c3, c4⟩ := g3
      obtain ⟨b', cells', el', k1, k2, k3, k4, k5⟩ := hr.blk m _ hn
      rw [c1] at k1; simp at k1; subst k1
      rw [c3] at k2; simp at k2; obtain ⟨rfl, rfl, rfl⟩ := k2
      have hs : size = 1 := by
        rcases hsz with h | h
        · exact h.symm
        · omega
      subst hs
      have hyl : ((cs.drop lo).take len).length = len := by simp; omega
      have hys : ∀ (i : Nat) (y : D), ((cs.drop lo).take len)[i]? = some y → cs[lo + i]? = some y := fun i y h => part_get h
      have hone : ∀ (i : Nat) (y : D), ((cs.drop lo).take len)[i]? = some y → ∃ u, cells[lo + i]? = some u ∧ y.flat = true ∧ DR w S y u := fun i y h => by
        have h2 := hys i y h
        have hlt : lo + i < cells.size := by rw [k3]; exact (List.getElem?_eq_some_iff.1 h2).1
        have := k4 (lo + i) y cells[lo + i] h2 (Array.getElem?_eq_getElem hlt)
        exact ⟨_, Array.getElem?_eq_getElem hlt, this⟩
      by_cases hl0 : len = 0
      · subst hl0
        refine ⟨a, cap, [], by simp, fun w' _ => ?_, by simp, by simp, by simp, by simp, by simp⟩
        cases a <;> simp [Builtin.firstCells, loadCells, loadCellsFrom]
      · have ha := c2 (by omega)
        subst ha
        have hnews : ∀ k, k < len → ((cells.toList.drop lo).take len)[k]? = cells[lo + k]? := fun k hk => by
          rw [List.getElem?_take_of_lt hk, List.getElem?_drop]; simp
        refine ⟨_, cap, (cells.toList.drop lo).take len, by rw [hyl], fun w' hw' => ?_, by rw [hyl]; simp; omega, fun v hv => ?_, fun i y j c hy hc => ?_, fun i y hy => ?_, by rw [hyl]; exact g1⟩
        · rw [hyl]
          refine run_firstCells_some w' 1 len _ _ _ _ (by simp; omega) fun k v hv => ?_
          rw [cell_heap hw']
          have hk : k < len := by have := (List.getElem?_eq_some_iff.1 hv).1; simp at this; omega
          rw [hnews k hk] at hv
          rw [addr_add, cell_of_row w b _ cells el _ c3]
          exact hv
        · obtain ⟨k, hk⟩ := List.mem_iff_getElem?.1 hv
          have hkl : k < len := by have := (List.getElem?_eq_some_iff.1 hk).1; simp at this; omega
          obtain ⟨u, u1, u2, u3⟩ := hone k _ (List.getElem?_eq_getElem (by omega))
          rw [hnews k hkl, u1] at hk
          cases hk
          exact u3.one u2
        · obtain ⟨u, u1, u2, u3⟩ := hone i y hy
          have hi : i < len := by rw [← hyl]; exact (List.getElem?_eq_some_iff.1 hy).1
          rw [flat_cells y u2] at hc
          cases j with
          | zero =>
            simp at hc; subst hc
            exact ⟨u, by rw [Nat.mul_one, Nat.add_zero, hnews i hi]; exact u1, u3, u2⟩
          | succ j => simp at hc
        · obtain ⟨u, u1, u2, u3⟩ := hone i y hy
          rw [flat_cells y u2]; rfl
def AppArg (x : Value) (m : Nat) : Prop := (∃ b c, x = .slice b m c) ∨ ∃ s : ByteArray, x = .string s ∧ s.size = m
def AppTy (d : TypeDesc) : Prop := (∃ e, d = .slice e) ∨ d = .string
structure SrcA (P : Program) (w : World) (S : Stb) (size : Nat) (cv : Value) (ys : List D) (news : List Value) : Prop where
  arg : AppArg cv ys.length
  first : ∀ w' : World, w'.heap = w.heap → (Builtin.firstCells size ys.length cv).run P w' = .ok news.toArray w'
  len : news.length = ys.length * size
  one : ∀ v ∈ news, one v = true
  cells : ∀ (i : Nat) (y : D) (j : Nat) (c : D), ys[i]? = some y → y.cells[j]? = some c → ∃ u, news[i * size + j]? = some u ∧ DR w S c u ∧ c.flat = true
  sizes : ∀ (i : Nat) (y : D), ys[i]? = some y → y.cells.length = size
theorem SrcR.toA {w : World} {S : Stb} {size : Nat} {cv : Value} {ys : List D} {a : Option Addr} {cap : Nat} {news : List Value} (h : SrcR P w S size cv ys a cap news) : SrcA P w S size cv ys news :=
  ⟨.inl ⟨_, _, h.val⟩, h.first, h.len, h.one, h.cells, h.sizes⟩
theorem ElA.src {x : V} {bx : List Blk} {sz : Nat} {ys : List D} (h : ElA x bx sz ys) {size : Nat} (hpos : 0 < size) (hsz : sz = size ∨ sz = 0) {w : World} {S : Stb} {hp : Hp} {β : Bet} (hr : HR w S hp β)
    (hb : ∀ (i n : Nat), (srcN x)[i]? = some n → hp[n]? = bx[i]?) {cv : Value} (hv : VR w S hp β x cv) : ∃ news, SrcA P w S size cv ys news := by
  rcases h with h | ⟨b, rfl, rfl, rfl, rfl⟩
  · obtain ⟨a, cap, news, hs⟩ := h.src (P := P) hpos hsz hr hb hv
    exact ⟨news, hs.toA⟩
  · have hs : size = 1 := by omega
    subst hs
    cases hv with
    | d hd =>
      cases hd with
      | s =>
        have hl : (bytesD b).length = b.size := by unfold bytesD; rw [List.length_map]; exact Array.length_toList
        refine ⟨b.data.toList.map fun c => .int .u8 (c.toNat : Int), ⟨.inr ⟨b, rfl, hl.symm⟩, fun w' _ => ?_, by rw [hl, List.length_map, Nat.mul_one]; exact Array.length_toList, fun v hv => ?_, fun i y j c hy hc => ?_, fun i y hy => ?_⟩⟩
        · have e : b.extract 0 b.size = b := by
            apply ByteArray.ext
            rw [ByteArray.data_extract]
            exact Array.extract_size
          rw [hl]
          show Sem.run P (pure (Array.map (fun c => Value.int IntKind.u8 (c.toNat : Int)) (b.extract 0 b.size).data)) w' = _
          rw [e]
          show Result.ok _ w' = _
          congr 1
          apply Array.ext'
          rw [Array.toList_map]
        · obtain ⟨c, _, rfl⟩ := List.mem_map.1 hv
          rfl
        · unfold bytesD at hy
          rw [List.getElem?_map] at hy
          cases hi : b.data.toList[i]? with
          | none => rw [hi] at hy; cases hy
          | some u =>
            rw [hi] at hy
            cases hy
            cases j with
            | zero =>
              simp [D.cells] at hc
              subst hc
              exact ⟨.int .u8 (u.toNat : Int), by rw [Nat.mul_one, Nat.add_zero, List.getElem?_map, hi]; rfl, .i _ _, rfl⟩
            | succ j => simp [D.cells] at hc
        · unfold bytesD at hy
          rw [List.getElem?_map] at hy
          cases hi : b.data.toList[i]? with
          | none => rw [hi] at hy; cases hy
          | some u => rw [hi] at hy; cases hy; rfl
section
variable {t t2 e : TypeId} {d2 : TypeDesc} {te : TI} {i : TypeInfo} {z : Value}
theorem run_append_stay (ht : P.underlying t = some (.slice e)) (ht2 : P.underlying t2 = some d2) (hd2 : AppTy d2) (hi : TyInfo P e te i z) {w w' : World} {base : Option Addr} {sLen sCap m : Nat} {x : Value} (hx : AppArg x m) {news : Array Value}
    (hf : (Builtin.firstCells te.size m x).run P w = .ok news w) (hroom : sLen + m ≤ sCap)
    (hst : match base with | some a => (storeCells (a.add (sLen * te.size)) news.toList).run P w = .ok () w' | none => w' = w) (ty : TypeId) :
    (Builtin.append_ #[t, t2] ty #[.slice base sLen sCap, x]).run P w = .ok (.slice base (sLen + m) sCap) w' := by
  have hsize := hi.size
  rcases hx with ⟨bx, cx, rfl⟩ | ⟨s, rfl, rfl⟩ <;> rcases hd2 with ⟨e2, rfl⟩ | rfl
  all_goals cases base with
  | none => subst hst; simp [Builtin.append_, run_underlying ht, run_underlying ht2, sizeOf, run_typeInfo' hi.info, hsize, Builtin.lenOf, hroom, hf]
  | some a => simp [Builtin.append_, run_underlying ht, run_underlying ht2, sizeOf, run_typeInfo' hi.info, hsize, Builtin.lenOf, hroom, hf, hst]
theorem run_append_new (ht : P.underlying t = some (.slice e)) (ht2 : P.underlying t2 = some d2) (hd2 : AppTy d2) (hi : TyInfo P e te i z) {w : World} {base : Option Addr} {sLen sCap m : Nat} {x : Value} (hx : AppArg x m) {olds news : Array Value}
    (hfo : ∀ w', w'.heap = w.heap → (Builtin.firstCells te.size sLen (.slice base sLen sCap)).run P w' = .ok olds w') (hf : ∀ w', w'.heap = w.heap → (Builtin.firstCells te.size m x).run P w' = .ok news w') (hroom : sCap < sLen + m) (h63 : sLen + m ≤ 9223372036854775807) (hb : (sLen + m) * te.bytes ≤ 140737488355328) (ty : TypeId) :
    (Builtin.append_ #[t, t2] ty #[.slice base sLen sCap, x]).run P w = .ok (.slice (some ⟨w.heap.size, 0, none⟩) (sLen + m) (grownCap w (sLen + m) sCap e))
      (w.drew.alloc (.cells (olds ++ news ++ Builtin.zeroCells z.cells (grownCap w (sLen + m) sCap e - (sLen + m))) e)) := by
  have hsize := hi.size
  have h48 := growslice_fits hroom hb
  have h48' : ¬ (281474976710656 < Builtin.nextslicecap (sLen + m) sCap * te.bytes) := by omega
  have hn : ¬ (sLen + m ≤ sCap) := by omega
  have h63' : ¬ (9223372036854775807 < ((sLen : Int) + (m : Int))) := by omega
  have hby : i.bytes = te.bytes := hi.bytes
  have e1 := hfo w.drew rfl
  have e2 := hf w.drew rfl
  rcases hx with ⟨bx, cx, rfl⟩ | ⟨s, rfl, rfl⟩ <;> rcases hd2 with ⟨d3, rfl⟩ | rfl
  all_goals simp [Builtin.append_, run_underlying ht, run_underlying ht2, sizeOf, run_typeInfo' hi.info, hsize, hby, zeroValue, hi.zero, Builtin.lenOf, hn, h63', h48', Question.forced, e1, e2, newRow, grownCap]
end
theorem join_cells {w : World} {S : Stb} {sz : Nat} {xs ys : List D} {olds news : List Value} (hol : olds.length = xs.length * sz)
    (hxs : ∀ (i : Nat) (x : D) (j : Nat) (c : D), xs[i]? = some x → x.cells[j]? = some c → ∃ u, olds[i * sz + j]? = some u ∧ DR w S c u)
    (hxz : ∀ (i : Nat) (x : D), xs[i]? = some x → x.cells.length = sz)
    (hys : ∀ (i : Nat) (y : D) (j : Nat) (c : D), ys[i]? = some y → y.cells[j]? = some c → ∃ u, news[i * sz + j]? = some u ∧ DR w S c u ∧ c.flat = true) :
    ∀ (i : Nat) (x : D) (j : Nat) (c : D), (xs ++ ys)[i]? = some x → x.cells[j]? = some c → ∃ u, (olds ++ news)[i * sz + j]? = some u ∧ DR w S c u := by
  intro i x j c hx hc
  by_cases hi : i < xs.length
  · rw [List.getElem?_append_left hi] at hx
    obtain ⟨u, h1, h2⟩ := hxs i x j c hx hc
    have hj : j < sz := by rw [← hxz i x hx]; exact (List.getElem?_eq_some_iff.1 hc).1
    have := Nat.mul_le_mul_right sz (show i + 1 ≤ xs.length from hi)
    rw [Nat.succ_mul] at this
    exact ⟨u, by rw [List.getElem?_append_left (by omega)]; exact h1, h2⟩
  · rw [List.getElem?_append_right (by omega)] at hx
    obtain ⟨u, h1, h2, _⟩ := hys _ x j c hx hc
    have : xs.length * sz ≤ i * sz := Nat.mul_le_mul_right sz (by omega)
    refine ⟨u, ?_, h2⟩
    rw [List.getElem?_append_right (by omega), hol]
    rw [Nat.sub_mul] at h1
    rw [show i * sz + j - xs.length * sz = i * sz - xs.length * sz + j by omega]
    exact h1
theorem sizes_append {sz : Nat} {xs ys : List D} (hx : ∀ (i : Nat) (x : D), xs[i]? = some x → x.cells.length = sz ∧ ∀ (j : Nat) (c : D), x.cells[j]? = some c → c.flat = true)
    (hy : ∀ (i : Nat) (x : D), ys[i]? = some x → x.cells.length = sz ∧ ∀ (j : Nat) (c : D), x.cells[j]? = some c → c.flat = true) :
    ∀ (i : Nat) (x : D), (xs ++ ys)[i]? = some x → x.cells.length = sz ∧ ∀ (j : Nat) (c : D), x.cells[j]? = some c → c.flat = true := by
  intro i x hx'
  by_cases hi : i < xs.length
  · rw [List.getElem?_append_left hi] at hx'; exact hx i x hx'
  · rw [List.getElem?_append_right (by omega)] at hx'; exact hy _ x hx'
theorem SrcR.both {w : World} {S : Stb} {size : Nat} {cv : Value} {ys : List D} {a : Option Addr} {cap : Nat} {news : List Value} (h : SrcR P w S size cv ys a cap news) :
    ∀ (i : Nat) (x : D), ys[i]? = some x → x.cells.length = size ∧ ∀ (j : Nat) (c : D), x.cells[j]? = some c → c.flat = true :=
  fun i x hx => ⟨h.sizes i x hx, fun j c hc => by obtain ⟨_, _, _, hf⟩ := h.cells i x j c hx hc; exact hf⟩
theorem SrcA.both {w : World} {S : Stb} {size : Nat} {cv : Value} {ys : List D} {news : List Value} (h : SrcA P w S size cv ys news) :
    ∀ (i : Nat) (x : D), ys[i]? = some x → x.cells.length = size ∧ ∀ (j : Nat) (c : D), x.cells[j]? = some c → c.flat = true :=
  fun i x hx => ⟨h.sizes i x hx, fun j c hc => by obtain ⟨_, _, _, hf⟩ := h.cells i x j c hx hc; exact hf⟩
theorem src_names {n : Nat} {x : V} {bx : List Blk} {blk : Blk} {hp : Hp} (hb : ∀ (i m : Nat), (n :: srcN x)[i]? = some m → hp[m]? = (blk :: bx)[i]?) : hp[n]? = some blk ∧ ∀ (i m : Nat), (srcN x)[i]? = some m → hp[m]? = bx[i]? :=
  ⟨by simpa using hb 0 n rfl, fun i m hi => by simpa using hb (i + 1) m (by simpa using hi)⟩
theorem setL_src {n : Nat} {x : V} {bx : List Blk} {blk' : Blk} {hp : Hp} (hb : ∀ (i m : Nat), (srcN x)[i]? = some m → hp[m]? = bx[i]?) (hne : ∀ m ∈ srcN x, m ≠ n) : setL hp (n :: srcN x) (blk' :: bx) = hp.set n blk' := by
  rw [setL]
  refine setL_same fun i m b hi hbi => ?_
  have : m ≠ n := hne m (List.mem_of_getElem? hi)
  rw [List.getElem?_set_ne (Ne.symm this), hb i m hi, hbi]
theorem append_new {t t2 e : TypeId} {d2 : TypeDesc} {te : TI} {i : TypeInfo} {z : Value} (ht : P.underlying t = some (.slice e)) (ht2 : P.underlying t2 = some d2) (hd2 : AppTy d2) (hi : TyInfo P e te i z) (hpos : 0 < te.size) (hby : te.bytes ≤ 65536)
    {w : World} {S : Stb} {hp : Hp} {β : Bet} (hr : HR w S hp β) {nf : Nat} (hn : hp[nf]? = some .res) {xs ys : List D} {base : Option Addr} {cap : Nat} {olds : List Value} {cx : Value} {news : List Value}
    (ho : SrcR P w S te.size (.slice base xs.length cap) xs base cap olds) (hs : SrcA P w S te.size cx ys news) (hfull : cap < xs.length + ys.length) (hroom : xs.length + ys.length ≤ room) (ty : TypeId) :
    ∃ w' cv β', (Builtin.append_ #[t, t2] ty #[.slice base xs.length cap, cx]).run P w = .ok cv w' ∧ HR w' S (hp.set nf (.row 0 te.size false (xs ++ ys))) β' ∧
      VR w' S (hp.set nf (.row 0 te.size false (xs ++ ys))) β' (.sref nf 0 0 (xs.length + ys.length) false) cv ∧ Evol w S hp β w' S (hp.set nf (.row 0 te.size false (xs ++ ys))) β' := by
  unfold room at hroom
  have hbb : (xs.length + ys.length) * te.bytes ≤ 140737488355328 := by
    have := Nat.mul_le_mul hroom hby
    omega
  have hrun := run_append_new (P := P) ht ht2 hd2 hi (w := w) hs.arg (base := base) (sLen := xs.length) (sCap := cap) (fun w' hw' => ho.first w' hw') (fun w' hw' => hs.first w' hw') hfull (by omega) hbb ty
  obtain ⟨d1, d2⟩ := drawn hr
  have hge := grownCap_ge w (xs.length + ys.length) cap e
  have hzs : z.cells.size = te.size := by
    have := (zsEq_spec hi.zs).1
    rw [hi.zlen] at this
    simpa using this.symm
  have hcs : (olds.toArray ++ news.toArray ++ Builtin.zeroCells z.cells (grownCap w (xs.length + ys.length) cap e - (xs.length + ys.length))).size = grownCap w (xs.length + ys.length) cap e * te.size := by
    simp only [Array.size_append, List.size_toArray, size_zeroCells, hzs, ho.len, hs.len, ← Nat.add_mul]
    congr 1; omega
  obtain ⟨β', r1, r2, r3⟩ := alloc_row d1 hn e (olds.toArray ++ news.toArray ++ Builtin.zeroCells z.cells (grownCap w (xs.length + ys.length) cap e - (xs.length + ys.length))) te.size (xs.length + ys.length) (grownCap w (xs.length + ys.length) cap e) (xs ++ ys) hpos
    (sizes_append ho.both hs.both) (by rw [hcs, List.length_append]; exact Nat.mul_le_mul_right _ hge) (by rw [hcs]; exact Nat.le_refl _) hge (fun k x j c hx hc => by
      obtain ⟨u, h1, h2⟩ := join_cells ho.len (fun i x j c hx hc => by obtain ⟨u, a, b, _⟩ := ho.cells i x j c hx hc; exact ⟨u, a, b⟩) ho.sizes hs.cells k x j c hx hc
      refine ⟨u, ?_, h2.evol (fun _ _ h => h) (fun _ _ _ => rfl)⟩
      have hlt := (List.getElem?_eq_some_iff.1 h1).1
      rw [Array.getElem?_append_left (by simpa using hlt)]
      simpa using h1)
  exact ⟨_, _, β', hrun, r1, r3, d2.trans r2⟩
theorem virtual_row {w : World} {S : Stb} {hp : Hp} {β : Bet} (hr : HR w S hp β) {n : Nat} {blk : Blk} (hn : hp[n]? = some blk) (hnone : β[n]? = some none) (ver sz : Nat) (ro : Bool) (hsz : 0 < sz) (hev : BEv blk (some none) (.row ver sz ro []) (some none)) (a : Option Addr) :
    HR w S (hp.set n (.row ver sz ro [])) β ∧ Evol w S hp β w S (hp.set n (.row ver sz ro [])) β ∧ VR w S (hp.set n (.row ver sz ro [])) β (.sref n ver 0 0 false) (.slice a 0 0) := by
  have hnl : n < hp.length := (List.getElem?_eq_some_iff.1 hn).1
  have hset : β.set n none = β := set_self hnone
  obtain ⟨r1, r2⟩ := upd hr hn (blk' := .row ver sz ro []) none (w' := w) (Nat.le_refl _) (fun _ _ _ => rfl) (fun i p c e f hp => by rw [hnone] at hp; simp at hp) (fun i p l hp => by rw [hnone] at hp; simp at hp) (fun _ => rfl)
    (fun _ _ _ _ _ => rfl) (fun b p h => by cases h) (by rw [hnone]; exact hev) (fun E => ⟨hsz, by simp, .inl ⟨rfl, by rw [hset]; exact hnone⟩⟩)
  rw [hset] at r1 r2
  refine ⟨r1, r2, .sref rfl ⟨a, 0, rfl, Nat.le_refl _, by simp, ?_⟩⟩
  have : (hp.set n (Blk.row ver sz ro []))[n]? = some (.row ver sz ro []) := by simp [hnl]
  rw [this]
  exact ⟨Nat.le_refl _, fun _ => .inl ⟨hnone, rfl⟩⟩
theorem append_end {t t2 e : TypeId} {d2 : TypeDesc} {te : TI} {i : TypeInfo} {z : Value} (ht : P.underlying t = some (.slice e)) (ht2 : P.underlying t2 = some d2) (hd2 : AppTy d2) (hi : TyInfo P e te i z) (hpos : 0 < te.size) (hby : te.bytes ≤ 65536)
    {w : World} {S : Stb} {hp : Hp} {β : Bet} (hr : HR w S hp β) {n ver lo len : Nat} {ro : Bool} {xs ys : List D} (hn : hp[n]? = some (.row ver te.size ro xs)) {sv : Value} (hsv : VR w S hp β (.sref n ver lo len false) sv) (hend : lo + len = xs.length)
    {cx : Value} {news : List Value} (hs : SrcA P w S te.size cx ys news) (hroom : len + ys.length ≤ room) (ty : TypeId) :
    ∃ w' cv β', (Builtin.append_ #[t, t2] ty #[sv, cx]).run P w = .ok cv w' ∧ HR w' S (hp.set n (.row (ver + 1) te.size ro (xs.drop lo ++ ys))) β' ∧
      VR w' S (hp.set n (.row (ver + 1) te.size ro (xs.drop lo ++ ys))) β' (.sref n (ver + 1) 0 (len + ys.length) false) cv ∧ Evol w S hp β w' S (hp.set n (.row (ver + 1) te.size ro (xs.drop lo ++ ys))) β' := by
  have hnl : n < hp.length := (List.getElem?_eq_some_iff.1 hn).1
  have hxl : (xs.drop lo).length = len := by simp; omega
  have hev : ∀ t1 t2, BEv (.row ver te.size ro xs) t1 (.row (ver + 1) te.size ro (xs.drop lo ++ ys)) t2 := fun _ _ => .inr ⟨ver + 1, ro, _, rfl, by omega, fun h => by omega⟩
  have hget : (hp.set n (Blk.row (ver + 1) te.size ro (xs.drop lo ++ ys)))[n]? = some (.row (ver + 1) te.size ro (xs.drop lo ++ ys)) := by simp [hnl]
  obtain ⟨base0, cap0, olds, hso⟩ := ElK.src (P := P) (x := .sref n ver lo len false) (bx := [.row ver te.size ro xs]) (sz := te.size) (ys := (xs.drop lo).take len)
    (.inr (.inl ⟨n, ver, lo, len, false, ro, xs, rfl, rfl, by omega, rfl⟩)) hpos (.inl rfl) hr (fun i m hi => by
      cases i with
      | zero => simp [srcN] at hi; subst hi; simpa using hn
      | succ i => simp [srcN] at hi) hsv
  have htk : (xs.drop lo).take len = xs.drop lo := List.take_of_length_le (by omega)
  rw [htk] at hso
  cases hsv with
  | sref g0 g =>
    obtain ⟨a, cap, rfl, g1, _, g3⟩ := g
    rw [hn] at g3
    obtain ⟨_, g3⟩ := g3
    have hval := hso.val
    simp at hval
    obtain ⟨rfl, hlen', rfl⟩ := hval
    by_cases hstay : len + ys.length ≤ cap
    · -- in place
      rcases g3 rfl with ⟨c1, c2⟩ | ⟨b, base, cells, el, fz, c1, c2, c3, c4⟩
      · -- no block
        subst c2
        have hl0 : len = 0 := by omega
        have hy0 : ys = [] := List.eq_nil_of_length_eq_zero (by omega)
        subst hl0; subst hy0
        have hx0 : xs.drop lo = [] := List.eq_nil_of_length_eq_zero hxl
        have hn0 : news = [] := List.eq_nil_of_length_eq_zero (by simpa using hs.len)
        subst hn0
        obtain ⟨r1, r2, r3⟩ := virtual_row hr hn c1 (ver + 1) te.size ro hpos (by have := hev (some none) (some none); rw [hx0] at this; simpa using this) a
        rw [hx0]
        refine ⟨w, _, β, run_append_stay (P := P) ht ht2 hd2 hi (base := a) (sLen := 0) (sCap := 0) hs.arg (hs.first w rfl) (by simp) (w' := w) ?_ ty, r1, r3, r2⟩
        cases a <;> simp [storeCells]
      · obtain ⟨_, k1, k2⟩ := hr.blk n _ hn
        rcases k2 with ⟨_, e2'⟩ | ⟨b', base', cells', el', e1', e2', e3', e4', e5'⟩
        · rw [c1] at e2'; simp at e2'
        · rw [c1] at e1'; simp at e1'; obtain ⟨rfl, rfl⟩ := e1'
          rw [c3] at e2'; simp at e2'; obtain ⟨rfl, rfl, rfl⟩ := e2'
          have hlo : lo * te.size + len * te.size = xs.length * te.size := by rw [← Nat.add_mul, hend]
          have hcapsz : base + lo * te.size + cap * te.size ≤ cells.size := by rw [Nat.add_mul] at c4; omega
          have hlc : base + lo * te.size + len * te.size + news.length ≤ cells.toList.length := by
            rw [hs.len]
            have := Nat.mul_le_mul_right te.size hstay
            rw [Nat.add_mul] at this
            simp only [Array.length_toList]; omega
          have hol := ov_length hlc
          have hone : ∀ v ∈ news, v.oneCell' = true := fun v hv => by rw [← one_eq]; exact hs.one v hv
          have hst := run_storeCells_at P b (base + lo * te.size + len * te.size) el news 0 cells w c3 (by simpa using hlc) hone
          simp only [Nat.add_zero] at hst
          have hne' : (cells.toList.take (base + lo * te.size + len * te.size) ++ news ++ cells.toList.drop (base + lo * te.size + len * te.size + news.length)).toArray = (ov cells.toList (base + lo * te.size + len * te.size) news).toArray := rfl
          rw [hne'] at hst
          have holds : ∀ (i : Nat) (x : D) (j : Nat) (c : D), (xs.drop lo)[i]? = some x → x.cells[j]? = some c → ∃ u, cells[base + lo * te.size + (i * te.size + j)]? = some u ∧ DR w S c u ∧ i * te.size + j < len * te.size := fun i x j c hx hc => by
            have hx' : xs[lo + i]? = some x := by simpa using hx
            obtain ⟨u, h1, h2⟩ := e4' _ x j c hx' hc
            have hi : i < len := by rw [← hxl]; exact (List.getElem?_eq_some_iff.1 hx).1
            have hj : j < te.size := by rw [← (k1 _ x hx').1]; exact (List.getElem?_eq_some_iff.1 hc).1
            have := Nat.mul_le_mul_right te.size (show i + 1 ≤ len from hi)
            rw [Nat.succ_mul] at this
            rw [Nat.add_mul] at h1
            exact ⟨u, by rw [show base + lo * te.size + (i * te.size + j) = base + (lo * te.size + i * te.size) + j by omega]; exact h1, h2, by omega⟩
          obtain ⟨r1, r2⟩ := written hr (blk' := .row (ver + 1) te.size ro (xs.drop lo ++ ys)) hn c1 c3 (cells' := (ov cells.toList (base + lo * te.size + len * te.size) news).toArray) (by simp only [List.size_toArray, hol, Array.length_toList])
            (base + lo * te.size) (fun o ho => by
              have := (e5' o ho).2
              simp only [List.getElem?_toArray]
              rw [ov_get hlc, if_pos (by omega)]
              simp) (hev _ _) (fun E hβ hh => by
              refine ⟨hpos, sizes_append (fun i x hx => k1 (lo + i) x (by simpa using hx)) hs.both, .inr ⟨b, base + lo * te.size, _, el, hβ, hh, ?_, fun i x j c hx hc => ?_, fun o ho => ?_⟩⟩
              · simp only [List.size_toArray, hol, Array.length_toList, List.length_append, hxl]
                rw [hs.len] at hlc
                simp only [Array.length_toList] at hlc
                rw [Nat.add_mul]; omega
              · simp only [List.getElem?_toArray]
                rw [ov_get hlc]
                by_cases hi : i < len
                · rw [List.getElem?_append_left (by omega)] at hx
                  obtain ⟨u, h1, h2, h3⟩ := holds i x j c hx hc
                  refine ⟨u, ?_, h2.evol E.sub E.cell⟩
                  rw [if_pos (by omega), show base + lo * te.size + i * te.size + j = base + lo * te.size + (i * te.size + j) by omega]
                  simpa using h1
                · rw [List.getElem?_append_right (by omega), hxl] at hx
                  obtain ⟨u, h1, h2, _⟩ := hs.cells _ x j c hx hc
                  have hm : len * te.size ≤ i * te.size := Nat.mul_le_mul_right _ (by omega)
                  have hlt := (List.getElem?_eq_some_iff.1 h1).1
                  rw [Nat.sub_mul] at h1 hlt
                  refine ⟨u, ?_, h2.evol E.sub E.cell⟩
                  rw [if_neg (by omega), if_pos (by omega), show base + lo * te.size + i * te.size + j - (base + lo * te.size + len * te.size) = i * te.size - len * te.size + j by omega]
                  exact h1
              · obtain ⟨q1, q2⟩ := e5' o ho
                refine ⟨q1, ?_⟩
                simp only [List.length_append, hxl]
                rw [Nat.add_mul]; omega)
          have hβ' : (β.set n (some (b, base + lo * te.size)))[n]? = some (some (b, base + lo * te.size)) := by
            have : n < β.length := Nat.lt_of_lt_of_le hnl hr.len
            simp [this]
          refine ⟨_, _, _, run_append_stay (P := P) ht ht2 hd2 hi (base := a) (sLen := len) (sCap := cap) hs.arg (hs.first w rfl) hstay (w' := w.setRow b (ov cells.toList (base + lo * te.size + len * te.size) news).toArray) ?_ ty, r1, ?_, r2⟩
          · by_cases hc0 : 0 < cap
            · rw [c2 hc0]
              simp only [addr_add]
              exact hst
            · have hn0 : news = [] := by
                have : ys.length = 0 := by omega
                exact List.eq_nil_of_length_eq_zero (by rw [hs.len, this]; simp)
              subst hn0
              have hself : w.setRow b (ov cells.toList (base + lo * te.size + len * te.size) []).toArray = w := by
                rw [ov_nil, Array.toArray_toList]; exact setRow_self w b cells el (0, 0) c3
              rw [hself]
              cases a <;> simp [storeCells]
          · refine .sref rfl ⟨a, cap, rfl, hstay, by simp, ?_⟩
            rw [hget]
            refine ⟨Nat.le_refl _, fun _ => .inr ⟨b, base + lo * te.size, _, el, (0, 0), hβ', fun h => by rw [c2 h]; simp, setRow_heap w b cells _ el (0, 0) c3, ?_⟩⟩
            simp only [List.size_toArray, hol, Array.length_toList, Nat.zero_add]
            exact hcapsz
    · -- a new block
      unfold room at hroom
      have hbb : (len + ys.length) * te.bytes ≤ 140737488355328 := by
        have := Nat.mul_le_mul hroom hby
        omega
      have hof : ∀ w' : World, w'.heap = w.heap → (Builtin.firstCells te.size len (.slice a len cap)).run P w' = .ok olds.toArray w' := fun w' hw' => by
        have := hso.first w' hw'
        rw [hxl] at this
        exact this
      have hrun := run_append_new (P := P) ht ht2 hd2 hi (w := w) hs.arg (base := a) (sLen := len) (sCap := cap) hof (fun w' hw' => hs.first w' hw') (by omega) (by omega) hbb ty
      have hge := grownCap_ge w (len + ys.length) cap e
      have hzs : z.cells.size = te.size := by
        have := (zsEq_spec hi.zs).1
        rw [hi.zlen] at this
        simpa using this.symm
      have hol : olds.length = len * te.size := by rw [hso.len, hxl]
      have hcs : (olds.toArray ++ news.toArray ++ Builtin.zeroCells z.cells (grownCap w (len + ys.length) cap e - (len + ys.length))).size = grownCap w (len + ys.length) cap e * te.size := by
        simp only [Array.size_append, List.size_toArray, size_zeroCells, hzs, hol, hs.len, ← Nat.add_mul]
        congr 1; omega
      obtain ⟨d1, d2⟩ := drawn hr
      have hother : ∀ i, i < w.drew.heap.size → (w.drew.alloc (.cells (olds.toArray ++ news.toArray ++ Builtin.zeroCells z.cells (grownCap w (len + ys.length) cap e - (len + ys.length))) e)).heap[i]? = w.drew.heap[i]? := fun i hi => heap_alloc_old w.drew _ i hi
      have hnb : n < β.length := Nat.lt_of_lt_of_le hnl hr.len
      obtain ⟨r1, r2⟩ := upd d1 hn (blk' := .row (ver + 1) te.size ro (xs.drop lo ++ ys)) (some (w.heap.size, 0)) (w' := w.drew.alloc (.cells (olds.toArray ++ news.toArray ++ Builtin.zeroCells z.cells (grownCap w (len + ys.length) cap e - (len + ys.length))) e))
        (by simp) (fun i hi _ => hother i hi) (fun i p c e' f hp hi => ⟨c, by rw [hother i (Array.getElem?_eq_some_iff.1 hi).1]; exact hi, rfl⟩) (fun i p l hp hi => ⟨l, by rw [hother i (Array.getElem?_eq_some_iff.1 hi).1]; exact hi⟩) (fun a => frozen_alloc_cells _ _ _ a)
        (fun i p o _ hS => World.cell?_alloc_lt _ _ _ (d1.old i o hS)) (fun b p h => by cases h; exact .inr (Nat.le_refl _)) (hev _ _) (fun E => by
          refine ⟨hpos, sizes_append hso.both hs.both, .inr ⟨w.heap.size, 0, _, e, by simp [hnb], heap_alloc_new w.drew _, ?_, fun k x j c hx hc => ?_, fun o ho => absurd (hr.old _ _ ho) (by omega)⟩⟩
          · rw [hcs, List.length_append, hxl, Nat.zero_add]; exact Nat.mul_le_mul_right _ hge
          · obtain ⟨u, h1, h2⟩ := join_cells hso.len (fun i x j c hx hc => by obtain ⟨u, a, b, _⟩ := hso.cells i x j c hx hc; exact ⟨u, a, b⟩) hso.sizes hs.cells k x j c hx hc
            refine ⟨u, ?_, (h2.evol (S' := S) (fun _ _ h => h) (fun _ _ _ => rfl)).evol E.sub E.cell⟩
            have hlt := (List.getElem?_eq_some_iff.1 h1).1
            rw [Nat.zero_add, Array.getElem?_append_left (by simpa using hlt)]
            simpa using h1)
      refine ⟨_, _, _, hrun, r1, .sref rfl ⟨_, _, rfl, hge, by simp, ?_⟩, d2.trans r2⟩
      rw [hget]
      refine ⟨Nat.le_refl _, fun _ => .inr ⟨w.heap.size, 0, _, e, (0, 0), by simp [hnb], fun _ => by simp, heap_alloc_new w.drew _, ?_⟩⟩
      rw [hcs]; simp
end Go.PM
