/-
  PM, part 8: operations: arithmetic, comparisons, composites, lengths, closures, tuples.
-/
import Derived.Test.YtfckliidjmeeaaaDoorPmOps1toPmOps3
set_option linter.unusedSectionVars false
namespace Go.PM
variable [Glob]
variable {P : Program} {T : TT}
theorem int_inv {w : World} {S : Stb} {hp : Hp} {β : Bet} {k : IntKind} {n : Int} {cv : Value} (h : VR w S hp β (.d (.i k n)) cv) : cv = .int k n := by
  cases h with
  | d hd => cases hd; rfl
theorem bool_inv {w : World} {S : Stb} {hp : Hp} {β : Bet} {x : Bool} {cv : Value} (h : VR w S hp β (.d (.b x)) cv) : cv = .bool x := by
  cases h with
  | d hd => cases hd; rfl
theorem str_inv {w : World} {S : Stb} {hp : Hp} {β : Bet} {x : ByteArray} {cv : Value} (h : VR w S hp β (.d (.s x)) cv) : cv = .string x := by
  cases h with
  | d hd => cases hd; rfl
def dv : D → Value
  | .b x => .bool x
  | .i k n => .int k n
  | .s x => .string x
  | _ => undef
theorem intOp_det {op : BinOp} {kd : IntKind} {x y : Int} {K : D → Prop} (h : intOp op kd x y K) : ∃ r, K r ∧ ∀ (t : TypeId) (ox oy : Operand) (w : World),
    (do eqGuard op t ox oy (.int kd x) (.int kd y); binOp op t (.int kd x) (.int kd y) : Sem Value).run P w = .ok (dv r) w ∧ ∀ S, DR w S r (dv r) := by
  unfold intOp at h
  split at h
  · exact ⟨_, h.elim, fun t ox oy w => ⟨by simp [eqGuard_at_int, binOp, Op.intArith, dv], fun S => .i _ _⟩⟩
  · exact ⟨_, h.elim, fun t ox oy w => ⟨by simp [eqGuard_at_int, binOp, Op.intArith, dv], fun S => .i _ _⟩⟩
  · exact ⟨_, h.elim, fun t ox oy w => ⟨by simp [eqGuard_at_int, binOp, Op.intArith, dv], fun S => .i _ _⟩⟩
  · exact ⟨_, h.elim, fun t ox oy w => ⟨by rw [show decide (x = y) = (x == y) by rw [Bool.eq_iff_iff]; simp]; simp [eqGuard_at_int, binOp, Op.intArith, Op.intCmp, dv], fun S => .b _⟩⟩
  · exact ⟨_, h.elim, fun t ox oy w => ⟨by rw [show (!(decide (x = y))) = (x != y) by rw [Bool.eq_iff_iff]; simp]; simp [eqGuard_at_int, binOp, Op.intArith, Op.intCmp, dv], fun S => .b _⟩⟩
  · exact ⟨_, h.elim, fun t ox oy w => ⟨by simp [eqGuard_at_int, binOp, Op.intArith, Op.intCmp, dv], fun S => .b _⟩⟩
  · exact ⟨_, h.elim, fun t ox oy w => ⟨by simp [eqGuard_at_int, binOp, Op.intArith, Op.intCmp, dv], fun S => .b _⟩⟩
  · exact ⟨_, h.elim, fun t ox oy w => ⟨by simp [eqGuard_at_int, binOp, Op.intArith, Op.intCmp, dv], fun S => .b _⟩⟩
  · exact ⟨_, h.elim, fun t ox oy w => ⟨by simp [eqGuard_at_int, binOp, Op.intArith, Op.intCmp, dv], fun S => .b _⟩⟩
  · obtain ⟨hy, h⟩ := h.elim
    exact ⟨_, h.elim, fun t ox oy w => ⟨by simp [eqGuard_at_int, binOp, Op.intDiv, hy, dv], fun S => .i _ _⟩⟩
  · obtain ⟨hy, h⟩ := h.elim
    exact ⟨_, h, fun t ox oy w => ⟨by simp [eqGuard_at_int, binOp, Op.intDiv, hy, dv], fun S => .i _ _⟩⟩
  · exact ⟨_, h, fun t ox oy w => ⟨by simp [eqGuard_at_int, binOp, Op.intBits, bitsOp, dv], fun S => .i _ _⟩⟩
  · exact ⟨_, h, fun t ox oy w => ⟨by simp [eqGuard_at_int, binOp, Op.intBits, bitsOp, dv], fun S => .i _ _⟩⟩
  · exact ⟨_, h, fun t ox oy w => ⟨by simp [eqGuard_at_int, binOp, Op.intBits, bitsOp, dv], fun S => .i _ _⟩⟩
  · exact ⟨_, h, fun t ox oy w => ⟨by simp [eqGuard_at_int, binOp, Op.intBits, bitsOp, dv], fun S => .i _ _⟩⟩
  · exact h.elim
theorem shOp_det {op : BinOp} {kd k2 : IntKind} {x y : Int} {K : D → Prop} (h : shOp op kd x y K) : ∃ r, K r ∧ ∀ (t : TypeId) (ox oy : Operand) (w : World),
    (do eqGuard op t ox oy (.int kd x) (.int k2 y); binOp op t (.int kd x) (.int k2 y) : Sem Value).run P w = .ok (dv r) w ∧ ∀ S, DR w S r (dv r) := by
  unfold shOp at h
  split at h
  · obtain ⟨hy, h⟩ := h.elim
    exact ⟨_, h.elim, fun t ox oy w => ⟨by simp [eqGuard, binOp, Op.shift, show ¬ y < 0 by omega, dv], fun S => .i _ _⟩⟩
  · obtain ⟨hy, h⟩ := h.elim
    exact ⟨_, h, fun t ox oy w => ⟨by simp [eqGuard, binOp, Op.shift, show ¬ y < 0 by omega, dv], fun S => .i _ _⟩⟩
  · exact h.elim
theorem strOp_det {op : BinOp} {x y : ByteArray} {K : D → Prop} (h : strOp op x y K) : ∃ r, K r ∧ ∀ (t : TypeId) (ox oy : Operand) (w : World),
    (do eqGuard op t ox oy (.string x) (.string y); binOp op t (.string x) (.string y) : Sem Value).run P w = .ok (dv r) w ∧ ∀ S, DR w S r (dv r) := by
  have hg : eqGuard op 0 (.tmp 0) (.tmp 0) (.string x) (.string y) = pure () := by cases op <;> rfl
  have hg : ∀ t ox oy, eqGuard op t ox oy (.string x) (.string y) = pure () := fun t ox oy => by cases op <;> rfl
  unfold strOp at h
  split at h
  · exact ⟨_, h.elim, fun t ox oy w => ⟨by rw [show decide (x.toList = y.toList) = (x.toList == y.toList) by rw [Bool.eq_iff_iff]; simp]; simp [hg, binOp, Op.stringOp, dv], fun S => .b _⟩⟩
  · exact ⟨_, h.elim, fun t ox oy w => ⟨by rw [show (!(decide (x.toList = y.toList))) = !(x.toList == y.toList) by rw [Bool.eq_iff_iff]; simp]; simp [hg, binOp, Op.stringOp, dv], fun S => .b _⟩⟩
  · exact ⟨_, h, fun t ox oy w => ⟨by simp [hg, binOp, Op.stringOp, dv], fun S => .b _⟩⟩
  · exact ⟨_, h, fun t ox oy w => ⟨by simp [hg, binOp, Op.stringOp, dv], fun S => .b _⟩⟩
  · exact ⟨_, h, fun t ox oy w => ⟨by simp [hg, binOp, Op.stringOp, dv], fun S => .b _⟩⟩
  · exact ⟨_, h, fun t ox oy w => ⟨by simp [hg, binOp, Op.stringOp, dv], fun S => .b _⟩⟩
  · obtain ⟨hs, h⟩ := h.elim
    have hm : ¬ ((x.size + y.size : Nat) : Int) > IntKind.i64.max := by have : IntKind.i64.max = 9223372036854775807 := rfl; omega
    refine ⟨_, h.elim, fun t ox oy w => ⟨?_, fun S => .s _⟩⟩
    simp only [hg, binOp, Op.stringOp, dv]
    rw [if_neg hm]; simp
  · exact h.elim
theorem litOk1_bool {xs : List D} (h : litOk1 .bool xs = true) : ∃ x, xs = [.b x] := by
  match xs with
  | [.b x] => exact ⟨x, rfl⟩
  | [] | [.i _ _] | [.s _] | [.k _] | [.agg _] | [.sl _ _ _] | _ :: _ :: _ => simp [litOk1] at h
theorem litOk1_int {k : IntKind} {xs : List D} (h : litOk1 (.int k) xs = true) : ∃ x, xs = [.i k x] := by
  match xs with
  | [.i k' x] => simp [litOk1] at h; subst h; exact ⟨x, rfl⟩
  | [] | [.b _] | [.s _] | [.k _] | [.agg _] | [.sl _ _ _] | _ :: _ :: _ => simp [litOk1] at h
theorem litOk1_string {xs : List D} (h : litOk1 .string xs = true) : ∃ x, xs = [.s x] := by
  match xs with
  | [.s x] => exact ⟨x, rfl⟩
  | [] | [.b _] | [.i _ _] | [.k _] | [.agg _] | [.sl _ _ _] | _ :: _ :: _ => simp [litOk1] at h
theorem run_equalIn_fs {n d : Nat} (ih : ∀ (t : TypeId) (xs ys : List D), litOk T n t xs = true → litOk T n t ys = true → ∀ (w : World) (S : Stb) (ti : TI), tyOf T t = some ti →
      (isAggT ti = true → ∀ (a b : Array Value), (∀ (j : Nat) (c : D) (y : Value), xs[j]? = some c → a[j]? = some y → DR w S c y) → (∀ (j : Nat) (c : D) (y : Value), ys[j]? = some c → b[j]? = some y → DR w S c y) → a.size = xs.length → b.size = ys.length →
        (Op.equalIn d t (.agg a) (.agg b)).run P w = .ok (eqD T n t xs ys) w) ∧
      (isAggT ti = false → ∀ (u v : Value), (∀ c, xs = [c] → DR w S c u) → (∀ c, ys = [c] → DR w S c v) → (Op.equalIn d t u v).run P w = .ok (eqD T n t xs ys) w))
    (hT : tokB P T = true) {xs ys : List D} {w : World} {S : Stb} {a b : Array Value} (hxa : ∀ (j : Nat) (c : D) (y : Value), xs[j]? = some c → a[j]? = some y → DR w S c y) (hyb : ∀ (j : Nat) (c : D) (y : Value), ys[j]? = some c → b[j]? = some y → DR w S c y)
    (ha : a.size = xs.length) (hb : b.size = ys.length) :
    ∀ (fs : List (Nat × TypeId)) (fields : List Field) (off : Nat), fieldsOk P fs fields = true → litOkFs T (litOk T n) xs off fs = true → litOkFs T (litOk T n) ys off fs = true →
      (Op.eqFields d a b fields).run P w = .ok (eqFs T (eqD T n) xs ys fs) w
  | [], [], _, _, _, _ => by simp [Op.eqFields, eqFs]
  | [], _ :: _, _, h, _, _ => by simp [fieldsOk] at h
  | _ :: _, [], _, h, _, _ => by simp [fieldsOk] at h
  | p :: fs, f :: fields, off, h, hx, hy => by
    simp only [fieldsOk, Bool.and_eq_true, decide_eq_true_eq] at h
    obtain ⟨⟨⟨⟨h1, h2⟩, h3⟩, h4⟩, h5⟩ := h
    simp only [litOkFs] at hx hy
    cases hty : tyOf T p.2 with
    | none => simp [hty] at hx
    | some ti =>
      have hti := tyOf_ok hT hty
      simp only [hty, Bool.and_eq_true] at hx hy
      obtain ⟨⟨⟨hx0, hx1⟩, hx2⟩, hx3⟩ := hx
      obtain ⟨⟨⟨_, hy1⟩, hy2⟩, hy3⟩ := hy
      have hx0 := Nat.eq_of_beq_eq_true hx0
      subst hx0
      have hx1 := Nat.le_of_ble_eq_true hx1
      have hy1 := Nat.le_of_ble_eq_true hy1
      have rest := run_equalIn_fs ih hT hxa hyb ha hb fs fields _ h5 hx3 hy3
      obtain ⟨i1, i2⟩ := ih p.2 _ _ hx2 hy2 w S ti hty
      have sub : ∀ {zs : List D} {c : Array Value} (hl : c.size = zs.length) (hz1 : p.1 + ti.size ≤ zs.length) (hzc : ∀ (j : Nat) (x : D) (y : Value), zs[j]? = some x → c[j]? = some y → DR w S x y),
          (c.extract p.1 (p.1 + ti.size)).size = ((zs.drop p.1).take ti.size).length ∧ ∀ (j : Nat) (x : D) (y : Value), ((zs.drop p.1).take ti.size)[j]? = some x → (c.extract p.1 (p.1 + ti.size))[j]? = some y → DR w S x y := by
        intro zs c hl hz1 hzc
        refine ⟨by simp; omega, fun j x y hj hjy => ?_⟩
        have hj' := part_get hj
        have hjn : j < ti.size := by rw [List.getElem?_take] at hj; split at hj <;> first | assumption | cases hj
        have := extract_get c p.1 ti.size j (by omega)
        rw [if_pos hjn, Array.getElem?_toList, hjy] at this
        exact hzc _ x y hj' this.symm
      have step : ∃ (pa pb : Value), (part f.type a f.offset).run P w = .ok pa w ∧ (part f.type b f.offset).run P w = .ok pb w ∧ (Op.equalIn d f.type pa pb).run P w = .ok (eqD T n p.2 ((xs.drop p.1).take ti.size) ((ys.drop p.1).take ti.size)) w := by
        rw [← h1, ← h2]
        cases hag : isAggT ti with
        | true =>
          obtain ⟨s1, s2⟩ := sub ha hx1 hxa
          obtain ⟨s3, s4⟩ := sub hb hy1 hyb
          exact ⟨_, _, run_part_agg hti hag w a _, run_part_agg hti hag w b _, i1 hag _ _ s2 s4 s1 s3⟩
        | false =>
          have hs : ti.size ≠ 0 := by
            obtain ⟨i, z, hi⟩ := tiOk_info hti
            unfold Program.cellsOf at h4
            rw [← h2, hi.info] at h4
            simp [hi.size] at h4
            exact h4
          have g1 : p.1 < a.size := by omega
          have g2 : p.1 < b.size := by omega
          have e1 := run_part_one (P := P) hti hag w (Array.getElem?_eq_getElem g1)
          have e2 := run_part_one (P := P) hti hag w (Array.getElem?_eq_getElem g2)
          refine ⟨_, _, e1, e2, i2 hag _ _ (fun c hc => ?_) (fun c hc => ?_)⟩
          · have : xs[p.1 + 0]? = some c := part_get (by rw [hc]; rfl)
            exact hxa _ c _ this (Array.getElem?_eq_getElem g1)
          · have : ys[p.1 + 0]? = some c := part_get (by rw [hc]; rfl)
            exact hyb _ c _ this (Array.getElem?_eq_getElem g2)
      obtain ⟨pa, pb, e1, e2, e3⟩ := step
      simp only [Op.eqFields, if_pos h3, Sem.run_bind, e1, e2, e3, Result.andThen_ok, eqFs, hty]
      cases eqD T n p.2 ((xs.drop p.1).take ti.size) ((ys.drop p.1).take ti.size)
      · simp
      · simp [rest]
theorem run_equalIn_lit (hT : tokB P T = true) : ∀ (n d : Nat), n ≤ d → ∀ (t : TypeId) (xs ys : List D), litOk T n t xs = true → litOk T n t ys = true → ∀ (w : World) (S : Stb) (ti : TI), tyOf T t = some ti →
      (isAggT ti = true → ∀ (a b : Array Value), (∀ (j : Nat) (c : D) (y : Value), xs[j]? = some c → a[j]? = some y → DR w S c y) → (∀ (j : Nat) (c : D) (y : Value), ys[j]? = some c → b[j]? = some y → DR w S c y) → a.size = xs.length → b.size = ys.length →
        (Op.equalIn d t (.agg a) (.agg b)).run P w = .ok (eqD T n t xs ys) w) ∧
      (isAggT ti = false → ∀ (u v : Value), (∀ c, xs = [c] → DR w S c u) → (∀ c, ys = [c] → DR w S c v) → (Op.equalIn d t u v).run P w = .ok (eqD T n t xs ys) w)
  | 0, d, _, t, xs, ys, h, _, _, _, _, _ => by simp [litOk] at h
  | n + 1, 0, h, _, _, _, _, _, _, _, _, _ => by omega
  | n + 1, d + 1, hnd, t, xs, ys, hx, hy, w, S, ti, hty => by
    have hti := tyOf_ok hT hty
    simp only [litOk, hty] at hx hy
    simp only [eqD, hty]
    refine ⟨fun ha a b hxa hyb hla hlb => ?_, fun ha u v hu hv => ?_⟩
    · cases hk : ti.kind with
      | str fs =>
        simp only [hk] at hx hy ⊢
        obtain ⟨fields, f1, f2, f3, _⟩ := kind_str hti hk
        rw [run_equalIn_struct w d t a b (by simp [Program.fieldsOf, f1]) f3]
        have : P.fieldsOf t = fields := by simp [Program.fieldsOf, f1]
        rw [this]
        exact run_equalIn_fs (run_equalIn_lit hT n d (by omega)) hT hxa hyb hla hlb fs fields.toList 0 f2 hx hy
      | arr m e => simp [hk, litOk1] at hx
      | _ => simp [isAggT, hk] at ha
    · cases hk : ti.kind with
      | str fs => simp [isAggT, hk] at ha
      | bool =>
        simp only [hk] at hx hy ⊢
        obtain ⟨x, rfl⟩ := litOk1_bool hx
        obtain ⟨y, rfl⟩ := litOk1_bool hy
        have := hu _ rfl; cases this
        have := hv _ rfl; cases this
        simp [Op.equalIn, run_underlying (kind_bool hti hk), eq1]
      | int k =>
        simp only [hk] at hx hy ⊢
        obtain ⟨x, rfl⟩ := litOk1_int hx
        obtain ⟨y, rfl⟩ := litOk1_int hy
        have := hu _ rfl; cases this
        have := hv _ rfl; cases this
        simp [Op.equalIn, run_underlying (kind_int hti hk), eq1]
      | string =>
        simp only [hk] at hx hy ⊢
        obtain ⟨x, rfl⟩ := litOk1_string hx
        obtain ⟨y, rfl⟩ := litOk1_string hy
        have := hu _ rfl; cases this
        have := hv _ rfl; cases this
        simp [Op.equalIn, run_underlying (kind_string hti hk), eq1, beq_toListBytes]
      | arr m e => simp [hk, litOk1] at hx
      | slice e => simp [hk, litOk1] at hx
      | map k e => simp [hk, litOk1] at hx
      | other => simp [hk, litOk1] at hx
theorem arr2_some (hT : tokB P T = true) {t : TypeId} {k : IntKind} (h : arr2 T t = some k) : ∃ e te, P.underlying t = some (.array 2 e) ∧ tiOk P e te = true ∧ te.size = 1 ∧ te.kind = .int k ∧ P.underlying e = some (.int k) ∧ P.eqGuardType P.depth t = false := by
  unfold arr2 at h
  split at h
  · rename_i ti hty
    split at h
    · rename_i n e hk
      split at h
      · rename_i te hn hte
        split at h
        · rename_i k' hs hk2
          cases h
          have hn := Nat.eq_of_beq_eq_true hn
          subst hn
          exact ⟨e, te, kind_arr (tyOf_ok hT hty) hk, tyOf_ok hT hte, Nat.eq_of_beq_eq_true hs, hk2, kind_int (tyOf_ok hT hte) hk2, kind_arr_guard (tyOf_ok hT hty) hk⟩
        · cases h
      · cases h
    · cases h
  · cases h
theorem run_equalIn_arr2 {t e : TypeId} {te : TI} {k : IntKind} (ht : P.underlying t = some (.array 2 e)) (he : tiOk P e te = true) (hs : te.size = 1) (hk : te.kind = .int k) (hu : P.underlying e = some (.int k)) (d : Nat) (w : World) (a b : Array Value) (x y z v : Int)
    (ha : a = #[.int k x, .int k y]) (hb : b = #[.int k z, .int k v]) : (Op.equalIn (d + 1 + 1) t (.agg a) (.agg b)).run P w = .ok (x == z && y == v) w := by
  subst ha hb
  have hag : isAggT te = false := by simp [isAggT, hk]
  have hsz : (sizeOf e).run P w = .ok 1 w := by
    have := run_sizeOf' (P := P) he (w := w)
    rwa [hs] at this
  have hp : ∀ (c : Array Value) (off : Nat) (u : Value), c[off]? = some u → (part e c off).run P w = .ok u w := fun c off u h => run_part_one he hag w h
  have he1 : ∀ (p q : Int), (Op.equalIn (d + 1) e (.int k p) (.int k q)).run P w = .ok (p == q) w := fun p q => by
    simp [Op.equalIn, run_underlying hu]
  have q0 := hp #[.int k x, .int k y] 0 _ rfl
  have q1 := hp #[.int k x, .int k y] 1 _ rfl
  have q2 := hp #[.int k z, .int k v] 0 _ rfl
  have q3 := hp #[.int k z, .int k v] 1 _ rfl
  generalize hd : d + 1 = d' at he1 ⊢
  simp only [Op.equalIn, Sem.run_bind, run_underlying ht, Result.andThen_ok, hsz]
  rw [Std.Legacy.Range.forIn_eq_forIn_range']
  simp only [Std.Legacy.Range.size, List.range', List.forIn_cons, List.forIn_nil, Nat.zero_mul, Nat.mul_one, Nat.zero_add, Sem.run_bind, q0, q1, q2, q3, Result.andThen_ok, he1]
  by_cases h1 : x = z
  · subst h1
    by_cases h2 : y = v
    · subst h2
      simp [q0, q1, he1]
    · simp [h2, q0, q1, q3, he1]
  · simp [h1, q0, q1, q2, q3, he1]
theorem aBin_sound (hT : tokB P T = true) {o : Oper} {op : BinOp} {t yt : TypeId} {x y : Operand} (ho : o.op = .binOp op t x y yt) {xv yv : V} {bs : List Blk} {ns : List Nat} {K : V → Prop} (h : aBin T op t xv yv K) :
    ∃ v, K v ∧ OpS P o [xv, yv] ns bs bs v := by
  unfold aBin at h
  have hargs : opArgs o.op = [x, y] := by simp [ho, opArgs]
  have hexec : ∀ (ρ : Operand → Value) (w : World) (u v cv : Value), ρ x = u → ρ y = v → (do eqGuard op t x y u v; binOp op t u v : Sem Value).run P w = .ok cv w → (execOp ρ o).run P w = .ok (.value cv) w := by
    intro ρ w u v cv h1 h2 h3
    simp only [execOp, ho, h1, h2]
    simp only [Sem.run_bind] at h3 ⊢
    rw [h3]; rfl
  split at h
  · rename_i j a k b
    split at h
    · obtain ⟨r, hk, hr⟩ := shOp_det (P := P) (k2 := k) h
      refine ⟨_, hk, pure2 hargs fun ρ w S hp β hu hv => ?_⟩
      exact ⟨_, hexec ρ w _ _ _ (int_inv hu) (int_inv hv) (hr t x y w).1, .d ((hr t x y w).2 S)⟩
    replace h := (chkB_iff _ _).1 h
    obtain ⟨hjk, h⟩ := h
    have hjk := of_decide_eq_true hjk
    subst hjk
    obtain ⟨r, hk, hr⟩ := intOp_det (P := P) h
    refine ⟨_, hk, pure2 hargs fun ρ w S hp β hu hv => ?_⟩
    exact ⟨_, hexec ρ w _ _ _ (int_inv hu) (int_inv hv) (hr t x y w).1, .d ((hr t x y w).2 S)⟩
  · rename_i a b
    obtain ⟨r, hk, hr⟩ := strOp_det (P := P) h
    refine ⟨_, hk, pure2 hargs fun ρ w S hp β hu hv => ?_⟩
    exact ⟨_, hexec ρ w _ _ _ (str_inv hu) (str_inv hv) (hr t x y w).1, .d ((hr t x y w).2 S)⟩
  · rename_i a b
    replace h := (chkB_iff _ _).1 h
    obtain ⟨hl, h⟩ := h
    simp only [Bool.and_eq_true, Bool.not_eq_true'] at hl
    obtain ⟨hl, hag⟩ := hl
    have hti : ∃ ti, tyOf T t = some ti := by
      simp only [litOk] at hl
      cases hty : tyOf T t with
      | none => simp [hty] at hl
      | some ti => exact ⟨ti, rfl⟩
    obtain ⟨ti, hty⟩ := hti
    have htk := tyOf_ok hT hty
    have hb : P.underlying t = some .bool := by
      simp only [litOk, hty] at hl
      simp only [aggTy, hty] at hag
      cases hk : ti.kind with
      | bool => exact kind_bool htk hk
      | str fs => simp [isAggT, hk] at hag
      | _ => simp [hk, litOk1] at hl
    cases op <;> first | exact h.elim | skip
    · have e : decide (a = b) = (a == b) := by rw [Bool.eq_iff_iff]; simp
      refine ⟨_, h.elim, pure2 hargs fun ρ w S hp β hu hv => ⟨.bool (decide (a = b)), hexec ρ w _ _ _ (bool_inv hu) (bool_inv hv) ?_, .d (.b _)⟩⟩
      rw [e]; simp only [eqGuard_at_bool, binOp, Op.equal, Sem.run_bind, Sem.run_pure, Result.andThen_ok, show Op.maxDepth = 9999 + 1 from rfl, run_equalIn_bool' w 9999 t a b hb]
    · have e : decide (a = b) = (a == b) := by rw [Bool.eq_iff_iff]; simp
      refine ⟨_, h.elim, pure2 hargs fun ρ w S hp β hu hv => ⟨.bool (!(decide (a = b))), hexec ρ w _ _ _ (bool_inv hu) (bool_inv hv) ?_, .d (.b _)⟩⟩
      rw [e]; simp only [eqGuard_at_bool, binOp, Op.equal, Sem.run_bind, Sem.run_pure, Result.andThen_ok, show Op.maxDepth = 9999 + 1 from rfl, run_equalIn_bool' w 9999 t a b hb]
  · rename_i xs ys
    split at h
    · rename_i k harr
      obtain ⟨e, te, a1, a2, a3, a4, a5, a6⟩ := arr2_some hT harr
      split at h
      · rename_i i1 x0 i2 x1 i3 y0 i4 y1
        replace h := (chkB_iff _ _).1 h
        obtain ⟨hl, h⟩ := h
        simp only [Bool.and_eq_true, decide_eq_true_eq] at hl
        obtain ⟨⟨rfl, rfl⟩, rfl, rfl⟩ := hl
        have key : ∀ (ρ : Operand → Value) (w : World) (S : Stb) (hp : Hp) (β : Bet), VR w S hp β (.d (.agg [.i i4 x0, .i i4 x1])) (ρ x) → VR w S hp β (.d (.agg [.i i4 y0, .i i4 y1])) (ρ y) → ∃ a b, ρ x = .agg a ∧ ρ y = .agg b ∧ (Op.equalIn 10000 t (.agg a) (.agg b)).run P w = .ok (x0 == y0 && x1 == y1) w := by
          intro ρ w S hp β hu hv
          generalize ρ x = cu at hu ⊢
          generalize ρ y = cv at hv ⊢
          have inv : ∀ (p q : Int) (c : Value), DR w S (.agg [.i i4 p, .i i4 q]) c → c = .agg #[.int i4 p, .int i4 q] := by
            intro p q c hc
            cases hc with
            | agg _ a b1 b2 b3 =>
              have hs : a.size = 2 := b1
              have h0 := b3 0 _ a[0] rfl (Array.getElem?_eq_getElem (by omega))
              have h1 := b3 1 _ a[1] rfl (Array.getElem?_eq_getElem (by omega))
              generalize e0 : a[0] = v0 at h0
              generalize e1 : a[1] = v1 at h1
              cases h0; cases h1
              congr 1
              apply Array.ext
              · simp [hs]
              · intro i hi hi2
                have : i = 0 ∨ i = 1 := by omega
                rcases this with rfl | rfl
                · simpa using e0
                · simpa using e1
          cases hu with
          | d hd => cases hv with
            | d hd' =>
              have e1 := inv _ _ _ hd
              have e2 := inv _ _ _ hd'
              exact ⟨_, _, e1, e2, run_equalIn_arr2 a1 a2 a3 a4 a5 9998 w _ _ x0 x1 y0 y1 rfl rfl⟩
        cases op <;> first | exact h.elim | skip
        · refine ⟨_, h.elim, pure2 hargs fun ρ w S hp β hu hv => ?_⟩
          obtain ⟨a, b, e1, e2, e3⟩ := key ρ w S hp β hu hv
          refine ⟨.bool (x0 == y0 && x1 == y1), hexec ρ w _ _ _ e1 e2 ?_, .d (.b _)⟩
          simp [run_eqGuard_agg w .eql t x y a b a6, run_eql_struct, e3]
        · refine ⟨_, h.elim, pure2 hargs fun ρ w S hp β hu hv => ?_⟩
          obtain ⟨a, b, e1, e2, e3⟩ := key ρ w S hp β hu hv
          refine ⟨.bool (!(x0 == y0 && x1 == y1)), hexec ρ w _ _ _ e1 e2 ?_, .d (.b _)⟩
          simp [run_eqGuard_agg w .neq t x y a b a6, run_neq_struct, e3]
      · exact h.elim
    replace h := (chkB_iff _ _).1 h
    obtain ⟨hl, h⟩ := h
    simp only [Bool.and_eq_true] at hl
    obtain ⟨hagg, hl1, hl2⟩ := hl
    have hti : ∃ ti, tyOf T t = some ti := by
      simp only [litOk] at hl1
      cases hty : tyOf T t with
      | none => simp [hty] at hl1
      | some ti => exact ⟨ti, rfl⟩
    obtain ⟨ti, hty⟩ := hti
    have htk := tyOf_ok hT hty
    have key : ∀ (ρ : Operand → Value) (w : World) (S : Stb) (hp : Hp) (β : Bet), VR w S hp β (.d (.agg xs)) (ρ x) → VR w S hp β (.d (.agg ys)) (ρ y) → ∃ a b, ρ x = .agg a ∧ ρ y = .agg b ∧ (Op.equalIn 10000 t (.agg a) (.agg b)).run P w = .ok (eqD T 4 t xs ys) w ∧ P.eqGuardType P.depth t = false := by
      intro ρ w S hp β hu hv
      generalize ρ x = cu at hu ⊢
      generalize ρ y = cv at hv ⊢
      cases hu with
      | d hd => cases hd with
        | agg _ a a1 a2 a3 => cases hv with
          | d he => cases he with
            | agg _ b b1 b2 b3 =>
              cases hag : isAggT ti with
              | true =>
                have := (run_equalIn_lit hT 4 10000 (by omega) t xs ys hl1 hl2 w S ti hty).1 hag a b a3 b3 a1 b1
                refine ⟨a, b, rfl, rfl, this, ?_⟩
                cases hk : ti.kind with
                | str fs => obtain ⟨_, _, _, _, h4⟩ := kind_str htk hk; exact h4
                | arr m e => simp [litOk, hty, hk, litOk1] at hl1
                | _ => simp [isAggT, hk] at hag
              | false => simp [aggTy, hty, hag] at hagg
    cases op <;> first | exact h.elim | skip
    · refine ⟨_, h.elim, pure2 hargs fun ρ w S hp β hu hv => ?_⟩
      obtain ⟨a, b, e1, e2, e3, e4⟩ := key ρ w S hp β hu hv
      refine ⟨.bool (eqD T 4 t xs ys), hexec ρ w _ _ _ e1 e2 ?_, .d (.b _)⟩
      simp [run_eqGuard_agg w .eql t x y a b e4, run_eql_struct, e3]
    · refine ⟨_, h.elim, pure2 hargs fun ρ w S hp β hu hv => ?_⟩
      obtain ⟨a, b, e1, e2, e3, e4⟩ := key ρ w S hp β hu hv
      refine ⟨.bool (!eqD T 4 t xs ys), hexec ρ w _ _ _ e1 e2 ?_, .d (.b _)⟩
      simp [run_eqGuard_agg w .neq t x y a b e4, run_neq_struct, e3]
  · exact h.elim
theorem aUn_sound {o : Oper} {op : UnOp} {t : TypeId} {x : Operand} (ho : o.op = .unOp op t x) {xv : V} {bs : List Blk} {ns : List Nat} {K : V → Prop} (h : aUn op xv K) :
    ∃ v, K v ∧ OpS P o [xv] ns bs bs v := by
  unfold aUn at h
  have hargs : opArgs o.op = [x] := by simp [ho, opArgs]
  split at h
  · exact ⟨_, h, pure1 hargs fun ρ w S hp β hv => ⟨.bool (!_), by simp [execOp, ho, bool_inv hv, Op.unary], .d (.b _)⟩⟩
  · exact ⟨_, h, pure1 hargs fun ρ w S hp β hv => ⟨_, by simp only [execOp, ho, int_inv hv, Op.unary, Op.intArith]; rfl, .d (.i _ _)⟩⟩
  · exact h.elim
theorem byteSlice_some (hT : tokB P T = true) {t : TypeId} (h : byteSlice T t = true) : ∃ e, P.underlying t = some (.slice e) ∧ P.underlying e = some (.int .u8) := by
  unfold byteSlice at h
  split at h
  · rename_i ti hty
    split at h
    · rename_i e hk
      split at h
      · rename_i te hte
        split at h
        · rename_i hk2
          exact ⟨e, kind_slice (tyOf_ok hT hty) hk, kind_int (tyOf_ok hT hte) hk2⟩
        · cases h
      · cases h
    · cases h
  · cases h
theorem bytesL_cells : ∀ {xs : List D} {l : List UInt8}, bytesL xs = some l → xs.length = l.length ∧ ∀ (i : Nat) (x : D), xs[i]? = some x → ∃ n, x = .i .u8 n ∧ l[i]? = some (UInt8.ofNat n.toNat)
  | [], l, h => by
    cases h
    exact ⟨rfl, fun i x hx => by simp at hx⟩
  | x :: r, l, h => by
    unfold bytesL at h
    split at h
    · rename_i e; cases e
    · rename_i n r' e
      cases e
      split at h
      · rename_i l' hl
        cases h
        obtain ⟨h1, h2⟩ := bytesL_cells hl
        refine ⟨by simp [h1], fun i x hx => ?_⟩
        cases i with
        | zero => simp at hx; subst hx; exact ⟨n, rfl, rfl⟩
        | succ i => exact h2 i x (by simpa using hx)
      · cases h
    · cases h
theorem run_push : ∀ (us : List Value) (l : List UInt8) (acc : ByteArray) (w : World), us.length = l.length → (∀ (i : Nat) (u : Value), us[i]? = some u → ∃ n : Int, u = .int .u8 n ∧ l[i]? = some (UInt8.ofNat n.toNat)) →
    (forIn us acc fun (c : Value) (s : ByteArray) => (match c with
      | .int .u8 n => do pure PUnit.unit; pure (ForInStep.yield (s.push (UInt8.ofNat n.toNat)))
      | _ => stuck "bytesToString: byte expected" : Sem (ForInStep ByteArray))).run P w = .ok ⟨acc.data ++ l.toArray⟩ w
  | [], [], acc, w, _, _ => by simp
  | [], _ :: _, _, _, h, _ => by simp at h
  | _ :: _, [], _, _, h, _ => by simp at h
  | u :: us, b :: l, acc, w, h, hu => by
    obtain ⟨n, rfl, hb⟩ := hu 0 u rfl
    simp at hb
    subst hb
    have ih := run_push us l (acc.push (UInt8.ofNat n.toNat)) w (by simpa using h) (fun i u hi => hu (i + 1) u (by simpa using hi))
    simp only [List.forIn_cons, Sem.run_bind, Sem.run_pure, Result.andThen_ok]
    rw [ih]
    congr 2
    simp [ByteArray.push]
theorem run_bytes {xs : List D} {l : List UInt8} (hl : bytesL xs = some l) {w : World} {S : Stb} {sz : Nat} {full : Bool} {v : Value} (h : DR w S (.sl sz full xs) v) : (Conv.bytesToString v).run P w = .ok (.string ⟨l.toArray⟩) w := by
  obtain ⟨e1, e2⟩ := bytesL_cells hl
  cases h with
  | sl _ _ _ a cap b off uf h1 h2 h3 h4 h5 h6 h7 =>
    have hcell : ∀ (i : Nat) (x : D), xs[i]? = some x → sz = 1 ∧ w.cell? ⟨b, off + i, none⟩ = some (uf i 0) ∧ ∃ n : Int, uf i 0 = .int .u8 n ∧ l[i]? = some (UInt8.ofNat n.toNat) := by
      intro i x hx
      obtain ⟨n, rfl, hn⟩ := e2 i x hx
      have hs : sz = 1 := (h5 i _ hx).symm
      subst hs
      have hc := (h6 i _ 0 (.i .u8 n) hx rfl).2.1
      have hd := h7 i _ 0 (.i .u8 n) hx rfl
      refine ⟨rfl, by simpa using hc, n, ?_, hn⟩
      generalize uf i 0 = y at hd ⊢
      cases hd; rfl
    cases a with
    | none =>
      have hx : xs = [] := by
        by_cases hx : xs = []
        · exact hx
        · cases h4 hx
      subst hx
      cases l with
      | nil => simp [Conv.bytesToString]; rfl
      | cons => simp at e1
    | some a =>
      have hload : (loadCells a xs.length).run P w = .ok ((List.range xs.length).map fun i => uf i 0).toArray w := by
        by_cases hx : xs = []
        · subst hx; simp [loadCells, loadCellsFrom]
        · have ha := h4 hx
          cases ha
          have := run_loadCells_list (P := P) w ⟨b, off, none⟩ ((List.range xs.length).map fun i => uf i 0) (fun j y hj => by
            have hjl : j < xs.length := by
              have := (List.getElem?_eq_some_iff.1 hj).1
              simpa using this
            obtain ⟨_, hc, _⟩ := hcell j _ (List.getElem?_eq_getElem hjl)
            simp [hjl] at hj
            subst hj
            simp only [Addr.add]
            split
            · rename_i h0
              subst h0; simpa using hc
            · exact hc)
          simpa using this
      have hp := run_push (P := P) ((List.range xs.length).map fun i => uf i 0) l .empty w (by simp [e1]) (fun i u hu => by
        have hil : i < xs.length := by
          have := (List.getElem?_eq_some_iff.1 hu).1
          simpa using this
        obtain ⟨_, _, n, h8, h9⟩ := hcell i _ (List.getElem?_eq_getElem hil)
        simp [hil] at hu
        subst hu
        exact ⟨n, h8, h9⟩)
      simp only [Conv.bytesToString, Sem.run_bind, hload, Result.andThen_ok]
      rw [← Array.forIn_toList]
      simp only [Sem.run_bind]
      erw [hp]
      simp only [Result.andThen_ok, Sem.run_pure]
      congr 3
      show (#[] : Array UInt8) ++ l.toArray = l.toArray
      simp
theorem aConvert_sound (hT : tokB P T = true) {o : Oper} {src dst : TypeId} {x : Operand} (ho : o.op = .convert src dst x) {xv : V} {bs : List Blk} {ns : List Nat} {K : V → Prop} (hs : ∃ ti, tyOf T src = some ti) (h : aConvert T src dst xv K) :
    ∃ v, K v ∧ OpS P o [xv] ns bs bs v := by
  unfold aConvert at h
  have hargs : opArgs o.op = [x] := by simp [ho, opArgs]
  obtain ⟨tis, hsrc⟩ := hs
  have hsu : ∃ d, P.underlying src = some d := by
    have := tiOk_kind (tyOf_ok hT hsrc)
    cases hu : P.underlying src with
    | some d => exact ⟨d, rfl⟩
    | none => cases hk : tis.kind <;> simp [hk, kindOk, hu] at this
  obtain ⟨ds, hsu⟩ := hsu
  split at h
  · rename_i ti sz full xs hty
    split at h
    · rename_i hk
      obtain ⟨hb, h⟩ := (chkB_iff _ _).1 h
      obtain ⟨e, he1, he2⟩ := byteSlice_some hT hb
      have h := h.elim
      cases hl : bytesL xs with
      | none => rw [hl] at h; exact h.elim
      | some l =>
        rw [hl] at h
        refine ⟨_, h, pure1 hargs fun ρ w S hp β hv => ⟨.string ⟨l.toArray⟩, ?_, .d (.s _)⟩⟩
        generalize ha : ρ x = v at hv
        cases hv with
        | d hd =>
          have hr := run_bytes (P := P) hl hd
          cases hd with
          | sl _ _ _ a cap b off uf =>
            cases a <;> simp [execOp, ho, ha, convert, run_underlying he1, run_underlying he2, run_underlying (kind_string (tyOf_ok hT hty) hk), hr]
    · exact h.elim
  · rename_i ti k n hty
    split at h
    · rename_i kd hk
      refine ⟨_, h.elim, pure1 hargs fun ρ w S hp β hv => ⟨.int kd (kd.wrap n), ?_, .d (.i _ _)⟩⟩
      simp [execOp, ho, int_inv hv, convert, run_underlying hsu, run_underlying (kind_int (tyOf_ok hT hty) hk), Conv.intToInt]
    · exact h.elim
  · rename_i ti b hty
    split at h
    · rename_i hk
      refine ⟨_, h, pure1 hargs fun ρ w S hp β hv => ⟨.string b, ?_, .d (.s _)⟩⟩
      simp [execOp, ho, str_inv hv, convert, run_underlying hsu, run_underlying (kind_string (tyOf_ok hT hty) hk)]
    · exact h.elim
  · exact h.elim
theorem aExtract_sound {o : Oper} {x : Operand} {i : Nat} (ho : o.op = .extract x i) {xv : V} {bs : List Blk} {ns : List Nat} {K : V → Prop} (h : aExtract xv i K) :
    ∃ v, K v ∧ OpS P o [xv] ns bs bs v := by
  unfold aExtract at h
  have hargs : opArgs o.op = [x] := by simp [ho, opArgs]
  split at h
  · rename_i cs
    obtain ⟨y, hy, h⟩ := nthK_iff.1 h
    refine ⟨_, h, pure1 hargs fun ρ w S hp β hv => ?_⟩
    generalize hρ : ρ x = cw at hv
    cases hv with
    | tup _ arr h1 h2 =>
      have hl : i < arr.size := by rw [h1]; exact (List.getElem?_eq_some_iff.1 hy).1
      refine ⟨arr[i], ?_, h2 i y _ hy (Array.getElem?_eq_getElem hl)⟩
      simp [execOp, ho, hρ, Instr.extract, Array.getElem?_eq_getElem hl]
  · exact h.elim
theorem aIndex_sound {o : Oper} {t : TypeId} {x ix : Operand} (hT : tokB P T = true) (ho : o.op = .index t x ix) {xv iv : V} {bs : List Blk} {ns : List Nat} {K : V → Prop} (hs : ∃ ti, tyOf T t = some ti ∧ ti.kind = .string) (h : aIndex xv iv K) :
    ∃ v, K v ∧ OpS P o [xv, iv] ns bs bs v := by
  unfold aIndex at h
  have hargs : opArgs o.op = [x, ix] := by simp [ho, opArgs]
  obtain ⟨ti, hty, hk⟩ := hs
  have hu := kind_string (tyOf_ok hT hty) hk
  split at h
  · rename_i b k n
    replace h := h.elim
    obtain ⟨h0, h⟩ := h
    obtain ⟨y, hy, h⟩ := nthK_iff.1 h
    refine ⟨_, h, pure2 hargs fun ρ w S hp β hv hi => ⟨.int .u8 y.toNat, ?_, .d (.i _ _)⟩⟩
    have hb : b[n.toNat]? = some y := by
      have hl : n.toNat < b.data.size := by simpa using (List.getElem?_eq_some_iff.1 hy).1
      have hl' : n.toNat < b.size := hl
      rw [getElem?_pos b n.toNat hl']
      have := (List.getElem?_eq_some_iff.1 hy).2
      simp only [Array.getElem_toList] at this
      rw [← this]; rfl
    simp [execOp, ho, str_inv hv, int_inv hi, Instr.index, run_asIntOf, run_underlying hu, h0, hb]
  · exact h.elim
theorem aIndexArr_sound {o : Oper} {t : TypeId} {x ix : Operand} (hT : tokB P T = true) (ho : o.op = .index t x ix) {xv iv : V} {bs : List Blk} {ns : List Nat} {K : V → Prop} (h : aIndexArr T t xv iv K) :
    ∃ v, K v ∧ OpS P o [xv, iv] ns bs bs v := by
  unfold aIndexArr at h
  have hargs : opArgs o.op = [x, ix] := by simp [ho, opArgs]
  split at h
  · rename_i ti cs k n hty
    have hti := tyOf_ok hT hty
    split at h
    · rename_i len e hk
      cases hte : tyOf T e with
      | none => simp [hte] at h
      | some te =>
        have hteo := tyOf_ok hT hte
        simp only [hte] at h
        replace h := (chkB_iff _ _).1 h
        obtain ⟨hc, h⟩ := h
        simp only [Bool.and_eq_true, Bool.not_eq_true'] at hc
        obtain ⟨hag, hsz⟩ := hc
        have hsz := Nat.eq_of_beq_eq_true hsz
        replace h := h.elim
        obtain ⟨⟨h0, h1⟩, h⟩ := h
        obtain ⟨y, hy, h⟩ := nthK_iff.1 h
        refine ⟨_, h, pure2 hargs fun ρ w S hp β hv hi => ?_⟩
        generalize ha : ρ x = u at hv
        cases hv with
        | d hd => cases hd with
          | agg _ arr a1 a2 a3 =>
            have hl : n.toNat < arr.size := by rw [a1]; exact (List.getElem?_eq_some_iff.1 hy).1
            have hg := Array.getElem?_eq_getElem hl
            have hsize : (sizeOf e).run P w = .ok 1 w := by
              have := run_sizeOf' (P := P) hteo (w := w)
              rwa [hsz] at this
            have hp' := run_part_one (P := P) hteo hag w (cs := arr) (off := n.toNat * 1) (v := arr[n.toNat]) (by rw [Nat.mul_one]; exact hg)
            refine ⟨arr[n.toNat], ?_, .d (a3 _ y _ hy hg)⟩
            simp only [execOp, ho, ha, int_inv hi, Instr.index, Sem.run_bind, run_asIntOf, Result.andThen_ok, run_underlying (kind_arr hti hk), h0, h1, and_self, if_true, hsize, hp', Sem.run_pure]
    · exact h.elim
  · exact h.elim
theorem aMM_det {mx : Bool} {k : IntKind} {K : V → Prop} : ∀ (l : List V) (x : Int), aMM mx k x l K → ∃ r, K (.d (.i k r)) ∧ ∀ (w : World) (S : Stb) (hp : Hp) (β : Bet) (us : List Value), us.length = l.length →
    (∀ (i : Nat) (v : V) (u : Value), l[i]? = some v → us[i]? = some u → VR w S hp β v u) → (us.foldlM (if mx then Builtin.max2 else Builtin.min2) (.int k x)).run P w = .ok (.int k r) w
  | [], x, h => ⟨x, by simpa [aMM] using h, fun w S hp β us hl _ => by
      have : us = [] := List.eq_nil_of_length_eq_zero (by simpa using hl)
      subst this; simp⟩
  | v :: l, x, h => by
    cases v with
    | d y => cases y with
      | i k' y =>
        simp only [aMM] at h
        cases mx with
        | true =>
          simp only [] at h
          obtain ⟨r, hr, h2⟩ := aMM_det l _ h
          refine ⟨r, hr, fun w S hp β us hl hv => ?_⟩
          match us, hl with
          | u :: us, hl =>
            have := int_inv (hv 0 _ u rfl rfl)
            subst this
            simp only [List.foldlM_cons, Sem.run_bind, if_true, Builtin.max2, Sem.run_pure, Result.andThen_ok]
            have := h2 w S hp β us (by simpa using hl) (fun i v u hi hu => hv (i + 1) v u (by simpa using hi) (by simpa using hu))
            simpa using this
        | false =>
          simp only [] at h
          obtain ⟨r, hr, h2⟩ := aMM_det l _ h
          refine ⟨r, hr, fun w S hp β us hl hv => ?_⟩
          match us, hl with
          | u :: us, hl =>
            have := int_inv (hv 0 _ u rfl rfl)
            subst this
            simp only [List.foldlM_cons, Sem.run_bind, Bool.false_eq_true, if_false, Builtin.min2, Sem.run_pure, Result.andThen_ok]
            have := h2 w S hp β us (by simpa using hl) (fun i v u hi hu => hv (i + 1) v u (by simpa using hi) (by simpa using hu))
            simpa using this
      | _ => simp [aMM] at h
    | _ => simp [aMM] at h
theorem OR.vals {w : World} {S : Stb} {h : Hp} {β : Bet} {ρ : Operand → Value} {xs : List Operand} {vs : List V} (ho : OR w S h β ρ xs vs) : (xs.map ρ).length = vs.length ∧
    ∀ (i : Nat) (v : V) (u : Value), vs[i]? = some v → (xs.map ρ)[i]? = some u → VR w S h β v u := by
  refine ⟨by simpa using ho.1, fun i v u hv hu => ?_⟩
  simp only [List.getElem?_map, Option.map_eq_some_iff] at hu
  obtain ⟨x, hx, rfl⟩ := hu
  exact ho.2 i x v hx hv
theorem aMinMax_sound {o : Oper} {c : Call} {mx : Bool} (ho : o.op = .call c) (hc : c.callee = .builtin (if mx then .max else .min)) {vs : List V} {bs : List Blk} {ns : List Nat} {K : V → Prop} (h : aMinMax mx vs K) :
    ∃ v, K v ∧ OpS P o vs ns bs bs v := by
  unfold aMinMax at h
  split at h
  · rename_i k x l
    obtain ⟨r, hk, hr⟩ := aMM_det (P := P) l x h
    refine ⟨_, hk, OpS.pure fun ρ w S hp β _ hor _ => ⟨.value (.int k r), .int k r, ?_, .inl rfl, .d (.i _ _)⟩⟩
    have hor' : OR w S hp β ρ c.args.toList (.d (.i k x) :: l) := by simpa [ho, opArgs] using hor
    obtain ⟨g1, g2⟩ := hor'.vals
    match hm : c.args.toList.map ρ, g1 with
    | u :: us, g1 =>
      rw [hm] at g2
      have := int_inv (g2 0 _ u rfl rfl)
      subst this
      have hf := hr w S hp β us (by simpa using g1) (fun i v u hi hu => g2 (i + 1) v u (by simpa using hi) (by simpa using hu))
      have ha : (c.args.map ρ).toList = .int k x :: us := by simpa using hm
      cases mx with
      | true =>
        simp only [if_true] at hf hc
        simp [execOp, ho, resolve, hc, invoke, builtin, Builtin.max_, hm, hf]
      | false =>
        simp only [Bool.false_eq_true, if_false] at hf hc
        simp [execOp, ho, resolve, hc, invoke, builtin, Builtin.min_, hm, hf]
  · exact h.elim
theorem aMakeFunc_sound {o : Oper} {f : FuncId} {first captured : Array Operand} (ho : o.op = .makeFunc (.func f) first captured) (h1 : first.toList = []) {vs : List V} {bs : List Blk} {ns : List Nat} : OpS P o vs ns bs bs (.fn f vs) := by
  refine OpS.pure fun ρ w S hp β _ hor _ => ?_
  have hor' : OR w S hp β ρ captured.toList vs := by simpa [ho, opArgs] using hor
  obtain ⟨g1, g2⟩ := hor'.vals
  have h1' : first = #[] := by cases first; simp_all
  subst h1'
  refine ⟨_, .func (.func f) #[] (captured.map ρ), by simp [execOp, ho, Instr.makeFunc], .inl rfl, .fn f vs _ (by simpa using g1) fun j c u hc hu => g2 j c u hc (by simpa using hu)⟩
theorem aLen_sound {o : Oper} {c : Call} (hT : tokB P T = true) (ho : o.op = .call c) (hc : c.callee = .builtin .len) {av : V} {t : TypeId} {ti : TI} (ht : c.argTypes.toList[0]? = some t) (hty : tyOf T t = some ti)
    (hk : match av with | .d (.sl ..) => ∃ e, ti.kind = .slice e | .d (.s _) => ti.kind = .string | .sref .. => ∃ e, ti.kind = .slice e | .map _ => ∃ k e, ti.kind = .map k e | _ => False)
    {bs : List Blk} {K : Kt} (h : aLen av bs K) :
    ∃ v, K v bs ∧ OpS P o [av] (lenN av) bs bs v := by
  have hti := tyOf_ok hT hty
  have hexec : ∀ (ρ : Operand → Value) (w : World) (x : Operand) (cv : Value), c.args.toList = [x] → (∀ ty, (Builtin.len_ c.argTypes ty #[ρ x]).run P w = .ok cv w) → (execOp ρ o).run P w = .ok (.value cv) w := by
    intro ρ w x cv ha hr
    have ha' : c.args = #[x] := by cases hh : c.args; simp_all
    simp [execOp, ho, resolve, hc, invoke, builtin, ha', hr]
  have ht' : c.argTypes[0]? = some t := by simpa using ht
  have harg : ∀ {w : World} {S : Stb} {hp : Hp} {β : Bet} {ρ : Operand → Value}, OR w S hp β ρ (opArgs o.op) [av] → ∃ x, c.args.toList = [x] ∧ VR w S hp β av (ρ x) := by
    intro w S hp β ρ hor
    have hor' : OR w S hp β ρ c.args.toList [av] := by simpa [ho, opArgs] using hor
    match hm : c.args.toList, hor'.1 with
    | [x], _ => exact ⟨x, rfl, by rw [hm] at hor'; exact hor'.one⟩
  unfold aLen at h
  split at h
  · obtain ⟨e, hk⟩ := hk
    refine ⟨_, h.elim, OpS.pure fun ρ w S hp β _ hor _ => ?_⟩
    obtain ⟨x, hx, hv⟩ := harg hor
    generalize hρ : ρ x = cw at hv
    cases hv with
    | d hd => cases hd with
      | sl _ _ _ a cap => exact ⟨_, _, hexec ρ w x _ hx (fun ty => by simp [Builtin.len_, ht', run_underlying (kind_slice hti hk), hρ, goInt]), .inl rfl, .d (.i _ _)⟩
  · refine ⟨_, h, OpS.pure fun ρ w S hp β _ hor _ => ?_⟩
    obtain ⟨x, hx, hv⟩ := harg hor
    exact ⟨_, _, hexec ρ w x _ hx (fun ty => by simp [Builtin.len_, ht', run_underlying (kind_string hti hk), str_inv hv, goInt]), .inl rfl, .d (.i _ _)⟩
  · obtain ⟨e, hk⟩ := hk
    refine ⟨_, h, OpS.pure fun ρ w S hp β _ hor _ => ?_⟩
    obtain ⟨x, hx, hv⟩ := harg hor
    generalize hρ : ρ x = cw at hv
    cases hv with
    | sref g0 g =>
      obtain ⟨a, cap, rfl, _⟩ := g
      exact ⟨_, _, hexec ρ w x _ hx (fun ty => by simp [Builtin.len_, ht', run_underlying (kind_slice hti hk), hρ, goInt]), .inl rfl, .d (.i _ _)⟩
  · rename_i n T' kt es
    obtain ⟨k, e, hk⟩ := hk
    refine ⟨_, h.elim, OpS.pure fun ρ w S hp β hr hor hb => ?_⟩
    obtain ⟨x, hx, hv⟩ := harg hor
    have hn : hp[n]? = some (.map T' kt es) := by simpa [lenN] using hb 0 n rfl
    obtain ⟨b, mes, clock, h1, h2, h3, _⟩ := hr.blk n _ hn
    generalize hρ : ρ x = cw at hv
    cases hv with
    | map g1 g2 =>
      have := g2 (by rw [hn]; simp)
      rw [h1] at this; simp at this; subst this
      exact ⟨_, .int .i64 es.length, hexec ρ w x _ hx (fun ty => by simp [Builtin.len_, ht', run_underlying (kind_map hti hk), hρ, goInt, getObj, Sem.run, h2, h3]), .inl rfl, .d (.i _ _)⟩
  · exact h.elim
end Go.PM
