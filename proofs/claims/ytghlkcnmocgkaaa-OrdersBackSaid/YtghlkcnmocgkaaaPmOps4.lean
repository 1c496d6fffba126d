/-
  PM, part 8: operations: arithmetic, comparisons, composites, lengths, closures, tuples.
-/
import Derived.Test.YtghlkcnmocgkaaaPmOps3
set_option linter.unusedSectionVars false
namespace Go.PM
variable [Glob]
variable {P : Program} {T : TT}

theorem int_inv {w : World} {S : Stb} {hp : Hp} {β : Bet} {k : IntKind} {n : Int} {cv : Value} (h : VR w S hp β (.d (.i k n)) cv) : cv = .int k n := by
  cases h with
  | d hd => cases hd; rfl
theorem bool_inv {w : World} {S : Stb} {hp : Hp} {β : Bet} {x : Bool} {cv : Value} (h : VR w S hp β (.d (.b x)) cv) : cv = .bool x := by
  cases h with
  | d hd => cases hd; rfl
theorem str_inv {w : World} {S : Stb} {hp : Hp} {β : Bet} {x : ByteArray} {cv : Value} (h : VR w S hp β (.d (.s x)) cv) : cv = .string x := by
  cases h with
  | d hd => cases hd; rfl

/-- A scalar's value. -/
def dv : D → Value
  | .b x => .bool x
  | .i k n => .int k n
  | .s x => .string x
  | _ => undef

theorem intOp_det {op : BinOp} {kd : IntKind} {x y : Int} {K : D → Prop} (h : intOp op kd x y K) : ∃ r, K r ∧ ∀ (t : TypeId) (ox oy : Operand) (w : World),
    (do eqGuard op t ox oy (.int kd x) (.int kd y); binOp op t (.int kd x) (.int kd y) : Sem Value).run P w = .ok (dv r) w ∧ ∀ S, DR w S r (dv r) := by
  unfold intOp at h
  split at h
  · exact ⟨_, h.elim, fun t ox oy w => ⟨by simp [eqGuard_at_int, binOp, Op.intArith, dv], fun S => .i _ _⟩⟩
  · exact ⟨_, h.elim, fun t ox oy w => ⟨by simp [eqGuard_at_int, binOp, Op.intArith, dv], fun S => .i _ _⟩⟩
  · exact ⟨_, h.elim, fun t ox oy w => ⟨by simp [eqGuard_at_int, binOp, Op.intArith, dv], fun S => .i _ _⟩⟩
  · exact ⟨_, h.elim, fun t ox oy w => ⟨by rw [show decide (x = y) = (x == y) by rw [Bool.eq_iff_iff]; simp]; simp [eqGuard_at_int, binOp, Op.intArith, Op.intCmp, dv], fun S => .b _⟩⟩
  · exact ⟨_, h.elim, fun t ox oy w => ⟨by rw [show (!(decide (x = y))) = (x != y) by rw [Bool.eq_iff_iff]; simp]; simp [eqGuard_at_int, binOp, Op.intArith, Op.intCmp, dv], fun S => .b _⟩⟩
  · exact ⟨_, h.elim, fun t ox oy w => ⟨by simp [eqGuard_at_int, binOp, Op.intArith, Op.intCmp, dv], fun S => .b _⟩⟩
  · exact ⟨_, h.elim, fun t ox oy w => ⟨by simp [eqGuard_at_int, binOp, Op.intArith, Op.intCmp, dv], fun S => .b _⟩⟩
  · exact ⟨_, h.elim, fun t ox oy w => ⟨by simp [eqGuard_at_int, binOp, Op.intArith, Op.intCmp, dv], fun S => .b _⟩⟩
  · exact ⟨_, h.elim, fun t ox oy w => ⟨by simp [eqGuard_at_int, binOp, Op.intArith, Op.intCmp, dv], fun S => .b _⟩⟩
  · obtain ⟨hy, h⟩ := h.elim
    exact ⟨_, h.elim, fun t ox oy w => ⟨by simp [eqGuard_at_int, binOp, Op.intDiv, hy, dv], fun S => .i _ _⟩⟩
  · obtain ⟨hy, h⟩ := h.elim
    exact ⟨_, h, fun t ox oy w => ⟨by simp [eqGuard_at_int, binOp, Op.intDiv, hy, dv], fun S => .i _ _⟩⟩
  · exact ⟨_, h, fun t ox oy w => ⟨by simp [eqGuard_at_int, binOp, Op.intBits, bitsOp, dv], fun S => .i _ _⟩⟩
  · exact ⟨_, h, fun t ox oy w => ⟨by simp [eqGuard_at_int, binOp, Op.intBits, bitsOp, dv], fun S => .i _ _⟩⟩
  · exact ⟨_, h, fun t ox oy w => ⟨by simp [eqGuard_at_int, binOp, Op.intBits, bitsOp, dv], fun S => .i _ _⟩⟩
  · exact ⟨_, h, fun t ox oy w => ⟨by simp [eqGuard_at_int, binOp, Op.intBits, bitsOp, dv], fun S => .i _ _⟩⟩
  · exact h.elim

theorem shOp_det {op : BinOp} {kd k2 : IntKind} {x y : Int} {K : D → Prop} (h : shOp op kd x y K) : ∃ r, K r ∧ ∀ (t : TypeId) (ox oy : Operand) (w : World),
    (do eqGuard op t ox oy (.int kd x) (.int k2 y); binOp op t (.int kd x) (.int k2 y) : Sem Value).run P w = .ok (dv r) w ∧ ∀ S, DR w S r (dv r) := by
  unfold shOp at h
  split at h
  · obtain ⟨hy, h⟩ := h.elim
    exact ⟨_, h.elim, fun t ox oy w => ⟨by simp [eqGuard, binOp, Op.shift, show ¬ y < 0 by omega, dv], fun S => .i _ _⟩⟩
  · obtain ⟨hy, h⟩ := h.elim
    exact ⟨_, h, fun t ox oy w => ⟨by simp [eqGuard, binOp, Op.shift, show ¬ y < 0 by omega, dv], fun S => .i _ _⟩⟩
  · exact h.elim

theorem strOp_det {op : BinOp} {x y : ByteArray} {K : D → Prop} (h : strOp op x y K) : ∃ r, K r ∧ ∀ (t : TypeId) (ox oy : Operand) (w : World),
    (do eqGuard op t ox oy (.string x) (.string y); binOp op t (.string x) (.string y) : Sem Value).run P w = .ok (dv r) w ∧ ∀ S, DR w S r (dv r) := by
  have hg : eqGuard op 0 (.tmp 0) (.tmp 0) (.string x) (.string y) = pure () := by cases op <;> rfl
  have hg : ∀ t ox oy, eqGuard op t ox oy (.string x) (.string y) = pure () := fun t ox oy => by cases op <;> rfl
  unfold strOp at h
  split at h
  · exact ⟨_, h.elim, fun t ox oy w => ⟨by rw [show decide (x.toList = y.toList) = (x.toList == y.toList) by rw [Bool.eq_iff_iff]; simp]; simp [hg, binOp, Op.stringOp, dv], fun S => .b _⟩⟩
  · exact ⟨_, h.elim, fun t ox oy w => ⟨by rw [show (!(decide (x.toList = y.toList))) = !(x.toList == y.toList) by rw [Bool.eq_iff_iff]; simp]; simp [hg, binOp, Op.stringOp, dv], fun S => .b _⟩⟩
  · exact ⟨_, h, fun t ox oy w => ⟨by simp [hg, binOp, Op.stringOp, dv], fun S => .b _⟩⟩
  · exact ⟨_, h, fun t ox oy w => ⟨by simp [hg, binOp, Op.stringOp, dv], fun S => .b _⟩⟩
  · exact ⟨_, h, fun t ox oy w => ⟨by simp [hg, binOp, Op.stringOp, dv], fun S => .b _⟩⟩
  · exact ⟨_, h, fun t ox oy w => ⟨by simp [hg, binOp, Op.stringOp, dv], fun S => .b _⟩⟩
  · exact h.elim

/-! ### Equality at plain types -/

theorem litOk1_bool {xs : List D} (h : litOk1 .bool xs = true) : ∃ x, xs = [.b x] := by
  match xs with
  | [.b x] => exact ⟨x, rfl⟩
  | [] | [.i _ _] | [.s _] | [.k _] | [.agg _] | [.sl _ _ _] | _ :: _ :: _ => simp [litOk1] at h
theorem litOk1_int {k : IntKind} {xs : List D} (h : litOk1 (.int k) xs = true) : ∃ x, xs = [.i k x] := by
  match xs with
  | [.i k' x] => simp [litOk1] at h; subst h; exact ⟨x, rfl⟩
  | [] | [.b _] | [.s _] | [.k _] | [.agg _] | [.sl _ _ _] | _ :: _ :: _ => simp [litOk1] at h
theorem litOk1_string {xs : List D} (h : litOk1 .string xs = true) : ∃ x, xs = [.s x] := by
  match xs with
  | [.s x] => exact ⟨x, rfl⟩
  | [] | [.b _] | [.i _ _] | [.k _] | [.agg _] | [.sl _ _ _] | _ :: _ :: _ => simp [litOk1] at h
theorem litOk1_no {kd : TK} {xs : List D} (h : litOk1 kd xs = true) : kd = .bool ∨ (∃ k, kd = .int k) ∨ kd = .string := by
  unfold litOk1 at h
  split at h
  · exact .inl rfl
  · exact .inr (.inl ⟨_, rfl⟩)
  · exact .inr (.inr rfl)
  · cases h

theorem run_equalIn_fs {n d : Nat} (ih : ∀ (t : TypeId) (xs ys : List D), litOk T n t xs = true → litOk T n t ys = true → ∀ (w : World) (S : Stb) (ti : TI), tyOf T t = some ti →
      (isAggT ti = true → ∀ (a b : Array Value), (∀ (j : Nat) (c : D) (y : Value), xs[j]? = some c → a[j]? = some y → DR w S c y) → (∀ (j : Nat) (c : D) (y : Value), ys[j]? = some c → b[j]? = some y → DR w S c y) → a.size = xs.length → b.size = ys.length →
        (Op.equalIn d t (.agg a) (.agg b)).run P w = .ok (eqD T n t xs ys) w) ∧
      (isAggT ti = false → ∀ (u v : Value), (∀ c, xs = [c] → DR w S c u) → (∀ c, ys = [c] → DR w S c v) → (Op.equalIn d t u v).run P w = .ok (eqD T n t xs ys) w))
    (hT : tokB P T = true) {xs ys : List D} {w : World} {S : Stb} {a b : Array Value} (hxa : ∀ (j : Nat) (c : D) (y : Value), xs[j]? = some c → a[j]? = some y → DR w S c y) (hyb : ∀ (j : Nat) (c : D) (y : Value), ys[j]? = some c → b[j]? = some y → DR w S c y)
    (ha : a.size = xs.length) (hb : b.size = ys.length) :
    ∀ (fs : List (Nat × TypeId)) (fields : List Field) (off : Nat), fieldsOk P fs fields = true → litOkFs T (litOk T n) xs off fs = true → litOkFs T (litOk T n) ys off fs = true →
      (Op.eqFields d a b fields).run P w = .ok (eqFs T (eqD T n) xs ys fs) w
  | [], [], _, _, _, _ => by simp [Op.eqFields, eqFs]
  | [], _ :: _, _, h, _, _ => by simp [fieldsOk] at h
  | _ :: _, [], _, h, _, _ => by simp [fieldsOk] at h
  | p :: fs, f :: fields, off, h, hx, hy => by
    simp only [fieldsOk, Bool.and_eq_true, decide_eq_true_eq] at h
    obtain ⟨⟨⟨⟨h1, h2⟩, h3⟩, h4⟩, h5⟩ := h
    simp only [litOkFs] at hx hy
    cases hty : tyOf T p.2 with
    | none => simp [hty] at hx
    | some ti =>
      have hti := tyOf_ok hT hty
      simp only [hty, Bool.and_eq_true] at hx hy
      obtain ⟨⟨⟨hx0, hx1⟩, hx2⟩, hx3⟩ := hx
      obtain ⟨⟨⟨_, hy1⟩, hy2⟩, hy3⟩ := hy
      have hx0 := Nat.eq_of_beq_eq_true hx0
      subst hx0
      have hx1 := Nat.le_of_ble_eq_true hx1
      have hy1 := Nat.le_of_ble_eq_true hy1
      have rest := run_equalIn_fs ih hT hxa hyb ha hb fs fields _ h5 hx3 hy3
      obtain ⟨i1, i2⟩ := ih p.2 _ _ hx2 hy2 w S ti hty
      have sub : ∀ {zs : List D} {c : Array Value} (hl : c.size = zs.length) (hz1 : p.1 + ti.size ≤ zs.length) (hzc : ∀ (j : Nat) (x : D) (y : Value), zs[j]? = some x → c[j]? = some y → DR w S x y),
          (c.extract p.1 (p.1 + ti.size)).size = ((zs.drop p.1).take ti.size).length ∧ ∀ (j : Nat) (x : D) (y : Value), ((zs.drop p.1).take ti.size)[j]? = some x → (c.extract p.1 (p.1 + ti.size))[j]? = some y → DR w S x y := by
        intro zs c hl hz1 hzc
        refine ⟨by simp; omega, fun j x y hj hjy => ?_⟩
        have hj' := part_get hj
        have hjn : j < ti.size := by rw [List.getElem?_take] at hj; split at hj <;> first | assumption | cases hj
        have := extract_get c p.1 ti.size j (by omega)
        rw [if_pos hjn, Array.getElem?_toList, hjy] at this
        exact hzc _ x y hj' this.symm
      have step : ∃ (pa pb : Value), (part f.type a f.offset).run P w = .ok pa w ∧ (part f.type b f.offset).run P w = .ok pb w ∧ (Op.equalIn d f.type pa pb).run P w = .ok (eqD T n p.2 ((xs.drop p.1).take ti.size) ((ys.drop p.1).take ti.size)) w := by
        rw [← h1, ← h2]
        cases hag : isAggT ti with
        | true =>
          obtain ⟨s1, s2⟩ := sub ha hx1 hxa
          obtain ⟨s3, s4⟩ := sub hb hy1 hyb
          exact ⟨_, _, run_part_agg hti hag w a _, run_part_agg hti hag w b _, i1 hag _ _ s2 s4 s1 s3⟩
        | false =>
          have hs : ti.size ≠ 0 := by
            obtain ⟨i, z, hi⟩ := tiOk_info hti
            unfold Program.cellsOf at h4
            rw [← h2, hi.info] at h4
            simp [hi.size] at h4
            exact h4
          have g1 : p.1 < a.size := by omega
          have g2 : p.1 < b.size := by omega
          have e1 := run_part_one (P := P) hti hag w (Array.getElem?_eq_getElem g1)
          have e2 := run_part_one (P := P) hti hag w (Array.getElem?_eq_getElem g2)
          refine ⟨_, _, e1, e2, i2 hag _ _ (fun c hc => ?_) (fun c hc => ?_)⟩
          · have : xs[p.1 + 0]? = some c := part_get (by rw [hc]; rfl)
            exact hxa _ c _ this (Array.getElem?_eq_getElem g1)
          · have : ys[p.1 + 0]? = some c := part_get (by rw [hc]; rfl)
            exact hyb _ c _ this (Array.getElem?_eq_getElem g2)
      obtain ⟨pa, pb, e1, e2, e3⟩ := step
      simp only [Op.eqFields, if_pos h3, Sem.run_bind, e1, e2, e3, Result.andThen_ok, eqFs, hty]
      cases eqD T n p.2 ((xs.drop p.1).take ti.size) ((ys.drop p.1).take ti.size)
      · simp
      · simp [rest]

theorem run_equalIn_lit (hT : tokB P T = true) : ∀ (n d : Nat), n ≤ d → ∀ (t : TypeId) (xs ys : List D), litOk T n t xs = true → litOk T n t ys = true → ∀ (w : World) (S : Stb) (ti : TI), tyOf T t = some ti →
      (isAggT ti = true → ∀ (a b : Array Value), (∀ (j : Nat) (c : D) (y : Value), xs[j]? = some c → a[j]? = some y → DR w S c y) → (∀ (j : Nat) (c : D) (y : Value), ys[j]? = some c → b[j]? = some y → DR w S c y) → a.size = xs.length → b.size = ys.length →
        (Op.equalIn d t (.agg a) (.agg b)).run P w = .ok (eqD T n t xs ys) w) ∧
      (isAggT ti = false → ∀ (u v : Value), (∀ c, xs = [c] → DR w S c u) → (∀ c, ys = [c] → DR w S c v) → (Op.equalIn d t u v).run P w = .ok (eqD T n t xs ys) w)
  | 0, d, _, t, xs, ys, h, _, _, _, _, _ => by simp [litOk] at h
  | n + 1, 0, h, _, _, _, _, _, _, _, _, _ => by omega
  | n + 1, d + 1, hnd, t, xs, ys, hx, hy, w, S, ti, hty => by
    have hti := tyOf_ok hT hty
    simp only [litOk, hty] at hx hy
    simp only [eqD, hty]
    refine ⟨fun ha a b hxa hyb hla hlb => ?_, fun ha u v hu hv => ?_⟩
    · cases hk : ti.kind with
      | str fs =>
        simp only [hk] at hx hy ⊢
        obtain ⟨fields, f1, f2, f3, _⟩ := kind_str hti hk
        rw [run_equalIn_struct w d t a b (by simp [Program.fieldsOf, f1]) f3]
        have : P.fieldsOf t = fields := by simp [Program.fieldsOf, f1]
        rw [this]
        exact run_equalIn_fs (run_equalIn_lit hT n d (by omega)) hT hxa hyb hla hlb fs fields.toList 0 f2 hx hy
      | arr m e => simp [hk, litOk1] at hx
      | _ => simp [isAggT, hk] at ha
    · cases hk : ti.kind with
      | str fs => simp [isAggT, hk] at ha
      | bool =>
        simp only [hk] at hx hy ⊢
        obtain ⟨x, rfl⟩ := litOk1_bool hx
        obtain ⟨y, rfl⟩ := litOk1_bool hy
        have := hu _ rfl; cases this
        have := hv _ rfl; cases this
        simp [Op.equalIn, run_underlying (kind_bool hti hk), eq1]
      | int k =>
        simp only [hk] at hx hy ⊢
        obtain ⟨x, rfl⟩ := litOk1_int hx
        obtain ⟨y, rfl⟩ := litOk1_int hy
        have := hu _ rfl; cases this
        have := hv _ rfl; cases this
        simp [Op.equalIn, run_underlying (kind_int hti hk), eq1]
      | string =>
        simp only [hk] at hx hy ⊢
        obtain ⟨x, rfl⟩ := litOk1_string hx
        obtain ⟨y, rfl⟩ := litOk1_string hy
        have := hu _ rfl; cases this
        have := hv _ rfl; cases this
        simp [Op.equalIn, run_underlying (kind_string hti hk), eq1, beq_toListBytes]
      | arr m e => simp [hk, litOk1] at hx
      | slice e => simp [hk, litOk1] at hx
      | map k e => simp [hk, litOk1] at hx
      | other => simp [hk, litOk1] at hx

theorem aBin_sound (hT : tokB P T = true) {o : Oper} {op : BinOp} {t yt : TypeId} {x y : Operand} (ho : o.op = .binOp op t x y yt) {xv yv : V} {bs : List Blk} {ns : List Nat} {K : V → Prop} (h : aBin T op t xv yv K) :
    ∃ v, K v ∧ OpS P o [xv, yv] ns bs bs v := by
  unfold aBin at h
  have hargs : opArgs o.op = [x, y] := by simp [ho, opArgs]
  have hexec : ∀ (ρ : Operand → Value) (w : World) (u v cv : Value), ρ x = u → ρ y = v → (do eqGuard op t x y u v; binOp op t u v : Sem Value).run P w = .ok cv w → (execOp ρ o).run P w = .ok (.value cv) w := by
    intro ρ w u v cv h1 h2 h3
    simp only [execOp, ho, h1, h2]
    simp only [Sem.run_bind] at h3 ⊢
    rw [h3]; rfl
  split at h
  · rename_i j a k b
    split at h
    · obtain ⟨r, hk, hr⟩ := shOp_det (P := P) (k2 := k) h
      refine ⟨_, hk, pure2 hargs fun ρ w S hp β hu hv => ?_⟩
      exact ⟨_, hexec ρ w _ _ _ (int_inv hu) (int_inv hv) (hr t x y w).1, .d ((hr t x y w).2 S)⟩
    replace h := (chkB_iff _ _).1 h
    obtain ⟨hjk, h⟩ := h
    have hjk := of_decide_eq_true hjk
    subst hjk
    obtain ⟨r, hk, hr⟩ := intOp_det (P := P) h
    refine ⟨_, hk, pure2 hargs fun ρ w S hp β hu hv => ?_⟩
    exact ⟨_, hexec ρ w _ _ _ (int_inv hu) (int_inv hv) (hr t x y w).1, .d ((hr t x y w).2 S)⟩
  · rename_i a b
    obtain ⟨r, hk, hr⟩ := strOp_det (P := P) h
    refine ⟨_, hk, pure2 hargs fun ρ w S hp β hu hv => ?_⟩
    exact ⟨_, hexec ρ w _ _ _ (str_inv hu) (str_inv hv) (hr t x y w).1, .d ((hr t x y w).2 S)⟩
  · rename_i a b
    replace h := (chkB_iff _ _).1 h
    obtain ⟨hl, h⟩ := h
    simp only [Bool.and_eq_true, Bool.not_eq_true'] at hl
    obtain ⟨hl, hag⟩ := hl
    have hti : ∃ ti, tyOf T t = some ti := by
      simp only [litOk] at hl
      cases hty : tyOf T t with
      | none => simp [hty] at hl
      | some ti => exact ⟨ti, rfl⟩
    obtain ⟨ti, hty⟩ := hti
    have htk := tyOf_ok hT hty
    have hb : P.underlying t = some .bool := by
      simp only [litOk, hty] at hl
      simp only [aggTy, hty] at hag
      cases hk : ti.kind with
      | bool => exact kind_bool htk hk
      | str fs => simp [isAggT, hk] at hag
      | _ => simp [hk, litOk1] at hl
    cases op <;> first | exact h.elim | skip
    · have e : decide (a = b) = (a == b) := by rw [Bool.eq_iff_iff]; simp
      refine ⟨_, h.elim, pure2 hargs fun ρ w S hp β hu hv => ⟨.bool (decide (a = b)), hexec ρ w _ _ _ (bool_inv hu) (bool_inv hv) ?_, .d (.b _)⟩⟩
      rw [e]; simp only [eqGuard_at_bool, binOp, Op.equal, Sem.run_bind, Sem.run_pure, Result.andThen_ok, show Op.maxDepth = 9999 + 1 from rfl, run_equalIn_bool' w 9999 t a b hb]
    · have e : decide (a = b) = (a == b) := by rw [Bool.eq_iff_iff]; simp
      refine ⟨_, h.elim, pure2 hargs fun ρ w S hp β hu hv => ⟨.bool (!(decide (a = b))), hexec ρ w _ _ _ (bool_inv hu) (bool_inv hv) ?_, .d (.b _)⟩⟩
      rw [e]; simp only [eqGuard_at_bool, binOp, Op.equal, Sem.run_bind, Sem.run_pure, Result.andThen_ok, show Op.maxDepth = 9999 + 1 from rfl, run_equalIn_bool' w 9999 t a b hb]
  · rename_i xs ys
    replace h := (chkB_iff _ _).1 h
    obtain ⟨hl, h⟩ := h
    simp only [Bool.and_eq_true] at hl
    obtain ⟨hagg, hl1, hl2⟩ := hl
    have hti : ∃ ti, tyOf T t = some ti := by
      simp only [litOk] at hl1
      cases hty : tyOf T t with
      | none => simp [hty] at hl1
      | some ti => exact ⟨ti, rfl⟩
    obtain ⟨ti, hty⟩ := hti
    have htk := tyOf_ok hT hty
    have key : ∀ (ρ : Operand → Value) (w : World) (S : Stb) (hp : Hp) (β : Bet), VR w S hp β (.d (.agg xs)) (ρ x) → VR w S hp β (.d (.agg ys)) (ρ y) → ∃ a b, ρ x = .agg a ∧ ρ y = .agg b ∧ (Op.equalIn 10000 t (.agg a) (.agg b)).run P w = .ok (eqD T 4 t xs ys) w ∧ P.eqGuardType P.depth t = false := by
      intro ρ w S hp β hu hv
      generalize ρ x = cu at hu ⊢
      generalize ρ y = cv at hv ⊢
      cases hu with
      | d hd => cases hd with
        | agg _ a a1 a2 a3 => cases hv with
          | d he => cases he with
            | agg _ b b1 b2 b3 =>
              cases hag : isAggT ti with
              | true =>
                have := (run_equalIn_lit hT 4 10000 (by omega) t xs ys hl1 hl2 w S ti hty).1 hag a b a3 b3 a1 b1
                refine ⟨a, b, rfl, rfl, this, ?_⟩
                cases hk : ti.kind with
                | str fs => obtain ⟨_, _, _, _, h4⟩ := kind_str htk hk; exact h4
                | arr m e => simp [litOk, hty, hk, litOk1] at hl1
                | _ => simp [isAggT, hk] at hag
              | false => simp [aggTy, hty, hag] at hagg
    cases op <;> first | exact h.elim | skip
    · refine ⟨_, h.elim, pure2 hargs fun ρ w S hp β hu hv => ?_⟩
      obtain ⟨a, b, e1, e2, e3, e4⟩ := key ρ w S hp β hu hv
      refine ⟨.bool (eqD T 4 t xs ys), hexec ρ w _ _ _ e1 e2 ?_, .d (.b _)⟩
      simp [run_eqGuard_agg w .eql t x y a b e4, run_eql_struct, e3]
    · refine ⟨_, h.elim, pure2 hargs fun ρ w S hp β hu hv => ?_⟩
      obtain ⟨a, b, e1, e2, e3, e4⟩ := key ρ w S hp β hu hv
      refine ⟨.bool (!eqD T 4 t xs ys), hexec ρ w _ _ _ e1 e2 ?_, .d (.b _)⟩
      simp [run_eqGuard_agg w .neq t x y a b e4, run_neq_struct, e3]
  · exact h.elim

theorem aUn_sound {o : Oper} {op : UnOp} {t : TypeId} {x : Operand} (ho : o.op = .unOp op t x) {xv : V} {bs : List Blk} {ns : List Nat} {K : V → Prop} (h : aUn op xv K) :
    ∃ v, K v ∧ OpS P o [xv] ns bs bs v := by
  unfold aUn at h
  have hargs : opArgs o.op = [x] := by simp [ho, opArgs]
  split at h
  · exact ⟨_, h, pure1 hargs fun ρ w S hp β hv => ⟨.bool (!_), by simp [execOp, ho, bool_inv hv, Op.unary], .d (.b _)⟩⟩
  · exact ⟨_, h, pure1 hargs fun ρ w S hp β hv => ⟨_, by simp only [execOp, ho, int_inv hv, Op.unary, Op.intArith]; rfl, .d (.i _ _)⟩⟩
  · exact h.elim

theorem aConvert_sound (hT : tokB P T = true) {o : Oper} {src dst : TypeId} {x : Operand} (ho : o.op = .convert src dst x) {xv : V} {bs : List Blk} {ns : List Nat} {K : V → Prop} (hs : ∃ ti, tyOf T src = some ti) (h : aConvert T dst xv K) :
    ∃ v, K v ∧ OpS P o [xv] ns bs bs v := by
  unfold aConvert at h
  have hargs : opArgs o.op = [x] := by simp [ho, opArgs]
  obtain ⟨tis, hsrc⟩ := hs
  have hsu : ∃ d, P.underlying src = some d := by
    have := tiOk_kind (tyOf_ok hT hsrc)
    cases hu : P.underlying src with
    | some d => exact ⟨d, rfl⟩
    | none => cases hk : tis.kind <;> simp [hk, kindOk, hu] at this
  obtain ⟨ds, hsu⟩ := hsu
  split at h
  · rename_i ti k n hty
    split at h
    · rename_i kd hk
      refine ⟨_, h.elim, pure1 hargs fun ρ w S hp β hv => ⟨.int kd (kd.wrap n), ?_, .d (.i _ _)⟩⟩
      simp [execOp, ho, int_inv hv, convert, run_underlying hsu, run_underlying (kind_int (tyOf_ok hT hty) hk), Conv.intToInt]
    · exact h.elim
  · rename_i ti b hty
    split at h
    · rename_i hk
      refine ⟨_, h, pure1 hargs fun ρ w S hp β hv => ⟨.string b, ?_, .d (.s _)⟩⟩
      simp [execOp, ho, str_inv hv, convert, run_underlying hsu, run_underlying (kind_string (tyOf_ok hT hty) hk)]
    · exact h.elim
  · exact h.elim

theorem aExtract_sound {o : Oper} {x : Operand} {i : Nat} (ho : o.op = .extract x i) {xv : V} {bs : List Blk} {ns : List Nat} {K : V → Prop} (h : aExtract xv i K) :
    ∃ v, K v ∧ OpS P o [xv] ns bs bs v := by
  unfold aExtract at h
  have hargs : opArgs o.op = [x] := by simp [ho, opArgs]
  split at h
  · rename_i cs
    obtain ⟨y, hy, h⟩ := nthK_iff.1 h
    refine ⟨_, h, pure1 hargs fun ρ w S hp β hv => ?_⟩
    generalize hρ : ρ x = cw at hv
    cases hv with
    | tup _ arr h1 h2 =>
      have hl : i < arr.size := by rw [h1]; exact (List.getElem?_eq_some_iff.1 hy).1
      refine ⟨arr[i], ?_, h2 i y _ hy (Array.getElem?_eq_getElem hl)⟩
      simp [execOp, ho, hρ, Instr.extract, Array.getElem?_eq_getElem hl]
  · exact h.elim

theorem aIndex_sound {o : Oper} {t : TypeId} {x ix : Operand} (hT : tokB P T = true) (ho : o.op = .index t x ix) {xv iv : V} {bs : List Blk} {ns : List Nat} {K : V → Prop} (hs : ∃ ti, tyOf T t = some ti ∧ ti.kind = .string) (h : aIndex xv iv K) :
    ∃ v, K v ∧ OpS P o [xv, iv] ns bs bs v := by
  unfold aIndex at h
  have hargs : opArgs o.op = [x, ix] := by simp [ho, opArgs]
  obtain ⟨ti, hty, hk⟩ := hs
  have hu := kind_string (tyOf_ok hT hty) hk
  split at h
  · rename_i b k n
    replace h := h.elim
    obtain ⟨h0, h⟩ := h
    obtain ⟨y, hy, h⟩ := nthK_iff.1 h
    refine ⟨_, h, pure2 hargs fun ρ w S hp β hv hi => ⟨.int .u8 y.toNat, ?_, .d (.i _ _)⟩⟩
    have hb : b[n.toNat]? = some y := by
      have hl : n.toNat < b.data.size := by simpa using (List.getElem?_eq_some_iff.1 hy).1
      have hl' : n.toNat < b.size := hl
      rw [getElem?_pos b n.toNat hl']
      have := (List.getElem?_eq_some_iff.1 hy).2
      simp only [Array.getElem_toList] at this
      rw [← this]; rfl
    simp [execOp, ho, str_inv hv, int_inv hi, Instr.index, run_asIntOf, run_underlying hu, h0, hb]
  · exact h.elim

theorem aMM_det {mx : Bool} {k : IntKind} {K : V → Prop} : ∀ (l : List V) (x : Int), aMM mx k x l K → ∃ r, K (.d (.i k r)) ∧ ∀ (w : World) (S : Stb) (hp : Hp) (β : Bet) (us : List Value), us.length = l.length →
    (∀ (i : Nat) (v : V) (u : Value), l[i]? = some v → us[i]? = some u → VR w S hp β v u) → (us.foldlM (if mx then Builtin.max2 else Builtin.min2) (.int k x)).run P w = .ok (.int k r) w
  | [], x, h => ⟨x, by simpa [aMM] using h, fun w S hp β us hl _ => by
      have : us = [] := List.eq_nil_of_length_eq_zero (by simpa using hl)
      subst this; simp⟩
  | v :: l, x, h => by
    cases v with
    | d y => cases y with
      | i k' y =>
        simp only [aMM] at h
        cases mx with
        | true =>
          simp only [] at h
          obtain ⟨r, hr, h2⟩ := aMM_det l _ h
          refine ⟨r, hr, fun w S hp β us hl hv => ?_⟩
          match us, hl with
          | u :: us, hl =>
            have := int_inv (hv 0 _ u rfl rfl)
            subst this
            simp only [List.foldlM_cons, Sem.run_bind, if_true, Builtin.max2, Sem.run_pure, Result.andThen_ok]
            have := h2 w S hp β us (by simpa using hl) (fun i v u hi hu => hv (i + 1) v u (by simpa using hi) (by simpa using hu))
            simpa using this
        | false =>
          simp only [] at h
          obtain ⟨r, hr, h2⟩ := aMM_det l _ h
          refine ⟨r, hr, fun w S hp β us hl hv => ?_⟩
          match us, hl with
          | u :: us, hl =>
            have := int_inv (hv 0 _ u rfl rfl)
            subst this
            simp only [List.foldlM_cons, Sem.run_bind, Bool.false_eq_true, if_false, Builtin.min2, Sem.run_pure, Result.andThen_ok]
            have := h2 w S hp β us (by simpa using hl) (fun i v u hi hu => hv (i + 1) v u (by simpa using hi) (by simpa using hu))
            simpa using this
      | _ => simp [aMM] at h
    | _ => simp [aMM] at h

/-- The operands' values, as the model lists them. -/
theorem OR.vals {w : World} {S : Stb} {h : Hp} {β : Bet} {ρ : Operand → Value} {xs : List Operand} {vs : List V} (ho : OR w S h β ρ xs vs) : (xs.map ρ).length = vs.length ∧
    ∀ (i : Nat) (v : V) (u : Value), vs[i]? = some v → (xs.map ρ)[i]? = some u → VR w S h β v u := by
  refine ⟨by simpa using ho.1, fun i v u hv hu => ?_⟩
  simp only [List.getElem?_map, Option.map_eq_some_iff] at hu
  obtain ⟨x, hx, rfl⟩ := hu
  exact ho.2 i x v hx hv

theorem aMinMax_sound {o : Oper} {c : Call} {mx : Bool} (ho : o.op = .call c) (hc : c.callee = .builtin (if mx then .max else .min)) {vs : List V} {bs : List Blk} {ns : List Nat} {K : V → Prop} (h : aMinMax mx vs K) :
    ∃ v, K v ∧ OpS P o vs ns bs bs v := by
  unfold aMinMax at h
  split at h
  · rename_i k x l
    obtain ⟨r, hk, hr⟩ := aMM_det (P := P) l x h
    refine ⟨_, hk, OpS.pure fun ρ w S hp β _ hor _ => ⟨.value (.int k r), .int k r, ?_, .inl rfl, .d (.i _ _)⟩⟩
    have hor' : OR w S hp β ρ c.args.toList (.d (.i k x) :: l) := by simpa [ho, opArgs] using hor
    obtain ⟨g1, g2⟩ := hor'.vals
    match hm : c.args.toList.map ρ, g1 with
    | u :: us, g1 =>
      rw [hm] at g2
      have := int_inv (g2 0 _ u rfl rfl)
      subst this
      have hf := hr w S hp β us (by simpa using g1) (fun i v u hi hu => g2 (i + 1) v u (by simpa using hi) (by simpa using hu))
      have ha : (c.args.map ρ).toList = .int k x :: us := by simpa using hm
      cases mx with
      | true =>
        simp only [if_true] at hf hc
        simp [execOp, ho, resolve, hc, invoke, builtin, Builtin.max_, hm, hf]
      | false =>
        simp only [Bool.false_eq_true, if_false] at hf hc
        simp [execOp, ho, resolve, hc, invoke, builtin, Builtin.min_, hm, hf]
  · exact h.elim

theorem aMakeFunc_sound {o : Oper} {f : FuncId} {first captured : Array Operand} (ho : o.op = .makeFunc (.func f) first captured) (h1 : first.toList = []) {vs : List V} {bs : List Blk} {ns : List Nat} : OpS P o vs ns bs bs (.fn f vs) := by
  refine OpS.pure fun ρ w S hp β _ hor _ => ?_
  have hor' : OR w S hp β ρ captured.toList vs := by simpa [ho, opArgs] using hor
  obtain ⟨g1, g2⟩ := hor'.vals
  have h1' : first = #[] := by cases first; simp_all
  subst h1'
  refine ⟨_, .func (.func f) #[] (captured.map ρ), by simp [execOp, ho, Instr.makeFunc], .inl rfl, .fn f vs _ (by simpa using g1) fun j c u hc hu => g2 j c u hc (by simpa using hu)⟩

theorem aLen_sound {o : Oper} {c : Call} (hT : tokB P T = true) (ho : o.op = .call c) (hc : c.callee = .builtin .len) {av : V} {t : TypeId} {ti : TI} (ht : c.argTypes.toList[0]? = some t) (hty : tyOf T t = some ti)
    (hk : match av with | .d (.sl ..) => ∃ e, ti.kind = .slice e | .d (.s _) => ti.kind = .string | .sref .. => ∃ e, ti.kind = .slice e | .map _ => ∃ k e, ti.kind = .map k e | _ => False)
    {bs : List Blk} {K : Kt} (h : aLen av bs K) :
    ∃ v, K v bs ∧ OpS P o [av] (lenN av) bs bs v := by
  have hti := tyOf_ok hT hty
  have hexec : ∀ (ρ : Operand → Value) (w : World) (x : Operand) (cv : Value), c.args.toList = [x] → (∀ ty, (Builtin.len_ c.argTypes ty #[ρ x]).run P w = .ok cv w) → (execOp ρ o).run P w = .ok (.value cv) w := by
    intro ρ w x cv ha hr
    have ha' : c.args = #[x] := by cases hh : c.args; simp_all
    simp [execOp, ho, resolve, hc, invoke, builtin, ha', hr]
  have ht' : c.argTypes[0]? = some t := by simpa using ht
  have harg : ∀ {w : World} {S : Stb} {hp : Hp} {β : Bet} {ρ : Operand → Value}, OR w S hp β ρ (opArgs o.op) [av] → ∃ x, c.args.toList = [x] ∧ VR w S hp β av (ρ x) := by
    intro w S hp β ρ hor
    have hor' : OR w S hp β ρ c.args.toList [av] := by simpa [ho, opArgs] using hor
    match hm : c.args.toList, hor'.1 with
    | [x], _ => exact ⟨x, rfl, by rw [hm] at hor'; exact hor'.one⟩
  unfold aLen at h
  split at h
  · obtain ⟨e, hk⟩ := hk
    refine ⟨_, h.elim, OpS.pure fun ρ w S hp β _ hor _ => ?_⟩
    obtain ⟨x, hx, hv⟩ := harg hor
    generalize hρ : ρ x = cw at hv
    cases hv with
    | d hd => cases hd with
      | sl _ _ _ a cap => exact ⟨_, _, hexec ρ w x _ hx (fun ty => by simp [Builtin.len_, ht', run_underlying (kind_slice hti hk), hρ, goInt]), .inl rfl, .d (.i _ _)⟩
  · refine ⟨_, h, OpS.pure fun ρ w S hp β _ hor _ => ?_⟩
    obtain ⟨x, hx, hv⟩ := harg hor
    exact ⟨_, _, hexec ρ w x _ hx (fun ty => by simp [Builtin.len_, ht', run_underlying (kind_string hti hk), str_inv hv, goInt]), .inl rfl, .d (.i _ _)⟩
  · obtain ⟨e, hk⟩ := hk
    refine ⟨_, h, OpS.pure fun ρ w S hp β _ hor _ => ?_⟩
    obtain ⟨x, hx, hv⟩ := harg hor
    generalize hρ : ρ x = cw at hv
    cases hv with
    | sref g0 g =>
      obtain ⟨a, cap, rfl, _⟩ := g
      exact ⟨_, _, hexec ρ w x _ hx (fun ty => by simp [Builtin.len_, ht', run_underlying (kind_slice hti hk), hρ, goInt]), .inl rfl, .d (.i _ _)⟩
  · rename_i n T' kt es
    obtain ⟨k, e, hk⟩ := hk
    refine ⟨_, h.elim, OpS.pure fun ρ w S hp β hr hor hb => ?_⟩
    obtain ⟨x, hx, hv⟩ := harg hor
    have hn : hp[n]? = some (.map T' kt es) := by simpa [lenN] using hb 0 n rfl
    obtain ⟨b, mes, clock, h1, h2, h3, _⟩ := hr.blk n _ hn
    generalize hρ : ρ x = cw at hv
    cases hv with
    | map g1 g2 =>
      have := g2 (by rw [hn]; simp)
      rw [h1] at this; simp at this; subst this
      exact ⟨_, .int .i64 es.length, hexec ρ w x _ hx (fun ty => by simp [Builtin.len_, ht', run_underlying (kind_map hti hk), hρ, goInt, getObj, Sem.run, h2, h3]), .inl rfl, .d (.i _ _)⟩
  · exact h.elim

end Go.PM
