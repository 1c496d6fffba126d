/-
  PM, part 13: append as an operation; maps.
-/
import Derived.Test.YtfckliidjmeeaaaDoorPmOps8
import Derived.MapKept
set_option linter.unusedSectionVars false
namespace Go.PM
variable [Glob]
variable {P : Program} {T : TT}
theorem srcN_row {x : V} {bx : List Blk} {sz : Nat} {ys : List D} (h : ElA x bx sz ys) {hp : Hp} (hb : ∀ (i m : Nat), (srcN x)[i]? = some m → hp[m]? = bx[i]?) : ∀ m ∈ srcN x, hp[m]? ≠ some .res := by
  rcases h with h | ⟨b, rfl, rfl, rfl, rfl⟩
  case inr => intro m hm; simp [srcN] at hm
  rcases h with ⟨full, rfl, rfl⟩ | ⟨m, ver, lo, len, full, ro, xs, rfl, rfl, _, _⟩ | ⟨m, ver, lo, len, full, cs, rfl, rfl, _, _, _⟩
  · intro m hm; simp [srcN] at hm
  · intro k hk
    simp [srcN] at hk; subst hk
    have : hp[k]? = some (.row ver sz ro xs) := by simpa [srcN] using hb 0 k rfl
    rw [this]; intro h; cases h
  · intro k hk
    simp [srcN] at hk; subst hk
    have : hp[k]? = some (.vard cs) := by simpa [srcN] using hb 0 k rfl
    rw [this]; intro h; cases h
theorem aAppend_sound (hT : tokB P T = true) {o : Oper} {c : Call} {t t2 : TypeId} (ho : o.op = .call c) (hc : c.callee = .builtin .append) (hty : c.argTypes.toList = [t, t2]) (ht2 : (sliceTy T t2 || stringTy T t2) = true) {s x : V} {nf : Nat} {bs : List Blk} {K : Kt}
    (h : aAppend T t s x nf bs K) (hbs : ∀ b, bs[0]? = some b → (appendN s x nf)[0]? = some nf → b = .res) : ∃ v bs', K v bs' ∧ OpS P o [s, x] (appendN s x nf) bs bs' v := by
  have hu2 : ∃ d2, P.underlying t2 = some d2 ∧ AppTy d2 := by
    rw [Bool.or_eq_true] at ht2
    rcases ht2 with ht2 | ht2
    · unfold sliceTy at ht2
      cases hh : tyOf T t2 with
      | none => simp [hh] at ht2
      | some ti =>
        simp only [hh] at ht2
        cases hk : ti.kind <;> simp [hk] at ht2
        exact ⟨_, kind_slice (tyOf_ok hT hh) hk, .inl ⟨_, rfl⟩⟩
    · unfold stringTy at ht2
      cases hh : tyOf T t2 with
      | none => simp [hh] at ht2
      | some ti =>
        simp only [hh] at ht2
        cases hk : ti.kind <;> simp [hk] at ht2
        exact ⟨_, kind_string (tyOf_ok hT hh) hk, .inr rfl⟩
  obtain ⟨d2, hu2, hd2⟩ := hu2
  have hct : c.argTypes = #[t, t2] := by cases hh : c.argTypes; simp_all
  have hexec : ∀ (ρ : Operand → Value) (w w' : World) (xs xx : Operand) (cv : Value), c.args.toList = [xs, xx] → (Builtin.append_ #[t, t2] o.type #[ρ xs, ρ xx]).run P w = .ok cv w' → (execOp ρ o).run P w = .ok (.value cv) w' := by
    intro ρ w w' xs xx cv ha hr
    have ha' : c.args = #[xs, xx] := by cases hh : c.args; simp_all
    simp [execOp, ho, resolve, hc, invoke, builtin, ha', hct, hr]
  have harg : ∀ {w : World} {S : Stb} {hp : Hp} {β : Bet} {ρ : Operand → Value}, OR w S hp β ρ (opArgs o.op) [s, x] → ∃ xs xx, c.args.toList = [xs, xx] ∧ VR w S hp β s (ρ xs) ∧ VR w S hp β x (ρ xx) := by
    intro w S hp β ρ hor
    have hor' : OR w S hp β ρ c.args.toList [s, x] := by simpa [ho, opArgs] using hor
    match hm : c.args.toList, hor'.1 with
    | [y, z], _ => exact ⟨y, z, rfl, by rw [hm] at hor'; exact hor'.two.1, by rw [hm] at hor'; exact hor'.two.2⟩
  unfold aAppend at h
  cases hh : tyOf T t with
  | none => simp [hh] at h
  | some ti =>
    simp only [hh] at h
    split at h
    · rename_i e hk
      have hu := kind_slice (tyOf_ok hT hh) hk
      cases hte : tyOf T e with
      | none => simp [hte] at h
      | some te =>
        simp only [hte] at h
        obtain ⟨i, z, hi⟩ := tiOk_info (tyOf_ok hT hte)
        replace h := (chkB_iff _ _).1 h
        obtain ⟨hchk, h⟩ := h
        simp only [Bool.and_eq_true] at hchk
        have hby := Nat.le_of_ble_eq_true hchk.1
        have hpos : 0 < te.size := Nat.le_of_ble_eq_true hchk.2
        clear hchk
        split at h
        · -- a full slice, as data
          rename_i szx xs b0 bx
          replace h := elemsK_det h
          obtain ⟨sz, ys, h, hel⟩ := h
          replace h := (chkB_iff _ _).1 h
          obtain ⟨hsz, h⟩ := h
          simp only [Bool.and_eq_true, Bool.or_eq_true] at hsz
          have hszx : szx = te.size ∨ szx = 0 := hsz.1.imp Nat.eq_of_beq_eq_true Nat.eq_of_beq_eq_true
          have hszy : sz = te.size ∨ sz = 0 := hsz.2.imp Nat.eq_of_beq_eq_true Nat.eq_of_beq_eq_true
          have hor2 := h.elim
          clear h
          rcases hor2 with h | h
          · replace h := h.elim
            obtain ⟨⟨hxy, hroom⟩, h⟩ := h
            refine ⟨_, _, h, fun ρ w S hp β hr hor hb => ?_⟩
            have hb0 : b0 = .res := hbs b0 rfl rfl
            subst hb0
            obtain ⟨hn, hbx⟩ := src_names (n := nf) hb
            obtain ⟨xs', xx, ha, hv1, hv2⟩ := harg hor
            obtain ⟨news, hs⟩ := hel.src (P := P) hpos hszy hr hbx hv2
            obtain ⟨base, cap, olds, hso⟩ := ElK.src (P := P) (x := .d (.sl szx true xs)) (bx := []) (.inl ⟨true, rfl, rfl⟩) hpos hszx hr (fun i m hi => by simp [srcN] at hi) hv1
            have hcap : cap = xs.length := by
              have hval := hso.val
              generalize ρ xs' = cw at hv1 hval
              cases hv1 with
              | d hd =>
                subst hval
                cases hd with
                | sl _ _ _ _ _ b off uf q1 q2 => exact q2 rfl
            have hne : ∀ m ∈ srcN x, m ≠ nf := fun m hm e => by
              exact srcN_row hel hbx m hm (by rw [e, hn])
            have hset := setL_src (blk' := .row 0 te.size false (xs ++ ys)) hbx hne
            show ∃ nx w' S' β' cv, _ ∧ _ ∧ HR w' S' (setL hp (nf :: srcN x) _) β' ∧ VR w' S' (setL hp (nf :: srcN x) _) β' _ cv ∧ Evol w S hp β w' S' (setL hp (nf :: srcN x) _) β'
            rw [hset]
            rcases Nat.eq_zero_or_pos ys.length with hy0 | hy0
            · have hy : ys = [] := List.eq_nil_of_length_eq_zero hy0
              have hx : xs = [] := hxy.resolve_right (fun h => h hy)
              subst hy; subst hx
              have hc0 : cap = 0 := hcap
              subst hc0
              have hn0 : news = [] := List.eq_nil_of_length_eq_zero (by simpa using hs.len)
              subst hn0
              have hnone : β[nf]? = some none := by have := hr.blk nf _ hn; simpa [BR] using this
              obtain ⟨r1, r2, r3⟩ := virtual_row hr hn hnone 0 te.size false hpos (by simp [BEv]) base
              refine ⟨_, w, S, β, _, hexec ρ w w xs' xx _ ha ?_, .inl rfl, r1, r3, r2⟩
              rw [hso.val]
              have := run_append_stay (P := P) hu hu2 hd2 hi (w := w) (w' := w) (base := base) (sLen := 0) (sCap := 0) hs.arg (hs.first w rfl) (by simp) (by cases base <;> simp [storeCells]) o.type
              simpa using this
            · have hval := hso.val
              rw [hval] at hso
              obtain ⟨w', cv, β', e1, e3, e4, e5⟩ := append_new (P := P) hu hu2 hd2 hi hpos hby hr hn hso hs (by omega) hroom o.type
              exact ⟨_, w', S, β', cv, hexec ρ w w' xs' xx cv ha (by rw [hval]; exact e1), .inl rfl, e3, e4, e5⟩
          · replace h := h.elim
            obtain ⟨hy, h⟩ := h
            subst hy
            refine ⟨_, _, h, fun ρ w S hp β hr hor hb => ?_⟩
            have hb0 : b0 = .res := hbs b0 rfl rfl
            subst hb0
            obtain ⟨hn, hbx⟩ := src_names (n := nf) hb
            obtain ⟨xs', xx, ha, hv1, hv2⟩ := harg hor
            obtain ⟨news, hs⟩ := hel.src (P := P) hpos hszy hr hbx hv2
            obtain ⟨base, cap, olds, hso⟩ := ElK.src (P := P) (x := .d (.sl szx true xs)) (bx := []) (.inl ⟨true, rfl, rfl⟩) hpos hszx hr (fun i m hi => by simp [srcN] at hi) hv1
            have hle : xs.length ≤ cap := by
              have hval := hso.val
              have hv1' := hv1
              generalize ρ xs' = cw at hv1' hval
              cases hv1' with
              | d hd =>
                subst hval
                cases hd with
                | sl _ _ _ _ _ b off uf q1 q2 => exact q1
            have hn0 : news = [] := List.eq_nil_of_length_eq_zero (by simpa using hs.len)
            subst hn0
            have hne : ∀ m ∈ srcN x, m ≠ nf := fun m hm e => by
              exact srcN_row hel hbx m hm (by rw [e, hn])
            have hset := setL_src (blk' := .res) hbx hne
            have hself : hp.set nf .res = hp := set_self hn
            rw [hself] at hset
            show ∃ nx w' S' β' cv, _ ∧ _ ∧ HR w' S' (setL hp (nf :: srcN x) _) β' ∧ VR w' S' (setL hp (nf :: srcN x) _) β' _ cv ∧ Evol w S hp β w' S' (setL hp (nf :: srcN x) _) β'
            rw [hset]
            refine ⟨_, w, S, β, ρ xs', hexec ρ w w xs' xx _ ha ?_, .inl rfl, hr, hv1, Evol.refl _ _ _ _⟩
            rw [hso.val]
            have := run_append_stay (P := P) hu hu2 hd2 hi (w := w) (w' := w) (base := base) (sLen := xs.length) (sCap := cap) hs.arg (hs.first w rfl) (by simpa using hle) (by cases base <;> simp [storeCells]) o.type
            simpa using this
        · -- a row's end
          rename_i n ver lo len ver' sz' ro xs bx
          split at h
          · rename_i hall
            replace h := elemsK_det h
            obtain ⟨sz, ys, h, hel⟩ := h
            replace h := (chkB_iff _ _).1 h
            obtain ⟨hsz, h⟩ := h
            simp only [Bool.and_eq_true, Bool.or_eq_true] at hsz
            have hs1 := Nat.eq_of_beq_eq_true hsz.1
            subst hs1
            have hszy : sz = te.size ∨ sz = 0 := hsz.2.imp Nat.eq_of_beq_eq_true Nat.eq_of_beq_eq_true
            replace h := h.elim
            obtain ⟨⟨hver, hend, hroom⟩, h⟩ := h
            subst hver
            refine ⟨_, _, h, fun ρ w S hp β hr hor hb => ?_⟩
            obtain ⟨hn, hbx⟩ := src_names (n := n) hb
            obtain ⟨xs', xx, ha, hv1, hv2⟩ := harg hor
            obtain ⟨news, hs⟩ := hel.src (P := P) hpos hszy hr hbx hv2
            have hne : ∀ m ∈ srcN x, m ≠ n := fun m hm e => by
              have := List.all_eq_true.1 hall m hm
              subst e
              simp at this
            have hdl : dropL xs lo = xs.drop lo := by cases lo <;> rfl
            have hset := setL_src (blk' := .row (ver + 1) te.size ro (dropL xs lo ++ ys)) hbx hne
            show ∃ nx w' S' β' cv, _ ∧ _ ∧ HR w' S' (setL hp (n :: srcN x) _) β' ∧ VR w' S' (setL hp (n :: srcN x) _) β' _ cv ∧ Evol w S hp β w' S' (setL hp (n :: srcN x) _) β'
            rw [hset, hdl]
            obtain ⟨w', cv, β', e1, e3, e4, e5⟩ := append_end (P := P) hu hu2 hd2 hi hpos hby hr hn hv1 hend hs hroom o.type
            exact ⟨_, w', S, β', cv, hexec ρ w w' xs' xx cv ha e1, .inl rfl, e3, e4, e5⟩
          · exact h.elim
        · -- a full slice of a row
          rename_i n ver lo len b0 ver' sz' ro xs bx
          replace h := elemsK_det h
          obtain ⟨sz, ys, h, hel⟩ := h
          replace h := (chkB_iff _ _).1 h
          obtain ⟨hsz, h⟩ := h
          simp only [Bool.and_eq_true] at hsz
          have hs1 := Nat.eq_of_beq_eq_true hsz.1
          subst hs1
          have hszy := Nat.eq_of_beq_eq_true hsz.2
          replace h := h.elim
          obtain ⟨⟨hver, hle, hyne, hroom⟩, h⟩ := h
          subst hver
          refine ⟨_, _, h, fun ρ w S hp β hr hor hb => ?_⟩
          have hb0 : b0 = .res := hbs b0 rfl rfl
          subst hb0
          have hn : hp[nf]? = some .res := by simpa [appendN] using hb 0 nf rfl
          have hnr : hp[n]? = some (.row ver te.size ro xs) := by simpa [appendN] using hb 1 n rfl
          have hbx : ∀ (i m : Nat), (srcN x)[i]? = some m → hp[m]? = bx[i]? := fun i m hm => by simpa [appendN] using hb (i + 2) m (by simpa [appendN] using hm)
          obtain ⟨xs', xx, ha, hv1, hv2⟩ := harg hor
          obtain ⟨news, hs⟩ := hel.src (P := P) hpos (.inl hszy) hr hbx hv2
          obtain ⟨base, cap, olds, hso⟩ := ElK.src (P := P) (x := .sref n ver lo len true) (bx := [.row ver te.size ro xs]) (sz := te.size) (ys := (xs.drop lo).take len) (.inr (.inl ⟨n, ver, lo, len, true, ro, xs, rfl, rfl, hle, rfl⟩)) hpos (.inl rfl) hr (fun i m hi => by
            cases i with
            | zero => simp [srcN] at hi; subst hi; simpa using hnr
            | succ i => simp [srcN] at hi) hv1
          have hxl : ((xs.drop lo).take len).length = len := by simp; omega
          have hcap : cap = len := by
            have hval := hso.val
            generalize ρ xs' = cw at hv1 hval
            cases hv1 with
            | sref g0 g =>
              obtain ⟨a', cap', hv', _, hf, _⟩ := g
              rw [hv'] at hval; simp at hval
              rw [← hval.2.2]; exact hf rfl
          have hnn : n ≠ nf := fun e => by rw [e, hn] at hnr; cases hnr
          have hdl : dropL xs lo = xs.drop lo := by cases lo <;> rfl
          have hset : setL hp (nf :: n :: srcN x) (.row 0 te.size false ((dropL xs lo).take len ++ ys) :: .row ver te.size ro xs :: bx) = hp.set nf (.row 0 te.size false ((xs.drop lo).take len ++ ys)) := by
            rw [setL, hdl]
            refine setL_same fun i m b hi hbi => ?_
            have hm : m ≠ nf := fun e => by
              cases i with
              | zero => simp at hi; exact hnn (hi.trans e)
              | succ i =>
                exact srcN_row hel hbx m (List.mem_of_getElem? (by simpa using hi)) (by rw [e, hn])
            rw [List.getElem?_set_ne (Ne.symm hm)]
            cases i with
            | zero => simp at hi hbi; subst hi; subst hbi; exact hnr
            | succ i => rw [hbx i m (by simpa using hi)]; simpa using hbi
          show ∃ nx w' S' β' cv, _ ∧ _ ∧ HR w' S' (setL hp (nf :: n :: srcN x) _) β' ∧ VR w' S' (setL hp (nf :: n :: srcN x) _) β' _ cv ∧ Evol w S hp β w' S' (setL hp (nf :: n :: srcN x) _) β'
          rw [hset]
          have hval := hso.val
          rw [hval] at hso
          have hypos : 0 < ys.length := List.length_pos_iff.2 hyne
          obtain ⟨w', cv, β', e1, e3, e4, e5⟩ := append_new (P := P) hu hu2 hd2 hi hpos hby hr hn hso hs (by omega) (by omega) o.type
          rw [hxl] at e4
          exact ⟨_, w', S, β', cv, hexec ρ w w' xs' xx cv ha (by rw [hval]; exact e1), .inl rfl, e3, e4, e5⟩
        · exact h.elim
    · exact h.elim
theorem part_rel {zs : List D} {c : Array Value} {o n : Nat} {w : World} {S : Stb} (hl : c.size = zs.length) (hz1 : o + n ≤ zs.length) (hzc : ∀ (j : Nat) (x : D) (y : Value), zs[j]? = some x → c[j]? = some y → DR w S x y) :
    (c.extract o (o + n)).size = ((zs.drop o).take n).length ∧ ∀ (j : Nat) (x : D) (y : Value), ((zs.drop o).take n)[j]? = some x → (c.extract o (o + n))[j]? = some y → DR w S x y := by
  refine ⟨by simp; omega, fun j x y hj hjy => ?_⟩
  have hj' := part_get hj
  have hjn : j < n := by rw [List.getElem?_take] at hj; split at hj <;> first | assumption | cases hj
  have := extract_get c o n j (by omega)
  rw [if_pos hjn, Array.getElem?_toList, hjy] at this
  exact hzc _ x y hj' this.symm
def KR (w : World) (S : Stb) (agg : Bool) (xs : List D) (v : Value) : Prop :=
  match agg with
  | true => ∃ a, v = .agg a ∧ a.size = xs.length ∧ ∀ (j : Nat) (x : D) (y : Value), xs[j]? = some x → a[j]? = some y → DR w S x y
  | false => ∀ c, xs = [c] → DR w S c v
theorem KR.part {t : TypeId} {ti : TI} (h : tiOk P t ti = true) (hpos : ti.size ≠ 0) {w : World} {S : Stb} {xs : List D} {a : Array Value} (hl : a.size = xs.length) {o : Nat} (hz : o + ti.size ≤ xs.length) (hc : ∀ (j : Nat) (x : D) (y : Value), xs[j]? = some x → a[j]? = some y → DR w S x y) :
    ∃ v, (part t a o).run P w = .ok v w ∧ KR w S (isAggT ti) ((xs.drop o).take ti.size) v := by
  cases hag : isAggT ti with
  | true => exact ⟨_, run_part_agg h hag w a o, _, rfl, part_rel hl hz hc⟩
  | false =>
    have g1 : o < a.size := by omega
    refine ⟨_, run_part_one h hag w (Array.getElem?_eq_getElem g1), fun c hcc => ?_⟩
    have : xs[o + 0]? = some c := part_get (by rw [hcc]; rfl)
    exact hc _ c _ this (Array.getElem?_eq_getElem g1)
theorem run_checkKey_fs {n d : Nat} {e : Bool} (hT : tokB P T = true) (ih : ∀ (t : TypeId) (xs : List D), litOk T n t xs = true → ∀ (w : World) (S : Stb) (ti : TI), tyOf T t = some ti → ∀ v, KR w S (isAggT ti) xs v → (Instr.checkKey e d t v).run P w = .ok () w)
    {xs : List D} {w : World} {S : Stb} {a : Array Value} (hl : a.size = xs.length) (hc : ∀ (j : Nat) (x : D) (y : Value), xs[j]? = some x → a[j]? = some y → DR w S x y) :
    ∀ (fs : List (Nat × TypeId)) (fields : List Field) (off : Nat), fieldsOk P fs fields = true → litOkFs T (litOk T n) xs off fs = true →
      ((forIn fields PUnit.unit fun (f : Field) (_ : PUnit) => (if f.name ≠ "_" then (do
        let v ← part f.type a f.offset
        Instr.checkKey e d f.type v
        pure (ForInStep.yield PUnit.unit)) else pure (ForInStep.yield PUnit.unit) : Sem (ForInStep PUnit))) : Sem PUnit).run P w = .ok PUnit.unit w
  | [], [], _, _, _ => by simp
  | [], _ :: _, _, h, _ => by simp [fieldsOk] at h
  | _ :: _, [], _, h, _ => by simp [fieldsOk] at h
  | p :: fs, f :: fields, off, h, hx => by
    simp only [fieldsOk, Bool.and_eq_true, decide_eq_true_eq] at h
    obtain ⟨⟨⟨⟨h1, h2⟩, h3⟩, h4⟩, h5⟩ := h
    simp only [litOkFs] at hx
    cases hty : tyOf T p.2 with
    | none => simp [hty] at hx
    | some ti =>
      have hti := tyOf_ok hT hty
      simp only [hty, Bool.and_eq_true] at hx
      obtain ⟨⟨⟨hx0, hx1⟩, hx2⟩, hx3⟩ := hx
      have hx0 := Nat.eq_of_beq_eq_true hx0
      subst hx0
      have hx1 := Nat.le_of_ble_eq_true hx1
      have hs : ti.size ≠ 0 := by
        obtain ⟨i, z, hi⟩ := tiOk_info hti
        unfold Program.cellsOf at h4
        rw [← h2, hi.info] at h4
        simp [hi.size] at h4
        exact h4
      obtain ⟨v, e1, e2⟩ := KR.part hti hs hl hx1 hc
      rw [h1, h2] at e1
      have e3 := ih p.2 _ hx2 w S ti hty v e2
      rw [h2] at e3
      have rest := run_checkKey_fs hT ih hl hc fs fields _ h5 hx3
      simp only [List.forIn_cons, Sem.run_bind, if_pos h3, e1, e3, Result.andThen_ok, Sem.run_pure, ne_eq]
      exact rest
theorem run_checkKey_lit (hT : tokB P T = true) {e : Bool} : ∀ (n d : Nat), n ≤ d → ∀ (t : TypeId) (xs : List D), litOk T n t xs = true → ∀ (w : World) (S : Stb) (ti : TI), tyOf T t = some ti → ∀ v, KR w S (isAggT ti) xs v → (Instr.checkKey e d t v).run P w = .ok () w
  | 0, d, _, t, xs, h, _, _, _, _, _, _ => by simp [litOk] at h
  | n + 1, 0, h, _, _, _, _, _, _, _, _, _ => by omega
  | n + 1, d + 1, hnd, t, xs, hx, w, S, ti, hty, v, hv => by
    have hti := tyOf_ok hT hty
    simp only [litOk, hty] at hx
    cases hk : ti.kind with
    | str fs =>
      simp only [hk] at hx
      obtain ⟨fields, f1, f2, _, _⟩ := kind_str hti hk
      have hag : isAggT ti = true := by simp [isAggT, hk]
      rw [hag] at hv
      obtain ⟨a, rfl, hl, hc⟩ := hv
      have := run_checkKey_fs (e := e) (d := d) hT (run_checkKey_lit hT n d (by omega)) hl hc fs fields.toList 0 f2 hx
      simp only [Instr.checkKey, Sem.run_bind, run_underlying f1, Result.andThen_ok]
      rw [← Array.forIn_toList, this]
      simp
    | bool =>
      simp only [hk] at hx
      obtain ⟨x, rfl⟩ := litOk1_bool hx
      have hag : isAggT ti = false := by simp [isAggT, hk]
      rw [hag] at hv
      have := hv _ rfl; cases this
      simp [Instr.checkKey, run_underlying (kind_bool hti hk)]
    | int k =>
      simp only [hk] at hx
      obtain ⟨x, rfl⟩ := litOk1_int hx
      have hag : isAggT ti = false := by simp [isAggT, hk]
      rw [hag] at hv
      have := hv _ rfl; cases this
      simp [Instr.checkKey, run_underlying (kind_int hti hk)]
    | string =>
      simp only [hk] at hx
      obtain ⟨x, rfl⟩ := litOk1_string hx
      have hag : isAggT ti = false := by simp [isAggT, hk]
      rw [hag] at hv
      have := hv _ rfl; cases this
      simp [Instr.checkKey, run_underlying (kind_string hti hk)]
    | arr m e => simp [hk, litOk1] at hx
    | slice e => simp [hk, litOk1] at hx
    | map k e => simp [hk, litOk1] at hx
    | other => simp [hk, litOk1] at hx
def findR (T : TT) (kt : TypeId) (k : D) : List (D × D) → List MapEntry → Nat → Option (Nat × Value)
  | p :: es, m :: ms, i => if eqD T 4 kt k.cells p.1.cells then some (i, m.val) else findR T kt k es ms (i + 1)
  | _, _, _ => none
theorem equal_key (hT : tokB P T = true) {kt : TypeId} {ti : TI} (hty : tyOf T kt = some ti) {k k' : D} (h1 : litOk T 4 kt k.cells = true) (h2 : litOk T 4 kt k'.cells = true) {w : World} {S : Stb} {v v' : Value}
    (hv : KR w S (isAggT ti) k.cells v) (hv' : KR w S (isAggT ti) k'.cells v') : (Op.equal kt v v').run P w = .ok (eqD T 4 kt k.cells k'.cells) w := by
  have := run_equalIn_lit hT 4 10000 (by omega) kt _ _ h1 h2 w S ti hty
  cases hag : isAggT ti with
  | true =>
    rw [hag] at hv hv'
    obtain ⟨a, rfl, a1, a2⟩ := hv
    obtain ⟨b, rfl, b1, b2⟩ := hv'
    exact this.1 hag a b a2 b2 a1 b1
  | false =>
    rw [hag] at hv hv'
    exact this.2 hag v v' hv hv'
theorem run_findAsking (hT : tokB P T = true) {kt : TypeId} {ti : TI} (hty : tyOf T kt = some ti) {k : D} (h1 : litOk T 4 kt k.cells = true) {w : World} {S : Stb} {v : Value} (hv : KR w S (isAggT ti) k.cells v) :
    ∀ (es : List (D × D)) (ms : List MapEntry) (i : Nat), ms.length = es.length → (∀ (j : Nat) (p : D × D) (m : MapEntry), es[j]? = some p → ms[j]? = some m → litOk T 4 kt p.1.cells = true ∧ KR w S (isAggT ti) p.1.cells m.key) →
      (Instr.findAsking kt v ms i).run P w = .ok (findR T kt k es ms i) w
  | [], [], i, _, _ => by simp [Instr.findAsking, findR]
  | [], _ :: _, _, h, _ => by simp at h
  | _ :: _, [], _, h, _ => by simp at h
  | p :: es, m :: ms, i, hl, hh => by
    obtain ⟨a, b⟩ := hh 0 p m rfl rfl
    have e1 := equal_key hT hty h1 a hv b
    have ih := run_findAsking hT hty h1 hv es ms (i + 1) (by simpa using hl) (fun j p m hp hm => hh (j + 1) p m (by simpa using hp) (by simpa using hm))
    simp only [Instr.findAsking, Sem.run_bind, e1, Result.andThen_ok, findR]
    cases eqD T 4 kt k.cells p.1.cells
    · simpa using ih
    · simp
theorem findNow_lit {kt : TypeId} {ti : TI} {desc : TypeDesc} {k : D} {w : World} {S : Stb} {v : Value} (hty : tyOf T kt = some ti) (h1 : litOk T 4 kt k.cells = true) (hv : KR w S (isAggT ti) k.cells v)
    (hd : (ti.kind = .bool ∧ desc = .bool) ∨ (∃ kd, ti.kind = .int kd ∧ desc = .int kd) ∨ (ti.kind = .string ∧ desc = .string)) :
    ∀ (es : List (D × D)) (ms : List MapEntry) (i : Nat), ms.length = es.length → (∀ (j : Nat) (p : D × D) (m : MapEntry), es[j]? = some p → ms[j]? = some m → litOk T 4 kt p.1.cells = true ∧ KR w S (isAggT ti) p.1.cells m.key) →
      Instr.findNow desc v ms i = some (findR T kt k es ms i)
  | [], [], i, _, _ => by simp [Instr.findNow, findR]
  | [], _ :: _, _, h, _ => by simp at h
  | _ :: _, [], _, h, _ => by simp at h
  | p :: es, m :: ms, i, hl, hh => by
    obtain ⟨a, b⟩ := hh 0 p m rfl rfl
    have ih := findNow_lit hty h1 hv hd es ms (i + 1) (by simpa using hl) (fun j p m hp hm => hh (j + 1) p m (by simpa using hp) (by simpa using hm))
    have same : Instr.sameNow desc v m.key = some (eqD T 4 kt k.cells p.1.cells) := by
      simp only [litOk, hty] at h1 a
      simp only [eqD, hty]
      rcases hd with ⟨hk, rfl⟩ | ⟨kd, hk, rfl⟩ | ⟨hk, rfl⟩
      · have hag : isAggT ti = false := by simp [isAggT, hk]
        rw [hag] at hv b
        simp only [hk] at h1 a ⊢
        obtain ⟨x, hx⟩ := litOk1_bool h1
        obtain ⟨y, hy⟩ := litOk1_bool a
        have e1 := hv _ hx
        have e2 := b _ hy
        rw [hx, hy]
        generalize m.key = mk at e2 ⊢
        cases e1; cases e2
        rfl
      · have hag : isAggT ti = false := by simp [isAggT, hk]
        rw [hag] at hv b
        simp only [hk] at h1 a ⊢
        obtain ⟨x, hx⟩ := litOk1_int h1
        obtain ⟨y, hy⟩ := litOk1_int a
        have e1 := hv _ hx
        have e2 := b _ hy
        rw [hx, hy]
        generalize m.key = mk at e2 ⊢
        cases e1; cases e2
        simp [Instr.sameNow, eq1]
      · have hag : isAggT ti = false := by simp [isAggT, hk]
        rw [hag] at hv b
        simp only [hk] at h1 a ⊢
        obtain ⟨x, hx⟩ := litOk1_string h1
        obtain ⟨y, hy⟩ := litOk1_string a
        have e1 := hv _ hx
        have e2 := b _ hy
        rw [hx, hy]
        generalize m.key = mk at e2 ⊢
        cases e1; cases e2
        simp [Instr.sameNow, eq1, beq_toListBytes]
    simp only [Instr.findNow, same, findR]
    cases eqD T 4 kt k.cells p.1.cells
    · simpa using ih
    · simp
theorem run_findKey (hT : tokB P T = true) {kt : TypeId} {ti : TI} (hty : tyOf T kt = some ti) {k : D} (h1 : litOk T 4 kt k.cells = true) {w : World} {S : Stb} {v : Value} (hv : KR w S (isAggT ti) k.cells v)
    (es : List (D × D)) (ms : List MapEntry) (hl : ms.length = es.length) (hh : ∀ (j : Nat) (p : D × D) (m : MapEntry), es[j]? = some p → ms[j]? = some m → litOk T 4 kt p.1.cells = true ∧ KR w S (isAggT ti) p.1.cells m.key) :
    (Instr.findKey kt v ms).run P w = .ok (findR T kt k es ms 0) w := by
  have hti := tyOf_ok hT hty
  have ask := run_findAsking hT hty h1 hv es ms 0 hl hh
  have h1' := h1
  simp only [litOk, hty] at h1'
  cases hk : ti.kind with
  | str fs =>
    obtain ⟨fields, f1, _⟩ := kind_str hti hk
    have hag : isAggT ti = true := by simp [isAggT, hk]
    rw [hag] at hv
    obtain ⟨a, rfl, _, _⟩ := hv
    simp only [Instr.findKey, Sem.run_bind, run_underlying f1, Result.andThen_ok]
    cases ms with
    | nil =>
      have : es = [] := List.eq_nil_of_length_eq_zero (by simpa using hl.symm)
      subst this
      simp [Instr.findNow, findR]
    | cons m ms =>
      simp only [Instr.findNow, Instr.sameNow]
      exact ask
  | bool => simp only [Instr.findKey, Sem.run_bind, run_underlying (kind_bool hti hk), Result.andThen_ok, findNow_lit hty h1 hv (.inl ⟨hk, rfl⟩) es ms 0 hl hh, Sem.run_pure]
  | int kd => simp only [Instr.findKey, Sem.run_bind, run_underlying (kind_int hti hk), Result.andThen_ok, findNow_lit hty h1 hv (.inr (.inl ⟨kd, hk, rfl⟩)) es ms 0 hl hh, Sem.run_pure]
  | string => simp only [Instr.findKey, Sem.run_bind, run_underlying (kind_string hti hk), Result.andThen_ok, findNow_lit hty h1 hv (.inr (.inr ⟨hk, rfl⟩)) es ms 0 hl hh, Sem.run_pure]
  | arr m e => simp [hk, litOk1] at h1'
  | slice e => simp [hk, litOk1] at h1'
  | map k e => simp [hk, litOk1] at h1'
  | other => simp [hk, litOk1] at h1'
theorem findR_spec {kt : TypeId} {k : D} : ∀ (es : List (D × D)) (ms : List MapEntry) (i : Nat), ms.length = es.length →
    (findR T kt k es ms i = none ∧ mapFind T kt k es = none ∧ ∀ x, mapPut T kt k x es = es ++ [(k, x)]) ∨
    (∃ j p m, es[j]? = some p ∧ ms[j]? = some m ∧ findR T kt k es ms i = some (i + j, m.val) ∧ mapFind T kt k es = some p.2 ∧ eqD T 4 kt k.cells p.1.cells = true ∧ ∀ x, mapPut T kt k x es = es.set j (k, x))
  | [], [], i, _ => .inl ⟨rfl, rfl, fun _ => rfl⟩
  | [], _ :: _, _, h => by simp at h
  | _ :: _, [], _, h => by simp at h
  | p :: es, m :: ms, i, hl => by
    by_cases he : eqD T 4 kt k.cells p.1.cells = true
    · exact .inr ⟨0, p, m, rfl, rfl, by simp [findR, he], by simp [mapFind, he], he, fun x => by simp [mapPut, he]⟩
    · rcases findR_spec (kt := kt) (k := k) es ms (i + 1) (by simpa using hl) with ⟨h1, h2, h3⟩ | ⟨j, q, n, h1, h2, h3, h4, h5, h6⟩
      · exact .inl ⟨by simp [findR, he, h1], by simp [mapFind, he, h2], fun x => by simp [mapPut, he, h3]⟩
      · exact .inr ⟨j + 1, q, n, by simpa using h1, by simpa using h2, by simp [findR, he, h3]; omega, by simp [mapFind, he, h4], h5, fun x => by simp [mapPut, he, h6]⟩
theorem keyOk_lit {kt : TypeId} {k : D} (h : keyOk T kt k = true) : litOk T 4 kt k.cells = true := by
  unfold keyOk at h; simp only [Bool.and_eq_true] at h; exact h.1
theorem DR.kr {w : World} {S : Stb} {k : D} {v : Value} (h : DR w S k v) {kt : TypeId} {ti : TI} (hty : tyOf T kt = some ti) (hk : keyOk T kt k = true) : KR w S (isAggT ti) k.cells v := by
  unfold keyOk at hk
  simp only [Bool.and_eq_true, aggTy, hty] at hk
  obtain ⟨_, hf⟩ := hk
  cases h with
  | agg cs arr h1 h2 h3 =>
    simp only [] at hf
    rw [hf]
    exact ⟨arr, rfl, h1, h3⟩
  | b x => simp at hf; rw [hf]; intro c hc; simp [D.cells] at hc; subst hc; exact .b x
  | i kd n => simp at hf; rw [hf]; intro c hc; simp [D.cells] at hc; subst hc; exact .i kd n
  | s x => simp at hf; rw [hf]; intro c hc; simp [D.cells] at hc; subst hc; exact .s x
  | k v hv => simp at hf; rw [hf]; intro c hc; simp [D.cells] at hc; subst hc; exact .k v hv
  | sl sz full xs a cap b off uf g1 g2 g3 g4 g5 g6 g7 => simp at hf; rw [hf]; intro c hc; simp [D.cells] at hc; subst hc; exact .sl sz full xs a cap b off uf g1 g2 g3 g4 g5 g6 g7
  | any t x v g1 => simp at hf; rw [hf]; intro c hc; simp [D.cells] at hc; subst hc; exact .any t x v g1
theorem eqFs_eq {n : Nat} (ih : ∀ (t : TypeId) (xs ys : List D), litOk T n t xs = true → litOk T n t ys = true → eqD T n t xs ys = true → xs = ys) {xs ys : List D} :
    ∀ (fs : List (Nat × TypeId)) (off : Nat), litOkFs T (litOk T n) xs off fs = true → litOkFs T (litOk T n) ys off fs = true → eqFs T (eqD T n) xs ys fs = true → xs.drop off = ys.drop off
  | [], off, hx, hy, _ => by
    have hx := Nat.eq_of_beq_eq_true hx
    have hy := Nat.eq_of_beq_eq_true hy
    rw [List.drop_eq_nil_of_le (by omega), List.drop_eq_nil_of_le (by omega)]
  | p :: fs, off, hx, hy, he => by
    simp only [litOkFs] at hx hy
    simp only [eqFs] at he
    cases hty : tyOf T p.2 with
    | none => simp [hty] at hx
    | some ti =>
      simp only [hty, Bool.and_eq_true] at hx hy he
      obtain ⟨⟨⟨hx0, _⟩, hx2⟩, hx3⟩ := hx
      obtain ⟨⟨_, hy2⟩, hy3⟩ := hy
      have hx0 := Nat.eq_of_beq_eq_true hx0
      subst hx0
      have e1 := ih _ _ _ hx2 hy2 he.1
      have e2 := eqFs_eq ih fs _ hx3 hy3 he.2
      rw [← List.take_append_drop ti.size (xs.drop p.1), ← List.take_append_drop ti.size (ys.drop p.1), e1, List.drop_drop, List.drop_drop, e2]
theorem bytes_beq {x y : ByteArray} (h : (x.toList == y.toList) = true) : x = y := by
  have := beq_iff_eq.1 h
  rw [ByteArray.toList_eq, ByteArray.toList_eq] at this
  exact bytes_ext this
theorem eqD_eq : ∀ (n : Nat) (t : TypeId) (xs ys : List D), litOk T n t xs = true → litOk T n t ys = true → eqD T n t xs ys = true → xs = ys
  | 0, _, _, _, h, _, _ => by simp [litOk] at h
  | n + 1, t, xs, ys, hx, hy, he => by
    simp only [litOk, eqD] at hx hy he
    cases hty : tyOf T t with
    | none => simp [hty] at hx
    | some ti =>
      simp only [hty] at hx hy he
      cases hk : ti.kind with
      | str fs =>
        simp only [hk] at hx hy he
        simpa using eqFs_eq (eqD_eq n) fs 0 hx hy he
      | bool =>
        simp only [hk] at hx hy he
        obtain ⟨x, rfl⟩ := litOk1_bool hx
        obtain ⟨y, rfl⟩ := litOk1_bool hy
        simp [eq1] at he; rw [he]
      | int k =>
        simp only [hk] at hx hy he
        obtain ⟨x, rfl⟩ := litOk1_int hx
        obtain ⟨y, rfl⟩ := litOk1_int hy
        simp [eq1] at he; rw [he]
      | string =>
        simp only [hk] at hx hy he
        obtain ⟨x, rfl⟩ := litOk1_string hx
        obtain ⟨y, rfl⟩ := litOk1_string hy
        simp only [eq1] at he
        rw [bytes_beq he]
      | arr m e => simp [hk, litOk1] at hx
      | slice e => simp [hk, litOk1] at hx
      | map k e => simp [hk, litOk1] at hx
      | other => simp [hk, litOk1] at hx
theorem key_eq {kt : TypeId} {k k' : D} (h : keyOk T kt k = true) (h' : keyOk T kt k' = true) (he : eqD T 4 kt k.cells k'.cells = true) : k = k' := by
  have e := eqD_eq 4 kt _ _ (keyOk_lit h) (keyOk_lit h') he
  unfold keyOk at h h'
  simp only [Bool.and_eq_true] at h h'
  obtain ⟨_, h⟩ := h
  obtain ⟨_, h'⟩ := h'
  cases k <;> cases k' <;> simp_all [D.cells]
theorem zeroElem_rel {te : TI} {i : TypeInfo} {z : Value} {e : TypeId} (hi : TyInfo P e te i z) (hone : isAggT te = true ∨ te.size = 1) (w : World) (S : Stb) : DR w S (zeroElem te) z := by
  obtain ⟨h1, h2⟩ := zsEq_spec hi.zs
  cases ha : isAggT te with
  | true =>
    obtain ⟨cs, rfl⟩ := hi.agg ha
    simp only [zeroElem, ha]
    simp only [Value.cells] at h1 h2
    refine .agg _ _ (by simpa using h1.symm) (fun j c hj => ?_) fun j c y hj hy => (h2 j c y hj (by simpa using hy) w S).1
    have hl : j < cs.toList.length := by rw [← h1]; exact (List.getElem?_eq_some_iff.1 hj).1
    exact (h2 j c _ hj (List.getElem?_eq_getElem hl) w S).2
  | false =>
    have hs : te.size = 1 := hone.resolve_left (by simp [ha])
    have hz := one_cells (hi.nag ha)
    simp only [zeroElem, ha]
    have hl := hi.zlen
    rw [hs] at hl
    match hzz : te.zero, hl with
    | [x], _ => exact (h2 0 x z (by rw [hzz]; rfl) (by rw [hz]; rfl) w S).1
theorem entries_kr {w : World} {S : Stb} {kt : TypeId} {ti : TI} (hty : tyOf T kt = some ti) {es : List (D × D)} {mes : List MapEntry}
    (h : ∀ (j : Nat) (p : D × D) (m : MapEntry), es[j]? = some p → mes[j]? = some m → keyOk T kt p.1 = true ∧ DR w S p.1 m.key ∧ DR w S p.2 m.val) :
    ∀ (j : Nat) (p : D × D) (m : MapEntry), es[j]? = some p → mes[j]? = some m → litOk T 4 kt p.1.cells = true ∧ KR w S (isAggT ti) p.1.cells m.key := fun j p m hp hm => by
  obtain ⟨a, b, _⟩ := h j p m hp hm
  exact ⟨keyOk_lit a, b.kr hty a⟩
theorem keyOk_ty {kt : TypeId} {k : D} (h : keyOk T kt k = true) : ∃ ti, tyOf T kt = some ti := by
  have h := keyOk_lit h
  cases hh : tyOf T kt with
  | none => simp [litOk, hh] at h
  | some ti => exact ⟨ti, rfl⟩
theorem own_find (hT : tokB P T = true) {kt : TypeId} {kti : TI} (hkty : tyOf T kt = some kti) {k : D} (hkey : keyOk T kt k = true) {w : World} {S : Stb} {h : Hp} {β : Bet} {sz : Nat} {es : List (D × Option (List D))} {v0 : V} {there : Option Nat}
    (hl : match there with
      | some j => es[j]? = some (k, none) ∧ ∀ (i : Nat) (p : D × Option (List D)), i ≠ j → es[i]? = some p → eqD T 4 kt k.cells p.1.cells = false
      | none => v0 = .d (.sl 0 true []) ∧ ∀ p ∈ es, eqD T 4 kt k.cells p.1.cells = false)
    {mes : Array MapEntry} {q : Nat → Nat} (ho : OwnE w S h β T kt sz es (some (k, v0, there)) mes q) (hsz : mes.size = es.length) (hkk : eqD T 4 kt k.cells k.cells = true) {kv : Value} (hkv : DR w S k kv) :
    (∃ j m, there = some j ∧ es[j]? = some (k, none) ∧ mes[j]? = some m ∧ (Instr.findKey kt kv mes.toList).run P w = .ok (some (j, m.val)) w ∧ VR w S h β v0 m.val) ∨
    (there = none ∧ v0 = .d (.sl 0 true []) ∧ (Instr.findKey kt kv mes.toList).run P w = .ok none w) := by
  have hl2 : mes.toList.length = (es.map fun p => (p.1, D.b true)).length := by simpa using hsz
  have hx : ∀ (j : Nat) (p : D × D) (m : MapEntry), (es.map fun p => (p.1, D.b true))[j]? = some p → mes.toList[j]? = some m → litOk T 4 kt p.1.cells = true ∧ KR w S (isAggT kti) p.1.cells m.key := fun j p m hp hm => by
    simp only [List.getElem?_map, Option.map_eq_some_iff] at hp
    obtain ⟨a, ha, rfl⟩ := hp
    obtain ⟨e1, e2, _⟩ := ho j a m ha (by simpa using hm)
    exact ⟨keyOk_lit e1, e2.kr hkty e1⟩
  have f2 := run_findKey (P := P) hT hkty (keyOk_lit hkey) (hkv.kr hkty hkey) (es.map fun p => (p.1, D.b true)) mes.toList hl2 hx
  rw [f2]
  rcases findR_spec (T := T) (kt := kt) (k := k) (es.map fun p => (p.1, D.b true)) mes.toList 0 hl2 with ⟨e1, e2, _⟩ | ⟨j, p, me, c1, c2, c3, c4, c5, _⟩
  · cases there with
    | none => exact .inr ⟨rfl, hl.1, by rw [e1]⟩
    | some j =>
      exfalso
      obtain ⟨hj, _⟩ := hl
      have key : ∀ (l : List (D × D)), mapFind T kt k l = none → ∀ p ∈ l, eqD T 4 kt k.cells p.1.cells = false := by
        intro l
        induction l with
        | nil => intro _ p hp; cases hp
        | cons a l ih =>
          intro hn p hp
          simp only [mapFind] at hn
          split at hn
          · cases hn
          · rename_i hne
            cases hp with
            | head => simpa using hne
            | tail _ hp => exact ih hn p hp
      have := key _ e2 (k, .b true) (List.mem_of_getElem? (i := j) (by simp [hj]))
      rw [hkk] at this; cases this
  · simp only [List.getElem?_map, Option.map_eq_some_iff] at c1
    obtain ⟨a, ha, rfl⟩ := c1
    cases there with
    | none =>
      have := hl.2 a (List.mem_of_getElem? ha)
      rw [c5] at this; cases this
    | some j' =>
      obtain ⟨hj, hne⟩ := hl
      have hjj : j = j' := by
        by_cases hh : j = j'
        · exact hh
        · have := hne j a hh ha
          rw [c5] at this; cases this
      subst hjj
      rw [hj] at ha; cases ha
      have c2' : mes[j]? = some me := by simpa using c2
      obtain ⟨_, _, v, hv, hvr⟩ := ho j _ me hj c2'
      cases hv
      exact .inl ⟨j, me, rfl, hj, c2', by rw [c3]; simp, hvr⟩
theorem aLookup_sound (hT : tokB P T = true) {o : Oper} {t : TypeId} {m k : Operand} {ok : Bool} (ho : o.op = .lookup t m k ok) {mv kv : V} {bs : List Blk} {K : Kt} (h : aLookup T t kv ok bs K) (hbs : bs.length = (lenN mv).length) :
    ∃ v, K v bs ∧ OpS P o [mv, kv] (lenN mv) bs bs v := by
  unfold aLookup at h
  split at h
  · rename_i ti key T' kt' es hty
    split at h
    · rename_i kt et hk
      cases hte : tyOf T et with
      | none => simp [hte] at h
      | some te =>
        simp only [hte] at h
        obtain ⟨h1, h⟩ := (chkB_iff _ _).1 h
        simp only [Bool.and_eq_true, Bool.or_eq_true] at h1
        obtain ⟨⟨⟨hkey, hkt⟩, hz⟩, hone⟩ := h1
        have hkt := Nat.eq_of_beq_eq_true hkt
        subst hkt
        have hone : isAggT te = true ∨ te.size = 1 := hone.imp id Nat.eq_of_beq_eq_true
        obtain ⟨rfl, h⟩ := h.elim
        obtain ⟨kti, hkty⟩ := keyOk_ty hkey
        have hu := kind_map (tyOf_ok hT hty) hk
        obtain ⟨i, z, hi⟩ := tiOk_info (tyOf_ok hT hte)
        have main : ∀ (ρ : Operand → Value) (w : World) (S : Stb) (hp : Hp) (β : Bet), HR w S hp β → OR w S hp β ρ [m, k] [mv, .d key] → (∀ (i n : Nat), (lenN mv)[i]? = some n → hp[n]? = [Blk.map T' kt es][i]?) →
            ∃ cv, (Instr.lookup t (ρ m) (ρ k) ok).run P w = .ok (if ok then .tuple #[cv, .bool (mapFind T' kt key es).isSome] else cv) w ∧ DR w S ((mapFind T' kt key es).getD (zeroElem te)) cv := by
          intro ρ w S hp β hr hor hb
          obtain ⟨hm, hkk⟩ := hor.two
          have hkk : DR w S key (ρ k) := by cases hkk; assumption
          cases mv with
          | map n =>
            have hn : hp[n]? = some (.map T' kt es) := by simpa [lenN] using hb 0 n rfl
            generalize ρ m = mm at hm
            cases hm with
            | @map _ b g1 g2 =>
              obtain ⟨b', mes, clock, a1, a2, a3, a4, a5⟩ := hr.blk n _ hn
              have := g2 (by simp [hn])
              rw [a1] at this; simp at this; subst this
              have a4' : ∀ (j : Nat) (p : D × D) (m : MapEntry), es[j]? = some p → mes.toList[j]? = some m → keyOk T' kt p.1 = true ∧ DR w S p.1 m.key ∧ DR w S p.2 m.val := fun j p m hp hm => a4 j p m hp (by simpa using hm)
              have f1 := run_checkKey_lit (P := P) hT (e := mes.isEmpty) 4 10000 (by omega) kt _ (keyOk_lit hkey) w S kti hkty (ρ k) (hkk.kr hkty hkey)
              have f2 := run_findKey (P := P) hT hkty (keyOk_lit hkey) (hkk.kr hkty hkey) es mes.toList (by simpa using a3) (entries_kr hkty a4')
              rcases findR_spec (T := T') (kt := kt) (k := key) es mes.toList 0 (by simpa using a3) with ⟨e1, e2, _⟩ | ⟨j, p, me, c1, c2, c3, c4, c5, _⟩
              · refine ⟨z, ?_, ?_⟩
                · simp [Instr.lookup, run_underlying hu, MapKept.run_getObj_map a2, f1, f2, e1, run_zeroValue' hi, e2]
                · rw [e2]; exact zeroElem_rel hi hone w S
              · refine ⟨me.val, ?_, ?_⟩
                · simp [Instr.lookup, run_underlying hu, MapKept.run_getObj_map a2, f1, f2, c3, c4]
                · rw [c4]; exact (a4' j p me c1 c2).2.2
          | _ => simp [lenN] at hbs
        cases ok with
        | true =>
          simp only [] at h
          refine ⟨_, h.elim.elim, OpS.pure fun ρ w S hp β hr hor hb => ?_⟩
          obtain ⟨cv, e1, e2⟩ := main ρ w S hp β hr (by simpa [ho, opArgs] using hor) hb
          refine ⟨_, _, by simpa [execOp, ho] using congrArg (fun r => r.andThen fun v w => .ok (Next.value v) w) e1, .inl rfl, .tup _ _ (by simp) fun j c u hj hu => ?_⟩
          match j, hj with
          | 0, hj => simp at hj hu; subst hj; subst hu; exact .d e2
          | 1, hj => simp at hj hu; subst hj; subst hu; exact .d (.b _)
        | false =>
          simp only [] at h
          refine ⟨_, h.elim, OpS.pure fun ρ w S hp β hr hor hb => ?_⟩
          obtain ⟨cv, e1, e2⟩ := main ρ w S hp β hr (by simpa [ho, opArgs] using hor) hb
          exact ⟨_, _, by simpa [execOp, ho] using congrArg (fun r => r.andThen fun v w => .ok (Next.value v) w) e1, .inl rfl, .d e2⟩
    · exact h.elim
  · rename_i ti key T' kt' sz es lent hty
    split at h
    · rename_i kt et hk
      cases hte : tyOf T et with
      | none => simp [hte] at h
      | some te =>
        simp only [hte] at h
        split at h
        case h_2 => exact h.elim
        rename_i e z0 hki hze
        cases lent with
        | none => exact h.elim
        | some l =>
        obtain ⟨k', v, there⟩ := l
        simp only [] at h
        obtain ⟨h1, h9⟩ := (chkB_iff _ _).1 h
        clear h
        simp only [Bool.and_eq_true] at h1
        obtain ⟨⟨hkey, hkt⟩, hz0⟩ := h1
        have hkt := Nat.eq_of_beq_eq_true hkt
        have hz0 := Nat.eq_of_beq_eq_true hz0
        subst hkt; subst hz0
        obtain ⟨⟨rfl, rfl⟩, h⟩ := h9.elim
        obtain ⟨kti, hkty⟩ := keyOk_ty hkey
        have hu := kind_map (tyOf_ok hT hty) hk
        obtain ⟨i, z, hi⟩ := tiOk_info (tyOf_ok hT hte)
        have hag : isAggT te = false := by simp [isAggT, hki]
        have hzr : ∀ w S, DR w S (.sl 0 true []) z := fun w S => by
          have hs1 : te.size = 1 := by have := hi.zlen; rw [hze] at this; exact this.symm
          have := zeroElem_rel hi (.inr hs1) w S
          simpa [zeroElem, hag, hze] using this
        have main : ∀ (ρ : Operand → Value) (w : World) (S : Stb) (hp : Hp) (β : Bet), HR w S hp β → OR w S hp β ρ [m, k] [mv, .d key] → (∀ (i n : Nat), (lenN mv)[i]? = some n → hp[n]? = [Blk.mapo T' kt sz es (some (key, v, there))][i]?) →
            ∃ cv, (Instr.lookup t (ρ m) (ρ k) ok).run P w = .ok (if ok then .tuple #[cv, .bool there.isSome] else cv) w ∧ VR w S hp β v cv := by
          intro ρ w S hp β hr hor hb
          obtain ⟨hm, hkk⟩ := hor.two
          have hkk : DR w S key (ρ k) := by cases hkk; assumption
          cases mv with
          | map n =>
            have hn : hp[n]? = some (.mapo T' kt sz es (some (key, v, there))) := by simpa [lenN] using hb 0 n rfl
            generalize ρ m = mm at hm
            cases hm with
            | @map _ b g1 g2 =>
              obtain ⟨_, b', mes, a1, a2, a3, _, ⟨q, a4, _⟩, ⟨a5, a6, a7⟩, _⟩ := hr.blk n _ hn
              have := g2 (by simp [hn])
              rw [a1] at this; simp at this; subst this
              have f1 := run_checkKey_lit (P := P) hT (e := mes.isEmpty) 4 10000 (by omega) kt _ (keyOk_lit hkey) w S kti hkty (ρ k) (hkk.kr hkty hkey)
              rcases own_find (P := P) hT hkty hkey a7 a4 a3 a6 hkk with ⟨j, me, rfl, c1, c2, c3, c4⟩ | ⟨rfl, rfl, c3⟩
              · refine ⟨me.val, ?_, c4⟩
                simp [Instr.lookup, run_underlying hu, MapKept.run_getObj_map a2, f1, c3]
              · refine ⟨z, ?_, .d (hzr w S)⟩
                simp [Instr.lookup, run_underlying hu, MapKept.run_getObj_map a2, f1, c3, run_zeroValue' hi]
          | _ => simp [lenN] at hbs
        cases ok with
        | true =>
          simp only [] at h
          refine ⟨_, h, OpS.pure fun ρ w S hp β hr hor hb => ?_⟩
          obtain ⟨cv, e1, e2⟩ := main ρ w S hp β hr (by simpa [ho, opArgs] using hor) hb
          refine ⟨_, _, by simpa [execOp, ho] using congrArg (fun r => r.andThen fun v w => .ok (Next.value v) w) e1, .inl rfl, .tup _ _ (by simp) fun j c u hj hu => ?_⟩
          match j, hj with
          | 0, hj => simp at hj hu; subst hj; subst hu; exact e2
          | 1, hj => simp at hj hu; subst hj; subst hu; exact .d (.b _)
        | false =>
          simp only [] at h
          refine ⟨_, h, OpS.pure fun ρ w S hp β hr hor hb => ?_⟩
          obtain ⟨cv, e1, e2⟩ := main ρ w S hp β hr (by simpa [ho, opArgs] using hor) hb
          exact ⟨_, _, by simpa [execOp, ho] using congrArg (fun r => r.andThen fun v w => .ok (Next.value v) w) e1, .inl rfl, e2⟩
    · exact h.elim
  · exact h.elim
end Go.PM
