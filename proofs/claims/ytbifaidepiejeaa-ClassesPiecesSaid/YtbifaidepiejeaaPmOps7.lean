/-
  PM, part 11: slice expressions and append.
-/
import Derived.Test.YtbifaidepiejeaaPmOps6
set_option linter.unusedSectionVars false
namespace Go.PM
variable [Glob]
variable {P : Program} {T : TT}

/-! ### Slice expressions -/

def bnd (x : Option Value) (v : Option Int) : Prop :=
  match x, v with
  | none, none => True
  | some y, some n => ∃ k, y = .int k n
  | _, _ => False

theorem run_sliceBound {k : IntKind} {n : Int} {y : Nat} {c : BoundsCode} {w : World} (h0 : 0 ≤ n) (h1 : n ≤ y) : (Instr.sliceBound (.int k n) y c).run P w = .ok n.toNat w := by
  simp [Instr.sliceBound, run_asIntOf, h0, h1]

theorem run_sliceBounds {isSlice : Bool} {len cap : Nat} {low high max : Option Value} {lo hi mx : Option Int} (hlo : bnd low lo) (hhi : bnd high hi) (hmx : bnd max mx) {w : World}
    (h1 : ∀ m, mx = some m → 0 ≤ m ∧ m ≤ cap) (h2 : ∀ h, hi = some h → 0 ≤ h ∧ h ≤ mx.getD cap) (h3 : ∀ l, lo = some l → 0 ≤ l ∧ l ≤ hi.getD len) (h4 : mx.isSome = true → hi.isSome = true) :
    (Instr.sliceBounds isSlice len cap low high max).run P w = .ok ((lo.getD 0).toNat, (hi.getD len).toNat, (mx.getD cap).toNat) w := by
  cases mx with
  | some m =>
    cases hi with
    | none => simp at h4
    | some h =>
      obtain ⟨m0, m1⟩ := h1 m rfl
      obtain ⟨a0, a1⟩ := h2 h rfl
      simp at a1
      cases max with
      | none => exact hmx.elim
      | some mv => cases high with
        | none => exact hhi.elim
        | some hv =>
          obtain ⟨k1, rfl⟩ := hmx
          obtain ⟨k2, rfl⟩ := hhi
          have e1 : ∀ c, (Instr.sliceBound (.int k1 m) cap c).run P w = .ok m.toNat w := fun c => run_sliceBound m0 m1
          have e2 : ∀ c, (Instr.sliceBound (.int k2 h) m.toNat c).run P w = .ok h.toNat w := fun c => run_sliceBound a0 (by omega)
          cases lo with
          | none => cases low with
            | none => simp [Instr.sliceBounds, e1, e2]
            | some _ => exact hlo.elim
          | some l => cases low with
            | none => exact hlo.elim
            | some lv =>
              obtain ⟨k3, rfl⟩ := hlo
              obtain ⟨l0, l1⟩ := h3 l rfl
              simp at l1
              have e3 : ∀ c, (Instr.sliceBound (.int k3 l) h.toNat c).run P w = .ok l.toNat w := fun c => run_sliceBound l0 (by omega)
              simp [Instr.sliceBounds, e1, e2, e3]
  | none =>
    cases max with
    | some _ => exact hmx.elim
    | none =>
      cases hi with
      | none => cases high with
        | some _ => exact hhi.elim
        | none =>
          cases lo with
          | none => cases low with
            | none => simp [Instr.sliceBounds]
            | some _ => exact hlo.elim
          | some l => cases low with
            | none => exact hlo.elim
            | some lv =>
              obtain ⟨k3, rfl⟩ := hlo
              obtain ⟨l0, l1⟩ := h3 l rfl
              have e3 : ∀ c, (Instr.sliceBound (.int k3 l) len c).run P w = .ok l.toNat w := fun c => run_sliceBound l0 l1
              simp [Instr.sliceBounds, e3]
      | some h => cases high with
        | none => exact hhi.elim
        | some hv =>
          obtain ⟨k2, rfl⟩ := hhi
          obtain ⟨a0, a1⟩ := h2 h rfl
          have e2 : ∀ c, (Instr.sliceBound (.int k2 h) cap c).run P w = .ok h.toNat w := fun c => run_sliceBound a0 a1
          cases lo with
          | none => cases low with
            | none => simp [Instr.sliceBounds, e2]
            | some _ => exact hlo.elim
          | some l => cases low with
            | none => exact hlo.elim
            | some lv =>
              obtain ⟨k3, rfl⟩ := hlo
              obtain ⟨l0, l1⟩ := h3 l rfl
              simp at l1
              have e3 : ∀ c, (Instr.sliceBound (.int k3 l) h.toNat c).run P w = .ok l.toNat w := fun c => run_sliceBound l0 (by omega)
              simp [Instr.sliceBounds, e2, e3]

theorem DR.sub {w : World} {S : Stb} {sz : Nat} {full full' : Bool} {xs : List D} {a : Option Addr} {n cap : Nat} (h : DR w S (.sl sz full xs) (.slice a n cap)) {L H M : Nat} (hLH : L ≤ H) (hH : H ≤ xs.length) (hHM : H ≤ M)
    (hf : full' = true → M = H) {es : Nat} (hes : sz = es ∨ sz = 0) : DR w S (.sl sz full' ((xs.take H).drop L)) (.slice (if M = L then a else a.map (·.add (L * es))) (H - L) (M - L)) := by
  cases h with
  | sl _ _ _ _ _ b off uf g1 g2 g3 g4 g5 g6 g7 =>
    have hlen : ((xs.take H).drop L).length = H - L := by simp; omega
    have hget : ∀ (i : Nat) (x : D), ((xs.take H).drop L)[i]? = some x → xs[L + i]? = some x := fun i x hi => by
      rw [List.getElem?_drop, List.getElem?_take] at hi
      split at hi
      · exact hi
      · cases hi
    have hsz0 : sz = 0 → (xs.take H).drop L = [] := fun h0 => by rw [g3 h0]; simp
    rw [← hlen]
    refine .sl sz full' _ _ (M - L) b (off + L * sz) (fun i j => uf (L + i) j) (by omega) (fun hf' => by have := hf hf'; omega) hsz0 (fun hne => ?_) (fun i x hi => g5 _ x (hget i x hi)) (fun i x j c hi hj => ?_) (fun i x j c hi hj => g7 _ x j c (hget i x hi) hj)
    · have h0 : L < H := by
        rcases Nat.lt_or_ge L H with h | h
        · exact h
        · exact absurd (List.eq_nil_of_length_eq_zero (by omega)) hne
      have hxs : xs ≠ [] := fun e => by rw [e] at hH; simp at hH; omega
      have hszn : sz = es := by
        rcases hes with h | h
        · exact h
        · exact absurd (g3 h) hxs
      rw [if_neg (by omega), g4 hxs, ← hszn]
      simp [addr_add]
    · obtain ⟨f1, f2, f3⟩ := g6 _ x j c (hget i x hi) hj
      rw [Nat.add_mul] at f2 f3
      exact ⟨f1, by rw [show off + L * sz + i * sz + j = off + (L * sz + i * sz) + j by omega]; exact f2, by rw [show off + L * sz + i * sz + j = off + (L * sz + i * sz) + j by omega]; exact f3⟩

theorem optI_det {b : Bool} {vs : List V} {k : Option Int → List V → Prop} (h : optI b vs k) : (b = false ∧ k none vs) ∨ (b = true ∧ ∃ kd n r, vs = .d (.i kd n) :: r ∧ k (some n) r) := by
  unfold optI at h
  split at h
  · exact .inl ⟨rfl, h⟩
  · split at h
    · exact .inr ⟨rfl, _, _, _, rfl, h⟩
    · exact h.elim

theorem elemSize_pos (hT : tokB P T = true) {t : TypeId} (h : 0 < elemSize T t) : ∃ e te, P.underlying t = some (.slice e) ∧ tiOk P e te = true ∧ te.size = elemSize T t := by
  unfold elemSize at h ⊢
  cases hty : tyOf T t with
  | none => simp [hty] at h
  | some ti =>
    simp only [hty] at h ⊢
    cases hk : ti.kind with
    | slice e =>
      simp only [hk] at h ⊢
      cases hte : tyOf T e with
      | none => simp [hte] at h
      | some te => exact ⟨e, te, kind_slice (tyOf_ok hT hty) hk, tyOf_ok hT hte, rfl⟩
    | _ => simp [hk] at h

theorem run_slice_slice {t e : TypeId} {te : TI} (ht : P.underlying t = some (.slice e)) (he : tiOk P e te = true) {w : World} {a : Option Addr} {len cap : Nat} {low high max : Option Value} {l h m : Nat}
    (hb : (Instr.sliceBounds true len cap low high max).run P w = .ok (l, h, m) w) :
    (Instr.sliceAt t (.slice a len cap) low high max).run P w = .ok (.slice (if m = l then a else a.map (·.add (l * te.size))) (h - l) (m - l)) w := by
  simp [Instr.sliceAt, Instr.slice, run_underlying ht, hb, run_sizeOf' he]

/-- The three bounds' operands. -/
theorem slice_args {x : Operand} {lo hi mx : Option Operand} {r1 : List V} {xv : V} {l h m : Option Int} {r2 r3 r4 : List V}
    (a1 : (lo.isSome = false ∧ l = none ∧ r2 = r1) ∨ (lo.isSome = true ∧ ∃ kd n, r1 = .d (.i kd n) :: r2 ∧ l = some n))
    (a2 : (hi.isSome = false ∧ h = none ∧ r3 = r2) ∨ (hi.isSome = true ∧ ∃ kd n, r2 = .d (.i kd n) :: r3 ∧ h = some n))
    (a3 : (mx.isSome = false ∧ m = none ∧ r4 = r3) ∨ (mx.isSome = true ∧ ∃ kd n, r3 = .d (.i kd n) :: r4 ∧ m = some n))
    {w : World} {S : Stb} {hp : Hp} {β : Bet} {ρ : Operand → Value} (hor : OR w S hp β ρ (x :: (lo.toList ++ (hi.toList ++ mx.toList))) (xv :: r1)) :
    VR w S hp β xv (ρ x) ∧ bnd (lo.map ρ) l ∧ bnd (hi.map ρ) h ∧ bnd (mx.map ρ) m := by
  refine ⟨hor.2 0 x xv rfl rfl, ?_⟩
  have tl : ∀ {xs : List Operand} {vs : List V} {y : Operand} {v : V}, OR w S hp β ρ (y :: xs) (v :: vs) → VR w S hp β v (ρ y) ∧ OR w S hp β ρ xs vs := by
    intro xs vs y v ho
    exact ⟨ho.2 0 y v rfl rfl, by simpa using ho.1, fun i z y hz hu => ho.2 (i + 1) z y (by simpa using hz) (by simpa using hu)⟩
  have h0 := (tl hor).2
  rcases a1 with ⟨b1, rfl, rfl⟩ | ⟨b1, kd, n, rfl, rfl⟩
  · cases lo with
    | some _ => simp at b1
    | none =>
      refine ⟨trivial, ?_⟩
      simp only [Option.toList_none, List.nil_append] at h0
      rcases a2 with ⟨b2, rfl, rfl⟩ | ⟨b2, kd2, n2, rfl, rfl⟩
      · cases hi with
        | some _ => simp at b2
        | none =>
          refine ⟨trivial, ?_⟩
          simp only [Option.toList_none, List.nil_append] at h0
          rcases a3 with ⟨b3, rfl, rfl⟩ | ⟨b3, kd3, n3, rfl, rfl⟩
          · cases mx with
            | some _ => simp at b3
            | none => trivial
          · cases mx with
            | none => simp at b3
            | some z => exact ⟨kd3, int_inv (tl h0).1⟩
      · cases hi with
        | none => simp at b2
        | some y =>
          obtain ⟨c1, c2⟩ := tl h0
          refine ⟨⟨kd2, int_inv c1⟩, ?_⟩
          rcases a3 with ⟨b3, rfl, rfl⟩ | ⟨b3, kd3, n3, rfl, rfl⟩
          · cases mx with
            | some _ => simp at b3
            | none => trivial
          · cases mx with
            | none => simp at b3
            | some z => exact ⟨kd3, int_inv (tl c2).1⟩
  · cases lo with
    | none => simp at b1
    | some y0 =>
      obtain ⟨c0, h0⟩ := tl h0
      refine ⟨⟨kd, int_inv c0⟩, ?_⟩
      rcases a2 with ⟨b2, rfl, rfl⟩ | ⟨b2, kd2, n2, rfl, rfl⟩
      · cases hi with
        | some _ => simp at b2
        | none =>
          refine ⟨trivial, ?_⟩
          simp only [Option.toList_none, List.nil_append] at h0
          rcases a3 with ⟨b3, rfl, rfl⟩ | ⟨b3, kd3, n3, rfl, rfl⟩
          · cases mx with
            | some _ => simp at b3
            | none => trivial
          · cases mx with
            | none => simp at b3
            | some z => exact ⟨kd3, int_inv (tl h0).1⟩
      · cases hi with
        | none => simp at b2
        | some y =>
          obtain ⟨c1, c2⟩ := tl h0
          refine ⟨⟨kd2, int_inv c1⟩, ?_⟩
          rcases a3 with ⟨b3, rfl, rfl⟩ | ⟨b3, kd3, n3, rfl, rfl⟩
          · cases mx with
            | some _ => simp at b3
            | none => trivial
          · cases mx with
            | none => simp at b3
            | some z => exact ⟨kd3, int_inv (tl c2).1⟩

theorem SR.sub {w : World} {h : Hp} {β : Bet} {n ver lo len : Nat} {full full' : Bool} {v : Value} (hs : SR w h β n ver lo len full v) {ver' sz : Nat} {ro : Bool} {xs : List D} (hn : h[n]? = some (.row ver' sz ro xs)) {L H M : Nat}
    {a : Option Addr} {cap : Nat} (hv : v = .slice a len cap) (hLH : L ≤ H) (hHM : H ≤ M) (hM : M ≤ cap) (hf : full' = true → M = H) :
    SR w h β n ver (lo + L) (H - L) full' (.slice (if M = L then a else a.map (·.add (L * sz))) (H - L) (M - L)) := by
  obtain ⟨a', cap', hv', hc, hfull, hs⟩ := hs
  rw [hv] at hv'; simp at hv'; obtain ⟨rfl, rfl⟩ := hv'
  refine ⟨_, _, rfl, by omega, fun h => by have := hf h; omega, ?_⟩
  rw [hn] at hs ⊢
  obtain ⟨h1, h2⟩ := hs
  refine ⟨h1, fun e => ?_⟩
  rcases h2 e with ⟨g1, g2⟩ | ⟨b, base, cells, el, fz, g1, g2, g3, g4⟩
  · exact .inl ⟨g1, by omega⟩
  · refine .inr ⟨b, base, cells, el, fz, g1, fun hpos => ?_, g3, ?_⟩
    · rw [if_neg (by omega), g2 (by omega)]
      simp [addr_add, Nat.add_mul, Nat.add_assoc]
    · have := Nat.mul_le_mul_right sz (show lo + L + (M - L) ≤ lo + cap by omega)
      omega

theorem optI3 {lo hi mx : Bool} {r : List V} {F : Option Int → Option Int → Option Int → Prop} (h : optI lo r fun l r => optI hi r fun h r => optI mx r fun m _ => F l h m) :
    ∃ l r2 hh r3 m r4, ((lo = false ∧ l = none ∧ r2 = r) ∨ (lo = true ∧ ∃ kd n, r = .d (.i kd n) :: r2 ∧ l = some n)) ∧
      ((hi = false ∧ hh = none ∧ r3 = r2) ∨ (hi = true ∧ ∃ kd n, r2 = .d (.i kd n) :: r3 ∧ hh = some n)) ∧
      ((mx = false ∧ m = none ∧ r4 = r3) ∨ (mx = true ∧ ∃ kd n, r3 = .d (.i kd n) :: r4 ∧ m = some n)) ∧ F l hh m := by
  have one : ∀ {b : Bool} {vs : List V} {k : Option Int → List V → Prop}, optI b vs k → ∃ l r2, ((b = false ∧ l = none ∧ r2 = vs) ∨ (b = true ∧ ∃ kd n, vs = .d (.i kd n) :: r2 ∧ l = some n)) ∧ k l r2 := by
    intro b vs k h
    rcases optI_det h with ⟨b, h⟩ | ⟨b, kd, n, r', e, h⟩
    · exact ⟨none, vs, .inl ⟨b, rfl, rfl⟩, h⟩
    · exact ⟨some n, r', .inr ⟨b, kd, n, e, rfl⟩, h⟩
  obtain ⟨l, r2, a1, h1⟩ := one h
  obtain ⟨hh, r3, a2, h2⟩ := one h1
  obtain ⟨m, r4, a3, h3⟩ := one h2
  exact ⟨l, r2, hh, r3, m, r4, a1, a2, a3, h3⟩

theorem arrLen_some (hT : tokB P T = true) {t : TypeId} {N : Nat} (h : arrLen T t = some N) : ∃ e te, P.underlying t = some (.array N e) ∧ tiOk P e te = true ∧ te.size = 1 := by
  unfold arrLen at h
  cases hh : tyOf T t with
  | none => simp [hh] at h
  | some ti =>
    simp only [hh] at h
    cases hk : ti.kind <;> simp only [hk] at h <;> try (cases h; done)
    rename_i n e
    cases hte : tyOf T e with
    | none => simp [hte] at h
    | some te =>
      simp only [hte] at h
      split at h
      · rename_i h1
        cases h
        exact ⟨e, te, kind_arr (tyOf_ok hT hh) hk, tyOf_ok hT hte, Nat.eq_of_beq_eq_true h1⟩
      · cases h

theorem aSlice_sound (hT : tokB P T = true) {o : Oper} {t : TypeId} {x : Operand} {lo hi mx : Option Operand} (ho : o.op = .slice t x lo hi mx) {xv : V} {r : List V} {bs : List Blk} {K : Kt}
    (h : optI lo.isSome r fun l r => optI hi.isSome r fun h r => optI mx.isSome r fun m _ => aSlice T t xv l h m bs K) : ∃ v, K v bs ∧ OpS P o (xv :: r) (slN xv) bs bs v := by
  have hargs : opArgs o.op = x :: (lo.toList ++ (hi.toList ++ mx.toList)) := by simp [ho, opArgs]
  replace h := optI3 h
  obtain ⟨l, r2, hh, r3, m, r4, a1, a2, a3, h⟩ := h
  have args : ∀ {w : World} {S : Stb} {hp : Hp} {β : Bet} {ρ : Operand → Value}, OR w S hp β ρ (opArgs o.op) (xv :: r) → VR w S hp β xv (ρ x) ∧ bnd (lo.map ρ) l ∧ bnd (hi.map ρ) hh ∧ bnd (mx.map ρ) m := fun hor => slice_args a1 a2 a3 (by rw [← hargs]; exact hor)
  have hexec : ∀ (ρ : Operand → Value) (w : World) cv, (Instr.sliceAt t (ρ x) (lo.map ρ) (hi.map ρ) (mx.map ρ)).run P w = .ok cv w → (execOp ρ o).run P w = .ok (.value cv) w := by
    intro ρ w cv hr
    simp [execOp, ho, hr]
  unfold aSlice at h
  split at h
  · -- a pure slice
    rename_i sz full xs
    replace h := (chkB_iff _ _).1 h
    obtain ⟨hchk, h⟩ := h
    simp only [Bool.and_eq_true, Bool.or_eq_true] at hchk
    have hpos : 0 < elemSize T t := Nat.le_of_ble_eq_true hchk.1
    have hes : sz = elemSize T t ∨ sz = 0 := hchk.2.imp Nat.eq_of_beq_eq_true Nat.eq_of_beq_eq_true
    obtain ⟨e, te, hu, hte, hsz⟩ := elemSize_pos hT hpos
    have key : ∀ (L H : Nat) (full' : Bool), l.getD 0 = L → hh.getD xs.length = H → L ≤ H → H ≤ xs.length → (full' = true → m = some (H : Int) ∨ (full = true ∧ m = none ∧ H = xs.length)) → (∀ q, m = some q → q = H) → (m.isSome = true → hh.isSome = true) →
        OpS P o (.d (.sl sz full xs) :: r) (slN (.d (.sl sz full xs))) [] [] (.d (.sl sz full' ((xs.take H).drop L))) := by
      intro L H full' hL hH hLH hHx hf hm hmh
      refine OpS.pure fun ρ w S hp β _ hor _ => ?_
      obtain ⟨hv, b1, b2, b3⟩ := args hor
      generalize hρ : ρ x = cw at hv
      cases hv with
      | d hd =>
        have hd0 := hd
        cases hd with
        | sl _ _ _ a cap b off uf g1 g2 g3 g4 g5 g6 g7 =>
          have hM : ∃ M : Nat, m.getD (cap : Int) = M ∧ H ≤ M ∧ M ≤ cap ∧ (full' = true → M = H) := by
            cases hmm : m with
            | none =>
              refine ⟨cap, rfl, by omega, Nat.le_refl _, fun h' => ?_⟩
              rcases hf h' with h'' | ⟨h1, _, h3⟩
              · rw [hmm] at h''; cases h''
              · rw [g2 h1, h3]
            | some q =>
              have := hm q hmm
              exact ⟨H, by simp [this], Nat.le_refl _, by omega, fun _ => rfl⟩
          obtain ⟨M, hM1, hM2, hM3, hM4⟩ := hM
          have hrun := run_sliceBounds (P := P) (isSlice := true) (len := xs.length) (cap := cap) b1 b2 b3 (w := w) (fun q hq => by rw [hm q hq]; omega) (fun q hq => by rw [hq] at hH; simp at hH; rw [hM1]; omega)
            (fun q hq => by rw [hq] at hL; simp at hL; rw [hH]; omega) hmh
          rw [hL, hH, hM1] at hrun
          simp only [Int.toNat_natCast] at hrun
          refine ⟨_, _, hexec ρ w _ (by rw [hρ]; exact run_slice_slice hu hte hrun), .inl rfl, .d ?_⟩
          exact hd0.sub hLH hHx hM2 hM4 (by rw [hsz]; exact hes)
    split at h
    · refine ⟨_, h, ?_⟩
      have := key 0 xs.length full rfl rfl (Nat.zero_le _) (Nat.le_refl _) (fun h => .inr ⟨h, rfl, rfl⟩) (fun q hq => by cases hq) (fun h => by cases h)
      simpa using this
    · rename_i h0
      replace h := h.elim
      obtain ⟨⟨c1, c2⟩, h⟩ := h
      refine ⟨_, h, ?_⟩
      have := key 0 h0.toNat false rfl (by simp; omega) (Nat.zero_le _) (by omega) (fun h => by cases h) (fun q hq => by cases hq) (fun h => by cases h)
      simpa using this
    · rename_i l0
      replace h := h.elim
      obtain ⟨⟨c1, c2⟩, h⟩ := h
      refine ⟨_, h, ?_⟩
      have := key l0.toNat xs.length full (by simp; omega) rfl (by omega) (Nat.le_refl _) (fun h => .inr ⟨h, rfl, rfl⟩) (fun q hq => by cases hq) (fun h => by cases h)
      simpa using this
    · rename_i l0 h0
      replace h := h.elim
      obtain ⟨⟨c1, c2, c3⟩, h⟩ := h
      exact ⟨_, h, key l0.toNat h0.toNat false (by simp; omega) (by simp; omega) (by omega) (by omega) (fun h => by cases h) (fun q hq => by cases hq) (fun h => by cases h)⟩
    · rename_i h0 m0
      replace h := h.elim
      obtain ⟨⟨c1, c2, c3⟩, h⟩ := h
      refine ⟨_, h, ?_⟩
      have := key 0 h0.toNat true rfl (by simp; omega) (Nat.zero_le _) (by omega) (fun _ => .inl (by congr 1; omega)) (fun q hq => by cases hq; omega) (fun _ => rfl)
      simpa using this
    · rename_i l0 h0 m0
      replace h := h.elim
      obtain ⟨⟨c1, c2, c3, c4⟩, h⟩ := h
      exact ⟨_, h, key l0.toNat h0.toNat true (by simp; omega) (by simp; omega) (by omega) (by omega) (fun _ => .inl (by congr 1; omega)) (fun q hq => by cases hq; omega) (fun _ => rfl)⟩
    · exact h.elim
  · -- a string
    rename_i b
    replace h := (chkB_iff _ _).1 h
    obtain ⟨hchk, h⟩ := h
    have hu : P.underlying t = some .string := by
      unfold aSlice.stringTy' at hchk
      cases hty : tyOf T t with
      | none => simp [hty] at hchk
      | some ti =>
        simp only [hty] at hchk
        cases hk : ti.kind <;> simp [hk] at hchk
        exact kind_string (tyOf_ok hT hty) hk
    have key : ∀ (L H : Nat), m = none → l.getD 0 = L → hh.getD b.size = H → L ≤ H → H ≤ b.size → OpS P o (.d (.s b) :: r) (slN (.d (.s b))) [] [] (.d (.s (b.extract L H))) := by
      intro L H hm hL hH hLH hHb
      refine OpS.pure fun ρ w S hp β _ hor _ => ?_
      obtain ⟨hv, b1, b2, b3⟩ := args hor
      subst hm
      have hmn : mx.map ρ = none := by
        cases hmm : mx.map ρ with
        | none => rfl
        | some y => rw [hmm] at b3; exact b3.elim
      have hrun := run_sliceBounds (P := P) (isSlice := false) (len := b.size) (cap := b.size) (max := none) (mx := none) b1 b2 trivial (w := w) (fun q hq => by cases hq) (fun q hq => by rw [hq] at hH; simp at hH ⊢; omega)
        (fun q hq => by rw [hq] at hL; simp at hL; rw [hH]; omega) (fun h => by cases h)
      rw [hL, hH] at hrun
      simp only [Int.toNat_natCast] at hrun
      refine ⟨_, .string (b.extract L H), hexec ρ w _ ?_, .inl rfl, .d (.s _)⟩
      rw [str_inv hv, hmn]
      simp [Instr.sliceAt, Instr.slice, run_underlying hu, hrun]
    have hfull : b.extract 0 b.size = b := by
      cases b with
      | mk d => simp [ByteArray.extract, ByteArray.size, ByteArray.copySlice]
    split at h
    · refine ⟨_, h, ?_⟩
      have := key 0 b.size rfl rfl rfl (Nat.zero_le _) (Nat.le_refl _)
      rwa [hfull] at this
    · rename_i h0
      replace h := h.elim
      obtain ⟨⟨c1, c2⟩, h⟩ := h
      exact ⟨_, h, key 0 h0.toNat rfl rfl (by simp; omega) (Nat.zero_le _) (by omega)⟩
    · rename_i l0
      replace h := h.elim
      obtain ⟨⟨c1, c2⟩, h⟩ := h
      exact ⟨_, h, key l0.toNat b.size rfl (by simp; omega) rfl (by omega) (Nat.le_refl _)⟩
    · rename_i l0 h0
      replace h := h.elim
      obtain ⟨⟨c1, c2, c3⟩, h⟩ := h
      exact ⟨_, h, key l0.toNat h0.toNat rfl (by simp; omega) (by simp; omega) (by omega) (by omega)⟩
    · exact h.elim
  · -- a row
    rename_i n ver l0 len full ver' sz ro xs
    replace h := (chkB_iff _ _).1 h
    obtain ⟨hchk, h⟩ := h
    simp only [Bool.and_eq_true] at hchk
    have hpos : 0 < elemSize T t := Nat.le_of_ble_eq_true hchk.1
    have hes : sz = elemSize T t := Nat.eq_of_beq_eq_true hchk.2
    obtain ⟨e, te, hu, hte, hsz⟩ := elemSize_pos hT hpos
    have key : ∀ (L H : Nat) (full' : Bool), l.getD 0 = L → hh.getD len = H → L ≤ H → H ≤ len → (full' = true → m = some (H : Int) ∨ (full = true ∧ m = none ∧ H = len)) → (∀ q, m = some q → q = H) → (m.isSome = true → hh.isSome = true) →
        OpS P o (.sref n ver l0 len full :: r) (slN (.sref n ver l0 len full)) [.row ver' sz ro xs] [.row ver' sz ro xs] (.sref n ver (l0 + L) (H - L) full') := by
      intro L H full' hL hH hLH hHx hf hm hmh
      refine OpS.pure fun ρ w S hp β hr hor hb => ?_
      have hn : hp[n]? = some (.row ver' sz ro xs) := by simpa [slN] using hb 0 n rfl
      obtain ⟨hv, b1, b2, b3⟩ := args hor
      generalize hρ : ρ x = cw at hv
      cases hv with
      | sref g0 g =>
        obtain ⟨a, cap, rfl, g1, g2, g3⟩ := id g
        have hM : ∃ M : Nat, m.getD (cap : Int) = M ∧ H ≤ M ∧ M ≤ cap ∧ (full' = true → M = H) := by
          cases hmm : m with
          | none =>
            refine ⟨cap, rfl, by omega, Nat.le_refl _, fun h' => ?_⟩
            rcases hf h' with h'' | ⟨h1, _, h3⟩
            · rw [hmm] at h''; cases h''
            · rw [g2 h1, h3]
          | some q =>
            have := hm q hmm
            exact ⟨H, by simp [this], Nat.le_refl _, by omega, fun _ => rfl⟩
        obtain ⟨M, hM1, hM2, hM3, hM4⟩ := hM
        have hrun := run_sliceBounds (P := P) (isSlice := true) (len := len) (cap := cap) b1 b2 b3 (w := w) (fun q hq => by rw [hm q hq]; omega) (fun q hq => by rw [hq] at hH; simp at hH; rw [hM1]; omega)
          (fun q hq => by rw [hq] at hL; simp at hL; rw [hH]; omega) hmh
        rw [hL, hH, hM1] at hrun
        simp only [Int.toNat_natCast] at hrun
        refine ⟨_, _, hexec ρ w _ (by rw [hρ]; exact run_slice_slice hu hte hrun), .inl rfl, .sref rfl ?_⟩
        rw [hsz, ← hes]
        exact SR.sub g hn rfl hLH hM2 hM3 hM4
    split at h
    · refine ⟨_, h, ?_⟩
      have := key 0 len full rfl rfl (Nat.zero_le _) (Nat.le_refl _) (fun h => .inr ⟨h, rfl, rfl⟩) (fun q hq => by cases hq) (fun h => by cases h)
      simpa using this
    · rename_i h0
      replace h := h.elim
      obtain ⟨⟨c1, c2⟩, h⟩ := h
      refine ⟨_, h, ?_⟩
      have := key 0 h0.toNat false rfl (by simp; omega) (Nat.zero_le _) (by omega) (fun h => by cases h) (fun q hq => by cases hq) (fun h => by cases h)
      simpa using this
    · rename_i l1
      replace h := h.elim
      obtain ⟨⟨c1, c2⟩, h⟩ := h
      exact ⟨_, h, key l1.toNat len full (by simp; omega) rfl (by omega) (Nat.le_refl _) (fun h => .inr ⟨h, rfl, rfl⟩) (fun q hq => by cases hq) (fun h => by cases h)⟩
    · rename_i l1 h0
      replace h := h.elim
      obtain ⟨⟨c1, c2, c3⟩, h⟩ := h
      exact ⟨_, h, key l1.toNat h0.toNat false (by simp; omega) (by simp; omega) (by omega) (by omega) (fun h => by cases h) (fun q hq => by cases hq) (fun h => by cases h)⟩
    · rename_i h0 m0
      replace h := h.elim
      obtain ⟨⟨c1, c2, c3⟩, h⟩ := h
      refine ⟨_, h, ?_⟩
      have := key 0 h0.toNat true rfl (by simp; omega) (Nat.zero_le _) (by omega) (fun _ => .inl (by congr 1; omega)) (fun q hq => by cases hq; omega) (fun _ => rfl)
      simpa using this
    · rename_i l1 h0 m0
      replace h := h.elim
      obtain ⟨⟨c1, c2, c3, c4⟩, h⟩ := h
      exact ⟨_, h, key l1.toNat h0.toNat true (by simp; omega) (by simp; omega) (by omega) (by omega) (fun _ => .inl (by congr 1; omega)) (fun q hq => by cases hq; omega) (fun _ => rfl)⟩
    · exact h.elim
  · -- an array
    rename_i n ver e0 o0 cs
    split at h
    · rename_i N hN
      obtain ⟨e, te, hu, hte, hsz⟩ := arrLen_some hT hN
      have key : ∀ (H : Nat) (full' : Bool), l = none → m = none → hh.getD N = H → H ≤ N → N ≤ cs.length → (full' = true → H = N) → o0 = 0 →
          OpS P o (.ptr n ver e0 o0 :: r) (slN (.ptr n ver e0 o0)) [.vard cs] [.vard cs] (.sref n 1 0 H full') := by
        intro H full' hl hm hH hHN hNc hf ho0
        subst hl; subst hm; subst ho0
        refine OpS.pure fun ρ w S hp β hr hor hb => ?_
        have hn : hp[n]? = some (.vard cs) := by simpa [slN] using hb 0 n rfl
        obtain ⟨hv, b1, b2, b3⟩ := args hor
        have hmn : mx.map ρ = none := by
          cases hmm : mx.map ρ with
          | none => rfl
          | some y => rw [hmm] at b3; exact b3.elim
        generalize hρ : ρ x = cw at hv
        cases hv with
        | ptr g0 g =>
          simp only [PR, hn] at g
          obtain ⟨b, g1, g2, g3, rfl⟩ := g
          obtain ⟨b', cells, el, k1, k2, k3, k4, k5⟩ := hr.blk n _ hn
          rw [g1] at k1; simp at k1; subst k1
          have hrun := run_sliceBounds (P := P) (isSlice := false) (len := N) (cap := N) (max := none) (mx := none) b1 b2 trivial (w := w) (fun q hq => by cases hq) (fun q hq => by rw [hq] at hH; simp at hH ⊢; omega)
            (fun q hq => by cases hq) (fun h => by cases h)
          rw [hH] at hrun
          simp only [Int.toNat_natCast, Option.getD_none] at hrun
          refine ⟨_, .slice (some ⟨b, 0, none⟩) H N, hexec ρ w _ ?_, .inl rfl, .sref rfl ⟨_, _, rfl, hHN, fun h => (hf h).symm, ?_⟩⟩
          · rw [hρ, hmn]
            have h0 : (Int.toNat 0) = 0 := rfl
            simp [Instr.sliceAt, run_underlying hu, Instr.sureAddr, hrun, run_sizeOf' hte, addr_add, h0]
          · rw [hn]
            exact ⟨rfl, b, cells, el, _, g1, fun _ => rfl, k2, by omega⟩
      split at h
      · replace h := h.elim
        obtain ⟨c1, h⟩ := h
        exact ⟨_, h, key N true rfl rfl rfl (Nat.le_refl _) c1 (fun _ => rfl) rfl⟩
      · rename_i h0
        replace h := h.elim
        obtain ⟨⟨c1, c2, c3⟩, h⟩ := h
        exact ⟨_, h, key h0.toNat false rfl rfl (by simp; omega) (by omega) c3 (fun h => by cases h) rfl⟩
      · exact h.elim
    · exact h.elim
  · -- nothing of a variable that a slice lies over
    rename_i n ver l0 len full cs
    replace h := (chkB_iff _ _).1 h
    obtain ⟨hchk, h⟩ := h
    have hes : elemSize T t = 1 := Nat.eq_of_beq_eq_true hchk
    obtain ⟨e, te, hu, hte, hsz⟩ := elemSize_pos hT (t := t) (by omega)
    split at h
    · rename_i h0 m0
      replace h := h.elim
      obtain ⟨⟨rfl, rfl⟩, h⟩ := h
      refine ⟨_, h, ?_⟩
      refine OpS.pure fun ρ w S hp β hr hor hb => ?_
      obtain ⟨hv, b1, b2, b3⟩ := args hor
      generalize hρ : ρ x = cw at hv
      cases hv with
      | sref g0 g =>
        obtain ⟨a, cap, rfl, g1, g2, g3⟩ := id g
        have hrun := run_sliceBounds (P := P) (isSlice := true) (len := len) (cap := cap) b1 b2 b3 (w := w) (fun q hq => by cases hq; simp) (fun q hq => by cases hq; simp) (fun q hq => by cases hq) (fun _ => rfl)
        simp only [Option.getD_none, Option.getD_some, Int.toNat_zero] at hrun
        refine ⟨_, _, hexec ρ w _ (by rw [hρ]; exact run_slice_slice hu hte hrun), .inl rfl, .d ?_⟩
        exact .sl 1 true [] _ 0 0 0 (fun _ _ => .nilIface) (by simp) (fun _ => rfl) (by simp) (by simp) (by simp) (by simp) (by simp)
    · exact h.elim
  · exact h.elim

end Go.PM
