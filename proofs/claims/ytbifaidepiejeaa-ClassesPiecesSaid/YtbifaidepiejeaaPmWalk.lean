/-
  PM, part 18: code.
-/
import Derived.Test.YtbifaidepiejeaaPmDraw
set_option linter.unusedSectionVars false
namespace Go.PM
variable [Glob]
variable {P : Program}

theorem lenOfK_spec : ∀ (h : Hp) (k : Nat → Prop), roomK.lenOfK h k → k h.length
  | [], k, hk => hk
  | _ :: h, k, hk => lenOfK_spec h _ hk

theorem appK_spec : ∀ (h ys : Hp) (k : Hp → Prop), appK h ys k → k (h ++ ys)
  | [], ys, k, hk => hk
  | _ :: h, ys, k, hk => appK_spec h ys _ hk

theorem resL_spec : ∀ (n : Nat) (k : List Blk → Prop), resL n k → k (List.replicate n .res)
  | 0, k, hk => hk
  | n + 1, k, hk => resL_spec n _ hk

theorem padK_spec {h : Hp} {n : Nat} {k : Hp → Prop} (hk : padK h n k) : k (h ++ List.replicate n .res) := appK_spec _ _ _ (resL_spec _ _ hk)

theorem roomK_spec {n : Nat} {h : Hp} {k : Nat → Hp → Prop} (hk : roomK n h k) : ∃ nf, k nf (h ++ List.replicate n .res) := by
  unfold roomK at hk
  cases n with
  | zero => exact ⟨0, by simpa using hk⟩
  | succ n => exact ⟨h.length, padK_spec (lenOfK_spec h _ hk)⟩

theorem Prep.elim {W : Tm → Hp → Tm → Hp → Prop} {ts : Tm} {h : Hp} {k : Tm → Hp → Prop} (hp : Prep W ts h k) : ∃ ts' h', W ts h ts' h' ∧ k ts' h' := hp.holds
theorem Prep.mk {W : Tm → Hp → Tm → Hp → Prop} {ts : Tm} {h : Hp} {k : Tm → Hp → Prop} (ts' : Tm) (h' : Hp) (hw : W ts h ts' h') (hk : k ts' h') : Prep W ts h k := ⟨ts', h', hw, hk⟩

theorem Post.then {N : Nat} {C : Cx} {w w1 : World} {S S1 : Stb} {h h1 : Hp} {β β1 : Bet} {k : Tm → Hp → Prop} {a' : Act} {w' : World} (E : Evol w S h β w1 S1 h1 β1) (hp : Post N C w1 S1 h1 β1 k a' w') : Post N C w S h β k a' w' := by
  obtain ⟨t1, t2, t3, t4, t5, t6, t7⟩ := hp
  exact ⟨t1, t2, t3, t4, t5, t6, E.trans t7⟩

theorem PostE.then {N : Nat} {C : Cx} {w w1 : World} {S S1 : Stb} {h h1 : Hp} {β β1 : Bet} {k : Ex → Tm → Hp → Prop} {e : Exit} {a' : Act} {w' : World} (E : Evol w S h β w1 S1 h1 β1) (hp : PostE N C w1 S1 h1 β1 k e a' w') : PostE N C w S h β k e a' w' := by
  obtain ⟨x, h1, h2⟩ := hp
  exact ⟨x, h1, h2.then E⟩

theorem PostE.here {N : Nat} {C : Cx} {w : World} {S : Stb} {ts : Tm} {h : Hp} {β : Bet} {k : Ex → Tm → Hp → Prop} {a : Act} (x : Ex) (hs : St N C a w S ts h β) (hk : k x ts h) : PostE N C w S h β k (exitOf x) a w :=
  ⟨x, rfl, ts, h, S, β, hk, hs, Evol.refl _ _ _ _⟩

theorem AWP.mono {N : Nat} {c : Code} {ts : Tm} {h : Hp} {k k' : Ex → Tm → Hp → Prop} (hk : ∀ e ts h, k e ts h → k' e ts h) (hc : AWP P N c ts h k) : AWP P N c ts h k' :=
  fun n C a w S β hs => wpIn_mono (hc n C a w S β hs) fun _ _ _ ⟨x, e, t1, t2, t3, t4, t5, t6⟩ => ⟨x, e, t1, t2, t3, t4, hk _ _ _ t5, t6⟩

theorem AWP.seq {N : Nat} {c d : Code} {ts : Tm} {h : Hp} {k : Ex → Tm → Hp → Prop}
    (hc : AWP P N c ts h fun e ts h => match e with
      | .normal => AWP P N d ts h k
      | e => k e ts h) : AWP P N (.seq c d) ts h k := by
  intro n C a w S β hs
  refine wpIn_seq (wpIn_mono (hc n C a w S β hs) fun e a' w' hp => ?_)
  obtain ⟨x, rfl, t1, t2, t3, t4, t5, t6, t7⟩ := hp
  cases x with
  | normal => exact wpIn_mono (t5 n C a' w' t3 t4 t6) fun e a2 w2 hp2 => hp2.then t7
  | exit id => exact ⟨.exit id, rfl, t1, t2, t3, t4, t5, t6, t7⟩
  | ret => exact ⟨.ret, rfl, t1, t2, t3, t4, t5, t6, t7⟩

theorem AWP.cond {N : Nat} {c : Operand} {x y : Code} {ts : Tm} {h : Hp} {k : Ex → Tm → Hp → Prop} {b : Bool} (hb : ev ts c = .d (.b b)) (h1 : b = true → AWP P N x ts h k) (h2 : b = false → AWP P N y ts h k) : AWP P N (.cond c x y) ts h k := by
  intro n C a w S β hs
  have hv := ev_rel hs.hr.glob hs.tr c
  rw [hb] at hv
  have hc : a.eval c = .bool b := by
    generalize a.eval c = v at hv
    cases hv with
    | d hd => cases hd; rfl
  exact wpIn_cond_split hc (fun e => h1 e n C a w S β hs) fun e => h2 e n C a w S β hs

theorem AWP.block {N : Nat} {id : Nat} {c : Code} {ts : Tm} {h : Hp} {k : Ex → Tm → Hp → Prop}
    (hc : AWP P N c ts h fun e ts h => match e with
      | .exit j => match Nat.beq j id with
        | true => k .normal ts h
        | false => k (.exit j) ts h
      | e => k e ts h) : AWP P N (.block id c) ts h k := by
  intro n C a w S β hs
  refine wpIn_block (wpIn_mono (hc n C a w S β hs) fun e a' w' hp => ?_)
  obtain ⟨x, rfl, t1, t2, t3, t4, t5, t6, t7⟩ := hp
  cases x with
  | normal => exact ⟨.normal, rfl, t1, t2, t3, t4, t5, t6, t7⟩
  | exit j =>
    simp only [exitOf, Exit.inBlock]
    cases hj : Nat.beq j id with
    | true =>
      simp only [hj] at t5
      rw [if_pos (Nat.eq_of_beq_eq_true hj)]
      exact ⟨.normal, rfl, t1, t2, t3, t4, t5, t6, t7⟩
    | false =>
      simp only [hj] at t5
      rw [if_neg (fun e => by rw [e, Nat.beq_refl id] at hj; cases hj)]
      exact ⟨.exit j, rfl, t1, t2, t3, t4, t5, t6, t7⟩
  | ret => exact ⟨.ret, rfl, t1, t2, t3, t4, t5, t6, t7⟩

theorem stepR_scope {b : Frame} {a : Act} {k : List Item} {cs : List Frame} {w : World} {c : Code} : step P (lone (b.atR a (.code (.scope c) :: k)) cs w) = .next (lone (b.atR a (.code c :: .inScope c :: k)) cs w) :=
  step_lone_go (by simp [stepG, stepG.exec, Frame.atR])
theorem stepR_inScope {b : Frame} {a : Act} {k : List Item} {cs : List Frame} {w : World} {c : Code} : step P (lone (b.atR a (.inScope c :: k)) cs w) = .next (lone (b.atR a k) cs w) :=
  step_lone_go (by simp [stepG, stepG.exec, Frame.atR])

theorem wpIn_scope {F : Fence} {n : Nat} {c : Code} {Q : Exit → Act → World → Prop} {a : Act} {w : World} (hQ : ∀ l a w, ¬ Q (.goto l) a w) (h : c.wpIn F n P Q a w) : (Code.scope c).wpIn F n P Q a w := by
  intro b k cs hro hb hr
  have h0 : (lone (b.atR a (.code (.scope c) :: k)) cs w).fenced P F := fenced_calm hb hr rfl
  obtain ⟨e, a₁, w₁, hq, harr⟩ := h b (.inScope c :: k) cs hro hb hr
  cases e with
  | normal => exact ⟨.normal, a₁, w₁, hq, .head h0 stepR_scope (StepsIn.trans harr (.one (fenced_calm hb hr rfl) stepR_inScope))⟩
  | exit id =>
    have hx : exitTo id (.inScope c :: k) = exitTo id k := by simp [exitTo]
    exact ⟨.exit id, a₁, w₁, hq, fun k' hk => .head h0 stepR_scope (harr.1 k' (by rw [hx]; exact hk)),
      fun hr' hk => let ⟨k₁, h1, h2⟩ := harr.2 hr' (by rw [hx]; exact hk); ⟨k₁, h1, .head h0 stepR_scope h2⟩⟩
  | goto l => exact absurd hq (hQ l a₁ w₁)
  | ret => exact ⟨_, a₁, w₁, hq, .of_steps (.one h0 stepR_scope) harr⟩
  | panic ch => exact ⟨_, a₁, w₁, hq, .of_steps (.one h0 stepR_scope) harr⟩
  | outgrown => exact ⟨_, a₁, w₁, hq, .of_steps (.one h0 stepR_scope) harr⟩

theorem PostE.no_goto {N : Nat} {C : Cx} {w : World} {S : Stb} {h : Hp} {β : Bet} {k : Ex → Tm → Hp → Prop} (l : Nat) (a : Act) (w' : World) : ¬ PostE N C w S h β k (.goto l) a w' := by
  rintro ⟨x, hx, _⟩
  cases x <;> cases hx

/-- **The evaluator of code is sound.** -/
theorem exCode_sound {E : Env} (hE : E.Ok P) : ∀ (c : Code) (ts : Tm) (h : Hp) (k : Ex → Tm → Hp → Prop), exCode E c ts h k → AWP P E.N c ts h k := by
  intro c
  induction c with
  | skip => exact fun ts h k hx n C a w S β hs => wpIn_skip (.here .normal hs hx)
  | region id ops d =>
    intro ts h k hx n C a w S β hs
    cases d with
    | false =>
      have hx : roomK (newCount false ops.toList) h fun nf h => exOps E ops.toList ops.toList nf ts h fun ts h => k .normal ts h := hx
      obtain ⟨nf, hx⟩ := roomK_spec hx
      obtain ⟨β', r1, r2⟩ := padded hs.hr (newCount false ops.toList)
      have hs' := hs.evol r2 r1
      refine wpIn_region ?_
      have := exOps_sound (n := n) (C := C) hE ops ops.toList 0 nf ts _ a w S β' (PostE E.N C w S h β k) (fun i => by simp) hx hs' fun a' w' hp => ⟨.normal, rfl, hp.then r2⟩
      rw [List.range_eq_range']
      simpa using this
    | true =>
      have fin : ∀ {ts : Tm} {h : Hp} {S : Stb} {β : Bet}, (roomK (newCount true ops.toList) h fun nf h => exDr E ops.toList ops.toList nf ts h fun fs ts h => chkB (indep ops.toList 0 ops.toList fs) (k .normal ts h)) → St E.N C a w S ts h β →
          (Code.region id ops true).wpIn (FF C.ro) n P (PostE E.N C w S h β k) a w := fun hx hs => by
        obtain ⟨nf, hx⟩ := roomK_spec hx
        obtain ⟨β', r1, r2⟩ := padded hs.hr (newCount true ops.toList)
        exact exDr_sound hE hx (hs.evol r2 r1) fun a' w' hp => ⟨.normal, rfl, hp.then r2⟩
      have hx : exRegion E ops true ts h k := hx
      simp only [exRegion] at hx
      split at hx
      · exact fin hx hs
      · obtain ⟨ts', h', hw, hx⟩ := hx.elim
        obtain ⟨S', β', s1, e1⟩ := hE.weak _ _ _ _ hw C a w S β hs
        exact wpIn_mono (fin hx s1) fun e a' w' hp => hp.then e1
  | seq c d ihc ihd =>
    intro ts h k hx
    have hx : exCode E c ts h (seqK (exCode E d) k) := hx
    refine AWP.seq (AWP.mono (fun e ts h hk => ?_) (ihc ts h _ hx))
    cases e with
    | normal => exact ihd ts h k hk
    | exit id => exact hk
    | ret => exact hk
  | cond c x y ihx ihy =>
    intro ts h k hx
    have hx : exCond ts c (exCode E x ts h k) (exCode E y ts h k) := hx
    unfold exCond at hx
    have hx := evK_spec _ _ _ hx
    split at hx
    · rename_i b hb
      obtain ⟨h1, h2⟩ := (br_iff _ _ _).1 hx
      exact AWP.cond hb (fun e => ihx _ _ _ (h1 e)) fun e => ihy _ _ _ (h2 e)
    · exact hx.elim
  | block id c ih =>
    intro ts h k hx
    have hx : exCode E c ts h (blockK id k) := hx
    refine AWP.block (AWP.mono (fun e ts h hk => ?_) (ih _ _ _ hx))
    cases e <;> exact hk
  | loop c _ => exact fun ts h k hx => hE.loop c ts h k hx
  | rangeFunc g ps as body => exact fun ts h k hx => hE.range g ps as body ts h k hx
  | exit id => exact fun ts h k hx n C a w S β hs => wpIn_exit (.here (.exit id) hs hx)
  | scope c ih => exact fun ts h k hx n C a w S β hs => wpIn_scope (fun l a w => PostE.no_goto l a w) (ih ts h k hx n C a w S β hs)
  | label l => exact fun ts h k hx n C a w S β hs => wpIn_label (.here .normal hs hx)
  | goto l => exact fun ts h k hx => hx.elim
  | ret => exact fun ts h k hx n C a w S β hs => wpIn_ret (.here .ret hs hx)
  | refuse m => exact fun ts h k hx => hx.elim

end Go.PM
