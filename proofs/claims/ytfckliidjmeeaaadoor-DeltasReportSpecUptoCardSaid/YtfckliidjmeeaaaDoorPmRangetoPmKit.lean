/-
  PM, part 22: ranges over functions.
-/
import Derived.Test.YtfckliidjmeeaaaDoorPmFun
import Derived.RangeFuncIn
set_option linter.unusedSectionVars false
namespace Go.PM
variable [Glob]
variable {P : Program}
def stOf : LState → Go.LoopState
  | .ready => .ready
  | .busy => .busy
  | .done => .done
  | .exhausted => .exhausted
theorem loop_upd {w : World} {S : Stb} {h : Hp} {β : Bet} (hr : HR w S h β) {n N : Nat} {st : LState} {pe : Option Code} {ts : Tm} {ps : List Tmp} {as body : Code} (hn : h[n]? = some (.loop st pe N ts ps as body)) (st' : LState) (pe' : Option Code) :
    ∃ b l, β[n]? = some (some (b, 0)) ∧ w.heap[b]? = some (.loop l) ∧ l.pending = pe ∧ l.params.toList = ps ∧ l.assign = as ∧ l.body = body ∧ l.tmps.size = N ∧ TR w S h β ts l.tmps ∧ l.state = stOf st ∧
      HR (w.putObj b (.loop { l with state := stOf st', pending := pe' })) S (h.set n (.loop st' pe' N ts ps as body)) β ∧
      Evol w S h β (w.putObj b (.loop { l with state := stOf st', pending := pe' })) S (h.set n (.loop st' pe' N ts ps as body)) β := by
  obtain ⟨b, l, h1, h2, h3, h4, h5, h6, h7, h8, h9, h10⟩ := hr.blk n _ hn
  have hlt : b < w.heap.size := (Array.getElem?_eq_some_iff.1 h2).1
  refine ⟨b, l, h1, h2, h3, h4, h5, h6, h7, h8, by rw [h10]; cases st <;> rfl, ?_⟩
  have hset : β.set n (some (b, 0)) = β := set_self h1
  have hnew := World.putObj_heap_same (w := w) (o := .loop { l with state := stOf st', pending := pe' }) hlt
  have hoth : ∀ i, i ≠ b → (w.putObj b (.loop { l with state := stOf st', pending := pe' })).heap[i]? = w.heap[i]? := fun i hi => World.putObj_heap_other hi
  have := upd hr hn (blk' := .loop st' pe' N ts ps as body) (w' := w.putObj b (.loop { l with state := stOf st', pending := pe' })) (some (b, 0)) (by simp) (fun i _ hne => hoth i (fun e => hne 0 (by rw [e]; exact h1)))
    (fun i p c e f hp hi => by rw [h1] at hp; simp at hp; obtain ⟨rfl, _⟩ := hp; rw [h2] at hi; simp at hi)
    (fun i p l' hp hi => by rw [h1] at hp; simp at hp; obtain ⟨rfl, _⟩ := hp; exact ⟨_, hnew⟩)
    (fun a => by
      by_cases ha : a.block = b
      · unfold World.frozen?; simp only [ha, hnew, h2]
      · exact World.frozen?_of_block (hoth _ ha))
    (fun i p o hp hs => by rw [h1] at hp; simp at hp; obtain ⟨rfl, _⟩ := hp; exact absurd hs (h9 o))
    (fun b' p hb' => .inl ⟨0, by cases hb'; exact h1⟩) (by rw [h1]; exact .inr ⟨⟨_, _, _, _, _, _, _, rfl⟩, rfl⟩)
    (fun E => ⟨b, _, by rw [hset]; exact h1, hnew, rfl, h4, h5, h6, h7, fun t => (h8 t).evol E, h9, by cases st' <;> rfl⟩)
  rw [hset] at this
  exact this
theorem alloc_free {w : World} {S : Stb} {h : Hp} {β : Bet} (hr : HR w S h β) (o : Obj) (ho : ∀ c t f, o ≠ .cells c t f) : HR (w.alloc o) S h β ∧ Evol w S h β (w.alloc o) S h β := by
  have E : Evol w S h β (w.alloc o) S h β := by
    refine ⟨⟨⟨rfl, rfl⟩, rfl, Nat.le_refl _⟩, by simp, fun i hi _ => old_at w o i hi, fun i c e f hi => ⟨c, by rw [old_at w o i (Array.getElem?_eq_some_iff.1 hi).1]; exact hi, rfl⟩, fun i l hi => ⟨l, by rw [old_at w o i (Array.getElem?_eq_some_iff.1 hi).1]; exact hi⟩,
      fun a _ => frozen_alloc_obj w o ho a, fun _ _ h => h, fun _ _ h => .inl h, fun b o' hs => World.cell?_of_block (a := ⟨b, o', none⟩) (old_at w o b (hr.old b o' hs)), fun _ h => .inl h, Nat.le_refl _, fun _ b hb => ⟨b, hb, BEv.refl _ _⟩⟩
  exact ⟨⟨hr.len, fun n b hn => BR.keep E rfl (fun _ r b p ht => ⟨ht, old_at w o b (hr.tlt r b p ht), fun _ h => h⟩) (fun b' p hb => ⟨old_at w o b' (hr.lt hb), fun _ h => h⟩) (hr.blk n b hn), hr.inj, fun b o' hs => Nat.lt_of_lt_of_le (hr.old b o' hs) E.size, hr.glob.evol E, fun r b p ht => Nat.lt_of_lt_of_le (hr.tlt r b p ht) E.size, hr.one⟩, E⟩
def zipK (N : Nat) : List Tmp → List V → Tm → (Tm → Prop) → Prop
  | [], vs, ts, k => match vs with
    | [] => k ts
    | _ => False
  | p :: ps, vs, ts, k => match vs with
    | [] => False
    | v :: vs => match Nat.ble (p + 1) N with
      | true => zipK N ps vs ((p, v) :: ts) k
      | false => False
theorem zipK_spec {N : Nat} : ∀ (ps : List Tmp) (vs : List V) (ts : Tm) (k : Tm → Prop), zipK N ps vs ts k → ps.length = vs.length ∧ ∃ ts', k ts' ∧ ∀ (w : World) (S : Stb) (h : Hp) (β : Bet) (tmps : Array Value) (args : List Value), TR w S h β ts tmps → tmps.size = N →
    args.length = vs.length → (∀ (j : Nat) (c : V) (u : Value), vs[j]? = some c → args[j]? = some u → VR w S h β c u) →
    TR w S h β ts' ((ps.zip args).foldl (fun tmps (t, a) => tmps.setIfInBounds t a) tmps) ∧ ((ps.zip args).foldl (fun tmps (t, a) => tmps.setIfInBounds t a) tmps).size = N
  | [], [], ts, k, hk => ⟨rfl, ts, hk, fun w S h β tmps args ht hs _ _ => by simpa using ⟨ht, hs⟩⟩
  | [], _ :: _, ts, k, hk => hk.elim
  | p :: ps, [], ts, k, hk => hk.elim
  | p :: ps, v :: vs, ts, k, hk => by
    simp only [zipK] at hk
    split at hk
    · rename_i hp
      have hp : p < N := Nat.le_of_ble_eq_true hp
      obtain ⟨hl, ts', hk, hh⟩ := zipK_spec ps vs _ k hk
      refine ⟨by simp [hl], ts', hk, fun w S h β tmps args ht hs ha hv => ?_⟩
      cases args with
      | nil => simp at ha
      | cons a args =>
        simp only [List.zip_cons_cons, List.foldl_cons]
        exact hh w S h β _ args (put_rel (a := { tmps := tmps, defers := [] }) ht (by rw [hs]; exact hp) (hv 0 v a rfl rfl)) (by simpa using hs) (by simpa using ha) fun j c u hj hu => hv (j + 1) c u (by simpa using hj) (by simpa using hu)
    · exact hk.elim
def yieldK (E : Env) (nm : Nat) (vs : List V) (h : Hp) (k : V → Hp → Prop) : Prop :=
  nthK h nm fun b => match b with
    | .loop .ready none N ts ps as body => chkB (Nat.beq N E.N) (zipK N ps vs ts fun ts1 => exCode E as ts1 h fun e ts2 h2 => match e with
      | .normal => nthK h2 nm fun b2 => match b2 with
        | .loop .ready pe2 N2 ts2' ps2 as2 body2 => setK h2 nm (.loop .busy pe2 N2 ts2' ps2 as2 body2) fun h3 => exCode E body ts2 h3 fun e ts4 h4 => nthK h4 nm fun b4 => match b4 with
          | .loop _ _ N4 ts4' ps4 as4 body4 => match e with
            | .normal => setK h4 nm (.loop .ready none N4 ts4' ps4 as4 body4) fun h5 => k (.d (.b true)) h5
            | .exit id => setK h4 nm (.loop .done (some (.exit id)) N4 ts4' ps4 as4 body4) fun h5 => k (.d (.b false)) h5
            | .ret => setK h4 nm (.loop .done (some .ret) N4 ts4' ps4 as4 body4) fun h5 => k (.d (.b false)) h5
          | _ => False
        | _ => False
      | _ => False)
    | _ => False
theorem round_st {w : World} {S : Stb} {h : Hp} {β : Bet} {ts : Tm} {tmps : Array Value} {N l : Nat} {r : Loop} (hr : HR w S h β) (ht : TR w S h β ts tmps) (hs : tmps.size = N) (hl : w.heap[l]? = some (.loop r)) :
    St N ⟨some l, w.heap.size⟩ { tmps := tmps, defers := [] } w S ts h β :=
  ⟨hr, ht, hs, ⟨.nil, by simp⟩, fun l' h' => by cases h'; exact ⟨r, hl⟩, Nat.le_refl _⟩
theorem loop_stays {w w' : World} {S S' : Stb} {h h' : Hp} {β β' : Bet} (E : Evol w S h β w' S' h' β') (hr' : HR w' S' h' β') {n N b : Nat} {st st' : LState} {pe pe' : Option Code} {ts ts' : Tm} {ps ps' : List Tmp} {as as' body body' : Code} {N' : Nat}
    (hn : h[n]? = some (.loop st pe N ts ps as body)) (hb : β[n]? = some (some (b, 0))) (hn' : h'[n]? = some (.loop st' pe' N' ts' ps' as' body')) : β'[n]? = some (some (b, 0)) := by
  obtain ⟨x, h1, h2⟩ := E.blk n _ hn
  rw [hn'] at h1; cases h1
  rcases h2 with h2 | ⟨_, h2⟩
  · cases h2
  · rw [h2, hb]
theorem yieldK_ok {E : Env} (hE : E.Ok P) (o : Oper) (c : Call) (f : Operand) (nm : Nat) (vs : List V) (h : Hp) (k : V → Hp → Prop) (hop : o.op = .call c) (hc : c.callee = .value f) (hx : yieldK E nm vs h k)
    (n : Nat) (ro : Option Nat) (a : Act) (w : World) (S : Stb) (β : Bet) (hr : HR w S h β) (hf : VR w S h β (.yld nm) (a.eval f)) (hor : OR w S h β a.eval c.args.toList vs)
    (next : Act → World → Prop) (Q : Exit → Act → World → Prop)
    (hk : ∀ v h' w' S' β' cv, k v h' → HR w' S' h' β' → VR w' S' h' β' v cv → Evol w S h β w' S' h' β' → next (a.put o.dst cv) w') : o.wpIn (FF ro) n P a w next Q := by
  unfold yieldK at hx
  obtain ⟨b0, hn, hx⟩ := nthK_iff.1 hx
  split at hx
  case h_2 => exact hx.elim
  rename_i N ts ps as body
  obtain ⟨hN, hx⟩ := (chkB_iff _ _).1 hx
  have hN : N = E.N := Nat.eq_of_beq_eq_true hN
  subst hN
  obtain ⟨b, l, g1, g2, g3, g4, g5, g6, g7, g8, g9, _⟩ := loop_upd hr hn .ready none
  generalize hfe : a.eval f = fe at hf
  cases hf with
  | @yld _ b' y1 y2 =>
    have hb' := y2 (by rw [hn]; simp)
    rw [g1] at hb'; simp at hb'; subst hb'
    obtain ⟨z1, ts1, hx, z2⟩ := zipK_spec _ _ _ _ hx
    have hargs : (c.args.map a.eval).size = l.params.size := by
      have e1 := hor.1
      have e2 : l.params.toList.length = ps.length := by rw [g4]
      simp at e1 e2 ⊢; omega
    refine ⟨fun f _ => FF.all ro f, ?_⟩
    rw [Oper.semAt_eq _ _ _ (fun c' h => by rw [hop] at h; cases h)]
    have hrun : (execOp a.eval o).run P w = (Instr.yield b (c.args.map a.eval)).run P w := by
      simp [execOp, hop, resolve, hc, Deferred.ofValue, hfe, invoke]
    rw [hrun, run_yield g2 hargs, Oper.uponIn_round]
    refine ⟨fun h => by simp [FF, Fence.wide] at h, ?_⟩
    rw [g5, g6]
    have hz : (l.params.zip (c.args.map a.eval)).foldl (fun tmps (t, a) => tmps.setIfInBounds t a) l.tmps = (ps.zip (c.args.toList.map a.eval)).foldl (fun tmps (t, a) => tmps.setIfInBounds t a) l.tmps := by
      rw [← Array.foldl_toList, Array.toList_zip, g4, Array.toList_map]
    obtain ⟨t1, t2⟩ := z2 w S h β l.tmps (c.args.toList.map a.eval) g8 g7 (by have := hor.1; simp at this ⊢; omega) fun j y v hj hv => by
      simp only [List.getElem?_map, Option.map_eq_some_iff] at hv
      obtain ⟨x, hx, rfl⟩ := hv
      exact hor.2 j x y hx hj
    refine roundIn_of_wpIn (FF.all ro _) ?_
    have hst := round_st hr t1 t2 g2
    have ha := exCode_sound hE as _ _ _ hx (n - 1) ⟨some b, w.heap.size⟩ _ w S β hst
    rw [show (l.params.zip (c.args.map a.eval)).foldl (fun tmps (t, a) => tmps.setIfInBounds t a) l.tmps = (ps.zip (c.args.toList.map a.eval)).foldl (fun tmps (t, a) => tmps.setIfInBounds t a) l.tmps from hz]
    refine wpIn_mono ha fun e a1 w1 hp => ?_
    obtain ⟨x, rfl, ts2, h2, S2, β2, hx, hs2, E2⟩ := hp
    cases x with
    | exit id => exact hx.elim
    | ret => exact hx.elim
    | normal =>
      simp only [] at hx
      obtain ⟨b2, hn2, hx⟩ := nthK_iff.1 hx
      split at hx
      case h_2 => exact hx.elim
      rename_i pe2 N2 ts2' ps2 as2 body2
      have hx := (setK_iff.1 hx).2
      obtain ⟨b', l2, q1, q2, q3, q4, q5, q6, q7, q8, q9, q10, q11⟩ := loop_upd hs2.hr hn2 .busy pe2
      have hbb := loop_stays E2 hs2.hr hn g1 hn2
      rw [q1] at hbb; simp at hbb; subst hbb
      have hst2 : l2.state = .ready := q9
      have hl2 : { l2 with state := stOf LState.busy, pending := pe2 } = { l2 with state := .busy } := by rw [← q3]; rfl
      rw [hl2] at q10 q11
      refine ⟨_, run_beginRound q2 hst2, ?_⟩
      have hb := exCode_sound hE body _ _ _ hx (n - 1) ⟨some b', w.heap.size⟩ _ _ S2 β2 (hs2.evol q11 q10)
      refine wpIn_mono hb fun e a3 w3 hp => ?_
      obtain ⟨x, rfl, ts4, h4, S4, β4, hx, hs4, E4⟩ := hp
      obtain ⟨b4, hn4, hx⟩ := nthK_iff.1 hx
      split at hx
      case h_2 => exact hx.elim
      rename_i N4 ts4' ps4 as4 body4
      have hn3 : (h2.set nm (Blk.loop .busy pe2 N2 ts2' ps2 as2 body2))[nm]? = some (.loop .busy pe2 N2 ts2' ps2 as2 body2) := by
        have := (List.getElem?_eq_some_iff.1 hn2).1
        simp [this]
      have fin : ∀ (jump : Option Code) (hx : setK h4 nm (.loop (if jump.isNone then .ready else .done) jump N4 ts4' ps4 as4 body4) fun h5 => k (.d (.b jump.isNone)) h5),
          ∃ v w', (Instr.endRound b' jump).run P w3 = .ok v w' ∧ next (a.put o.dst v) w' := fun jump hx => by
        have hx := (setK_iff.1 hx).2
        obtain ⟨b5, l5, p1, p2, p3, p4, p5, p6, p7, p8, p9, p10, p11⟩ := loop_upd hs4.hr hn4 (if jump.isNone then .ready else .done) jump
        have hbb := loop_stays E4 hs4.hr hn3 q1 hn4
        rw [p1] at hbb; simp at hbb; subst hbb
        refine ⟨_, _, run_endRound jump p2, ?_⟩
        have hl5 : { l5 with state := stOf (if jump.isNone then LState.ready else .done), pending := jump } = { l5 with state := if jump.isNone then Go.LoopState.ready else .done, pending := jump } := by
          cases jump <;> rfl
        rw [hl5] at p10 p11
        exact hk _ _ _ S4 β4 _ hx p10 (.d (.b _)) (E2.trans (q11.trans (E4.trans p11)))
      cases x with
      | normal => exact fin none hx
      | exit id => exact fin (some (.exit id)) hx
      | ret => exact fin (some .ret) hx
end Go.PM
/-
  PM, part 23: the environment, and its rules.
-/
set_option linter.unusedSectionVars false
namespace Go.PM
variable [Glob]
variable {P : Program}
structure ACall (P : Program) (f : FuncId) (args : List V) (h : Hp) (k : V → Hp → Prop) : Prop where
  wrap ::
  holds : CallV P f args h k
structure APCall (P : Program) (f : FuncId) (args : List V) (h : Hp) (k : Res → Prop) : Prop where
  wrap ::
  holds : ∃ r, k r ∧ CallR P f args h r
structure ALoop (P : Program) (N : Nat) (c : Code) (ts : Tm) (h : Hp) (k : Ex → Tm → Hp → Prop) : Prop where
  wrap ::
  holds : LP P N c ts h k
structure ARange (P : Program) (N : Nat) (g : Operand) (ps : List Tmp) (as body : Code) (ts : Tm) (h : Hp) (k : Ex → Tm → Hp → Prop) : Prop where
  wrap ::
  holds : AWP P N (.rangeFunc g ps.toArray as body) ts h k
def envY (P : Program) (T : TT) (N : Nat) (yld : Nat → List V → Hp → (V → Hp → Prop) → Prop) : Env where
  T := T
  N := N
  weak := Wk N
  call := ACall P
  yld := yld
  pcall := fun f args h k => APCall P f args h k
  loop := ALoop P N
  range := ARange P N
def noYld : Nat → List V → Hp → (V → Hp → Prop) → Prop := fun _ _ _ _ => False
def envOf (P : Program) (T : TT) (N : Nat) : Env := envY P T N noYld
def yldIn (E : Env) (n : Nat) : Nat → List V → Hp → (V → Hp → Prop) → Prop := fun nm vs h k => match Nat.beq nm n with
  | true => yieldK E nm vs h k
  | false => E.yld nm vs h k
def YldOk (P : Program) (yld : Nat → List V → Hp → (V → Hp → Prop) → Prop) : Prop :=
  ∀ (o : Oper) (c : Call) (f : Operand) (nm : Nat) vs h k, o.op = .call c → c.callee = .value f → yld nm vs h k →
    ∀ (n : Nat) (ro : Option Nat) (a : Act) (w : World) (S : Stb) (β : Bet), HR w S h β → VR w S h β (.yld nm) (a.eval f) → OR w S h β a.eval c.args.toList vs →
      ∀ (next : Act → World → Prop) (Q : Exit → Act → World → Prop),
        (∀ v h' w' S' β' cv, k v h' → HR w' S' h' β' → VR w' S' h' β' v cv → Evol w S h β w' S' h' β' → next (a.put o.dst cv) w') → o.wpIn (FF ro) n P a w next Q
theorem yldIn_ok {E : Env} (hE : E.Ok P) (n : Nat) : YldOk P (yldIn E n) := fun o c f nm vs h k ho hc hx => by
  unfold yldIn at hx
  split at hx
  · exact yieldK_ok hE o c f nm vs h k ho hc hx
  · exact hE.yld o c f nm vs h k ho hc hx
theorem envY_ok {T : TT} {N : Nat} {yld} (hy : YldOk P yld) (hT : tokB P T = true) (hm : P.follows .mixedOrders = true) : (envY P T N yld).Ok P where
  weak := fun _ _ _ _ h => h
  types := hT
  mixed := hm
  call := fun f args h k hx => by
    have hx : ACall P f args h k := hx
    exact hx.holds
  pcall := fun f args h k hx => by
    have hx : APCall P f args h k := hx
    exact hx.holds
  yld := hy
  loop := fun c ts h k hx => by
    have hx : ALoop P N c ts h k := hx
    exact .of_LP hx.holds
  range := fun g ps as body ts h k hx => by
    have hx : ARange P N g ps.toList as body ts h k := hx
    have hx2 : AWP P N (.rangeFunc g ps as body) ts h k := by simpa using hx.holds
    exact hx2
theorem envOf_ok {T : TT} {N : Nat} (hT : tokB P T = true) (hm : P.follows .mixedOrders = true) : (envOf P T N).Ok P := envY_ok (fun _ _ _ _ _ _ _ _ _ hx => hx.elim) hT hm
theorem CallP.callV {f : FuncId} {args : List V} {h : Hp} {k : V → Hp → Prop} {v : V} (hc : CallP P f args v) (hk : k v h) : CallV P f args h k := by
  intro w S β argv hr hv
  have := hc w S h β argv hr hv
  rcases this with ⟨h1, h2⟩ | ⟨v', w', h1, S', β', h2⟩
  · refine .inl ⟨h1, fun cs => ?_⟩
    obtain ⟨e, w', fr, ⟨cv, he, S', β', g1, g2, g3⟩, r⟩ := h2 cs
    exact ⟨e, w', fr, ⟨cv, he, v, h, S', β', hk, g1, g2, g3⟩, r⟩
  · exact .inr ⟨v', w', h1, v, h, S', β', hk, h2⟩
theorem ACall.of {f : FuncId} {args : List V} {h : Hp} {k : V → Hp → Prop} {v : V} (hc : CallP P f args v) (hk : k v h) : ACall P f args h k := by
  exact ⟨hc.callV hk⟩
theorem ACall.ofV {f : FuncId} {args : List V} {h : Hp} {k : V → Hp → Prop} (hc : CallV P f args h k) : ACall P f args h k := by
  exact ⟨hc⟩
theorem APCall.of {f : FuncId} {args : List V} {h : Hp} {k : Res → Prop} {v : V} (hc : CallP P f args v) (hk : k (.d v)) : APCall P f args h k := by
  exact ⟨.d v, hk, hc⟩
theorem callFix_of {f : FuncId} {args : List V} {n ver sz lo len i : Nat} {ro full : Bool} {xs : List D} {v : V} (ha : args[i]? = some (.sref n ver lo len full)) (hl : lo + len ≤ xs.length)
    (hc : CallP P f (args.set i (.d (.sl sz full ((xs.drop lo).take len)))) v) : CallFix P f args n ver sz ro xs v := by
  intro w S h β argv hn hr hv
  obtain ⟨r1, e1⟩ := freeze hr hn
  have hi : i < argv.size := by rw [hv.1]; exact (List.getElem?_eq_some_iff.1 ha).1
  have hd := sref_data hr hn hl (hv.2 i _ argv[i] ha (Array.getElem?_eq_getElem hi))
  have hv1 : VRs w (fixS S β n (xs.length * sz)) (h.set n (.row ver sz true xs)) β (args.set i (.d (.sl sz full ((xs.drop lo).take len)))) argv := by
    refine ⟨by simp [hv.1], fun j c u hj hu => ?_⟩
    by_cases hij : i = j
    · subst hij
      rw [List.getElem?_set_self (List.getElem?_eq_some_iff.1 ha).1] at hj
      cases hj
      rw [Array.getElem?_eq_getElem hi] at hu; cases hu
      exact .d hd
    · rw [List.getElem?_set_ne hij] at hj
      exact (hv.2 j c u hj hu).evol e1
  rcases hc w _ _ β argv r1 hv1 with ⟨h1, h2⟩ | ⟨cv, w', h1, S2, β2, g1, g2, g3⟩
  · refine .inl ⟨h1, fun cs => ?_⟩
    obtain ⟨e, w', fr, ⟨cv, he, S2, β2, g1, g2, g3⟩, r⟩ := h2 cs
    exact ⟨e, w', fr, ⟨cv, he, S2, β2, g1, g2, e1.trans g3⟩, r⟩
  · exact .inr ⟨cv, w', h1, S2, β2, g1, g2, e1.trans g3⟩
theorem APCall.fix {f : FuncId} {args args' : List V} {h : Hp} {k : Res → Prop} (i : Nat) {n ver sz lo len : Nat} {ro full : Bool} {xs : List D} {v : V} (ha : args[i]? = some (.sref n ver lo len full)) (hn : h[n]? = some (.row ver sz ro xs)) (hl : lo + len ≤ xs.length)
    (hle : VLes (args.set i (.d (.sl sz full ((xs.drop lo).take len)))) args') (hc : CallP P f args' v) (hk : k (.fix n v)) : APCall P f args h k :=
  ⟨.fix n v, hk, fun ver' sz' ro' xs' hn' => by
    rw [hn] at hn'
    cases hn'
    exact callFix_of ha hl (hc.le hle)⟩
theorem APCall.ofRow {f : FuncId} {args : List V} {h : Hp} {k : Res → Prop} {sz : Nat} {ys : List D} (hc : CallRow P f args sz ys) (hk : k (.row sz ys)) : APCall P f args h k := by
  exact ⟨.row sz ys, hk, hc⟩
theorem ACall.ofRow {f : FuncId} {args : List V} {h : Hp} {k : V → Hp → Prop} {sz : Nat} {ys : List D} (hc : CallRow P f args sz ys)
    (hk : roomK.lenOfK h fun n => appK h [.row 0 sz false ys] fun h' => k (.sref n 0 0 ys.length false) h') : ACall P f args h k := by
  have hk := appK_spec _ _ _ (lenOfK_spec _ _ hk)
  refine .ofV fun w S β argv hr hv => ?_
  obtain ⟨β0, r1, e1⟩ := padded hr 1
  have hres : (h ++ List.replicate 1 Blk.res)[h.length]? = some .res := by simp
  have hset : (h ++ List.replicate 1 Blk.res).set h.length (.row 0 sz false ys) = h ++ [.row 0 sz false ys] := by simp
  rcases hc w S _ β0 argv h.length hres r1 ⟨hv.1, fun j c u hj hu => (hv.2 j c u hj hu).evol e1⟩ with ⟨h1, h2⟩ | ⟨cv, w', h1, S', β', g1, g2, g3⟩
  · refine .inl ⟨h1, fun cs => ?_⟩
    obtain ⟨e, w', fr, ⟨cv, he, S', β', g1, g2, g3⟩, r⟩ := h2 cs
    rw [hset] at g1 g2 g3
    exact ⟨e, w', fr, ⟨cv, he, _, _, S', β', hk, g1, g2, e1.trans g3⟩, r⟩
  · rw [hset] at g1 g2 g3
    exact .inr ⟨cv, w', h1, _, _, S', β', hk, g1, g2, e1.trans g3⟩
theorem APCall.ofMap {f : FuncId} {args : List V} {h : Hp} {k : Res → Prop} {T : TT} {kt : TypeId} {es : List (D × D)} (hc : CallMap P f args T kt es) (hk : k (.map T kt es)) : APCall P f args h k := by
  exact ⟨.map T kt es, hk, hc⟩
theorem ACall.ofMap {f : FuncId} {args : List V} {h : Hp} {k : V → Hp → Prop} {T : TT} {kt : TypeId} {es : List (D × D)} (hc : CallMap P f args T kt es)
    (hk : roomK.lenOfK h fun n => appK h [.map T kt es] fun h' => k (.map n) h') : ACall P f args h k := by
  have hk := appK_spec _ _ _ (lenOfK_spec _ _ hk)
  refine .ofV fun w S β argv hr hv => ?_
  obtain ⟨β0, r1, e1⟩ := padded hr 1
  have hres : (h ++ List.replicate 1 Blk.res)[h.length]? = some .res := by simp
  have hset : (h ++ List.replicate 1 Blk.res).set h.length (.map T kt es) = h ++ [.map T kt es] := by simp
  rcases hc w S _ β0 argv h.length hres r1 ⟨hv.1, fun j c u hj hu => (hv.2 j c u hj hu).evol e1⟩ with ⟨h1, h2⟩ | ⟨cv, w', h1, S', β', g1, g2, g3⟩
  · refine .inl ⟨h1, fun cs => ?_⟩
    obtain ⟨e, w', fr, ⟨cv, he, S', β', g1, g2, g3⟩, r⟩ := h2 cs
    rw [hset] at g1 g2 g3
    exact ⟨e, w', fr, ⟨cv, he, _, _, S', β', hk, g1, g2, e1.trans g3⟩, r⟩
  · rw [hset] at g1 g2 g3
    exact .inr ⟨cv, w', h1, _, _, S', β', hk, g1, g2, e1.trans g3⟩
theorem ACall.body {E : Env} (hE : E.Ok P) {f : FuncId} {fn : Func} (hf : P.funcs[f]? = some fn) (hname : (fn.name == "runtime.NumGoroutine") = false) (hN : E.N = fn.ntmps) {args : List V} {h : Hp} {k : V → Hp → Prop}
    (hsz : args.length ≤ fn.ntmps) (hx : exFn E fn args h k) : ACall P f args h k := .ofV (exFn_sound hE hf hname hN hsz hx)
theorem CallV.mono {f : FuncId} {args : List V} {h : Hp} {k k' : V → Hp → Prop} (hc : CallV P f args h k) (hk : ∀ v h', k v h' → k' v h') : CallV P f args h k' := by
  intro w S β argv hr hv
  rcases hc w S β argv hr hv with ⟨h1, h2⟩ | ⟨cv, w', h1, v, h', S', β', hkv, g⟩
  · refine .inl ⟨h1, fun cs => ?_⟩
    obtain ⟨e, w', fr, ⟨cv, he, v, h', S', β', hkv, g⟩, r⟩ := h2 cs
    exact ⟨e, w', fr, ⟨cv, he, v, h', S', β', hk _ _ hkv, g⟩, r⟩
  · exact .inr ⟨cv, w', h1, v, h', S', β', hk _ _ hkv, g⟩
theorem callV_lift {f : FuncId} {args : List V} {h : Hp} {k : V → Hp → Prop} (hc : liftArgsK args h fun args' h' => CallV P f args' h' k) : CallV P f args h k := by
  intro w S β argv hr hv
  obtain ⟨ds, h', hk, hl, hds⟩ := liftArgsK_spec _ _ _ hc
  obtain ⟨S', r1, e1, d1⟩ := hds w S β hr argv.toList (by simpa using hv.1) fun j c u hj hu => hv.2 j c u hj (by simpa using hu)
  rcases hk w S' β argv r1 ⟨by rw [hl]; exact hv.1, fun j c u hj hu => d1 j c u hj (by simpa using hu)⟩ with ⟨h1, h2⟩ | ⟨cv, w', h1, v, h2, S2, β2, hkv, g1, g2, g3⟩
  · refine .inl ⟨h1, fun cs => ?_⟩
    obtain ⟨e, w', fr, ⟨cv, he, v, h2, S2, β2, hkv, g1, g2, g3⟩, r⟩ := h2 cs
    exact ⟨e, w', fr, ⟨cv, he, v, h2, S2, β2, hkv, g1, g2, e1.trans g3⟩, r⟩
  · exact .inr ⟨cv, w', h1, v, h2, S2, β2, hkv, g1, g2, e1.trans g3⟩
theorem ACall.lift {f : FuncId} {args : List V} {h : Hp} {k : V → Hp → Prop} (hc : liftArgsK args h fun args' h' => ACall P f args' h' k) : ACall P f args h k := by
  refine .ofV (callV_lift ?_)
  have : (fun args' h' => ACall P f args' h' k) = fun args' h' => CallV P f args' h' k := by
    funext args' h'
    exact propext ⟨fun h => h.holds, fun h => ⟨h⟩⟩
  rw [← this]
  exact hc
def SameT (ts : Tm) : Tm → Prop
  | [] => True
  | p :: r => look ts p.1 = p.2 ∧ SameT ts r
theorem SameT.mem {ts : Tm} : ∀ {l : Tm}, SameT ts l → ∀ p ∈ l, look ts p.1 = p.2
  | q :: r, h, p, hp => by
    cases hp with
    | head => exact h.1
    | tail _ hp => exact SameT.mem h.2 p hp
theorem ALoop.of {E : Env} (hE : E.Ok P) {c : Code} {ts : Tm} {h : Hp} {k : Ex → Tm → Hp → Prop} {X : Type} (tsx : X → Tm) (hx : X → Hp) (Inv : X → Prop) (μ : X → Nat) (x0 : X) (ht : SameT ts (tsx x0)) (hh : h = hx x0) (h0 : Inv x0)
    (round : ∀ x, Inv x → exCode E c (tsx x) (hx x) fun e ts h => match e with
      | .normal => ∃ y, Wm E.N (hx x0).length ts h (tsx y) (hx y) ∧ Inv y ∧ μ y < μ x
      | e => k e ts h) : ALoop P E.N c ts h k := by
  subst hh
  refine ⟨?_⟩
  refine LP.weak (Wk.tmps ht.mem) (LP.loop tsx hx Inv μ x0 h0 fun x hi => AWP.mono (fun e ts h hk => ?_) (exCode_sound hE c _ _ _ (round x hi)))
  cases e <;> exact hk
theorem ALoop.peel {E : Env} (hE : E.Ok P) {c : Code} {ts : Tm} {h : Hp} {k : Ex → Tm → Hp → Prop} (round : exCode E c ts h fun e ts1 h1 => match e with
      | .normal => ALoop P E.N c ts1 h1 k
      | e => k e ts1 h1) : ALoop P E.N c ts h k := by
  refine ⟨LP.peel (AWP.mono (fun e ts1 h1 hk => ?_) (exCode_sound hE c _ _ _ round))⟩
  cases e
  · exact hk.holds
  all_goals exact hk
theorem Wm.fin {N m : Nat} {ts ts' : Tm} {h h' : Hp} (n : Nat) (hn : m ≤ n) (ht : SameT ts ts') (hh : h.take n = h') (h1 : ts'.all (fun p => nmV n p.2) = true) (h2 : h'.all (nmBlk n) = true) : Wm N m ts h ts' h' := by
  subst hh
  exact (Wk.tmps ht.mem).wm.trans (Wm.drop hn h1 h2)
def jumpK (ts : Tm) (h : Hp) (k : Ex → Tm → Hp → Prop) : Option Code → Prop
  | none => k .normal ts h
  | some .ret => k .ret ts h
  | some (.exit id) => k (.exit id) ts h
  | _ => False
def doneK (ts : Tm) (n : Nat) (h : Hp) (k : Ex → Tm → Hp → Prop) : Prop :=
  nthK h n fun b => match b with
    | .loop st pe N ts' ps as body => match st with
      | .busy => False
      | _ => setK h n (.loop .exhausted pe N ts' ps as body) fun h' => jumpK ts h' k pe
    | _ => False
theorem exFn_calls {E : Env} (hE : E.Ok P) {f : FuncId} {fn : Func} (hf : P.funcs[f]? = some fn) (hname : (fn.name == "runtime.NumGoroutine") = false) (hN : E.N = fn.ntmps) {args : List V} {h : Hp} {k : V → Hp → Prop}
    (hsz : args.length ≤ fn.ntmps) (hx : exFn E fn args h k) (w : World) (S : Stb) (β : Bet) (argv : Array Value) (hr : HR w S h β) (hv : VRs w S h β args argv) :
    (callFunc f argv).run P w = .ok (.enter f argv) w ∧ Calls P f argv w fun e w' => ∃ v, e = .returned v ∧ ∃ va h' S' β', k va h' ∧ HR w' S' h' β' ∧ VR w' S' h' β' va v ∧ Evol w S h β w' S' h' β' := by
  have hb : ∃ c, fn.body = some c := by
    cases hb : fn.body with
    | none => simp [exFn, hb] at hx
    | some c => exact ⟨c, rfl⟩
  obtain ⟨c, hb⟩ := hb
  have he := Go.MuLone.run_callFunc_enter hf hname hb argv w
  rcases exFn_sound hE hf hname hN hsz hx w S β argv hr hv with h | ⟨v, w', h1, _⟩
  · exact h
  · rw [he] at h1; cases h1
theorem ARange.body {E : Env} (hE : E.Ok P) {T2 : TT} (hT2 : tokB P T2 = true) (hm : P.follows .mixedOrders = true) {g : Operand} {ps : List Tmp} {as body : Code} {ts : Tm} {h : Hp} {k : Ex → Tm → Hp → Prop} {gf : FuncId} {cap : List V} {fn : Func}
    (hg : evK ts g fun v => v = .fn gf cap) (hf : P.funcs[gf]? = some fn) (hname : (fn.name == "runtime.NumGoroutine") = false) (hsz : cap.length + 1 ≤ fn.ntmps)
    (hx : roomK.lenOfK h fun n => appK h [.loop .ready none E.N ts ps as body] fun h1 => exFn (envY P T2 fn.ntmps (yldIn E n)) fn (.yld n :: cap) h1 fun _ h' => doneK ts n h' k) : ARange P E.N g ps as body ts h k := by
  refine ⟨?_⟩
  have hx := appK_spec _ _ _ (lenOfK_spec _ _ hx)
  have hg := evK_spec _ _ _ hg
  intro n C a w S β hs
  have hE2 : (envY P T2 fn.ntmps (yldIn E h.length)).Ok P := envY_ok (yldIn_ok hE _) hT2 hm
  obtain ⟨lb, hlb1, hlb2⟩ : ∃ lb, a.eval g = .func (.func gf) #[] lb ∧ VRs w S h β cap lb := by
    have := ev_rel hs.hr.glob hs.tr g
    rw [hg] at this
    generalize hge : a.eval g = ge at this
    cases this with
    | fn _ _ arr h1 h2 => exact ⟨arr, rfl, h1, h2⟩
  refine wpIn_rangeFunc fun fid hfid => ?_
  -- the record is laid
  have lay : ∃ (l : Nat) (mark : List Deferred) (w₁ : World) (β1 : Bet), (Instr.enterLoop fid a.tmps ps.toArray as body (FF C.ro).round).run P w = .ok (l, mark) w₁ ∧
      HR w₁ S (h ++ [.loop .ready none E.N ts ps as body]) β1 ∧ Evol w S h β w₁ S (h ++ [.loop .ready none E.N ts ps as body]) β1 ∧ β1[h.length]? = some (some (l, 0)) ∧
      (∀ d ∈ mark, ∃ r, d.target = .collected r ∧ w.heap.size ≤ r ∧ w₁.heap[r]? = some (.deferred (some [])) ∧ ¬ img β1 r) ∧ mark.length ≤ 1 := by
    -- from a world that has grown by unnamed blocks alone
    have core : ∀ (w' : World) (D : Nat), HR w' S h β → Evol w S h β w' S h β →
        ∃ β1, HR (w'.alloc (.loop { state := .ready, pending := none, fn := fid, tmps := a.tmps, params := ps.toArray, assign := as, body, defers := D })) S (h ++ [.loop .ready none E.N ts ps as body]) β1 ∧
          Evol w S h β (w'.alloc (.loop { state := .ready, pending := none, fn := fid, tmps := a.tmps, params := ps.toArray, assign := as, body, defers := D })) S (h ++ [.loop .ready none E.N ts ps as body]) β1 ∧ β1[h.length]? = some (some (w'.heap.size, 0)) ∧
          (∀ r, r < w'.heap.size → ¬ img β r → ¬ img β1 r) := fun w' D hr' hE' => by
      obtain ⟨β0, r1, e1⟩ := padded hr' 1
      have hres : (h ++ List.replicate 1 Blk.res)[h.length]? = some .res := by simp
      have hset : (h ++ List.replicate 1 Blk.res).set h.length (.loop .ready none E.N ts ps as body) = h ++ [.loop .ready none E.N ts ps as body] := by simp
      have ht' : TR w' S h β ts a.tmps := fun t => (hs.tr t).evol hE'
      obtain ⟨r2, e2⟩ := alloced r1 hres (.loop { state := .ready, pending := none, fn := fid, tmps := a.tmps, params := ps.toArray, assign := as, body, defers := D }) (.loop .ready none E.N ts ps as body) 0
        (frozen_alloc_obj _ _ (by intro c t f h; cases h)) fun E3 hno hb hheap => ⟨_, _, hb, hheap, rfl, by simp, rfl, rfl, hs.size, fun t => ((ht' t).evol e1).evol E3, hno, rfl⟩
      rw [hset] at r2 e2
      have hl0 : h.length < β0.length := by have := r1.len; simp at this; omega
      refine ⟨_, r2, hE'.trans (e1.trans e2), by simp [hl0], fun r hlt hni => ?_⟩
      rintro hi
      rcases e2.imgs r hi with hi | hi
      · rcases e1.imgs r hi with hi | hi
        · exact hni hi
        · omega
      · omega
    cases hro : C.ro with
    | none =>
      obtain ⟨a1, a2⟩ := alloc_free hs.hr (.deferred (some [])) (by intro c t f h; cases h)
      obtain ⟨β1, c1, c2, c3, c4⟩ := core (w.alloc (.deferred (some []))) w.heap.size a1 a2
      refine ⟨_, _, _, β1, run_enterLoop_outer fid a.tmps ps.toArray as body, c1, c2, by rw [c3, World.size_alloc], fun d hd => ?_, by simp⟩
      simp only [List.mem_singleton] at hd; subst hd
      have hsz : w.heap.size < (w.alloc (.deferred (some []))).heap.size := by show w.heap.size < (w.heap.push _).size; simp
      refine ⟨w.heap.size, rfl, Nat.le_refl _, ?_, c4 _ hsz fun ⟨m, p, hm⟩ => ?_⟩
      · rw [old_at _ _ _ hsz]; exact World.alloc_heap_new w _
      · have := hs.hr.lt hm; omega
    | some l0 =>
      obtain ⟨r0, hr0⟩ := hs.round l0 hro
      obtain ⟨β1, c1, c2, c3, _⟩ := core w r0.defers hs.hr (Evol.refl _ _ _ _)
      refine ⟨w.heap.size, [], _, β1, ?_, c1, c2, c3, by simp, by simp⟩
      show (Instr.enterLoop fid a.tmps ps.toArray as body (some l0)).run P w = _
      unfold Instr.enterLoop
      simp only [Sem.run_bind, run_getLoop hr0, run_newObj_alloc, Result.andThen, Sem.run_pure]
  obtain ⟨l, mark, w₁, β1, l1, l2, l3, l4, l5, l6⟩ := lay
  have hcap : VRs w₁ S (h ++ [.loop .ready none E.N ts ps as body]) β1 (.yld h.length :: cap) (#[.func (.yield l) #[] #[]] ++ lb) := by
    refine ⟨by simp [hlb2.1]; omega, fun j c u hj hu => ?_⟩
    cases j with
    | zero =>
      simp at hj; subst hj
      have : (#[Value.func (.yield l) #[] #[]] ++ lb)[0]? = some (.func (.yield l) #[] #[]) := by
        rw [Array.getElem?_append_left (by simp)]; rfl
      rw [this] at hu; cases hu
      exact .yld (by simp [isLoop]) fun _ => l4
    | succ j =>
      rw [Array.getElem?_append_right (by simp)] at hu
      exact (hlb2.2 j c u (by simpa using hj) (by simpa using hu)).evol l3
  obtain ⟨k1, k2⟩ := exFn_calls hE2 hf hname rfl (by simpa using hsz) hx w₁ S β1 _ l2 hcap
  refine ⟨l, mark, w₁, { target := .fn (.func gf) lb, args := #[.func (.yield l) #[] #[]] }, w₁, gf, _, w₁, l1, ?_, fun f' _ => FF.all C.ro f', ?_, fun h => by simp [FF, Fence.wide] at h, CallsIn.mono (callsIn_FF.2 k2) fun e w' he => ?_⟩
  · simp only [resolve, hlb1]
    simp [go_sem]
  · simp only [invoke]
    exact k1
  · obtain ⟨v, rfl, va, h', S', β', hk, q1, q2, q3⟩ := he
    unfold doneK at hk
    obtain ⟨b3, hn3, hk⟩ := nthK_iff.1 hk
    split at hk
    case h_2 => exact hk.elim
    rename_i st pe N3 ts3 ps3 as3 body3
    have hn1 : (h ++ [Blk.loop .ready none E.N ts ps as body])[h.length]? = some (.loop .ready none E.N ts ps as body) := by simp
    obtain ⟨b4, l', p1, p2, p3, _, _, _, _, _, p9, p10, p11⟩ := loop_upd q1 hn3 .exhausted pe
    have hbb := loop_stays q3 q1 hn1 l4 hn3
    rw [p1] at hbb; simp at hbb; subst hbb
    have hp : { l' with state := stOf LState.exhausted, pending := pe } = { l' with state := .exhausted } := by rw [← p3]; rfl
    rw [hp] at p10 p11
    have hnb : st ≠ .busy := by rintro rfl; exact hk.elim
    have hk : setK h' h.length (.loop .exhausted pe N3 ts3 ps3 as3 body3) fun h'' => jumpK ts h'' k pe := by
      cases st
      · exact hk
      · exact hk.elim
      · exact hk
      · exact hk
    have hk := (setK_iff.1 hk).2
    have eT := l3.trans (q3.trans p11)
    have hst : St E.N C { a with defers := mark ++ a.defers } (w'.putObj b4 (.loop { l' with state := .exhausted })) S' ts (h'.set h.length (.loop .exhausted pe N3 ts3 ps3 as3 body3)) β' := by
      have h0 := hs.evol eT p10
      refine ⟨h0.hr, h0.tr, h0.size, ⟨?_, fun d hd => ?_⟩, h0.round, h0.base⟩
      · refine List.pairwise_append.2 ⟨?_, h0.marks.1, fun d hd e he => ?_⟩
        · match mark, l6 with
          | [], _ => exact .nil
          | [x], _ => exact .cons (by simp) .nil
        · obtain ⟨r, r1, r2, _, _⟩ := l5 d hd
          obtain ⟨r', s1, _, s3, _⟩ := hs.marks.2 e he
          rw [r1, s1]
          intro hh
          have : r = r' := by simpa using hh
          have := (Array.getElem?_eq_some_iff.1 s3).1
          omega
      · rcases List.mem_append.1 hd with hd | hd
        · obtain ⟨r, r1, r2, r3, r4⟩ := l5 d hd
          have e2 := q3.trans p11
          have hlt := (Array.getElem?_eq_some_iff.1 r3).1
          refine ⟨r, r1, Nat.le_trans hs.base r2, by rw [e2.frame r hlt r4]; exact r3, fun hi => ?_⟩
          rcases e2.imgs r hi with hi | hi
          · exact r4 hi
          · omega
        · exact h0.marks.2 d hd
    refine ⟨pe, _, by rw [← p3]; exact run_endLoop p2 (by rw [p9]; cases st <;> simp [stOf] at hnb ⊢), ?_⟩
    have hP : ∀ (x : Ex), k x ts (h'.set h.length (.loop .exhausted pe N3 ts3 ps3 as3 body3)) → PostE E.N C w S h β k (exitOf x) { a with defers := mark ++ a.defers } (w'.putObj b4 (.loop { l' with state := .exhausted })) := fun x hk => (PostE.here x hst hk).then eT
    unfold jumpK at hk
    split at hk
    · exact hP .normal hk
    · exact wpIn_ret (hP .ret hk)
    · exact wpIn_exit (hP (.exit _) hk)
    · exact hk.elim
end Go.PM
/-
  PM, part 24: what walks are made with.
-/
set_option linter.unusedSectionVars false
namespace Go.PM
variable [Glob]
variable {P : Program}
abbrev I (n : Int) : D := .i .i64 n
abbrev B (x : Bool) : D := .b x
theorem wrap_nat (i : Nat) (h : i < 9223372036854775807) : IntKind.i64.wrap ((i : Int) + 1) = ((i + 1 : Nat) : Int) := by
  rw [wrap_id (by omega)]; omega
theorem drop_get {α : Type} {l : List α} {i : Nat} (h : i < l.length) : ∃ x, l[i]? = some x ∧ l.drop i = x :: l.drop (i + 1) :=
  ⟨l[i], List.getElem?_eq_getElem h, List.drop_eq_getElem_cons h⟩
theorem map_get {α β : Type} {f : α → β} {l : List α} {i : Nat} {x : α} (h : l[i]? = some x) : (l.map f)[((i : Nat) : Int).toNat]? = some (f x) := by simp [h]
def over (ov ts : Tm) : Tm := ov ++ ts.filter fun p => !(ov.any fun q => Nat.beq p.1 q.1)
def hset : Hp → List (Nat × Blk) → Hp
  | h, [] => h
  | h, p :: r => hset (h.set p.1 p.2) r
theorem ALoop.at {E : Env} (hE : E.Ok P) {c : Code} {ts : Tm} {h : Hp} {k : Ex → Tm → Hp → Prop} {X : Type} (tv : X → Tm) (hv : X → List (Nat × Blk)) (Inv : X → Prop) (μ : X → Nat) (x0 : X) (ht : SameT ts (over (tv x0) ts)) (hh : h = hset h (hv x0)) (h0 : Inv x0)
    (round : ∀ x, Inv x → exCode E c (over (tv x) ts) (hset h (hv x)) fun e ts' h' => match e with
      | .normal => ∃ y, Wm E.N h.length ts' h' (over (tv y) ts) (hset h (hv y)) ∧ Inv y ∧ μ y < μ x
      | e => k e ts' h') : ALoop P E.N c ts h k := by
  refine ALoop.of hE (X := X) (fun x => over (tv x) ts) (fun x => hset h (hv x)) Inv μ x0 ht hh h0 fun x hi => ?_
  have := round x hi
  rw [← hh]
  exact this
theorem Prep.skip {N : Nat} {ts : Tm} {h : Hp} {k : Tm → Hp → Prop} (hk : k ts h) : Prep (Wk N) ts h k := Prep.mk ts h Wk.refl hk
theorem Wm.end {N m : Nat} {ts ts' : Tm} {h h' : Hp} (ht : SameT ts ts') (hh : h.take m = h') (h1 : ts'.all (fun p => nmV m p.2) = true) (h2 : h'.all (nmBlk m) = true) : Wm N m ts h ts' h' :=
  Wm.fin m (Nat.le_refl _) ht hh h1 h2
theorem Nam.dec {x : Bool} {p : Prop} [Decidable p] {K : Bool → Prop} (e : x = decide p) (a : p → K true) (b : ¬p → K false) : Nam x K := by
  refine Nam.mk rfl ?_
  rw [e]
  by_cases h : p
  · rw [decide_eq_true h]; exact a h
  · rw [decide_eq_false h]; exact b h
theorem ACall.ofB {f : FuncId} {args : List V} {h : Hp} {k : V → Hp → Prop} {x : Bool} (hc : CallP P f args (retD [.b x])) (a : x = true → k (.d (.b true)) h) (b : x = false → k (.d (.b false)) h) : ACall P f args h k := by
  refine ACall.of hc ?_
  cases x
  · exact b rfl
  · exact a rfl
theorem APCall.ofB {f : FuncId} {args : List V} {h : Hp} {k : Res → Prop} {x : Bool} (hc : CallP P f args (retD [.b x])) (a : x = true → k (.d (.d (.b true)))) (b : x = false → k (.d (.d (.b false)))) : APCall P f args h k := by
  refine APCall.of hc ?_
  cases x
  · exact b rfl
  · exact a rfl
abbrev SL (sz : Nat) (xs : List D) : D := .sl sz false xs
theorem ACall.le {f : FuncId} {args args' : List V} {h : Hp} {k : V → Hp → Prop} {v : V} (hle : VLes args args') (hc : CallP P f args' v) (hk : k v h) : ACall P f args h k := .of (hc.le hle) hk
theorem APCall.le {f : FuncId} {args args' : List V} {h : Hp} {k : Res → Prop} {v : V} (hle : VLes args args') (hc : CallP P f args' v) (hk : k (.d v)) : APCall P f args h k := .of (hc.le hle) hk
theorem VLe.refl (v : V) : VLe v v := by
  cases v with
  | d x => exact DLe.refl x
  | tup xs =>
    show VLe.VLesT xs xs
    induction xs with
    | nil => rfl
    | cons x xs ih =>
      refine ⟨?_, ih⟩
      cases x <;> first | exact DLe.refl _ | rfl
  | _ => rfl
theorem VLe.d {x y : D} (h : DLe x y) : VLe (.d x) (.d y) := h
theorem NilQ.both {p : Prop} {K : Bool → Prop} (a : p → K true) (b : K false) : NilQ p K := ⟨⟨a, b⟩⟩
def idxFrom {α : Type} (p : α → Prop) [DecidablePred p] : List α → Nat → Int
  | [], _ => -1
  | x :: r, i => if p x then (i : Int) else idxFrom p r (i + 1)
def idxM {α : Type} (p : α → Prop) [DecidablePred p] (l : List α) : Int := idxFrom p l 0
theorem Wk.virtT {N : Nat} {ts : Tm} {h : Hp} {t a sz : Nat} (ro : Bool) (hsz : 0 < sz) (ht : look ts t = .d (.sl a true [])) : Wk N ts h ((t, .sref h.length 0 0 0 false) :: ts) (h ++ [.row 0 sz ro []]) := fun C act w S β hs => by
  obtain ⟨β0, r1, e1⟩ := padded hs.hr 1
  have hres : (h ++ List.replicate 1 Blk.res)[h.length]? = some .res := by simp
  have hnone : β0[h.length]? = some none := by have := r1.blk _ _ hres; simpa [BR] using this
  have hset : (h ++ List.replicate 1 Blk.res).set h.length (.row 0 sz ro []) = h ++ [.row 0 sz ro []] := by simp
  have hv := hs.tr t
  rw [ht] at hv
  obtain ⟨ad, had⟩ : ∃ ad, act.tmps.getD t undef = .slice ad 0 0 := by
    generalize act.tmps.getD t undef = cv at hv
    cases hv with
    | d hd => cases hd with
      | sl _ _ _ ad cap b off uf h1 h2 => exact ⟨ad, by rw [h2 rfl]; rfl⟩
  obtain ⟨r2, e2, v2⟩ := virtual_row r1 hres hnone 0 sz ro hsz trivial ad
  rw [hset] at r2 e2 v2
  have h0 := hs.evol (e1.trans e2) r2
  refine ⟨S, β0, ⟨r2, fun t' => ?_, h0.size, h0.marks, h0.round, h0.base⟩, e1.trans e2⟩
  simp only [look]
  cases hb : Nat.beq t t' with
  | true =>
    have := Nat.eq_of_beq_eq_true hb
    subst this
    rw [had]; exact v2
  | false => exact h0.tr t'
theorem ALoop.weak {N : Nat} {c : Code} {ts ts' : Tm} {h h' : Hp} {k : Ex → Tm → Hp → Prop} (hw : Wk N ts h ts' h') (hl : ALoop P N c ts' h' k) : ALoop P N c ts h k := ⟨LP.weak hw hl.holds⟩
def dropT (l : List Nat) (ts : Tm) : Tm := ts.filter fun p => !(l.any fun q => Nat.beq q p.1)
theorem look_dropT (l : List Nat) (t : Nat) : ∀ ts : Tm, look (dropT l ts) t = .u ∨ look (dropT l ts) t = look ts t
  | [] => .inl rfl
  | (j, v) :: r => by
    have ih := look_dropT l t r
    have hl : dropT l ((j, v) :: r) = (if (!(l.any fun q => Nat.beq q j)) = true then (j, v) :: dropT l r else dropT l r) := by
      simp only [dropT, List.filter_cons]
    by_cases hb : (l.any fun q => Nat.beq q j) = true
    · rw [hl, if_neg (by simp [hb])]
      simp only [look]
      cases hj : Nat.beq j t with
      | false => exact ih
      | true =>
        have hjt := Nat.eq_of_beq_eq_true hj
        subst hjt
        refine .inl ?_
        have : ∀ ts : Tm, look (dropT l ts) j = .u := by
          intro ts
          induction ts with
          | nil => rfl
          | cons q r ih2 =>
            simp only [dropT, List.filter_cons] at ih2 ⊢
            split
            · rename_i h1
              simp only [look]
              cases hq : Nat.beq q.1 j with
              | false => exact ih2
              | true =>
                have := Nat.eq_of_beq_eq_true hq
                rw [this, hb] at h1; cases h1
            · exact ih2
        exact this r
    · rw [hl, if_pos (by rw [Bool.not_eq_true] at hb; rw [hb]; rfl)]
      simp only [look]
      cases Nat.beq j t with
      | true => exact .inr rfl
      | false => exact ih
theorem ALoop.drop {N : Nat} {c : Code} {ts : Tm} {h : Hp} {k : Ex → Tm → Hp → Prop} (l : List Nat) (hx : ALoop P N c (dropT l ts) h k) : ALoop P N c ts h k :=
  ALoop.weak (fun C a w S β hs => ⟨S, β, ⟨hs.hr, fun t => by
    rcases look_dropT l t ts with e | e
    · rw [e]; exact .u _
    · rw [e]; exact hs.tr t, hs.size, hs.marks, hs.round, hs.base⟩, Evol.refl _ _ _ _⟩) hx
theorem ALoop.virt {N : Nat} {c : Code} {ts : Tm} {h : Hp} {k : Ex → Tm → Hp → Prop} (t a sz : Nat) (ro : Bool) (hsz : 0 < sz) (ht : look ts t = .d (.sl a true []))
    (hl : roomK.lenOfK h fun n => appK h [.row 0 sz ro []] fun h' => ALoop P N c ((t, .sref n 0 0 0 false) :: ts) h' k) : ALoop P N c ts h k :=
  ALoop.weak (Wk.virtT ro hsz ht) (appK_spec _ _ _ (lenOfK_spec _ _ hl))
theorem Wk.cell {N : Nat} {ts : Tm} {h : Hp} {n i m ver lo len sz : Nat} {ro full : Bool} {xs ds : List D} (hn : h[n]? = some (.var ((ds.map .d).set i (.sref m ver lo len full)))) (hm : h[m]? = some (.row ver sz ro xs)) (hl : lo + len ≤ xs.length) (hi : i < ds.length) :
    Wk N ts h ts ((h.set m (.row ver sz true xs)).set n (.vard (ds.set i (.sl sz full ((xs.drop lo).take len))))) := fun C act w S β hs => by
  have hnm : m ≠ n := by rintro rfl; rw [hn] at hm; cases hm
  have hml : m < h.length := (List.getElem?_eq_some_iff.1 hm).1
  have hnl : n < h.length := (List.getElem?_eq_some_iff.1 hn).1
  obtain ⟨b, cells, elem, g1, g2, g3, g4, g5⟩ := hs.hr.blk n _ hn
  obtain ⟨r1, e1⟩ := freeze hs.hr hm
  have hil : i < cells.size := by rw [g3]; simpa using hi
  have hd : DR w (fixS S β m (xs.length * sz)) (.sl sz full ((xs.drop lo).take len)) cells[i] :=
    sref_data hs.hr hm hl (g4 i _ cells[i] (by simp [hi]) (Array.getElem?_eq_getElem hil)).2
  have hn1 : (h.set m (.row ver sz true xs))[n]? = some (.var ((ds.map .d).set i (.sref m ver lo len full))) := by rw [List.getElem?_set_ne hnm]; exact hn
  have hβ : β.set n (some (b, 0)) = β := by
    obtain ⟨hl, he⟩ := List.getElem?_eq_some_iff.1 g1
    conv => rhs; rw [← List.set_getElem_self hl]
    rw [he]
  have := upd (w' := w) r1 hn1 (blk' := .vard (ds.set i (.sl sz full ((xs.drop lo).take len)))) (some (b, 0)) (Nat.le_refl _) (fun _ _ _ => rfl) (fun _ _ c e f _ h => ⟨c, h, rfl⟩) (fun _ _ l _ h => ⟨l, h⟩) (fun _ => rfl) (fun _ _ _ _ _ => rfl)
    (fun b' p hb => by cases hb; exact .inl ⟨0, g1⟩) (by rw [g1]; exact .inr (.inl ⟨.inr ⟨_, rfl⟩, rfl⟩)) (fun E => ?_)
  · rw [hβ] at this
    have E := e1.trans this.2
    exact ⟨_, β, hs.evol E this.1, E⟩
  · rw [hβ] at E ⊢
    refine ⟨b, cells, elem, g1, g2, by rw [g3]; simp, fun j c u hj hu => ?_, fun o ho => ?_⟩
    · by_cases hij : i = j
      · subst hij
        simp [hi] at hj
        subst hj
        rw [Array.getElem?_eq_getElem hil] at hu
        cases hu
        exact ⟨rfl, hd.evol E.sub E.cell⟩
      · rw [List.getElem?_set_ne hij] at hj
        obtain ⟨f1, f2⟩ := g4 j (.d c) u (by rw [List.getElem?_set_ne hij]; simp [hj]) hu
        refine ⟨f1, ?_⟩
        cases f2 with
        | d f2 => exact f2.evol (e1.trans E).sub (e1.trans E).cell
    · rcases ho with ho | ⟨base, hb, _⟩
      · exact g5 o ho
      · exact hnm (r1.inj m n b base 0 hb g1)
theorem whole {α : Type} {l : List α} {n : Nat} (h : n = l.length) : (l.drop 0).take n = l := by subst h; simp
def LoopN (P : Program) (N : Nat) (c : Code) (k : Ex → Tm → Hp → Prop) : Nat → Tm → Hp → Prop
  | 0, _, _ => False
  | n + 1, ts, h => AWP P N c ts h fun e ts' h' => match e with
    | .normal => LoopN P N c k n ts' h'
    | e => k e ts' h'
theorem AWP.rounds {N : Nat} {c : Code} {k : Ex → Tm → Hp → Prop} {n : Nat} {ts : Tm} {h : Hp} (hl : LoopN P N c k n ts h) : LP P N c ts h k := by
  refine LP.loop (X := Nat × Tm × Hp) (fun x => x.2.1) (fun x => x.2.2) (fun x => LoopN P N c k x.1 x.2.1 x.2.2) (fun x => x.1) (n, ts, h) hl ?_
  rintro ⟨m, ts1, h1⟩ hi
  cases m with
  | zero => exact hi.elim
  | succ m =>
    refine AWP.mono (fun e ts2 h2 hk => ?_) hi
    cases e with
    | normal => exact ⟨(m, ts2, h2), Wk.refl.wm, hk, Nat.lt_succ_self m⟩
    | exit id => exact hk
    | ret => exact hk
structure ALoopN (P : Program) (N : Nat) (c : Code) (n : Nat) (ts : Tm) (h : Hp) (k : Ex → Tm → Hp → Prop) : Prop where
  wrap ::
  holds : LoopN P N c k n ts h
theorem ALoop.rounds {N : Nat} {c : Code} {ts : Tm} {h : Hp} {k : Ex → Tm → Hp → Prop} (n : Nat) (hl : ALoopN P N c n ts h k) : ALoop P N c ts h k := ⟨AWP.rounds hl.holds⟩
theorem ALoopN.step {E : Env} (hE : E.Ok P) {c : Code} {n : Nat} {ts : Tm} {h : Hp} {k : Ex → Tm → Hp → Prop}
    (hx : exCode E c ts h fun e ts' h' => match e with
      | .normal => ALoopN P E.N c n ts' h' k
      | e => k e ts' h') : ALoopN P E.N c (n + 1) ts h k := by
  refine ⟨AWP.mono (fun e ts2 h2 hk => ?_) (exCode_sound hE c _ _ _ hx)⟩
  cases e with
  | normal => exact hk.holds
  | exit id => exact hk
  | ret => exact hk
theorem Wk.virtC {N : Nat} {ts : Tm} {h : Hp} {n i a sz : Nat} {cs : List D} (ro : Bool) (hsz : 0 < sz) (hn : h[n]? = some (.vard cs)) (hi : cs[i]? = some (.sl a true [])) :
    Wk N ts h ts ((h ++ [Blk.row 0 sz ro []]).set n (.var ((cs.map V.d).set i (.sref h.length 0 0 0 false)))) := fun C act w S β hs => by
  have hil : i < cs.length := (List.getElem?_eq_some_iff.1 hi).1
  have hnl : n < h.length := (List.getElem?_eq_some_iff.1 hn).1
  obtain ⟨β0, r1, e1⟩ := padded hs.hr 1
  have hres : (h ++ List.replicate 1 Blk.res)[h.length]? = some .res := by simp
  have hnone : β0[h.length]? = some none := by have := r1.blk _ _ hres; simpa [BR] using this
  have hset : (h ++ List.replicate 1 Blk.res).set h.length (.row 0 sz ro []) = h ++ [.row 0 sz ro []] := by simp
  obtain ⟨b0, cells0, elem0, k1, k2, k3, k4, k5⟩ := hs.hr.blk n _ hn
  have hcl : i < cells0.size := by omega
  obtain ⟨ad, had⟩ : ∃ ad, cells0[i] = .slice ad 0 0 := by
    have := (k4 i _ cells0[i] hi (Array.getElem?_eq_getElem hcl)).2
    generalize cells0[i] = cv at this
    cases this with
    | sl _ _ _ ad cap b off uf h1 h2 => exact ⟨ad, by rw [h2 rfl]; rfl⟩
  obtain ⟨r2, e2, v2⟩ := virtual_row r1 hres hnone 0 sz ro hsz trivial ad
  rw [hset] at r2 e2 v2
  have e12 := e1.trans e2
  have hn2 : (h ++ [Blk.row 0 sz ro []])[n]? = some (.vard cs) := by rw [List.getElem?_append_left hnl]; exact hn
  obtain ⟨b, cells, elem, g1, g2, g3, g4, g5⟩ := r2.blk n _ hn2
  have hβ : β0.set n (some (b, 0)) = β0 := by
    obtain ⟨hl, he⟩ := List.getElem?_eq_some_iff.1 g1
    conv => rhs; rw [← List.set_getElem_self hl]
    rw [he]
  have hb : b = b0 := by
    obtain ⟨x, hx, ev⟩ := e12.blk n _ hn
    rw [hn2] at hx
    cases hx
    rcases ev with h' | ⟨_, ht⟩ | ⟨_, _, _, h', _⟩
    · cases h'
    · rw [g1, k1] at ht; simp at ht; exact ht
    · cases h'
  subst hb
  have hcell : cells = cells0 := by rw [k2] at g2; cases g2; rfl
  subst hcell
  have := upd (w' := w) r2 hn2 (blk' := .var ((cs.map .d).set i (.sref h.length 0 0 0 false))) (some (b, 0)) (Nat.le_refl _) (fun _ _ _ => rfl) (fun _ _ c e f _ h => ⟨c, h, rfl⟩) (fun _ _ l _ h => ⟨l, h⟩) (fun _ => rfl) (fun _ _ _ _ _ => rfl)
    (fun b' p hb => by cases hb; exact .inl ⟨0, g1⟩) (by rw [g1]; exact .inr (.inl ⟨.inl ⟨_, rfl⟩, rfl⟩)) (fun E => ?_)
  · rw [hβ] at this
    have E := e12.trans this.2
    exact ⟨_, β0, hs.evol E this.1, E⟩
  · rw [hβ] at E ⊢
    refine ⟨b, cells, elem, g1, g2, by rw [g3]; simp, fun j c u hj hu => ?_, g5⟩
    by_cases hij : i = j
    · subst hij
      simp [hil] at hj
      subst hj
      rw [Array.getElem?_eq_getElem hcl] at hu
      cases hu
      rw [had]
      exact ⟨rfl, v2.evol E⟩
    · rw [List.getElem?_set_ne hij, List.getElem?_map] at hj
      cases hd : cs[j]? with
      | none => simp [hd] at hj
      | some d =>
        simp [hd] at hj
        subst hj
        obtain ⟨f1, f2⟩ := g4 j d u hd hu
        exact ⟨f1, .d (f2.evol E.sub E.cell)⟩
theorem ALoop.virtC {N : Nat} {c : Code} {ts : Tm} {h : Hp} {k : Ex → Tm → Hp → Prop} (n i a sz : Nat) {cs : List D} (ro : Bool) (hsz : 0 < sz) (hn : h[n]? = some (.vard cs)) (hi : cs[i]? = some (.sl a true []))
    (hl : roomK.lenOfK h fun m => appK h [.row 0 sz ro []] fun h' => ALoop P N c ts (h'.set n (.var ((cs.map .d).set i (.sref m 0 0 0 false)))) k) : ALoop P N c ts h k :=
  ALoop.weak (Wk.virtC ro hsz hn hi) (appK_spec _ _ _ (lenOfK_spec _ _ hl))
theorem dT {K : Bool → Prop} (a : K true) : Dec (true = true) K := Dec.t rfl a
theorem dU {K : Bool → Prop} (a : K true) : Dec (false = false) K := Dec.t rfl a
theorem dF {K : Bool → Prop} (a : K false) : Dec (true = false) K := Dec.f (by decide) a
theorem dG {K : Bool → Prop} (a : K false) : Dec (false = true) K := Dec.f (by decide) a
theorem dS {p : Prop} [Decidable p] {K : Bool → Prop} (a : p → K true) (b : ¬p → K false) : Dec p K := Dec.split a b
theorem aT {p : Prop} [Decidable p] {K : Bool → Prop} (a : K true) (h : p := by omega) : Dec p K := Dec.t h a
theorem aF {p : Prop} [Decidable p] {K : Bool → Prop} (a : K false) (h : ¬p := by omega) : Dec p K := Dec.f h a
theorem aW {n : Int} {K : Int → Prop} (a : K n) (h : -9223372036854775808 ≤ n ∧ n < 9223372036854775808 := by omega) : Wr .i64 n K := Wr.id h a
theorem aC {A B : Prop} (b : B) (a : A := by first | omega | exact rfl | (simp only [List.length_map]; omega) | (simp [room]; done) | (simp [room]; omega) | (simp [dropL, room]; done) | (simp [dropL, room]; omega)) : Chk A B := Chk.mk a b
theorem aL {α β : Type} {f : α → β} {l : List α} {K : Nat → Prop} (k : K l.length) : Nam (l.map f).length K := Nam.mk (List.length_map _) k
theorem aD {d : D} {A : Prop} (a : A) (h : d.flat = true := by assumption) : brN d.flat.toNat A False := chk_t h a
theorem aB {x : Bool} {A B : Prop} (a : x = true → A) (b : x = false → B) : brN x.toNat A B := br_mk a b
theorem sam {ts l : Tm} (h : SameT ts l := by repeat (first | exact trivial | refine And.intro rfl ?_ | refine And.intro (congrArg (fun n => V.d (I n)) (wrap_nat _ (by omega))) ?_)) : SameT ts l := h
end Go.PM
