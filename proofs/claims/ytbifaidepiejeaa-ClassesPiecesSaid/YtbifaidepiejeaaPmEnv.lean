/-
  PM, part 23: the environment, and its rules.
-/
import Derived.Test.YtbifaidepiejeaaPmRange
set_option linter.unusedSectionVars false
namespace Go.PM
variable [Glob]
variable {P : Program}

/-! ### The stops of an evaluation -/

structure ACall (P : Program) (f : FuncId) (args : List V) (h : Hp) (k : V → Hp → Prop) : Prop where
  wrap ::
  holds : CallV P f args h k
structure APCall (P : Program) (f : FuncId) (args : List V) (h : Hp) (k : Res → Prop) : Prop where
  wrap ::
  holds : ∃ r, k r ∧ CallR P f args h r
structure ALoop (P : Program) (N : Nat) (c : Code) (ts : Tm) (h : Hp) (k : Ex → Tm → Hp → Prop) : Prop where
  wrap ::
  holds : LP P N c ts h k
structure ARange (P : Program) (N : Nat) (g : Operand) (ps : List Tmp) (as body : Code) (ts : Tm) (h : Hp) (k : Ex → Tm → Hp → Prop) : Prop where
  wrap ::
  holds : AWP P N (.rangeFunc g ps.toArray as body) ts h k

def envY (P : Program) (T : TT) (N : Nat) (yld : Nat → List V → Hp → (V → Hp → Prop) → Prop) : Env where
  T := T
  N := N
  weak := Wk N
  call := ACall P
  yld := yld
  pcall := fun f args h k => APCall P f args h k
  loop := ALoop P N
  range := ARange P N

def noYld : Nat → List V → Hp → (V → Hp → Prop) → Prop := fun _ _ _ _ => False

def envOf (P : Program) (T : TT) (N : Nat) : Env := envY P T N noYld

/-- The yields of a function that is called by a range in the environment E, the loop's name being n. -/
def yldIn (E : Env) (n : Nat) : Nat → List V → Hp → (V → Hp → Prop) → Prop := fun nm vs h k => match Nat.beq nm n with
  | true => yieldK E nm vs h k
  | false => E.yld nm vs h k

def YldOk (P : Program) (yld : Nat → List V → Hp → (V → Hp → Prop) → Prop) : Prop :=
  ∀ (o : Oper) (c : Call) (f : Operand) (nm : Nat) vs h k, o.op = .call c → c.callee = .value f → yld nm vs h k →
    ∀ (n : Nat) (ro : Option Nat) (a : Act) (w : World) (S : Stb) (β : Bet), HR w S h β → VR w S h β (.yld nm) (a.eval f) → OR w S h β a.eval c.args.toList vs →
      ∀ (next : Act → World → Prop) (Q : Exit → Act → World → Prop),
        (∀ v h' w' S' β' cv, k v h' → HR w' S' h' β' → VR w' S' h' β' v cv → Evol w S h β w' S' h' β' → next (a.put o.dst cv) w') → o.wpIn (FF ro) n P a w next Q

theorem yldIn_ok {E : Env} (hE : E.Ok P) (n : Nat) : YldOk P (yldIn E n) := fun o c f nm vs h k ho hc hx => by
  unfold yldIn at hx
  split at hx
  · exact yieldK_ok hE o c f nm vs h k ho hc hx
  · exact hE.yld o c f nm vs h k ho hc hx

theorem envY_ok {T : TT} {N : Nat} {yld} (hy : YldOk P yld) (hT : tokB P T = true) (hm : P.follows .mixedOrders = true) : (envY P T N yld).Ok P where
  weak := fun _ _ _ _ h => h
  types := hT
  mixed := hm
  call := fun f args h k hx => by
    have hx : ACall P f args h k := hx
    exact hx.holds
  pcall := fun f args h k hx => by
    have hx : APCall P f args h k := hx
    exact hx.holds
  yld := hy
  loop := fun c ts h k hx => by
    have hx : ALoop P N c ts h k := hx
    exact .of_LP hx.holds
  range := fun g ps as body ts h k hx => by
    have hx : ARange P N g ps.toList as body ts h k := hx
    have hx2 : AWP P N (.rangeFunc g ps as body) ts h k := by simpa using hx.holds
    exact hx2

theorem envOf_ok {T : TT} {N : Nat} (hT : tokB P T = true) (hm : P.follows .mixedOrders = true) : (envOf P T N).Ok P := envY_ok (fun _ _ _ _ _ _ _ _ _ hx => hx.elim) hT hm

/-! ### Calls -/

/-- A pure contract in any heap. -/
theorem CallP.callV {f : FuncId} {args : List V} {h : Hp} {k : V → Hp → Prop} {v : V} (hc : CallP P f args v) (hk : k v h) : CallV P f args h k := by
  intro w S β argv hr hv
  have := hc w S h β argv hr hv
  rcases this with ⟨h1, h2⟩ | ⟨v', w', h1, S', β', h2⟩
  · refine .inl ⟨h1, fun cs => ?_⟩
    obtain ⟨e, w', fr, ⟨cv, he, S', β', g1, g2, g3⟩, r⟩ := h2 cs
    exact ⟨e, w', fr, ⟨cv, he, v, h, S', β', hk, g1, g2, g3⟩, r⟩
  · exact .inr ⟨v', w', h1, v, h, S', β', hk, h2⟩

/-- A call by its pure contract. -/
theorem ACall.of {f : FuncId} {args : List V} {h : Hp} {k : V → Hp → Prop} {v : V} (hc : CallP P f args v) (hk : k v h) : ACall P f args h k := by
  exact ⟨hc.callV hk⟩

/-- A contract of a function that looks at no memory, and hands back what it was given, moved on. -/
theorem callP_of {f : FuncId} {args : List V} {r : V} (hc : ∀ h : Hp, CallV P f args h fun v h' => v = r ∧ h' = h) : CallP P f args r := by
  intro w S h β argv hr hv
  rcases hc h w S β argv hr hv with ⟨h1, h2⟩ | ⟨cv, w', h1, v, h', S', β', ⟨rfl, rfl⟩, g1, g2, g3⟩
  · refine .inl ⟨h1, fun cs => ?_⟩
    obtain ⟨e, w', fr, ⟨cv, he, v, h', S', β', ⟨rfl, rfl⟩, g1, g2, g3⟩, r⟩ := h2 cs
    exact ⟨e, w', fr, ⟨cv, he, S', β', g1, g2, g3⟩, r⟩
  · exact .inr ⟨cv, w', h1, S', β', g1, g2, g3⟩

theorem ACall.ofV {f : FuncId} {args : List V} {h : Hp} {k : V → Hp → Prop} (hc : CallV P f args h k) : ACall P f args h k := by
  exact ⟨hc⟩

theorem APCall.of {f : FuncId} {args : List V} {h : Hp} {k : Res → Prop} {v : V} (hc : CallP P f args v) (hk : k (.d v)) : APCall P f args h k := by
  exact ⟨.d v, hk, hc⟩

/-- A drawn call one of whose arguments is a slice over a row: the row is fixed. -/
theorem callFix_of {f : FuncId} {args : List V} {n ver sz lo len i : Nat} {ro full : Bool} {xs : List D} {v : V} (ha : args[i]? = some (.sref n ver lo len full)) (hl : lo + len ≤ xs.length)
    (hc : CallP P f (args.set i (.d (.sl sz full ((xs.drop lo).take len)))) v) : CallFix P f args n ver sz ro xs v := by
  intro w S h β argv hn hr hv
  obtain ⟨r1, e1⟩ := freeze hr hn
  have hi : i < argv.size := by rw [hv.1]; exact (List.getElem?_eq_some_iff.1 ha).1
  have hd := sref_data hr hn hl (hv.2 i _ argv[i] ha (Array.getElem?_eq_getElem hi))
  have hv1 : VRs w (fixS S β n (xs.length * sz)) (h.set n (.row ver sz true xs)) β (args.set i (.d (.sl sz full ((xs.drop lo).take len)))) argv := by
    refine ⟨by simp [hv.1], fun j c u hj hu => ?_⟩
    by_cases hij : i = j
    · subst hij
      rw [List.getElem?_set_self (List.getElem?_eq_some_iff.1 ha).1] at hj
      cases hj
      rw [Array.getElem?_eq_getElem hi] at hu; cases hu
      exact .d hd
    · rw [List.getElem?_set_ne hij] at hj
      exact (hv.2 j c u hj hu).evol e1
  rcases hc w _ _ β argv r1 hv1 with ⟨h1, h2⟩ | ⟨cv, w', h1, S2, β2, g1, g2, g3⟩
  · refine .inl ⟨h1, fun cs => ?_⟩
    obtain ⟨e, w', fr, ⟨cv, he, S2, β2, g1, g2, g3⟩, r⟩ := h2 cs
    exact ⟨e, w', fr, ⟨cv, he, S2, β2, g1, g2, e1.trans g3⟩, r⟩
  · exact .inr ⟨cv, w', h1, S2, β2, g1, g2, e1.trans g3⟩

theorem APCall.fix {f : FuncId} {args args' : List V} {h : Hp} {k : Res → Prop} (i : Nat) {n ver sz lo len : Nat} {ro full : Bool} {xs : List D} {v : V} (ha : args[i]? = some (.sref n ver lo len full)) (hn : h[n]? = some (.row ver sz ro xs)) (hl : lo + len ≤ xs.length)
    (hle : VLes (args.set i (.d (.sl sz full ((xs.drop lo).take len)))) args') (hc : CallP P f args' v) (hk : k (.fix n v)) : APCall P f args h k :=
  ⟨.fix n v, hk, fun ver' sz' ro' xs' hn' => by
    rw [hn] at hn'
    cases hn'
    exact callFix_of ha hl (hc.le hle)⟩

theorem APCall.ofRow {f : FuncId} {args : List V} {h : Hp} {k : Res → Prop} {sz : Nat} {ys : List D} (hc : CallRow P f args sz ys) (hk : k (.row sz ys)) : APCall P f args h k := by
  exact ⟨.row sz ys, hk, hc⟩

/-- A call that hands back a slice over a new row. -/
theorem ACall.ofRow {f : FuncId} {args : List V} {h : Hp} {k : V → Hp → Prop} {sz : Nat} {ys : List D} (hc : CallRow P f args sz ys)
    (hk : roomK.lenOfK h fun n => appK h [.row 0 sz false ys] fun h' => k (.sref n 0 0 ys.length false) h') : ACall P f args h k := by
  have hk := appK_spec _ _ _ (lenOfK_spec _ _ hk)
  refine .ofV fun w S β argv hr hv => ?_
  obtain ⟨β0, r1, e1⟩ := padded hr 1
  have hres : (h ++ List.replicate 1 Blk.res)[h.length]? = some .res := by simp
  have hset : (h ++ List.replicate 1 Blk.res).set h.length (.row 0 sz false ys) = h ++ [.row 0 sz false ys] := by simp
  rcases hc w S _ β0 argv h.length hres r1 ⟨hv.1, fun j c u hj hu => (hv.2 j c u hj hu).evol e1⟩ with ⟨h1, h2⟩ | ⟨cv, w', h1, S', β', g1, g2, g3⟩
  · refine .inl ⟨h1, fun cs => ?_⟩
    obtain ⟨e, w', fr, ⟨cv, he, S', β', g1, g2, g3⟩, r⟩ := h2 cs
    rw [hset] at g1 g2 g3
    exact ⟨e, w', fr, ⟨cv, he, _, _, S', β', hk, g1, g2, e1.trans g3⟩, r⟩
  · rw [hset] at g1 g2 g3
    exact .inr ⟨cv, w', h1, _, _, S', β', hk, g1, g2, e1.trans g3⟩

/-- A call, the function's body walked here. -/
theorem ACall.body {E : Env} (hE : E.Ok P) {f : FuncId} {fn : Func} (hf : P.funcs[f]? = some fn) (hname : (fn.name == "runtime.NumGoroutine") = false) (hN : E.N = fn.ntmps) {args : List V} {h : Hp} {k : V → Hp → Prop}
    (hsz : args.length ≤ fn.ntmps) (hx : exFn E fn args h k) : ACall P f args h k := .ofV (exFn_sound hE hf hname hN hsz hx)

/-- A call weakened. -/
theorem CallV.mono {f : FuncId} {args : List V} {h : Hp} {k k' : V → Hp → Prop} (hc : CallV P f args h k) (hk : ∀ v h', k v h' → k' v h') : CallV P f args h k' := by
  intro w S β argv hr hv
  rcases hc w S β argv hr hv with ⟨h1, h2⟩ | ⟨cv, w', h1, v, h', S', β', hkv, g⟩
  · refine .inl ⟨h1, fun cs => ?_⟩
    obtain ⟨e, w', fr, ⟨cv, he, v, h', S', β', hkv, g⟩, r⟩ := h2 cs
    exact ⟨e, w', fr, ⟨cv, he, v, h', S', β', hk _ _ hkv, g⟩, r⟩
  · exact .inr ⟨cv, w', h1, v, h', S', β', hk _ _ hkv, g⟩

theorem callV_lift {f : FuncId} {args : List V} {h : Hp} {k : V → Hp → Prop} (hc : liftArgsK args h fun args' h' => CallV P f args' h' k) : CallV P f args h k := by
  intro w S β argv hr hv
  obtain ⟨ds, h', hk, hl, hds⟩ := liftArgsK_spec _ _ _ hc
  obtain ⟨S', r1, e1, d1⟩ := hds w S β hr argv.toList (by simpa using hv.1) fun j c u hj hu => hv.2 j c u hj (by simpa using hu)
  rcases hk w S' β argv r1 ⟨by rw [hl]; exact hv.1, fun j c u hj hu => d1 j c u hj (by simpa using hu)⟩ with ⟨h1, h2⟩ | ⟨cv, w', h1, v, h2, S2, β2, hkv, g1, g2, g3⟩
  · refine .inl ⟨h1, fun cs => ?_⟩
    obtain ⟨e, w', fr, ⟨cv, he, v, h2, S2, β2, hkv, g1, g2, g3⟩, r⟩ := h2 cs
    exact ⟨e, w', fr, ⟨cv, he, v, h2, S2, β2, hkv, g1, g2, e1.trans g3⟩, r⟩
  · exact .inr ⟨cv, w', h1, v, h2, S2, β2, hkv, g1, g2, e1.trans g3⟩

/-- A call whose arguments become data first. -/
theorem ACall.lift {f : FuncId} {args : List V} {h : Hp} {k : V → Hp → Prop} (hc : liftArgsK args h fun args' h' => ACall P f args' h' k) : ACall P f args h k := by
  refine .ofV (callV_lift ?_)
  have : (fun args' h' => ACall P f args' h' k) = fun args' h' => CallV P f args' h' k := by
    funext args' h'
    exact propext ⟨fun h => h.holds, fun h => ⟨h⟩⟩
  rw [← this]
  exact hc

/-! ### Loops -/

/-- The temporaries that a state names, as the frame has them. -/
def SameT (ts : Tm) : Tm → Prop
  | [] => True
  | p :: r => look ts p.1 = p.2 ∧ SameT ts r

theorem SameT.mem {ts : Tm} : ∀ {l : Tm}, SameT ts l → ∀ p ∈ l, look ts p.1 = p.2
  | q :: r, h, p, hp => by
    cases hp with
    | head => exact h.1
    | tail _ hp => exact SameT.mem h.2 p hp

/-- The state of a loop's head, out of the state before it. -/
theorem ALoop.of {E : Env} (hE : E.Ok P) {c : Code} {ts : Tm} {h : Hp} {k : Ex → Tm → Hp → Prop} {X : Type} (tsx : X → Tm) (hx : X → Hp) (Inv : X → Prop) (μ : X → Nat) (x0 : X) (ht : SameT ts (tsx x0)) (hh : h = hx x0) (h0 : Inv x0)
    (round : ∀ x, Inv x → exCode E c (tsx x) (hx x) fun e ts h => match e with
      | .normal => ∃ y, Wm E.N (hx x0).length ts h (tsx y) (hx y) ∧ Inv y ∧ μ y < μ x
      | e => k e ts h) : ALoop P E.N c ts h k := by
  subst hh
  refine ⟨?_⟩
  refine LP.weak (Wk.tmps ht.mem) (LP.loop tsx hx Inv μ x0 h0 fun x hi => AWP.mono (fun e ts h hk => ?_) (exCode_sound hE c _ _ _ (round x hi)))
  cases e <;> exact hk

/-- One round is walked; then the loop goes on from the state behind it. -/
theorem ALoop.peel {E : Env} (hE : E.Ok P) {c : Code} {ts : Tm} {h : Hp} {k : Ex → Tm → Hp → Prop} (round : exCode E c ts h fun e ts1 h1 => match e with
      | .normal => ALoop P E.N c ts1 h1 k
      | e => k e ts1 h1) : ALoop P E.N c ts h k := by
  refine ⟨LP.peel (AWP.mono (fun e ts1 h1 hk => ?_) (exCode_sound hE c _ _ _ round))⟩
  cases e
  · exact hk.holds
  all_goals exact hk

theorem length_take_eq {α : Type} {h h' : List α} {m : Nat} (e : h = h'.take m) : h = h'.take m := e

/-- A round's end: temporaries forgotten, new names dropped. -/
theorem Wm.fin {N m : Nat} {ts ts' : Tm} {h h' : Hp} (n : Nat) (hn : m ≤ n) (ht : SameT ts ts') (hh : h.take n = h') (h1 : ts'.all (fun p => nmV n p.2) = true) (h2 : h'.all (nmBlk n) = true) : Wm N m ts h ts' h' := by
  subst hh
  exact (Wk.tmps ht.mem).wm.trans (Wm.drop hn h1 h2)

/-! ### Ranges over functions -/

/-- What a pending jump asks for. -/
def jumpK (ts : Tm) (h : Hp) (k : Ex → Tm → Hp → Prop) : Option Code → Prop
  | none => k .normal ts h
  | some .ret => k .ret ts h
  | some (.exit id) => k (.exit id) ts h
  | _ => False

/-- Behind the function that was ranged over. -/
def doneK (ts : Tm) (n : Nat) (h : Hp) (k : Ex → Tm → Hp → Prop) : Prop :=
  nthK h n fun b => match b with
    | .loop st pe N ts' ps as body => match st with
      | .busy => False
      | _ => setK h n (.loop .exhausted pe N ts' ps as body) fun h' => jumpK ts h' k pe
    | _ => False

theorem exFn_calls {E : Env} (hE : E.Ok P) {f : FuncId} {fn : Func} (hf : P.funcs[f]? = some fn) (hname : (fn.name == "runtime.NumGoroutine") = false) (hN : E.N = fn.ntmps) {args : List V} {h : Hp} {k : V → Hp → Prop}
    (hsz : args.length ≤ fn.ntmps) (hx : exFn E fn args h k) (w : World) (S : Stb) (β : Bet) (argv : Array Value) (hr : HR w S h β) (hv : VRs w S h β args argv) :
    (callFunc f argv).run P w = .ok (.enter f argv) w ∧ Calls P f argv w fun e w' => ∃ v, e = .returned v ∧ ∃ va h' S' β', k va h' ∧ HR w' S' h' β' ∧ VR w' S' h' β' va v ∧ Evol w S h β w' S' h' β' := by
  have hb : ∃ c, fn.body = some c := by
    cases hb : fn.body with
    | none => simp [exFn, hb] at hx
    | some c => exact ⟨c, rfl⟩
  obtain ⟨c, hb⟩ := hb
  have he := Go.MuLone.run_callFunc_enter hf hname hb argv w
  rcases exFn_sound hE hf hname hN hsz hx w S β argv hr hv with h | ⟨v, w', h1, _⟩
  · exact h
  · rw [he] at h1; cases h1

theorem ARange.body {E : Env} (hE : E.Ok P) {T2 : TT} (hT2 : tokB P T2 = true) (hm : P.follows .mixedOrders = true) {g : Operand} {ps : List Tmp} {as body : Code} {ts : Tm} {h : Hp} {k : Ex → Tm → Hp → Prop} {gf : FuncId} {cap : List V} {fn : Func}
    (hg : evK ts g fun v => v = .fn gf cap) (hf : P.funcs[gf]? = some fn) (hname : (fn.name == "runtime.NumGoroutine") = false) (hsz : cap.length + 1 ≤ fn.ntmps)
    (hx : roomK.lenOfK h fun n => appK h [.loop .ready none E.N ts ps as body] fun h1 => exFn (envY P T2 fn.ntmps (yldIn E n)) fn (.yld n :: cap) h1 fun _ h' => doneK ts n h' k) : ARange P E.N g ps as body ts h k := by
  refine ⟨?_⟩
  have hx := appK_spec _ _ _ (lenOfK_spec _ _ hx)
  have hg := evK_spec _ _ _ hg
  intro n C a w S β hs
  have hE2 : (envY P T2 fn.ntmps (yldIn E h.length)).Ok P := envY_ok (yldIn_ok hE _) hT2 hm
  obtain ⟨lb, hlb1, hlb2⟩ : ∃ lb, a.eval g = .func (.func gf) #[] lb ∧ VRs w S h β cap lb := by
    have := ev_rel hs.hr.glob hs.tr g
    rw [hg] at this
    generalize hge : a.eval g = ge at this
    cases this with
    | fn _ _ arr h1 h2 => exact ⟨arr, rfl, h1, h2⟩
  refine wpIn_rangeFunc fun fid hfid => ?_
  -- the record is laid
  have lay : ∃ (l : Nat) (mark : List Deferred) (w₁ : World) (β1 : Bet), (Instr.enterLoop fid a.tmps ps.toArray as body (FF C.ro).round).run P w = .ok (l, mark) w₁ ∧
      HR w₁ S (h ++ [.loop .ready none E.N ts ps as body]) β1 ∧ Evol w S h β w₁ S (h ++ [.loop .ready none E.N ts ps as body]) β1 ∧ β1[h.length]? = some (some (l, 0)) ∧
      (∀ d ∈ mark, ∃ r, d.target = .collected r ∧ w.heap.size ≤ r ∧ w₁.heap[r]? = some (.deferred (some [])) ∧ ¬ img β1 r) ∧ mark.length ≤ 1 := by
    -- from a world that has grown by unnamed blocks alone
    have core : ∀ (w' : World) (D : Nat), HR w' S h β → Evol w S h β w' S h β →
        ∃ β1, HR (w'.alloc (.loop { state := .ready, pending := none, fn := fid, tmps := a.tmps, params := ps.toArray, assign := as, body, defers := D })) S (h ++ [.loop .ready none E.N ts ps as body]) β1 ∧
          Evol w S h β (w'.alloc (.loop { state := .ready, pending := none, fn := fid, tmps := a.tmps, params := ps.toArray, assign := as, body, defers := D })) S (h ++ [.loop .ready none E.N ts ps as body]) β1 ∧ β1[h.length]? = some (some (w'.heap.size, 0)) ∧
          (∀ r, r < w'.heap.size → ¬ img β r → ¬ img β1 r) := fun w' D hr' hE' => by
      obtain ⟨β0, r1, e1⟩ := padded hr' 1
      have hres : (h ++ List.replicate 1 Blk.res)[h.length]? = some .res := by simp
      have hset : (h ++ List.replicate 1 Blk.res).set h.length (.loop .ready none E.N ts ps as body) = h ++ [.loop .ready none E.N ts ps as body] := by simp
      have ht' : TR w' S h β ts a.tmps := fun t => (hs.tr t).evol hE'
      obtain ⟨r2, e2⟩ := alloced r1 hres (.loop { state := .ready, pending := none, fn := fid, tmps := a.tmps, params := ps.toArray, assign := as, body, defers := D }) (.loop .ready none E.N ts ps as body) 0
        (frozen_alloc_obj _ _ (by intro c t f h; cases h)) fun E3 hno hb hheap => ⟨_, _, hb, hheap, rfl, by simp, rfl, rfl, hs.size, fun t => ((ht' t).evol e1).evol E3, hno, rfl⟩
      rw [hset] at r2 e2
      have hl0 : h.length < β0.length := by have := r1.len; simp at this; omega
      refine ⟨_, r2, hE'.trans (e1.trans e2), by simp [hl0], fun r hlt hni => ?_⟩
      rintro hi
      rcases e2.imgs r hi with hi | hi
      · rcases e1.imgs r hi with hi | hi
        · exact hni hi
        · omega
      · omega
    cases hro : C.ro with
    | none =>
      obtain ⟨a1, a2⟩ := alloc_free hs.hr (.deferred (some [])) (by intro c t f h; cases h)
      obtain ⟨β1, c1, c2, c3, c4⟩ := core (w.alloc (.deferred (some []))) w.heap.size a1 a2
      refine ⟨_, _, _, β1, run_enterLoop_outer fid a.tmps ps.toArray as body, c1, c2, by rw [c3, World.size_alloc], fun d hd => ?_, by simp⟩
      simp only [List.mem_singleton] at hd; subst hd
      have hsz : w.heap.size < (w.alloc (.deferred (some []))).heap.size := by show w.heap.size < (w.heap.push _).size; simp
      refine ⟨w.heap.size, rfl, Nat.le_refl _, ?_, c4 _ hsz fun ⟨m, p, hm⟩ => ?_⟩
      · rw [old_at _ _ _ hsz]; exact World.alloc_heap_new w _
      · have := hs.hr.lt hm; omega
    | some l0 =>
      obtain ⟨r0, hr0⟩ := hs.round l0 hro
      obtain ⟨β1, c1, c2, c3, _⟩ := core w r0.defers hs.hr (Evol.refl _ _ _ _)
      refine ⟨w.heap.size, [], _, β1, ?_, c1, c2, c3, by simp, by simp⟩
      show (Instr.enterLoop fid a.tmps ps.toArray as body (some l0)).run P w = _
      unfold Instr.enterLoop
      simp only [Sem.run_bind, run_getLoop hr0, run_newObj_alloc, Result.andThen, Sem.run_pure]
  obtain ⟨l, mark, w₁, β1, l1, l2, l3, l4, l5, l6⟩ := lay
  have hcap : VRs w₁ S (h ++ [.loop .ready none E.N ts ps as body]) β1 (.yld h.length :: cap) (#[.func (.yield l) #[] #[]] ++ lb) := by
    refine ⟨by simp [hlb2.1]; omega, fun j c u hj hu => ?_⟩
    cases j with
    | zero =>
      simp at hj; subst hj
      have : (#[Value.func (.yield l) #[] #[]] ++ lb)[0]? = some (.func (.yield l) #[] #[]) := by
        rw [Array.getElem?_append_left (by simp)]; rfl
      rw [this] at hu; cases hu
      exact .yld (by simp [isLoop]) fun _ => l4
    | succ j =>
      rw [Array.getElem?_append_right (by simp)] at hu
      exact (hlb2.2 j c u (by simpa using hj) (by simpa using hu)).evol l3
  obtain ⟨k1, k2⟩ := exFn_calls hE2 hf hname rfl (by simpa using hsz) hx w₁ S β1 _ l2 hcap
  refine ⟨l, mark, w₁, { target := .fn (.func gf) lb, args := #[.func (.yield l) #[] #[]] }, w₁, gf, _, w₁, l1, ?_, fun f' _ => FF.all C.ro f', ?_, fun h => by simp [FF, Fence.wide] at h, CallsIn.mono (callsIn_FF.2 k2) fun e w' he => ?_⟩
  · simp only [resolve, hlb1]
    simp [go_sem]
  · simp only [invoke]
    exact k1
  · obtain ⟨v, rfl, va, h', S', β', hk, q1, q2, q3⟩ := he
    unfold doneK at hk
    obtain ⟨b3, hn3, hk⟩ := nthK_iff.1 hk
    split at hk
    case h_2 => exact hk.elim
    rename_i st pe N3 ts3 ps3 as3 body3
    have hn1 : (h ++ [Blk.loop .ready none E.N ts ps as body])[h.length]? = some (.loop .ready none E.N ts ps as body) := by simp
    obtain ⟨b4, l', p1, p2, p3, _, _, _, _, _, p9, p10, p11⟩ := loop_upd q1 hn3 .exhausted pe
    have hbb := loop_stays q3 q1 hn1 l4 hn3
    rw [p1] at hbb; simp at hbb; subst hbb
    have hp : { l' with state := stOf LState.exhausted, pending := pe } = { l' with state := .exhausted } := by rw [← p3]; rfl
    rw [hp] at p10 p11
    have hnb : st ≠ .busy := by rintro rfl; exact hk.elim
    have hk : setK h' h.length (.loop .exhausted pe N3 ts3 ps3 as3 body3) fun h'' => jumpK ts h'' k pe := by
      cases st
      · exact hk
      · exact hk.elim
      · exact hk
      · exact hk
    have hk := (setK_iff.1 hk).2
    have eT := l3.trans (q3.trans p11)
    have hst : St E.N C { a with defers := mark ++ a.defers } (w'.putObj b4 (.loop { l' with state := .exhausted })) S' ts (h'.set h.length (.loop .exhausted pe N3 ts3 ps3 as3 body3)) β' := by
      have h0 := hs.evol eT p10
      refine ⟨h0.hr, h0.tr, h0.size, ⟨?_, fun d hd => ?_⟩, h0.round, h0.base⟩
      · refine List.pairwise_append.2 ⟨?_, h0.marks.1, fun d hd e he => ?_⟩
        · match mark, l6 with
          | [], _ => exact .nil
          | [x], _ => exact .cons (by simp) .nil
        · obtain ⟨r, r1, r2, _, _⟩ := l5 d hd
          obtain ⟨r', s1, _, s3, _⟩ := hs.marks.2 e he
          rw [r1, s1]
          intro hh
          have : r = r' := by simpa using hh
          have := (Array.getElem?_eq_some_iff.1 s3).1
          omega
      · rcases List.mem_append.1 hd with hd | hd
        · obtain ⟨r, r1, r2, r3, r4⟩ := l5 d hd
          have e2 := q3.trans p11
          have hlt := (Array.getElem?_eq_some_iff.1 r3).1
          refine ⟨r, r1, Nat.le_trans hs.base r2, by rw [e2.frame r hlt r4]; exact r3, fun hi => ?_⟩
          rcases e2.imgs r hi with hi | hi
          · exact r4 hi
          · omega
        · exact h0.marks.2 d hd
    refine ⟨pe, _, by rw [← p3]; exact run_endLoop p2 (by rw [p9]; cases st <;> simp [stOf] at hnb ⊢), ?_⟩
    have hP : ∀ (x : Ex), k x ts (h'.set h.length (.loop .exhausted pe N3 ts3 ps3 as3 body3)) → PostE E.N C w S h β k (exitOf x) { a with defers := mark ++ a.defers } (w'.putObj b4 (.loop { l' with state := .exhausted })) := fun x hk => (PostE.here x hst hk).then eT
    unfold jumpK at hk
    split at hk
    · exact hP .normal hk
    · exact wpIn_ret (hP .ret hk)
    · exact wpIn_exit (hP (.exit _) hk)
    · exact hk.elim

end Go.PM
