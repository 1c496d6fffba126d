/-
  PM, part 22: ranges over functions.
-/
import Derived.Test.YtbifaidepiejeaaPmFun
import Derived.RangeFuncIn
set_option linter.unusedSectionVars false
namespace Go.PM
variable [Glob]
variable {P : Program}

def stOf : LState → Go.LoopState
  | .ready => .ready
  | .busy => .busy
  | .done => .done
  | .exhausted => .exhausted

/-- A loop's record is rewritten. -/
theorem loop_upd {w : World} {S : Stb} {h : Hp} {β : Bet} (hr : HR w S h β) {n N : Nat} {st : LState} {pe : Option Code} {ts : Tm} {ps : List Tmp} {as body : Code} (hn : h[n]? = some (.loop st pe N ts ps as body)) (st' : LState) (pe' : Option Code) :
    ∃ b l, β[n]? = some (some (b, 0)) ∧ w.heap[b]? = some (.loop l) ∧ l.pending = pe ∧ l.params.toList = ps ∧ l.assign = as ∧ l.body = body ∧ l.tmps.size = N ∧ TR w S h β ts l.tmps ∧ l.state = stOf st ∧
      HR (w.putObj b (.loop { l with state := stOf st', pending := pe' })) S (h.set n (.loop st' pe' N ts ps as body)) β ∧
      Evol w S h β (w.putObj b (.loop { l with state := stOf st', pending := pe' })) S (h.set n (.loop st' pe' N ts ps as body)) β := by
  obtain ⟨b, l, h1, h2, h3, h4, h5, h6, h7, h8, h9, h10⟩ := hr.blk n _ hn
  have hlt : b < w.heap.size := (Array.getElem?_eq_some_iff.1 h2).1
  refine ⟨b, l, h1, h2, h3, h4, h5, h6, h7, h8, by rw [h10]; cases st <;> rfl, ?_⟩
  have hset : β.set n (some (b, 0)) = β := set_self h1
  have hnew := World.putObj_heap_same (w := w) (o := .loop { l with state := stOf st', pending := pe' }) hlt
  have hoth : ∀ i, i ≠ b → (w.putObj b (.loop { l with state := stOf st', pending := pe' })).heap[i]? = w.heap[i]? := fun i hi => World.putObj_heap_other hi
  have := upd hr hn (blk' := .loop st' pe' N ts ps as body) (w' := w.putObj b (.loop { l with state := stOf st', pending := pe' })) (some (b, 0)) (by simp) (fun i _ hne => hoth i (fun e => hne 0 (by rw [e]; exact h1)))
    (fun i p c e f hp hi => by rw [h1] at hp; simp at hp; obtain ⟨rfl, _⟩ := hp; rw [h2] at hi; simp at hi)
    (fun i p l' hp hi => by rw [h1] at hp; simp at hp; obtain ⟨rfl, _⟩ := hp; exact ⟨_, hnew⟩)
    (fun a => by
      by_cases ha : a.block = b
      · unfold World.frozen?; simp only [ha, hnew, h2]
      · exact World.frozen?_of_block (hoth _ ha))
    (fun i p o hp hs => by rw [h1] at hp; simp at hp; obtain ⟨rfl, _⟩ := hp; exact absurd hs (h9 o))
    (fun b' p hb' => .inl ⟨0, by cases hb'; exact h1⟩) (by rw [h1]; exact .inr ⟨⟨_, _, _, _, _, _, _, rfl⟩, rfl⟩)
    (fun E => ⟨b, _, by rw [hset]; exact h1, hnew, rfl, h4, h5, h6, h7, fun t => (h8 t).evol E, h9, by cases st' <;> rfl⟩)
  rw [hset] at this
  exact this

/-- A block that nobody names. -/
theorem alloc_free {w : World} {S : Stb} {h : Hp} {β : Bet} (hr : HR w S h β) (o : Obj) (ho : ∀ c t f, o ≠ .cells c t f) : HR (w.alloc o) S h β ∧ Evol w S h β (w.alloc o) S h β := by
  have E : Evol w S h β (w.alloc o) S h β := by
    refine ⟨⟨⟨rfl, rfl⟩, rfl, Nat.le_refl _⟩, by simp, fun i hi _ => old_at w o i hi, fun i c e f hi => ⟨c, by rw [old_at w o i (Array.getElem?_eq_some_iff.1 hi).1]; exact hi, rfl⟩, fun i l hi => ⟨l, by rw [old_at w o i (Array.getElem?_eq_some_iff.1 hi).1]; exact hi⟩,
      fun a _ => frozen_alloc_obj w o ho a, fun _ _ h => h, fun _ _ h => .inl h, fun b o' hs => World.cell?_of_block (a := ⟨b, o', none⟩) (old_at w o b (hr.old b o' hs)), fun _ h => .inl h, Nat.le_refl _, fun _ b hb => ⟨b, hb, BEv.refl _ _⟩⟩
  exact ⟨⟨hr.len, fun n b hn => BR.keep E rfl (fun _ r b p ht => ⟨ht, old_at w o b (hr.tlt r b p ht), fun _ h => h⟩) (fun b' p hb => ⟨old_at w o b' (hr.lt hb), fun _ h => h⟩) (hr.blk n b hn), hr.inj, fun b o' hs => Nat.lt_of_lt_of_le (hr.old b o' hs) E.size, hr.glob.evol E, fun r b p ht => Nat.lt_of_lt_of_le (hr.tlt r b p ht) E.size, hr.one⟩, E⟩

/-! ### A round -/

def zipK (N : Nat) : List Tmp → List V → Tm → (Tm → Prop) → Prop
  | [], vs, ts, k => match vs with
    | [] => k ts
    | _ => False
  | p :: ps, vs, ts, k => match vs with
    | [] => False
    | v :: vs => match Nat.ble (p + 1) N with
      | true => zipK N ps vs ((p, v) :: ts) k
      | false => False

theorem zipK_spec {N : Nat} : ∀ (ps : List Tmp) (vs : List V) (ts : Tm) (k : Tm → Prop), zipK N ps vs ts k → ps.length = vs.length ∧ ∃ ts', k ts' ∧ ∀ (w : World) (S : Stb) (h : Hp) (β : Bet) (tmps : Array Value) (args : List Value), TR w S h β ts tmps → tmps.size = N →
    args.length = vs.length → (∀ (j : Nat) (c : V) (u : Value), vs[j]? = some c → args[j]? = some u → VR w S h β c u) →
    TR w S h β ts' ((ps.zip args).foldl (fun tmps (t, a) => tmps.setIfInBounds t a) tmps) ∧ ((ps.zip args).foldl (fun tmps (t, a) => tmps.setIfInBounds t a) tmps).size = N
  | [], [], ts, k, hk => ⟨rfl, ts, hk, fun w S h β tmps args ht hs _ _ => by simpa using ⟨ht, hs⟩⟩
  | [], _ :: _, ts, k, hk => hk.elim
  | p :: ps, [], ts, k, hk => hk.elim
  | p :: ps, v :: vs, ts, k, hk => by
    simp only [zipK] at hk
    split at hk
    · rename_i hp
      have hp : p < N := Nat.le_of_ble_eq_true hp
      obtain ⟨hl, ts', hk, hh⟩ := zipK_spec ps vs _ k hk
      refine ⟨by simp [hl], ts', hk, fun w S h β tmps args ht hs ha hv => ?_⟩
      cases args with
      | nil => simp at ha
      | cons a args =>
        simp only [List.zip_cons_cons, List.foldl_cons]
        exact hh w S h β _ args (put_rel (a := { tmps := tmps, defers := [] }) ht (by rw [hs]; exact hp) (hv 0 v a rfl rfl)) (by simpa using hs) (by simpa using ha) fun j c u hj hu => hv (j + 1) c u (by simpa using hj) (by simpa using hu)
    · exact hk.elim

/-- A call of yield: a round of the loop nm's body, in the environment of the function that loops. -/
def yieldK (E : Env) (nm : Nat) (vs : List V) (h : Hp) (k : V → Hp → Prop) : Prop :=
  nthK h nm fun b => match b with
    | .loop .ready none N ts ps as body => chkB (Nat.beq N E.N) (zipK N ps vs ts fun ts1 => exCode E as ts1 h fun e ts2 h2 => match e with
      | .normal => nthK h2 nm fun b2 => match b2 with
        | .loop .ready pe2 N2 ts2' ps2 as2 body2 => setK h2 nm (.loop .busy pe2 N2 ts2' ps2 as2 body2) fun h3 => exCode E body ts2 h3 fun e ts4 h4 => nthK h4 nm fun b4 => match b4 with
          | .loop _ _ N4 ts4' ps4 as4 body4 => match e with
            | .normal => setK h4 nm (.loop .ready none N4 ts4' ps4 as4 body4) fun h5 => k (.d (.b true)) h5
            | .exit id => setK h4 nm (.loop .done (some (.exit id)) N4 ts4' ps4 as4 body4) fun h5 => k (.d (.b false)) h5
            | .ret => setK h4 nm (.loop .done (some .ret) N4 ts4' ps4 as4 body4) fun h5 => k (.d (.b false)) h5
          | _ => False
        | _ => False
      | _ => False)
    | _ => False

/-- A mark on no activation: a round begins. -/
theorem round_st {w : World} {S : Stb} {h : Hp} {β : Bet} {ts : Tm} {tmps : Array Value} {N l : Nat} {r : Loop} (hr : HR w S h β) (ht : TR w S h β ts tmps) (hs : tmps.size = N) (hl : w.heap[l]? = some (.loop r)) :
    St N ⟨some l, w.heap.size⟩ { tmps := tmps, defers := [] } w S ts h β :=
  ⟨hr, ht, hs, ⟨.nil, by simp⟩, fun l' h' => by cases h'; exact ⟨r, hl⟩, Nat.le_refl _⟩

/-- The block of a loop stays where it is. -/
theorem loop_stays {w w' : World} {S S' : Stb} {h h' : Hp} {β β' : Bet} (E : Evol w S h β w' S' h' β') (hr' : HR w' S' h' β') {n N b : Nat} {st st' : LState} {pe pe' : Option Code} {ts ts' : Tm} {ps ps' : List Tmp} {as as' body body' : Code} {N' : Nat}
    (hn : h[n]? = some (.loop st pe N ts ps as body)) (hb : β[n]? = some (some (b, 0))) (hn' : h'[n]? = some (.loop st' pe' N' ts' ps' as' body')) : β'[n]? = some (some (b, 0)) := by
  obtain ⟨x, h1, h2⟩ := E.blk n _ hn
  rw [hn'] at h1; cases h1
  rcases h2 with h2 | ⟨_, h2⟩
  · cases h2
  · rw [h2, hb]

theorem yieldK_ok {E : Env} (hE : E.Ok P) (o : Oper) (c : Call) (f : Operand) (nm : Nat) (vs : List V) (h : Hp) (k : V → Hp → Prop) (hop : o.op = .call c) (hc : c.callee = .value f) (hx : yieldK E nm vs h k)
    (n : Nat) (ro : Option Nat) (a : Act) (w : World) (S : Stb) (β : Bet) (hr : HR w S h β) (hf : VR w S h β (.yld nm) (a.eval f)) (hor : OR w S h β a.eval c.args.toList vs)
    (next : Act → World → Prop) (Q : Exit → Act → World → Prop)
    (hk : ∀ v h' w' S' β' cv, k v h' → HR w' S' h' β' → VR w' S' h' β' v cv → Evol w S h β w' S' h' β' → next (a.put o.dst cv) w') : o.wpIn (FF ro) n P a w next Q := by
  unfold yieldK at hx
  obtain ⟨b0, hn, hx⟩ := nthK_iff.1 hx
  split at hx
  case h_2 => exact hx.elim
  rename_i N ts ps as body
  obtain ⟨hN, hx⟩ := (chkB_iff _ _).1 hx
  have hN : N = E.N := Nat.eq_of_beq_eq_true hN
  subst hN
  obtain ⟨b, l, g1, g2, g3, g4, g5, g6, g7, g8, g9, _⟩ := loop_upd hr hn .ready none
  generalize hfe : a.eval f = fe at hf
  cases hf with
  | @yld _ b' y1 y2 =>
    have hb' := y2 (by rw [hn]; simp)
    rw [g1] at hb'; simp at hb'; subst hb'
    obtain ⟨z1, ts1, hx, z2⟩ := zipK_spec _ _ _ _ hx
    have hargs : (c.args.map a.eval).size = l.params.size := by
      have e1 := hor.1
      have e2 : l.params.toList.length = ps.length := by rw [g4]
      simp at e1 e2 ⊢; omega
    refine ⟨fun f _ => FF.all ro f, ?_⟩
    rw [Oper.semAt_eq _ _ _ (fun c' h => by rw [hop] at h; cases h)]
    have hrun : (execOp a.eval o).run P w = (Instr.yield b (c.args.map a.eval)).run P w := by
      simp [execOp, hop, resolve, hc, Deferred.ofValue, hfe, invoke]
    rw [hrun, run_yield g2 hargs, Oper.uponIn_round]
    refine ⟨fun h => by simp [FF, Fence.wide] at h, ?_⟩
    rw [g5, g6]
    have hz : (l.params.zip (c.args.map a.eval)).foldl (fun tmps (t, a) => tmps.setIfInBounds t a) l.tmps = (ps.zip (c.args.toList.map a.eval)).foldl (fun tmps (t, a) => tmps.setIfInBounds t a) l.tmps := by
      rw [← Array.foldl_toList, Array.toList_zip, g4, Array.toList_map]
    obtain ⟨t1, t2⟩ := z2 w S h β l.tmps (c.args.toList.map a.eval) g8 g7 (by have := hor.1; simp at this ⊢; omega) fun j y v hj hv => by
      simp only [List.getElem?_map, Option.map_eq_some_iff] at hv
      obtain ⟨x, hx, rfl⟩ := hv
      exact hor.2 j x y hx hj
    refine roundIn_of_wpIn (FF.all ro _) ?_
    have hst := round_st hr t1 t2 g2
    have ha := exCode_sound hE as _ _ _ hx (n - 1) ⟨some b, w.heap.size⟩ _ w S β hst
    rw [show (l.params.zip (c.args.map a.eval)).foldl (fun tmps (t, a) => tmps.setIfInBounds t a) l.tmps = (ps.zip (c.args.toList.map a.eval)).foldl (fun tmps (t, a) => tmps.setIfInBounds t a) l.tmps from hz]
    refine wpIn_mono ha fun e a1 w1 hp => ?_
    obtain ⟨x, rfl, ts2, h2, S2, β2, hx, hs2, E2⟩ := hp
    cases x with
    | exit id => exact hx.elim
    | ret => exact hx.elim
    | normal =>
      simp only [] at hx
      obtain ⟨b2, hn2, hx⟩ := nthK_iff.1 hx
      split at hx
      case h_2 => exact hx.elim
      rename_i pe2 N2 ts2' ps2 as2 body2
      have hx := (setK_iff.1 hx).2
      obtain ⟨b', l2, q1, q2, q3, q4, q5, q6, q7, q8, q9, q10, q11⟩ := loop_upd hs2.hr hn2 .busy pe2
      have hbb := loop_stays E2 hs2.hr hn g1 hn2
      rw [q1] at hbb; simp at hbb; subst hbb
      have hst2 : l2.state = .ready := q9
      have hl2 : { l2 with state := stOf LState.busy, pending := pe2 } = { l2 with state := .busy } := by rw [← q3]; rfl
      rw [hl2] at q10 q11
      refine ⟨_, run_beginRound q2 hst2, ?_⟩
      have hb := exCode_sound hE body _ _ _ hx (n - 1) ⟨some b', w.heap.size⟩ _ _ S2 β2 (hs2.evol q11 q10)
      refine wpIn_mono hb fun e a3 w3 hp => ?_
      obtain ⟨x, rfl, ts4, h4, S4, β4, hx, hs4, E4⟩ := hp
      obtain ⟨b4, hn4, hx⟩ := nthK_iff.1 hx
      split at hx
      case h_2 => exact hx.elim
      rename_i N4 ts4' ps4 as4 body4
      have hn3 : (h2.set nm (Blk.loop .busy pe2 N2 ts2' ps2 as2 body2))[nm]? = some (.loop .busy pe2 N2 ts2' ps2 as2 body2) := by
        have := (List.getElem?_eq_some_iff.1 hn2).1
        simp [this]
      have fin : ∀ (jump : Option Code) (hx : setK h4 nm (.loop (if jump.isNone then .ready else .done) jump N4 ts4' ps4 as4 body4) fun h5 => k (.d (.b jump.isNone)) h5),
          ∃ v w', (Instr.endRound b' jump).run P w3 = .ok v w' ∧ next (a.put o.dst v) w' := fun jump hx => by
        have hx := (setK_iff.1 hx).2
        obtain ⟨b5, l5, p1, p2, p3, p4, p5, p6, p7, p8, p9, p10, p11⟩ := loop_upd hs4.hr hn4 (if jump.isNone then .ready else .done) jump
        have hbb := loop_stays E4 hs4.hr hn3 q1 hn4
        rw [p1] at hbb; simp at hbb; subst hbb
        refine ⟨_, _, run_endRound jump p2, ?_⟩
        have hl5 : { l5 with state := stOf (if jump.isNone then LState.ready else .done), pending := jump } = { l5 with state := if jump.isNone then Go.LoopState.ready else .done, pending := jump } := by
          cases jump <;> rfl
        rw [hl5] at p10 p11
        exact hk _ _ _ S4 β4 _ hx p10 (.d (.b _)) (E2.trans (q11.trans (E4.trans p11)))
      cases x with
      | normal => exact fin none hx
      | exit id => exact fin (some (.exit id)) hx
      | ret => exact fin (some .ret) hx

end Go.PM
