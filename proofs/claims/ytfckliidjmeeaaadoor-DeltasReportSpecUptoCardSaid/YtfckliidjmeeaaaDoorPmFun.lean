/-
  PM, part 21: a function from its body.
-/
import Derived.Test.YtfckliidjmeeaaaDoorPmDrawtoPmWeak
import Derived.Conc.MuLone
import Derived.RangeFuncRecord
set_option linter.unusedSectionVars false
namespace Go.PM
variable [Glob]
variable {P : Program} {T : TT}
def paramsT : List V → Nat → Tm → Tm
  | [], _, ts => ts
  | v :: vs, i, ts => paramsT vs (i + 1) ((i, v) :: ts)
theorem paramsK_spec : ∀ (vs : List V) (i : Nat) (ts : Tm) (k : Tm → Prop), paramsK vs i ts k → k (paramsT vs i ts)
  | [], i, ts, k, h => h
  | v :: vs, i, ts, k, h => paramsK_spec vs (i + 1) _ k h
theorem look_params : ∀ (vs : List V) (i : Nat) (ts : Tm) (t : Nat), look (paramsT vs i ts) t = if i ≤ t ∧ t < i + vs.length then vs.getD (t - i) .u else look ts t
  | [], i, ts, t => by simp [paramsT]; omega
  | v :: vs, i, ts, t => by
    rw [paramsT, look_params vs (i + 1)]
    by_cases h : i = t
    · subst h
      have : Nat.beq i i = true := Nat.beq_refl i
      rw [if_neg (by omega), if_pos (by simp)]
      simp [look, this]
    · have hb : Nat.beq i t = false := by
        cases hb : Nat.beq i t
        · rfl
        · exact absurd (Nat.eq_of_beq_eq_true hb) h
      by_cases h2 : i + 1 ≤ t ∧ t < i + 1 + vs.length
      · rw [if_pos h2, if_pos (by simp; omega), show t - i = (t - (i + 1)) + 1 by omega]
        rfl
      · rw [if_neg h2, if_neg (by simp; omega)]
        simp only [look, hb]
theorem aLoad_core (hT : tokB P T = true) {t : TypeId} {av : V} {bs : List Blk} {K : Kt} (h : aLoad T t av bs K) :
    ∃ v, K v bs ∧ ∀ (w : World) (S : Stb) (hp : Hp) (β : Bet) (ca : Value), HR w S hp β → VR w S hp β av ca → (∀ (i m : Nat), (addrN av)[i]? = some m → hp[m]? = bs[i]?) →
      ∃ b off cv, ca = .pointer (some ⟨b, off, none⟩) ∧ (loadVar t ⟨b, off, none⟩).run P w = .ok cv w ∧ VR w S hp β v cv := by
  unfold aLoad at h
  cases hty : tyOf T t with
  | none => simp [hty] at h
  | some ti =>
    have hti := tyOf_ok hT hty
    simp only [hty] at h
    split at h
    · rename_i cs off
      obtain ⟨x, hk, hx⟩ := readD_det h
      refine ⟨_, hk, fun w S hp β ca hr hv _ => ?_⟩
      cases hv with
      | rp _ _ b base uf h1 h2 =>
        obtain ⟨cv, e1, e2⟩ := hx.run hti (w := w) (S := S) (b := b) (off := base) fun j c hj => ⟨uf j, (h1 j c hj).2.1, h2 j c hj, (h1 j c hj).1⟩
        exact ⟨_, _, cv, rfl, e1, .d e2⟩
    · rename_i n ver e off cs
      obtain ⟨x, hk, hx⟩ := readD_det h
      refine ⟨_, hk, fun w S hp β ca hr hv hb => ?_⟩
      have hn : hp[n]? = some (.vard cs) := by simpa [addrN] using hb 0 n rfl
      cases hv with
      | ptr h1 h2 =>
        simp only [PR, hn] at h2
        obtain ⟨b, hbn, rfl, rfl, rfl⟩ := h2
        obtain ⟨b', hb', hc⟩ := (hr.blk n _ hn).vard_cells
        rw [hbn] at hb'; simp at hb'; subst hb'
        obtain ⟨cv, e1, e2⟩ := hx.run hti hc
        rw [Nat.zero_add] at e1
        exact ⟨_, _, cv, rfl, e1, .d e2⟩
    · rename_i n ver e off cs
      obtain ⟨x, hk, hx⟩ := readV_det h
      refine ⟨_, hk, fun w S hp β ca hr hv hb => ?_⟩
      have hn : hp[n]? = some (.var cs) := by simpa [addrN] using hb 0 n rfl
      cases hv with
      | ptr h1 h2 =>
        simp only [PR, hn] at h2
        obtain ⟨b, hbn, rfl, rfl, rfl⟩ := h2
        obtain ⟨b', hb', hc⟩ := (hr.blk n _ hn).var_cells
        rw [hbn] at hb'; simp at hb'; subst hb'
        obtain ⟨cv, e1, e2⟩ := hx.run hti hc
        rw [Nat.zero_add] at e1
        exact ⟨_, _, cv, rfl, e1, e2⟩
    · rename_i n ver e off ver' sz ro xs
      obtain ⟨hver, h⟩ := h.elim
      subst hver
      obtain ⟨y, hy, h⟩ := nthK_iff.1 h
      obtain ⟨x, hk, hx⟩ := readD_det h
      refine ⟨_, hk, fun w S hp β ca hr hv hb => ?_⟩
      have hn : hp[n]? = some (.row ver sz ro xs) := by simpa [addrN] using hb 0 n rfl
      cases hv with
      | ptr h1 h2 =>
        simp only [PR, hn] at h2
        obtain ⟨_, _, h2⟩ := h2
        obtain ⟨b, base, hbn, rfl⟩ := h2 trivial
        obtain ⟨b', base', hb', hc⟩ := (hr.blk n _ hn).row_cells hy
        rw [hbn] at hb'; simp at hb'; obtain ⟨rfl, rfl⟩ := hb'
        obtain ⟨cv, e1, e2⟩ := hx.run hti hc
        exact ⟨_, _, cv, rfl, e1, .d e2⟩
    · exact h.elim
def resF (tmps : Array Value) : ResultVar → Sem Value
  | .tmp t => pure (tmps.getD t undef)
  | .cell a t => do loadVar t (← asAddr (tmps.getD a undef))
theorem resK_spec (hT : tokB P T = true) {h : Hp} {ts : Tm} : ∀ (l : List ResultVar) (k : List V → Prop), resK T h ts l k → ∃ vs, k vs ∧ vs.length = l.length ∧
    ∀ (w : World) (S : Stb) (β : Bet) (tmps : Array Value), HR w S h β → TR w S h β ts tmps → ∃ us : List Value, us.length = l.length ∧ (l.mapM (resF tmps)).run P w = .ok us w ∧
      ∀ (j : Nat) (c : V) (u : Value), vs[j]? = some c → us[j]? = some u → VR w S h β c u := by
  intro l
  induction l with
  | nil => exact fun k hk => ⟨[], hk, rfl, fun w S β tmps _ _ => ⟨[], rfl, by simp, by simp⟩⟩
  | cons x l ih =>
    intro k hk
    cases x with
    | cell a t =>
      simp only [resK] at hk
      have hk := lookK_spec _ _ _ hk
      obtain ⟨bs, hl, hb, hk⟩ := getsK_iff hk
      obtain ⟨v, hk, hld⟩ := aLoad_core hT hk
      obtain ⟨vs, hk, hl2, hh⟩ := ih _ hk
      refine ⟨v :: vs, hk, by simp [hl2], fun w S β tmps hr ht => ?_⟩
      obtain ⟨us, h1, h2, h3⟩ := hh w S β tmps hr ht
      obtain ⟨b, off, cv, g1, g2, g3⟩ := hld w S h β _ hr (ht a) hb
      refine ⟨cv :: us, by simp [h1], ?_, fun j c u hj hu => ?_⟩
      · have : (resF tmps (.cell a t)).run P w = .ok cv w := by
          unfold resF
          simp only [Sem.run_bind]
          rw [g1]
          simp [asAddr, g2]
        simp [List.mapM_cons, this, h2]
      · cases j with
        | zero => simp only [List.getElem?_cons_zero, Option.some.injEq] at hj hu; subst hj; subst hu; exact g3
        | succ j => exact h3 j c u (by simpa using hj) (by simpa using hu)
    | tmp t =>
      have hk := lookK_spec _ _ _ hk
      obtain ⟨vs, hk, hl, hh⟩ := ih _ hk
      refine ⟨look ts t :: vs, hk, by simp [hl], fun w S β tmps hr ht => ?_⟩
      obtain ⟨us, h1, h2, h3⟩ := hh w S β tmps hr ht
      refine ⟨tmps.getD t undef :: us, by simp [h1], by simp [List.mapM_cons, resF, h2], fun j c u hj hu => ?_⟩
      cases j with
      | zero => simp only [List.getElem?_cons_zero, Option.some.injEq] at hj hu; subst hj; subst hu; exact ht t
      | succ j => exact h3 j c u (by simpa using hj) (by simpa using hu)
theorem hr_nil {w : World} {S : Stb} (h : ∀ b o, S b o → b < w.heap.size) (hg : GlobOk w S) : HR w S [] [] := ⟨Nat.le_refl _, by simp, by simp, h, hg, fun r b p h => by simp [tl] at h, by simp⟩
theorem VR.nil1 {w : World} {S : Stb} {h : Hp} {β : Bet} {x : V} {v : Value} (hx : VR w S h β x v) (hb : nm1 0 x = true) : VR w S [] [] x v := by
  have no : ∀ m, Nat.blt m 0 = true → False := fun m h => by have := blt_lt h; omega
  cases hx with
  | u => exact .u _
  | d h => exact .d h
  | agg => cases hb
  | tup => cases hb
  | ptr h1 h2 => exact (no _ hb).elim
  | rp cs o b off uf h1 h2 => exact .rp cs o b off uf h1 h2
  | sref h1 h2 => exact (no _ hb).elim
  | fn f cap arr h1 h2 =>
    cases cap with
    | nil => exact .fn f [] arr h1 (by simp)
    | cons => cases hb
  | yld h1 h2 => exact (no _ hb).elim
  | map h1 h2 => exact (no _ hb).elim
theorem VR.nil {w : World} {S : Stb} {h : Hp} {β : Bet} {x : V} {v : Value} (hx : VR w S h β x v) (hb : nmV 0 x = true) : VR w S [] [] x v := by
  have all : ∀ {cs : List V} {j : Nat} {c : V}, cs.all (nm1 0) = true → cs[j]? = some c → nm1 0 c = true := fun h hj => List.all_eq_true.1 h _ (List.mem_of_getElem? hj)
  cases hx with
  | agg cs arr h1 h2 h3 => exact .agg cs arr h1 h2 fun j c u hc hu => (h3 j c u hc hu).nil1 (all hb hc)
  | tup cs arr h1 h2 => exact .tup cs arr h1 fun j c u hc hu => (h2 j c u hc hu).nil1 (all hb hc)
  | fn f cap arr h1 h2 => exact .fn f cap arr h1 fun j c u hc hu => (h2 j c u hc hu).nil1 (all hb hc)
  | u => exact .u _
  | d h => exact .d h
  | ptr h1 h2 => exact (VR.ptr h1 h2).nil1 hb
  | rp cs o b off uf h1 h2 => exact .rp cs o b off uf h1 h2
  | sref h1 h2 => exact (VR.sref h1 h2).nil1 hb
  | yld h1 h2 => exact (VR.yld h1 h2).nil1 hb
  | map h1 h2 => exact (VR.map h1 h2).nil1 hb
theorem run_results {fn : Func} {tmps : Array Value} {w : World} {us : List Value} (h : (fn.results.toList.mapM (resF tmps)).run P w = .ok us w) : (results fn tmps).run P w = .ok (if h : us.toArray.size = 1 then us.toArray[0] else .tuple us.toArray) w := by
  have e : (fn.results.mapM (resF tmps)).run P w = .ok us.toArray w := by
    rw [Array.mapM_eq_mapM_toList]
    simp [h]
  have e' : results fn tmps = (do let vs ← fn.results.mapM (resF tmps); pure (if h : vs.size = 1 then vs[0] else .tuple vs)) := by
    unfold results
    congr 1
  rw [e']
  simp only [Sem.run_bind, e, Result.andThen_ok, Sem.run_pure]
theorem retK_spec {vs : List V} {k : V → Prop} (h : retK vs k) : k (retV vs) := by
  unfold retK at h
  unfold retV
  split at h <;> exact h
theorem ret_rel {w : World} {S : Stb} {h : Hp} {β : Bet} {vs : List V} {us : List Value} (hl : us.length = vs.length) (hd : ∀ (j : Nat) (d : V) (u : Value), vs[j]? = some d → us[j]? = some u → VR w S h β d u) :
    VR w S h β (retV vs) (if h : us.toArray.size = 1 then us.toArray[0] else .tuple us.toArray) := by
  by_cases h1 : us.length = 1
  · rw [dif_pos (by simpa using h1)]
    match us, vs, h1, hl, hd with
    | [u], [d], _, _, hd => exact hd 0 d u rfl rfl
  · rw [dif_neg (by simpa using h1)]
    have : retV vs = .tup vs := by
      match vs, hl with
      | [], _ => rfl
      | [d], hl => exact absurd hl h1
      | _ :: _ :: _, _ => rfl
    rw [this]
    exact .tup _ _ (by simpa using hl) fun j c u hc hu => hd j c u hc (by simpa using hu)
structure Shut (B : Nat) (β : Bet) (w w' : World) : Prop where
  outer : Out w w'
  size : w'.heap.size = w.heap.size
  frame : ∀ (i : Nat), i < B ∨ img β i → w'.heap[i]? = w.heap[i]?
  cells : ∀ (i : Nat) c e f, w.heap[i]? = some (.cells c e f) → w'.heap[i]? = some (.cells c e f)
  loops : ∀ (i : Nat) l, w.heap[i]? = some (.loop l) → w'.heap[i]? = some (.loop l)
  froz : ∀ a, w'.frozen? a = w.frozen? a
  cell : ∀ a, w'.cell? a = w.cell? a
theorem Shut.refl (B : Nat) (β : Bet) (w : World) : Shut B β w w := ⟨Out.refl _, rfl, fun _ _ => rfl, fun _ _ _ _ h => h, fun _ _ h => h, fun _ => rfl, fun _ => rfl⟩
theorem Shut.trans {B : Nat} {β : Bet} {w w1 w2 : World} (a : Shut B β w w1) (b : Shut B β w1 w2) : Shut B β w w2 :=
  ⟨a.outer.trans b.outer, b.size.trans a.size, fun i hi => (b.frame i hi).trans (a.frame i hi), fun i c e f h => b.cells i c e f (a.cells i c e f h), fun i l h => b.loops i l (a.loops i l h), fun x => (b.froz x).trans (a.froz x), fun x => (b.cell x).trans (a.cell x)⟩
theorem Shut.evol0 {B : Nat} {β : Bet} {w w' : World} (s : Shut B β w w') (S : Stb) (h : Hp) : Evol0 w S h β w' S h β :=
  ⟨fun i c e f hi => ⟨c, s.cells i c e f hi, rfl⟩, fun _ _ h => h, fun b o _ => s.cell _, fun n b hb => ⟨b, hb, BEv.refl _ _⟩⟩
theorem Shut.hr {B : Nat} {β : Bet} {w w' : World} (s : Shut B β w w') {S : Stb} {h : Hp} (hr : HR w S h β) : HR w' S h β :=
  ⟨hr.len, fun n b hn => BR.keep0 (s.evol0 S h) rfl (fun _ r b p ht => ⟨ht, s.frame b (.inr (tl_img ht)), fun _ h => h⟩) (fun b' p hb => ⟨s.frame b' (.inr ⟨n, p, hb⟩), fun _ h => h⟩) (hr.blk n b hn), hr.inj, fun b o hs => by rw [s.size]; exact hr.old b o hs, hr.glob.evol0 (s.evol0 S h), fun r b p ht => by rw [s.size]; exact hr.tlt r b p ht, hr.one⟩
theorem shut_one {B : Nat} {β : Bet} {w : World} {r : Nat} (hB : B ≤ r) (hr : w.heap[r]? = some (.deferred (some []))) (hi : ¬ img β r) : Shut B β w (w.putObj r (.deferred none)) := by
  have hlt : r < w.heap.size := (Array.getElem?_eq_some_iff.1 hr).1
  have hne : ∀ i, i ≠ r → (w.putObj r (.deferred none)).heap[i]? = w.heap[i]? := fun i hi => by simp [World.putObj, Array.getElem?_setIfInBounds_ne (Ne.symm hi)]
  have hnew : (w.putObj r (.deferred none)).heap[r]? = some (.deferred none) := by simp [World.putObj, hlt]
  refine ⟨Out.refl _, by simp [World.putObj], fun i hi' => hne i ?_, fun i c e f hc => ?_, fun i l hl => ?_, fun a => ?_, fun a => ?_⟩
  · rintro rfl
    rcases hi' with h | h
    · omega
    · exact hi h
  · rw [hne i (by rintro rfl; rw [hr] at hc; cases hc)]; exact hc
  · rw [hne i (by rintro rfl; rw [hr] at hl; cases hl)]; exact hl
  · by_cases h : a.block = r
    · unfold World.frozen?
      rw [h, hnew, hr]
    · exact World.frozen?_of_block (hne _ h)
  · by_cases h : a.block = r
    · unfold World.cell?
      rw [h, hnew, hr]
    · exact World.cell?_of_block (hne _ h)
theorem leaves_marks {F : Fence} {n : Nat} {fn : Func} {tmps : Array Value} {R : Ending → World → Prop} {B : Nat} {β : Bet} : ∀ (ds : List Deferred) (w : World), Marks B w β ds →
    (∀ w', Shut B β w w' → ∃ v, (results fn tmps).run P w' = .ok v w' ∧ R (.returned v) w') → LeavesInM F n P fn tmps R ds .returning w
  | [], w, _, hk => hk w (Shut.refl _ _ _)
  | d :: ds, w, hm, hk => by
    obtain ⟨r, h1, h2, h3, h4⟩ := hm.2 d (.head _)
    have s1 := shut_one h2 h3 h4
    refine ⟨by simp, .inl ⟨r, _, h1, run_takeDeferred h3, leaves_marks ds _ ⟨(List.pairwise_cons.1 hm.1).2, fun e he => ?_⟩ fun w' s => hk w' (s1.trans s)⟩⟩
    obtain ⟨r', g1, g2, g3, g4⟩ := hm.2 e (.tail _ he)
    refine ⟨r', g1, g2, ?_, g4⟩
    have hne : r' ≠ r := by
      rintro rfl
      exact (List.pairwise_cons.1 hm.1).1 e he (h1.trans g1.symm)
    simp only [World.putObj]
    rw [Array.getElem?_setIfInBounds_ne (Ne.symm hne)]
    exact g3
theorem exFn_sound {E : Env} (hE : E.Ok P) {f : FuncId} {fn : Func} (hf : P.funcs[f]? = some fn) (hname : (fn.name == "runtime.NumGoroutine") = false) (hN : E.N = fn.ntmps) {args : List V} {h : Hp} {k : V → Hp → Prop}
    (hsz : args.length ≤ fn.ntmps) (hx : exFn E fn args h k) : CallV P f args h k := by
  intro w S β argv hr hv
  unfold exFn at hx
  cases hb : fn.body with
  | none => simp [hb] at hx
  | some c =>
    simp only [hb] at hx
    have hx := exCode_sound hE c _ _ _ (paramsK_spec _ _ _ _ hx)
    have hst : St E.N ⟨none, w.heap.size⟩ { tmps := argv ++ Array.replicate (fn.ntmps - argv.size) undef, defers := [] } w S (paramsT args 0 []) h β := by
      refine ⟨hr, fun t => ?_, ?_, ⟨.nil, by simp⟩, by simp, Nat.le_refl _⟩
      · rw [look_params]
        split
        · rename_i ht
          have ht : t < args.length := by omega
          have hta : t < argv.size := by rw [hv.1]; exact ht
          rw [Nat.sub_zero, List.getD_eq_getElem?_getD, List.getElem?_eq_getElem ht]
          rw [Array.getD_eq_getD_getElem?, Array.getElem?_append_left hta, Array.getElem?_eq_getElem hta]
          exact hv.2 t args[t] argv[t] (List.getElem?_eq_getElem ht) (Array.getElem?_eq_getElem hta)
        · exact .u _
      · rw [hN]; simp [hv.1]; omega
    refine .inl ⟨Go.MuLone.run_callFunc_enter hf hname hb argv w, callsIn_FF (ro := none) (n := 0) |>.1 (callsIn_of_wp_marks hf hb (FF.all none f) (wpIn_mono (hx 0 ⟨none, w.heap.size⟩ _ w S β hst) fun e a' w' hp => ?_))⟩
    obtain ⟨x, rfl, ts', h', S', β', hk, hs', hE'⟩ := hp
    have fin : (resK E.T h' ts' fn.results.toList fun vs => retK vs fun v => k v h') → LeavesInM (FF none) 0 P fn a'.tmps (fun e w' => ∃ v, e = .returned v ∧ ∃ va h' S' β', k va h' ∧ HR w' S' h' β' ∧ VR w' S' h' β' va v ∧ Evol w S h β w' S' h' β') a'.defers .returning w' := fun hk => by
      obtain ⟨vs, hk, hl, hh⟩ := resK_spec hE.types _ _ hk
      refine leaves_marks a'.defers w' hs'.marks fun w2 s => ?_
      have hr2 := s.hr hs'.hr
      obtain ⟨us, u1, u2, u3⟩ := hh w2 S' β' a'.tmps hr2 fun t => (hs'.tr t).evol0 (s.evol0 S' h')
      have E2 : Evol w S h β w2 S' h' β' := by
        refine ⟨hE'.outer.trans s.outer, by rw [s.size]; exact hE'.size, fun i hi hni => by rw [s.frame i (.inl hi)]; exact hE'.frame i hi hni, fun i c e f hi => ?_, fun i l hl => ?_, fun a ha => (s.froz a).trans (hE'.froz a ha), hE'.sub, hE'.new, fun b o hs => (s.cell _).trans (hE'.cell b o hs), hE'.imgs, hE'.len, hE'.blk⟩
        · obtain ⟨c', h1, h2⟩ := hE'.shape i c e f hi
          exact ⟨c', s.cells i c' e f h1, h2⟩
        · obtain ⟨l', h1⟩ := hE'.loops i l hl
          exact ⟨l', s.loops i l' h1⟩
      exact ⟨_, run_results u2, _, rfl, retV vs, h', S', β', retK_spec hk, hr2, ret_rel (by omega) u3, E2⟩
    cases x with
    | normal => exact fin hk
    | exit id => exact hk.elim
    | ret => exact fin hk
def liftRetK (v : V) (h : Hp) (k : List D → Prop) : Prop := match v with
  | .tup vs => liftAllK vs h fun ds _ => k ds
  | v => liftK v h fun d _ => k [d]
def outD : V → List D → V
  | .tup _, ds => .tup (ds.map .d)
  | _, [d] => .d d
  | _, _ => .u
theorem liftRetK_spec {v : V} {h : Hp} {k : List D → Prop} (hk : liftRetK v h k) : ∃ ds, k ds ∧ ∀ (w : World) (S : Stb) (β : Bet) (cv : Value), HR w S h β → VR w S h β v cv →
    ∃ S' h', HR w S' h' β ∧ Evol w S h β w S' h' β ∧ ∀ (h2 : Hp) (β2 : Bet), VR w S' h2 β2 (outD v ds) cv := by
  unfold liftRetK at hk
  split at hk
  · rename_i vs
    obtain ⟨ds, h', hk, hl, hh⟩ := liftAllK_spec _ _ _ hk
    refine ⟨ds, hk, fun w S β cv hr hv => ?_⟩
    cases hv with
    | tup _ arr h1 h2 =>
      obtain ⟨S', r1, e1, d1⟩ := hh w S β arr.toList hr (by simpa using h1) fun j c u hj hu => h2 j c u hj (by simpa using hu)
      refine ⟨S', h', r1, e1, fun h2 β2 => .tup _ _ (by simp; omega) fun j c u hc hu => ?_⟩
      rw [List.getElem?_map] at hc
      cases hd : ds[j]? with
      | none => simp [hd] at hc
      | some d => simp [hd] at hc; subst hc; exact .d (d1 j d u hd (by simpa using hu))
  · rename_i hno
    obtain ⟨d, h', hk, hh⟩ := liftK_spec hk
    refine ⟨[d], hk, fun w S β cv hr hv => ?_⟩
    obtain ⟨S', r1, e1, d1⟩ := hh w S β cv hr hv
    refine ⟨S', h', r1, e1, fun h2 β2 => ?_⟩
    have : outD v [d] = .d d := by
      cases v <;> first | rfl | exact absurd rfl (hno _)
    rw [this]
    exact .d d1
structure DLe (d d' : D) : Prop where
  wrap ::
  says : ∀ (w : World) (S : Stb) (v : Value), DR w S d v → DR w S d' v ∧ d'.flat = d.flat
theorem DLe.refl (d : D) : DLe d d := ⟨fun _ _ _ h => ⟨h, rfl⟩⟩
theorem DLe.trans {a b c : D} (x : DLe a b) (y : DLe b c) : DLe a c := ⟨fun w S v h => by
  obtain ⟨h1, h2⟩ := x.says w S v h
  obtain ⟨h3, h4⟩ := y.says w S v h1
  exact ⟨h3, h4.trans h2⟩⟩
theorem DLe.full (sz : Nat) (full : Bool) (xs : List D) : DLe (.sl sz full xs) (.sl sz false xs) := ⟨fun w S v h => by
  cases h with
  | sl _ _ _ a cap b off uf h1 h2 h3 h4 h5 h6 h7 => exact ⟨.sl _ _ _ a cap b off uf h1 (by simp) h3 h4 h5 h6 h7, rfl⟩⟩
theorem DLe.nil (sz sz' : Nat) (full : Bool) : DLe (.sl sz full []) (.sl sz' false []) := ⟨fun w S v h => by
  cases h with
  | sl _ _ _ a cap b off uf h1 h2 h3 h4 h5 h6 h7 => exact ⟨.sl _ _ _ a cap b off uf h1 (by simp) (by simp) (by simp) (by simp) (by simp) (by simp), rfl⟩⟩
def DLes : List D → List D → Prop
  | [], ys => ys = []
  | x :: xs, ys => match ys with
    | [] => False
    | y :: ys => DLe x y ∧ DLes xs ys
theorem DLes.spec : ∀ {xs ys : List D}, DLes xs ys → ys.length = xs.length ∧ ∀ (j : Nat) (x y : D), xs[j]? = some x → ys[j]? = some y → DLe x y
  | [], ys, h => by
    have h : ys = [] := h
    subst h; simp
  | x :: xs, [], h => h.elim
  | x :: xs, y :: ys, h => by
    obtain ⟨i1, i2⟩ := DLes.spec h.2
    refine ⟨by simp [i1], fun j a b ha hb => ?_⟩
    cases j with
    | zero => simp at ha hb; subst ha; subst hb; exact h.1
    | succ j => exact i2 j a b (by simpa using ha) (by simpa using hb)
theorem DLes.refl : ∀ (xs : List D), DLes xs xs
  | [] => rfl
  | x :: xs => ⟨.refl x, DLes.refl xs⟩
theorem DLe.agg {xs ys : List D} (h : DLes xs ys) : DLe (.agg xs) (.agg ys) := ⟨fun w S v hv => by
  obtain ⟨l1, l2⟩ := h.spec
  cases hv with
  | agg _ arr h1 h2 h3 =>
    refine ⟨.agg ys arr (by rw [h1, l1]) (fun j c hj => ?_) (fun j c u hj hu => ?_), rfl⟩
    all_goals
      have hlt : j < xs.length := by rw [← l1]; exact (List.getElem?_eq_some_iff.1 hj).1
      have hx := List.getElem?_eq_getElem hlt
    · have hla : j < arr.size := by rw [h1]; exact hlt
      have := (l2 j _ c hx hj).says w S _ (h3 j _ _ hx (Array.getElem?_eq_getElem hla))
      rw [this.2]; exact h2 j _ hx
    · exact ((l2 j _ c hx hj).says w S u (h3 j _ u hx hu)).1⟩
theorem DLe.sl {sz : Nat} {full : Bool} {xs ys : List D} (h : ys.length = xs.length ∧ ∀ (j : Nat) (x y : D), xs[j]? = some x → ys[j]? = some y → DLes x.cells y.cells) : DLe (.sl sz full xs) (.sl sz full ys) := ⟨fun w S v hv => by
  obtain ⟨l1, l2⟩ := h
  cases hv with
  | sl _ _ _ a cap b off uf h1 h2 h3 h4 h5 h6 h7 =>
    have get : ∀ (j : Nat) (y : D), ys[j]? = some y → ∃ x, xs[j]? = some x := fun j y hj => by
      have hlt : j < xs.length := by rw [← l1]; exact (List.getElem?_eq_some_iff.1 hj).1
      exact ⟨_, List.getElem?_eq_getElem hlt⟩
    have key : ∀ (i : Nat) (y : D) (j : Nat) (c : D), ys[i]? = some y → y.cells[j]? = some c → ∃ x c', xs[i]? = some x ∧ x.cells[j]? = some c' ∧ DLe c' c := fun i y j c hi hj => by
      obtain ⟨x, hx⟩ := get i y hi
      obtain ⟨m1, m2⟩ := (l2 i x y hx hi).spec
      have hlt : j < x.cells.length := by rw [← m1]; exact (List.getElem?_eq_some_iff.1 hj).1
      exact ⟨x, _, hx, List.getElem?_eq_getElem hlt, m2 j _ c (List.getElem?_eq_getElem hlt) hj⟩
    rw [← l1]
    refine ⟨.sl _ _ _ a cap b off uf (by rw [l1]; exact h1) (by rw [l1]; exact h2) (fun e => List.eq_nil_of_length_eq_zero (by rw [l1, h3 e]; rfl)) (fun e => h4 fun e' => e (List.eq_nil_of_length_eq_zero (by rw [l1, e']; rfl))) (fun i y hi => ?_) (fun i y j c hi hj => ?_) (fun i y j c hi hj => ?_), rfl⟩
    · obtain ⟨x, hx⟩ := get i y hi
      rw [(l2 i x y hx hi).spec.1]; exact h5 i x hx
    · obtain ⟨x, c', hx, hc, hle⟩ := key i y j c hi hj
      obtain ⟨f1, f2, f3⟩ := h6 i x j c' hx hc
      exact ⟨by rw [(hle.says w S _ (h7 i x j c' hx hc)).2]; exact f1, f2, f3⟩
    · obtain ⟨x, c', hx, hc, hle⟩ := key i y j c hi hj
      exact (hle.says w S _ (h7 i x j c' hx hc)).1⟩
def VLe : V → V → Prop
  | .d x, y => match y with
    | .d y => DLe x y
    | _ => False
  | .tup xs, y => match y with
    | .tup ys => VLesT xs ys
    | _ => False
  | x, y => x = y
where VLesT : List V → List V → Prop
  | [], ys => ys = []
  | x :: xs, ys => match ys with
    | [] => False
    | y :: ys => (match x, y with
      | .d x, .d y => DLe x y
      | x, y => x = y) ∧ VLesT xs ys
def VLes : List V → List V → Prop
  | [], ys => ys = []
  | x :: xs, ys => match ys with
    | [] => False
    | y :: ys => VLe x y ∧ VLes xs ys
theorem VLesT.spec : ∀ {xs ys : List V}, VLe.VLesT xs ys → ys.length = xs.length ∧ ∀ (j : Nat) (x y : V), xs[j]? = some x → ys[j]? = some y → ∀ {w S h β v}, VR w S h β x v → VR w S h β y v
  | [], ys, h => by
    have h : ys = [] := h
    subst h; simp
  | x :: xs, [], h => h.elim
  | x :: xs, y :: ys, h => by
    obtain ⟨i1, i2⟩ := VLesT.spec h.2
    refine ⟨by simp [i1], fun j a b ha hb => ?_⟩
    cases j with
    | zero =>
      simp at ha hb; subst ha; subst hb
      intro w S h' β v hv
      have hh := h.1
      split at hh
      · cases hv with
        | d hd => exact .d (hh.says w S v hd).1
      · subst hh; exact hv
    | succ j => exact i2 j a b (by simpa using ha) (by simpa using hb)
theorem VLe.vr {x y : V} (h : VLe x y) {w : World} {S : Stb} {hp : Hp} {β : Bet} {v : Value} (hv : VR w S hp β x v) : VR w S hp β y v := by
  cases x with
  | d x =>
    cases y with
    | d y => cases hv with
      | d hd => exact .d (DLe.says h w S v hd).1
    | _ => exact h.elim
  | tup xs =>
    cases y with
    | tup ys =>
      obtain ⟨l1, l2⟩ := VLesT.spec h
      cases hv with
      | tup _ arr h1 h2 =>
        refine .tup ys arr (by rw [h1, l1]) fun j c u hj hu => ?_
        have hlt : j < xs.length := by rw [← l1]; exact (List.getElem?_eq_some_iff.1 hj).1
        exact l2 j _ c (List.getElem?_eq_getElem hlt) hj (h2 j _ u (List.getElem?_eq_getElem hlt) hu)
    | _ => exact h.elim
  | _ => have h : _ = y := h; subst h; exact hv
theorem VLes.vrs : ∀ {xs ys : List V}, VLes xs ys → ys.length = xs.length ∧ ∀ (j : Nat) (x y : V), xs[j]? = some x → ys[j]? = some y → VLe x y
  | [], ys, h => by
    have h : ys = [] := h
    subst h; simp
  | x :: xs, [], h => h.elim
  | x :: xs, y :: ys, h => by
    obtain ⟨i1, i2⟩ := VLes.vrs h.2
    refine ⟨by simp [i1], fun j a b ha hb => ?_⟩
    cases j with
    | zero => simp at ha hb; subst ha; subst hb; exact h.1
    | succ j => exact i2 j a b (by simpa using ha) (by simpa using hb)
theorem CallP.le {f : FuncId} {args args' : List V} {v : V} (hle : VLes args args') (h : CallP P f args' v) : CallP P f args v := fun w S hp β argv hr hv => by
  obtain ⟨l1, l2⟩ := hle.vrs
  refine h w S hp β argv hr ⟨by rw [l1]; exact hv.1, fun j c u hj hu => ?_⟩
  have hlt : j < args.length := by rw [← l1]; exact (List.getElem?_eq_some_iff.1 hj).1
  exact (l2 j _ c (List.getElem?_eq_getElem hlt) hj).vr (hv.2 j _ u (List.getElem?_eq_getElem hlt) hu)
theorem CallRow.le {f : FuncId} {args args' : List V} {sz : Nat} {ys : List D} (hle : VLes args args') (h : CallRow P f args' sz ys) : CallRow P f args sz ys := fun w S hp β argv n hn hr hv => by
  obtain ⟨l1, l2⟩ := hle.vrs
  refine h w S hp β argv n hn hr ⟨by rw [l1]; exact hv.1, fun j c u hj hu => ?_⟩
  have hlt : j < args.length := by rw [← l1]; exact (List.getElem?_eq_some_iff.1 hj).1
  exact (l2 j _ c (List.getElem?_eq_getElem hlt) hj).vr (hv.2 j _ u (List.getElem?_eq_getElem hlt) hu)
def retD (ds : List D) : V := retV (ds.map .d)
theorem exPure_sound {E : Env} (hE : E.Ok P) {f : FuncId} {fn : Func} (hf : P.funcs[f]? = some fn) (hname : (fn.name == "runtime.NumGoroutine") = false) (hN : E.N = fn.ntmps) {args : List V} (hargs : args.all (nmV 0) = true)
    (hsz : args.length ≤ fn.ntmps) {r : List D} (hx : exFn E fn args [] fun v h => liftRetK v h fun ds => VLe (outD v ds) (retD r)) : CallP P f args (retD r) := by
  intro w S h β argv hr hv
  have hc := exFn_sound hE hf hname hN hsz hx w S [] argv (hr_nil hr.old hr.glob) ⟨hv.1, fun j c u hj hu => by
    exact (hv.2 j c u hj hu).nil (List.all_eq_true.1 hargs _ (List.mem_of_getElem? hj))⟩
  have key : ∀ (cv : Value) (w' : World), (∃ v h' S' β', (liftRetK v h' fun ds => VLe (outD v ds) (retD r)) ∧ HR w' S' h' β' ∧ VR w' S' h' β' v cv ∧ Evol w S [] [] w' S' h' β') →
      ∃ S' β', HR w' S' h β' ∧ VR w' S' h β' (retD r) cv ∧ Evol w S h β w' S' h β' := fun cv w' ⟨v, h', S', β', hk, hr', hv', hE'⟩ => by
    obtain ⟨ds, hd, hh⟩ := liftRetK_spec hk
    obtain ⟨S2, h2, r2, e2, d2⟩ := hh w' S' β' cv hr' hv'
    have eT := hE'.trans e2
    refine ⟨S2, β, ?_⟩
    have E2 : Evol w S h β w' S2 h β := by
      refine ⟨eT.outer, eT.size, fun i hi _ => eT.frame i hi ?_, eT.shape, eT.loops, eT.froz, eT.sub, fun b o hs => ?_, eT.cell, fun b hb => .inl hb, Nat.le_refl _, fun m b hm => ⟨b, hm, BEv.refl _ _⟩⟩
      · rintro ⟨m, p, hm⟩; simp at hm
      · rcases eT.new b o hs with h | h | ⟨m, p, hm⟩
        · exact .inl h
        · exact .inr (.inl h)
        · simp at hm
    have stays : ∀ b', b' < w.heap.size → w'.heap[b']? = w.heap[b']? ∧ ∀ o, S2 b' o → S b' o := fun b' hlt => by
      refine ⟨eT.frame b' hlt (by rintro ⟨m, p, hm⟩; simp at hm), fun o ho => ?_⟩
      rcases eT.new b' o ho with h | h | ⟨m, p, hm⟩
      · exact h
      · omega
      · simp at hm
    exact ⟨⟨hr.len, fun m b hm => BR.keep E2 rfl (fun _ r b p ht => ⟨ht, stays b (hr.tlt r b p ht)⟩) (fun b' p hb' => stays b' (hr.lt hb')) (hr.blk m b hm), hr.inj, r2.old, r2.glob, fun r b p ht => Nat.lt_of_lt_of_le (hr.tlt r b p ht) eT.size, hr.one⟩, hd.vr (d2 h β), E2⟩
  rcases hc with ⟨h1, h2⟩ | ⟨v, w', h1, h2⟩
  · exact .inl ⟨h1, fun cs => by
      obtain ⟨e, w', fr, ⟨v, he, hk⟩, r⟩ := h2 cs
      exact ⟨e, w', fr, ⟨v, he, key v w' hk⟩, r⟩⟩
  · exact .inr ⟨v, w', h1, key v w' h2⟩
def rowRetK (sz : Nat) (v : V) (h : Hp) (k : List D → Prop) : Prop := match v with
  | .sref n ver lo len _ => nthK h n fun b => match b with
    | .row ver' sz' ro xs => match ro with
      | false => chkB (Nat.beq sz' sz) (Chk (ver = ver' ∧ lo + len ≤ xs.length) (Nam ((xs.drop lo).take len) fun ys => k ys))
      | true => False
    | _ => False
  | .d (.sl _ full xs) => match full, xs with
    | true, [] => chkB (Nat.blt 0 sz) (k [])
    | _, _ => False
  | _ => False
theorem exRow_sound {E : Env} (hE : E.Ok P) {f : FuncId} {fn : Func} (hf : P.funcs[f]? = some fn) (hname : (fn.name == "runtime.NumGoroutine") = false) (hN : E.N = fn.ntmps) {args : List V} (hargs : args.all (nmV 0) = true)
    (hsz : args.length ≤ fn.ntmps) {sz : Nat} {r : List D} (hx : exFn E fn args [] fun v h => rowRetK sz v h fun ys => ys = r) : CallRow P f args sz r := by
  intro w S h β argv n hn hr hv
  have hc := exFn_sound hE hf hname hN hsz hx w S [] argv (hr_nil hr.old hr.glob) ⟨hv.1, fun j c u hj hu => by
    exact (hv.2 j c u hj hu).nil (List.all_eq_true.1 hargs _ (List.mem_of_getElem? hj))⟩
  have hnl : n < h.length := (List.getElem?_eq_some_iff.1 hn).1
  have hnb : n < β.length := Nat.lt_of_lt_of_le hnl hr.len
  have hnone : β[n]? = some none := by have := hr.blk n _ hn; simpa [BR] using this
  have key : ∀ (cv : Value) (w' : World), (∃ v h' S' β', (rowRetK sz v h' fun ys => ys = r) ∧ HR w' S' h' β' ∧ VR w' S' h' β' v cv ∧ Evol w S [] [] w' S' h' β') →
      ∃ S' β', HR w' S' (h.set n (.row 0 sz false r)) β' ∧ VR w' S' (h.set n (.row 0 sz false r)) β' (.sref n 0 0 r.length false) cv ∧ Evol w S h β w' S' (h.set n (.row 0 sz false r)) β' := fun cv w' ⟨v, h', S', β', hk, hr', hv', eT⟩ => by
    -- the world as the caller's heap sees it, the name's block at p
    have core : ∀ (p : Option (Nat × Nat)), (∀ b q, p = some (b, q) → img β' b) → (Evol w S h β w' S' (h.set n (.row 0 sz false r)) (β.set n p) → BR w' S' (h.set n (.row 0 sz false r)) (β.set n p) n (.row 0 sz false r)) →
        HR w' S' (h.set n (.row 0 sz false r)) (β.set n p) ∧ Evol w S h β w' S' (h.set n (.row 0 sz false r)) (β.set n p) := fun p hp hbr => by
      have hnew : ∀ b q, p = some (b, q) → w.heap.size ≤ b := fun b q e => by
        rcases eT.imgs b (hp b q e) with ⟨m, q', hm⟩ | h
        · simp at hm
        · exact h
      have hset : (β.set n p)[n]? = some p := by simp [hnb]
      have E2 : Evol w S h β w' S' (h.set n (.row 0 sz false r)) (β.set n p) := by
        refine ⟨eT.outer, eT.size, fun i hi _ => eT.frame i hi ?_, eT.shape, eT.loops, eT.froz, eT.sub, fun b o hs => ?_, eT.cell, fun b hb => ?_, by simp, fun m b hm => ?_⟩
        · rintro ⟨m, p, hm⟩; simp at hm
        · rcases eT.new b o hs with h | h | ⟨m, p, hm⟩
          · exact .inl h
          · exact .inr (.inl h)
          · simp at hm
        · obtain ⟨m, q, hm⟩ := hb
          by_cases hmn : m = n
          · subst hmn
            rw [hset] at hm
            exact .inr (hnew b q (by simpa using hm))
          · rw [List.getElem?_set_ne (Ne.symm hmn)] at hm
            exact .inl ⟨m, q, hm⟩
        · by_cases hmn : m = n
          · subst hmn
            rw [hn] at hm; cases hm
            exact ⟨_, by simp [hnl]; rfl, trivial⟩
          · exact ⟨b, by rw [List.getElem?_set_ne (Ne.symm hmn)]; exact hm, by rw [List.getElem?_set_ne (Ne.symm hmn)]; exact BEv.refl _ _⟩
      have stays : ∀ b', b' < w.heap.size → w'.heap[b']? = w.heap[b']? ∧ ∀ o, S' b' o → S b' o := fun b' hlt => by
        refine ⟨eT.frame b' hlt (by rintro ⟨m, p, hm⟩; simp at hm), fun o ho => ?_⟩
        rcases eT.new b' o ho with h | h | ⟨m, p, hm⟩
        · exact h
        · omega
        · simp at hm
      refine ⟨⟨by simpa using hr.len, fun m b hm => ?_, fun m1 m2 b q1 q2 h1 h2 => ?_, hr'.old, hr'.glob, fun r b p ht => by rw [tl_set hnl] at ht; exact Nat.lt_of_lt_of_le (hr.tlt r b p ht) eT.size, one_set hr.one hn (fun h => nomatch h)⟩, E2⟩
      · by_cases hmn : m = n
        · subst hmn
          have : b = .row 0 sz false r := by simpa [hnl] using hm.symm
          subst this
          exact hbr E2
        · rw [List.getElem?_set_ne (Ne.symm hmn)] at hm
          exact BR.keep E2 (by rw [List.getElem?_set_ne (Ne.symm hmn)]) (fun _ r b p ht => ⟨by rw [tl_set hnl]; exact ht, stays b (hr.tlt r b p ht)⟩) (fun b' p hb' => stays b' (hr.lt hb')) (hr.blk m b hm)
      · have hcase : ∀ m q, (β.set n p)[m]? = some (some (b, q)) → (m ≠ n ∧ β[m]? = some (some (b, q))) ∨ (m = n ∧ p = some (b, q)) := by
          intro m q hm
          by_cases hmn : m = n
          · subst hmn; rw [hset] at hm; exact .inr ⟨rfl, by simpa using hm⟩
          · rw [List.getElem?_set_ne (Ne.symm hmn)] at hm; exact .inl ⟨hmn, hm⟩
        rcases hcase m1 q1 h1 with ⟨a1, a2⟩ | ⟨a1, a2⟩ <;> rcases hcase m2 q2 h2 with ⟨b1, b2⟩ | ⟨b1, b2⟩
        · exact hr.inj _ _ _ _ _ a2 b2
        · exact absurd (hr.lt a2) (by have := hnew _ _ b2; omega)
        · exact absurd (hr.lt b2) (by have := hnew _ _ a2; omega)
        · omega
    have hget : (h.set n (.row 0 sz false r))[n]? = some (.row 0 sz false r) := by simp [hnl]
    have empty : 0 < sz → r = [] → (∃ a, cv = .slice a 0 0) → ∃ S' β', HR w' S' (h.set n (.row 0 sz false r)) β' ∧ VR w' S' (h.set n (.row 0 sz false r)) β' (.sref n 0 0 r.length false) cv ∧ Evol w S h β w' S' (h.set n (.row 0 sz false r)) β' := fun hs hre ⟨a, hcv⟩ => by
      subst hre; subst hcv
      obtain ⟨c1, c2⟩ := core none (by simp) fun E => ⟨hs, by simp, .inl ⟨rfl, by simp [hnb]⟩⟩
      refine ⟨S', _, c1, .sref rfl ⟨a, 0, rfl, Nat.le_refl _, by simp, ?_⟩, c2⟩
      rw [hget]
      exact ⟨Nat.le_refl _, fun _ => .inl ⟨by simp [hnb], rfl⟩⟩
    unfold rowRetK at hk
    split at hk
    · rename_i m ver lo len full
      obtain ⟨blk, hm, hk⟩ := nthK_iff.1 hk
      split at hk
      case h_2 => exact hk.elim
      rename_i ver' sz' ro xs
      cases ro with
      | true => exact hk.elim
      | false =>
      simp only [] at hk
      obtain ⟨hs0, hk1⟩ := (chkB_iff _ _).1 hk
      clear hk
      have hs := Nat.eq_of_beq_eq_true hs0
      clear hs0
      subst hs
      obtain ⟨⟨hver, hl⟩, hk2⟩ := hk1.elim
      clear hk1
      subst hver
      have hk : (xs.drop lo).take len = r := hk2.elim
      cases hv' with
      | sref v1 v2 =>
        obtain ⟨a, cap, rfl, hc1, hc2, hp⟩ := v2
        simp only [hm] at hp
        obtain ⟨_, hp⟩ := hp
        obtain ⟨b0, b1, b2⟩ := hr'.blk m _ hm
        have hrl : r.length = len := by rw [← hk]; simp; omega
        rcases hp trivial with ⟨hno, rfl⟩ | ⟨b, base, cells, elem, fz, q1, q2, q3, q4⟩
        · have hl0 : len = 0 := by omega
          subst hl0
          exact empty b0 (List.eq_nil_of_length_eq_zero hrl) ⟨a, rfl⟩
        · rcases b2 with ⟨rfl, hno⟩ | ⟨b', base', c, e, k1, k2, k3, k4, k5⟩
          · rw [q1] at hno; simp at hno
          · rw [q1] at k1; simp at k1; obtain ⟨rfl, rfl⟩ := k1
            rw [q3] at k2; cases k2
            have hg : ∀ {i : Nat} {x : D}, r[i]? = some x → xs[lo + i]? = some x := by rw [← hk]; exact part_get
            obtain ⟨c1, c2⟩ := core (some (b, base + lo * sz')) (fun b2 q e => by cases e; exact ⟨m, base, q1⟩) fun E => by
              refine ⟨b0, fun i x hx => b1 _ x (hg hx), .inr ⟨b, base + lo * sz', cells, elem, by simp [hnb], q3, ?_, fun i x j y hx hy => ?_, fun o ho => absurd (k5 o ho).1 (by simp)⟩⟩
              · have : (lo + len) * sz' ≤ xs.length * sz' := Nat.mul_le_mul_right _ hl
                rw [hrl]; rw [Nat.add_mul] at this; omega
              · obtain ⟨u, u1, u2⟩ := k4 (lo + i) x j y (hg hx) hy
                exact ⟨u, by rw [Nat.add_mul, ← Nat.add_assoc] at u1; exact u1, u2⟩
            refine ⟨S', _, c1, .sref rfl ⟨a, cap, by rw [hrl], by rw [hrl]; exact hc1, by simp, ?_⟩, c2⟩
            rw [hget]
            refine ⟨Nat.le_refl _, fun _ => .inr ⟨b, base + lo * sz', cells, elem, (0, 0), by simp [hnb], fun h => by simpa using q2 h, q3, ?_⟩⟩
            rw [Nat.zero_add]; rw [Nat.add_mul] at q4; omega
    · split at hk
      · obtain ⟨hs, hk⟩ := (chkB_iff _ _).1 hk
        have hs : 0 < sz := Nat.le_of_ble_eq_true hs
        cases hv' with
        | d hd =>
          cases hd with
          | sl _ _ _ a cap b off uf h1 h2 h3 => exact empty hs hk.symm ⟨a, by rw [h2 rfl]; rfl⟩
      · exact hk.elim
    · exact hk.elim
  rcases hc with ⟨h1, h2⟩ | ⟨v, w', h1, h2⟩
  · exact .inl ⟨h1, fun cs => by
      obtain ⟨e, w', fr, ⟨v, he, hk⟩, r⟩ := h2 cs
      exact ⟨e, w', fr, ⟨v, he, key v w' hk⟩, r⟩⟩
  · exact .inr ⟨v, w', h1, key v w' h2⟩
def mapRetK (T : TT) (kt : TypeId) (es : List (D × D)) (v : V) (h : Hp) : Prop := match v with
  | .map n => nthK h n fun b => match b with
    | .map T' kt' es' => T' = T ∧ kt' = kt ∧ es' = es
    | _ => False
  | _ => False
theorem exMap_sound {E : Env} (hE : E.Ok P) {f : FuncId} {fn : Func} (hf : P.funcs[f]? = some fn) (hname : (fn.name == "runtime.NumGoroutine") = false) (hN : E.N = fn.ntmps) {args : List V} (hargs : args.all (nmV 0) = true)
    (hsz : args.length ≤ fn.ntmps) {T : TT} {kt : TypeId} {es : List (D × D)} (hx : exFn E fn args [] fun v h => mapRetK T kt es v h) : CallMap P f args T kt es := by
  intro w S h β argv n hn hr hv
  have hc := exFn_sound hE hf hname hN hsz hx w S [] argv (hr_nil hr.old hr.glob) ⟨hv.1, fun j c u hj hu => by
    exact (hv.2 j c u hj hu).nil (List.all_eq_true.1 hargs _ (List.mem_of_getElem? hj))⟩
  have hnl : n < h.length := (List.getElem?_eq_some_iff.1 hn).1
  have hnb : n < β.length := Nat.lt_of_lt_of_le hnl hr.len
  have hnone : β[n]? = some none := by have := hr.blk n _ hn; simpa [BR] using this
  have key : ∀ (cv : Value) (w' : World), (∃ v h' S' β', mapRetK T kt es v h' ∧ HR w' S' h' β' ∧ VR w' S' h' β' v cv ∧ Evol w S [] [] w' S' h' β') →
      ∃ S' β', HR w' S' (h.set n (.map T kt es)) β' ∧ VR w' S' (h.set n (.map T kt es)) β' (.map n) cv ∧ Evol w S h β w' S' (h.set n (.map T kt es)) β' := fun cv w' ⟨v, h', S', β', hk, hr', hv', eT⟩ => by
    -- the world as the caller's heap sees it, the name's block at p
    have core : ∀ (p : Option (Nat × Nat)), (∀ b q, p = some (b, q) → img β' b) → (Evol w S h β w' S' (h.set n (.map T kt es)) (β.set n p) → BR w' S' (h.set n (.map T kt es)) (β.set n p) n (.map T kt es)) →
        HR w' S' (h.set n (.map T kt es)) (β.set n p) ∧ Evol w S h β w' S' (h.set n (.map T kt es)) (β.set n p) := fun p hp hbr => by
      have hnew : ∀ b q, p = some (b, q) → w.heap.size ≤ b := fun b q e => by
        rcases eT.imgs b (hp b q e) with ⟨m, q', hm⟩ | h
        · simp at hm
        · exact h
      have hset : (β.set n p)[n]? = some p := by simp [hnb]
      have E2 : Evol w S h β w' S' (h.set n (.map T kt es)) (β.set n p) := by
        refine ⟨eT.outer, eT.size, fun i hi _ => eT.frame i hi ?_, eT.shape, eT.loops, eT.froz, eT.sub, fun b o hs => ?_, eT.cell, fun b hb => ?_, by simp, fun m b hm => ?_⟩
        · rintro ⟨m, p, hm⟩; simp at hm
        · rcases eT.new b o hs with h | h | ⟨m, p, hm⟩
          · exact .inl h
          · exact .inr (.inl h)
          · simp at hm
        · obtain ⟨m, q, hm⟩ := hb
          by_cases hmn : m = n
          · subst hmn
            rw [hset] at hm
            exact .inr (hnew b q (by simpa using hm))
          · rw [List.getElem?_set_ne (Ne.symm hmn)] at hm
            exact .inl ⟨m, q, hm⟩
        · by_cases hmn : m = n
          · subst hmn
            rw [hn] at hm; cases hm
            exact ⟨_, by simp [hnl]; rfl, trivial⟩
          · exact ⟨b, by rw [List.getElem?_set_ne (Ne.symm hmn)]; exact hm, by rw [List.getElem?_set_ne (Ne.symm hmn)]; exact BEv.refl _ _⟩
      have stays : ∀ b', b' < w.heap.size → w'.heap[b']? = w.heap[b']? ∧ ∀ o, S' b' o → S b' o := fun b' hlt => by
        refine ⟨eT.frame b' hlt (by rintro ⟨m, p, hm⟩; simp at hm), fun o ho => ?_⟩
        rcases eT.new b' o ho with h | h | ⟨m, p, hm⟩
        · exact h
        · omega
        · simp at hm
      refine ⟨⟨by simpa using hr.len, fun m b hm => ?_, fun m1 m2 b q1 q2 h1 h2 => ?_, hr'.old, hr'.glob, fun r b p ht => by rw [tl_set hnl] at ht; exact Nat.lt_of_lt_of_le (hr.tlt r b p ht) eT.size, one_set hr.one hn (fun h => nomatch h)⟩, E2⟩
      · by_cases hmn : m = n
        · subst hmn
          have : b = .map T kt es := by simpa [hnl] using hm.symm
          subst this
          exact hbr E2
        · rw [List.getElem?_set_ne (Ne.symm hmn)] at hm
          exact BR.keep E2 (by rw [List.getElem?_set_ne (Ne.symm hmn)]) (fun _ r b p ht => ⟨by rw [tl_set hnl]; exact ht, stays b (hr.tlt r b p ht)⟩) (fun b' p hb' => stays b' (hr.lt hb')) (hr.blk m b hm)
      · have hcase : ∀ m q, (β.set n p)[m]? = some (some (b, q)) → (m ≠ n ∧ β[m]? = some (some (b, q))) ∨ (m = n ∧ p = some (b, q)) := by
          intro m q hm
          by_cases hmn : m = n
          · subst hmn; rw [hset] at hm; exact .inr ⟨rfl, by simpa using hm⟩
          · rw [List.getElem?_set_ne (Ne.symm hmn)] at hm; exact .inl ⟨hmn, hm⟩
        rcases hcase m1 q1 h1 with ⟨a1, a2⟩ | ⟨a1, a2⟩ <;> rcases hcase m2 q2 h2 with ⟨b1, b2⟩ | ⟨b1, b2⟩
        · exact hr.inj _ _ _ _ _ a2 b2
        · exact absurd (hr.lt a2) (by have := hnew _ _ b2; omega)
        · exact absurd (hr.lt b2) (by have := hnew _ _ a2; omega)
        · omega
    have hget : (h.set n (.map T kt es))[n]? = some (.map T kt es) := by simp [hnl]
    unfold mapRetK at hk
    split at hk
    · rename_i m
      obtain ⟨blk, hm, hk⟩ := nthK_iff.1 hk
      split at hk
      case h_2 => exact hk.elim
      obtain ⟨rfl, rfl, rfl⟩ := hk
      have hbm := hr'.blk m _ hm
      obtain ⟨b, mes, clock, k1, k2, k3, k4, k5, k6⟩ := hbm
      cases hv' with
      | map h1 h2 =>
        have h3 := h2 (by rw [hm]; simp)
        rw [k1] at h3
        simp only [Option.some.injEq, Prod.mk.injEq, and_true] at h3
        subst h3
        obtain ⟨c1, c2⟩ := core (some (b, 0)) (fun b2 q e => by cases e; exact ⟨m, 0, k1⟩) fun E => ⟨b, mes, clock, by simp [hnb], k2, k3, k4, k5, k6⟩
        exact ⟨S', _, c1, .map (by rw [hget]; trivial) (fun _ => by simp [hnb]), c2⟩
    · exact hk.elim
  rcases hc with ⟨h1, h2⟩ | ⟨v, w', h1, h2⟩
  · exact .inl ⟨h1, fun cs => by
      obtain ⟨e, w', fr, ⟨v, he, hk⟩, r⟩ := h2 cs
      exact ⟨e, w', fr, ⟨v, he, key v w' hk⟩, r⟩⟩
  · exact .inr ⟨v, w', h1, key v w' h2⟩
end Go.PM
