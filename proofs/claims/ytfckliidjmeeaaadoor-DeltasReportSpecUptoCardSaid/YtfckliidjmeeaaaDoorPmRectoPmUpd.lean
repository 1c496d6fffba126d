/-
  PM: a function that is called in a heap of known blocks (closures that call themselves through a variable).
-/
import Derived.Test.YtfckliidjmeeaaaDoorPmRangetoPmKit
import Derived.Test.YtfckliidjmeeaaaDoorPmFun
set_option linter.unusedSectionVars false
namespace Go.PM
variable [Glob]
variable {P : Program} {T : TT}
def liftRetHK (v : V) (h : Hp) (k : List D → Hp → Prop) : Prop := match v with
  | .tup vs => liftAllK vs h k
  | v => liftK v h fun d h' => k [d] h'
theorem liftRetHK_spec {v : V} {h : Hp} {k : List D → Hp → Prop} (hk : liftRetHK v h k) : ∃ ds h', k ds h' ∧ ∀ (w : World) (S : Stb) (β : Bet) (cv : Value), HR w S h β → VR w S h β v cv →
    ∃ S', HR w S' h' β ∧ Evol w S h β w S' h' β ∧ ∀ (h2 : Hp) (β2 : Bet), VR w S' h2 β2 (outD v ds) cv := by
  unfold liftRetHK at hk
  split at hk
  · rename_i vs
    obtain ⟨ds, h', hk, hl, hh⟩ := liftAllK_spec _ _ _ hk
    refine ⟨ds, h', hk, fun w S β cv hr hv => ?_⟩
    cases hv with
    | tup _ arr h1 h2 =>
      obtain ⟨S', r1, e1, d1⟩ := hh w S β arr.toList hr (by simpa using h1) fun j c u hj hu => h2 j c u hj (by simpa using hu)
      refine ⟨S', r1, e1, fun h2 β2 => .tup _ _ (by simp; omega) fun j c u hc hu => ?_⟩
      rw [List.getElem?_map] at hc
      cases hd : ds[j]? with
      | none => simp [hd] at hc
      | some d => simp [hd] at hc; subst hc; exact .d (d1 j d u hd (by simpa using hu))
  · rename_i hno
    obtain ⟨d, h', hk, hh⟩ := liftK_spec hk
    refine ⟨[d], h', hk, fun w S β cv hr hv => ?_⟩
    obtain ⟨S', r1, e1, d1⟩ := hh w S β cv hr hv
    refine ⟨S', r1, e1, fun h2 β2 => ?_⟩
    have : outD v [d] = .d d := by
      cases v <;> first | rfl | exact absurd rfl (hno _)
    rw [this]
    exact .d d1
theorem exRec_sound {E : Env} (hE : E.Ok P) {f : FuncId} {fn : Func} (hf : P.funcs[f]? = some fn) (hname : (fn.name == "runtime.NumGoroutine") = false) (hN : E.N = fn.ntmps) {args : List V} {H : Hp} (hH : H.all (nmBlk H.length) = true)
    (hsz : args.length ≤ fn.ntmps) {r : List D} (hx : exFn E fn args H fun v h => liftRetHK v h fun ds h' => VLe (outD v ds) (retD r) ∧ h'.take H.length = H) : CallV P f args H fun v h => v = retD r ∧ h = H := by
  intro w S β argv hr hv
  have hc := exFn_sound hE hf hname hN hsz hx w S β argv hr hv
  have key : ∀ (cv : Value) (w' : World), (∃ v h' S' β', (liftRetHK v h' fun ds h' => VLe (outD v ds) (retD r) ∧ h'.take H.length = H) ∧ HR w' S' h' β' ∧ VR w' S' h' β' v cv ∧ Evol w S H β w' S' h' β') →
      ∃ v h' S' β', (v = retD r ∧ h' = H) ∧ HR w' S' h' β' ∧ VR w' S' h' β' v cv ∧ Evol w S H β w' S' h' β' := fun cv w' ⟨v, h', S', β', hk, hr', hv', hE'⟩ => by
    obtain ⟨ds, h2, ⟨hd, ht⟩, hh⟩ := liftRetHK_spec hk
    obtain ⟨S2, r2, e2, d2⟩ := hh w' S' β' cv hr' hv'
    have r3 := r2.drop (n := H.length) (by rw [ht]; exact hH)
    have e3 := (hE'.trans e2).drop (n := H.length) (Nat.le_refl _) r2.len
    rw [ht] at r3 e3
    exact ⟨retD r, H, S2, _, ⟨rfl, rfl⟩, r3, hd.vr (d2 _ _), e3⟩
  rcases hc with ⟨h1, h2⟩ | ⟨v, w', h1, h2⟩
  · exact .inl ⟨h1, fun cs => by
      obtain ⟨e, w', fr, ⟨v, he, hk⟩, r⟩ := h2 cs
      exact ⟨e, w', fr, ⟨v, he, key v w' hk⟩, r⟩⟩
  · exact .inr ⟨v, w', h1, key v w' h2⟩
theorem VR.same1 {w : World} {S : Stb} {h h' : Hp} {β β' : Bet} {n : Nat} (hh : ∀ i, i < n → h'[i]? = h[i]?) (hb : ∀ i, i < n → β'[i]? = β[i]?) {x : V} {v : Value} (hx : VR w S h β x v) (hn : nm1 n x = true) : VR w S h' β' x v := by
  cases hx with
  | u => exact .u _
  | d h => exact .d h
  | agg => cases hn
  | tup => cases hn
  | @ptr m _ _ _ _ h1 h2 =>
    have hl := blt_lt hn
    refine .ptr h1 ?_
    unfold PR at h2 ⊢
    rw [hh m hl, hb m hl]; exact h2
  | rp cs o b off uf h1 h2 => exact .rp cs o b off uf h1 h2
  | @sref m _ _ _ _ _ h1 h2 =>
    have hl := blt_lt hn
    refine .sref h1 ?_
    unfold SR at h2 ⊢
    rw [hh m hl, hb m hl]; exact h2
  | fn f cap arr h1 h2 =>
    cases cap with
    | nil => exact .fn f [] arr h1 (by simp)
    | cons => cases hn
  | @yld m _ h1 h2 =>
    have hl := blt_lt hn
    exact .yld (by rw [hh m hl]; exact h1) (by rw [hh m hl, hb m hl]; exact h2)
  | @map m _ h1 h2 =>
    have hl := blt_lt hn
    exact .map (by rw [hh m hl]; exact h1) (by rw [hh m hl, hb m hl]; exact h2)
theorem VR.same {w : World} {S : Stb} {h h' : Hp} {β β' : Bet} {n : Nat} (hh : ∀ i, i < n → h'[i]? = h[i]?) (hb : ∀ i, i < n → β'[i]? = β[i]?) {x : V} {v : Value} (hx : VR w S h β x v) (hn : nmV n x = true) : VR w S h' β' x v := by
  have all : ∀ {cs : List V} {j : Nat} {c : V}, cs.all (nm1 n) = true → cs[j]? = some c → nm1 n c = true := fun h hj => List.all_eq_true.1 h _ (List.mem_of_getElem? hj)
  cases hx with
  | agg cs arr h1 h2 h3 => exact .agg cs arr h1 h2 fun j c u hc hu => (h3 j c u hc hu).same1 hh hb (all hn hc)
  | tup cs arr h1 h2 => exact .tup cs arr h1 fun j c u hc hu => (h2 j c u hc hu).same1 hh hb (all hn hc)
  | fn f cap arr h1 h2 => exact .fn f cap arr h1 fun j c u hc hu => (h2 j c u hc hu).same1 hh hb (all hn hc)
  | u => exact .u _
  | d h => exact .d h
  | ptr h1 h2 => exact (VR.ptr h1 h2).same1 hh hb hn
  | rp cs o b off uf h1 h2 => exact .rp cs o b off uf h1 h2
  | sref h1 h2 => exact (VR.sref h1 h2).same1 hh hb hn
  | yld h1 h2 => exact (VR.yld h1 h2).same1 hh hb hn
  | map h1 h2 => exact (VR.map h1 h2).same1 hh hb hn
def Blk.isVar : Blk → Bool
  | .var _ => true
  | .vard _ => true
  | _ => false
theorem BR.same {w : World} {S : Stb} {h h' : Hp} {β β' : Bet} {n m : Nat} (hh : ∀ i, i < n → h'[i]? = h[i]?) (hb : ∀ i, i < n → β'[i]? = β[i]?) (hm : m < n) {b : Blk} (hv : b.isVar = true) (hx : BR w S h β m b) (hn : nmBlk n b = true) : BR w S h' β' m b := by
  cases b with
  | var cs =>
    obtain ⟨b, c, e, h1, h2, h3, h4, h5⟩ := hx
    exact ⟨b, c, e, by rw [hb m hm]; exact h1, h2, h3, fun j x u hj hu => ⟨(h4 j x u hj hu).1, (h4 j x u hj hu).2.same hh hb (List.all_eq_true.1 hn _ (List.mem_of_getElem? hj))⟩, h5⟩
  | vard cs =>
    obtain ⟨b, c, e, h1, h2⟩ := hx
    exact ⟨b, c, e, by rw [hb m hm]; exact h1, h2⟩
  | _ => cases hv
theorem retD_any {r : List D} {w : World} {S : Stb} {h h' : Hp} {β β' : Bet} {cv : Value} (hv : VR w S h β (retD r) cv) : VR w S h' β' (retD r) cv := by
  unfold retD retV at *
  match r with
  | [] => cases hv with
    | tup _ arr h1 h2 => exact .tup _ arr h1 (by simp)
  | [d] => cases hv with
    | d hd => exact .d hd
  | a :: b :: r => cases hv with
    | tup _ arr h1 h2 =>
      refine .tup _ arr h1 fun j c u hj hu => ?_
      have := h2 j c u hj hu
      have hj : ((a :: b :: r).map V.d)[j]? = some c := hj
      obtain ⟨d, _, rfl⟩ := List.mem_map.1 (List.mem_of_getElem? hj)
      cases this with
      | d hd => exact .d hd
theorem APCall.keep {f : FuncId} {args : List V} {h : Hp} {k : Res → Prop} {H : Hp} {v : V} (ns : List Nat) (hns : ns = List.range H.length) (ht : h.take H.length = H) (hc : CallK P f args (List.range H.length) H v) (hk : k (.keep ns v)) : APCall P f args h k :=
  ⟨.keep ns v, hk, fun bs hl hb => by
    subst hns
    have e : bs = H := by
      have hl : bs.length = H.length := by simpa using hl
      apply List.ext_getElem?
      intro i
      by_cases hi : i < H.length
      · have := hb i i (by simp [hi])
        rw [← this, ← take_get (l := h) hi, ht]
      · rw [List.getElem?_eq_none (by omega), List.getElem?_eq_none (by omega)]
    rw [e]; exact hc⟩
theorem ACall.again {f : FuncId} {args : List V} {h : Hp} {k : V → Hp → Prop} {r : List D} (hc : CallV P f args h fun v h' => v = retD r ∧ h' = h) (hk : k (retD r) h) : ACall P f args h k :=
  .ofV (hc.mono fun v h' e => by obtain ⟨rfl, rfl⟩ := e; exact hk)
end Go.PM
/-
  PM: a function that is called with a map, which it only reads.
-/
set_option linter.unusedSectionVars false
namespace Go.PM
variable [Glob]
variable {P : Program}
def renM (n : Nat) : V → V
  | .map _ => .map n
  | v => v
def dOrM : V → Bool
  | .d _ => true
  | .map 0 => true
  | _ => false
theorem frame_map {f : FuncId} {args : List V} {T : TT} {kt : TypeId} {es : List (D × D)} (ha : args.all dOrM = true) {r : List D}
    (hc : CallV P f args [.map T kt es] fun v h' => v = retD r ∧ h' = [.map T kt es]) (n : Nat) : CallK P f (args.map (renM n)) [n] [.map T kt es] (retD r) := by
  intro w S h β argv hpre hr hv
  have hn : h[n]? = some (.map T kt es) := hpre 0 n rfl
  have hnl : n < h.length := (List.getElem?_eq_some_iff.1 hn).1
  have hnb : n < β.length := Nat.lt_of_lt_of_le hnl hr.len
  obtain ⟨b, mes, clock, k1, k2, k3, k4, k5, k6⟩ := hr.blk n _ hn
  have hb1 : ∀ (m c p : Nat), ([some (b, 0)] : Bet)[m]? = some (some (c, p)) → m = 0 ∧ c = b ∧ p = 0 := fun m c p hm => by
    cases m with
    | zero => simp at hm; exact ⟨rfl, hm.1.symm, hm.2.symm⟩
    | succ m => simp at hm
  have himg : ∀ c, img ([some (b, 0)] : Bet) c → c = b := fun c ⟨m, p, hm⟩ => (hb1 m c p hm).2.1
  have r0 : HR w S [.map T kt es] [some (b, 0)] := by
    refine ⟨Nat.le_refl _, fun m c hm => ?_, fun m1 m2 c p q h1 h2 => ?_, hr.old, hr.glob, fun r c p ht => ?_, fun m1 m2 c d h1 h2 h3 => ?_⟩
    · cases m with
      | zero =>
        simp at hm; subst hm
        exact ⟨b, mes, clock, rfl, k2, k3, k4, k5, k6⟩
      | succ m => simp at hm
    · rw [(hb1 _ _ _ h1).1, (hb1 _ _ _ h2).1]
    · simp [tl] at ht
    · cases m1 with
      | zero => simp at h1; subst h1; cases h3
      | succ m => simp at h1
  have hv0 : VRs w S [.map T kt es] [some (b, 0)] args argv := by
    refine ⟨by rw [hv.1, List.length_map], fun j c u hj hu => ?_⟩
    have hc0 := List.all_eq_true.1 ha c (List.mem_of_getElem? hj)
    have h2 := hv.2 j (renM n c) u (by rw [List.getElem?_map, hj]; rfl) hu
    cases c with
    | d x =>
      cases h2 with
      | d hd => exact .d hd
    | map m =>
      cases m with
      | zero =>
        have h2 : VR w S h β (.map n) u := h2
        cases h2 with
        | map g1 g2 =>
          have g3 := g2 (by rw [hn]; simp)
          rw [k1] at g3
          simp only [Option.some.injEq, Prod.mk.injEq, and_true] at g3
          subst g3
          exact .map trivial (fun _ => rfl)
      | succ m => cases hc0
    | _ => cases hc0
  have key : ∀ (cv : Value) (w' : World), (∃ v h' S' β', (v = retD r ∧ h' = [.map T kt es]) ∧ HR w' S' h' β' ∧ VR w' S' h' β' v cv ∧ Evol w S [.map T kt es] [some (b, 0)] w' S' h' β') →
      ∃ S' β', HR w' S' h β' ∧ VR w' S' h β' (retD r) cv ∧ Evol w S h β w' S' h β' := fun cv w' ⟨v, h', S', β1, ⟨e1, e2⟩, r1, v1, E1⟩ => by
    subst e1; subst e2
    obtain ⟨b1, mes1, clock1, q1, q2, q3, q4, q5, q6⟩ := r1.blk 0 _ rfl
    have hbb : b1 = b := by
      obtain ⟨b', g1, g2⟩ := E1.blk 0 _ rfl
      cases g1
      rcases g2 with g2 | ⟨_, g2⟩
      · cases g2
      · rw [q1] at g2; simpa using g2
    subst hbb
    have E : Evol w S h β w' S' h β := by
      refine ⟨E1.outer, E1.size, fun i hi hni => E1.frame i hi fun h0 => ?_, E1.shape, E1.loops, E1.froz, E1.sub, fun c o hs => ?_, E1.cell, fun c hc => .inl hc, Nat.le_refl _, fun m c hm => ⟨c, hm, BEv.refl _ _⟩⟩
      · have := himg i h0
        subst this
        exact hni ⟨n, 0, k1⟩
      · rcases E1.new c o hs with g | g | g
        · exact .inl g
        · exact .inr (.inl g)
        · have := himg c g
          subst this
          exact .inr (.inr ⟨n, 0, k1⟩)
    have stays : ∀ m c p, m ≠ n → β[m]? = some (some (c, p)) → c < w.heap.size → w'.heap[c]? = w.heap[c]? ∧ ∀ o, S' c o → S c o := fun m c p hm hc hlt => by
      have hno : ¬ img ([some (b1, 0)] : Bet) c := fun h0 => by
        have := himg c h0
        subst this
        exact hm (hr.inj _ _ _ _ _ hc k1)
      refine ⟨E1.frame c hlt hno, fun o ho => ?_⟩
      rcases E1.new c o ho with g | g | g
      · exact g
      · omega
      · exact absurd g hno
    refine ⟨S', β, ⟨hr.len, fun m c hm => ?_, hr.inj, r1.old, r1.glob, fun r c p ht => Nat.lt_of_lt_of_le (hr.tlt r c p ht) E1.size, hr.one⟩, retD_any v1, E⟩
    by_cases hmn : m = n
    · subst hmn
      rw [hn] at hm; cases hm
      exact ⟨b1, mes1, clock1, k1, q2, q3, q4, q5, q6⟩
    · exact BR.keep E rfl (fun _ r c p ht => ⟨ht, stays _ c p (by omega) ht (hr.tlt r c p ht)⟩) (fun c p hc => stays m c p hmn hc (hr.lt hc)) (hr.blk m c hm)
  rcases hc w S [some (b, 0)] argv r0 hv0 with ⟨h1, h2⟩ | ⟨v, w', h1, h2⟩
  · exact .inl ⟨h1, fun cs => by
      obtain ⟨e, w', fr, ⟨v, he, hk⟩, r⟩ := h2 cs
      exact ⟨e, w', fr, ⟨v, he, key v w' hk⟩, r⟩⟩
  · exact .inr ⟨v, w', h1, key v w' h2⟩
theorem exMapK_sound {E : Env} (hE : E.Ok P) {f : FuncId} {fn : Func} (hf : P.funcs[f]? = some fn) (hname : (fn.name == "runtime.NumGoroutine") = false) (hN : E.N = fn.ntmps) {args : List V} {T : TT} {kt : TypeId} {es : List (D × D)} (ha : args.all dOrM = true)
    (hsz : args.length ≤ fn.ntmps) {r : List D} (hx : exFn E fn args [.map T kt es] fun v h => liftRetHK v h fun ds h' => VLe (outD v ds) (retD r) ∧ h'.take [Blk.map T kt es].length = [.map T kt es]) (n : Nat) : CallK P f (args.map (renM n)) [n] [.map T kt es] (retD r) :=
  frame_map ha (exRec_sound hE hf hname hN rfl hsz hx) n
theorem APCall.ofK {f : FuncId} {args : List V} {h : Hp} {k : Res → Prop} {n : Nat} {b : Blk} {v : V} (hc : CallK P f args [n] [b] v) (hn : h[n]? = some b) (hk : k (.keep [n] v)) : APCall P f args h k :=
  ⟨.keep [n] v, hk, fun bs hl hb => by
    have : bs = [b] := by
      match bs, hl with
      | [c], _ =>
        have := hb 0 n rfl
        rw [hn] at this
        simp at this
        rw [this]
    rw [this]; exact hc⟩
theorem ACall.ofK {f : FuncId} {args : List V} {h : Hp} {k : V → Hp → Prop} {n : Nat} {b : Blk} {v : V} (hc : CallK P f args [n] [b] v) (hn : h[n]? = some b) (hk : k v h) : ACall P f args h k := .ofV fun w S β argv hr hv => by
  rcases hc w S h β argv (fun i m hi => by
    cases i with
    | zero => simp at hi; subst hi; simpa using hn
    | succ i => simp at hi) hr hv with ⟨h1, h2⟩ | ⟨cv, w', h1, S', β', g1, g2, g3⟩
  · refine .inl ⟨h1, fun cs => ?_⟩
    obtain ⟨e, w', fr, ⟨cv, he, S', β', g1, g2, g3⟩, r⟩ := h2 cs
    exact ⟨e, w', fr, ⟨cv, he, v, h, S', β', hk, g1, g2, g3⟩, r⟩
  · exact .inr ⟨cv, w', h1, v, h, S', β', hk, g1, g2, g3⟩
end Go.PM
/-
  PM: a call that changes named blocks: the contract in a small heap holds in every heap that holds these blocks, under other names.
-/
set_option linter.unusedSectionVars false
namespace Go.PM
variable [Glob]
variable {P : Program}
def renV (ns : List Nat) : V → V
  | .ptr n a b c => .ptr (ns.getD n 0) a b c
  | .sref n a b c d => .sref (ns.getD n 0) a b c d
  | .map n => .map (ns.getD n 0)
  | v => v
def okV (q : Nat) : V → Bool
  | .d _ => true
  | .ptr n _ _ _ => Nat.blt n q
  | .sref n _ _ _ _ => Nat.blt n q
  | .map n => Nat.blt n q
  | .rp _ _ => true
  | .fn _ cap => match cap with
    | [] => true
    | _ => false
  | _ => false
def renB (ns : List Nat) : Blk → Blk
  | .var cs => .var (cs.map (renV ns))
  | b => b
def okB (q : Nat) : Blk → Bool
  | .var cs => cs.all (okV q)
  | .vard _ => true
  | .row _ _ _ _ => true
  | .map _ _ _ => true
  | _ => false
theorem renV_flat (ns : List Nat) (v : V) : (renV ns v).flat = v.flat := by cases v <;> rfl
theorem getD_of {ns : List Nat} {i m : Nat} (h : ns[i]? = some m) : ns.getD i 0 = m := by rw [List.getD_eq_getElem?_getD, h]; rfl
structure InStep (ns : List Nat) (q : Nat) (h : Hp) (β : Bet) (h2 : Hp) (β2 : Bet) : Prop where
  len : ns.length = q
  hp : ∀ (i m : Nat), ns[i]? = some m → h2[m]? = (h[i]?).map (renB ns)
  bet : ∀ (i m : Nat), ns[i]? = some m → β2[m]? = β[i]?
  ok : ∀ (i : Nat) (b : Blk), i < q → h[i]? = some b → okB q b = true
theorem InStep.at {ns : List Nat} {q : Nat} {h h2 : Hp} {β β2 : Bet} (s : InStep ns q h β h2 β2) {i : Nat} (hi : i < q) : ∃ m, ns[i]? = some m ∧ ns.getD i 0 = m := by
  have : i < ns.length := by rw [s.len]; exact hi
  exact ⟨ns[i], List.getElem?_eq_getElem this, getD_of (List.getElem?_eq_getElem this)⟩
theorem PR.ren {ns : List Nat} {q : Nat} {h h2 : Hp} {β β2 : Bet} (s : InStep ns q h β h2 β2) {n ver e o : Nat} {v : Value} (hn : n < q) : PR h2 β2 (ns.getD n 0) ver e o v ↔ PR h β n ver e o v := by
  obtain ⟨m, hm, hd⟩ := s.at hn
  rw [hd]
  unfold PR
  rw [s.hp n m hm, s.bet n m hm]
  cases hb : h[n]? with
  | none => simp
  | some b =>
    have := s.ok n b hn hb
    cases b <;> simp [okB, renB] at this ⊢
theorem SR.ren {ns : List Nat} {q : Nat} {w : World} {h h2 : Hp} {β β2 : Bet} (s : InStep ns q h β h2 β2) {n ver lo len : Nat} {full : Bool} {v : Value} (hn : n < q) : SR w h2 β2 (ns.getD n 0) ver lo len full v ↔ SR w h β n ver lo len full v := by
  obtain ⟨m, hm, hd⟩ := s.at hn
  rw [hd]
  unfold SR
  rw [s.hp n m hm, s.bet n m hm]
  cases hb : h[n]? with
  | none => simp
  | some b =>
    have := s.ok n b hn hb
    cases b <;> simp [okB, renB] at this ⊢
theorem VR.ren {ns : List Nat} {q : Nat} {w : World} {S : Stb} {h h2 : Hp} {β β2 : Bet} (s : InStep ns q h β h2 β2) {c : V} {u : Value} (hc : okV q c = true) : VR w S h2 β2 (renV ns c) u ↔ VR w S h β c u := by
  have mapq : ∀ n, n < q → ∀ b : Nat, (isMap h2[ns.getD n 0]? ∧ (h2[ns.getD n 0]? ≠ some .gone → β2[ns.getD n 0]? = some (some (b, 0)))) ↔ (isMap h[n]? ∧ (h[n]? ≠ some .gone → β[n]? = some (some (b, 0)))) := fun n hn b => by
    obtain ⟨m, hm, hd⟩ := s.at hn
    rw [hd, s.hp n m hm, s.bet n m hm]
    cases hb : h[n]? with
    | none => simp [isMap]
    | some b =>
      have := s.ok n b hn hb
      cases b <;> simp [okB, renB, isMap] at this ⊢
  constructor
  · intro hv
    cases c with
    | d x => cases hv with
      | d hd => exact .d hd
    | ptr n a b c => cases hv with
      | ptr h1 h2 => exact .ptr h1 ((PR.ren s (Nat.le_of_ble_eq_true hc)).1 h2)
    | sref n a b c d => cases hv with
      | sref h1 h2 => exact .sref h1 ((SR.ren s (Nat.le_of_ble_eq_true hc)).1 h2)
    | map n =>
      have hv : VR w S h2 β2 (.map (ns.getD n 0)) u := hv
      cases hv with
      | map h1 h2 =>
        obtain ⟨a1, a2⟩ := (mapq n (Nat.le_of_ble_eq_true hc) _).1 ⟨h1, h2⟩
        exact .map a1 a2
    | rp cs o => cases hv with
      | rp _ _ b off uf h1 h2 => exact .rp cs o b off uf h1 h2
    | fn f cap =>
      cases cap with
      | nil => cases hv with
        | fn _ _ arr h1 h2 => exact .fn f [] arr h1 (by simp)
      | cons => cases hc
    | _ => cases hc
  · intro hv
    cases c with
    | d x => cases hv with
      | d hd => exact .d hd
    | ptr n a b c => cases hv with
      | ptr h1 h2 => exact .ptr h1 ((PR.ren s (Nat.le_of_ble_eq_true hc)).2 h2)
    | sref n a b c d => cases hv with
      | sref h1 h2 => exact .sref h1 ((SR.ren s (Nat.le_of_ble_eq_true hc)).2 h2)
    | map n =>
      cases hv with
      | map h1 h2 =>
        obtain ⟨a1, a2⟩ := (mapq n (Nat.le_of_ble_eq_true hc) _).2 ⟨h1, h2⟩
        exact .map a1 a2
    | rp cs o => cases hv with
      | rp _ _ b off uf h1 h2 => exact .rp cs o b off uf h1 h2
    | fn f cap =>
      cases cap with
      | nil => cases hv with
        | fn _ _ arr h1 h2 => exact .fn f [] arr h1 (by simp)
      | cons => cases hc
    | _ => cases hc
theorem BR.ren {ns : List Nat} {q : Nat} {w : World} {S : Stb} {h h2 : Hp} {β β2 : Bet} (s : InStep ns q h β h2 β2) {i m : Nat} (hi : ns[i]? = some m) {b : Blk} (hb : okB q b = true) : BR w S h2 β2 m (renB ns b) ↔ BR w S h β i b := by
  have hbet := s.bet i m hi
  cases b with
  | var cs =>
    simp only [renB, BR, hbet, List.length_map]
    constructor
    · rintro ⟨b, cells, elem, h1, h2, h3, h4, h5⟩
      refine ⟨b, cells, elem, h1, h2, h3, fun j c u hj hu => ?_, h5⟩
      obtain ⟨f1, f2⟩ := h4 j (renV ns c) u (by rw [List.getElem?_map, hj]; rfl) hu
      exact ⟨by rw [renV_flat] at f1; exact f1, (VR.ren s (List.all_eq_true.1 hb _ (List.mem_of_getElem? hj))).1 f2⟩
    · rintro ⟨b, cells, elem, h1, h2, h3, h4, h5⟩
      refine ⟨b, cells, elem, h1, h2, h3, fun j c u hj hu => ?_, h5⟩
      rw [List.getElem?_map, Option.map_eq_some_iff] at hj
      obtain ⟨c', hj, rfl⟩ := hj
      obtain ⟨f1, f2⟩ := h4 j c' u hj hu
      exact ⟨by rw [renV_flat]; exact f1, (VR.ren s (List.all_eq_true.1 hb _ (List.mem_of_getElem? hj))).2 f2⟩
  | vard cs => simp only [renB, BR, hbet]
  | row a b c d => simp only [renB, BR, hbet]
  | map a b c => simp only [renB, BR, hbet]
  | _ => cases hb
theorem BEv.ren {ns : List Nat} {q : Nat} {b b' : Blk} {t t' : Option (Option (Nat × Nat))} (hb : okB q b = true) (hb' : okB q b' = true) (h : BEv b t b' t') : BEv (renB ns b) t (renB ns b') t' := by
  cases b with
  | var cs =>
    rcases h with rfl | ⟨h, e⟩ | ⟨a, c, d, rfl, h⟩
    · cases hb'
    · refine .inr (.inl ⟨?_, e⟩)
      rcases h with ⟨x, rfl⟩ | ⟨x, rfl⟩
      · exact .inl ⟨_, rfl⟩
      · exact .inr ⟨_, rfl⟩
    · exact .inr (.inr ⟨a, c, d, rfl, h⟩)
  | vard cs =>
    rcases h with rfl | ⟨h, e⟩ | ⟨a, c, d, rfl, h⟩
    · cases hb'
    · refine .inr (.inl ⟨?_, e⟩)
      rcases h with ⟨x, rfl⟩ | ⟨x, rfl⟩
      · exact .inl ⟨_, rfl⟩
      · exact .inr ⟨_, rfl⟩
    · exact .inr (.inr ⟨a, c, d, rfl, h⟩)
  | row a b c d =>
    rcases h with rfl | ⟨x, y, z, rfl, h⟩
    · cases hb'
    · exact .inr ⟨x, y, z, rfl, h⟩
  | map a b c =>
    rcases h with rfl | ⟨h, e⟩
    · cases hb'
    · rcases h with ⟨x, rfl⟩ | ⟨x, y, z, rfl⟩
      · exact .inr ⟨.inl ⟨_, rfl⟩, e⟩
      · cases hb'
  | _ => cases hb
theorem hset_len : ∀ (l : List (Nat × Blk)) (h : Hp), (hset h l).length = h.length
  | [], _ => rfl
  | p :: l, h => by rw [hset, hset_len l, List.length_set]
theorem hset_other : ∀ (l : List (Nat × Blk)) (h : Hp) (j : Nat), (∀ p ∈ l, p.1 ≠ j) → (hset h l)[j]? = h[j]?
  | [], _, _, _ => rfl
  | p :: l, h, j, hn => by rw [hset, hset_other l _ j fun q hq => hn q (.tail _ hq), List.getElem?_set_ne (hn p (.head _))]
theorem hset_at : ∀ (ns : List Nat) (bs : List Blk) (h : Hp) (i m : Nat) (b : Blk), ns.Nodup → ns[i]? = some m → bs[i]? = some b → m < h.length → (hset h (ns.zip bs))[m]? = some b
  | [], _, _, _, _, _, _, hi, _, _ => by simp at hi
  | n :: ns, [], _, _, _, _, _, _, hb, _ => by simp at hb
  | n :: ns, c :: bs, h, 0, m, b, hnd, hi, hb, hl => by
    simp at hi hb
    subst hi; subst hb
    rw [List.zip_cons_cons, hset, hset_other (ns.zip bs) _ n fun p hp e => (List.nodup_cons.1 hnd).1 (by have h1 := (List.of_mem_zip hp).1; rw [e] at h1; exact h1)]
    exact List.getElem?_set_self hl
  | n :: ns, c :: bs, h, i + 1, m, b, hnd, hi, hb, hl => by
    rw [List.zip_cons_cons, hset]
    exact hset_at ns bs _ i m b (List.nodup_cons.1 hnd).2 (by simpa using hi) (by simpa using hb) (by rw [List.length_set]; exact hl)
theorem frame_upd {f : FuncId} {args : List V} {H : Hp} (hH : H.all (okB H.length) = true) (ha : args.all (okV H.length) = true) {r : List D} {k0 : Hp → Prop}
    (hc : CallV P f args H fun v h' => v = retD r ∧ h'.length = H.length ∧ h'.all (okB H.length) = true ∧ k0 h') {ns : List Nat} (hnd : ns.Nodup) (hq : ns.length = H.length) {h : Hp} (hpre : ∀ (i m : Nat), ns[i]? = some m → h[m]? = (H[i]?).map (renB ns))
    {k : V → Hp → Prop} (hk : ∀ H', k0 H' → H'.length = H.length → k (retD r) (hset h (ns.zip (H'.map (renB ns))))) : CallV P f (args.map (renV ns)) h k := by
  intro w S β argv hr hv
  obtain ⟨β0, hβ0⟩ : ∃ β0 : Bet, β0 = ns.map fun m => (β[m]?).getD none := ⟨_, rfl⟩
  have hin : ∀ (i m : Nat), ns[i]? = some m → m < h.length := fun i m hi => by
    have hil : i < H.length := by rw [← hq]; exact (List.getElem?_eq_some_iff.1 hi).1
    have := hpre i m hi
    rw [List.getElem?_eq_getElem hil] at this
    exact (List.getElem?_eq_some_iff.1 this).1
  have hbet : ∀ (i m : Nat), ns[i]? = some m → β[m]? = β0[i]? := fun i m hi => by
    have hm : m < β.length := Nat.lt_of_lt_of_le (hin i m hi) hr.len
    rw [hβ0, List.getElem?_map, hi, Option.map_some, List.getElem?_eq_getElem hm]; rfl
  have s0 : InStep ns H.length H β0 h β := ⟨hq, hpre, hbet, fun i b _ hb => List.all_eq_true.1 hH b (List.mem_of_getElem? hb)⟩
  have hl0 : β0.length = H.length := by rw [hβ0, List.length_map, hq]
  have hname : ∀ i, i < H.length → ∃ m, ns[i]? = some m := fun i hi => ⟨ns[i]'(by omega), List.getElem?_eq_getElem _⟩
  have h0 : ∀ (i b p : Nat), β0[i]? = some (some (b, p)) → ∃ m, ns[i]? = some m ∧ β[m]? = some (some (b, p)) := fun i b p hi => by
    have hil : i < H.length := by rw [← hl0]; exact (List.getElem?_eq_some_iff.1 hi).1
    obtain ⟨m, hm⟩ := hname i hil
    exact ⟨m, hm, by rw [hbet i m hm]; exact hi⟩
  have hndi : ∀ (i j m : Nat), ns[i]? = some m → ns[j]? = some m → i = j := fun i j m hi hj => by
    exact (List.getElem?_inj (List.getElem?_eq_some_iff.1 hi).1 hnd).1 (hi.trans hj.symm)
  have r0 : HR w S H β0 := by
    refine ⟨by omega, fun i b hb => ?_, fun i j b p q hi hj => ?_, hr.old, hr.glob, fun r b p ht => ?_, fun i j b c hi hj ho => ?_⟩
    · obtain ⟨m, hm⟩ := hname i (List.getElem?_eq_some_iff.1 hb).1
      have := hr.blk m (renB ns b) (by rw [hpre i m hm, hb]; rfl)
      exact (BR.ren s0 hm (List.all_eq_true.1 hH b (List.mem_of_getElem? hb))).1 this
    · obtain ⟨m1, a1, a2⟩ := h0 i b p hi
      obtain ⟨m2, b1, b2⟩ := h0 j b q hj
      have := hr.inj _ _ _ _ _ a2 b2
      subst this
      exact hndi i j m1 a1 b1
    · unfold tl at ht
      have := (List.getElem?_eq_some_iff.1 ht).1
      omega
    · have := List.all_eq_true.1 hH b (List.mem_of_getElem? hi)
      cases b <;> simp [okB, Blk.own] at this ho
  have hv0 : VRs w S H β0 args argv := ⟨by rw [hv.1, List.length_map], fun j c u hj hu =>
    (VR.ren s0 (List.all_eq_true.1 ha c (List.mem_of_getElem? hj))).1 (hv.2 j (renV ns c) u (by rw [List.getElem?_map, hj]; rfl) hu)⟩
  have key : ∀ (cv : Value) (w' : World), (∃ v h' S' β', (v = retD r ∧ h'.length = H.length ∧ h'.all (okB H.length) = true ∧ k0 h') ∧ HR w' S' h' β' ∧ VR w' S' h' β' v cv ∧ Evol w S H β0 w' S' h' β') →
      ∃ v h' S' β', k v h' ∧ HR w' S' h' β' ∧ VR w' S' h' β' v cv ∧ Evol w S h β w' S' h' β' := fun cv w' ⟨v, H', S', β1, ⟨e1, e2, e3, e4⟩, r1, v1, E1⟩ => by
    subst e1
    obtain ⟨h', hh'⟩ : ∃ h', h' = hset h (ns.zip (H'.map (renB ns))) := ⟨_, rfl⟩
    have hlen : h'.length = h.length := by rw [hh', hset_len]
    have hat : ∀ (i m : Nat), ns[i]? = some m → h'[m]? = (H'[i]?).map (renB ns) := fun i m hi => by
      have hil : i < H'.length := by rw [e2, ← hq]; exact (List.getElem?_eq_some_iff.1 hi).1
      rw [List.getElem?_eq_getElem hil, hh']
      exact hset_at ns _ h i m _ hnd hi (by rw [List.getElem?_map, List.getElem?_eq_getElem hil]; rfl) (hin i m hi)
    have hoth : ∀ (j : Nat), j ∉ ns → h'[j]? = h[j]? := fun j hj => by
      rw [hh']
      exact hset_other _ _ j fun p hp e => hj (by have h1 := (List.of_mem_zip hp).1; rw [e] at h1; exact h1)
    obtain ⟨β', hβ'⟩ : ∃ β' : Bet, β' = (List.range β.length).map fun j => if j ∈ ns then (β1[ns.idxOf j]?).getD none else (β[j]?).getD none := ⟨_, rfl⟩
    have hblen : β'.length = β.length := by rw [hβ']; simp
    have bat : ∀ (i m : Nat), ns[i]? = some m → β'[m]? = β1[i]? := fun i m hi => by
      have hm : m < β.length := Nat.lt_of_lt_of_le (hin i m hi) hr.len
      have hmem : m ∈ ns := List.mem_of_getElem? hi
      have hidx : ns.idxOf m = i := hndi _ _ m (by
        rw [List.getElem?_eq_getElem (List.idxOf_lt_length_of_mem hmem), List.getElem_idxOf]) hi
      have hil : i < β1.length := Nat.lt_of_lt_of_le (by rw [e2, ← hq]; exact (List.getElem?_eq_some_iff.1 hi).1) r1.len
      rw [hβ', List.getElem?_map, List.getElem?_range hm]
      simp only [Option.map_some, if_pos hmem, hidx, List.getElem?_eq_getElem hil, Option.getD_some]
    have both : ∀ (j : Nat), j ∉ ns → β'[j]? = β[j]? := fun j hj => by
      rw [hβ', List.getElem?_map]
      by_cases hl : j < β.length
      · rw [List.getElem?_range hl]
        simp only [Option.map_some, if_neg hj, List.getElem?_eq_getElem hl, Option.getD_some]
      · rw [List.getElem?_eq_none (by simpa using hl), List.getElem?_eq_none (by omega)]; rfl
    have s1 : InStep ns H.length H' β1 h' β' := ⟨hq, hat, bat, fun i b _ hb => List.all_eq_true.1 e3 b (List.mem_of_getElem? hb)⟩
    have himg0 : ∀ b, img β0 b → img β b := fun b ⟨i, p, hi⟩ => by
      obtain ⟨m, _, h2⟩ := h0 i b p hi
      exact ⟨m, p, h2⟩
    have E : Evol w S h β w' S' h' β' := by
      refine ⟨E1.outer, E1.size, fun i hi hni => E1.frame i hi fun hh => hni (himg0 i hh), E1.shape, E1.loops, E1.froz, E1.sub, fun b o hs => ?_, E1.cell, fun b ⟨j, p, hj⟩ => ?_, by omega, fun j b hb => ?_⟩
      · rcases E1.new b o hs with g | g | g
        · exact .inl g
        · exact .inr (.inl g)
        · exact .inr (.inr (himg0 b g))
      · by_cases hjn : j ∈ ns
        · obtain ⟨i, hi⟩ := List.mem_iff_getElem?.1 hjn
          rw [bat i j hi] at hj
          exact (E1.imgs b ⟨i, p, hj⟩).imp (himg0 b) id
        · rw [both j hjn] at hj
          exact .inl ⟨j, p, hj⟩
      · by_cases hjn : j ∈ ns
        · obtain ⟨i, hi⟩ := List.mem_iff_getElem?.1 hjn
          have hil : i < H.length := by rw [← hq]; exact (List.getElem?_eq_some_iff.1 hi).1
          obtain ⟨b', g1, g2⟩ := E1.blk i _ (List.getElem?_eq_getElem hil)
          have hbb := hpre i j hi
          rw [List.getElem?_eq_getElem hil, hb] at hbb
          simp only [Option.map_some, Option.some.injEq] at hbb
          subst hbb
          refine ⟨renB ns b', by rw [hat i j hi, g1]; rfl, ?_⟩
          rw [bat i j hi, hbet i j hi]
          exact BEv.ren (List.all_eq_true.1 hH _ (List.getElem_mem hil)) (List.all_eq_true.1 e3 _ (List.mem_of_getElem? g1)) g2
        · exact ⟨b, by rw [hoth j hjn]; exact hb, by rw [both j hjn]; exact BEv.refl _ _⟩
    have stays : ∀ (j c p : Nat), j ∉ ns → β[j]? = some (some (c, p)) → w'.heap[c]? = w.heap[c]? ∧ ∀ o, S' c o → S c o := fun j c p hj hc => by
      have hno : ¬ img β0 c := fun ⟨i, q, hi⟩ => by
        obtain ⟨m, g1, g2⟩ := h0 i c q hi
        have := hr.inj _ _ _ _ _ hc g2
        subst this
        exact hj (List.mem_of_getElem? g1)
      have hlt := hr.lt hc
      refine ⟨E1.frame c hlt hno, fun o ho => ?_⟩
      rcases E1.new c o ho with g | g | g
      · exact g
      · omega
      · exact absurd g hno
    have htl : ∀ r, tl h' β' r = tl h β r := fun r => by
      unfold tl
      rw [hlen]
      refine both _ fun hm => ?_
      obtain ⟨i, hi⟩ := List.mem_iff_getElem?.1 hm
      have := hin i _ hi
      omega
    have hold : ∀ b, img β b → b < w.heap.size := fun b ⟨j, p, hj⟩ => hr.lt hj
    have hcase : ∀ (j b p : Nat), β'[j]? = some (some (b, p)) → (j ∉ ns ∧ β[j]? = some (some (b, p))) ∨ ∃ i, ns[i]? = some j ∧ β1[i]? = some (some (b, p)) := fun j b p hj => by
      by_cases hjn : j ∈ ns
      · obtain ⟨i, hi⟩ := List.mem_iff_getElem?.1 hjn
        exact .inr ⟨i, hi, by rw [← bat i j hi]; exact hj⟩
      · exact .inl ⟨hjn, by rw [← both j hjn]; exact hj⟩
    have hmix : ∀ (j1 j2 b p q i : Nat), j1 ∉ ns → β[j1]? = some (some (b, p)) → ns[i]? = some j2 → β1[i]? = some (some (b, q)) → False := fun j1 j2 b p q i g1 g2 g3 g4 => by
      rcases E1.imgs b ⟨i, q, g4⟩ with ⟨i', p', g⟩ | g
      · obtain ⟨m, a1, a2⟩ := h0 i' b p' g
        have := hr.inj _ _ _ _ _ g2 a2
        subst this
        exact g1 (List.mem_of_getElem? a1)
      · have := hr.lt g2; omega
    refine ⟨retD r, h', S', β', by rw [hh']; exact hk H' e4 e2, ⟨by rw [hlen, hblen]; exact hr.len, fun j b hb => ?_, fun j1 j2 b p q g1 g2 => ?_, r1.old, r1.glob, fun r b p ht => by rw [htl] at ht; exact Nat.lt_of_lt_of_le (hr.tlt r b p ht) E1.size, fun j1 j2 b c g1 g2 o1 o2 => ?_⟩, retD_any v1, E⟩
    · by_cases hjn : j ∈ ns
      · obtain ⟨i, hi⟩ := List.mem_iff_getElem?.1 hjn
        rw [hat i j hi, Option.map_eq_some_iff] at hb
        obtain ⟨b', g1, rfl⟩ := hb
        exact (BR.ren s1 hi (List.all_eq_true.1 e3 _ (List.mem_of_getElem? g1))).2 (r1.blk i b' g1)
      · rw [hoth j hjn] at hb
        exact BR.keep E (both j hjn) (fun _ r b p ht => ⟨by rw [htl]; exact ht, stays (h.length + r) b p (fun hm => by
          obtain ⟨i, hi⟩ := List.mem_iff_getElem?.1 hm
          have := hin i _ hi
          omega) ht⟩) (fun c p hc => stays j c p hjn hc) (hr.blk j b hb)
    · rcases hcase j1 b p g1 with ⟨a1, a2⟩ | ⟨i, a1, a2⟩ <;> rcases hcase j2 b q g2 with ⟨b1, b2⟩ | ⟨i', b1, b2⟩
      · exact hr.inj _ _ _ _ _ a2 b2
      · exact (hmix j1 j2 b p q i' a1 a2 b1 b2).elim
      · exact (hmix j2 j1 b q p i b1 b2 a1 a2).elim
      · have := r1.inj _ _ _ _ _ a2 b2
        subst this
        rw [a1] at b1
        exact Option.some.inj b1
    · have own : ∀ (j : Nat) (b : Blk), h'[j]? = some b → b.own = true → j ∉ ns := fun j b hj ho hm => by
        obtain ⟨i, hi⟩ := List.mem_iff_getElem?.1 hm
        rw [hat i j hi, Option.map_eq_some_iff] at hj
        obtain ⟨b', g1, rfl⟩ := hj
        have := List.all_eq_true.1 e3 _ (List.mem_of_getElem? g1)
        cases b' <;> simp [okB, Blk.own, renB] at this ho
      have n1 := own j1 b g1 o1
      have n2 := own j2 c g2 o2
      rw [hoth j1 n1] at g1
      rw [hoth j2 n2] at g2
      exact hr.one j1 j2 b c g1 g2 o1 o2
  rcases hc w S β0 argv r0 hv0 with ⟨h1, h2⟩ | ⟨v, w', h1, h2⟩
  · exact .inl ⟨h1, fun cs => by
      obtain ⟨e, w', fr, ⟨v, he, hk⟩, r⟩ := h2 cs
      exact ⟨e, w', fr, ⟨v, he, key v w' hk⟩, r⟩⟩
  · exact .inr ⟨v, w', h1, key v w' h2⟩
theorem okV_nm {q : Nat} {v : V} (h : okV q v = true) : nmV q v = true := by
  cases v with
  | fn f cap =>
    cases cap with
    | nil => rfl
    | cons => cases h
  | d x => rfl
  | rp cs o => rfl
  | ptr n a b c => exact h
  | sref n a b c d => exact h
  | map n => exact h
  | _ => cases h
theorem okB_nm {q : Nat} {b : Blk} (h : okB q b = true) : nmBlk q b = true := by
  cases b with
  | var cs =>
    refine List.all_eq_true.2 fun c hc => okV_nm (List.all_eq_true.1 h c hc)
  | vard cs => rfl
  | row a b c d => rfl
  | map a b c => rfl
  | _ => cases h
theorem exUpd_sound {E : Env} (hE : E.Ok P) {f : FuncId} {fn : Func} (hf : P.funcs[f]? = some fn) (hname : (fn.name == "runtime.NumGoroutine") = false) (hN : E.N = fn.ntmps) {args : List V} {H : Hp}
    (hsz : args.length ≤ fn.ntmps) {r : List D} {k0 : Hp → Prop} (hx : exFn E fn args H fun v h => liftRetHK v h fun ds h' => VLe (outD v ds) (retD r) ∧ (h'.take H.length).all (okB H.length) = true ∧ k0 (h'.take H.length)) :
    CallV P f args H fun v h' => v = retD r ∧ h'.length = H.length ∧ h'.all (okB H.length) = true ∧ k0 h' := by
  intro w S β argv hr hv
  have hc := exFn_sound hE hf hname hN hsz hx w S β argv hr hv
  have key : ∀ (cv : Value) (w' : World), (∃ v h' S' β', (liftRetHK v h' fun ds h' => VLe (outD v ds) (retD r) ∧ (h'.take H.length).all (okB H.length) = true ∧ k0 (h'.take H.length)) ∧ HR w' S' h' β' ∧ VR w' S' h' β' v cv ∧ Evol w S H β w' S' h' β') →
      ∃ v h' S' β', (v = retD r ∧ h'.length = H.length ∧ h'.all (okB H.length) = true ∧ k0 h') ∧ HR w' S' h' β' ∧ VR w' S' h' β' v cv ∧ Evol w S H β w' S' h' β' := fun cv w' ⟨v, h', S', β', hk, hr', hv', hE'⟩ => by
    obtain ⟨ds, h2, ⟨hd, ho, ht⟩, hh⟩ := liftRetHK_spec hk
    obtain ⟨S2, r2, e2, d2⟩ := hh w' S' β' cv hr' hv'
    have hle : H.length ≤ h2.length := (hE'.trans e2).len
    have r3 := r2.drop (n := H.length) (List.all_eq_true.2 fun b hb => okB_nm (List.all_eq_true.1 ho b hb))
    have e3 := (hE'.trans e2).drop (n := H.length) (Nat.le_refl _) r2.len
    exact ⟨retD r, h2.take H.length, S2, _, ⟨rfl, by rw [List.length_take]; omega, ho, ht⟩, r3, hd.vr (d2 _ _), e3⟩
  rcases hc with ⟨h1, h2⟩ | ⟨v, w', h1, h2⟩
  · exact .inl ⟨h1, fun cs => by
      obtain ⟨e, w', fr, ⟨v, he, hk⟩, r⟩ := h2 cs
      exact ⟨e, w', fr, ⟨v, he, key v w' hk⟩, r⟩⟩
  · exact .inr ⟨v, w', h1, key v w' h2⟩
def WkH (h h2 : Hp) : Prop := ∀ (w : World) (S : Stb) (β : Bet), HR w S h β → ∃ S' β', HR w S' h2 β' ∧ Evol w S h β w S' h2 β'
theorem WkH.of {h h2 : Hp} (hw : ∀ N, Wk N [] h [] h2) : WkH h h2 := fun w S β hr => by
  obtain ⟨S', β', hs, e⟩ := hw 0 ⟨none, 0⟩ ⟨#[], []⟩ w S β ⟨hr, fun t => .u _, rfl, ⟨List.Pairwise.nil, fun d hd => (List.not_mem_nil hd).elim⟩, (fun l hl => nomatch hl), Nat.zero_le _⟩
  exact ⟨S', β', hs.hr, e⟩
theorem WkH.trans {h h1 h2 : Hp} (a : WkH h h1) (b : WkH h1 h2) : WkH h h2 := fun w S β hr => by
  obtain ⟨S1, β1, r1, e1⟩ := a w S β hr
  obtain ⟨S2, β2, r2, e2⟩ := b w S1 β1 r1
  exact ⟨S2, β2, r2, e1.trans e2⟩
theorem ACall.pre {f : FuncId} {args : List V} {h h2 : Hp} {k : V → Hp → Prop} (hw : WkH h h2) (hc : ACall P f args h2 k) : ACall P f args h k := .ofV fun w S β argv hr hv => by
  obtain ⟨S1, β1, r1, e1⟩ := hw w S β hr
  rcases hc.holds w S1 β1 argv r1 ⟨hv.1, fun j c u hj hu => (hv.2 j c u hj hu).evol e1⟩ with ⟨h1, h2⟩ | ⟨cv, w', h1, v, h', S', β', hk, g1, g2, g3⟩
  · refine .inl ⟨h1, fun cs => ?_⟩
    obtain ⟨e, w', fr, ⟨cv, he, v, h', S', β', hk, g1, g2, g3⟩, r⟩ := h2 cs
    exact ⟨e, w', fr, ⟨cv, he, v, h', S', β', hk, g1, g2, e1.trans g3⟩, r⟩
  · exact .inr ⟨cv, w', h1, v, h', S', β', hk, g1, g2, e1.trans g3⟩
theorem CallV.post {f : FuncId} {args : List V} {h : Hp} {k : V → Hp → Prop} (hc : CallV P f args h fun v h' => ∃ h2, WkH h' h2 ∧ k v h2) : CallV P f args h k := fun w S β argv hr hv => by
  rcases hc w S β argv hr hv with ⟨h1, h2⟩ | ⟨cv, w', h1, v, h', S', β', ⟨h2, hw, hk⟩, g1, g2, g3⟩
  · refine .inl ⟨h1, fun cs => ?_⟩
    obtain ⟨e, w', fr, ⟨cv, he, v, h', S', β', ⟨h2, hw, hk⟩, g1, g2, g3⟩, r⟩ := h2 cs
    obtain ⟨S2, β2, r2, e2⟩ := hw w' S' β' g1
    exact ⟨e, w', fr, ⟨cv, he, v, h2, S2, β2, hk, r2, g2.evol e2, g3.trans e2⟩, r⟩
  · obtain ⟨S2, β2, r2, e2⟩ := hw w' S' β' g1
    exact .inr ⟨cv, w', h1, v, h2, S2, β2, hk, r2, g2.evol e2, g3.trans e2⟩
theorem ACall.upd {f : FuncId} {args : List V} {H : Hp} (hH : H.all (okB H.length) = true) (ha : args.all (okV H.length) = true) {r : List D} {k0 : Hp → Prop}
    (hc : CallV P f args H fun v h' => v = retD r ∧ h'.length = H.length ∧ h'.all (okB H.length) = true ∧ k0 h') (ns : List Nat) (hnd : ns.Nodup) (hq : ns.length = H.length) {args' : List V} (he : args' = args.map (renV ns)) {h : Hp} (hpre : ∀ (i m : Nat), ns[i]? = some m → h[m]? = (H[i]?).map (renB ns))
    {k : V → Hp → Prop} (hk : ∀ H', k0 H' → H'.length = H.length → ∃ h2, WkH (hset h (ns.zip (H'.map (renB ns)))) h2 ∧ k (retD r) h2) : ACall P f args' h k := by
  subst he
  exact .ofV (frame_upd hH ha hc hnd hq hpre (k := fun v h' => ∃ h2, WkH h' h2 ∧ k v h2) hk).post
theorem WkH.refl (h : Hp) : WkH h h := fun w S β hr => ⟨S, β, hr, Evol.refl _ _ _ _⟩
end Go.PM
