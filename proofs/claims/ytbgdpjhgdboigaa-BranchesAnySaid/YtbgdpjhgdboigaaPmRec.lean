/-
  PM: a function that is called in a heap of known blocks (closures that call themselves through a variable).
-/
import Derived.Test.YtbgdpjhgdboigaaPmEnv
import Derived.Test.YtbgdpjhgdboigaaPmFun
import Derived.Test.YtbgdpjhgdboigaaPmKit
set_option linter.unusedSectionVars false
namespace Go.PM
variable [Glob]
variable {P : Program} {T : TT}

/-- A result becomes data; the heap is handed on. -/
def liftRetHK (v : V) (h : Hp) (k : List D → Hp → Prop) : Prop := match v with
  | .tup vs => liftAllK vs h k
  | v => liftK v h fun d h' => k [d] h'

theorem liftRetHK_spec {v : V} {h : Hp} {k : List D → Hp → Prop} (hk : liftRetHK v h k) : ∃ ds h', k ds h' ∧ ∀ (w : World) (S : Stb) (β : Bet) (cv : Value), HR w S h β → VR w S h β v cv →
    ∃ S', HR w S' h' β ∧ Evol w S h β w S' h' β ∧ ∀ (h2 : Hp) (β2 : Bet), VR w S' h2 β2 (outD v ds) cv := by
  unfold liftRetHK at hk
  split at hk
  · rename_i vs
    obtain ⟨ds, h', hk, hl, hh⟩ := liftAllK_spec _ _ _ hk
    refine ⟨ds, h', hk, fun w S β cv hr hv => ?_⟩
    cases hv with
    | tup _ arr h1 h2 =>
      obtain ⟨S', r1, e1, d1⟩ := hh w S β arr.toList hr (by simpa using h1) fun j c u hj hu => h2 j c u hj (by simpa using hu)
      refine ⟨S', r1, e1, fun h2 β2 => .tup _ _ (by simp; omega) fun j c u hc hu => ?_⟩
      rw [List.getElem?_map] at hc
      cases hd : ds[j]? with
      | none => simp [hd] at hc
      | some d => simp [hd] at hc; subst hc; exact .d (d1 j d u hd (by simpa using hu))
  · rename_i hno
    obtain ⟨d, h', hk, hh⟩ := liftK_spec hk
    refine ⟨[d], h', hk, fun w S β cv hr hv => ?_⟩
    obtain ⟨S', r1, e1, d1⟩ := hh w S β cv hr hv
    refine ⟨S', r1, e1, fun h2 β2 => ?_⟩
    have : outD v [d] = .d d := by
      cases v <;> first | rfl | exact absurd rfl (hno _)
    rw [this]
    exact .d d1

/-- **A contract in a heap of known blocks, from a body.** -/
theorem exRec_sound {E : Env} (hE : E.Ok P) {f : FuncId} {fn : Func} (hf : P.funcs[f]? = some fn) (hname : (fn.name == "runtime.NumGoroutine") = false) (hN : E.N = fn.ntmps) {args : List V} {H : Hp} (hH : H.all (nmBlk H.length) = true)
    (hsz : args.length ≤ fn.ntmps) {r : List D} (hx : exFn E fn args H fun v h => liftRetHK v h fun ds h' => VLe (outD v ds) (retD r) ∧ h'.take H.length = H) : CallV P f args H fun v h => v = retD r ∧ h = H := by
  intro w S β argv hr hv
  have hc := exFn_sound hE hf hname hN hsz hx w S β argv hr hv
  have key : ∀ (cv : Value) (w' : World), (∃ v h' S' β', (liftRetHK v h' fun ds h' => VLe (outD v ds) (retD r) ∧ h'.take H.length = H) ∧ HR w' S' h' β' ∧ VR w' S' h' β' v cv ∧ Evol w S H β w' S' h' β') →
      ∃ v h' S' β', (v = retD r ∧ h' = H) ∧ HR w' S' h' β' ∧ VR w' S' h' β' v cv ∧ Evol w S H β w' S' h' β' := fun cv w' ⟨v, h', S', β', hk, hr', hv', hE'⟩ => by
    obtain ⟨ds, h2, ⟨hd, ht⟩, hh⟩ := liftRetHK_spec hk
    obtain ⟨S2, r2, e2, d2⟩ := hh w' S' β' cv hr' hv'
    have r3 := r2.drop (n := H.length) (by rw [ht]; exact hH)
    have e3 := (hE'.trans e2).drop (n := H.length) (Nat.le_refl _) r2.len
    rw [ht] at r3 e3
    exact ⟨retD r, H, S2, _, ⟨rfl, rfl⟩, r3, hd.vr (d2 _ _), e3⟩
  rcases hc with ⟨h1, h2⟩ | ⟨v, w', h1, h2⟩
  · exact .inl ⟨h1, fun cs => by
      obtain ⟨e, w', fr, ⟨v, he, hk⟩, r⟩ := h2 cs
      exact ⟨e, w', fr, ⟨v, he, key v w' hk⟩, r⟩⟩
  · exact .inr ⟨v, w', h1, key v w' h2⟩

/-! ### The frame: names that a call does not know of -/

theorem VR.same1 {w : World} {S : Stb} {h h' : Hp} {β β' : Bet} {n : Nat} (hh : ∀ i, i < n → h'[i]? = h[i]?) (hb : ∀ i, i < n → β'[i]? = β[i]?) {x : V} {v : Value} (hx : VR w S h β x v) (hn : nm1 n x = true) : VR w S h' β' x v := by
  cases hx with
  | u => exact .u _
  | d h => exact .d h
  | agg => cases hn
  | tup => cases hn
  | @ptr m _ _ _ _ h1 h2 =>
    have hl := blt_lt hn
    refine .ptr h1 ?_
    unfold PR at h2 ⊢
    rw [hh m hl, hb m hl]; exact h2
  | rp cs o b off uf h1 h2 => exact .rp cs o b off uf h1 h2
  | @sref m _ _ _ _ _ h1 h2 =>
    have hl := blt_lt hn
    refine .sref h1 ?_
    unfold SR at h2 ⊢
    rw [hh m hl, hb m hl]; exact h2
  | fn f cap arr h1 h2 =>
    cases cap with
    | nil => exact .fn f [] arr h1 (by simp)
    | cons => cases hn
  | @yld m _ h1 h2 =>
    have hl := blt_lt hn
    exact .yld (by rw [hh m hl]; exact h1) (by rw [hh m hl, hb m hl]; exact h2)
  | @map m _ h1 h2 =>
    have hl := blt_lt hn
    exact .map (by rw [hh m hl]; exact h1) (by rw [hh m hl, hb m hl]; exact h2)
theorem VR.same {w : World} {S : Stb} {h h' : Hp} {β β' : Bet} {n : Nat} (hh : ∀ i, i < n → h'[i]? = h[i]?) (hb : ∀ i, i < n → β'[i]? = β[i]?) {x : V} {v : Value} (hx : VR w S h β x v) (hn : nmV n x = true) : VR w S h' β' x v := by
  have all : ∀ {cs : List V} {j : Nat} {c : V}, cs.all (nm1 n) = true → cs[j]? = some c → nm1 n c = true := fun h hj => List.all_eq_true.1 h _ (List.mem_of_getElem? hj)
  cases hx with
  | agg cs arr h1 h2 h3 => exact .agg cs arr h1 h2 fun j c u hc hu => (h3 j c u hc hu).same1 hh hb (all hn hc)
  | tup cs arr h1 h2 => exact .tup cs arr h1 fun j c u hc hu => (h2 j c u hc hu).same1 hh hb (all hn hc)
  | fn f cap arr h1 h2 => exact .fn f cap arr h1 fun j c u hc hu => (h2 j c u hc hu).same1 hh hb (all hn hc)
  | u => exact .u _
  | d h => exact .d h
  | ptr h1 h2 => exact (VR.ptr h1 h2).same1 hh hb hn
  | rp cs o b off uf h1 h2 => exact .rp cs o b off uf h1 h2
  | sref h1 h2 => exact (VR.sref h1 h2).same1 hh hb hn
  | yld h1 h2 => exact (VR.yld h1 h2).same1 hh hb hn
  | map h1 h2 => exact (VR.map h1 h2).same1 hh hb hn

/-- A variable's block. -/
def Blk.isVar : Blk → Bool
  | .var _ => true
  | .vard _ => true
  | _ => false
theorem BR.same {w : World} {S : Stb} {h h' : Hp} {β β' : Bet} {n m : Nat} (hh : ∀ i, i < n → h'[i]? = h[i]?) (hb : ∀ i, i < n → β'[i]? = β[i]?) (hm : m < n) {b : Blk} (hv : b.isVar = true) (hx : BR w S h β m b) (hn : nmBlk n b = true) : BR w S h' β' m b := by
  cases b with
  | var cs =>
    obtain ⟨b, c, e, h1, h2, h3, h4, h5⟩ := hx
    exact ⟨b, c, e, by rw [hb m hm]; exact h1, h2, h3, fun j x u hj hu => ⟨(h4 j x u hj hu).1, (h4 j x u hj hu).2.same hh hb (List.all_eq_true.1 hn _ (List.mem_of_getElem? hj))⟩, h5⟩
  | vard cs =>
    obtain ⟨b, c, e, h1, h2⟩ := hx
    exact ⟨b, c, e, by rw [hb m hm]; exact h1, h2⟩
  | _ => cases hv
theorem BEv.var_same {b : Blk} (hv : b.isVar = true) {t t' : Option (Option (Nat × Nat))} (h : BEv b t b t') : t' = t := by
  cases b with
  | var cs =>
    rcases h with h | ⟨_, h⟩ | ⟨_, _, _, h, _⟩
    · cases h
    · exact h
    · cases h
  | vard cs =>
    rcases h with h | ⟨_, h⟩ | ⟨_, _, _, h, _⟩
    · cases h
    · exact h
    · cases h
  | _ => cases hv

/-- **A contract in a heap of variables holds in every heap that begins with them.** -/
theorem frame_call {f : FuncId} {args : List V} {H : Hp} {r : List D} (hH : H.all (nmBlk H.length) = true) (hV : H.all Blk.isVar = true) (ha : args.all (nmV H.length) = true)
    (hc : CallV P f args H fun v h' => v = retD r ∧ h' = H) (hr0 : ∀ w S h β cv (h' : Hp) (β' : Bet), VR w S h β (retD r) cv → VR w S h' β' (retD r) cv) : CallK P f args (List.range H.length) H (retD r) := by
  intro w S h β argv hpre hr hv
  have hget : ∀ i, i < H.length → h[i]? = H[i]? := fun i hi => hpre i i (by simp [hi])
  have hlen : H.length ≤ h.length := by
    rcases Nat.lt_or_ge h.length H.length with hl | hl
    · have := hget h.length hl
      rw [List.getElem?_eq_none (Nat.le_refl _), List.getElem?_eq_getElem hl] at this; cases this
    · exact hl
  have hbl := hr.len
  obtain ⟨β0, hβ0⟩ : ∃ β0, β0 = β.take H.length := ⟨_, rfl⟩
  have hb0 : ∀ i, i < H.length → β0[i]? = β[i]? := fun i hi => by rw [hβ0]; exact take_get hi
  have hl0 : β0.length = H.length := by rw [hβ0, List.length_take]; omega
  have himg : ∀ b p i, β0[i]? = some (some (b, p)) → i < H.length ∧ β[i]? = some (some (b, p)) := fun b p i hi => by
    have hlt := (List.getElem?_eq_some_iff.1 hi).1
    have : i < H.length := by omega
    exact ⟨this, by rw [← hb0 i this]; exact hi⟩
  have hblk : ∀ n b, H[n]? = some b → BR w S H β0 n b := fun n b hn => by
    have hnl := (List.getElem?_eq_some_iff.1 hn).1
    have hm := List.mem_of_getElem? hn
    exact (hr.blk n b (by rw [hget n hnl]; exact hn)).same (n := H.length) (fun i hi => (hget i hi).symm) hb0 hnl (List.all_eq_true.1 hV b hm) (List.all_eq_true.1 hH b hm)
  have r0 : HR w S H β0 := by
    refine ⟨by omega, hblk, fun n m b p q h1 h2 => hr.inj n m b p q (himg _ _ _ h1).2 (himg _ _ _ h2).2, hr.old, hr.glob, fun r b p ht => ?_, fun n m b c h1 h2 h3 => ?_⟩
    · unfold tl at ht
      have := (himg _ _ _ ht).1
      omega
    · have := List.all_eq_true.1 hV b (List.mem_of_getElem? h1)
      cases b <;> cases this <;> cases h3
  have hv0 : VRs w S H β0 args argv := ⟨hv.1, fun j c u hj hu => (hv.2 j c u hj hu).same (n := H.length) (fun i hi => (hget i hi).symm) hb0 (List.all_eq_true.1 ha c (List.mem_of_getElem? hj))⟩
  have key : ∀ (cv : Value) (w' : World), (∃ v h' S' β', (v = retD r ∧ h' = H) ∧ HR w' S' h' β' ∧ VR w' S' h' β' v cv ∧ Evol w S H β0 w' S' h' β') →
      ∃ S' β', HR w' S' h β' ∧ VR w' S' h β' (retD r) cv ∧ Evol w S h β w' S' h β' := fun cv w' ⟨v, h', S', β1, ⟨e1, e2⟩, r1, v1, E1⟩ => by
    subst e1; subst e2
    have hb1 : ∀ i, i < h'.length → β1[i]? = β[i]? := fun i hi => by
      obtain ⟨b', g1, g2⟩ := E1.blk i _ (List.getElem?_eq_getElem hi)
      rw [List.getElem?_eq_getElem hi] at g1
      cases g1
      rw [BEv.var_same (List.all_eq_true.1 hV _ (List.getElem_mem hi)) g2, hb0 i hi]
    have hnimg : ∀ b, img β0 b → ∃ i p, i < h'.length ∧ β[i]? = some (some (b, p)) := fun b ⟨i, p, hi⟩ => ⟨i, p, himg _ _ _ hi⟩
    have E : Evol w S h β w' S' h β := by
      refine ⟨E1.outer, E1.size, fun i hi hni => E1.frame i hi fun h0 => ?_, E1.shape, E1.loops, E1.froz, E1.sub, fun b o hs => ?_, E1.cell, fun b hb => .inl hb, Nat.le_refl _, fun m b hm => ⟨b, hm, BEv.refl _ _⟩⟩
      · obtain ⟨j, p, _, hj⟩ := hnimg i h0
        exact hni ⟨j, p, hj⟩
      · rcases E1.new b o hs with g | g | g
        · exact .inl g
        · exact .inr (.inl g)
        · obtain ⟨j, p, _, hj⟩ := hnimg b g
          exact .inr (.inr ⟨j, p, hj⟩)
    have stays : ∀ n b p, ¬ n < h'.length → β[n]? = some (some (b, p)) → b < w.heap.size → w'.heap[b]? = w.heap[b]? ∧ ∀ o, S' b o → S b o := fun n b p hn hb hlt => by
      have hno : ¬ img β0 b := fun h0 => by
        obtain ⟨j, q, hj, hjb⟩ := hnimg b h0
        have := hr.inj _ _ _ _ _ hb hjb
        omega
      refine ⟨E1.frame b hlt hno, fun o ho => ?_⟩
      rcases E1.new b o ho with g | g | g
      · exact g
      · omega
      · exact absurd g hno
    refine ⟨S', β, ⟨hr.len, fun n b hn => ?_, hr.inj, r1.old, r1.glob, fun r b p ht => Nat.lt_of_lt_of_le (hr.tlt r b p ht) E1.size, hr.one⟩, hr0 _ _ _ _ _ _ _ v1, E⟩
    by_cases hnl : n < h'.length
    · have hn' : h'[n]? = some b := by rw [← hget n hnl]; exact hn
      have hm := List.mem_of_getElem? hn'
      exact (r1.blk n b hn').same (n := h'.length) (fun i hi => hget i hi) (fun i hi => (hb1 i hi).symm) hnl (List.all_eq_true.1 hV b hm) (List.all_eq_true.1 hH b hm)
    · exact BR.keep E rfl (fun _ r b p ht => ⟨ht, stays _ b p (by omega) ht (hr.tlt r b p ht)⟩) (fun b' p hb' => stays n b' p hnl hb' (hr.lt hb')) (hr.blk n b hn)
  rcases hc w S β0 argv r0 hv0 with ⟨h1, h2⟩ | ⟨v, w', h1, h2⟩
  · exact .inl ⟨h1, fun cs => by
      obtain ⟨e, w', fr, ⟨v, he, hk⟩, r⟩ := h2 cs
      exact ⟨e, w', fr, ⟨v, he, key v w' hk⟩, r⟩⟩
  · exact .inr ⟨v, w', h1, key v w' h2⟩

theorem retD_any {r : List D} {w : World} {S : Stb} {h h' : Hp} {β β' : Bet} {cv : Value} (hv : VR w S h β (retD r) cv) : VR w S h' β' (retD r) cv := by
  unfold retD retV at *
  match r with
  | [] => cases hv with
    | tup _ arr h1 h2 => exact .tup _ arr h1 (by simp)
  | [d] => cases hv with
    | d hd => exact .d hd
  | a :: b :: r => cases hv with
    | tup _ arr h1 h2 =>
      refine .tup _ arr h1 fun j c u hj hu => ?_
      have := h2 j c u hj hu
      have hj : ((a :: b :: r).map V.d)[j]? = some c := hj
      obtain ⟨d, _, rfl⟩ := List.mem_map.1 (List.mem_of_getElem? hj)
      cases this with
      | d hd => exact .d hd

/-- **A contract that leans on variables, from a body.** -/
theorem exKeep_sound {E : Env} (hE : E.Ok P) {f : FuncId} {fn : Func} (hf : P.funcs[f]? = some fn) (hname : (fn.name == "runtime.NumGoroutine") = false) (hN : E.N = fn.ntmps) {args : List V} {H : Hp} (hH : H.all (nmBlk H.length) = true) (hV : H.all Blk.isVar = true) (ha : args.all (nmV H.length) = true)
    (hsz : args.length ≤ fn.ntmps) {r : List D} (hx : exFn E fn args H fun v h => liftRetHK v h fun ds h' => VLe (outD v ds) (retD r) ∧ h'.take H.length = H) : CallK P f args (List.range H.length) H (retD r) :=
  frame_call hH hV ha (exRec_sound hE hf hname hN hH hsz hx) fun _ _ _ _ _ _ _ hv => retD_any hv

/-- A drawn call by a contract that leans on the first names. -/
theorem APCall.keep {f : FuncId} {args : List V} {h : Hp} {k : Res → Prop} {H : Hp} {v : V} (ns : List Nat) (hns : ns = List.range H.length) (ht : h.take H.length = H) (hc : CallK P f args (List.range H.length) H v) (hk : k (.keep ns v)) : APCall P f args h k :=
  ⟨.keep ns v, hk, fun bs hl hb => by
    subst hns
    have e : bs = H := by
      have hl : bs.length = H.length := by simpa using hl
      apply List.ext_getElem?
      intro i
      by_cases hi : i < H.length
      · have := hb i i (by simp [hi])
        rw [← this, ← take_get (l := h) hi, ht]
      · rw [List.getElem?_eq_none (by omega), List.getElem?_eq_none (by omega)]
    rw [e]; exact hc⟩

/-- A call by a contract in a heap of known blocks. -/
theorem ACall.again {f : FuncId} {args : List V} {h : Hp} {k : V → Hp → Prop} {r : List D} (hc : CallV P f args h fun v h' => v = retD r ∧ h' = h) (hk : k (retD r) h) : ACall P f args h k :=
  .ofV (hc.mono fun v h' e => by obtain ⟨rfl, rfl⟩ := e; exact hk)
end Go.PM
