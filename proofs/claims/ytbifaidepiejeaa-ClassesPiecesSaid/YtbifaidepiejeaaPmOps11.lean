/-
  PM, part 15: every operation.
-/
import Derived.Test.YtbifaidepiejeaaPmAny
import Derived.Test.YtbifaidepiejeaaPmOps6
import Derived.Test.YtbifaidepiejeaaPmOps7
set_option linter.unusedSectionVars false
namespace Go.PM
variable [Glob]
variable {P : Program} {T : TT}

theorem knownTy_some {t : TypeId} (h : knownTy T t = true) : ∃ ti, tyOf T t = some ti := by
  unfold knownTy at h
  cases hh : tyOf T t with
  | none => simp [hh] at h
  | some ti => exact ⟨ti, rfl⟩

theorem stringTy_some {t : TypeId} (h : stringTy T t = true) : ∃ ti, tyOf T t = some ti ∧ ti.kind = .string := by
  unfold stringTy at h
  cases hh : tyOf T t with
  | none => simp [hh] at h
  | some ti =>
    simp only [hh] at h
    split at h
    · exact ⟨ti, rfl, by assumption⟩
    · cases h

theorem lenTy_some {t : TypeId} {v : V} (h : lenTy T t v = true) : ∃ ti, tyOf T t = some ti ∧
    match v with | .d (.sl ..) => ∃ e, ti.kind = .slice e | .d (.s _) => ti.kind = .string | .sref .. => ∃ e, ti.kind = .slice e | .map _ => ∃ k e, ti.kind = .map k e | _ => False := by
  cases hh : tyOf T t with
  | none => simp [lenTy, hh] at h
  | some ti =>
    refine ⟨ti, rfl, ?_⟩
    have h' := h
    revert h'
    cases v with
    | d x => cases x <;> cases hk : ti.kind <;> simp [lenTy, hh, hk]
    | _ => cases hk : ti.kind <;> simp [lenTy, hh, hk]

theorem res1 {op : Op} {nf : Nat} {bs : List Blk} (hn : opNew op = true) (hl : bs.length = [nf].length) (hres : resB op [nf] nf bs = true) : bs = [Blk.res] := by
  match bs, hl with
  | [b], _ =>
    have hb : Nat.beq nf nf = true := Nat.beq_refl nf
    simp only [resB, hn, hb] at hres
    cases b <;> simp_all

/-- **Every operation but the calls of functions.** -/
theorem aOp_sound (hT : tokB P T = true) {o : Oper} {vs : List V} {nf : Nat} {bs : List Blk} {K : Kt} (h : aOp T o.op vs nf bs K) (hl : bs.length = (opN o.op vs nf).length)
    (hres : resB o.op (opN o.op vs nf) nf bs = true) : ∃ v bs', K v bs' ∧ (opRO o.op = true → bs' = bs) ∧ OpS P o vs (opN o.op vs nf) bs bs' v := by
  generalize hop : o.op = op at h hl hres ⊢
  have ex : ∀ {ns : List Nat} {K' : V → Prop}, (∃ v, K' v ∧ OpS P o vs ns bs bs v) → (∀ v, K' v → K v bs) → ∃ v bs', K v bs' ∧ (opRO op = true → bs' = bs) ∧ OpS P o vs ns bs bs' v := fun ⟨v, h1, h2⟩ hk => ⟨v, bs, hk v h1, fun _ => rfl, h2⟩
  have nw : ∀ {ns : List Nat}, opRO op = false → (∃ v bs', K v bs' ∧ OpS P o vs ns bs bs' v) → ∃ v bs', K v bs' ∧ (opRO op = true → bs' = bs) ∧ OpS P o vs ns bs bs' v := fun hr ⟨v, bs', h1, h2⟩ => ⟨v, bs', h1, fun (hh : opRO op = true) => absurd hh (by simp [hr]), h2⟩
  unfold aOp at h
  split at h
  · exact ⟨_, bs, h, fun _ => rfl, aMove_sound (.inl hop)⟩
  · exact ⟨_, bs, h, fun _ => rfl, aMove_sound (.inr hop)⟩
  · split at h
    · obtain ⟨v, h1, h2⟩ := aPick_sound (P := P) (ns := []) hop h
      exact ⟨v, bs, h1, fun _ => rfl, h2⟩
    · exact h.elim
  · obtain rfl := res1 rfl hl hres
    exact nw rfl (aAlloc_sound hT hop h)
  · obtain rfl := res1 rfl hl hres
    exact nw rfl (aBox_sound hop h)
  · exact ex (aBuild_sound (ns := []) hT hop h) fun _ h => h
  · obtain ⟨v, h1, h2⟩ := aBuildSlice_sound hT hop h
    exact ⟨v, bs, h1, fun _ => rfl, h2 _ _⟩
  · obtain ⟨v, h1, h2⟩ := aLoad_sound hT hop hl h
    exact ⟨v, bs, h1, fun _ => rfl, h2⟩
  · exact nw rfl (aStore_sound hT hop h)
  · exact ex (aBin_sound (ns := []) hT hop h) fun _ h => h
  · exact ex (aUn_sound (ns := []) hop h) fun _ h => h
  · obtain ⟨h1, h⟩ := (chkB_iff _ _).1 h
    exact ex (aConvert_sound (ns := []) hT hop (knownTy_some h1) h) fun _ h => h
  · split at h
    · rename_i hf
      exact ⟨_, bs, h, fun _ => rfl, aMakeFunc_sound hop hf⟩
    · exact h.elim
  · split at h
    · split at h
      · obtain rfl := res1 rfl hl hres
        split at h
        · split at h
          · exact nw rfl ⟨_, _, h, aMakeMapN_sound hop⟩
          · exact nw rfl ⟨_, _, h, aMakeMap_sound hop⟩
        · exact nw rfl ⟨_, _, h, aMakeMap_sound hop⟩
      · exact h.elim
    · exact h.elim
  · obtain rfl := res1 rfl hl hres
    exact nw rfl (aMakeSlice_sound hT hop h)
  · obtain ⟨v, h1, h2⟩ := aSlice_sound hT hop h
    exact ⟨v, bs, h1, fun _ => rfl, h2⟩
  · exact ex (aFieldAddr_sound (ns := []) hT hop h) fun _ h => h
  · exact ex (aField_sound (ns := []) hT hop h) fun _ h => h
  · obtain ⟨v, h1, h2⟩ := aIndexAddr_sound hT hop h
    exact ⟨v, bs, h1, fun _ => rfl, h2⟩
  · split at h
    · rename_i h1
      exact ex (aIndex_sound (ns := []) hT hop (stringTy_some h1) h) fun _ h => h
    · exact ex (aIndexArr_sound (ns := []) hT hop h) fun _ h => h
  · obtain ⟨v, h1, h2⟩ := aLookup_sound hT hop h hl
    exact ⟨v, bs, h1, fun _ => rfl, h2⟩
  · exact nw rfl (aMapUpdate_sound hT hop h hl)
  · exact nw rfl (aMapEntry_sound hT hop h hl)
  · exact nw rfl (aEntryStore_sound hop h hl)
  · exact ex (aExtract_sound (ns := []) hop h) fun _ h => h
  · exact ex (aNilCheck_sound (ns := []) hop h) fun _ h => h
  · exact ex (aIface_sound (ns := []) hT hop h) fun _ h => h
  · exact ex (aAssert_sound (ns := []) hT hop h) fun _ h => h
  · split at h
    · rename_i x t hc ht
      obtain ⟨h1, h⟩ := (chkB_iff _ _).1 h
      obtain ⟨ti, hty, hk⟩ := lenTy_some h1
      obtain ⟨v, h1, h2⟩ := aLen_sound hT hop hc (by rw [ht]; rfl) hty (by
        cases x with
        | d d => cases d <;> exact hk
        | _ => exact hk) h
      exact ⟨v, bs, h1, fun _ => rfl, by simpa [opN, hc] using h2⟩
    · rename_i hc ht
      obtain ⟨h1, h⟩ := (chkB_iff _ _).1 h
      have hN : ∀ (c : Call) (s x : V), c.callee = .builtin .append → opN (.call c) [s, x] nf = appendN s x nf := fun c s x hc => by simp [opN, hc]
      rw [hN _ _ _ hc] at hl hres ⊢
      refine nw (by simp [opRO, hc]) (aAppend_sound hT hop hc ht h1 h fun b hb hn => ?_)
      have hnew : ∀ c : Call, c.callee = .builtin .append → opNew (.call c) = true := fun c hc => by simp [opNew, hc]
      have hb' : Nat.beq nf nf = true := Nat.beq_refl nf
      generalize appendN _ _ nf = ns at hres hn
      match ns, bs, hn, hb with
      | m :: _, b' :: _, hn, hb =>
        simp at hn hb; subst hn; subst hb
        simp only [resB, hnew _ hc, hb'] at hres
        cases b' <;> simp_all
    · rename_i hc
      exact ex (aMinMax_sound (mx := true) hop hc h) fun _ h => h
    · rename_i hc
      exact ex (aMinMax_sound (mx := false) hop hc h) fun _ h => h
    · rename_i hc ht
      have hN : ∀ (c : Call) (m x : V), c.callee = .builtin .delete → opN (.call c) [m, x] nf = lenN m := fun c m x hc => by simp [opN, hc]
      rw [hN _ _ _ hc] at hl ⊢
      exact nw (by simp [opRO, hc]) (aDelete_sound hT hop hc ht h hl)
    · rename_i hc ht
      have hN : ∀ (c : Call) (m x : V), c.callee = .builtin .copy → opN (.call c) [m, x] nf = idxN m := fun c m x hc => by simp [opN, hc]
      rw [hN _ _ _ hc] at hl ⊢
      exact nw (by simp [opRO, hc]) (aCopy_sound hT hop hc ht h)
    · exact h.elim
  · exact h.elim

end Go.PM
