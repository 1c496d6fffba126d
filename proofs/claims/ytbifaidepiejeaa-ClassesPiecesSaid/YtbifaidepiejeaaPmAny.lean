/-
  PM, part 18b: values that carry their type.
-/
import Derived.Test.YtbifaidepiejeaaPmOps10
set_option linter.unusedSectionVars false
namespace Go.PM
variable [Glob]
variable {P : Program} {T : TT}

theorem conc_und (hT : tokB P T = true) {t : TypeId} (h : concT T t = true) : ∃ d, P.underlying t = some d ∧ ∀ l, d ≠ .interface l := by
  unfold concT at h
  cases hty : tyOf T t with
  | none => simp [hty] at h
  | some ti =>
    have hk := tiOk_kind (tyOf_ok hT hty)
    simp only [hty] at h
    cases hu : P.underlying t with
    | none => cases hkk : ti.kind <;> simp [hkk, kindOk, hu] at hk h
    | some d =>
      refine ⟨d, rfl, fun l hl => ?_⟩
      subst hl
      cases hkk : ti.kind <;> simp [hkk, kindOk, hu] at hk h

theorem aIface_sound (hT : tokB P T = true) {o : Oper} {xt : TypeId} {x : Operand} (ho : o.op = .makeInterface xt x) {xv : V} {bs : List Blk} {ns : List Nat} {K : V → Prop} (h : aIface T xt xv K) :
    ∃ v, K v ∧ OpS P o [xv] ns bs bs v := by
  unfold aIface at h
  have hargs : opArgs o.op = [x] := by simp [ho, opArgs]
  split at h
  · rename_i d
    obtain ⟨hc, h⟩ := (chkB_iff _ _).1 h
    obtain ⟨u, hu, hn⟩ := conc_und hT hc
    refine ⟨_, h, pure1 hargs fun ρ w S hp β hv => ⟨.iface xt (ρ x), ?_, ?_⟩⟩
    · cases u <;> first | exact absurd rfl (hn _) | simp [execOp, ho, Instr.makeInterface, run_underlying hu]
    · cases hv with
      | d hd => exact .d (.any xt d _ hd)
  · exact h.elim

theorem aAssert_sound (hT : tokB P T = true) {o : Oper} {xt want : TypeId} {ok : Bool} {x : Operand} (ho : o.op = .typeAssert x xt want ok) {xv : V} {bs : List Blk} {ns : List Nat} {K : V → Prop} (h : aAssert T want ok xv K) :
    ∃ v, K v ∧ OpS P o [xv] ns bs bs v := by
  unfold aAssert at h
  have hargs : opArgs o.op = [x] := by simp [ho, opArgs]
  split at h
  · rename_i t d
    cases hty : tyOf T want with
    | none => simp [hty] at h
    | some ti =>
      simp only [hty] at h
      replace h := (chkB_iff _ _).1 h
      obtain ⟨hc, h'⟩ := h
      obtain ⟨u, hu, hn⟩ := conc_und hT hc
      split at h'
      · rename_i hb
        have hb := Nat.eq_of_beq_eq_true hb
        subst hb
        refine ⟨_, h', pure1 hargs fun ρ w S hp β hv => ?_⟩
        generalize ha : ρ x = cv at hv
        cases hv with
        | d hd =>
          cases hd with
          | any _ _ v hd =>
            refine ⟨.tuple #[v, .bool true], ?_, .tup _ _ (by simp) fun j c u hj hu => ?_⟩
            · cases u <;> first | exact absurd rfl (hn _) | simp [execOp, ho, ha, Instr.typeAssert, run_underlying hu]
            · match j, hj with
              | 0, hj => simp at hj hu; subst hj; subst hu; exact .d hd
              | 1, hj => simp at hj hu; subst hj; subst hu; exact .d (.b _)
      · rename_i hb
        have hne : ¬ t = want := fun e => by subst e; simp at hb
        obtain ⟨hone, h2⟩ := (chkB_iff _ _).1 h'
        simp only [Bool.or_eq_true] at hone
        have hone : isAggT ti = true ∨ ti.size = 1 := hone.imp id Nat.eq_of_beq_eq_true
        obtain ⟨i, z, hi⟩ := tiOk_info (tyOf_ok hT hty)
        refine ⟨_, h2, pure1 hargs fun ρ w S hp β hv => ?_⟩
        generalize ha : ρ x = cv at hv
        cases hv with
        | d hd =>
          cases hd with
          | any _ _ v hd =>
            refine ⟨.tuple #[z, .bool false], ?_, .tup _ _ (by simp) fun j c u hj hu => ?_⟩
            · cases u <;> first | exact absurd rfl (hn _) | simp [execOp, ho, ha, Instr.typeAssert, run_underlying hu, hne, run_zeroValue' hi]
            · match j, hj with
              | 0, hj => simp at hj hu; subst hj; subst hu; exact .d (zeroElem_rel hi hone w S)
              | 1, hj => simp at hj hu; subst hj; subst hu; exact .d (.b _)
  · exact h.elim
end Go.PM
