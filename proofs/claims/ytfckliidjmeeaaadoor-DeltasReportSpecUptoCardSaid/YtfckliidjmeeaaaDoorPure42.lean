/- Deltas, plain: entries in order, differences. -/
import Derived.Test.YtfckliidjmeeaaaDoorBase42
namespace Go.PM
structure Ent where
  name : ByteArray
  text : ByteArray
deriving DecidableEq
def Ent.nm (e : Ent) : List UInt8 := e.name.toList
def ltE (a b : Ent) : Prop := a.nm < b.nm
instance ltEDec (a b : Ent) : Decidable (ltE a b) := by unfold ltE; infer_instance
theorem ltE_irr (a : Ent) : ¬ ltE a a := fun h => List.lt_irrefl _ h
theorem ltE_trans {a b c : Ent} (h1 : ltE a b) (h2 : ltE b c) : ltE a c := List.lt_trans h1 h2
theorem ltE_tri {a b : Ent} (h1 : ¬ ltE a b) (h2 : ¬ ltE b a) : a.nm = b.nm := List.le_antisymm (List.not_lt.1 h2) (List.not_lt.1 h1)
theorem ltE_ne {a b : Ent} (h : ltE a b) : a.nm ≠ b.nm := fun e => by unfold ltE at h; rw [e] at h; exact List.lt_irrefl _ h
def vE (l : List Ent) : Prop := l.Pairwise ltE
instance vEDec (l : List Ent) : Decidable (vE l) := by unfold vE; infer_instance
def risE : List Ent → Prop
  | a :: b :: r => ltE a b ∧ risE (b :: r)
  | _ => True
theorem vE_names {l : List Ent} (h : vE l) {x y : Ent} (hx : x ∈ l) (hy : y ∈ l) (he : x.nm = y.nm) : x = y := by
  induction l with
  | nil => cases hx
  | cons a l ih =>
    obtain ⟨h1, h2⟩ := List.pairwise_cons.1 h
    cases hx with
    | head =>
      cases hy with
      | head => rfl
      | tail _ hy => exact absurd he (ltE_ne (h1 y hy))
    | tail _ hx =>
      cases hy with
      | head => exact absurd he.symm (ltE_ne (h1 x hx))
      | tail _ hy => exact ih h2 hx hy
theorem vE_filter {l : List Ent} (h : vE l) (p : Ent → Bool) : vE (l.filter p) := List.Pairwise.filter p h
theorem vE_ext : ∀ {a b : List Ent}, vE a → vE b → (∀ x, x ∈ a ↔ x ∈ b) → a = b
  | [], [], _, _, _ => rfl
  | [], y :: b, _, _, h => absurd ((h y).2 (.head _)) (by simp)
  | x :: a, [], _, _, h => absurd ((h x).1 (.head _)) (by simp)
  | x :: a, y :: b, ha, hb, h => by
    obtain ⟨a1, a2⟩ := List.pairwise_cons.1 ha
    obtain ⟨b1, b2⟩ := List.pairwise_cons.1 hb
    have hxy : x = y := by
      have h1 := (h x).1 (.head _)
      have h2 := (h y).2 (.head _)
      cases h1 with
      | head => rfl
      | tail _ h1 =>
        cases h2 with
        | head => rfl
        | tail _ h2 => exact absurd (ltE_trans (a1 y h2) (b1 x h1)) (ltE_irr _)
    subst hxy
    congr 1
    refine vE_ext a2 b2 fun z => ⟨fun hz => ?_, fun hz => ?_⟩
    · have := (h z).1 (.tail _ hz)
      cases this with
      | head => exact absurd (a1 _ hz) (ltE_irr _)
      | tail _ h3 => exact h3
    · have := (h z).2 (.tail _ hz)
      cases this with
      | head => exact absurd (b1 _ hz) (ltE_irr _)
      | tail _ h3 => exact h3
def lessE (a b : List Ent) : List Ent := a.filter fun x => decide (x ∉ b)
theorem lessE_mem {a b : List Ent} {x : Ent} : x ∈ lessE a b ↔ x ∈ a ∧ x ∉ b := by unfold lessE; rw [List.mem_filter, decide_eq_true_eq]
def insE (x : Ent) : List Ent → List Ent
  | [] => [x]
  | y :: r => if ltE x y ∧ ∀ z ∈ r, ltE x z then x :: y :: r else y :: insE x r
theorem insE_perm (x : Ent) : ∀ l : List Ent, (insE x l).Perm (x :: l)
  | [] => .refl _
  | y :: r => by
    rw [insE]
    split
    · exact .refl _
    · exact ((insE_perm x r).cons y).trans (.swap x y r)
def ordE (l : List Ent) : List Ent := l.foldl (fun out x => insE x out) []
theorem ordE_perm (l : List Ent) : (ordE l).Perm l := by
  have key : ∀ (l out : List Ent), (l.foldl (fun out x => insE x out) out).Perm (out ++ l) := by
    intro l
    induction l with
    | nil => intro out; simp
    | cons x l ih =>
      intro out
      refine (ih (insE x out)).trans ?_
      refine ((insE_perm x out).append_right l).trans ?_
      exact List.perm_middle.symm
  exact key l []
def dE (l : List Ent) : Prop := l.Pairwise fun a b => a.nm ≠ b.nm
theorem dE_perm {a b : List Ent} (h : a.Perm b) (ha : dE a) : dE b := (List.Perm.pairwise_iff (R := fun a b : Ent => a.nm ≠ b.nm) (fun {_ _} hxy => Ne.symm hxy) h).1 ha
theorem dE_of {l : List Ent} (h : vE l) : dE l := h.imp fun h => ltE_ne h
theorem insE_v {x : Ent} : ∀ {l : List Ent}, vE l → (∀ y ∈ l, x.nm ≠ y.nm) → vE (insE x l)
  | [], _, _ => List.pairwise_singleton _ _
  | y :: r, h, hn => by
    obtain ⟨h1, h2⟩ := List.pairwise_cons.1 h
    rw [insE]
    split
    · rename_i hc
      refine List.pairwise_cons.2 ⟨fun z hz => ?_, h⟩
      cases hz with
      | head => exact hc.1
      | tail _ hz => exact hc.2 z hz
    · rename_i hc
      have hyx : ltE y x := by
        by_cases hxy : ltE x y
        · exact absurd ⟨hxy, fun z hz => ltE_trans hxy (h1 z hz)⟩ hc
        · by_cases hyx : ltE y x
          · exact hyx
          · exact absurd (ltE_tri hxy hyx) (hn y (.head _))
      refine List.pairwise_cons.2 ⟨fun z hz => ?_, insE_v h2 fun z hz => hn z (.tail _ hz)⟩
      have := (insE_perm x r).mem_iff.1 hz
      cases this with
      | head => exact hyx
      | tail _ hz => exact h1 z hz
theorem ordE_v {l : List Ent} (h : dE l) : vE (ordE l) := by
  have key : ∀ (l out : List Ent), vE out → dE (out ++ l) → vE (l.foldl (fun out x => insE x out) out) := by
    intro l
    induction l with
    | nil => intro out h _; exact h
    | cons x l ih =>
      intro out h hd
      have hd' : dE (x :: (out ++ l)) := dE_perm List.perm_middle hd
      obtain ⟨d1, d2⟩ := List.pairwise_cons.1 hd'
      refine ih (insE x out) (insE_v h fun y hy => d1 y (List.mem_append_left _ hy)) ?_
      exact dE_perm ((insE_perm x out).append_right l).symm hd'
  exact key l [] .nil (by simpa using h)
theorem ordE_uniq {l l' : List Ent} (h : dE l) (hp : l'.Perm l) (hs : ∀ (p q : Nat) (x y : Ent), p < q → l'[p]? = some x → l'[q]? = some y → ¬ ltE y x) : l' = ordE l := by
  have hd := dE_perm hp.symm h
  refine vE_ext ?_ (ordE_v h) fun x => by rw [hp.mem_iff, (ordE_perm l).mem_iff]
  unfold vE
  rw [List.pairwise_iff_getElem]
  intro p q hp1 hq1 hpq
  have h1 := hs p q _ _ hpq (List.getElem?_eq_getElem hp1) (List.getElem?_eq_getElem hq1)
  have h2 := List.pairwise_iff_getElem.1 hd p q hp1 hq1 hpq
  by_cases h3 : ltE l'[p] l'[q]
  · exact h3
  · exact absurd (ltE_tri h3 h1) h2
structure Dlt (ρ : Type) where
  gone : List Ent
  new : List Ent
  why : List ρ
deriving DecidableEq
variable {ρ : Type}
def vD (d : Dlt ρ) : Prop := vE d.gone ∧ vE d.new ∧ ∀ x ∈ d.gone, x ∉ d.new
instance vDDec (d : Dlt ρ) : Decidable (vD d) := by unfold vD; infer_instance
def diffM (a b : List Ent) (r : List ρ) : Dlt ρ × Int := if vE a ∧ vE b then (⟨lessE a b, lessE b a, r⟩, 0) else (⟨[], [], []⟩, 420)
def applyOk (a : List Ent) (d : Dlt ρ) : Prop := vE a ∧ vD d ∧ (∀ x ∈ d.gone, x ∈ a) ∧ ∀ x ∈ d.new, ∀ y ∈ lessE a d.gone, x.nm ≠ y.nm
instance applyOkDec (a : List Ent) (d : Dlt ρ) : Decidable (applyOk a d) := by unfold applyOk; infer_instance
def applyM (a : List Ent) (d : Dlt ρ) : List Ent × Int := if applyOk a d then (ordE (lessE a d.gone ++ d.new), 0) else ([], 420)
def follE (d e : Dlt ρ) : Prop := (∀ x ∈ e.gone, x ∈ d.new ∨ ((∀ y ∈ d.gone, y.nm ≠ x.nm) ∧ ∀ y ∈ d.new, y.nm ≠ x.nm)) ∧ ∀ x ∈ e.new, (∃ y ∈ e.gone, y.nm = x.nm) ∨ ∀ y ∈ d.new, y.nm ≠ x.nm
instance follEDec (d e : Dlt ρ) : Decidable (follE d e) := by unfold follE; infer_instance
def joinG (d e : Dlt ρ) : List Ent := d.gone ++ lessE e.gone d.new
def joinN (d e : Dlt ρ) : List Ent := lessE d.new e.gone ++ e.new
def joinM (d e : Dlt ρ) : Dlt ρ × Int := if vD d ∧ vD e ∧ follE d e then (⟨ordE (lessE (joinG d e) (joinN d e)), ordE (lessE (joinN d e) (joinG d e)), d.why ++ e.why⟩, 0) else (⟨[], [], []⟩, 420)
theorem dE_app {a b : List Ent} (ha : vE a) (hb : vE b) (h : ∀ x ∈ a, ∀ y ∈ b, x.nm ≠ y.nm) : dE (a ++ b) := List.pairwise_append.2 ⟨dE_of ha, dE_of hb, h⟩
theorem apply_d {a : List Ent} {d : Dlt ρ} (h : applyOk a d) : dE (lessE a d.gone ++ d.new) := dE_app (vE_filter h.1 _) h.2.1.2.1 fun x hx y hy => (h.2.2.2 y hy x hx).symm
theorem joinG_d {d e : Dlt ρ} (hd : vD d) (he : vD e) (hf : follE d e) : dE (joinG d e) := dE_app hd.1 (vE_filter he.1 _) fun x hx y hy => by
  obtain ⟨h1, h2⟩ := lessE_mem.1 hy
  exact ((hf.1 y h1).resolve_left h2).1 x hx
theorem joinN_d {d e : Dlt ρ} (hd : vD d) (he : vD e) (hf : follE d e) : dE (joinN d e) := dE_app (vE_filter hd.2.1 _) he.2.1 fun x hx y hy hn => by
  obtain ⟨h1, h2⟩ := lessE_mem.1 hx
  rcases hf.2 y hy with ⟨z, hz, hzn⟩ | h
  · rcases hf.1 z hz with h3 | h3
    · exact h2 (vE_names hd.2.1 h3 h1 (hzn.trans hn.symm) ▸ hz)
    · exact h3.2 x h1 (hn.trans hzn.symm)
  · exact h x h1 hn
end Go.PM
