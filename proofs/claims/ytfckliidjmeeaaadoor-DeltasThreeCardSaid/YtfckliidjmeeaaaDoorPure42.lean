/- Deltas, plain: entries in order, differences. -/
import Derived.Test.YtfckliidjmeeaaaDoorBase42
namespace Go.PM
/-- Entries of a report. -/
structure Ent where
  name : ByteArray
  text : ByteArray
deriving DecidableEq
def Ent.nm (e : Ent) : List UInt8 := e.name.toList
def ltE (a b : Ent) : Prop := a.nm < b.nm
instance ltEDec (a b : Ent) : Decidable (ltE a b) := by unfold ltE; infer_instance
theorem ltE_irr (a : Ent) : ¬ ltE a a := fun h => List.lt_irrefl _ h
theorem ltE_trans {a b c : Ent} (h1 : ltE a b) (h2 : ltE b c) : ltE a c := List.lt_trans h1 h2
theorem ltE_tri {a b : Ent} (h1 : ¬ ltE a b) (h2 : ¬ ltE b a) : a.nm = b.nm := List.le_antisymm (List.not_lt.1 h2) (List.not_lt.1 h1)
theorem ltE_ne {a b : Ent} (h : ltE a b) : a.nm ≠ b.nm := fun e => by unfold ltE at h; rw [e] at h; exact List.lt_irrefl _ h
/-- Ordered by name, no name twice. -/
def vE (l : List Ent) : Prop := l.Pairwise ltE
instance vEDec (l : List Ent) : Decidable (vE l) := by unfold vE; infer_instance
def risE : List Ent → Prop
  | a :: b :: r => ltE a b ∧ risE (b :: r)
  | _ => True
theorem vE_names {l : List Ent} (h : vE l) {x y : Ent} (hx : x ∈ l) (hy : y ∈ l) (he : x.nm = y.nm) : x = y := by
  induction l with
  | nil => cases hx
  | cons a l ih =>
    obtain ⟨h1, h2⟩ := List.pairwise_cons.1 h
    cases hx with
    | head =>
      cases hy with
      | head => rfl
      | tail _ hy => exact absurd he (ltE_ne (h1 y hy))
    | tail _ hx =>
      cases hy with
      | head => exact absurd he.symm (ltE_ne (h1 x hx))
      | tail _ hy => exact ih h2 hx hy
theorem vE_filter {l : List Ent} (h : vE l) (p : Ent → Bool) : vE (l.filter p) := List.Pairwise.filter p h
theorem vE_ext : ∀ {a b : List Ent}, vE a → vE b → (∀ x, x ∈ a ↔ x ∈ b) → a = b
  | [], [], _, _, _ => rfl
  | [], y :: b, _, _, h => absurd ((h y).2 (.head _)) (by simp)
  | x :: a, [], _, _, h => absurd ((h x).1 (.head _)) (by simp)
  | x :: a, y :: b, ha, hb, h => by
    obtain ⟨a1, a2⟩ := List.pairwise_cons.1 ha
    obtain ⟨b1, b2⟩ := List.pairwise_cons.1 hb
    have hxy : x = y := by
      have h1 := (h x).1 (.head _)
      have h2 := (h y).2 (.head _)
      cases h1 with
      | head => rfl
      | tail _ h1 =>
        cases h2 with
        | head => rfl
        | tail _ h2 => exact absurd (ltE_trans (a1 y h2) (b1 x h1)) (ltE_irr _)
    subst hxy
    congr 1
    refine vE_ext a2 b2 fun z => ⟨fun hz => ?_, fun hz => ?_⟩
    · have := (h z).1 (.tail _ hz)
      cases this with
      | head => exact absurd (a1 _ hz) (ltE_irr _)
      | tail _ h3 => exact h3
    · have := (h z).2 (.tail _ hz)
      cases this with
      | head => exact absurd (b1 _ hz) (ltE_irr _)
      | tail _ h3 => exact h3
/-- What is in one list and not in another one. -/
def lessE (a b : List Ent) : List Ent := a.filter fun x => decide (x ∉ b)
theorem lessE_mem {a b : List Ent} {x : Ent} : x ∈ lessE a b ↔ x ∈ a ∧ x ∉ b := by unfold lessE; rw [List.mem_filter, decide_eq_true_eq]
/-- An entry put into its place: behind all that have no greater name. -/
def insE (x : Ent) : List Ent → List Ent
  | [] => [x]
  | y :: r => if ltE x y ∧ ∀ z ∈ r, ltE x z then x :: y :: r else y :: insE x r
theorem insE_perm (x : Ent) : ∀ l : List Ent, (insE x l).Perm (x :: l)
  | [] => .refl _
  | y :: r => by
    rw [insE]
    split
    · exact .refl _
    · exact ((insE_perm x r).cons y).trans (.swap x y r)
def ordE (l : List Ent) : List Ent := l.foldl (fun out x => insE x out) []
theorem ordE_perm (l : List Ent) : (ordE l).Perm l := by
  have key : ∀ (l out : List Ent), (l.foldl (fun out x => insE x out) out).Perm (out ++ l) := by
    intro l
    induction l with
    | nil => intro out; simp
    | cons x l ih =>
      intro out
      refine (ih (insE x out)).trans ?_
      refine ((insE_perm x out).append_right l).trans ?_
      exact List.perm_middle.symm
  exact key l []
/-- No name twice. -/
def dE (l : List Ent) : Prop := l.Pairwise fun a b => a.nm ≠ b.nm
theorem dE_perm {a b : List Ent} (h : a.Perm b) (ha : dE a) : dE b := (List.Perm.pairwise_iff (R := fun a b : Ent => a.nm ≠ b.nm) (fun {_ _} hxy => Ne.symm hxy) h).1 ha
theorem dE_of {l : List Ent} (h : vE l) : dE l := h.imp fun h => ltE_ne h
theorem insE_v {x : Ent} : ∀ {l : List Ent}, vE l → (∀ y ∈ l, x.nm ≠ y.nm) → vE (insE x l)
  | [], _, _ => List.pairwise_singleton _ _
  | y :: r, h, hn => by
    obtain ⟨h1, h2⟩ := List.pairwise_cons.1 h
    rw [insE]
    split
    · rename_i hc
      refine List.pairwise_cons.2 ⟨fun z hz => ?_, h⟩
      cases hz with
      | head => exact hc.1
      | tail _ hz => exact hc.2 z hz
    · rename_i hc
      have hyx : ltE y x := by
        by_cases hxy : ltE x y
        · exact absurd ⟨hxy, fun z hz => ltE_trans hxy (h1 z hz)⟩ hc
        · by_cases hyx : ltE y x
          · exact hyx
          · exact absurd (ltE_tri hxy hyx) (hn y (.head _))
      refine List.pairwise_cons.2 ⟨fun z hz => ?_, insE_v h2 fun z hz => hn z (.tail _ hz)⟩
      have := (insE_perm x r).mem_iff.1 hz
      cases this with
      | head => exact hyx
      | tail _ hz => exact h1 z hz
theorem ordE_v {l : List Ent} (h : dE l) : vE (ordE l) := by
  have key : ∀ (l out : List Ent), vE out → dE (out ++ l) → vE (l.foldl (fun out x => insE x out) out) := by
    intro l
    induction l with
    | nil => intro out h _; exact h
    | cons x l ih =>
      intro out h hd
      have hd' : dE (x :: (out ++ l)) := dE_perm List.perm_middle hd
      obtain ⟨d1, d2⟩ := List.pairwise_cons.1 hd'
      refine ih (insE x out) (insE_v h fun y hy => d1 y (List.mem_append_left _ hy)) ?_
      exact dE_perm ((insE_perm x out).append_right l).symm hd'
  exact key l [] .nil (by simpa using h)
/-- What is in order, and has the same entries, is this. -/
theorem ordE_uniq {l l' : List Ent} (h : dE l) (hp : l'.Perm l) (hs : ∀ (p q : Nat) (x y : Ent), p < q → l'[p]? = some x → l'[q]? = some y → ¬ ltE y x) : l' = ordE l := by
  have hd := dE_perm hp.symm h
  refine vE_ext ?_ (ordE_v h) fun x => by rw [hp.mem_iff, (ordE_perm l).mem_iff]
  unfold vE
  rw [List.pairwise_iff_getElem]
  intro p q hp1 hq1 hpq
  have h1 := hs p q _ _ hpq (List.getElem?_eq_getElem hp1) (List.getElem?_eq_getElem hq1)
  have h2 := List.pairwise_iff_getElem.1 hd p q hp1 hq1 hpq
  by_cases h3 : ltE l'[p] l'[q]
  · exact h3
  · exact absurd (ltE_tri h3 h1) h2
structure Dlt (ρ : Type) where
  gone : List Ent
  new : List Ent
  why : List ρ
deriving DecidableEq
variable {ρ : Type}
def vD (d : Dlt ρ) : Prop := vE d.gone ∧ vE d.new ∧ ∀ x ∈ d.gone, x ∉ d.new
instance vDDec (d : Dlt ρ) : Decidable (vD d) := by unfold vD; infer_instance
def diffM (a b : List Ent) (r : List ρ) : Dlt ρ × Int := if vE a ∧ vE b then (⟨lessE a b, lessE b a, r⟩, 0) else (⟨[], [], []⟩, 420)
def applyOk (a : List Ent) (d : Dlt ρ) : Prop := vE a ∧ vD d ∧ (∀ x ∈ d.gone, x ∈ a) ∧ ∀ x ∈ d.new, ∀ y ∈ lessE a d.gone, x.nm ≠ y.nm
instance applyOkDec (a : List Ent) (d : Dlt ρ) : Decidable (applyOk a d) := by unfold applyOk; infer_instance
def applyM (a : List Ent) (d : Dlt ρ) : List Ent × Int := if applyOk a d then (ordE (lessE a d.gone ++ d.new), 0) else ([], 420)
def follE (d e : Dlt ρ) : Prop := (∀ x ∈ e.gone, x ∈ d.new ∨ ((∀ y ∈ d.gone, y.nm ≠ x.nm) ∧ ∀ y ∈ d.new, y.nm ≠ x.nm)) ∧ ∀ x ∈ e.new, (∃ y ∈ e.gone, y.nm = x.nm) ∨ ∀ y ∈ d.new, y.nm ≠ x.nm
instance follEDec (d e : Dlt ρ) : Decidable (follE d e) := by unfold follE; infer_instance
def joinG (d e : Dlt ρ) : List Ent := d.gone ++ lessE e.gone d.new
def joinN (d e : Dlt ρ) : List Ent := lessE d.new e.gone ++ e.new
def joinM (d e : Dlt ρ) : Dlt ρ × Int := if vD d ∧ vD e ∧ follE d e then (⟨ordE (lessE (joinG d e) (joinN d e)), ordE (lessE (joinN d e) (joinG d e)), d.why ++ e.why⟩, 0) else (⟨[], [], []⟩, 420)
theorem dE_app {a b : List Ent} (ha : vE a) (hb : vE b) (h : ∀ x ∈ a, ∀ y ∈ b, x.nm ≠ y.nm) : dE (a ++ b) := List.pairwise_append.2 ⟨dE_of ha, dE_of hb, h⟩
theorem apply_d {a : List Ent} {d : Dlt ρ} (h : applyOk a d) : dE (lessE a d.gone ++ d.new) := dE_app (vE_filter h.1 _) h.2.1.2.1 fun x hx y hy => (h.2.2.2 y hy x hx).symm
theorem joinG_d {d e : Dlt ρ} (hd : vD d) (he : vD e) (hf : follE d e) : dE (joinG d e) := dE_app hd.1 (vE_filter he.1 _) fun x hx y hy => by
  obtain ⟨h1, h2⟩ := lessE_mem.1 hy
  exact ((hf.1 y h1).resolve_left h2).1 x hx
theorem joinN_d {d e : Dlt ρ} (hd : vD d) (he : vD e) (hf : follE d e) : dE (joinN d e) := dE_app (vE_filter hd.2.1 _) he.2.1 fun x hx y hy hn => by
  obtain ⟨h1, h2⟩ := lessE_mem.1 hx
  rcases hf.2 y hy with ⟨z, hz, hzn⟩ | h
  · rcases hf.1 z hz with h3 | h3
    · exact h2 (vE_names hd.2.1 h3 h1 (hzn.trans hn.symm) ▸ hz)
    · exact h3.2 x h1 (hn.trans hzn.symm)
  · exact h x h1 hn
/-! ### The laws -/
theorem lessE_sub {a b : List Ent} {x : Ent} (h : x ∈ lessE a b) : x ∈ a := (lessE_mem.1 h).1
theorem diff_vD {a b : List Ent} (ha : vE a) (hb : vE b) (r : List ρ) : vD (⟨lessE a b, lessE b a, r⟩ : Dlt ρ) :=
  ⟨vE_filter ha _, vE_filter hb _, fun x hx hy => (lessE_mem.1 hx).2 (lessE_mem.1 hy).1⟩
theorem exact_ok {a b : List Ent} (ha : vE a) (hb : vE b) (r : List ρ) : applyM a (⟨lessE a b, lessE b a, r⟩ : Dlt ρ) = (b, 0) := by
  have hn : ∀ x ∈ lessE b a, ∀ y ∈ lessE a (lessE a b), x.nm ≠ y.nm := fun x hx y hy he => by
    obtain ⟨x1, x2⟩ := lessE_mem.1 hx
    obtain ⟨y1, y2⟩ := lessE_mem.1 hy
    have yb : y ∈ b := Decidable.byContradiction fun h => y2 (lessE_mem.2 ⟨y1, h⟩)
    have := vE_names hb x1 yb he
    subst this
    exact x2 y1
  have ok : applyOk a (⟨lessE a b, lessE b a, r⟩ : Dlt ρ) := ⟨ha, diff_vD ha hb r, fun x hx => lessE_sub hx, hn⟩
  unfold applyM
  rw [if_pos ok]
  refine Prod.ext (vE_ext (ordE_v (apply_d ok)) hb fun x => ?_) rfl
  rw [(ordE_perm _).mem_iff, List.mem_append, lessE_mem, lessE_mem, lessE_mem]
  constructor
  · rintro (⟨h1, h2⟩ | ⟨h1, _⟩)
    · exact Decidable.byContradiction fun h => h2 ⟨h1, h⟩
    · exact h1
  · intro h
    by_cases hx : x ∈ a
    · exact .inl ⟨hx, fun h2 => h2.2 h⟩
    · exact .inr ⟨h, hx⟩
theorem apply_mem {a b : List Ent} {d : Dlt ρ} (h : applyM a d = (b, 0)) : applyOk a d ∧ vE b ∧ ∀ x, x ∈ b ↔ (x ∈ a ∧ x ∉ d.gone) ∨ x ∈ d.new := by
  unfold applyM at h
  by_cases ok : applyOk a d
  · rw [if_pos ok] at h
    simp only [Prod.mk.injEq, and_true] at h
    subst h
    exact ⟨ok, ordE_v (apply_d ok), fun x => by rw [(ordE_perm _).mem_iff, List.mem_append, lessE_mem]⟩
  · rw [if_neg ok] at h
    simp at h
/-- Any delta from one list to another one is their difference. -/
theorem exact_uniq {a b : List Ent} {d : Dlt ρ} (h : applyM a d = (b, 0)) : d.gone = lessE a b ∧ d.new = lessE b a := by
  obtain ⟨⟨h1, ⟨d1, d2, d3⟩, h3, h4⟩, hb, hm⟩ := apply_mem h
  refine ⟨vE_ext d1 (vE_filter h1 _) fun x => ?_, vE_ext d2 (vE_filter hb _) fun x => ?_⟩
  · show x ∈ d.gone ↔ x ∈ lessE a b
    rw [lessE_mem, hm]
    constructor
    · exact fun hx => ⟨h3 x hx, fun hy => hy.elim (fun hy => hy.2 hx) (fun hy => d3 x hx hy)⟩
    · rintro ⟨hx, hn⟩
      exact Decidable.byContradiction fun hg => hn (.inl ⟨hx, hg⟩)
  · show x ∈ d.new ↔ x ∈ lessE b a
    rw [lessE_mem, hm]
    constructor
    · intro hx
      refine ⟨.inr hx, fun ha => ?_⟩
      have hg : x ∉ d.gone := fun hg => d3 x hg hx
      exact h4 x hx x (lessE_mem.2 ⟨ha, hg⟩) rfl
    · rintro ⟨hx | hx, hn⟩
      · exact absurd hx.1 hn
      · exact hx
theorem join_mem {d e : Dlt ρ} (hd : vD d) (he : vD e) (hf : follE d e) : vE (ordE (lessE (joinG d e) (joinN d e))) ∧ vE (ordE (lessE (joinN d e) (joinG d e))) ∧
    (∀ x, x ∈ ordE (lessE (joinG d e) (joinN d e)) ↔ x ∈ joinG d e ∧ x ∉ joinN d e) ∧ ∀ x, x ∈ ordE (lessE (joinN d e) (joinG d e)) ↔ x ∈ joinN d e ∧ x ∉ joinG d e := by
  have g := joinG_d hd he hf
  have n := joinN_d hd he hf
  exact ⟨ordE_v (List.Pairwise.filter _ g), ordE_v (List.Pairwise.filter _ n), fun x => by rw [(ordE_perm _).mem_iff, lessE_mem], fun x => by rw [(ordE_perm _).mem_iff, lessE_mem]⟩
/-- What is applied one after the other can be joined. -/
theorem joined_ok {a b c : List Ent} {d e : Dlt ρ} (h1 : applyM a d = (b, 0)) (h2 : applyM b e = (c, 0)) : ∃ x, joinM d e = (x, 0) ∧ x.why = d.why ++ e.why ∧ applyM a x = (c, 0) := by
  obtain ⟨⟨ha, hd, s1, s2⟩, hb, mb⟩ := apply_mem h1
  obtain ⟨⟨_, he, t1, t2⟩, hc, mc⟩ := apply_mem h2
  have hf : follE d e := by
    refine ⟨fun x hx => ?_, fun x hx => ?_⟩
    · by_cases hn : x ∈ d.new
      · exact .inl hn
      · have hxb := t1 x hx
        rcases (mb x).1 hxb with ⟨xa, xg⟩ | h
        · refine .inr ⟨fun y hy hyn => ?_, fun y hy hyn => ?_⟩
          · have := vE_names ha (s1 y hy) xa hyn
            subst this; exact xg hy
          · exact s2 y hy x (lessE_mem.2 ⟨xa, xg⟩) hyn
        · exact absurd h hn
    · by_cases hex : ∃ y ∈ e.gone, y.nm = x.nm
      · exact .inl hex
      · refine .inr fun y hy hyn => ?_
        have yb : y ∈ b := (mb y).2 (.inr hy)
        have yg : y ∉ e.gone := fun hg => hex ⟨y, hg, hyn⟩
        exact t2 x hx y (lessE_mem.2 ⟨yb, yg⟩) hyn.symm
  obtain ⟨v1, v2, m1, m2⟩ := join_mem hd he hf
  refine ⟨_, by unfold joinM; rw [if_pos ⟨hd, he, hf⟩], rfl, ?_⟩
  have gone_a : ∀ x ∈ joinG d e, x ∈ a ∨ x ∈ d.new := fun x hx => by
    rcases List.mem_append.1 hx with hx | hx
    · exact .inl (s1 x hx)
    · obtain ⟨x1, x2⟩ := lessE_mem.1 hx
      rcases (mb x).1 (t1 x x1) with h | h
      · exact .inl h.1
      · exact .inr h
  have gmem : ∀ x, x ∈ joinG d e ↔ x ∈ d.gone ∨ x ∈ e.gone ∧ x ∉ d.new := fun x => by unfold joinG; rw [List.mem_append, lessE_mem]
  have nmem : ∀ x, x ∈ joinN d e ↔ x ∈ d.new ∧ x ∉ e.gone ∨ x ∈ e.new := fun x => by unfold joinN; rw [List.mem_append, lessE_mem]
  have key : ∀ x, x ∈ c ↔ (x ∈ a ∧ ¬ (x ∈ joinG d e ∧ x ∉ joinN d e)) ∨ x ∈ joinN d e ∧ x ∉ joinG d e := fun x => by
    have q1 := mb x
    have q2 := mc x
    have q3 := gmem x
    have q4 := nmem x
    have q5 := s1 x
    have q6 := hd.2.2 x
    have q7 := he.2.2 x
    have q8 := t1 x
    have q9 : x ∈ e.new → ¬ (x ∈ b ∧ x ∉ e.gone) := fun hx hy => t2 x hx x (lessE_mem.2 hy) rfl
    have q10 : x ∈ d.new → ¬ (x ∈ a ∧ x ∉ d.gone) := fun hx hy => s2 x hx x (lessE_mem.2 hy) rfl
    by_cases z1 : x ∈ a <;> by_cases z2 : x ∈ d.gone <;> by_cases z3 : x ∈ d.new <;> by_cases z4 : x ∈ e.gone <;> by_cases z5 : x ∈ e.new <;> simp_all
  have ok : applyOk a (⟨ordE (lessE (joinG d e) (joinN d e)), ordE (lessE (joinN d e) (joinG d e)), d.why ++ e.why⟩ : Dlt ρ) := by
    refine ⟨ha, ⟨v1, v2, fun x hx hy => ((m1 x).1 hx).2 ((m2 x).1 hy).1⟩, fun x hx => ?_, fun x hx y hy hxy => ?_⟩
    · obtain ⟨x1, x2⟩ := (m1 x).1 hx
      have q1 := (gmem x).1 x1
      rcases gone_a x x1 with h | h
      · exact h
      · rcases q1 with q | q
        · exact s1 x q
        · exact absurd h q.2
    · obtain ⟨x1, x2⟩ := (m2 x).1 hx
      obtain ⟨y1, y2⟩ := lessE_mem.1 hy
      have yn : ¬ (y ∈ joinG d e ∧ y ∉ joinN d e) := fun h => y2 ((m1 y).2 h)
      have xc : x ∈ c := (key x).2 (.inr ⟨x1, x2⟩)
      have yc : y ∈ c := (key y).2 (.inl ⟨y1, yn⟩)
      have := vE_names hc xc yc hxy
      subst this
      have q1 := (nmem x).1 x1
      have q2 : x ∉ d.gone := fun h => x2 ((gmem x).2 (.inl h))
      rcases q1 with q | q
      · exact s2 x q.1 x (lessE_mem.2 ⟨y1, q2⟩) rfl
      · have xb : x ∈ b := (mb x).2 (.inl ⟨y1, q2⟩)
        by_cases xg : x ∈ e.gone
        · exact he.2.2 x xg q
        · exact t2 x q x (lessE_mem.2 ⟨xb, xg⟩) rfl
  unfold applyM
  rw [if_pos ok]
  refine Prod.ext (vE_ext (ordE_v (apply_d ok)) hc fun x => ?_) rfl
  rw [(ordE_perm _).mem_iff, List.mem_append, lessE_mem, m1, m2, key]
/-- Differences one after the other. -/
theorem three_ok {a b c : List Ent} (ha : vE a) (hb : vE b) (hc : vE c) : joinM (⟨lessE a b, lessE b a, []⟩ : Dlt ρ) ⟨lessE b c, lessE c b, []⟩ = (⟨lessE a c, lessE c a, []⟩, 0) := by
  obtain ⟨x, h1, h2, h3⟩ := joined_ok (exact_ok ha hb ([] : List ρ)) (exact_ok hb hc ([] : List ρ))
  obtain ⟨e1, e2⟩ := exact_uniq h3
  rw [h1]
  obtain ⟨g, n, w⟩ := x
  simp only at e1 e2 h2
  subst e1; subst e2; subst h2
  rfl
end Go.PM

