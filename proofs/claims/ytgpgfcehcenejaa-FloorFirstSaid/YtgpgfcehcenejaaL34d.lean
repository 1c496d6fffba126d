/- Floors, plain: the order of flows does not matter. -/
import Derived.Test.YtgpgfcehcenejaaL34a
namespace Go.PM
open Go.Proofs
set_option maxRecDepth 10000
set_option maxHeartbeats 8000000

def dlt (p v : Int) (f : Flow) : Int := perV p v 0 f
theorem perV_dlt (p v n : Int) (f : Flow) : perV p v n f = n + dlt p v f := by
  unfold dlt perV perI
  repeat' split
  all_goals omega
theorem foldV (p v : Int) : ∀ (fl : List Flow) (n : Int), fl.foldl (perV p v) n = n + (fl.map (dlt p v)).sum
  | [], n => by simp
  | f :: fl, n => by
    rw [List.foldl_cons, foldV p v fl, perV_dlt, List.map_cons, List.sum_cons]; omega
theorem sum_perm {a b : List Int} (h : a.Perm b) : a.sum = b.sum := by
  induction h with
  | nil => rfl
  | cons x _ ih => simp [ih]
  | swap x y l => simp only [List.sum_cons]; omega
  | trans _ _ i1 i2 => exact i1.trans i2
theorem ext_getD {a b : List Int} (hl : a.length = b.length) (h : ∀ v, v < a.length → a.getD v 0 = b.getD v 0) : a = b := by
  refine List.ext_getElem hl fun i h1 h2 => ?_
  have := h i h1
  simpa [List.getD_eq_getElem?_getD, h1, h2] using this
theorem ext_getDB {a b : List Bool} (hl : a.length = b.length) (h : ∀ v, a.getD v false = true ↔ b.getD v false = true) : a = b := by
  refine List.ext_getElem hl fun i h1 h2 => ?_
  have := h i
  simp only [List.getD_eq_getElem?_getD, List.getElem?_eq_getElem h1, List.getElem?_eq_getElem h2, Option.getD_some] at this
  exact Bool.eq_iff_iff.2 this
/-- Flows that come to the same. -/
structure SameFl (a b : List Flow) (nv : Nat) (np : Int) : Prop where
  oka : ∀ f ∈ a, f.ok nv np
  okb : ∀ f ∈ b, f.ok nv np
  sum : ∀ p v, (a.map (dlt p v)).sum = (b.map (dlt p v)).sum
  into : ∀ p v, (∃ f ∈ a, f.per = p ∧ f.kind = 1 ∧ f.dst.toNat = v) ↔ ∃ f ∈ b, f.per = p ∧ f.kind = 1 ∧ f.dst.toNat = v
  move : ∀ p u v, (∃ f ∈ a, f.per = p ∧ f.kind = 2 ∧ f.src.toNat = u ∧ f.dst.toNat = v) ↔ ∃ f ∈ b, f.per = p ∧ f.kind = 2 ∧ f.src.toNat = u ∧ f.dst.toNat = v
  out : ∀ p u, (∃ f ∈ a, f.per = p ∧ ¬ f.kind = 1 ∧ f.src.toNat = u) ↔ ∃ f ∈ b, f.per = p ∧ ¬ f.kind = 1 ∧ f.src.toNat = u
theorem SameFl.symm {a b : List Flow} {nv : Nat} {np : Int} (h : SameFl a b nv np) : SameFl b a nv np :=
  ⟨h.okb, h.oka, fun p v => (h.sum p v).symm, fun p v => (h.into p v).symm, fun p u v => (h.move p u v).symm, fun p u => (h.out p u).symm⟩
theorem SameFl.after {a b : List Flow} {nv : Nat} {np : Int} (h : SameFl a b nv np) (p : Int) {now : List Int} (hl : now.length = nv) : afterM a p now = afterM b p now := by
  subst hl
  refine ext_getD (by rw [afterM_len, afterM_len]) fun v _ => ?_
  rw [afterM_at v a h.oka, afterM_at v b h.okb, foldV, foldV, h.sum]
theorem SameFl.rch {a b : List Flow} {nv : Nat} {np : Int} (h : SameFl a b nv np) {p : Int} {pos : Nat → Prop} {v : Nat} (hr : Rch a p pos v) : Rch b p pos v := by
  induction hr with
  | start v hv => exact .start v hv
  | into f hf hp hk =>
    obtain ⟨g, g1, g2, g3, g4⟩ := (h.into p f.dst.toNat).1 ⟨f, hf, hp, hk, rfl⟩
    rw [← g4]; exact .into g g1 g2 g3
  | move f hf hp hk _ ih =>
    obtain ⟨g, g1, g2, g3, g4, g5⟩ := (h.move p f.src.toNat f.dst.toNat).1 ⟨f, hf, hp, hk, rfl, rfl⟩
    rw [← g5]; exact .move g g1 g2 g3 (by rw [g4]; exact ih)
theorem SameFl.fed {a b : List Flow} {nv : Nat} {np : Int} (h : SameFl a b nv np) (p : Int) {now : List Int} (hl : now.length = nv) : fedL a p now = fedL b p now := by
  subst hl
  refine ext_getDB (by rw [fedL_len, fedL_len]) fun v => ?_
  rw [fedL_iff h.oka, fedL_iff h.okb]
  exact ⟨h.rch, h.symm.rch⟩
theorem SameFl.can {a b : List Flow} {nv : Nat} {np : Int} (h : SameFl a b nv np) {p : Int} {now : List Int} (hl : now.length = nv) (hc : canP a p now) : canP b p now := by
  unfold canP at hc ⊢
  rw [← h.after p hl, ← h.fed p hl]
  refine ⟨hc.1, fun f hf hp hk => ?_⟩
  obtain ⟨g, g1, g2, g3, g4⟩ := (h.out p f.src.toNat).2 ⟨f, hf, hp, hk, rfl⟩
  rw [← g4]
  exact hc.2 g g1 g2 g3
theorem SameFl.run {a b : List Flow} {nv : Nat} {np : Int} (h : SameFl a b nv np) : ∀ (n : Nat) (p : Int) (now : List Int), now.length = nv → runM a n p now = runM b n p now
  | 0, _, _, _ => rfl
  | n + 1, p, now, hl => by
    by_cases hc : canP a p now
    · rw [runM_some hc, runM_some (h.can hl hc), h.after p hl, SameFl.run h n _ _ (by rw [afterM_len]; exact hl)]
    · rw [runM_none hc, runM_none (fun hb => hc (h.symm.can hl hb))]
theorem SameFl.perm {a b : List Flow} {nv : Nat} {np : Int} (h : a.Perm b) (hok : ∀ f ∈ a, f.ok nv np) : SameFl a b nv np := by
  have hm : ∀ {q : Flow → Prop}, (∃ f ∈ a, q f) ↔ ∃ f ∈ b, q f := fun {q} => ⟨fun ⟨f, hf, x⟩ => ⟨f, h.subset hf, x⟩, fun ⟨f, hf, x⟩ => ⟨f, h.symm.subset hf, x⟩⟩
  exact ⟨hok, fun f hf => hok f (h.symm.subset hf), fun p v => sum_perm (h.map _), fun p v => hm, fun p u v => hm, fun p u => hm⟩
theorem ok_perm {op : List Int} {per : Int} {a b : List Flow} (h : a.Perm b) (hok : (⟨op, per, a⟩ : Hist).ok) : (⟨op, per, b⟩ : Hist).ok :=
  ⟨hok.nv, hok.np, by have := hok.nf; have := h.length_eq; simp only at *; omega, hok.op, fun f hf => hok.fl f (h.symm.subset hf),
    (h.pairwise_iff (R := fun f g => ¬ twice f g) (fun {f g} hn ht => hn ⟨ht.2.1, ht.1, ht.2.2.symm⟩)).1 hok.lab⟩
theorem sent_perm {op : List Int} {per : Int} {a b : List Flow} (h : a.Perm b) (hok : (⟨op, per, a⟩ : Hist).ok) : sentL b = sentL a := by
  have hb := (ok_perm h hok).labs
  obtain ⟨g1, g2⟩ := foldF_spec (b.filter isOut) [] List.Pairwise.nil hb (by simp)
  refine sentL_unique hok.labs (g2.trans (by simpa using (h.symm.filter isOut))) fun i j x y hij hx hy => ?_
  rw [cfFlow_lt]
  obtain ⟨h1, rfl⟩ := List.getElem?_eq_some_iff.1 hx
  obtain ⟨h2, rfl⟩ := List.getElem?_eq_some_iff.1 hy
  have : labLt _ _ := List.pairwise_iff_getElem.1 g1 i j h1 h2 hij
  exact Int.not_lt.2 (Int.le_of_lt this)
/-- What is the same of two histories. -/
structure Alike (h z : Hist) : Prop where
  t : amtsT z = amtsT h
  e : amtsE z = amtsE h
  l : shipL z = shipL h
  m : shipA z = shipA h
theorem alike_perm {op : List Int} {per : Int} {a b : List Flow} (h : a.Perm b) : Alike ⟨op, per, a⟩ ⟨op, per, b⟩ := by
  by_cases hok : (⟨op, per, a⟩ : Hist).ok
  · have hok2 := ok_perm h hok
    have hS := SameFl.perm h hok.fl
    have ho : amtsO ⟨op, per, b⟩ = amtsO ⟨op, per, a⟩ := (hS.run per.toNat 0 op rfl).symm
    have he : amtsE ⟨op, per, b⟩ = amtsE ⟨op, per, a⟩ := by rw [amtsE_eq hok, amtsE_eq hok2, ho]
    refine ⟨?_, he, ?_, ?_⟩
    · unfold amtsT; rw [if_pos hok, if_pos hok2, ho]
    · unfold shipL; rw [he, sent_perm h hok]
    · unfold shipA; rw [he, sent_perm h hok]
  · have hok2 : ¬ (⟨op, per, b⟩ : Hist).ok := fun hb => hok (ok_perm h.symm hb)
    have e1 : amtsE ⟨op, per, a⟩ = 340 := by unfold amtsE; rw [if_neg hok]
    have e2 : amtsE ⟨op, per, b⟩ = 340 := by unfold amtsE; rw [if_neg hok2]
    refine ⟨?_, by rw [e1, e2], ?_, ?_⟩
    · unfold amtsT; rw [if_neg hok, if_neg hok2]
    · unfold shipL; rw [e1, e2]; rfl
    · unfold shipA; rw [e1, e2]; rfl
theorem swap_perm {l : List Flow} {p q : Nat} {x y : Flow} (hx : l[p]? = some x) (hy : l[q]? = some y) : l.Perm ((l.set p y).set q x) := by
  obtain ⟨h1, rfl⟩ := List.getElem?_eq_some_iff.1 hx
  obtain ⟨h2, rfl⟩ := List.getElem?_eq_some_iff.1 hy
  exact (List.set_set_perm h1 h2).symm
end Go.PM

