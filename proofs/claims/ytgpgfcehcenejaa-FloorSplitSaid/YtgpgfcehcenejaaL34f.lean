/- Floors, plain: a flow may be recorded as two. -/
import Derived.Test.YtgpgfcehcenejaaL34d
namespace Go.PM
open Go.Proofs
set_option maxRecDepth 10000
set_option maxHeartbeats 4000000

def Flow.amt1 (f : Flow) (n : Int) : Flow := ⟨f.kind, f.per, f.src, f.dst, n, f.label⟩
theorem sum_setA (g : Flow → Int) : ∀ (l : List Flow) (i : Nat) (x y : Flow), l[i]? = some x → ((l.set i y).map g).sum = (l.map g).sum - g x + g y
  | [], i, x, y, h => by simp at h
  | z :: l, 0, x, y, h => by simp at h; subst h; simp; omega
  | z :: l, i + 1, x, y, h => by
    have ih := sum_setA g l i x y (by simpa using h)
    simp only [List.set_cons_succ, List.map_cons, List.sum_cons, ih]; omega
theorem dlt_amt (p v : Int) (f : Flow) (a b : Int) (h : f.amt = a + b) : dlt p v f = dlt p v (f.amt1 a) + dlt p v (f.amt1 b) := by
  unfold dlt perV perI Flow.amt1
  dsimp only
  repeat' split
  all_goals omega
/-- The k-th flow as two. -/
def spl (l : List Flow) (k : Nat) (f : Flow) (a b : Int) : List Flow := l.set k (f.amt1 a) ++ [f.amt1 b]
theorem mem_spl {l : List Flow} {k : Nat} {f g : Flow} {a b : Int} (h : g ∈ spl l k f a b) : g = f.amt1 a ∨ g = f.amt1 b ∨ g ∈ l := by
  unfold spl at h
  rcases List.mem_append.1 h with h | h
  · rcases List.mem_or_eq_of_mem_set h with h | h
    · exact .inr (.inr h)
    · exact .inl h
  · exact .inr (.inl (List.mem_singleton.1 h))
theorem spl_ex {l : List Flow} {k : Nat} {f : Flow} {a b : Int} (hf : l[k]? = some f) {q : Flow → Prop} (hq : ∀ g n, q g ↔ q (g.amt1 n)) : (∃ g ∈ l, q g) ↔ ∃ g ∈ spl l k f a b, q g := by
  constructor
  · rintro ⟨g, hg, hgq⟩
    obtain ⟨j, hj⟩ := List.mem_iff_getElem?.1 hg
    by_cases e : j = k
    · subst e
      rw [hf] at hj; cases hj
      exact ⟨_, List.mem_append_right _ (List.mem_singleton.2 rfl), (hq _ b).1 hgq⟩
    · refine ⟨g, List.mem_append_left _ (List.mem_of_getElem? (i := j) ?_), hgq⟩
      rw [List.getElem?_set_ne (fun h => e h.symm)]; exact hj
  · rintro ⟨g, hg, hgq⟩
    rcases mem_spl hg with rfl | rfl | hg
    · exact ⟨f, List.mem_of_getElem? hf, (hq f a).2 hgq⟩
    · exact ⟨f, List.mem_of_getElem? hf, (hq f b).2 hgq⟩
    · exact ⟨g, hg, hgq⟩
theorem spl_all {l : List Flow} {k : Nat} {f : Flow} {a b : Int} (hf : l[k]? = some f) {q : Flow → Prop} (h1 : q f ↔ q (f.amt1 a) ∧ q (f.amt1 b)) : (∀ g ∈ l, q g) ↔ ∀ g ∈ spl l k f a b, q g := by
  constructor
  · intro h g hg
    have := h1.1 (h f (List.mem_of_getElem? hf))
    rcases mem_spl hg with rfl | rfl | hg
    · exact this.1
    · exact this.2
    · exact h g hg
  · intro h g hg
    obtain ⟨j, hj⟩ := List.mem_iff_getElem?.1 hg
    by_cases e : j = k
    · subst e
      rw [hf] at hj; cases hj
      refine h1.2 ⟨h _ (List.mem_append_left _ ?_), h _ (List.mem_append_right _ (List.mem_singleton.2 rfl))⟩
      obtain ⟨hl, _⟩ := List.getElem?_eq_some_iff.1 hf
      exact List.mem_of_getElem? (i := j) (by rw [List.getElem?_set_self hl])
    · refine h g (List.mem_append_left _ (List.mem_of_getElem? (i := j) ?_))
      rw [List.getElem?_set_ne (fun h => e h.symm)]; exact hj
theorem spl_pair {l : List Flow} {k : Nat} {f : Flow} {a b : Int} (hf : l[k]? = some f) (hk : ¬ f.kind = 3) : (l.Pairwise fun f g => ¬ twice f g) ↔ (spl l k f a b).Pairwise fun f g => ¬ twice f g := by
  have hm : (l.set k (f.amt1 a)).map (fun f : Flow => (f.kind, f.label)) = l.map fun f : Flow => (f.kind, f.label) := by
    rw [List.map_set]
    refine List.ext_getElem? fun j => ?_
    rw [List.getElem?_set]
    split
    · rename_i e; subst e
      obtain ⟨hl, rfl⟩ := List.getElem?_eq_some_iff.1 hf
      simp [hl, Flow.amt1]
    · rfl
  have hp : ∀ m : List Flow, (m.Pairwise fun f g => ¬ twice f g) ↔ (m.map fun f : Flow => (f.kind, f.label)).Pairwise fun x y => ¬ (x.1 = 3 ∧ y.1 = 3 ∧ x.2 = y.2) := fun m => by
    rw [List.pairwise_map]; rfl
  unfold spl
  rw [List.pairwise_append, hp (l.set k (f.amt1 a)), hm, ← hp l]
  exact ⟨fun h => ⟨h, List.pairwise_singleton _ _, fun x _ y hy ht => by rw [List.mem_singleton.1 hy] at ht; exact hk ht.2.1⟩, fun h => h.1⟩
theorem spl_ok {op : List Int} {per : Int} {l : List Flow} {k : Nat} {f : Flow} {a b : Int} (hf : l[k]? = some f) (hk : ¬ f.kind = 3) (hab : f.amt = a + b) (ha : 1 ≤ a) (hb : 1 ≤ b) (hm : f.amt ≤ 1048576) (hl : l.length < 64) :
    (⟨op, per, l⟩ : Hist).ok ↔ (⟨op, per, spl l k f a b⟩ : Hist).ok := by
  have hq : f.ok op.length per ↔ (f.amt1 a).ok op.length per ∧ (f.amt1 b).ok op.length per := by
    unfold Flow.ok Flow.amt1
    dsimp only
    omega
  have hall := spl_all hf (q := fun g => g.ok op.length per) hq
  have hpair := spl_pair (a := a) (b := b) hf hk
  have hlen : (spl l k f a b).length ≤ 64 := by simp [spl]; omega
  exact ⟨fun h => ⟨h.nv, h.np, hlen, h.op, hall.1 h.fl, hpair.1 h.lab⟩, fun h => ⟨h.nv, h.np, by simp only; omega, h.op, hall.2 h.fl, hpair.2 h.lab⟩⟩
theorem spl_same {op : List Int} {per : Int} {l : List Flow} {k : Nat} {f : Flow} {a b : Int} (hf : l[k]? = some f) (hab : f.amt = a + b) (h1 : (⟨op, per, l⟩ : Hist).ok) (h2 : (⟨op, per, spl l k f a b⟩ : Hist).ok) : SameFl l (spl l k f a b) op.length per := by
  refine ⟨h1.fl, h2.fl, fun p v => ?_, fun p v => spl_ex hf fun g n => Iff.rfl, fun p u v => spl_ex hf fun g n => Iff.rfl, fun p u => spl_ex hf fun g n => Iff.rfl⟩
  unfold spl
  rw [List.map_append, List.sum_append, sum_setA _ _ _ _ _ hf]
  have := dlt_amt p v f a b hab
  simp only [List.map_cons, List.map_nil, List.sum_cons, List.sum_nil]
  omega
theorem spl_alike {op : List Int} {per : Int} {l : List Flow} {k : Nat} {f : Flow} {a b : Int} (hf : l[k]? = some f) (hk : ¬ f.kind = 3) (hab : f.amt = a + b) (ha : 1 ≤ a) (hb : 1 ≤ b) (hm : f.amt ≤ 1048576) (hl : l.length < 64) :
    amtsT ⟨op, per, spl l k f a b⟩ = amtsT ⟨op, per, l⟩ ∧ amtsE ⟨op, per, spl l k f a b⟩ = amtsE ⟨op, per, l⟩ := by
  have hiff := spl_ok (op := op) (per := per) hf hk hab ha hb hm hl
  by_cases hok : (⟨op, per, l⟩ : Hist).ok
  · have hok2 := hiff.1 hok
    have hS := spl_same hf hab hok hok2
    have ho : amtsO ⟨op, per, spl l k f a b⟩ = amtsO ⟨op, per, l⟩ := (hS.run per.toNat 0 op rfl).symm
    refine ⟨?_, by rw [amtsE_eq hok, amtsE_eq hok2, ho]⟩
    unfold amtsT; rw [if_pos hok, if_pos hok2, ho]
  · have hok2 : ¬ (⟨op, per, spl l k f a b⟩ : Hist).ok := fun h => hok (hiff.2 h)
    refine ⟨?_, ?_⟩
    · unfold amtsT; rw [if_neg hok, if_neg hok2]
    · unfold amtsE; rw [if_neg hok, if_neg hok2]
end Go.PM

