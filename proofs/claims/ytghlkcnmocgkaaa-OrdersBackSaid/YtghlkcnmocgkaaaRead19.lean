/- Typed data as structures: worlds with options, orders, spans. -/
import Derived.Test.YtghlkcnmocgkaaaO19s
import Derived.Test.YtghlkcnmocgkaaaPmClose
namespace Go.PM
open Go.Proofs
set_option maxRecDepth 10000

theorem maps_of {α : Type} {f : α → D} {p : α → Prop} : ∀ {ys : List D}, (∀ y ∈ ys, ∃ a, y = f a ∧ p a) → ∃ l : List α, ys = l.map f ∧ ∀ a ∈ l, p a
  | [], _ => ⟨[], rfl, by simp⟩
  | y :: ys, h => by
    obtain ⟨a, rfl, ha⟩ := h y (.head _)
    obtain ⟨l, rfl, hl⟩ := maps_of fun y hy => h y (.tail _ hy)
    refine ⟨a :: l, rfl, fun x hx => ?_⟩
    cases hx with
    | head => exact ha
    | tail _ hx => exact hl x hx
/-- Elements that are turned into others, which say less. -/
theorem les_of {α : Type} {f : α → D} : ∀ {ys : List D}, (∀ y ∈ ys, ∃ a, DLes y.cells (f a).cells) → ∃ l : List α, ys.length = l.length ∧ ∀ (j : Nat) (x y : D), ys[j]? = some x → (l.map f)[j]? = some y → DLes x.cells y.cells
  | [], _ => ⟨[], rfl, by simp⟩
  | y :: ys, h => by
    obtain ⟨a, ha⟩ := h y (.head _)
    obtain ⟨l, h1, h2⟩ := les_of fun y hy => h y (.tail _ hy)
    refine ⟨a :: l, by simp [h1], fun j u v hu hv => ?_⟩
    cases j with
    | zero => cases hu; cases hv; exact ha
    | succ j => exact h2 j u v hu hv

theorem fact_of {n : Nat} {zs : List D} (h : DTy tt (n + 7) 73 zs) : ∃ s : Fact, D.agg zs = s.d ∧ (HasI .i64 s.kind ∧ HasI .i64 s.subj ∧ HasI .i64 s.obj ∧ HasI .i64 s.value ∧ HasI .i64 s.from_ ∧ HasI .i64 s.to_ ∧ HasI .i64 s.known ∧ HasI .i64 s.no) := by
  obtain ⟨_, _, rfl, ⟨_, _, rfl, ⟨kind, rfl, hkind⟩, ⟨_, _, rfl, ⟨subj, rfl, hsubj⟩, ⟨_, _, rfl, ⟨obj, rfl, hobj⟩, rfl⟩⟩⟩, ⟨_, _, rfl, ⟨value, rfl, hvalue⟩, ⟨_, _, rfl, ⟨_, _, rfl, ⟨from_, rfl, hfrom_⟩, ⟨_, _, rfl, ⟨to_, rfl, hto_⟩, rfl⟩⟩, ⟨_, _, rfl, ⟨known, rfl, hknown⟩, ⟨_, _, rfl, ⟨no, rfl, hno⟩, rfl⟩⟩⟩⟩⟩ := h
  exact ⟨⟨kind, subj, obj, value, from_, to_, known, no⟩, rfl, hkind, hsubj, hobj, hvalue, hfrom_, hto_, hknown, hno⟩
theorem fact_ofs {n : Nat} {ys : List D} (h : ∀ y ∈ ys, ∃ zs, DTy tt (n + 7) 73 zs ∧ y = .agg zs) : ∃ l : List Fact, ys = l.map Fact.d ∧ ∀ s ∈ l, HasI .i64 s.kind ∧ HasI .i64 s.subj ∧ HasI .i64 s.obj ∧ HasI .i64 s.value ∧ HasI .i64 s.from_ ∧ HasI .i64 s.to_ ∧ HasI .i64 s.known ∧ HasI .i64 s.no :=
  maps_of fun y hy => by
    obtain ⟨zs, h1, rfl⟩ := h y hy
    exact fact_of h1


theorem ord_of {n : Nat} {zs : List D} (h : DTy tt (n + 7) 42 zs) : ∃ s : Ord, D.agg zs = s.d ∧ (HasI .i64 s.no ∧ HasI .i64 s.item ∧ HasI .i64 s.plant ∧ HasI .i64 s.config ∧ HasI .i64 s.amount ∧ HasI .i64 s.due ∧ HasI .i64 s.cust ∧ HasI .i64 s.shelf) := by
  obtain ⟨_, _, rfl, ⟨no, rfl, hno⟩, ⟨_, _, rfl, ⟨item, rfl, hitem⟩, ⟨_, _, rfl, ⟨plant, rfl, hplant⟩, ⟨_, _, rfl, ⟨config, rfl, hconfig⟩, ⟨_, _, rfl, ⟨amount, rfl, hamount⟩, ⟨_, _, rfl, ⟨due, rfl, hdue⟩, ⟨_, _, rfl, ⟨cust, rfl, hcust⟩, ⟨_, _, rfl, ⟨shelf, rfl, hshelf⟩, rfl⟩⟩⟩⟩⟩⟩⟩⟩ := h
  exact ⟨⟨no, item, plant, config, amount, due, cust, shelf⟩, rfl, hno, hitem, hplant, hconfig, hamount, hdue, hcust, hshelf⟩
theorem ord_ofs {n : Nat} {ys : List D} (h : ∀ y ∈ ys, ∃ zs, DTy tt (n + 7) 42 zs ∧ y = .agg zs) : ∃ l : List Ord, ys = l.map Ord.d ∧ ∀ s ∈ l, HasI .i64 s.no ∧ HasI .i64 s.item ∧ HasI .i64 s.plant ∧ HasI .i64 s.config ∧ HasI .i64 s.amount ∧ HasI .i64 s.due ∧ HasI .i64 s.cust ∧ HasI .i64 s.shelf :=
  maps_of fun y hy => by
    obtain ⟨zs, h1, rfl⟩ := h y hy
    exact ord_of h1

theorem i64_of {n : Int} (h : HasI .i64 n) : -9223372036854775808 ≤ n ∧ n ≤ 9223372036854775807 := by
  simp [HasI, Lit.wf, IntKind.min, IntKind.max, IntKind.bits, IntKind.signed] at h
  omega
theorem opts_of {n sz : Nat} {full : Bool} {ys : List D} (h : ∀ y ∈ ys, ∃ zs, DTy tt (n + 7) 75 zs ∧ y = .agg zs) : ∃ t : List Opt, ys.length = t.length ∧ DLe (.sl sz full ys) (.sl sz false (t.map Opt.d)) := by
  obtain ⟨t, t1, t2⟩ := les_of (f := Opt.d) (ys := ys) fun y hy => by
    obtain ⟨zs, h1, rfl⟩ := h y hy
    obtain ⟨_, _, rfl, ⟨nm, rfl⟩, ⟨_, _, rfl, ⟨fch, ch, rfl, lch, hch⟩, rfl⟩⟩ := h1
    exact ⟨⟨.s nm, ch⟩, DLe.refl _, DLe.full _ _ _, rfl⟩
  exact ⟨t, t1, (DLe.sl (full := full) ⟨by simp [t1], t2⟩).trans (DLe.full _ _ _)⟩
theorem conds_of {n sz : Nat} {full : Bool} {ys : List D} (h : ∀ y ∈ ys, ∃ zs, DTy tt (n + 7) 76 zs ∧ zs = [y]) : ∃ t : List (List Cond), ys.length = t.length ∧ DLe (.sl sz full ys) (.sl sz false (t.map condsD)) := by
  obtain ⟨t, t1, t2⟩ := les_of (f := condsD) (ys := ys) fun y hy => by
    obtain ⟨zs, h1, rfl⟩ := h y hy
    obtain ⟨fl, bs, ⟨⟩, _, hb⟩ := h1
    obtain ⟨r, rfl, _⟩ := maps_of (f := Cond.d) (p := fun _ => True) (ys := bs) fun x hx => by
      obtain ⟨zs, h2, rfl⟩ := hb x hx
      obtain ⟨_, _, rfl, ⟨o, rfl⟩, ⟨_, _, rfl, ⟨c, rfl⟩, ⟨_, _, rfl, ⟨on, rfl, hon⟩, ⟨_, _, rfl, ⟨cn, rfl, hcn⟩, rfl⟩⟩⟩⟩ := h2
      exact ⟨⟨.s o, .s c, on, cn⟩, rfl, trivial⟩
    exact ⟨r, DLe.full _ _ _, rfl⟩
  exact ⟨t, t1, (DLe.sl (full := full) ⟨by simp [t1], t2⟩).trans (DLe.full _ _ _)⟩
theorem max1 {n : Nat} (h : n ≤ maxLen) : n < 9223372036854775808 := by simp only [maxLen] at h; omega
theorem max2 {n : Nat} (h : n ≤ maxLen) : n < 2 ^ 63 := by simp only [maxLen] at h; omega
structure WdR (w : OWorld) : Prop where
  sw : w.src.wide
  fw : w.wide
  fl : w.facts.length < 2 ^ 63
  ol : w.src.opts.length < 2 ^ 63
  bl : w.src.forbids.length < 2 ^ 63
theorem world_of {n : Nat} {zs : List D} (h : DTy tt (n + 11) 38 zs) : ∃ w : OWorld, DLe (.agg zs) w.d ∧ WdR w := by
  obtain ⟨_, _, rfl, ⟨_, _, rfl, ⟨_, _, rfl, ⟨fu1, u1, rfl, lu1, hu1⟩, ⟨_, _, rfl, ⟨fit, it, rfl, lit, hit⟩, ⟨_, _, rfl, ⟨fpl, pl, rfl, lpl, hpl⟩, ⟨_, _, rfl, ⟨fu4, u4, rfl, lu4, hu4⟩, ⟨_, _, rfl, ⟨fop, op, rfl, lop, hop⟩, ⟨_, _, rfl, ⟨ffo, fo, rfl, lfo, hfo⟩, ⟨_, _, rfl, ⟨fu7, u7, rfl, lu7, hu7⟩, ⟨_, _, rfl, ⟨fu8, u8, rfl, lu8, hu8⟩, rfl⟩⟩⟩⟩⟩⟩⟩⟩, ⟨_, _, rfl, ⟨fu9, u9, rfl, lu9, hu9⟩, ⟨_, _, rfl, ⟨fu10, u10, rfl, lu10, hu10⟩, rfl⟩⟩⟩, ⟨_, _, rfl, ⟨ffa, fa, rfl, lfa, hfa⟩, rfl⟩⟩ := h
  obtain ⟨facts, rfl, hfc⟩ := fact_ofs hfa
  obtain ⟨ops, lo, ho⟩ := opts_of (sz := 2) (full := fop) hop
  obtain ⟨fbs, lf, hf⟩ := conds_of (sz := 1) (full := ffo) hfo
  refine ⟨⟨⟨.sl _ fu1 u1, it, pl, .sl _ fu4 u4, ops, fbs, .sl _ fu7 u7, .sl _ fu8 u8⟩, .sl _ fu9 u9, .sl _ fu10 u10, facts⟩,
    DLe.agg ⟨DLe.refl _, DLe.full _ _ _, DLe.full _ _ _, DLe.refl _, ho, hf, DLe.refl _, DLe.refl _, DLe.refl _, DLe.refl _, DLe.full _ _ _, rfl⟩, ?_⟩
  rw [List.length_map] at lfa
  rw [lo] at lop
  rw [lf] at lfo
  exact ⟨⟨max1 lit, max1 lpl⟩, fun f hf => (i64_of (hfc f hf).2.2.2.1).2, max2 lfa, max2 lop, max2 lfo⟩
theorem span_of {n : Nat} {zs : List D} (h : DTy tt (n + 7) 57 zs) : ∃ a b : Int, D.agg zs = spanD a b := by
  obtain ⟨_, _, rfl, ⟨a, rfl, ha⟩, ⟨_, _, rfl, ⟨b, rfl, hb⟩, rfl⟩⟩ := h
  exact ⟨a, b, rfl⟩
end Go.PM

