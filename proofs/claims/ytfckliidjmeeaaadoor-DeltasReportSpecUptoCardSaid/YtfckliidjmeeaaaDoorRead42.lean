/- Deltas: typed data as structures. -/
import Derived.Test.YtfckliidjmeeaaaDoorL42ctoL42x
import Derived.Test.YtfckliidjmeeaaaDoorPmReadtoPmBulk
namespace Go.PM
open Go.Proofs
set_option maxRecDepth 10000
abbrev BN : Nat := 1048576
theorem okI_h {n : Int} (h : HasI .i64 n) : okI n := by
  simp [HasI, Lit.wf, IntKind.min, IntKind.max, IntKind.bits, IntKind.signed] at h
  exact ⟨by omega, by omega⟩
theorem maps_of {α : Type} {f : α → D} {p : α → Prop} : ∀ {ys : List D}, (∀ y ∈ ys, ∃ a, y = f a ∧ p a) → ∃ l : List α, ys = l.map f ∧ ∀ a ∈ l, p a
  | [], _ => ⟨[], rfl, by simp⟩
  | y :: ys, h => by
    obtain ⟨a, rfl, ha⟩ := h y (.head _)
    obtain ⟨l, rfl, hl⟩ := maps_of fun y hy => h y (.tail _ hy)
    refine ⟨a :: l, rfl, fun x hx => ?_⟩
    cases hx with
    | head => exact ha
    | tail _ hx => exact hl x hx
theorem lists_of {α : Type} {f : α → D} {p : α → Prop} : ∀ {ys : List D}, (∀ y ∈ ys, ∃ a, DLes y.cells (f a).cells ∧ p a) → ∃ l : List α, DCs ys (l.map f) ∧ l.length = ys.length ∧ ∀ a ∈ l, p a
  | [], _ => ⟨[], rfl, rfl, by simp⟩
  | y :: ys, h => by
    obtain ⟨a, h1, ha⟩ := h y (.head _)
    obtain ⟨l, h2, h3, hl⟩ := lists_of fun y hy => h y (.tail _ hy)
    refine ⟨a :: l, ⟨h1, h2⟩, by simp [h3], fun x hx => ?_⟩
    cases hx with
    | head => exact ha
    | tail _ hx => exact hl x hx
theorem sl_of {α : Type} {f : α → D} {p : α → Prop} {sz : Nat} (fl : Bool) {ys : List D} (hl : ys.length ≤ BN) (h : ∀ y ∈ ys, ∃ a, y = f a ∧ p a) : ∃ l : List α, DLe (.sl sz fl ys) (SL sz (l.map f)) ∧ LW p l := by
  obtain ⟨l, rfl, h2⟩ := maps_of h
  exact ⟨l, DLe.full _ _ _, by simpa using hl, h2⟩
theorem sl_of' {α : Type} {f : α → D} {p : α → Prop} {sz : Nat} (fl : Bool) {ys : List D} (hl : ys.length ≤ BN) (h : ∀ y ∈ ys, ∃ a, DLes y.cells (f a).cells ∧ p a) : ∃ l : List α, DLe (.sl sz fl ys) (SL sz (l.map f)) ∧ LW p l := by
  obtain ⟨l, h1, h2, h3⟩ := lists_of h
  exact ⟨l, DLe.lit h1, by rw [h2]; exact hl, h3⟩
theorem ints_of {n : Nat} (fl : Bool) {ys : List D} (hl : ys.length ≤ BN) (h : ∀ y ∈ ys, ∃ zs, DTyB tt BN (n + 1) 3 zs ∧ zs = [y]) : ∃ l : List Int, DLe (.sl 1 fl ys) (SL 1 (l.map I)) ∧ LW okI l :=
  sl_of fl hl fun y hy => by
    obtain ⟨zs, h1, rfl⟩ := h y hy
    obtain ⟨m, e, hm⟩ := h1
    cases e
    exact ⟨m, rfl, okI_h hm⟩
theorem lin_of {n : Nat} {zs : List D} (h : DTyB tt BN (n + 5) 65 zs) : ∃ s : Lin, .agg zs = s.d ∧ s.w := by
  obtain ⟨_, _, rfl, ⟨a, rfl, ha⟩, ⟨_, _, rfl, ⟨b, rfl, hb⟩, ⟨_, _, rfl, ⟨c, rfl, hc⟩, rfl⟩⟩⟩ := h
  exact ⟨⟨a, b, c⟩, rfl, okI_h ha, okI_h hb, okI_h hc⟩
theorem rat_of {n : Nat} {zs : List D} (h : DTyB tt BN (n + 5) 60 zs) : ∃ s : Rat, .agg zs = s.cells ∧ s.w := by
  obtain ⟨_, _, rfl, ⟨g, rfl⟩, ⟨_, _, rfl, ⟨a, rfl, ha⟩, ⟨_, _, rfl, ⟨b, rfl, hb⟩, rfl⟩⟩⟩ := h
  exact ⟨⟨g, a, b⟩, rfl, ha, hb⟩
theorem nee_of {n : Nat} {zs : List D} (h : DTyB tt BN (n + 5) 67 zs) : ∃ s : Nee, .agg zs = s.d ∧ s.w := by
  obtain ⟨_, _, rfl, ⟨_, _, rfl, ⟨a, rfl, ha⟩, ⟨_, _, rfl, ⟨b, rfl, hb⟩, ⟨_, _, rfl, ⟨c, rfl, hc⟩, rfl⟩⟩⟩, ⟨_, _, rfl, ⟨d, rfl, hd⟩, ⟨_, _, rfl, ⟨_, _, rfl, ⟨g, rfl⟩, ⟨_, _, rfl, ⟨p, rfl, hp⟩, ⟨_, _, rfl, ⟨q, rfl, hq⟩, rfl⟩⟩⟩, ⟨_, _, rfl, ⟨k, rfl, hk⟩, ⟨_, _, rfl, ⟨m, rfl, hm⟩, rfl⟩⟩⟩⟩⟩ := h
  exact ⟨⟨⟨a, b, c⟩, d, ⟨g, p, q⟩, k, m⟩, rfl, ⟨okI_h ha, okI_h hb, okI_h hc⟩, okI_h hd, ⟨hp, hq⟩, okI_h hk, okI_h hm⟩
theorem lo_of {n : Nat} {zs : List D} (h : DTyB tt BN (n + 5) 91 zs) : ∃ s : Lo, .agg zs = s.d ∧ s.w := by
  obtain ⟨_, _, rfl, ⟨_, _, rfl, ⟨a, rfl, ha⟩, ⟨_, _, rfl, ⟨b, rfl, hb⟩, ⟨_, _, rfl, ⟨c, rfl, hc⟩, rfl⟩⟩⟩, ⟨_, _, rfl, ⟨d, rfl, hd⟩, ⟨_, _, rfl, ⟨k, rfl, hk⟩, rfl⟩⟩⟩ := h
  exact ⟨⟨⟨a, b, c⟩, d, k⟩, rfl, ⟨okI_h ha, okI_h hb, okI_h hc⟩, okI_h hd, okI_h hk⟩
theorem jo_of {n : Nat} {zs : List D} (h : DTyB tt BN (n + 5) 94 zs) : ∃ s : Jo, .agg zs = s.d ∧ s.w := by
  obtain ⟨_, _, rfl, ⟨a, rfl, ha⟩, ⟨_, _, rfl, ⟨b, rfl, hb⟩, ⟨_, _, rfl, ⟨c, rfl, hc⟩, ⟨_, _, rfl, ⟨d, rfl, hd⟩, ⟨_, _, rfl, ⟨k, rfl, hk⟩, ⟨_, _, rfl, ⟨m, rfl, hm⟩, rfl⟩⟩⟩⟩⟩⟩ := h
  exact ⟨⟨a, b, c, d, k, m⟩, rfl, okI_h ha, okI_h hb, okI_h hc, okI_h hd, okI_h hk, okI_h hm⟩
theorem pe_of {n : Nat} {zs : List D} (h : DTyB tt BN (n + 5) 78 zs) : ∃ s : Pe, .agg zs = s.d ∧ s.w := by
  obtain ⟨_, _, rfl, ⟨a, rfl, ha⟩, ⟨_, _, rfl, ⟨b, rfl, hb⟩, ⟨_, _, rfl, ⟨c, rfl, hc⟩, ⟨_, _, rfl, ⟨_, _, rfl, ⟨g, rfl⟩, ⟨_, _, rfl, ⟨p, rfl, hp⟩, ⟨_, _, rfl, ⟨q, rfl, hq⟩, rfl⟩⟩⟩, rfl⟩⟩⟩⟩ := h
  exact ⟨⟨a, b, c, ⟨g, p, q⟩⟩, rfl, okI_h ha, okI_h hb, okI_h hc, hp, hq⟩
theorem rd_of {n : Nat} {zs : List D} (h : DTyB tt BN (n + 5) 125 zs) : ∃ s : Rd, .agg zs = s.d ∧ s.w := by
  obtain ⟨_, _, rfl, ⟨_, _, rfl, ⟨a, rfl, ha⟩, ⟨_, _, rfl, ⟨b, rfl, hb⟩, ⟨_, _, rfl, ⟨c, rfl, hc⟩, rfl⟩⟩⟩, ⟨_, _, rfl, ⟨d, rfl, hd⟩, ⟨_, _, rfl, ⟨k, rfl, hk⟩, rfl⟩⟩⟩ := h
  exact ⟨⟨a, b, c, d, k⟩, rfl, okI_h ha, okI_h hb, okI_h hc, okI_h hd, okI_h hk⟩
theorem els_of {α : Type} {f : α → D} {p : α → Prop} {R : List D → Prop} (h : ∀ zs, R zs → ∃ s : α, .agg zs = f s ∧ p s) {ys : List D} (hy : ∀ y ∈ ys, ∃ zs, R zs ∧ y = .agg zs) : ∀ y ∈ ys, ∃ a, y = f a ∧ p a := fun y hm => by
  obtain ⟨zs, h1, rfl⟩ := hy y hm
  exact h zs h1
theorem bran_of {n : Nat} {zs : List D} (h : DTyB tt BN (n + 5) 69 zs) : ∃ s : Bran, DLes zs s.d.cells ∧ s.w := by
  obtain ⟨_, _, rfl, ⟨fch, ch, rfl, lch, hch⟩, ⟨_, _, rfl, ⟨a, rfl, ha⟩, ⟨_, _, rfl, ⟨b, rfl, hb⟩, ⟨_, _, rfl, ⟨c, rfl, hc⟩, rfl⟩⟩⟩⟩ := h
  obtain ⟨l, h1, h2⟩ := ints_of fch lch hch
  exact ⟨⟨l, a, b, c⟩, ⟨h1, .refl _, .refl _, .refl _, rfl⟩, h2, okI_h ha, okI_h hb, okI_h hc⟩
theorem els_of' {α : Type} {f : α → D} {p : α → Prop} {R : List D → Prop} (h : ∀ zs, R zs → ∃ s : α, DLes zs (f s).cells ∧ p s) {ys : List D} (hy : ∀ y ∈ ys, ∃ zs, R zs ∧ y = .agg zs) : ∀ y ∈ ys, ∃ a, DLes y.cells (f a).cells ∧ p a := fun y hm => by
  obtain ⟨zs, h1, rfl⟩ := hy y hm
  exact h zs h1
theorem ver_of {n : Nat} {zs : List D} (h : DTyB tt BN (n + 8) 72 zs) : ∃ s : Ver, DLes zs s.d.cells ∧ s.w := by
  obtain ⟨_, _, rfl, ⟨k, rfl, hk⟩, ⟨_, _, rfl, ⟨fa, a, rfl, la, ha⟩, ⟨_, _, rfl, ⟨fb, b, rfl, lb, hb⟩, ⟨_, _, rfl, ⟨fc, c, rfl, lc, hc⟩, rfl⟩⟩⟩⟩ := h
  obtain ⟨la', a1, a2⟩ := ints_of fa la ha
  obtain ⟨lb', b1, b2⟩ := ints_of fb lb hb
  obtain ⟨lc', c1, c2⟩ := sl_of' (f := Bran.d) (sz := 4) fc lc (els_of' (fun _ h => bran_of h) hc)
  exact ⟨⟨k, la', lb', lc'⟩, ⟨.refl _, a1, b1, c1, rfl⟩, okI_h hk, a2, b2, c2⟩
theorem ans_of {n : Nat} {zs : List D} (h : DTyB tt BN (n + 8) 76 zs) : ∃ s : Ans, DLes zs s.d.cells ∧ s.w := by
  obtain ⟨_, _, rfl, ⟨k, rfl⟩, ⟨_, _, rfl, ⟨fa, a, rfl, la, ha⟩, ⟨_, _, rfl, ⟨fb, b, rfl, lb, hb⟩, ⟨_, _, rfl, ⟨fc, c, rfl, lc, hc⟩, rfl⟩⟩⟩⟩ := h
  obtain ⟨la', a1, a2⟩ := sl_of' (f := IntsD) (sz := 1) (p := LW okI) fa la fun y hy => by
    obtain ⟨zs, h1, rfl⟩ := ha y hy
    obtain ⟨fi, ys, e, hl, hh⟩ := h1
    cases e
    obtain ⟨l, h3, h4⟩ := ints_of fi hl hh
    exact ⟨l, ⟨h3, rfl⟩, h4⟩
  obtain ⟨lb', b1, b2⟩ := ints_of fb lb hb
  obtain ⟨lc', c1, c2⟩ := sl_of (f := Rd.d) (sz := 5) fc lc (els_of (fun _ h => rd_of h) hc)
  exact ⟨⟨k, la', lb', lc'⟩, ⟨.refl _, a1, b1, c1, rfl⟩, a2, b2, c2⟩
theorem pla_of {n : Nat} {zs : List D} (h : DTyB tt BN (n + 8) 29 zs) : ∃ s : Pla, DLe (.agg zs) s.d ∧ s.w := by
  obtain ⟨_, _, rfl, ⟨s, rfl, hs⟩, ⟨_, _, rfl, ⟨t, rfl, ht⟩, ⟨_, _, rfl, ⟨fa, a, rfl, la, ha⟩, ⟨_, _, rfl, ⟨fb, b, rfl, lb, hb⟩, ⟨_, _, rfl, ⟨fc, c, rfl, lc, hc⟩, ⟨_, _, rfl, ⟨fd, d, rfl, ld, hd⟩, ⟨_, _, rfl, ⟨fk, k, rfl, lk, hk⟩, ⟨_, _, rfl, ⟨fp, p, rfl, lp, hp⟩, ⟨_, _, rfl, ⟨fq, q, rfl, lq, hq⟩, rfl⟩⟩⟩⟩⟩⟩⟩⟩⟩ := h
  obtain ⟨l1, a1, a2⟩ := sl_of (f := Lin.d) (sz := 3) fa la (els_of (fun _ h => lin_of h) ha)
  obtain ⟨l2, b1, b2⟩ := sl_of (f := Nee.d) (sz := 9) fb lb (els_of (fun _ h => nee_of h) hb)
  obtain ⟨l3, c1, c2⟩ := sl_of (f := Lo.d) (sz := 5) fc lc (els_of (fun _ h => lo_of h) hc)
  obtain ⟨l4, d1, d2⟩ := ints_of fd ld hd
  obtain ⟨l5, k1, k2⟩ := sl_of (f := Jo.d) (sz := 6) fk lk (els_of (fun _ h => jo_of h) hk)
  obtain ⟨l6, p1, p2⟩ := sl_of (f := Pe.d) (sz := 6) fp lp (els_of (fun _ h => pe_of h) hp)
  obtain ⟨l7, q1, q2⟩ := ints_of fq lq hq
  exact ⟨⟨s, t, l1, l2, l3, l4, l5, l6, l7⟩, DLe.agg ⟨.refl _, .refl _, a1, b1, c1, d1, k1, p1, q1, rfl⟩, okI_h hs, okI_h ht, a2, b2, c2, d2, k2, p2, q2⟩
end Go.PM
