/- Deltas: typed data as structures. -/
import Derived.Test.YtfckliidjmeeaaaDoorL42ctoL42x
import Derived.Test.YtfckliidjmeeaaaDoorPmReadtoPmBulk
namespace Go.PM
open Go.Proofs
set_option maxRecDepth 10000

abbrev BN : Nat := 1048576
/-- Lists whose elements are of one kind. -/
theorem maps_of {α : Type} {f : α → D} {p : α → Prop} : ∀ {ys : List D}, (∀ y ∈ ys, ∃ a, y = f a ∧ p a) → ∃ l : List α, ys = l.map f ∧ ∀ a ∈ l, p a
  | [], _ => ⟨[], rfl, by simp⟩
  | y :: ys, h => by
    obtain ⟨a, rfl, ha⟩ := h y (.head _)
    obtain ⟨l, rfl, hl⟩ := maps_of fun y hy => h y (.tail _ hy)
    refine ⟨a :: l, rfl, fun x hx => ?_⟩
    cases hx with
    | head => exact ha
    | tail _ hx => exact hl x hx
theorem lists_of {α : Type} {f : α → D} {p : α → Prop} : ∀ {ys : List D}, (∀ y ∈ ys, ∃ a, DLes y.cells (f a).cells ∧ p a) → ∃ l : List α, DCs ys (l.map f) ∧ l.length = ys.length ∧ ∀ a ∈ l, p a
  | [], _ => ⟨[], rfl, rfl, by simp⟩
  | y :: ys, h => by
    obtain ⟨a, h1, ha⟩ := h y (.head _)
    obtain ⟨l, h2, h3, hl⟩ := lists_of fun y hy => h y (.tail _ hy)
    refine ⟨a :: l, ⟨h1, h2⟩, by simp [h3], fun x hx => ?_⟩
    cases hx with
    | head => exact ha
    | tail _ hx => exact hl x hx
/-- A list, read: exact elements. -/
theorem sl_of {α : Type} {f : α → D} {p : α → Prop} {sz : Nat} (fl : Bool) {ys : List D} (hl : ys.length ≤ BN) (h : ∀ y ∈ ys, ∃ a, y = f a ∧ p a) : ∃ l : List α, DLe (.sl sz fl ys) (SL sz (l.map f)) ∧ LW p l := by
  obtain ⟨l, rfl, h2⟩ := maps_of h
  exact ⟨l, DLe.full _ _ _, by simpa using hl, h2⟩
theorem sl_of' {α : Type} {f : α → D} {p : α → Prop} {sz : Nat} (fl : Bool) {ys : List D} (hl : ys.length ≤ BN) (h : ∀ y ∈ ys, ∃ a, DLes y.cells (f a).cells ∧ p a) : ∃ l : List α, DLe (.sl sz fl ys) (SL sz (l.map f)) ∧ LW p l := by
  obtain ⟨l, h1, h2, h3⟩ := lists_of h
  exact ⟨l, DLe.lit h1, by rw [h2]; exact hl, h3⟩
/-- Elements that are structures. -/
theorem els_of {α : Type} {f : α → D} {p : α → Prop} {R : List D → Prop} (h : ∀ zs, R zs → ∃ s : α, .agg zs = f s ∧ p s) {ys : List D} (hy : ∀ y ∈ ys, ∃ zs, R zs ∧ y = .agg zs) : ∀ y ∈ ys, ∃ a, y = f a ∧ p a := fun y hm => by
  obtain ⟨zs, h1, rfl⟩ := hy y hm
  exact h zs h1
theorem els_of' {α : Type} {f : α → D} {p : α → Prop} {R : List D → Prop} (h : ∀ zs, R zs → ∃ s : α, DLes zs (f s).cells ∧ p s) {ys : List D} (hy : ∀ y ∈ ys, ∃ zs, R zs ∧ y = .agg zs) : ∀ y ∈ ys, ∃ a, DLes y.cells (f a).cells ∧ p a := fun y hm => by
  obtain ⟨zs, h1, rfl⟩ := hy y hm
  exact h zs h1
theorem ent_of {n : Nat} {zs : List D} (h : DTyB tt BN (n + 5) 52 zs) : ∃ s : Ent, .agg zs = s.d ∧ True := by
  obtain ⟨_, _, rfl, ⟨a, rfl, ha⟩, ⟨_, _, rfl, ⟨b, rfl, hb⟩, rfl⟩⟩ := h
  exact ⟨⟨a, b⟩, rfl, trivial⟩
theorem spn_of {n : Nat} {zs : List D} (h : DTyB tt BN (n + 5) 116 zs) : ∃ s : Spn, .agg zs = s.d ∧ True := by
  obtain ⟨_, _, rfl, ⟨a, rfl, ha⟩, ⟨_, _, rfl, ⟨b, rfl, hb⟩, rfl⟩⟩ := h
  exact ⟨⟨a, b⟩, rfl, trivial⟩
theorem why_of {n : Nat} {zs : List D} (h : DTyB tt BN (n + 8) 106 zs) : ∃ s : Why, DLes zs s.d.cells ∧ s.days.length < 2 ^ 40 := by
  obtain ⟨_, _, rfl, ⟨_, _, rfl, ⟨a, rfl, ha⟩, ⟨_, _, rfl, ⟨b, rfl, hb⟩, ⟨_, _, rfl, ⟨c, rfl, hc⟩, rfl⟩⟩⟩, ⟨_, _, rfl, ⟨fd, d, rfl, ld, hd⟩, rfl⟩⟩ := h
  obtain ⟨l, h1, h2⟩ := sl_of (f := Spn.d) (sz := 2) fd ld (els_of (fun _ h => spn_of h) hd)
  exact ⟨⟨a, b, c, l⟩, ⟨.refl _, .refl _, .refl _, h1, rfl⟩, Nat.lt_of_le_of_lt h2.1 (by decide)⟩
theorem dlt_of {n : Nat} {zs : List D} (h : DTyB tt BN (n + 10) 40 zs) : ∃ s : Dl, DLe (.agg zs) s.d ∧ s.w := by
  obtain ⟨_, _, rfl, ⟨fa, a, rfl, la, ha⟩, ⟨_, _, rfl, ⟨fb, b, rfl, lb, hb⟩, ⟨_, _, rfl, ⟨fc, c, rfl, lc, hc⟩, rfl⟩⟩⟩ := h
  obtain ⟨l1, a1, a2⟩ := sl_of (f := Ent.d) (sz := 2) fa la (els_of (fun _ h => ent_of h) ha)
  obtain ⟨l2, b1, b2⟩ := sl_of (f := Ent.d) (sz := 2) fb lb (els_of (fun _ h => ent_of h) hb)
  obtain ⟨l3, c1, c2⟩ := sl_of' (f := Why.d) (sz := 4) fc lc (els_of' (fun _ h => why_of h) hc)
  exact ⟨⟨l1, l2, l3⟩, DLe.agg ⟨a1, b1, c1, rfl⟩, Nat.lt_of_le_of_lt a2.1 (by decide), Nat.lt_of_le_of_lt b2.1 (by decide), c2.1, c2.2⟩
end Go.PM

