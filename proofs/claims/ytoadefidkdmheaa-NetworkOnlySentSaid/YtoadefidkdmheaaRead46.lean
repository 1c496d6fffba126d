/- Typed data as structures: packets, links. -/
import Derived.Test.YtoadefidkdmheaaN46b
import Derived.Test.YtoadefidkdmheaaPmClose
namespace Go.PM
open Go.Proofs
set_option maxRecDepth 10000

theorem maps_of {α : Type} {f : α → D} {p : α → Prop} : ∀ {ys : List D}, (∀ y ∈ ys, ∃ a, y = f a ∧ p a) → ∃ l : List α, ys = l.map f ∧ ∀ a ∈ l, p a
  | [], _ => ⟨[], rfl, by simp⟩
  | y :: ys, h => by
    obtain ⟨a, rfl, ha⟩ := h y (.head _)
    obtain ⟨l, rfl, hl⟩ := maps_of fun y hy => h y (.tail _ hy)
    refine ⟨a :: l, rfl, fun x hx => ?_⟩
    cases hx with
    | head => exact ha
    | tail _ hx => exact hl x hx
/-- Elements that are turned into others, which say less. -/
theorem les_of {α : Type} {f : α → D} : ∀ {ys : List D}, (∀ y ∈ ys, ∃ a, DLes y.cells (f a).cells) → ∃ l : List α, ys.length = l.length ∧ ∀ (j : Nat) (x y : D), ys[j]? = some x → (l.map f)[j]? = some y → DLes x.cells y.cells
  | [], _ => ⟨[], rfl, by simp⟩
  | y :: ys, h => by
    obtain ⟨a, ha⟩ := h y (.head _)
    obtain ⟨l, h1, h2⟩ := les_of fun y hy => h y (.tail _ hy)
    refine ⟨a :: l, by simp [h1], fun j u v hu hv => ?_⟩
    cases j with
    | zero => cases hu; cases hv; exact ha
    | succ j => exact h2 j u v hu hv
theorem max2 {n : Nat} (h : n ≤ maxLen) : n < 2 ^ 63 := by simp only [maxLen] at h; omega
theorem u64_of {n : Int} (h : HasI .u64 n) : 0 ≤ n := by
  simp [HasI, Lit.wf, IntKind.min, IntKind.max, IntKind.bits, IntKind.signed] at h
  omega
theorem u8_of {n : Int} (h : HasI .u8 n) : 0 ≤ n ∧ n < 256 := by
  simp [HasI, Lit.wf, IntKind.min, IntKind.max, IntKind.bits, IntKind.signed] at h
  omega
theorem U8_of {n : Int} (h : 0 ≤ n ∧ n < 256) : D.i .u8 n = U8 (UInt8.ofNat n.toNat) := by
  unfold U8
  congr 1
  simp [UInt8.toNat_ofNat']
  omega
theorem bytes_of {n : Nat} {bs : List D} (hbs : ∀ y ∈ bs, ∃ zs, DTy tt (n + 1) 5 zs ∧ zs = [y]) : ∃ l : List UInt8, bs = l.map U8 := by
  obtain ⟨l, h, _⟩ := maps_of (f := U8) (p := fun _ => True) (ys := bs) fun y hy => by
    obtain ⟨zs, ⟨m, rfl, hm⟩, hz⟩ := hbs y hy
    cases hz
    exact ⟨_, U8_of (u8_of hm), trivial⟩
  exact ⟨l, h⟩
theorem pkt_of {n : Nat} {zs : List D} (h : DTy tt (n + 7) 28 zs) : ∃ p : Pkt, DLe (.agg zs) p.d := by
  obtain ⟨_, _, rfl, ⟨a, rfl, ha⟩, ⟨_, _, rfl, ⟨b, rfl, hb⟩, ⟨_, _, rfl, ⟨fbs, bs, rfl, lbs, hbs⟩, rfl⟩⟩⟩ := h
  obtain ⟨l, rfl⟩ := bytes_of (n := n + 4) hbs
  exact ⟨⟨a, b, l⟩, DLe.agg ⟨DLe.refl _, DLe.refl _, DLe.full _ _ _, rfl⟩⟩
theorem pair_of {n : Nat} {zs : List D} (h : DTy tt (n + 5) 55 zs) : ∃ q : Pair, D.agg zs = q.d := by
  obtain ⟨a, b, rfl, ⟨x, rfl, hx⟩, c, d, rfl, ⟨y, rfl, hy⟩, rfl⟩ := h
  exact ⟨⟨x, y⟩, rfl⟩
theorem pkts_of {n sz : Nat} {full : Bool} {ys : List D} (h : ∀ y ∈ ys, ∃ zs, DTy tt (n + 7) 28 zs ∧ y = .agg zs) : ∃ l : List Pkt, ys.length = l.length ∧ DLe (.sl sz full ys) (.sl sz false (l.map Pkt.d)) := by
  obtain ⟨l, h1, h2⟩ := les_of (f := Pkt.d) (ys := ys) fun y hy => by
    obtain ⟨zs, h1, rfl⟩ := h y hy
    obtain ⟨_, _, rfl, ⟨a, rfl, ha⟩, ⟨_, _, rfl, ⟨b, rfl, hb⟩, ⟨_, _, rfl, ⟨fbs, bs, rfl, lbs, hbs⟩, rfl⟩⟩⟩ := h1
    obtain ⟨l, rfl⟩ := bytes_of (n := n + 4) hbs
    exact ⟨⟨a, b, l⟩, DLe.refl _, DLe.refl _, DLe.full _ _ _, rfl⟩
  exact ⟨l, h1, (DLe.sl (full := full) ⟨by simp [h1], h2⟩).trans (DLe.full _ _ _)⟩
theorem net_of {n : Nat} {zs : List D} (h : DTy tt (n + 11) 25 zs) : ∃ m : Net, DLe (.agg zs) m.d ∧ Wid m := by
  obtain ⟨_, _, rfl, ⟨fq, q, rfl, lq, hq⟩, ⟨_, _, rfl, ⟨fa, a, rfl, la, ha⟩, rfl⟩⟩ := h
  obtain ⟨l, h1, h2⟩ := pkts_of (n := n + 2) (sz := 3) (full := fq) hq
  obtain ⟨r, h3, _⟩ := maps_of (f := Pair.d) (p := fun _ => True) (ys := a) fun y hy => by
    obtain ⟨zs, h4, rfl⟩ := ha y hy
    obtain ⟨q, hq⟩ := pair_of (n := n + 4) h4
    exact ⟨q, hq, trivial⟩
  subst h3
  refine ⟨⟨l, r⟩, DLe.agg ⟨h2, DLe.full _ _ _, rfl⟩, ?_, ?_⟩
  · rw [h1] at lq; exact max2 lq
  · rw [List.length_map] at la; exact max2 la
end Go.PM

