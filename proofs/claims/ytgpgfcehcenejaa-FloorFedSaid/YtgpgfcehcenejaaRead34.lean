/- Typed data as structures: histories. -/
import Derived.Test.YtgpgfcehcenejaaW34b
import Derived.Test.YtgpgfcehcenejaaPmClose
namespace Go.PM
open Go.Proofs
set_option maxRecDepth 10000

theorem maps_of {α : Type} {f : α → D} {p : α → Prop} : ∀ {ys : List D}, (∀ y ∈ ys, ∃ a, y = f a ∧ p a) → ∃ l : List α, ys = l.map f ∧ ∀ a ∈ l, p a
  | [], _ => ⟨[], rfl, by simp⟩
  | y :: ys, h => by
    obtain ⟨a, rfl, ha⟩ := h y (.head _)
    obtain ⟨l, rfl, hl⟩ := maps_of fun y hy => h y (.tail _ hy)
    refine ⟨a :: l, rfl, fun x hx => ?_⟩
    cases hx with
    | head => exact ha
    | tail _ hx => exact hl x hx

theorem flow_of {n : Nat} {zs : List D} (h : DTy tt (n + 7) 38 zs) : ∃ s : Flow, D.agg zs = s.d ∧ (HasI .i64 s.kind ∧ HasI .i64 s.per ∧ HasI .i64 s.src ∧ HasI .i64 s.dst ∧ HasI .i64 s.amt ∧ HasI .i64 s.label) := by
  obtain ⟨_, _, rfl, ⟨kind, rfl, hkind⟩, ⟨_, _, rfl, ⟨per, rfl, hper⟩, ⟨_, _, rfl, ⟨src, rfl, hsrc⟩, ⟨_, _, rfl, ⟨dst, rfl, hdst⟩, ⟨_, _, rfl, ⟨amt, rfl, hamt⟩, ⟨_, _, rfl, ⟨label, rfl, hlabel⟩, rfl⟩⟩⟩⟩⟩⟩ := h
  exact ⟨⟨kind, per, src, dst, amt, label⟩, rfl, hkind, hper, hsrc, hdst, hamt, hlabel⟩
theorem flow_ofs {n : Nat} {ys : List D} (h : ∀ y ∈ ys, ∃ zs, DTy tt (n + 7) 38 zs ∧ y = .agg zs) : ∃ l : List Flow, ys = l.map Flow.d ∧ ∀ s ∈ l, HasI .i64 s.kind ∧ HasI .i64 s.per ∧ HasI .i64 s.src ∧ HasI .i64 s.dst ∧ HasI .i64 s.amt ∧ HasI .i64 s.label :=
  maps_of fun y hy => by
    obtain ⟨zs, h1, rfl⟩ := h y hy
    exact flow_of h1

theorem i64_of {n : Int} (h : HasI .i64 n) : -9223372036854775808 ≤ n ∧ n ≤ 9223372036854775807 := by
  simp [HasI, Lit.wf, IntKind.min, IntKind.max, IntKind.bits, IntKind.signed] at h
  omega
theorem u8_of {n : Int} (h : HasI .u8 n) : 0 ≤ n ∧ n < 256 := by
  simp [HasI, Lit.wf, IntKind.min, IntKind.max, IntKind.bits, IntKind.signed] at h
  omega
theorem u16_of {n : Int} (h : HasI .u16 n) : 0 ≤ n ∧ n < 65536 := by
  simp [HasI, Lit.wf, IntKind.min, IntKind.max, IntKind.bits, IntKind.signed] at h
  omega
theorem max2 {n : Nat} (h : n ≤ maxLen) : n < 2 ^ 63 := by simp only [maxLen] at h; omega
theorem ints_of {n : Nat} {ys : List D} (h : ∀ y ∈ ys, ∃ zs, DTy tt (n + 1) 3 zs ∧ zs = [y]) : ∃ l : List Int, ys = l.map I ∧ ∀ x ∈ l, HasI .i64 x :=
  maps_of fun y hy => by
    obtain ⟨zs, h1, rfl⟩ := h y hy
    obtain ⟨m, e, hm⟩ := h1
    cases e
    exact ⟨m, rfl, hm⟩
theorem hist_of {n : Nat} {zs : List D} (h : DTy tt (n + 11) 25 zs) : ∃ x : Hist, DLe (.agg zs) x.d ∧ WidH x ∧ (-9223372036854775808 ≤ x.per ∧ x.per ≤ 9223372036854775807) ∧ (∀ m ∈ x.op, -9223372036854775808 ≤ m ∧ m ≤ 9223372036854775807) := by
  obtain ⟨_, _, rfl, ⟨fop, op, rfl, lop, hop⟩, ⟨_, _, rfl, ⟨per, rfl, hper⟩, ⟨_, _, rfl, ⟨ffl, fl, rfl, lfl, hfl⟩, rfl⟩⟩⟩ := h
  obtain ⟨o, rfl, ho⟩ := ints_of (n := n + 8) hop
  obtain ⟨f, rfl, hf⟩ := flow_ofs hfl
  rw [List.length_map] at lop lfl
  exact ⟨⟨o, per, f⟩, DLe.agg ⟨DLe.full _ _ _, DLe.refl _, DLe.full _ _ _, rfl⟩, ⟨max2 lop, max2 lfl⟩, i64_of hper, fun m hm => i64_of (ho m hm)⟩
end Go.PM

