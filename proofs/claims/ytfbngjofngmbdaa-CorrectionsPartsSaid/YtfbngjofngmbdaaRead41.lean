/- Typed data as structures: worlds, corrections. -/
import Derived.Test.YtfbngjofngmbdaaC41c
import Derived.Test.YtfbngjofngmbdaaPmClose
namespace Go.PM
open Go.Proofs
set_option maxRecDepth 10000

theorem maps_of {α : Type} {f : α → D} {p : α → Prop} : ∀ {ys : List D}, (∀ y ∈ ys, ∃ a, y = f a ∧ p a) → ∃ l : List α, ys = l.map f ∧ ∀ a ∈ l, p a
  | [], _ => ⟨[], rfl, by simp⟩
  | y :: ys, h => by
    obtain ⟨a, rfl, ha⟩ := h y (.head _)
    obtain ⟨l, rfl, hl⟩ := maps_of fun y hy => h y (.tail _ hy)
    refine ⟨a :: l, rfl, fun x hx => ?_⟩
    cases hx with
    | head => exact ha
    | tail _ hx => exact hl x hx

theorem fact_of {n : Nat} {zs : List D} (h : DTy tt (n + 7) 61 zs) : ∃ s : Fact, D.agg zs = s.d ∧ (HasI .i64 s.kind ∧ HasI .i64 s.subj ∧ HasI .i64 s.obj ∧ HasI .i64 s.value ∧ HasI .i64 s.from_ ∧ HasI .i64 s.to_ ∧ HasI .i64 s.known ∧ HasI .i64 s.no) := by
  obtain ⟨_, _, rfl, ⟨_, _, rfl, ⟨kind, rfl, hkind⟩, ⟨_, _, rfl, ⟨subj, rfl, hsubj⟩, ⟨_, _, rfl, ⟨obj, rfl, hobj⟩, rfl⟩⟩⟩, ⟨_, _, rfl, ⟨value, rfl, hvalue⟩, ⟨_, _, rfl, ⟨_, _, rfl, ⟨from_, rfl, hfrom_⟩, ⟨_, _, rfl, ⟨to_, rfl, hto_⟩, rfl⟩⟩, ⟨_, _, rfl, ⟨known, rfl, hknown⟩, ⟨_, _, rfl, ⟨no, rfl, hno⟩, rfl⟩⟩⟩⟩⟩ := h
  exact ⟨⟨kind, subj, obj, value, from_, to_, known, no⟩, rfl, hkind, hsubj, hobj, hvalue, hfrom_, hto_, hknown, hno⟩
theorem fact_ofs {n : Nat} {ys : List D} (h : ∀ y ∈ ys, ∃ zs, DTy tt (n + 7) 61 zs ∧ y = .agg zs) : ∃ l : List Fact, ys = l.map Fact.d ∧ ∀ s ∈ l, HasI .i64 s.kind ∧ HasI .i64 s.subj ∧ HasI .i64 s.obj ∧ HasI .i64 s.value ∧ HasI .i64 s.from_ ∧ HasI .i64 s.to_ ∧ HasI .i64 s.known ∧ HasI .i64 s.no :=
  maps_of fun y hy => by
    obtain ⟨zs, h1, rfl⟩ := h y hy
    exact fact_of h1


theorem corr_of {n : Nat} {zs : List D} (h : DTy tt (n + 7) 57 zs) : ∃ s : Corr, D.agg zs = s.d ∧ (HasI .i64 s.kind ∧ HasI .i64 s.subj ∧ HasI .i64 s.obj ∧ HasI .i64 s.value ∧ HasI .i64 s.from_ ∧ HasI .i64 s.to_) := by
  obtain ⟨_, _, rfl, ⟨_, _, rfl, ⟨kind, rfl, hkind⟩, ⟨_, _, rfl, ⟨subj, rfl, hsubj⟩, ⟨_, _, rfl, ⟨obj, rfl, hobj⟩, rfl⟩⟩⟩, ⟨_, _, rfl, ⟨value, rfl, hvalue⟩, ⟨_, _, rfl, ⟨_, _, rfl, ⟨from_, rfl, hfrom_⟩, ⟨_, _, rfl, ⟨to_, rfl, hto_⟩, rfl⟩⟩, rfl⟩⟩⟩ := h
  exact ⟨⟨kind, subj, obj, value, from_, to_⟩, rfl, hkind, hsubj, hobj, hvalue, hfrom_, hto_⟩
theorem corr_ofs {n : Nat} {ys : List D} (h : ∀ y ∈ ys, ∃ zs, DTy tt (n + 7) 57 zs ∧ y = .agg zs) : ∃ l : List Corr, ys = l.map Corr.d ∧ ∀ s ∈ l, HasI .i64 s.kind ∧ HasI .i64 s.subj ∧ HasI .i64 s.obj ∧ HasI .i64 s.value ∧ HasI .i64 s.from_ ∧ HasI .i64 s.to_ :=
  maps_of fun y hy => by
    obtain ⟨zs, h1, rfl⟩ := h y hy
    exact corr_of h1

theorem i64_of {n : Int} (h : HasI .i64 n) : -9223372036854775808 ≤ n ∧ n ≤ 9223372036854775807 := by
  simp [HasI, Lit.wf, IntKind.min, IntKind.max, IntKind.bits, IntKind.signed] at h
  omega
theorem u64_of {n : Int} (h : HasI .u64 n) : 0 ≤ n := by
  simp [HasI, Lit.wf, IntKind.min, IntKind.max, IntKind.bits, IntKind.signed] at h
  omega
theorem u8_of {n : Int} (h : HasI .u8 n) : 0 ≤ n ∧ n < 256 := by
  simp [HasI, Lit.wf, IntKind.min, IntKind.max, IntKind.bits, IntKind.signed] at h
  omega
theorem max2 {n : Nat} (h : n ≤ maxLen) : n < 2 ^ 63 := by simp only [maxLen] at h; omega
theorem world_of {n : Nat} {zs : List D} (h : DTy tt (n + 11) 38 zs) : ∃ w : CWorld, DLe (.agg zs) w.d ∧ w.facts.length < 2 ^ 63 := by
  obtain ⟨_, _, rfl, ⟨_, _, rfl, ⟨_, _, rfl, ⟨fu1, u1, rfl, lu1, hu1⟩, ⟨_, _, rfl, ⟨fu2, u2, rfl, lu2, hu2⟩, ⟨_, _, rfl, ⟨fu3, u3, rfl, lu3, hu3⟩, ⟨_, _, rfl, ⟨fu4, u4, rfl, lu4, hu4⟩, ⟨_, _, rfl, ⟨fu5, u5, rfl, lu5, hu5⟩, ⟨_, _, rfl, ⟨fu6, u6, rfl, lu6, hu6⟩, ⟨_, _, rfl, ⟨fu7, u7, rfl, lu7, hu7⟩, ⟨_, _, rfl, ⟨fu8, u8, rfl, lu8, hu8⟩, rfl⟩⟩⟩⟩⟩⟩⟩⟩, ⟨_, _, rfl, ⟨fu9, u9, rfl, lu9, hu9⟩, ⟨_, _, rfl, ⟨fu10, u10, rfl, lu10, hu10⟩, rfl⟩⟩⟩, ⟨_, _, rfl, ⟨ffa, fa, rfl, lfa, hfa⟩, rfl⟩⟩ := h
  obtain ⟨facts, rfl, hfc⟩ := fact_ofs hfa
  refine ⟨⟨.sl _ fu1 u1, .sl _ fu2 u2, .sl _ fu3 u3, .sl _ fu4 u4, .sl _ fu5 u5, .sl _ fu6 u6, .sl _ fu7 u7, .sl _ fu8 u8, .sl _ fu9 u9, .sl _ fu10 u10, facts⟩,
    DLe.agg ⟨DLe.refl _, DLe.refl _, DLe.refl _, DLe.refl _, DLe.refl _, DLe.refl _, DLe.refl _, DLe.refl _, DLe.refl _, DLe.refl _, DLe.full _ _ _, rfl⟩, ?_⟩
  rw [List.length_map] at lfa
  exact max2 lfa
end Go.PM

