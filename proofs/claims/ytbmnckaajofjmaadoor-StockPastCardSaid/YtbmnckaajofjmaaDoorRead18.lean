/- Typed data as structures, for law 18. -/
import Derived.Test.YtbmnckaajofjmaaDoorS18s
import Derived.Test.YtbmnckaajofjmaaDoorPmClose
namespace Go.PM
open Go.Proofs
set_option maxRecDepth 10000

theorem maps_of {α : Type} {f : α → D} {p : α → Prop} : ∀ {ys : List D}, (∀ y ∈ ys, ∃ a, y = f a ∧ p a) → ∃ l : List α, ys = l.map f ∧ ∀ a ∈ l, p a
  | [], _ => ⟨[], rfl, by simp⟩
  | y :: ys, h => by
    obtain ⟨a, rfl, ha⟩ := h y (.head _)
    obtain ⟨l, rfl, hl⟩ := maps_of fun y hy => h y (.tail _ hy)
    refine ⟨a :: l, rfl, fun x hx => ?_⟩
    cases hx with
    | head => exact ha
    | tail _ hx => exact hl x hx

theorem fact_of {n : Nat} {zs : List D} (h : DTy tt (n + 7) 75 zs) : ∃ s : Fact, D.agg zs = s.d ∧ (HasI .i64 s.kind ∧ HasI .i64 s.subj ∧ HasI .i64 s.obj ∧ HasI .i64 s.value ∧ HasI .i64 s.from_ ∧ HasI .i64 s.to_ ∧ HasI .i64 s.known ∧ HasI .i64 s.no) := by
  obtain ⟨_, _, rfl, ⟨_, _, rfl, ⟨kind, rfl, hkind⟩, ⟨_, _, rfl, ⟨subj, rfl, hsubj⟩, ⟨_, _, rfl, ⟨obj, rfl, hobj⟩, rfl⟩⟩⟩, ⟨_, _, rfl, ⟨value, rfl, hvalue⟩, ⟨_, _, rfl, ⟨_, _, rfl, ⟨from_, rfl, hfrom_⟩, ⟨_, _, rfl, ⟨to_, rfl, hto_⟩, rfl⟩⟩, ⟨_, _, rfl, ⟨known, rfl, hknown⟩, ⟨_, _, rfl, ⟨no, rfl, hno⟩, rfl⟩⟩⟩⟩⟩ := h
  exact ⟨⟨kind, subj, obj, value, from_, to_, known, no⟩, rfl, hkind, hsubj, hobj, hvalue, hfrom_, hto_, hknown, hno⟩
theorem fact_ofs {n : Nat} {ys : List D} (h : ∀ y ∈ ys, ∃ zs, DTy tt (n + 7) 75 zs ∧ y = .agg zs) : ∃ l : List Fact, ys = l.map Fact.d ∧ ∀ s ∈ l, HasI .i64 s.kind ∧ HasI .i64 s.subj ∧ HasI .i64 s.obj ∧ HasI .i64 s.value ∧ HasI .i64 s.from_ ∧ HasI .i64 s.to_ ∧ HasI .i64 s.known ∧ HasI .i64 s.no :=
  maps_of fun y hy => by
    obtain ⟨zs, h1, rfl⟩ := h y hy
    exact fact_of h1


theorem swap_of {n : Nat} {zs : List D} (h : DTy tt (n + 7) 178 zs) : ∃ s : Swap, D.agg zs = s.d ∧ (HasI .i64 s.ano ∧ HasI .i64 s.bno) := by
  obtain ⟨_, _, rfl, ⟨a, rfl⟩, ⟨_, _, rfl, ⟨b, rfl⟩, ⟨_, _, rfl, ⟨ano, rfl, hano⟩, ⟨_, _, rfl, ⟨bno, rfl, hbno⟩, rfl⟩⟩⟩⟩ := h
  exact ⟨⟨a, b, ano, bno⟩, rfl, hano, hbno⟩
theorem swap_ofs {n : Nat} {ys : List D} (h : ∀ y ∈ ys, ∃ zs, DTy tt (n + 7) 178 zs ∧ y = .agg zs) : ∃ l : List Swap, ys = l.map Swap.d ∧ ∀ s ∈ l, HasI .i64 s.ano ∧ HasI .i64 s.bno :=
  maps_of fun y hy => by
    obtain ⟨zs, h1, rfl⟩ := h y hy
    exact swap_of h1


theorem lot_of {n : Nat} {zs : List D} (h : DTy tt (n + 7) 44 zs) : ∃ s : Lot, D.agg zs = s.d ∧ (HasI .i64 s.no ∧ HasI .i64 s.item ∧ HasI .i64 s.plant ∧ HasI .i64 s.amount ∧ HasI .i64 s.expiry ∧ HasI .i64 s.state) := by
  obtain ⟨_, _, rfl, ⟨no, rfl, hno⟩, ⟨_, _, rfl, ⟨item, rfl, hitem⟩, ⟨_, _, rfl, ⟨plant, rfl, hplant⟩, ⟨_, _, rfl, ⟨amount, rfl, hamount⟩, ⟨_, _, rfl, ⟨expiry, rfl, hexpiry⟩, ⟨_, _, rfl, ⟨state, rfl, hstate⟩, rfl⟩⟩⟩⟩⟩⟩ := h
  exact ⟨⟨no, item, plant, amount, expiry, state⟩, rfl, hno, hitem, hplant, hamount, hexpiry, hstate⟩
theorem lot_ofs {n : Nat} {ys : List D} (h : ∀ y ∈ ys, ∃ zs, DTy tt (n + 7) 44 zs ∧ y = .agg zs) : ∃ l : List Lot, ys = l.map Lot.d ∧ ∀ s ∈ l, HasI .i64 s.no ∧ HasI .i64 s.item ∧ HasI .i64 s.plant ∧ HasI .i64 s.amount ∧ HasI .i64 s.expiry ∧ HasI .i64 s.state :=
  maps_of fun y hy => by
    obtain ⟨zs, h1, rfl⟩ := h y hy
    exact lot_of h1


theorem line_of {n : Nat} {zs : List D} (h : DTy tt (n + 7) 40 zs) : ∃ s : Line, D.agg zs = s.d ∧ (HasI .i64 s.item ∧ HasI .i64 s.plant ∧ HasI .i64 s.config) := by
  obtain ⟨_, _, rfl, ⟨item, rfl, hitem⟩, ⟨_, _, rfl, ⟨plant, rfl, hplant⟩, ⟨_, _, rfl, ⟨config, rfl, hconfig⟩, rfl⟩⟩⟩ := h
  exact ⟨⟨item, plant, config⟩, rfl, hitem, hplant, hconfig⟩
theorem line_ofs {n : Nat} {ys : List D} (h : ∀ y ∈ ys, ∃ zs, DTy tt (n + 7) 40 zs ∧ y = .agg zs) : ∃ l : List Line, ys = l.map Line.d ∧ ∀ s ∈ l, HasI .i64 s.item ∧ HasI .i64 s.plant ∧ HasI .i64 s.config :=
  maps_of fun y hy => by
    obtain ⟨zs, h1, rfl⟩ := h y hy
    exact line_of h1

theorem i64_of {n : Int} (h : HasI .i64 n) : -9223372036854775808 ≤ n ∧ n ≤ 9223372036854775807 := by
  simp [HasI, Lit.wf, IntKind.min, IntKind.max, IntKind.bits, IntKind.signed] at h
  omega
theorem ints_of {n : Nat} {ys : List D} (h : ∀ y ∈ ys, ∃ zs, DTy tt (n + 1) 3 zs ∧ zs = [y]) : ∃ l : List Int, ys = l.map I ∧ ∀ x ∈ l, HasI .i64 x :=
  maps_of fun y hy => by
    obtain ⟨zs, h1, rfl⟩ := h y hy
    obtain ⟨m, e, hm⟩ := h1
    cases e
    exact ⟨m, rfl, hm⟩
theorem world_of {n : Nat} {zs : List D} (h : DTy tt (n + 11) 38 zs) : ∃ w : AWorld, DLe (.agg zs) w.d ∧ w.wide ∧ w.facts.length < 2 ^ 63 ∧ ∃ sz f xs, w.u2 = .sl sz f xs := by
  obtain ⟨_, _, rfl, ⟨_, _, rfl, ⟨_, _, rfl, ⟨fu1, u1, rfl, lu1, hu1⟩, ⟨_, _, rfl, ⟨fu2, u2, rfl, lu2, hu2⟩, ⟨_, _, rfl, ⟨fu3, u3, rfl, lu3, hu3⟩, ⟨_, _, rfl, ⟨fu4, u4, rfl, lu4, hu4⟩, ⟨_, _, rfl, ⟨fu5, u5, rfl, lu5, hu5⟩, ⟨_, _, rfl, ⟨fu6, u6, rfl, lu6, hu6⟩, ⟨_, _, rfl, ⟨fu7, u7, rfl, lu7, hu7⟩, ⟨_, _, rfl, ⟨fsw, sw, rfl, lsw, hsw⟩, rfl⟩⟩⟩⟩⟩⟩⟩⟩, ⟨_, _, rfl, ⟨fu9, u9, rfl, lu9, hu9⟩, ⟨_, _, rfl, ⟨fu10, u10, rfl, lu10, hu10⟩, rfl⟩⟩⟩, ⟨_, _, rfl, ⟨ffa, fa, rfl, lfa, hfa⟩, rfl⟩⟩ := h
  obtain ⟨swaps, rfl, _⟩ := swap_ofs hsw
  obtain ⟨facts, rfl, hfc⟩ := fact_ofs hfa
  exact ⟨⟨.sl _ fu1 u1, .sl _ fu2 u2, .sl _ fu3 u3, .sl _ fu4 u4, .sl _ fu5 u5, .sl _ fu6 u6, .sl _ fu7 u7, swaps, .sl _ fu9 u9, .sl _ fu10 u10, facts⟩,
    DLe.agg ⟨DLe.refl _, DLe.refl _, DLe.refl _, DLe.refl _, DLe.refl _, DLe.refl _, DLe.refl _, DLe.full _ _ _, DLe.refl _, DLe.refl _, DLe.full _ _ _, rfl⟩, fun f hf => (i64_of (hfc f hf).2.2.2.1).2,
    by have : facts.length ≤ 2 ^ 63 - 1 := by (have := lfa; rw [List.length_map] at this; exact this)
       simp only; omega, _, _, _, rfl⟩
theorem span_of {n : Nat} {zs : List D} (h : DTy tt (n + 7) 56 zs) : ∃ a b : Int, D.agg zs = spanD a b := by
  obtain ⟨_, _, rfl, ⟨a, rfl, ha⟩, ⟨_, _, rfl, ⟨b, rfl, hb⟩, rfl⟩⟩ := h
  exact ⟨a, b, rfl⟩
end Go.PM

