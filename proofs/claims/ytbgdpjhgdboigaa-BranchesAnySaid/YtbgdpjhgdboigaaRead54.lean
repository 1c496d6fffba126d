/- Typed data as structures: branchings. -/
import Derived.Test.YtbgdpjhgdboigaaL54a
import Derived.Test.YtbgdpjhgdboigaaPmClose
namespace Go.PM
open Go.Proofs
set_option maxRecDepth 10000

theorem maps_of {α : Type} {f : α → D} {p : α → Prop} : ∀ {ys : List D}, (∀ y ∈ ys, ∃ a, y = f a ∧ p a) → ∃ l : List α, ys = l.map f ∧ ∀ a ∈ l, p a
  | [], _ => ⟨[], rfl, by simp⟩
  | y :: ys, h => by
    obtain ⟨a, rfl, ha⟩ := h y (.head _)
    obtain ⟨l, rfl, hl⟩ := maps_of fun y hy => h y (.tail _ hy)
    refine ⟨a :: l, rfl, fun x hx => ?_⟩
    cases hx with
    | head => exact ha
    | tail _ hx => exact hl x hx

theorem fact_of {n : Nat} {zs : List D} (h : DTy tt (n + 7) 64 zs) : ∃ s : Fact, D.agg zs = s.d ∧ (HasI .i64 s.kind ∧ HasI .i64 s.subj ∧ HasI .i64 s.obj ∧ HasI .i64 s.value ∧ HasI .i64 s.from_ ∧ HasI .i64 s.to_ ∧ HasI .i64 s.known ∧ HasI .i64 s.no) := by
  obtain ⟨_, _, rfl, ⟨_, _, rfl, ⟨kind, rfl, hkind⟩, ⟨_, _, rfl, ⟨subj, rfl, hsubj⟩, ⟨_, _, rfl, ⟨obj, rfl, hobj⟩, rfl⟩⟩⟩, ⟨_, _, rfl, ⟨value, rfl, hvalue⟩, ⟨_, _, rfl, ⟨_, _, rfl, ⟨from_, rfl, hfrom_⟩, ⟨_, _, rfl, ⟨to_, rfl, hto_⟩, rfl⟩⟩, ⟨_, _, rfl, ⟨known, rfl, hknown⟩, ⟨_, _, rfl, ⟨no, rfl, hno⟩, rfl⟩⟩⟩⟩⟩ := h
  exact ⟨⟨kind, subj, obj, value, from_, to_, known, no⟩, rfl, hkind, hsubj, hobj, hvalue, hfrom_, hto_, hknown, hno⟩
theorem fact_ofs {n : Nat} {ys : List D} (h : ∀ y ∈ ys, ∃ zs, DTy tt (n + 7) 64 zs ∧ y = .agg zs) : ∃ l : List Fact, ys = l.map Fact.d ∧ ∀ s ∈ l, HasI .i64 s.kind ∧ HasI .i64 s.subj ∧ HasI .i64 s.obj ∧ HasI .i64 s.value ∧ HasI .i64 s.from_ ∧ HasI .i64 s.to_ ∧ HasI .i64 s.known ∧ HasI .i64 s.no :=
  maps_of fun y hy => by
    obtain ⟨zs, h1, rfl⟩ := h y hy
    exact fact_of h1


theorem chg_of {n : Nat} {zs : List D} (h : DTy tt (n + 7) 42 zs) : ∃ s : Chg, D.agg zs = s.d ∧ (HasI .i64 s.kind ∧ HasI .i64 s.subj ∧ HasI .i64 s.obj ∧ HasI .i64 s.value ∧ HasI .i64 s.from_ ∧ HasI .i64 s.to_) := by
  obtain ⟨_, _, rfl, ⟨_, _, rfl, ⟨kind, rfl, hkind⟩, ⟨_, _, rfl, ⟨subj, rfl, hsubj⟩, ⟨_, _, rfl, ⟨obj, rfl, hobj⟩, rfl⟩⟩⟩, ⟨_, _, rfl, ⟨value, rfl, hvalue⟩, ⟨_, _, rfl, ⟨_, _, rfl, ⟨from_, rfl, hfrom_⟩, ⟨_, _, rfl, ⟨to_, rfl, hto_⟩, rfl⟩⟩, rfl⟩⟩⟩ := h
  exact ⟨⟨kind, subj, obj, value, from_, to_⟩, rfl, hkind, hsubj, hobj, hvalue, hfrom_, hto_⟩
theorem chg_ofs {n : Nat} {ys : List D} (h : ∀ y ∈ ys, ∃ zs, DTy tt (n + 7) 42 zs ∧ y = .agg zs) : ∃ l : List Chg, ys = l.map Chg.d ∧ ∀ s ∈ l, HasI .i64 s.kind ∧ HasI .i64 s.subj ∧ HasI .i64 s.obj ∧ HasI .i64 s.value ∧ HasI .i64 s.from_ ∧ HasI .i64 s.to_ :=
  maps_of fun y hy => by
    obtain ⟨zs, h1, rfl⟩ := h y hy
    exact chg_of h1


theorem key_of {n : Nat} {zs : List D} (h : DTy tt (n + 7) 38 zs) : ∃ s : Key, D.agg zs = s.d ∧ (HasI .i64 s.kind ∧ HasI .i64 s.subj ∧ HasI .i64 s.obj) := by
  obtain ⟨_, _, rfl, ⟨kind, rfl, hkind⟩, ⟨_, _, rfl, ⟨subj, rfl, hsubj⟩, ⟨_, _, rfl, ⟨obj, rfl, hobj⟩, rfl⟩⟩⟩ := h
  exact ⟨⟨kind, subj, obj⟩, rfl, hkind, hsubj, hobj⟩
theorem key_ofs {n : Nat} {ys : List D} (h : ∀ y ∈ ys, ∃ zs, DTy tt (n + 7) 38 zs ∧ y = .agg zs) : ∃ l : List Key, ys = l.map Key.d ∧ ∀ s ∈ l, HasI .i64 s.kind ∧ HasI .i64 s.subj ∧ HasI .i64 s.obj :=
  maps_of fun y hy => by
    obtain ⟨zs, h1, rfl⟩ := h y hy
    exact key_of h1

theorem max2 {n : Nat} (h : n ≤ maxLen) : n < 2 ^ 63 := by simp only [maxLen] at h; omega
theorem ints_of {n : Nat} {ys : List D} (h : ∀ y ∈ ys, ∃ zs, DTy tt (n + 1) 3 zs ∧ zs = [y]) : ∃ l : List Int, ys = l.map I ∧ ∀ x ∈ l, HasI .i64 x :=
  maps_of fun y hy => by
    obtain ⟨zs, h1, rfl⟩ := h y hy
    obtain ⟨m, e, hm⟩ := h1
    cases e
    exact ⟨m, rfl, hm⟩
theorem bools_of {n : Nat} {ys : List D} (h : ∀ y ∈ ys, ∃ zs, DTy tt (n + 1) 4 zs ∧ zs = [y]) : ∃ l : List Bool, ys = l.map B ∧ ∀ x ∈ l, True :=
  maps_of fun y hy => by
    obtain ⟨_, ⟨b, rfl⟩, ⟨⟩⟩ := h y hy
    exact ⟨b, rfl, trivial⟩
theorem brs_of {n : Nat} {ys : List D} (h : ∀ y ∈ ys, ∃ zs, DTy tt (n + 9) 59 zs ∧ zs = [y]) : ∃ t : List (List Chg), ys.length = t.length ∧ (∀ l ∈ t, l.length < 2 ^ 63) ∧ ∀ full, DLe (.sl 1 full ys) (.sl 1 full (t.map brD)) := by
  have key : ∀ ys : List D, (∀ y ∈ ys, ∃ zs, DTy tt (n + 9) 59 zs ∧ zs = [y]) → ∃ t : List (List Chg), ys.length = t.length ∧ (∀ l ∈ t, l.length < 2 ^ 63) ∧ ∀ (j : Nat) (x y : D), ys[j]? = some x → (t.map brD)[j]? = some y → DLes x.cells y.cells := by
    intro ys
    induction ys with
    | nil => exact fun _ => ⟨[], rfl, by simp, by simp⟩
    | cons y ys ih =>
      intro h
      obtain ⟨zs, h1, rfl⟩ := h y (.head _)
      obtain ⟨full, bs, ⟨⟩, hbl, hb⟩ := h1
      obtain ⟨r, rfl, _⟩ := chg_ofs (n := n + 1) hb
      rw [List.length_map] at hbl
      obtain ⟨t, t1, t3, t2⟩ := ih fun y hy => h y (.tail _ hy)
      refine ⟨r :: t, by simp [t1], fun l hl => ?_, fun j x y hx hy => ?_⟩
      · cases hl with
        | head => exact max2 hbl
        | tail _ hl => exact t3 l hl
      · cases j with
        | zero => cases hx; cases hy; exact ⟨DLe.full _ _ _, rfl⟩
        | succ j => exact t2 j x y hx hy
  obtain ⟨t, t1, t3, t2⟩ := key ys h
  exact ⟨t, t1, t3, fun full => DLe.sl ⟨by simp [t1], t2⟩⟩
theorem brn_of {n : Nat} {zs : List D} (h : DTy tt (n + 11) 27 zs) : ∃ x : Brn, DLe (.agg zs) x.d ∧ x.typed := by
  obtain ⟨_, _, rfl, ⟨fba, ba, rfl, lba, hba⟩, ⟨_, _, rfl, ⟨fbr, br, rfl, lbr, hbr⟩, ⟨_, _, rfl, ⟨fpa, pa, rfl, lpa, hpa⟩, ⟨_, _, rfl, ⟨ffo, fo, rfl, lfo, hfo⟩, ⟨_, _, rfl, ⟨fdn, dn, rfl, ldn, hdn⟩, rfl⟩⟩⟩⟩⟩ := h
  obtain ⟨b, rfl, _⟩ := fact_ofs hba
  obtain ⟨r, rl, rc, hr⟩ := brs_of (n := n) hbr
  obtain ⟨p, rfl, _⟩ := ints_of (n := n + 8) hpa
  obtain ⟨f, rfl, _⟩ := ints_of (n := n + 8) hfo
  obtain ⟨d, rfl, _⟩ := bools_of (n := n + 8) hdn
  rw [List.length_map] at lba lpa lfo ldn
  exact ⟨⟨b, r, p, f, d⟩, DLe.agg ⟨DLe.full _ _ _, (hr _).trans (DLe.full _ _ _), DLe.full _ _ _, DLe.full _ _ _, DLe.full _ _ _, rfl⟩, ⟨max2 lba, by show r.length < 2 ^ 63; rw [← rl]; exact max2 lbr, max2 lpa, max2 lfo, max2 ldn, rc⟩⟩
end Go.PM

