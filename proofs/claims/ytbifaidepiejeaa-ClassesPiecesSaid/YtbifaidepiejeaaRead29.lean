/- Typed data as structures. -/
import Derived.Test.YtbifaidepiejeaaBase
import Derived.Test.YtbifaidepiejeaaPmClose
namespace Go.PM
open Go.Proofs
set_option maxRecDepth 10000

theorem maps_of {α : Type} {f : α → D} {p : α → Prop} : ∀ {ys : List D}, (∀ y ∈ ys, ∃ a, y = f a ∧ p a) → ∃ l : List α, ys = l.map f ∧ ∀ a ∈ l, p a
  | [], _ => ⟨[], rfl, by simp⟩
  | y :: ys, h => by
    obtain ⟨a, rfl, ha⟩ := h y (.head _)
    obtain ⟨l, rfl, hl⟩ := maps_of fun y hy => h y (.tail _ hy)
    refine ⟨a :: l, rfl, fun x hx => ?_⟩
    cases hx with
    | head => exact ha
    | tail _ hx => exact hl x hx

theorem supply_of {n : Nat} {zs : List D} (h : DTy tt (n + 7) 51 zs) : ∃ s : Supply, D.agg zs = s.d ∧ (HasI .i64 s.no ∧ HasI .i64 s.item ∧ HasI .i64 s.plant ∧ HasI .i64 s.ready ∧ HasI .i64 s.expiry ∧ HasI .i64 s.amount) := by
  obtain ⟨_, _, rfl, ⟨no, rfl, hno⟩, ⟨_, _, rfl, ⟨item, rfl, hitem⟩, ⟨_, _, rfl, ⟨plant, rfl, hplant⟩, ⟨_, _, rfl, ⟨ready, rfl, hready⟩, ⟨_, _, rfl, ⟨expiry, rfl, hexpiry⟩, ⟨_, _, rfl, ⟨amount, rfl, hamount⟩, rfl⟩⟩⟩⟩⟩⟩ := h
  exact ⟨⟨no, item, plant, ready, expiry, amount⟩, rfl, hno, hitem, hplant, hready, hexpiry, hamount⟩
theorem supply_ofs {n : Nat} {ys : List D} (h : ∀ y ∈ ys, ∃ zs, DTy tt (n + 7) 51 zs ∧ y = .agg zs) : ∃ l : List Supply, ys = l.map Supply.d ∧ ∀ s ∈ l, HasI .i64 s.no ∧ HasI .i64 s.item ∧ HasI .i64 s.plant ∧ HasI .i64 s.ready ∧ HasI .i64 s.expiry ∧ HasI .i64 s.amount :=
  maps_of fun y hy => by
    obtain ⟨zs, h1, rfl⟩ := h y hy
    exact supply_of h1


theorem request_of {n : Nat} {zs : List D} (h : DTy tt (n + 7) 53 zs) : ∃ s : Request, D.agg zs = s.d ∧ (HasI .i64 s.no ∧ HasI .i64 s.item ∧ HasI .i64 s.cust ∧ HasI .i64 s.due ∧ HasI .i64 s.shelf ∧ HasI .i64 s.amount) := by
  obtain ⟨_, _, rfl, ⟨no, rfl, hno⟩, ⟨_, _, rfl, ⟨item, rfl, hitem⟩, ⟨_, _, rfl, ⟨cust, rfl, hcust⟩, ⟨_, _, rfl, ⟨due, rfl, hdue⟩, ⟨_, _, rfl, ⟨shelf, rfl, hshelf⟩, ⟨_, _, rfl, ⟨amount, rfl, hamount⟩, rfl⟩⟩⟩⟩⟩⟩ := h
  exact ⟨⟨no, item, cust, due, shelf, amount⟩, rfl, hno, hitem, hcust, hdue, hshelf, hamount⟩
theorem request_ofs {n : Nat} {ys : List D} (h : ∀ y ∈ ys, ∃ zs, DTy tt (n + 7) 53 zs ∧ y = .agg zs) : ∃ l : List Request, ys = l.map Request.d ∧ ∀ s ∈ l, HasI .i64 s.no ∧ HasI .i64 s.item ∧ HasI .i64 s.cust ∧ HasI .i64 s.due ∧ HasI .i64 s.shelf ∧ HasI .i64 s.amount :=
  maps_of fun y hy => by
    obtain ⟨zs, h1, rfl⟩ := h y hy
    exact request_of h1


theorem fact_of {n : Nat} {zs : List D} (h : DTy tt (n + 7) 98 zs) : ∃ s : Fact, D.agg zs = s.d ∧ (HasI .i64 s.kind ∧ HasI .i64 s.subj ∧ HasI .i64 s.obj ∧ HasI .i64 s.value ∧ HasI .i64 s.from_ ∧ HasI .i64 s.to_ ∧ HasI .i64 s.known ∧ HasI .i64 s.no) := by
  obtain ⟨_, _, rfl, ⟨_, _, rfl, ⟨kind, rfl, hkind⟩, ⟨_, _, rfl, ⟨subj, rfl, hsubj⟩, ⟨_, _, rfl, ⟨obj, rfl, hobj⟩, rfl⟩⟩⟩, ⟨_, _, rfl, ⟨value, rfl, hvalue⟩, ⟨_, _, rfl, ⟨_, _, rfl, ⟨from_, rfl, hfrom_⟩, ⟨_, _, rfl, ⟨to_, rfl, hto_⟩, rfl⟩⟩, ⟨_, _, rfl, ⟨known, rfl, hknown⟩, ⟨_, _, rfl, ⟨no, rfl, hno⟩, rfl⟩⟩⟩⟩⟩ := h
  exact ⟨⟨kind, subj, obj, value, from_, to_, known, no⟩, rfl, hkind, hsubj, hobj, hvalue, hfrom_, hto_, hknown, hno⟩
theorem fact_ofs {n : Nat} {ys : List D} (h : ∀ y ∈ ys, ∃ zs, DTy tt (n + 7) 98 zs ∧ y = .agg zs) : ∃ l : List Fact, ys = l.map Fact.d ∧ ∀ s ∈ l, HasI .i64 s.kind ∧ HasI .i64 s.subj ∧ HasI .i64 s.obj ∧ HasI .i64 s.value ∧ HasI .i64 s.from_ ∧ HasI .i64 s.to_ ∧ HasI .i64 s.known ∧ HasI .i64 s.no :=
  maps_of fun y hy => by
    obtain ⟨zs, h1, rfl⟩ := h y hy
    exact fact_of h1


theorem swap_of {n : Nat} {zs : List D} (h : DTy tt (n + 7) 72 zs) : ∃ s : Swap, D.agg zs = s.d ∧ (HasI .i64 s.ano ∧ HasI .i64 s.bno) := by
  obtain ⟨_, _, rfl, ⟨a, rfl⟩, ⟨_, _, rfl, ⟨b, rfl⟩, ⟨_, _, rfl, ⟨ano, rfl, hano⟩, ⟨_, _, rfl, ⟨bno, rfl, hbno⟩, rfl⟩⟩⟩⟩ := h
  exact ⟨⟨a, b, ano, bno⟩, rfl, hano, hbno⟩
theorem swap_ofs {n : Nat} {ys : List D} (h : ∀ y ∈ ys, ∃ zs, DTy tt (n + 7) 72 zs ∧ y = .agg zs) : ∃ l : List Swap, ys = l.map Swap.d ∧ ∀ s ∈ l, HasI .i64 s.ano ∧ HasI .i64 s.bno :=
  maps_of fun y hy => by
    obtain ⟨zs, h1, rfl⟩ := h y hy
    exact swap_of h1

def AWorld.flat (w : AWorld) : Prop := w.u1.flat = true ∧ w.u2.flat = true ∧ w.u3.flat = true ∧ w.u4.flat = true ∧ w.u5.flat = true ∧ w.u6.flat = true ∧ w.u7.flat = true ∧ w.u9.flat = true ∧ w.u10.flat = true
theorem world_of {n : Nat} {zs : List D} (h : DTy tt (n + 11) 38 zs) : ∃ w : AWorld, DLe (.agg zs) w.d ∧ w.flat := by
  obtain ⟨_, _, rfl, ⟨_, _, rfl, ⟨_, _, rfl, ⟨fu1, u1, rfl, lu1, hu1⟩, ⟨_, _, rfl, ⟨fu2, u2, rfl, lu2, hu2⟩, ⟨_, _, rfl, ⟨fu3, u3, rfl, lu3, hu3⟩, ⟨_, _, rfl, ⟨fu4, u4, rfl, lu4, hu4⟩, ⟨_, _, rfl, ⟨fu5, u5, rfl, lu5, hu5⟩, ⟨_, _, rfl, ⟨fu6, u6, rfl, lu6, hu6⟩, ⟨_, _, rfl, ⟨fu7, u7, rfl, lu7, hu7⟩, ⟨_, _, rfl, ⟨fsw, sw, rfl, lsw, hsw⟩, rfl⟩⟩⟩⟩⟩⟩⟩⟩, ⟨_, _, rfl, ⟨fu9, u9, rfl, lu9, hu9⟩, ⟨_, _, rfl, ⟨fu10, u10, rfl, lu10, hu10⟩, rfl⟩⟩⟩, ⟨_, _, rfl, ⟨ffa, fa, rfl, lfa, hfa⟩, rfl⟩⟩ := h
  obtain ⟨swaps, rfl, _⟩ := swap_ofs hsw
  obtain ⟨facts, rfl, _⟩ := fact_ofs hfa
  exact ⟨⟨.sl _ fu1 u1, .sl _ fu2 u2, .sl _ fu3 u3, .sl _ fu4 u4, .sl _ fu5 u5, .sl _ fu6 u6, .sl _ fu7 u7, swaps, .sl _ fu9 u9, .sl _ fu10 u10, facts⟩,
    DLe.agg ⟨DLe.refl _, DLe.refl _, DLe.refl _, DLe.refl _, DLe.refl _, DLe.refl _, DLe.refl _, DLe.full _ _ _, DLe.refl _, DLe.refl _, DLe.full _ _ _, rfl⟩, rfl, rfl, rfl, rfl, rfl, rfl, rfl, rfl, rfl⟩
theorem rows_of {n : Nat} {ys : List D} (h : ∀ y ∈ ys, ∃ zs, DTy tt (n + 3) 64 zs ∧ zs = [y]) : ∃ t : List (List Bool), ys.length = t.length ∧ ∀ full, DLe (.sl 1 full ys) (.sl 1 full (t.map fun r => SL 1 (r.map B))) := by
  have key : ∀ ys : List D, (∀ y ∈ ys, ∃ zs, DTy tt (n + 3) 64 zs ∧ zs = [y]) → ∃ t : List (List Bool), ys.length = t.length ∧ ∀ (j : Nat) (x y : D), ys[j]? = some x → (t.map fun r => SL 1 (r.map B))[j]? = some y → DLes x.cells y.cells := by
    intro ys
    induction ys with
    | nil => exact fun _ => ⟨[], rfl, by simp⟩
    | cons y ys ih =>
      intro h
      obtain ⟨zs, h1, rfl⟩ := h y (.head _)
      obtain ⟨full, bs, ⟨⟩, _, hb⟩ := h1
      obtain ⟨r, rfl, _⟩ := maps_of (f := B) (p := fun _ => True) (ys := bs) fun x hx => by
        obtain ⟨_, ⟨b, rfl⟩, ⟨⟩⟩ := hb x hx
        exact ⟨b, rfl, trivial⟩
      obtain ⟨t, t1, t2⟩ := ih fun y hy => h y (.tail _ hy)
      refine ⟨r :: t, by simp [t1], fun j x y hx hy => ?_⟩
      cases j with
      | zero => cases hx; cases hy; exact ⟨DLe.full _ _ _, rfl⟩
      | succ j => exact t2 j x y hx hy
  obtain ⟨t, t1, t2⟩ := key ys h
  exact ⟨t, t1, fun full => DLe.sl ⟨by simp [t1], t2⟩⟩
end Go.PM

