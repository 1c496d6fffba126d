/-
  PM, part 25: what can be read as data is data.
-/
import Derived.Test.YtfckliidjmeeaaaDoorPmRangetoPmKit
import Derived.OpenShut
import Derived.ProofKit
set_option linter.unusedSectionVars false
namespace Go.PM
variable [Glob]
variable {P : Program} {T : TT}
def HasI (k : IntKind) (n : Int) : Prop := (Lit.int k n).wf = true
def DTy (T : TT) : Nat → TypeId → List D → Prop
  | 0, _, _ => False
  | n + 1, t, xs => match tyOf T t with
    | none => False
    | some ti => match ti.kind with
      | .bool => ∃ x, xs = [.b x]
      | .int k => ∃ m, xs = [.i k m] ∧ HasI k m
      | .string => ∃ s, xs = [.s s]
      | .slice e => match tyOf T e with
        | none => False
        | some te => ∃ full ys, xs = [.sl te.size full ys] ∧ ys.length ≤ maxLen ∧ ∀ y ∈ ys, ∃ zs, DTy T n e zs ∧ (match isAggT te with
          | true => y = .agg zs
          | false => zs = [y])
      | .str fs => fsTy (DTy T n) fs xs
      | .arr m e => arTy (DTy T n) m e xs
      | _ => False
where
  fsTy (R : TypeId → List D → Prop) : List (Nat × TypeId) → List D → Prop
    | [], xs => xs = []
    | p :: r, xs => ∃ a b, xs = a ++ b ∧ R p.2 a ∧ fsTy R r b
  arTy (R : TypeId → List D → Prop) : Nat → TypeId → List D → Prop
    | 0, _, xs => xs = []
    | m + 1, e, xs => ∃ a b, xs = a ++ b ∧ R e a ∧ arTy R m e b
def fsOk (T : TT) (rec : TypeId → Bool) : Nat → List (Nat × TypeId) → Nat → Bool
  | off, [], size => Nat.beq off size
  | off, p :: r, size => match tyOf T p.2 with
    | some ti => Nat.beq p.1 off && rec p.2 && fsOk T rec (off + ti.size) r size
    | none => false
def readOk (T : TT) : Nat → TypeId → Bool
  | 0, _ => false
  | n + 1, t => match tyOf T t with
    | none => false
    | some ti => match ti.kind with
      | .bool => true
      | .int _ => true
      | .string => true
      | .slice e => match tyOf T e with
        | none => false
        | some te => Nat.blt 0 te.size && readOk T n e && (isAggT te || Nat.beq te.size 1)
      | .str fs => fsOk T (readOk T n) 0 fs ti.size
      | .arr m e => match tyOf T e with
        | none => false
        | some te => Nat.beq (m * te.size) ti.size && readOk T n e
      | _ => false
def AllS (w : World) : Stb := fun b _ => b < w.heap.size
def RdW (w : World) (xs : List D) (cs : List Value) : Prop :=
  xs.length = cs.length ∧ ∀ (j : Nat) (c : D) (v : Value), xs[j]? = some c → cs[j]? = some v → c.flat = true ∧ DR w (AllS w) c v
theorem RdW.one {w : World} {x : D} {v : Value} (h1 : x.flat = true) (h2 : DR w (AllS w) x v) : RdW w [x] [v] :=
  ⟨rfl, fun j c u hj hu => by
    cases j with
    | zero => simp at hj hu; subst hj; subst hu; exact ⟨h1, h2⟩
    | succ j => simp at hj⟩
theorem RdW.append {w : World} {xs ys : List D} {cs ds : List Value} (h1 : RdW w xs cs) (h2 : RdW w ys ds) : RdW w (xs ++ ys) (cs ++ ds) :=
  ⟨by simp [h1.1, h2.1], fun j c u hj hu => by
    by_cases hl : j < xs.length
    · rw [List.getElem?_append_left hl] at hj
      rw [List.getElem?_append_left (by rw [← h1.1]; exact hl)] at hu
      exact h1.2 j c u hj hu
    · rw [List.getElem?_append_right (by omega)] at hj
      rw [List.getElem?_append_right (by rw [← h1.1]; omega), ← h1.1] at hu
      exact h2.2 _ c u hj hu⟩
theorem list_of {α : Type} {p : Nat → α → Prop} : ∀ (n : Nat), (∀ i, i < n → ∃ y, p i y) → ∃ ys : List α, ys.length = n ∧ ∀ i y, ys[i]? = some y → p i y
  | 0, _ => ⟨[], rfl, by simp⟩
  | n + 1, h => by
    obtain ⟨ys, h1, h2⟩ := list_of n fun i hi => h i (by omega)
    obtain ⟨y, hy⟩ := h n (by omega)
    refine ⟨ys ++ [y], by simp [h1], fun i z hz => ?_⟩
    by_cases hi : i < ys.length
    · rw [List.getElem?_append_left hi] at hz
      exact h2 i z hz
    · rw [List.getElem?_append_right (by omega)] at hz
      have : i - ys.length = 0 := by
        rcases Nat.eq_zero_or_pos (i - ys.length) with h | h
        · exact h
        · rw [List.getElem?_eq_none (by simp; omega)] at hz; cases hz
      rw [this] at hz
      simp at hz; subst hz
      have : i = n := by omega
      subst this; exact hy
theorem cells_get {w : World} {base : Nat} {a : Addr} {n : Nat} {cs : List Value} (h : w.cells? base a n = some cs) : cs.length = n ∧ ∀ (j : Nat) (v : Value), cs[j]? = some v → w.cell? (a.add j) = some v := by
  unfold World.cells? at h
  split at h
  · have key : ∀ (l : List Nat) (cs : List Value), (l.mapM fun i => w.cell? (a.add i)) = some cs → cs.length = l.length ∧ ∀ (j i : Nat) (v : Value), l[j]? = some i → cs[j]? = some v → w.cell? (a.add i) = some v := by
      intro l
      induction l with
      | nil => intro cs h; simp at h; subst h; simp
      | cons x l ih =>
        intro cs h
        simp only [List.mapM_cons, Option.pure_def, Option.bind_eq_bind, Option.bind_eq_some_iff] at h
        obtain ⟨v, hv, vs, hvs, h⟩ := h
        simp at h; subst h
        obtain ⟨i1, i2⟩ := ih vs hvs
        refine ⟨by simp [i1], fun j i u hj hu => ?_⟩
        cases j with
        | zero => simp at hj hu; subst hj; subst hu; exact hv
        | succ j => exact i2 j i u (by simpa using hj) (by simpa using hu)
    obtain ⟨k1, k2⟩ := key _ _ h
    refine ⟨by simpa using k1, fun j v hv => k2 j j v ?_ hv⟩
    have := (List.getElem?_eq_some_iff.1 hv).1
    rw [List.getElem?_range (by simpa [k1] using this)]
  · cases h
theorem addr_of_cell {w : World} {a : Addr} {v : Value} (h : w.cell? a = some v) : a.spot = none ∧ a.block < w.heap.size := by
  unfold World.cell? at h
  split at h
  · rename_i hb
    refine ⟨?_, (Array.getElem?_eq_some_iff.1 hb).1⟩
    cases hs : a.spot with
    | none => rfl
    | some s => simp [hs] at h
  · cases h
theorem fsOk_spec {rec : TypeId → Bool} : ∀ {fs : List (Nat × TypeId)} {fields : List Field} {off size : Nat}, fsOk T rec off fs size = true → fieldsOk P fs fields = true →
    ∀ {R : TypeId → List D → Prop} {w : World} {cs : List Value}, cs.length = size → tokB P T = true →
      (∀ (j : Nat) (f : Field), fields[j]? = some f → rec f.type = true → ∃ xs, RdW w xs ((cs.drop f.offset).take (P.cellsOf f.type)) ∧ R f.type xs) → ∃ xs, RdW w xs (cs.drop off) ∧ DTy.fsTy R fs xs
  | [], [], off, size, h, _, R, w, cs, hl, _, _ => by
    have := Nat.eq_of_beq_eq_true h
    exact ⟨[], ⟨by simp; omega, by simp⟩, rfl⟩
  | [], _ :: _, _, _, _, h, _, _, _, _, _, _ => by simp [fieldsOk] at h
  | _ :: _, [], _, _, _, h, _, _, _, _, _, _ => by simp [fieldsOk] at h
  | p :: fs, f :: fields, off, size, h, hf, R, w, cs, hl, hT, hh => by
    simp only [fsOk] at h
    simp only [fieldsOk, Bool.and_eq_true, decide_eq_true_eq] at hf
    obtain ⟨⟨⟨⟨f1, f2⟩, _⟩, _⟩, f5⟩ := hf
    cases hty : tyOf T p.2 with
    | none => simp [hty] at h
    | some ti =>
      simp only [hty, Bool.and_eq_true] at h
      obtain ⟨⟨h1, h2⟩, h3⟩ := h
      have h1 := Nat.eq_of_beq_eq_true h1
      have hsz : P.cellsOf f.type = ti.size := by
        rw [← f2]
        obtain ⟨i, z, hi⟩ := tiOk_info (tyOf_ok hT hty)
        have := hi.size
        simp [Program.cellsOf, hi.info, this]
      obtain ⟨xs, r1, r2⟩ := hh 0 f rfl (by rw [← f2]; exact h2)
      obtain ⟨ys, s1, s2⟩ := fsOk_spec h3 f5 hl hT fun j f' hj hr => hh (j + 1) f' (by simpa using hj) hr
      refine ⟨xs ++ ys, ?_, xs, ys, rfl, by rw [f2]; exact r2, s2⟩
      have := r1.append s1
      rw [← f1, h1, hsz] at this
      have e : cs.drop off = (cs.drop off).take ti.size ++ cs.drop (off + ti.size) := by
        rw [← List.drop_drop, List.take_append_drop]
      rw [e]
      exact this
end Go.PM
/-
  PM, part 26: a law, out of a pure contract.
-/
set_option linter.unusedSectionVars false
namespace Go.PM
variable [Glob]
open Go.ChangeShapes Go.WideShapes Go.ChangeAt Go.RowKit
variable {P : Program} {T : TT}
theorem post_of_old {H : Type} {enc : TypeId × Value → H} {f : Func} {s : ChangeSpec} {apart fresh handsOn again : Bool} {W W' : World} {args : Array Value} {v : Value} {ds gs : List (DataW H)} {before pa pv : List MemPlace}
    (hW : DataW.Whole enc P f.params.toList s.vars apart W args.toList ds gs before)
    (hres : ∀ (b : Nat) (sp : Nat → Bool) (hd : Bool), DataW.TrodAll enc P W' b sp hd f.resultTypes.toList (v.resultList f.resultTypes.size) (s.fn H (ds ++ gs)).results [])
    (hargs : ∀ sp : Nat → Bool, (∀ p ∈ before, sp p.block = true) → DataW.TrodAll enc P W' 0 sp true f.params.toList args.toList (s.fn H (ds ++ gs)).args pa)
    (hvars : ∀ sp : Nat → Bool, (∀ p ∈ before, sp p.block = true) → DataW.TrodVars enc P W' sp s.vars (s.fn H (ds ++ gs)).vars pv)
    (hps : before = pa ++ pv) (hk : W.keptBut W' (· ∈ before)) (hfz : ∀ a, a.block < W.heap.size → W'.frozen? a = W.frozen? a)
    (hok : ∀ (j : Nat) (t : TypeId) (r : Value), f.resultTypes[j]? = some t → (v.resultList f.resultTypes.size)[j]? = some r → Value.okWide P W' .any 0 t r) :
    s.post enc P f apart fresh handsOn again W args v W' := by
  have hold : ∀ p ∈ before, (fun b => decide (b < W.heap.size)) p.block = true := fun p hp => by simpa using hW.lt p hp
  refine ⟨ds, gs, before, [], pa, pv, hW, hres _ _ _, hargs _ hold, hvars _ hold, World.keptBut_mono (fun p hp => ⟨hp, ?_⟩) hk, fun _ => ?_⟩
  · rw [hps, List.mem_append] at hp
    exact Or.inr hp
  · have hlt := hW.lt
    obtain ⟨_, _, _, _, _, hz, hn⟩ := hW
    refine ⟨hok, _, _, ([] ++ pa) ++ pv, ⟨[] ++ pa, pv, trodAll_append (hargs _ (fun _ _ => rfl)) (hres _ _ _), hvars _ (fun _ _ => rfl), rfl, ?_, ?_⟩, ?_⟩
    · intro b off hp
      have hp' : MemPlace.cell b off ∈ before := by rw [hps]; simpa using hp
      rw [hfz _ (hlt _ hp')]
      exact hz b off hp'
    · intro ha
      have := hn ha
      rw [hps] at this
      simpa using this
    · intro p hp _
      rw [hps]
      simpa using hp
def VTy (T : TT) (n : Nat) (t : TypeId) (x : D) : Prop :=
  ∃ zs, DTy T n t zs ∧ (match (tyOf T t).map isAggT with
    | some true => x = .agg zs
    | _ => zs = [x])
def ArgsTy (T : TT) (n : Nat) : List TypeId → List D → Prop
  | [], xs => xs = []
  | t :: ts, xs => ∃ x r, xs = x :: r ∧ VTy T n t x ∧ ArgsTy T n ts r
theorem readOk_ty {n : Nat} {t : TypeId} (h : readOk T n t = true) : ∃ ti, tyOf T t = some ti ∧ (ti.kind = .bool ∨ (∃ k, ti.kind = .int k) ∨ ti.kind = .string ∨ (∃ e, ti.kind = .slice e) ∨ (∃ fs, ti.kind = .str fs) ∨ ∃ m e, ti.kind = .arr m e) := by
  cases n with
  | zero => simp [readOk] at h
  | succ n =>
    simp only [readOk] at h
    cases hty : tyOf T t with
    | none => simp [hty] at h
    | some ti =>
      refine ⟨ti, rfl, ?_⟩
      simp only [hty] at h
      cases hk : ti.kind <;> simp [hk] at h ⊢
theorem args_stay {H : Type} {enc : TypeId × Value → H} (hl : laidOutB P = true) {W W' : World} (hold : ∀ i, i < W.heap.size → W'.heap[i]? = W.heap[i]?) {sp : Nat → Bool} : ∀ {ts : List TypeId} {vs : List Value} {ds : List (DataW H)} {ps : List MemPlace},
    ts.all (fun t => P.readableRec t && decide (t < P.types.size)) = true → (∀ p ∈ ps, sp p.block = true) → (∀ p ∈ ps, p.block < W.heap.size) →
    DataW.TrodAll enc P W 0 (fun _ => true) true ts vs ds ps → DataW.TrodAll enc P W' 0 sp true ts vs ds ps
  | [], vs, ds, ps, _, _, _, h => by
    cases vs <;> cases ds <;> simp [DataW.TrodAll] at h ⊢
    exact h
  | t :: ts, [], ds, ps, _, _, _, h => by simp [DataW.TrodAll] at h
  | t :: ts, v :: vs, [], ps, _, _, _, h => by simp [DataW.TrodAll] at h
  | t :: ts, v :: vs, d :: ds, ps, hr, hs, hlt, h => by
    obtain ⟨p, q, h1, h2, rfl⟩ := h
    simp only [List.all_cons, Bool.and_eq_true, decide_eq_true_eq] at hr
    refine ⟨p, q, Go.WideElems.Trod_stays hl hr.1.1 hr.1.2 h1 (fun x hx => ?_) (fun x hx => hs x (List.mem_append_left _ hx)), args_stay hl hold hr.2 (fun x hx => hs x (List.mem_append_right _ hx)) (fun x hx => hlt x (List.mem_append_right _ hx)) h2, rfl⟩
    have hb := hold x.block (hlt x (List.mem_append_left _ hx))
    cases x with
    | cell b off => exact World.cell?_of_block (a := ⟨b, off, none⟩) hb
    | map b => exact hb
end Go.PM
/-
  PM, part 36: a reading of a bounded bulk is data of bounded sizes; a law under such a bound.
-/
set_option linter.unusedSectionVars false
namespace Go.PM
variable [Glob]
open Go.ChangeShapes Go.WideShapes Go.ChangeAt Go.RowKit
variable {P : Program} {T : TT}
structure Bulk {H : Type} (bk : DataW H → Nat) : Prop where
  str : ∀ b : List UInt8, b.length ≤ bk (.lit (.string b))
  sl : ∀ e s, e.length ≤ bk (.slice e s)
  slE : ∀ e s, ∀ x ∈ e, bk x ≤ bk (.slice e s)
  ag : ∀ l, ∀ x ∈ l, bk x ≤ bk (.agg l)
def DTyB (T : TT) (B : Nat) : Nat → TypeId → List D → Prop
  | 0, _, _ => False
  | n + 1, t, xs => match tyOf T t with
    | none => False
    | some ti => match ti.kind with
      | .bool => ∃ x, xs = [.b x]
      | .int k => ∃ m, xs = [.i k m] ∧ HasI k m
      | .string => ∃ s, xs = [.s s] ∧ s.size ≤ B
      | .slice e => match tyOf T e with
        | none => False
        | some te => ∃ full ys, xs = [.sl te.size full ys] ∧ ys.length ≤ B ∧ ∀ y ∈ ys, ∃ zs, DTyB T B n e zs ∧ (match isAggT te with
          | true => y = .agg zs
          | false => zs = [y])
      | .str fs => DTy.fsTy (DTyB T B n) fs xs
      | .arr m e => DTy.arTy (DTyB T B n) m e xs
      | _ => False
theorem reads_DB {H : Type} {enc : TypeId × Value → H} {bk : DataW H → Nat} (hB : Bulk bk) {B : Nat} (hT : tokB P T = true) {w : World} {base : Nat} {sp : Nat → Bool} {held : Bool} : ∀ (n : Nat) (fuel : Nat) (t : TypeId) (cs : List Value) (x : DataW H × List MemPlace), readOk T n t = true → DataW.trod enc P w base sp held fuel t cs = some x → bk x.1 ≤ B →
    ∃ xs, RdW w xs cs ∧ DTyB T B n t xs := by
  intro n
  induction n with
  | zero => intro fuel t cs x h; simp [readOk] at h
  | succ n ih =>
    intro fuel t cs x hr hx hbk
    simp only [readOk] at hr
    cases hty : tyOf T t with
    | none => simp [hty] at hr
    | some ti =>
      have hti := tyOf_ok hT hty
      simp only [hty] at hr
      simp only [DTyB, hty]
      cases hk : ti.kind with
      | bool =>
        obtain ⟨b, rfl, _⟩ := DataW.trod_bool (kind_bool hti hk) hx
        exact ⟨[.b b], RdW.one rfl (.b b), b, rfl⟩
      | int k =>
        obtain ⟨m, rfl, _, hw⟩ := DataW.trod_int (kind_int hti hk) hx
        exact ⟨[.i k m], RdW.one rfl (.i k m), m, rfl, hw⟩
      | string =>
        obtain ⟨s, rfl, rfl, _⟩ := DataW.trod_string (kind_string hti hk) hx
        refine ⟨[.s s], RdW.one rfl (.s s), s, rfl, ?_⟩
        have := hB.str s.data.toList
        rw [Array.length_toList] at this
        exact Nat.le_trans this hbk
      | map => simp [hk] at hr
      | other => simp [hk] at hr
      | str fs =>
        simp only [hk] at hr
        obtain ⟨fields, hu, hfs, _⟩ := kind_str hti hk
        obtain ⟨ys, m, rfl, rfl, hl, hyl, hy⟩ := DataW.trod_struct hu hx
        have hsz : P.cellsOf t = ti.size := by
          obtain ⟨i, z, hi⟩ := tiOk_info hti
          simp [Program.cellsOf, hi.info, hi.size]
        have hel : ∀ y ∈ ys, bk y.1 ≤ B := fun y hy => Nat.le_trans (hB.ag _ _ (List.mem_map.2 ⟨y, hy, rfl⟩)) hbk
        have := fsOk_spec (P := P) (w := w) (R := DTyB T B n) hr hfs (by rw [hl, hsz]) hT fun j f hj hrec => by
          have hlt : j < ys.length := by
            have := (List.getElem?_eq_some_iff.1 hj).1
            rw [hyl]; simp only [Array.length_toList] at this; exact this
          have := hy j f (by simpa using hj)
          rw [List.getElem?_eq_getElem hlt] at this
          exact ih m f.type _ _ hrec this (hel _ (List.getElem_mem hlt))
        simpa using this
      | arr m e =>
        simp only [hk] at hr
        cases hte : tyOf T e with
        | none => simp [hte] at hr
        | some te =>
          simp only [hte, Bool.and_eq_true] at hr
          obtain ⟨h1, h2⟩ := hr
          have h1 := Nat.eq_of_beq_eq_true h1
          obtain ⟨ys, q, rfl, rfl, hl, hyl, hy⟩ := DataW.trod_array (kind_arr hti hk) hx
          have hel : ∀ y ∈ ys, bk y.1 ≤ B := fun y hy => Nat.le_trans (hB.ag _ _ (List.mem_map.2 ⟨y, hy, rfl⟩)) hbk
          have hsz : P.cellsOf t = ti.size := by
            obtain ⟨i, z, hi⟩ := tiOk_info hti
            simp [Program.cellsOf, hi.info, hi.size]
          have hse : P.cellsOf e = te.size := by
            obtain ⟨i, z, hi⟩ := tiOk_info (tyOf_ok hT hte)
            simp [Program.cellsOf, hi.info, hi.size]
          have key : ∀ j, j ≤ m → ∃ xs, RdW w xs (cs.drop ((m - j) * te.size)) ∧ DTy.arTy (DTyB T B n) j e xs := by
            intro j
            induction j with
            | zero =>
              intro _
              exact ⟨[], ⟨by simp; rw [hl, hsz, ← h1]; omega, by simp⟩, rfl⟩
            | succ j ihj =>
              intro hj
              obtain ⟨xs, r1, r2⟩ := ihj (by omega)
              have hlt : m - (j + 1) < ys.length := by rw [hyl]; omega
              have := hy (m - (j + 1)) (by omega)
              rw [List.getElem?_eq_getElem hlt] at this
              obtain ⟨as, s1, s2⟩ := ih q e _ _ h2 this (hel _ (List.getElem_mem hlt))
              refine ⟨as ++ xs, ?_, as, xs, rfl, s2, r2⟩
              have e1 : m - j = m - (j + 1) + 1 := by omega
              rw [e1, Nat.add_mul, Nat.one_mul] at r1
              have := s1.append r1
              rw [hse, ← List.drop_drop, List.take_append_drop] at this
              exact this
          have := key m (Nat.le_refl _)
          simpa using this
      | slice e =>
        simp only [hk] at hr
        cases hte : tyOf T e with
        | none => simp [hte] at hr
        | some te =>
          simp only [hte, Bool.and_eq_true] at hr
          obtain ⟨⟨h1, h2⟩, h3⟩ := hr
          have h1 : 0 < te.size := Nat.le_of_ble_eq_true h1
          simp only [hte]
          have hse : P.cellsOf e = te.size := by
            obtain ⟨i, z, hi⟩ := tiOk_info (tyOf_ok hT hte)
            simp [Program.cellsOf, hi.info, hi.size]
          rcases DataW.trod_slice (kind_slice hti hk) hx with ⟨rfl, _⟩ | ⟨a, len, cap, elems, rest, q, rfl, rfl, rfl, hb, hlc, hcm, hel, hes, _⟩
          · refine ⟨[.sl te.size true []], RdW.one rfl (.sl te.size true [] none 0 0 0 (fun _ _ => undef) (by simp) (by simp) (by simp) (by simp) (by simp) (by simp) (by simp)), true, [], rfl, by simp, by simp⟩
          · have helB : ∀ y ∈ elems, bk y.1 ≤ B := fun y hy => Nat.le_trans (hB.slE _ _ _ (List.mem_map.2 ⟨y, hy, rfl⟩)) hbk
            have hlB : len ≤ B := by
              have := hB.sl (elems.map (·.1)) (rest.map (·.1))
              rw [List.length_map, hel] at this
              exact Nat.le_trans this hbk
            have each : ∀ i, i < len → ∃ y : D, (∃ zs, DTyB T B n e zs ∧ (match isAggT te with | true => y = .agg zs | false => zs = [y])) ∧ y.cells.length = te.size ∧
                ∀ (j : Nat) (c : D), y.cells[j]? = some c → c.flat = true ∧ ∃ v, w.cell? ((a.add (i * te.size)).add j) = some v ∧ DR w (AllS w) c v := fun i hi => by
              have := hes i hi
              have hli : i < elems.length := by omega
              rw [hse, List.getElem?_eq_getElem hli] at this
              simp only [Option.bind_eq_some_iff] at this
              obtain ⟨ecs, g1, g2⟩ := this
              obtain ⟨c1, c2⟩ := cells_get g1
              obtain ⟨zs, z1, z2⟩ := ih q e ecs _ h2 g2 (helB _ (List.getElem_mem hli))
              have hzl : zs.length = te.size := by rw [z1.1, c1]
              have hcell : ∀ (j : Nat) (c : D), zs[j]? = some c → c.flat = true ∧ ∃ v, w.cell? ((a.add (i * te.size)).add j) = some v ∧ DR w (AllS w) c v := fun j c hj => by
                have hlt : j < ecs.length := by rw [← z1.1]; exact (List.getElem?_eq_some_iff.1 hj).1
                obtain ⟨f1, f2⟩ := z1.2 j c _ hj (List.getElem?_eq_getElem hlt)
                exact ⟨f1, _, c2 j _ (List.getElem?_eq_getElem hlt), f2⟩
              cases ha : isAggT te with
              | true => exact ⟨.agg zs, ⟨zs, z2, by simp⟩, hzl, hcell⟩
              | false =>
                simp only [ha, Bool.false_or] at h3
                have h3 := Nat.eq_of_beq_eq_true h3
                match zs, hzl, hcell, z2 with
                | [y], _, hcell, z2 =>
                  have hy := (hcell 0 y rfl).1
                  have hyc := flat_cells y hy
                  exact ⟨y, ⟨[y], z2, by simp⟩, by rw [hyc, h3]; rfl, by rw [hyc]; exact hcell⟩
                | [], h, _, _ => simp at h; omega
                | _ :: _ :: _, h, _, _ => simp at h; omega
            obtain ⟨ys, y1, y2⟩ := list_of len each
            refine ⟨[.sl te.size (decide (cap = len)) ys], RdW.one rfl ?_, _, ys, rfl, by rw [y1]; exact hlB, fun y hy => ?_⟩
            · have hne : ys ≠ [] → a = ⟨a.block, a.off, none⟩ := fun hne => by
                obtain ⟨y, hy⟩ := List.exists_mem_of_ne_nil ys hne
                obtain ⟨i, hi⟩ := List.mem_iff_getElem?.1 hy
                have hlt : 0 < ys.length := List.length_pos_iff.2 hne
                obtain ⟨_, q2, q3⟩ := y2 0 _ (List.getElem?_eq_getElem hlt)
                obtain ⟨_, v, hv, _⟩ := q3 0 _ (List.getElem?_eq_getElem (by omega))
                have : (a.add (0 * te.size)).add 0 = a := by simp [Addr.add]
                rw [this] at hv
                have := (addr_of_cell hv).1
                cases a; simp at this; subst this; rfl
              rw [← y1]
              refine .sl te.size _ ys (some a) cap a.block a.off (fun i j => (w.cell? ⟨a.block, a.off + i * te.size + j, none⟩).getD undef) (by omega) (by simp [y1]) (fun h => by omega) (fun h => by rw [← hne h]) (fun i x hx => (y2 i x hx).2.1)
                (fun i x j c hx hc => ?_) (fun i x j c hx hc => ?_)
              all_goals
                obtain ⟨q1, q2, q3⟩ := y2 i x hx
                obtain ⟨f1, v, hv, hd⟩ := q3 j c hc
                have hxn : ys ≠ [] := by intro h; rw [h] at hx; simp at hx
                have ha := hne hxn
                rw [ha, addr_add, addr_add] at hv
              · exact ⟨f1, by rw [hv]; rfl, (addr_of_cell hv).2⟩
              · rw [hv]; exact hd
            · obtain ⟨i, hi⟩ := List.mem_iff_getElem?.1 hy
              exact (y2 i y hi).1
def VTyB (T : TT) (B n : Nat) (t : TypeId) (x : D) : Prop :=
  ∃ zs, DTyB T B n t zs ∧ (match (tyOf T t).map isAggT with
    | some true => x = .agg zs
    | _ => zs = [x])
def ArgsTyB (T : TT) (B n : Nat) : List TypeId → List D → Prop
  | [], xs => xs = []
  | t :: ts, xs => ∃ x r, xs = x :: r ∧ VTyB T B n t x ∧ ArgsTyB T B n ts r
theorem arg_DB {H : Type} {enc : TypeId × Value → H} {bk : DataW H → Nat} (hB : Bulk bk) {B : Nat} (hT : tokB P T = true) {n : Nat} {w : World} {base b0 : Nat} {sp : Nat → Bool} {held : Bool} {t : TypeId} {v : Value} {d : DataW H} {ps : List MemPlace} (hr : readOk T n t = true)
    (hok : Value.okWide P w .any b0 t v) (h : DataW.Trod enc P w base sp held t v d ps) (hd : bk d ≤ B) : ∃ x, VTyB T B n t x ∧ DR w (AllS w) x v := by
  obtain ⟨fuel, h⟩ := h
  obtain ⟨zs, h1, h2⟩ := reads_DB hB hT n fuel t _ _ hr h hd
  obtain ⟨ti, hty, hk⟩ := readOk_ty hr
  have hti := tyOf_ok hT hty
  have agg : isAggT ti = true → (∃ cs, v = .agg cs) → ∃ x, VTyB T B n t x ∧ DR w (AllS w) x v := fun ha hv => by
    obtain ⟨cs, rfl⟩ := hv
    refine ⟨.agg zs, ⟨zs, h2, by simp [hty, ha]⟩, .agg zs cs (by simpa [Value.cells] using h1.1.symm) (fun j c hj => ?_) fun j c u hj hu => (h1.2 j c u hj (by simpa [Value.cells] using hu)).2⟩
    have hlt : j < (Value.agg cs).cells.toList.length := by rw [← h1.1]; exact (List.getElem?_eq_some_iff.1 hj).1
    exact (h1.2 j c _ hj (List.getElem?_eq_getElem hlt)).1
  have one : isAggT ti = false → v.cells = #[v] → ∃ x, VTyB T B n t x ∧ DR w (AllS w) x v := fun ha hv => by
    have hl := h1.1
    rw [hv] at hl
    match zs, hl, h1, h2 with
    | [x], _, h1, h2 => exact ⟨x, ⟨[x], h2, by simp [hty, ha]⟩, (h1.2 0 x v rfl (by rw [hv]; rfl)).2⟩
  rcases hk with hk | ⟨k, hk⟩ | hk | ⟨e, hk⟩ | ⟨fs, hk⟩ | ⟨m, e, hk⟩
  · refine one (by simp [isAggT, hk]) ?_
    have hu := kind_bool hti hk
    clear agg one h h1 h2 hti
    cases v <;> first | rfl | (simp [Value.okWide, hu, Cell.okWide, Cell.ok] at hok)
  · refine one (by simp [isAggT, hk]) ?_
    have hu := kind_int hti hk
    clear agg one h h1 h2 hti
    cases v <;> first | rfl | (simp [Value.okWide, hu, Cell.okWide, Cell.ok] at hok)
  · refine one (by simp [isAggT, hk]) ?_
    have hu := kind_string hti hk
    clear agg one h h1 h2 hti
    cases v <;> first | rfl | (simp [Value.okWide, hu, Cell.okWide, Cell.ok] at hok)
  · refine one (by simp [isAggT, hk]) ?_
    have hu := kind_slice hti hk
    clear agg one h h1 h2 hti
    cases v <;> first | rfl | (simp [Value.okWide, hu, Cell.okWide, Cell.ok] at hok)
  · obtain ⟨fields, hu, _⟩ := kind_str hti hk
    simp only [Value.okWide, hu] at hok
    obtain ⟨cs, rfl, _⟩ := hok
    exact agg (by simp [isAggT, hk]) ⟨cs, rfl⟩
  · simp only [Value.okWide, kind_arr hti hk] at hok
    obtain ⟨cs, rfl, _⟩ := hok
    exact agg (by simp [isAggT, hk]) ⟨cs, rfl⟩
theorem args_DB {H : Type} {enc : TypeId × Value → H} {bk : DataW H → Nat} (hB : Bulk bk) {B : Nat} (hT : tokB P T = true) {n : Nat} {w : World} {base b0 : Nat} {sp : Nat → Bool} {held : Bool} : ∀ {ts : List TypeId} {vs : List Value} {ds : List (DataW H)} {ps : List MemPlace}, ts.all (readOk T n) = true →
    (∀ (j : Nat) t v, ts[j]? = some t → vs[j]? = some v → Value.okWide P w .any b0 t v) → DataW.TrodAll enc P w base sp held ts vs ds ps → (∀ d ∈ ds, bk d ≤ B) →
    ∃ xs : List D, ArgsTyB T B n ts xs ∧ xs.length = vs.length ∧ ∀ (j : Nat) (x : D) (v : Value), xs[j]? = some x → vs[j]? = some v → DR w (AllS w) x v
  | [], vs, ds, ps, _, _, h, _ => by
    cases vs <;> cases ds <;> simp [DataW.TrodAll] at h
    exact ⟨[], rfl, rfl, by simp⟩
  | t :: ts, [], ds, ps, _, _, h, _ => by simp [DataW.TrodAll] at h
  | t :: ts, v :: vs, [], ps, _, _, h, _ => by simp [DataW.TrodAll] at h
  | t :: ts, v :: vs, d :: ds, ps, hr, hok, h, hd => by
    obtain ⟨p, q, h1, h2, rfl⟩ := h
    simp only [List.all_cons, Bool.and_eq_true] at hr
    obtain ⟨x, x1, x2⟩ := arg_DB hB hT hr.1 (hok 0 t v rfl rfl) h1 (hd d (.head _))
    obtain ⟨xs, y1, y2, y3⟩ := args_DB hB hT hr.2 (fun j t' v' hj hv => hok (j + 1) t' v' (by simpa using hj) (by simpa using hv)) h2 (fun e he => hd e (.tail _ he))
    refine ⟨x :: xs, ⟨x, xs, rfl, x1, y1⟩, by simp [y2], fun j y u hj hu => ?_⟩
    cases j with
    | zero => simp at hj hu; subst hj; subst hu; exact x2
    | succ j => exact y3 j y u (by simpa using hj) (by simpa using hu)
theorem law_contractB {C : Checked} {H : Type} {enc : TypeId × Value → H} {bk : DataW H → Nat} (hB : Bulk bk) {B : Nat} (hT : tokB C.prog T = true) {n : Nat} {f : FuncId} {fn : Func} (hf : C.prog.funcs[f]? = some fn) (hname : (fn.name == "runtime.NumGoroutine") = false) (hbody : fn.body.isSome = true)
    (hread : fn.params.toList.all (readOk T n) = true) (hl : laidOutB C.prog = true) (hrec : fn.params.toList.all (fun t => C.prog.readableRec t && decide (t < C.prog.types.size)) = true)
    {tb : TypeId} (hres : fn.resultTypes = #[tb]) (htb : C.prog.underlying tb = some .bool) {s : ChangeSpec} (hvars : s.vars = []) {m : Nat} (hm : fn.params.toList.length = m)
    (hs : ∀ ds : List (DataW H), ds.length = m → s.fn H ds = { results := [.lit (.bool true)], args := ds })
    (hp : ∀ xs, ArgsTyB T B n fn.params.toList xs → CallP C.prog f (xs.map .d) (retD [.b true])) {apart fresh handsOn again : Bool}
    (W : World) (hglob : GlobOk W (AllS W)) (base : Nat) (args : Array Value) (ds gs : List (DataW H)) (before : List MemPlace) (hval : ∀ (j : Nat) t v, fn.params[j]? = some t → args[j]? = some v → Value.okWide C.prog W .any base t v)
    (hW : DataW.Whole enc C.prog fn.params.toList s.vars apart W args.toList ds gs before) (hbk : ∀ d ∈ ds ++ gs, bk d ≤ B) :
    Calls C.prog f args W fun e W' => ∃ v, e = .returned v ∧ s.post enc C.prog fn apart fresh handsOn again W args v W' := by
  have hW' := hW
  obtain ⟨p, q, hA, hV, rfl, hfz, hnd⟩ := hW
  rw [hvars] at hV
  obtain ⟨rfl, rfl⟩ := trodVars_none hV
  obtain ⟨xs, x1, x2, x3⟩ := args_DB hB hT hread (fun j t v hj hv => hval j t v (by simpa using hj) (by simpa using hv)) hA (fun d hd => hbk d (List.mem_append_left _ hd))
  have hc := hp xs x1 W (AllS W) [] [] args (hr_nil (fun b o h => h) hglob) ⟨by simpa using x2.symm, fun j c u hj hu => by
    rw [List.getElem?_map] at hj
    cases hx : xs[j]? with
    | none => simp [hx] at hj
    | some x => simp [hx] at hj; subst hj; exact .d (x3 j x u hx (by simpa using hu))⟩
  obtain ⟨c, hb⟩ := Option.isSome_iff_exists.1 hbody
  have he := Go.MuLone.run_callFunc_enter hf hname hb args W
  rcases hc with ⟨_, hc⟩ | ⟨v, w', h1, _⟩
  case inr => rw [he] at h1; cases h1
  refine hc.mono fun e W' ⟨cv, he, S', β', _, hv, E⟩ => ⟨cv, he, ?_⟩
  have hcv : cv = .bool true := bool_inv hv
  subst hcv
  have hold : ∀ i, i < W.heap.size → W'.heap[i]? = W.heap[i]? := fun i hi => E.frame i hi (by rintro ⟨n, p, h⟩; simp at h)
  have hdl : ds.length = m := by
    have : ∀ {ts : List TypeId} {vs : List Value} {ds : List (DataW H)} {ps : List MemPlace}, DataW.TrodAll enc C.prog W 0 (fun _ => true) true ts vs ds ps → ds.length = ts.length := by
      intro ts
      induction ts with
      | nil => intro vs ds ps h; cases vs <;> cases ds <;> simp [DataW.TrodAll] at h ⊢
      | cons t ts ih =>
        intro vs ds ps h
        cases vs with
        | nil => simp [DataW.TrodAll] at h
        | cons v vs =>
          cases ds with
          | nil => simp [DataW.TrodAll] at h
          | cons d ds =>
            obtain ⟨_, _, _, h2, _⟩ := h
            simp [ih h2]
    rw [this hA, hm]
  have hsp := hs (ds ++ []) (by simpa using hdl)
  refine post_of_old (pa := p) (pv := []) hW' (fun b sp hd => ?_) (fun sp hsp' => ?_) (fun sp _ => ?_) rfl ⟨E.outer.1.1, E.outer.1.2, fun i hi => ?_⟩ E.froz ?_
  · rw [hsp, hres]
    exact trodAll_mk1 (shut_bool htb true)
  · rw [hsp]
    simp only [List.append_nil] at hsp' ⊢
    exact args_stay hl hold hrec hsp' (fun x hx => hW'.lt x (by simpa using hx)) hA
  · rw [hsp, hvars]; rfl
  · rw [hold i hi]
    cases hh : W.heap[i]? with
    | none => trivial
    | some o =>
      cases o with
      | cells c t fr => exact ⟨rfl, rfl, rfl, fun _ _ => rfl⟩
      | map es clock => exact .inr ⟨rfl, rfl⟩
      | _ => rfl
  · exact ok_one hres rfl (okWide_bool_mk htb true)
end Go.PM
