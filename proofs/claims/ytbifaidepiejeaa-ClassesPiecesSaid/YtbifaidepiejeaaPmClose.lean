/-
  PM, part 26: a law, out of a pure contract.
-/
import Derived.Test.YtbifaidepiejeaaPmRead
import Derived.ProofKit
set_option linter.unusedSectionVars false
namespace Go.PM
variable [Glob]
open Go.ChangeShapes Go.WideShapes Go.ChangeAt Go.RowKit
variable {P : Program} {T : TT}

/-- What a row asks behind a call that leaves what was there as it was. -/
theorem post_of_old {H : Type} {enc : TypeId × Value → H} {f : Func} {s : ChangeSpec} {apart fresh handsOn again : Bool} {W W' : World} {args : Array Value} {v : Value} {ds gs : List (DataW H)} {before pa pv : List MemPlace}
    (hW : DataW.Whole enc P f.params.toList s.vars apart W args.toList ds gs before)
    (hres : ∀ (b : Nat) (sp : Nat → Bool) (hd : Bool), DataW.TrodAll enc P W' b sp hd f.resultTypes.toList (v.resultList f.resultTypes.size) (s.fn H (ds ++ gs)).results [])
    (hargs : ∀ sp : Nat → Bool, (∀ p ∈ before, sp p.block = true) → DataW.TrodAll enc P W' 0 sp true f.params.toList args.toList (s.fn H (ds ++ gs)).args pa)
    (hvars : ∀ sp : Nat → Bool, (∀ p ∈ before, sp p.block = true) → DataW.TrodVars enc P W' sp s.vars (s.fn H (ds ++ gs)).vars pv)
    (hps : before = pa ++ pv) (hk : W.keptBut W' (· ∈ before)) (hfz : ∀ a, a.block < W.heap.size → W'.frozen? a = W.frozen? a)
    (hok : ∀ (j : Nat) (t : TypeId) (r : Value), f.resultTypes[j]? = some t → (v.resultList f.resultTypes.size)[j]? = some r → Value.okWide P W' .any 0 t r) :
    s.post enc P f apart fresh handsOn again W args v W' := by
  have hold : ∀ p ∈ before, (fun b => decide (b < W.heap.size)) p.block = true := fun p hp => by simpa using hW.lt p hp
  refine ⟨ds, gs, before, [], pa, pv, hW, hres _ _ _, hargs _ hold, hvars _ hold, World.keptBut_mono (fun p hp => ⟨hp, ?_⟩) hk, fun _ => ?_⟩
  · rw [hps, List.mem_append] at hp
    exact Or.inr hp
  · have hlt := hW.lt
    obtain ⟨_, _, _, _, _, hz, hn⟩ := hW
    refine ⟨hok, _, _, ([] ++ pa) ++ pv, ⟨[] ++ pa, pv, trodAll_append (hargs _ (fun _ _ => rfl)) (hres _ _ _), hvars _ (fun _ _ => rfl), rfl, ?_, ?_⟩, ?_⟩
    · intro b off hp
      have hp' : MemPlace.cell b off ∈ before := by rw [hps]; simpa using hp
      rw [hfz _ (hlt _ hp')]
      exact hz b off hp'
    · intro ha
      have := hn ha
      rw [hps] at this
      simpa using this
    · intro p hp _
      rw [hps]
      simpa using hp

/-- A value of a type, as data. -/
def VTy (T : TT) (n : Nat) (t : TypeId) (x : D) : Prop :=
  ∃ zs, DTy T n t zs ∧ (match (tyOf T t).map isAggT with
    | some true => x = .agg zs
    | _ => zs = [x])

def ArgsTy (T : TT) (n : Nat) : List TypeId → List D → Prop
  | [], xs => xs = []
  | t :: ts, xs => ∃ x r, xs = x :: r ∧ VTy T n t x ∧ ArgsTy T n ts r

theorem readOk_ty {n : Nat} {t : TypeId} (h : readOk T n t = true) : ∃ ti, tyOf T t = some ti ∧ (ti.kind = .bool ∨ (∃ k, ti.kind = .int k) ∨ ti.kind = .string ∨ (∃ e, ti.kind = .slice e) ∨ (∃ fs, ti.kind = .str fs) ∨ ∃ m e, ti.kind = .arr m e) := by
  cases n with
  | zero => simp [readOk] at h
  | succ n =>
    simp only [readOk] at h
    cases hty : tyOf T t with
    | none => simp [hty] at h
    | some ti =>
      refine ⟨ti, rfl, ?_⟩
      simp only [hty] at h
      cases hk : ti.kind <;> simp [hk] at h ⊢

theorem arg_D {H : Type} {enc : TypeId × Value → H} (hT : tokB P T = true) {n : Nat} {w : World} {base b0 : Nat} {sp : Nat → Bool} {held : Bool} {t : TypeId} {v : Value} {d : DataW H} {ps : List MemPlace} (hr : readOk T n t = true)
    (hok : Value.okWide P w .any b0 t v) (h : DataW.Trod enc P w base sp held t v d ps) : ∃ x, VTy T n t x ∧ DR w (AllS w) x v := by
  obtain ⟨fuel, h⟩ := h
  obtain ⟨zs, h1, h2⟩ := reads_D hT n fuel t _ _ hr h
  obtain ⟨ti, hty, hk⟩ := readOk_ty hr
  have hti := tyOf_ok hT hty
  have agg : isAggT ti = true → (∃ cs, v = .agg cs) → ∃ x, VTy T n t x ∧ DR w (AllS w) x v := fun ha hv => by
    obtain ⟨cs, rfl⟩ := hv
    refine ⟨.agg zs, ⟨zs, h2, by simp [hty, ha]⟩, .agg zs cs (by simpa [Value.cells] using h1.1.symm) (fun j c hj => ?_) fun j c u hj hu => (h1.2 j c u hj (by simpa [Value.cells] using hu)).2⟩
    have hlt : j < (Value.agg cs).cells.toList.length := by rw [← h1.1]; exact (List.getElem?_eq_some_iff.1 hj).1
    exact (h1.2 j c _ hj (List.getElem?_eq_getElem hlt)).1
  have one : isAggT ti = false → v.cells = #[v] → ∃ x, VTy T n t x ∧ DR w (AllS w) x v := fun ha hv => by
    have hl := h1.1
    rw [hv] at hl
    match zs, hl, h1, h2 with
    | [x], _, h1, h2 => exact ⟨x, ⟨[x], h2, by simp [hty, ha]⟩, (h1.2 0 x v rfl (by rw [hv]; rfl)).2⟩
  rcases hk with hk | ⟨k, hk⟩ | hk | ⟨e, hk⟩ | ⟨fs, hk⟩ | ⟨m, e, hk⟩
  · refine one (by simp [isAggT, hk]) ?_
    have hu := kind_bool hti hk
    clear agg one h h1 h2 hti
    cases v <;> first | rfl | (simp [Value.okWide, hu, Cell.okWide, Cell.ok] at hok)
  · refine one (by simp [isAggT, hk]) ?_
    have hu := kind_int hti hk
    clear agg one h h1 h2 hti
    cases v <;> first | rfl | (simp [Value.okWide, hu, Cell.okWide, Cell.ok] at hok)
  · refine one (by simp [isAggT, hk]) ?_
    have hu := kind_string hti hk
    clear agg one h h1 h2 hti
    cases v <;> first | rfl | (simp [Value.okWide, hu, Cell.okWide, Cell.ok] at hok)
  · refine one (by simp [isAggT, hk]) ?_
    have hu := kind_slice hti hk
    clear agg one h h1 h2 hti
    cases v <;> first | rfl | (simp [Value.okWide, hu, Cell.okWide, Cell.ok] at hok)
  · obtain ⟨fields, hu, _⟩ := kind_str hti hk
    simp only [Value.okWide, hu] at hok
    obtain ⟨cs, rfl, _⟩ := hok
    exact agg (by simp [isAggT, hk]) ⟨cs, rfl⟩
  · simp only [Value.okWide, kind_arr hti hk] at hok
    obtain ⟨cs, rfl, _⟩ := hok
    exact agg (by simp [isAggT, hk]) ⟨cs, rfl⟩

theorem args_D {H : Type} {enc : TypeId × Value → H} (hT : tokB P T = true) {n : Nat} {w : World} {base b0 : Nat} {sp : Nat → Bool} {held : Bool} : ∀ {ts : List TypeId} {vs : List Value} {ds : List (DataW H)} {ps : List MemPlace}, ts.all (readOk T n) = true →
    (∀ (j : Nat) t v, ts[j]? = some t → vs[j]? = some v → Value.okWide P w .any b0 t v) → DataW.TrodAll enc P w base sp held ts vs ds ps →
    ∃ xs : List D, ArgsTy T n ts xs ∧ xs.length = vs.length ∧ ∀ (j : Nat) (x : D) (v : Value), xs[j]? = some x → vs[j]? = some v → DR w (AllS w) x v
  | [], vs, ds, ps, _, _, h => by
    cases vs <;> cases ds <;> simp [DataW.TrodAll] at h
    exact ⟨[], rfl, rfl, by simp⟩
  | t :: ts, [], ds, ps, _, _, h => by simp [DataW.TrodAll] at h
  | t :: ts, v :: vs, [], ps, _, _, h => by simp [DataW.TrodAll] at h
  | t :: ts, v :: vs, d :: ds, ps, hr, hok, h => by
    obtain ⟨p, q, h1, h2, rfl⟩ := h
    simp only [List.all_cons, Bool.and_eq_true] at hr
    obtain ⟨x, x1, x2⟩ := arg_D hT hr.1 (hok 0 t v rfl rfl) h1
    obtain ⟨xs, y1, y2, y3⟩ := args_D hT hr.2 (fun j t' v' hj hv => hok (j + 1) t' v' (by simpa using hj) (by simpa using hv)) h2
    refine ⟨x :: xs, ⟨x, xs, rfl, x1, y1⟩, by simp [y2], fun j y u hj hu => ?_⟩
    cases j with
    | zero => simp at hj hu; subst hj; subst hu; exact x2
    | succ j => exact y3 j y u (by simpa using hj) (by simpa using hu)

theorem args_stay {H : Type} {enc : TypeId × Value → H} (hl : laidOutB P = true) {W W' : World} (hold : ∀ i, i < W.heap.size → W'.heap[i]? = W.heap[i]?) {sp : Nat → Bool} : ∀ {ts : List TypeId} {vs : List Value} {ds : List (DataW H)} {ps : List MemPlace},
    ts.all (fun t => P.readableRec t && decide (t < P.types.size)) = true → (∀ p ∈ ps, sp p.block = true) → (∀ p ∈ ps, p.block < W.heap.size) →
    DataW.TrodAll enc P W 0 (fun _ => true) true ts vs ds ps → DataW.TrodAll enc P W' 0 sp true ts vs ds ps
  | [], vs, ds, ps, _, _, _, h => by
    cases vs <;> cases ds <;> simp [DataW.TrodAll] at h ⊢
    exact h
  | t :: ts, [], ds, ps, _, _, _, h => by simp [DataW.TrodAll] at h
  | t :: ts, v :: vs, [], ps, _, _, _, h => by simp [DataW.TrodAll] at h
  | t :: ts, v :: vs, d :: ds, ps, hr, hs, hlt, h => by
    obtain ⟨p, q, h1, h2, rfl⟩ := h
    simp only [List.all_cons, Bool.and_eq_true, decide_eq_true_eq] at hr
    refine ⟨p, q, Go.WideElems.Trod_stays hl hr.1.1 hr.1.2 h1 (fun x hx => ?_) (fun x hx => hs x (List.mem_append_left _ hx)), args_stay hl hold hr.2 (fun x hx => hs x (List.mem_append_right _ hx)) (fun x hx => hlt x (List.mem_append_right _ hx)) h2, rfl⟩
    have hb := hold x.block (hlt x (List.mem_append_left _ hx))
    cases x with
    | cell b off => exact World.cell?_of_block (a := ⟨b, off, none⟩) hb
    | map b => exact hb

/-- **A law, out of a pure contract.** -/
theorem law_contract {C : Checked} {H : Type} {enc : TypeId × Value → H} (hT : tokB C.prog T = true) {n : Nat} {f : FuncId} {fn : Func} (hf : C.prog.funcs[f]? = some fn) (hname : (fn.name == "runtime.NumGoroutine") = false) (hbody : fn.body.isSome = true)
    (hread : fn.params.toList.all (readOk T n) = true) (hl : laidOutB C.prog = true) (hrec : fn.params.toList.all (fun t => C.prog.readableRec t && decide (t < C.prog.types.size)) = true)
    {tb : TypeId} (hres : fn.resultTypes = #[tb]) (htb : C.prog.underlying tb = some .bool) {s : ChangeSpec} (hvars : s.vars = []) {m : Nat} (hm : fn.params.toList.length = m)
    (hs : ∀ ds : List (DataW H), ds.length = m → s.fn H ds = { results := [.lit (.bool true)], args := ds })
    (hp : ∀ xs, ArgsTy T n fn.params.toList xs → CallP C.prog f (xs.map .d) (retD [.b true])) {apart fresh handsOn again : Bool}
    (W : World) (hglob : GlobOk W (AllS W)) (base : Nat) (args : Array Value) (ds gs : List (DataW H)) (before : List MemPlace) (hval : ∀ (j : Nat) t v, fn.params[j]? = some t → args[j]? = some v → Value.okWide C.prog W .any base t v)
    (hW : DataW.Whole enc C.prog fn.params.toList s.vars apart W args.toList ds gs before) :
    Calls C.prog f args W fun e W' => ∃ v, e = .returned v ∧ s.post enc C.prog fn apart fresh handsOn again W args v W' := by
  have hW' := hW
  obtain ⟨p, q, hA, hV, rfl, hfz, hnd⟩ := hW
  rw [hvars] at hV
  obtain ⟨rfl, rfl⟩ := trodVars_none hV
  obtain ⟨xs, x1, x2, x3⟩ := args_D hT hread (fun j t v hj hv => hval j t v (by simpa using hj) (by simpa using hv)) hA
  have hc := hp xs x1 W (AllS W) [] [] args (hr_nil (fun b o h => h) hglob) ⟨by simpa using x2.symm, fun j c u hj hu => by
    rw [List.getElem?_map] at hj
    cases hx : xs[j]? with
    | none => simp [hx] at hj
    | some x => simp [hx] at hj; subst hj; exact .d (x3 j x u hx (by simpa using hu))⟩
  obtain ⟨c, hb⟩ := Option.isSome_iff_exists.1 hbody
  have he := Go.MuLone.run_callFunc_enter hf hname hb args W
  rcases hc with ⟨_, hc⟩ | ⟨v, w', h1, _⟩
  case inr => rw [he] at h1; cases h1
  refine hc.mono fun e W' ⟨cv, he, S', β', _, hv, E⟩ => ⟨cv, he, ?_⟩
  have hcv : cv = .bool true := bool_inv hv
  subst hcv
  have hold : ∀ i, i < W.heap.size → W'.heap[i]? = W.heap[i]? := fun i hi => E.frame i hi (by rintro ⟨n, p, h⟩; simp at h)
  have hdl : ds.length = m := by
    have : ∀ {ts : List TypeId} {vs : List Value} {ds : List (DataW H)} {ps : List MemPlace}, DataW.TrodAll enc C.prog W 0 (fun _ => true) true ts vs ds ps → ds.length = ts.length := by
      intro ts
      induction ts with
      | nil => intro vs ds ps h; cases vs <;> cases ds <;> simp [DataW.TrodAll] at h ⊢
      | cons t ts ih =>
        intro vs ds ps h
        cases vs with
        | nil => simp [DataW.TrodAll] at h
        | cons v vs =>
          cases ds with
          | nil => simp [DataW.TrodAll] at h
          | cons d ds =>
            obtain ⟨_, _, _, h2, _⟩ := h
            simp [ih h2]
    rw [this hA, hm]
  have hsp := hs (ds ++ []) (by simpa using hdl)
  refine post_of_old (pa := p) (pv := []) hW' (fun b sp hd => ?_) (fun sp hsp' => ?_) (fun sp _ => ?_) rfl ⟨E.outer.1.1, E.outer.1.2, fun i hi => ?_⟩ E.froz ?_
  · rw [hsp, hres]
    exact trodAll_mk1 (shut_bool htb true)
  · rw [hsp]
    simp only [List.append_nil] at hsp' ⊢
    exact args_stay hl hold hrec hsp' (fun x hx => hW'.lt x (by simpa using hx)) hA
  · rw [hsp, hvars]; rfl
  · rw [hold i hi]
    cases hh : W.heap[i]? with
    | none => trivial
    | some o =>
      cases o with
      | cells c t fr => exact ⟨rfl, rfl, rfl, fun _ _ => rfl⟩
      | map es clock => exact .inr ⟨rfl, rfl⟩
      | _ => rfl
  · exact ok_one hres rfl (okWide_bool_mk htb true)

end Go.PM
