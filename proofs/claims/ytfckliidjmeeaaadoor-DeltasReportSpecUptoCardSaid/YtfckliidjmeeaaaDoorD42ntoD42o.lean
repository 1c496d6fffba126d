/- Deltas: entries of a plan. -/
import Derived.Test.YtfckliidjmeeaaaDoorD42ktoD42m
namespace Go.PM
open Go.Proofs
set_option maxRecDepth 10000
set_option maxHeartbeats 2000000
def entsM {α : Type} (word : List UInt8) (f : α → List Part) (l : List α) : List Ent := l.mapIdx fun i x => entM word (i : Nat) (f x)
theorem entsM_len {α : Type} (word : List UInt8) (f : α → List Part) (l : List α) : (entsM word f l).length = l.length := by unfold entsM; simp
theorem entsM_next {α : Type} (word : List UInt8) (f : α → List Part) {l : List α} {i : Nat} {x : α} (h : l[i]? = some x) : entsM word f (l.take (i + 1)) = entsM word f (l.take i) ++ [entM word (i : Nat) (f x)] := by
  have hi := (List.getElem?_eq_some_iff.1 h).1
  unfold entsM
  rw [List.take_add_one, h]
  simp only [Option.toList_some, List.mapIdx_append, List.mapIdx_cons, List.mapIdx_nil, Nat.zero_add, List.length_take]
  rw [Nat.min_eq_left (by omega)]
theorem entsM_nil {α : Type} (word : List UInt8) (f : α → List Part) : entsM word f [] = [] := rfl
structure XR where
  i : Nat
  v : Nat
  n : Nat
  rs : List D
theorem look_only {ts : Tm} (t : Nat) : ∀ l : Tm, SameT ts l → look l t = .u ∨ look l t = look ts t
  | [], _ => .inl rfl
  | (j, v) :: r, h => by
    simp only [look]
    cases hj : Nat.beq j t with
    | false => exact look_only t r h.2
    | true => exact .inr (by rw [← Nat.eq_of_beq_eq_true hj]; exact h.1.symm)
theorem ALoop.only {P : Program} {N : Nat} {c : Code} {ts : Tm} {h : Hp} {k : Ex → Tm → Hp → Prop} (l : Tm) (hl : SameT ts l) (hx : ALoop P N c l h k) : ALoop P N c ts h k :=
  ALoop.weak (fun C a w S β hs => ⟨S, β, ⟨hs.hr, fun t => by
    rcases look_only t l hl with e | e
    · rw [e]; exact .u _
    · rw [e]; exact hs.tr t, hs.size, hs.marks, hs.round, hs.base⟩, Evol.refl _ _ _ _⟩) hx
def oneP {α : Type} (f : α → Part) (x : α) : List Part := [f x]
def wPlan : List UInt8 := [112, 108, 97, 110]
def wLine : List UInt8 := [108, 105, 110, 101]
def wNeed : List UInt8 := [110, 101, 101, 100]
def wLot : List UInt8 := [108, 111, 116]
def wCost : List UInt8 := [99, 111, 115, 116]
def wJob : List UInt8 := [106, 111, 98]
def wPeg : List UInt8 := [112, 101, 103]
def wLate : List UInt8 := [108, 97, 116, 101]
def wPrice : List UInt8 := [112, 114, 105, 99, 101]
def headM (p : Pla) : Ent := ⟨⟨wPlan.toArray⟩, ⟨(txt [.int p.start, .int p.days]).toArray⟩⟩
def planM (p : Pla) : List Ent := [headM p] ++ entsM wLine (oneP Lin.part) p.lines ++ entsM wNeed Nee.parts p.needs ++ entsM wLot Lo.parts p.lots ++ entsM wCost (oneP .int) p.costs ++ entsM wJob Jo.parts p.jobs ++ entsM wPeg Pe.parts p.pegs ++ entsM wLate (oneP .int) p.late
def okL {α : Type} (f : α → List Part) (l : List α) : Prop := l.length < 2 ^ 24 ∧ ∀ x ∈ l, okP (f x)
structure Pla.ok (p : Pla) : Prop where
  head : okP [.int p.start, .int p.days]
  lines : okL (oneP Lin.part) p.lines
  needs : okL Nee.parts p.needs
  lots : okL Lo.parts p.lots
  costs : okL (oneP .int) p.costs
  jobs : okL Jo.parts p.jobs
  pegs : okL Pe.parts p.pegs
  late : okL (oneP .int) p.late
theorem deltas_addPlan (p : Pla) (hp : p.ok) (v : Nat) (es : List Ent) (he : es.length < 2 ^ 26) :
    CallV Tryd.prog 28 [.ptr 0 0 0 0, .d p.d] (HR2 v es) fun r h' => r = retD [] ∧ h'.length = (HR2 v es).length ∧ h'.all (okB (HR2 v es).length) = true ∧ ∃ v', h' = HR2 v' (es ++ planM p) := by
  refine exUpd_sound (E := envOf Tryd.prog tt Tryd.f28.ntmps) (envOf_ok ttok mixed) Tryd.func28 (by rfl) rfl (Nat.le_of_ble_eq_true rfl) ?_
  have hW := write_all true [.int p.start, .int p.days] hp.head.len hp.head.ok
  unfold HR2
  repeat' ((conv => whnf); first | (with_reducible first | refine dT ?_ | refine dU ?_ | refine dF ?_ | refine dG ?_) | refine aT ?_ | refine aF ?_ | refine dS (fun _ => ?_) fun _ => ?_ | refine aW ?_ | refine aC ?_ | refine aL ?_ | refine Prep.skip ?_ | refine Eith.l ?_ | refine aD ?_ | refine aB (fun _ => ?_) fun _ => ?_ | (refine ACall.writeNew (l := [.int p.start, .int p.days]) hW hp.head.txt rfl ?_; intro v') | (conv => whnf); first | refine Nam.mk (bytesL_bD _) ?_ | (with_reducible first | refine dT ?_ | refine dU ?_ | refine dF ?_ | refine dG ?_) | refine aT ?_ | refine aF ?_ | refine dS (fun _ => ?_) fun _ => ?_ | refine aW ?_ | refine aC ?_ | refine aL ?_ | refine Prep.skip ?_ | refine Eith.l ?_ | refine aD ?_ | refine aB (fun _ => ?_) fun _ => ?_ | refine Nam.mk (List.length_map _) ?_ | fail)
  all_goals (conv => whnf)
  obtain ⟨e0, he0⟩ : ∃ e0, e0 = es ++ [headM p] := ⟨_, rfl⟩
  have hl0 : e0.length = es.length + 1 := by rw [he0]; simp
  have hn0 : es.length + 1 = e0.length := by rw [he0]; simp
  have hr0 : dropL (es.map Ent.d) 0 ++ [(headM p).d] = e0.map Ent.d := by rw [he0]; simp [dropL]
  refine ALoop.only [(43, .d (I 0)), (42, .d (I p.lines.length)), (41, .d (SL 3 (p.lines.map Lin.d))), (3, .ptr 2 0 0 0), (1, .d p.d), (0, .ptr 0 0 0 0)] (by repeat (first | exact trivial | refine And.intro rfl ?_)) ?_
  refine ALoop.at (E := envOf Tryd.prog tt Tryd.f28.ntmps) (envOf_ok ttok mixed) (X := XR) (fun x => [(43, .d (I x.i))]) (fun x => [(0, .var [.sref 1 x.v 0 x.n false]), (1, .row x.v 2 false x.rs)])
    (fun x => x.i ≤ p.lines.length ∧ x.n = (e0 ++ entsM wLine (oneP Lin.part) (p.lines.take x.i)).length ∧ x.rs = (e0 ++ entsM wLine (oneP Lin.part) (p.lines.take x.i)).map Ent.d) (fun x => p.lines.length - x.i) ⟨0, (v + 1), (es.length + 1), (dropL (es.map Ent.d) 0 ++ [(headM p).d])⟩ sam rfl ⟨Nat.zero_le _, by rw [List.take_zero, entsM_nil, List.append_nil]; exact hn0, by rw [List.take_zero, entsM_nil, List.append_nil]; exact hr0⟩ ?_
  rintro ⟨i0, v0, n0, r0⟩ ⟨hi0, hn0', hr0'⟩
  dsimp only at hi0 hn0' hr0'
  dsimp only
  by_cases hlt : i0 < p.lines.length
  · obtain ⟨z, hz, _⟩ := drop_get hlt
    have hm := hp.lines.1
    have hll : (e0 ++ entsM wLine (oneP Lin.part) (p.lines.take i0)).length < 2 ^ 28 := by rw [List.length_append, entsM_len, List.length_take]; omega
    have hzi : okI (i0 : Int) := ⟨by omega, by omega⟩
    have hzp : okP ((oneP Lin.part) z) := hp.lines.2 z (List.mem_of_getElem? hz)
    repeat' ((conv => whnf); first | (with_reducible first | refine dT ?_ | refine dU ?_ | refine dF ?_ | refine dG ?_) | refine aT ?_ | refine aF ?_ | refine dS (fun _ => ?_) fun _ => ?_ | refine aW ?_ | refine aC ?_ | refine aL ?_ | refine Prep.skip ?_ | refine Eith.l ?_ | refine aD ?_ | refine aB (fun _ => ?_) fun _ => ?_ | refine nthK_mk (map_get (f := Lin.d) hz) ?_ | (refine ACall.add (word := wLine) (l := (oneP Lin.part) z) (by decide) hzi hzp (by decide) hll rfl hn0' rfl hr0' rfl rfl ?_; intro v') | fail)
    all_goals (conv => whnf)
    all_goals first | (exfalso; omega) | skip
    refine ⟨⟨i0 + 1, v', _, _⟩, Wm.end sam rfl rfl rfl, ⟨hlt, ?_, ?_⟩, by show p.lines.length - (i0 + 1) < p.lines.length - i0; omega⟩
    · show _ = (e0 ++ entsM wLine (oneP Lin.part) (p.lines.take (i0 + 1))).length
      rw [entsM_next wLine (oneP Lin.part) hz, ← List.append_assoc]
    · show _ = (e0 ++ entsM wLine (oneP Lin.part) (p.lines.take (i0 + 1))).map Ent.d
      rw [entsM_next wLine (oneP Lin.part) hz, ← List.append_assoc]
  have hie : i0 = p.lines.length := by omega
  subst hie
  rw [List.take_length] at hn0' hr0'
  clear hlt
  obtain ⟨e1, he1⟩ : ∃ e1, e1 = e0 ++ entsM wLine (oneP Lin.part) p.lines := ⟨_, rfl⟩
  rw [← he1] at hn0' hr0'
  have hl1 : e1.length < es.length + 1 + 1 * 2 ^ 24 := by
    have := hp.lines.1
    rw [he1, List.length_append, entsM_len]; omega
  repeat' ((conv => whnf); first | (with_reducible first | refine dT ?_ | refine dU ?_ | refine dF ?_ | refine dG ?_) | refine aT ?_ | refine aF ?_ | refine dS (fun _ => ?_) fun _ => ?_ | refine aW ?_ | refine aC ?_ | refine aL ?_ | refine Prep.skip ?_ | refine Eith.l ?_ | refine aD ?_ | refine aB (fun _ => ?_) fun _ => ?_ | refine Nam.mk (List.length_map _) ?_ | fail)
  all_goals (conv => whnf)
  all_goals first | (exfalso; omega) | skip
  refine ALoop.only [(58, .d (I 0)), (57, .d (I p.needs.length)), (56, .d (SL 9 (p.needs.map Nee.d))), (3, .ptr 2 0 0 0), (1, .d p.d), (0, .ptr 0 0 0 0)] (by repeat (first | exact trivial | refine And.intro rfl ?_)) ?_
  refine ALoop.at (E := envOf Tryd.prog tt Tryd.f28.ntmps) (envOf_ok ttok mixed) (X := XR) (fun x => [(58, .d (I x.i))]) (fun x => [(0, .var [.sref 1 x.v 0 x.n false]), (1, .row x.v 2 false x.rs)])
    (fun x => x.i ≤ p.needs.length ∧ x.n = (e1 ++ entsM wNeed Nee.parts (p.needs.take x.i)).length ∧ x.rs = (e1 ++ entsM wNeed Nee.parts (p.needs.take x.i)).map Ent.d) (fun x => p.needs.length - x.i) ⟨0, v0, n0, r0⟩ sam rfl ⟨Nat.zero_le _, by rw [List.take_zero, entsM_nil, List.append_nil]; exact hn0', by rw [List.take_zero, entsM_nil, List.append_nil]; exact hr0'⟩ ?_
  rintro ⟨i1, v1, n1, r1⟩ ⟨hi1, hn1', hr1'⟩
  dsimp only at hi1 hn1' hr1'
  dsimp only
  by_cases hlt : i1 < p.needs.length
  · obtain ⟨z, hz, _⟩ := drop_get hlt
    have hm := hp.needs.1
    have hll : (e1 ++ entsM wNeed Nee.parts (p.needs.take i1)).length < 2 ^ 28 := by rw [List.length_append, entsM_len, List.length_take]; omega
    have hzi : okI (i1 : Int) := ⟨by omega, by omega⟩
    have hzp : okP (Nee.parts z) := hp.needs.2 z (List.mem_of_getElem? hz)
    repeat' ((conv => whnf); first | (with_reducible first | refine dT ?_ | refine dU ?_ | refine dF ?_ | refine dG ?_) | refine aT ?_ | refine aF ?_ | refine dS (fun _ => ?_) fun _ => ?_ | refine aW ?_ | refine aC ?_ | refine aL ?_ | refine Prep.skip ?_ | refine Eith.l ?_ | refine aD ?_ | refine aB (fun _ => ?_) fun _ => ?_ | refine nthK_mk (map_get (f := Nee.d) hz) ?_ | (refine ACall.add (word := wNeed) (l := Nee.parts z) (by decide) hzi hzp (by decide) hll rfl hn1' rfl hr1' rfl rfl ?_; intro v') | fail)
    all_goals (conv => whnf)
    all_goals first | (exfalso; omega) | skip
    refine ⟨⟨i1 + 1, v', _, _⟩, Wm.end sam rfl rfl rfl, ⟨hlt, ?_, ?_⟩, by show p.needs.length - (i1 + 1) < p.needs.length - i1; omega⟩
    · show _ = (e1 ++ entsM wNeed Nee.parts (p.needs.take (i1 + 1))).length
      rw [entsM_next wNeed Nee.parts hz, ← List.append_assoc]
    · show _ = (e1 ++ entsM wNeed Nee.parts (p.needs.take (i1 + 1))).map Ent.d
      rw [entsM_next wNeed Nee.parts hz, ← List.append_assoc]
  have hie : i1 = p.needs.length := by omega
  subst hie
  rw [List.take_length] at hn1' hr1'
  clear hlt
  obtain ⟨e2, he2⟩ : ∃ e2, e2 = e1 ++ entsM wNeed Nee.parts p.needs := ⟨_, rfl⟩
  rw [← he2] at hn1' hr1'
  have hl2 : e2.length < es.length + 1 + 2 * 2 ^ 24 := by
    have := hp.needs.1
    rw [he2, List.length_append, entsM_len]; omega
  repeat' ((conv => whnf); first | (with_reducible first | refine dT ?_ | refine dU ?_ | refine dF ?_ | refine dG ?_) | refine aT ?_ | refine aF ?_ | refine dS (fun _ => ?_) fun _ => ?_ | refine aW ?_ | refine aC ?_ | refine aL ?_ | refine Prep.skip ?_ | refine Eith.l ?_ | refine aD ?_ | refine aB (fun _ => ?_) fun _ => ?_ | refine Nam.mk (List.length_map _) ?_ | fail)
  all_goals (conv => whnf)
  all_goals first | (exfalso; omega) | skip
  refine ALoop.only [(86, .d (I 0)), (85, .d (I p.lots.length)), (84, .d (SL 5 (p.lots.map Lo.d))), (3, .ptr 2 0 0 0), (1, .d p.d), (0, .ptr 0 0 0 0)] (by repeat (first | exact trivial | refine And.intro rfl ?_)) ?_
  refine ALoop.at (E := envOf Tryd.prog tt Tryd.f28.ntmps) (envOf_ok ttok mixed) (X := XR) (fun x => [(86, .d (I x.i))]) (fun x => [(0, .var [.sref 1 x.v 0 x.n false]), (1, .row x.v 2 false x.rs)])
    (fun x => x.i ≤ p.lots.length ∧ x.n = (e2 ++ entsM wLot Lo.parts (p.lots.take x.i)).length ∧ x.rs = (e2 ++ entsM wLot Lo.parts (p.lots.take x.i)).map Ent.d) (fun x => p.lots.length - x.i) ⟨0, v1, n1, r1⟩ sam rfl ⟨Nat.zero_le _, by rw [List.take_zero, entsM_nil, List.append_nil]; exact hn1', by rw [List.take_zero, entsM_nil, List.append_nil]; exact hr1'⟩ ?_
  rintro ⟨i2, v2, n2, r2⟩ ⟨hi2, hn2', hr2'⟩
  dsimp only at hi2 hn2' hr2'
  dsimp only
  by_cases hlt : i2 < p.lots.length
  · obtain ⟨z, hz, _⟩ := drop_get hlt
    have hm := hp.lots.1
    have hll : (e2 ++ entsM wLot Lo.parts (p.lots.take i2)).length < 2 ^ 28 := by rw [List.length_append, entsM_len, List.length_take]; omega
    have hzi : okI (i2 : Int) := ⟨by omega, by omega⟩
    have hzp : okP (Lo.parts z) := hp.lots.2 z (List.mem_of_getElem? hz)
    repeat' ((conv => whnf); first | (with_reducible first | refine dT ?_ | refine dU ?_ | refine dF ?_ | refine dG ?_) | refine aT ?_ | refine aF ?_ | refine dS (fun _ => ?_) fun _ => ?_ | refine aW ?_ | refine aC ?_ | refine aL ?_ | refine Prep.skip ?_ | refine Eith.l ?_ | refine aD ?_ | refine aB (fun _ => ?_) fun _ => ?_ | refine nthK_mk (map_get (f := Lo.d) hz) ?_ | (refine ACall.add (word := wLot) (l := Lo.parts z) (by decide) hzi hzp (by decide) hll rfl hn2' rfl hr2' rfl rfl ?_; intro v') | fail)
    all_goals (conv => whnf)
    all_goals first | (exfalso; omega) | skip
    refine ⟨⟨i2 + 1, v', _, _⟩, Wm.end sam rfl rfl rfl, ⟨hlt, ?_, ?_⟩, by show p.lots.length - (i2 + 1) < p.lots.length - i2; omega⟩
    · show _ = (e2 ++ entsM wLot Lo.parts (p.lots.take (i2 + 1))).length
      rw [entsM_next wLot Lo.parts hz, ← List.append_assoc]
    · show _ = (e2 ++ entsM wLot Lo.parts (p.lots.take (i2 + 1))).map Ent.d
      rw [entsM_next wLot Lo.parts hz, ← List.append_assoc]
  have hie : i2 = p.lots.length := by omega
  subst hie
  rw [List.take_length] at hn2' hr2'
  clear hlt
  obtain ⟨e3, he3⟩ : ∃ e3, e3 = e2 ++ entsM wLot Lo.parts p.lots := ⟨_, rfl⟩
  rw [← he3] at hn2' hr2'
  have hl3 : e3.length < es.length + 1 + 3 * 2 ^ 24 := by
    have := hp.lots.1
    rw [he3, List.length_append, entsM_len]; omega
  repeat' ((conv => whnf); first | (with_reducible first | refine dT ?_ | refine dU ?_ | refine dF ?_ | refine dG ?_) | refine aT ?_ | refine aF ?_ | refine dS (fun _ => ?_) fun _ => ?_ | refine aW ?_ | refine aC ?_ | refine aL ?_ | refine Prep.skip ?_ | refine Eith.l ?_ | refine aD ?_ | refine aB (fun _ => ?_) fun _ => ?_ | refine Nam.mk (List.length_map _) ?_ | fail)
  all_goals (conv => whnf)
  all_goals first | (exfalso; omega) | skip
  refine ALoop.only [(108, .d (I 0)), (107, .d (I p.costs.length)), (106, .d (SL 1 (p.costs.map I))), (3, .ptr 2 0 0 0), (1, .d p.d), (0, .ptr 0 0 0 0)] (by repeat (first | exact trivial | refine And.intro rfl ?_)) ?_
  refine ALoop.at (E := envOf Tryd.prog tt Tryd.f28.ntmps) (envOf_ok ttok mixed) (X := XR) (fun x => [(108, .d (I x.i))]) (fun x => [(0, .var [.sref 1 x.v 0 x.n false]), (1, .row x.v 2 false x.rs)])
    (fun x => x.i ≤ p.costs.length ∧ x.n = (e3 ++ entsM wCost (oneP .int) (p.costs.take x.i)).length ∧ x.rs = (e3 ++ entsM wCost (oneP .int) (p.costs.take x.i)).map Ent.d) (fun x => p.costs.length - x.i) ⟨0, v2, n2, r2⟩ sam rfl ⟨Nat.zero_le _, by rw [List.take_zero, entsM_nil, List.append_nil]; exact hn2', by rw [List.take_zero, entsM_nil, List.append_nil]; exact hr2'⟩ ?_
  rintro ⟨i3, v3, n3, r3⟩ ⟨hi3, hn3', hr3'⟩
  dsimp only at hi3 hn3' hr3'
  dsimp only
  by_cases hlt : i3 < p.costs.length
  · obtain ⟨z, hz, _⟩ := drop_get hlt
    have hm := hp.costs.1
    have hll : (e3 ++ entsM wCost (oneP .int) (p.costs.take i3)).length < 2 ^ 28 := by rw [List.length_append, entsM_len, List.length_take]; omega
    have hzi : okI (i3 : Int) := ⟨by omega, by omega⟩
    have hzp : okP ((oneP .int) z) := hp.costs.2 z (List.mem_of_getElem? hz)
    repeat' ((conv => whnf); first | (with_reducible first | refine dT ?_ | refine dU ?_ | refine dF ?_ | refine dG ?_) | refine aT ?_ | refine aF ?_ | refine dS (fun _ => ?_) fun _ => ?_ | refine aW ?_ | refine aC ?_ | refine aL ?_ | refine Prep.skip ?_ | refine Eith.l ?_ | refine aD ?_ | refine aB (fun _ => ?_) fun _ => ?_ | refine nthK_mk (map_get (f := I) hz) ?_ | (refine ACall.add (word := wCost) (l := (oneP .int) z) (by decide) hzi hzp (by decide) hll rfl hn3' rfl hr3' rfl rfl ?_; intro v') | fail)
    all_goals (conv => whnf)
    all_goals first | (exfalso; omega) | skip
    refine ⟨⟨i3 + 1, v', _, _⟩, Wm.end sam rfl rfl rfl, ⟨hlt, ?_, ?_⟩, by show p.costs.length - (i3 + 1) < p.costs.length - i3; omega⟩
    · show _ = (e3 ++ entsM wCost (oneP .int) (p.costs.take (i3 + 1))).length
      rw [entsM_next wCost (oneP .int) hz, ← List.append_assoc]
    · show _ = (e3 ++ entsM wCost (oneP .int) (p.costs.take (i3 + 1))).map Ent.d
      rw [entsM_next wCost (oneP .int) hz, ← List.append_assoc]
  have hie : i3 = p.costs.length := by omega
  subst hie
  rw [List.take_length] at hn3' hr3'
  clear hlt
  obtain ⟨e4, he4⟩ : ∃ e4, e4 = e3 ++ entsM wCost (oneP .int) p.costs := ⟨_, rfl⟩
  rw [← he4] at hn3' hr3'
  have hl4 : e4.length < es.length + 1 + 4 * 2 ^ 24 := by
    have := hp.costs.1
    rw [he4, List.length_append, entsM_len]; omega
  repeat' ((conv => whnf); first | (with_reducible first | refine dT ?_ | refine dU ?_ | refine dF ?_ | refine dG ?_) | refine aT ?_ | refine aF ?_ | refine dS (fun _ => ?_) fun _ => ?_ | refine aW ?_ | refine aC ?_ | refine aL ?_ | refine Prep.skip ?_ | refine Eith.l ?_ | refine aD ?_ | refine aB (fun _ => ?_) fun _ => ?_ | refine Nam.mk (List.length_map _) ?_ | fail)
  all_goals (conv => whnf)
  all_goals first | (exfalso; omega) | skip
  refine ALoop.only [(123, .d (I 0)), (122, .d (I p.jobs.length)), (121, .d (SL 6 (p.jobs.map Jo.d))), (3, .ptr 2 0 0 0), (1, .d p.d), (0, .ptr 0 0 0 0)] (by repeat (first | exact trivial | refine And.intro rfl ?_)) ?_
  refine ALoop.at (E := envOf Tryd.prog tt Tryd.f28.ntmps) (envOf_ok ttok mixed) (X := XR) (fun x => [(123, .d (I x.i))]) (fun x => [(0, .var [.sref 1 x.v 0 x.n false]), (1, .row x.v 2 false x.rs)])
    (fun x => x.i ≤ p.jobs.length ∧ x.n = (e4 ++ entsM wJob Jo.parts (p.jobs.take x.i)).length ∧ x.rs = (e4 ++ entsM wJob Jo.parts (p.jobs.take x.i)).map Ent.d) (fun x => p.jobs.length - x.i) ⟨0, v3, n3, r3⟩ sam rfl ⟨Nat.zero_le _, by rw [List.take_zero, entsM_nil, List.append_nil]; exact hn3', by rw [List.take_zero, entsM_nil, List.append_nil]; exact hr3'⟩ ?_
  rintro ⟨i4, v4, n4, r4⟩ ⟨hi4, hn4', hr4'⟩
  dsimp only at hi4 hn4' hr4'
  dsimp only
  by_cases hlt : i4 < p.jobs.length
  · obtain ⟨z, hz, _⟩ := drop_get hlt
    have hm := hp.jobs.1
    have hll : (e4 ++ entsM wJob Jo.parts (p.jobs.take i4)).length < 2 ^ 28 := by rw [List.length_append, entsM_len, List.length_take]; omega
    have hzi : okI (i4 : Int) := ⟨by omega, by omega⟩
    have hzp : okP (Jo.parts z) := hp.jobs.2 z (List.mem_of_getElem? hz)
    repeat' ((conv => whnf); first | (with_reducible first | refine dT ?_ | refine dU ?_ | refine dF ?_ | refine dG ?_) | refine aT ?_ | refine aF ?_ | refine dS (fun _ => ?_) fun _ => ?_ | refine aW ?_ | refine aC ?_ | refine aL ?_ | refine Prep.skip ?_ | refine Eith.l ?_ | refine aD ?_ | refine aB (fun _ => ?_) fun _ => ?_ | refine nthK_mk (map_get (f := Jo.d) hz) ?_ | (refine ACall.add (word := wJob) (l := Jo.parts z) (by decide) hzi hzp (by decide) hll rfl hn4' rfl hr4' rfl rfl ?_; intro v') | fail)
    all_goals (conv => whnf)
    all_goals first | (exfalso; omega) | skip
    refine ⟨⟨i4 + 1, v', _, _⟩, Wm.end sam rfl rfl rfl, ⟨hlt, ?_, ?_⟩, by show p.jobs.length - (i4 + 1) < p.jobs.length - i4; omega⟩
    · show _ = (e4 ++ entsM wJob Jo.parts (p.jobs.take (i4 + 1))).length
      rw [entsM_next wJob Jo.parts hz, ← List.append_assoc]
    · show _ = (e4 ++ entsM wJob Jo.parts (p.jobs.take (i4 + 1))).map Ent.d
      rw [entsM_next wJob Jo.parts hz, ← List.append_assoc]
  have hie : i4 = p.jobs.length := by omega
  subst hie
  rw [List.take_length] at hn4' hr4'
  clear hlt
  obtain ⟨e5, he5⟩ : ∃ e5, e5 = e4 ++ entsM wJob Jo.parts p.jobs := ⟨_, rfl⟩
  rw [← he5] at hn4' hr4'
  have hl5 : e5.length < es.length + 1 + 5 * 2 ^ 24 := by
    have := hp.jobs.1
    rw [he5, List.length_append, entsM_len]; omega
  repeat' ((conv => whnf); first | (with_reducible first | refine dT ?_ | refine dU ?_ | refine dF ?_ | refine dG ?_) | refine aT ?_ | refine aF ?_ | refine dS (fun _ => ?_) fun _ => ?_ | refine aW ?_ | refine aC ?_ | refine aL ?_ | refine Prep.skip ?_ | refine Eith.l ?_ | refine aD ?_ | refine aB (fun _ => ?_) fun _ => ?_ | refine Nam.mk (List.length_map _) ?_ | fail)
  all_goals (conv => whnf)
  all_goals first | (exfalso; omega) | skip
  refine ALoop.only [(154, .d (I 0)), (153, .d (I p.pegs.length)), (152, .d (SL 6 (p.pegs.map Pe.d))), (3, .ptr 2 0 0 0), (1, .d p.d), (0, .ptr 0 0 0 0)] (by repeat (first | exact trivial | refine And.intro rfl ?_)) ?_
  refine ALoop.at (E := envOf Tryd.prog tt Tryd.f28.ntmps) (envOf_ok ttok mixed) (X := XR) (fun x => [(154, .d (I x.i))]) (fun x => [(0, .var [.sref 1 x.v 0 x.n false]), (1, .row x.v 2 false x.rs)])
    (fun x => x.i ≤ p.pegs.length ∧ x.n = (e5 ++ entsM wPeg Pe.parts (p.pegs.take x.i)).length ∧ x.rs = (e5 ++ entsM wPeg Pe.parts (p.pegs.take x.i)).map Ent.d) (fun x => p.pegs.length - x.i) ⟨0, v4, n4, r4⟩ sam rfl ⟨Nat.zero_le _, by rw [List.take_zero, entsM_nil, List.append_nil]; exact hn4', by rw [List.take_zero, entsM_nil, List.append_nil]; exact hr4'⟩ ?_
  rintro ⟨i5, v5, n5, r5⟩ ⟨hi5, hn5', hr5'⟩
  dsimp only at hi5 hn5' hr5'
  dsimp only
  by_cases hlt : i5 < p.pegs.length
  · obtain ⟨z, hz, _⟩ := drop_get hlt
    have hm := hp.pegs.1
    have hll : (e5 ++ entsM wPeg Pe.parts (p.pegs.take i5)).length < 2 ^ 28 := by rw [List.length_append, entsM_len, List.length_take]; omega
    have hzi : okI (i5 : Int) := ⟨by omega, by omega⟩
    have hzp : okP (Pe.parts z) := hp.pegs.2 z (List.mem_of_getElem? hz)
    repeat' ((conv => whnf); first | (with_reducible first | refine dT ?_ | refine dU ?_ | refine dF ?_ | refine dG ?_) | refine aT ?_ | refine aF ?_ | refine dS (fun _ => ?_) fun _ => ?_ | refine aW ?_ | refine aC ?_ | refine aL ?_ | refine Prep.skip ?_ | refine Eith.l ?_ | refine aD ?_ | refine aB (fun _ => ?_) fun _ => ?_ | refine nthK_mk (map_get (f := Pe.d) hz) ?_ | (refine ACall.add (word := wPeg) (l := Pe.parts z) (by decide) hzi hzp (by decide) hll rfl hn5' rfl hr5' rfl rfl ?_; intro v') | fail)
    all_goals (conv => whnf)
    all_goals first | (exfalso; omega) | skip
    refine ⟨⟨i5 + 1, v', _, _⟩, Wm.end sam rfl rfl rfl, ⟨hlt, ?_, ?_⟩, by show p.pegs.length - (i5 + 1) < p.pegs.length - i5; omega⟩
    · show _ = (e5 ++ entsM wPeg Pe.parts (p.pegs.take (i5 + 1))).length
      rw [entsM_next wPeg Pe.parts hz, ← List.append_assoc]
    · show _ = (e5 ++ entsM wPeg Pe.parts (p.pegs.take (i5 + 1))).map Ent.d
      rw [entsM_next wPeg Pe.parts hz, ← List.append_assoc]
  have hie : i5 = p.pegs.length := by omega
  subst hie
  rw [List.take_length] at hn5' hr5'
  clear hlt
  obtain ⟨e6, he6⟩ : ∃ e6, e6 = e5 ++ entsM wPeg Pe.parts p.pegs := ⟨_, rfl⟩
  rw [← he6] at hn5' hr5'
  have hl6 : e6.length < es.length + 1 + 6 * 2 ^ 24 := by
    have := hp.pegs.1
    rw [he6, List.length_append, entsM_len]; omega
  repeat' ((conv => whnf); first | (with_reducible first | refine dT ?_ | refine dU ?_ | refine dF ?_ | refine dG ?_) | refine aT ?_ | refine aF ?_ | refine dS (fun _ => ?_) fun _ => ?_ | refine aW ?_ | refine aC ?_ | refine aL ?_ | refine Prep.skip ?_ | refine Eith.l ?_ | refine aD ?_ | refine aB (fun _ => ?_) fun _ => ?_ | refine Nam.mk (List.length_map _) ?_ | fail)
  all_goals (conv => whnf)
  all_goals first | (exfalso; omega) | skip
  refine ALoop.only [(179, .d (I 0)), (178, .d (I p.late.length)), (177, .d (SL 1 (p.late.map I))), (3, .ptr 2 0 0 0), (1, .d p.d), (0, .ptr 0 0 0 0)] (by repeat (first | exact trivial | refine And.intro rfl ?_)) ?_
  refine ALoop.at (E := envOf Tryd.prog tt Tryd.f28.ntmps) (envOf_ok ttok mixed) (X := XR) (fun x => [(179, .d (I x.i))]) (fun x => [(0, .var [.sref 1 x.v 0 x.n false]), (1, .row x.v 2 false x.rs)])
    (fun x => x.i ≤ p.late.length ∧ x.n = (e6 ++ entsM wLate (oneP .int) (p.late.take x.i)).length ∧ x.rs = (e6 ++ entsM wLate (oneP .int) (p.late.take x.i)).map Ent.d) (fun x => p.late.length - x.i) ⟨0, v5, n5, r5⟩ sam rfl ⟨Nat.zero_le _, by rw [List.take_zero, entsM_nil, List.append_nil]; exact hn5', by rw [List.take_zero, entsM_nil, List.append_nil]; exact hr5'⟩ ?_
  rintro ⟨i6, v6, n6, r6⟩ ⟨hi6, hn6', hr6'⟩
  dsimp only at hi6 hn6' hr6'
  dsimp only
  by_cases hlt : i6 < p.late.length
  · obtain ⟨z, hz, _⟩ := drop_get hlt
    have hm := hp.late.1
    have hll : (e6 ++ entsM wLate (oneP .int) (p.late.take i6)).length < 2 ^ 28 := by rw [List.length_append, entsM_len, List.length_take]; omega
    have hzi : okI (i6 : Int) := ⟨by omega, by omega⟩
    have hzp : okP ((oneP .int) z) := hp.late.2 z (List.mem_of_getElem? hz)
    repeat' ((conv => whnf); first | (with_reducible first | refine dT ?_ | refine dU ?_ | refine dF ?_ | refine dG ?_) | refine aT ?_ | refine aF ?_ | refine dS (fun _ => ?_) fun _ => ?_ | refine aW ?_ | refine aC ?_ | refine aL ?_ | refine Prep.skip ?_ | refine Eith.l ?_ | refine aD ?_ | refine aB (fun _ => ?_) fun _ => ?_ | refine nthK_mk (map_get (f := I) hz) ?_ | (refine ACall.add (word := wLate) (l := (oneP .int) z) (by decide) hzi hzp (by decide) hll rfl hn6' rfl hr6' rfl rfl ?_; intro v') | fail)
    all_goals (conv => whnf)
    all_goals first | (exfalso; omega) | skip
    refine ⟨⟨i6 + 1, v', _, _⟩, Wm.end sam rfl rfl rfl, ⟨hlt, ?_, ?_⟩, by show p.late.length - (i6 + 1) < p.late.length - i6; omega⟩
    · show _ = (e6 ++ entsM wLate (oneP .int) (p.late.take (i6 + 1))).length
      rw [entsM_next wLate (oneP .int) hz, ← List.append_assoc]
    · show _ = (e6 ++ entsM wLate (oneP .int) (p.late.take (i6 + 1))).map Ent.d
      rw [entsM_next wLate (oneP .int) hz, ← List.append_assoc]
  have hie : i6 = p.late.length := by omega
  subst hie
  rw [List.take_length] at hn6' hr6'
  clear hlt
  obtain ⟨e7, he7⟩ : ∃ e7, e7 = e6 ++ entsM wLate (oneP .int) p.late := ⟨_, rfl⟩
  rw [← he7] at hn6' hr6'
  have hl7 : e7.length < es.length + 1 + 7 * 2 ^ 24 := by
    have := hp.late.1
    rw [he7, List.length_append, entsM_len]; omega
  repeat' ((conv => whnf); first | (with_reducible first | refine dT ?_ | refine dU ?_ | refine dF ?_ | refine dG ?_) | refine aT ?_ | refine aF ?_ | refine dS (fun _ => ?_) fun _ => ?_ | refine aW ?_ | refine aC ?_ | refine aL ?_ | refine Prep.skip ?_ | refine Eith.l ?_ | refine aD ?_ | refine aB (fun _ => ?_) fun _ => ?_ | refine Nam.mk (List.length_map _) ?_ | fail)
  all_goals (conv => whnf)
  all_goals first | (exfalso; omega) | skip
  refine ⟨rfl, rfl, v6, ?_⟩
  subst hn6'; subst hr6'
  rw [show es ++ planM p = e7 from by rw [he7, he6, he5, he4, he3, he2, he1, he0]; unfold planM; simp only [List.append_assoc]]
  rfl
end Go.PM
/- Deltas: Report. -/
namespace Go.PM
open Go.Proofs
set_option maxRecDepth 10000
set_option maxHeartbeats 2000000
def wVerdict : List UInt8 := [118, 101, 114, 100, 105, 99, 116]
def wAnswer : List UInt8 := [97, 110, 115, 119, 101, 114]
structure Rep where
  p : Pla
  c : List Rat
  v : List Ver
  a : List Ans
def reportM (x : Rep) : List Ent := planM x.p ++ entsM wPrice (oneP .ratio) x.c ++ entsM wVerdict Ver.parts x.v ++ entsM wAnswer Ans.parts x.a
structure Rep.ok (x : Rep) : Prop where
  p : x.p.ok
  c : okL (oneP .ratio) x.c
  v : okL Ver.parts x.v
  a : okL Ans.parts x.a
  leaves : ∀ y ∈ x.v, y.leaves.length < 2 ^ 27
  amts : ∀ y ∈ x.a, y.amts.length < 2 ^ 27 ∧ y.reads.length < 2 ^ 27
def GrowC (B : Nat) (f : FuncId) (ds : List D) (fs : List Ent) : Prop := ∀ (v : Nat) (es : List Ent), es.length < B →
  CallV Tryd.prog f (.ptr 0 0 0 0 :: ds.map V.d) (HR2 v es) fun r h' => r = retD [] ∧ h'.length = (HR2 v es).length ∧ h'.all (okB (HR2 v es).length) = true ∧ ∃ v', h' = HR2 v' (es ++ fs)
theorem ds_ren (ns : List Nat) (ds : List D) : (ds.map V.d).map (renV ns) = ds.map V.d := by simp [renV]
theorem ACall.grow {B : Nat} {f : FuncId} {ds : List D} {fs : List Ent} (hC : GrowC B f ds fs) {n0 n1 v n : Nat} {es : List Ent} {rs : List D} (hne : n0 ≠ n1) (he : es.length < B) {h : Hp} (h0 : h[n0]? = some (.var [.sref n1 v 0 n false])) (hn : n = es.length) (h1 : h[n1]? = some (.row v 2 false rs)) (hx : rs = es.map Ent.d) {args : List V} (ha : args = .ptr n0 0 0 0 :: ds.map V.d) {k : V → Hp → Prop}
    (hk : ∀ v', k (.tup []) ((h.set n0 (.var [.sref n1 v' 0 (es ++ fs).length false])).set n1 (.row v' 2 false ((es ++ fs).map Ent.d)))) : ACall Tryd.prog f args h k := by
  subst hn; subst hx; subst ha
  refine ACall.upd (H := HR2 v es) rfl (by rw [List.all_cons]; simp [okV, HR2]) (hC v es he) [n0, n1] (by simp; exact hne) rfl (by rw [List.map_cons, ds_ren]; rfl) (fun i m hi => ?_) ?_
  · match i, hi with
    | 0, hi => simp at hi; subst hi; rw [h0]; rfl
    | 1, hi => simp at hi; subst hi; rw [h1]; rfl
  · rintro _ ⟨v', rfl⟩ _
    exact ⟨_, WkH.refl _, hk v'⟩
theorem ACall.growNew {B : Nat} (hB : 0 < B) {f : FuncId} {ds : List D} {fs : List Ent} (hC : GrowC B f ds fs) {h : Hp} {n : Nat} (hn : h[n]? = some (.vard [.sl 0 true []])) {args : List V} (ha : args = .ptr n 0 0 0 :: ds.map V.d) {k : V → Hp → Prop}
    (hk : ∀ v', k (.tup []) ((h ++ [Blk.row v' 2 false (fs.map Ent.d)] : Hp).set n (Blk.var [.sref h.length v' 0 fs.length false]))) : ACall Tryd.prog f args h k := by
  have hnl : n < h.length := (List.getElem?_eq_some_iff.1 hn).1
  refine ACall.pre (WkH.of fun N => Wk.virtC (i := 0) (a := 0) (sz := 2) false (by decide) hn rfl) ?_
  refine ACall.grow hC (n0 := n) (n1 := h.length) (es := []) (v := 0) (n := 0) (rs := []) (by omega) hB (by rw [List.getElem?_set_self (by rw [List.length_append]; omega)]; rfl) rfl (by rw [List.getElem?_set_ne (by omega)]; simp) rfl ha ?_
  intro v'
  have he : ((((h ++ [Blk.row 0 2 false []] : Hp).set n (.var (([D.sl 0 true []].map V.d).set 0 (.sref h.length 0 0 0 false)))).set n (.var [.sref h.length v' 0 ([] ++ fs).length false])).set h.length (.row v' 2 false (([] ++ fs).map Ent.d)) : Hp) = (h ++ [Blk.row v' 2 false (fs.map Ent.d)] : Hp).set n (Blk.var [.sref h.length v' 0 fs.length false]) := by
    refine List.ext_getElem? fun j => ?_
    rw [List.nil_append]
    by_cases h1 : j = n
    · subst h1
      rw [List.getElem?_set_ne (by omega), List.getElem?_set_self (by simp; omega), List.getElem?_set_self (by simp; omega)]
    · rw [List.getElem?_set_ne (l := h ++ [Blk.row v' 2 false (fs.map Ent.d)]) (Ne.symm h1)]
      by_cases h2 : j = h.length
      · subst h2
        rw [List.getElem?_set_self (by simp)]; simp
      · rw [List.getElem?_set_ne (Ne.symm h2), List.getElem?_set_ne (Ne.symm h1), List.getElem?_set_ne (Ne.symm h1)]
        by_cases hj : j < h.length
        · rw [List.getElem?_append_left hj, List.getElem?_append_left hj]
        · rw [List.getElem?_eq_none (by simp; omega), List.getElem?_eq_none (by simp; omega)]
  rw [he]
  exact hk v'
theorem grow_plan (p : Pla) (hp : p.ok) : GrowC (2 ^ 26) 28 [p.d] (planM p) := deltas_addPlan p hp
theorem grow_verdict (i : Int) (hi : okI i) (x : Ver) (hx : okP x.parts) (hl : x.leaves.length < 2 ^ 27) : GrowC (2 ^ 28) 30 [I i, x.d] [entM wVerdict i x.parts] := deltas_addVerdict i hi x hx hl
theorem grow_answer (i : Int) (hi : okI i) (x : Ans) (hx : okP x.parts) (hl : x.amts.length < 2 ^ 27) (hr : x.reads.length < 2 ^ 27) : GrowC (2 ^ 28) 31 [I i, x.d] [entM wAnswer i x.parts] := deltas_addAnswer i hi x hx hl hr
theorem deltas_Report (x : Rep) (hx : x.ok) (hd : dE (reportM x)) : CallP Tryd.prog 12 [.d x.p.d, .d (SL 3 (x.c.map Rat.cells)), .d (SL 4 (x.v.map Ver.d)), .d (SL 4 (x.a.map Ans.d))] (retD [SL 2 ((ordE (reportM x)).map Ent.d)]) := by
  refine exPure_sound (E := envOf Tryd.prog tt Tryd.f12.ntmps) (envOf_ok ttok mixed) Tryd.func12 (by rfl) rfl rfl (Nat.le_of_ble_eq_true rfl) ?_
  repeat' ((conv => whnf); first | (with_reducible first | refine dT ?_ | refine dU ?_ | refine dF ?_ | refine dG ?_) | refine aT ?_ | refine aF ?_ | refine dS (fun _ => ?_) fun _ => ?_ | refine aW ?_ | refine aC ?_ | refine aL ?_ | refine Prep.skip ?_ | refine Eith.l ?_ | refine aD ?_ | refine aB (fun _ => ?_) fun _ => ?_ | (refine ACall.growNew (by decide) (grow_plan x.p hx.p) rfl rfl ?_; intro v0) | refine Nam.mk (List.length_map _) ?_ | fail)
  all_goals (conv => whnf)
  obtain ⟨e0, he0⟩ : ∃ e0, e0 = planM x.p := ⟨_, rfl⟩
  have hl0 : e0.length < 2 ^ 27 := by
    have h1 := hx.p.lines.1; have h2 := hx.p.needs.1; have h3 := hx.p.lots.1; have h4 := hx.p.costs.1; have h5 := hx.p.jobs.1; have h6 := hx.p.pegs.1; have h7 := hx.p.late.1
    rw [he0]; unfold planM; simp only [List.length_append, entsM_len, List.length_cons, List.length_nil]; omega
  have hn0 : (planM x.p).length = e0.length := by rw [he0]
  have hr0 : (planM x.p).map Ent.d = e0.map Ent.d := by rw [he0]
  refine ALoop.only [(20, .d (I 0)), (19, .d (I x.c.length)), (18, .d (SL 3 (x.c.map Rat.cells))), (9, .ptr 1 0 0 0), (3, .d (SL 4 (x.a.map Ans.d))), (2, .d (SL 4 (x.v.map Ver.d))), (4, .ptr 0 0 0 0)] (by repeat (first | exact trivial | refine And.intro rfl ?_)) ?_
  refine ALoop.at (E := envOf Tryd.prog tt Tryd.f12.ntmps) (envOf_ok ttok mixed) (X := XR) (fun q => [(20, .d (I q.i))]) (fun q => [(1, .var [.sref 2 q.v 0 q.n false]), (2, .row q.v 2 false q.rs)])
    (fun q => q.i ≤ x.c.length ∧ q.n = (e0 ++ entsM wPrice (oneP .ratio) (x.c.take q.i)).length ∧ q.rs = (e0 ++ entsM wPrice (oneP .ratio) (x.c.take q.i)).map Ent.d) (fun q => x.c.length - q.i) ⟨0, v0, (planM x.p).length, ((planM x.p).map Ent.d)⟩ sam rfl ⟨Nat.zero_le _, by rw [List.take_zero, entsM_nil, List.append_nil]; exact hn0, by rw [List.take_zero, entsM_nil, List.append_nil]; exact hr0⟩ ?_
  rintro ⟨i0, w0, n0, r0⟩ ⟨hi0, hn0', hr0'⟩
  dsimp only at hi0 hn0' hr0'
  dsimp only
  by_cases hlt : i0 < x.c.length
  · obtain ⟨z, hz, _⟩ := drop_get hlt
    have hm := hx.c.1
    have hll : (e0 ++ entsM wPrice (oneP .ratio) (x.c.take i0)).length < 2 ^ 28 := by rw [List.length_append, entsM_len, List.length_take]; omega
    have hzi : okI (i0 : Int) := ⟨by omega, by omega⟩
    have hzm : z ∈ x.c := List.mem_of_getElem? hz
    have hzp : okP ((oneP .ratio) z) := hx.c.2 z hzm
    repeat' ((conv => whnf); first | (with_reducible first | refine dT ?_ | refine dU ?_ | refine dF ?_ | refine dG ?_) | refine aT ?_ | refine aF ?_ | refine dS (fun _ => ?_) fun _ => ?_ | refine aW ?_ | refine aC ?_ | refine aL ?_ | refine Prep.skip ?_ | refine Eith.l ?_ | refine aD ?_ | refine aB (fun _ => ?_) fun _ => ?_ | refine nthK_mk (map_get (f := Rat.cells) hz) ?_ | (refine ACall.add (word := wPrice) (l := (oneP .ratio) z) (by decide) hzi hzp (by decide) hll rfl hn0' rfl hr0' rfl rfl ?_; intro v') | fail)
    all_goals (conv => whnf)
    all_goals first | (exfalso; omega) | skip
    refine ⟨⟨i0 + 1, v', _, _⟩, Wm.end sam rfl rfl rfl, ⟨hlt, ?_, ?_⟩, by show x.c.length - (i0 + 1) < x.c.length - i0; omega⟩
    · show _ = (e0 ++ entsM wPrice (oneP .ratio) (x.c.take (i0 + 1))).length
      rw [entsM_next wPrice (oneP .ratio) hz, ← List.append_assoc]
    · show _ = (e0 ++ entsM wPrice (oneP .ratio) (x.c.take (i0 + 1))).map Ent.d
      rw [entsM_next wPrice (oneP .ratio) hz, ← List.append_assoc]
  have hie : i0 = x.c.length := by omega
  subst hie
  rw [List.take_length] at hn0' hr0'
  clear hlt
  obtain ⟨e1, he1⟩ : ∃ e1, e1 = e0 ++ entsM wPrice (oneP .ratio) x.c := ⟨_, rfl⟩
  rw [← he1] at hn0' hr0'
  have hl1 : e1.length < 2 ^ 27 + 1 * 2 ^ 24 := by
    have := hx.c.1
    rw [he1, List.length_append, entsM_len]; omega
  repeat' ((conv => whnf); first | (with_reducible first | refine dT ?_ | refine dU ?_ | refine dF ?_ | refine dG ?_) | refine aT ?_ | refine aF ?_ | refine dS (fun _ => ?_) fun _ => ?_ | refine aW ?_ | refine aC ?_ | refine aL ?_ | refine Prep.skip ?_ | refine Eith.l ?_ | refine aD ?_ | refine aB (fun _ => ?_) fun _ => ?_ | refine Nam.mk (List.length_map _) ?_ | fail)
  all_goals (conv => whnf)
  all_goals first | (exfalso; omega) | skip
  refine ALoop.only [(33, .d (I 0)), (32, .d (I x.v.length)), (31, .d (SL 4 (x.v.map Ver.d))), (9, .ptr 1 0 0 0), (3, .d (SL 4 (x.a.map Ans.d))), (2, .d (SL 4 (x.v.map Ver.d))), (4, .ptr 0 0 0 0)] (by repeat (first | exact trivial | refine And.intro rfl ?_)) ?_
  refine ALoop.at (E := envOf Tryd.prog tt Tryd.f12.ntmps) (envOf_ok ttok mixed) (X := XR) (fun q => [(33, .d (I q.i))]) (fun q => [(1, .var [.sref 2 q.v 0 q.n false]), (2, .row q.v 2 false q.rs)])
    (fun q => q.i ≤ x.v.length ∧ q.n = (e1 ++ entsM wVerdict Ver.parts (x.v.take q.i)).length ∧ q.rs = (e1 ++ entsM wVerdict Ver.parts (x.v.take q.i)).map Ent.d) (fun q => x.v.length - q.i) ⟨0, w0, n0, r0⟩ sam rfl ⟨Nat.zero_le _, by rw [List.take_zero, entsM_nil, List.append_nil]; exact hn0', by rw [List.take_zero, entsM_nil, List.append_nil]; exact hr0'⟩ ?_
  rintro ⟨i1, w1, n1, r1⟩ ⟨hi1, hn1', hr1'⟩
  dsimp only at hi1 hn1' hr1'
  dsimp only
  by_cases hlt : i1 < x.v.length
  · obtain ⟨z, hz, _⟩ := drop_get hlt
    have hm := hx.v.1
    have hll : (e1 ++ entsM wVerdict Ver.parts (x.v.take i1)).length < 2 ^ 28 := by rw [List.length_append, entsM_len, List.length_take]; omega
    have hzi : okI (i1 : Int) := ⟨by omega, by omega⟩
    have hzm : z ∈ x.v := List.mem_of_getElem? hz
    have hzp : okP (Ver.parts z) := hx.v.2 z hzm
    repeat' ((conv => whnf); first | (with_reducible first | refine dT ?_ | refine dU ?_ | refine dF ?_ | refine dG ?_) | refine aT ?_ | refine aF ?_ | refine dS (fun _ => ?_) fun _ => ?_ | refine aW ?_ | refine aC ?_ | refine aL ?_ | refine Prep.skip ?_ | refine Eith.l ?_ | refine aD ?_ | refine aB (fun _ => ?_) fun _ => ?_ | refine nthK_mk (map_get (f := Ver.d) hz) ?_ | (refine ACall.grow (grow_verdict _ hzi z hzp (hx.leaves z hzm)) (by decide) hll rfl hn1' rfl hr1' rfl ?_; intro v') | fail)
    all_goals (conv => whnf)
    all_goals first | (exfalso; omega) | skip
    refine ⟨⟨i1 + 1, v', _, _⟩, Wm.end sam rfl rfl rfl, ⟨hlt, ?_, ?_⟩, by show x.v.length - (i1 + 1) < x.v.length - i1; omega⟩
    · show _ = (e1 ++ entsM wVerdict Ver.parts (x.v.take (i1 + 1))).length
      rw [entsM_next wVerdict Ver.parts hz, ← List.append_assoc]
    · show _ = (e1 ++ entsM wVerdict Ver.parts (x.v.take (i1 + 1))).map Ent.d
      rw [entsM_next wVerdict Ver.parts hz, ← List.append_assoc]
  have hie : i1 = x.v.length := by omega
  subst hie
  rw [List.take_length] at hn1' hr1'
  clear hlt
  obtain ⟨e2, he2⟩ : ∃ e2, e2 = e1 ++ entsM wVerdict Ver.parts x.v := ⟨_, rfl⟩
  rw [← he2] at hn1' hr1'
  have hl2 : e2.length < 2 ^ 27 + 2 * 2 ^ 24 := by
    have := hx.v.1
    rw [he2, List.length_append, entsM_len]; omega
  repeat' ((conv => whnf); first | (with_reducible first | refine dT ?_ | refine dU ?_ | refine dF ?_ | refine dG ?_) | refine aT ?_ | refine aF ?_ | refine dS (fun _ => ?_) fun _ => ?_ | refine aW ?_ | refine aC ?_ | refine aL ?_ | refine Prep.skip ?_ | refine Eith.l ?_ | refine aD ?_ | refine aB (fun _ => ?_) fun _ => ?_ | refine Nam.mk (List.length_map _) ?_ | fail)
  all_goals (conv => whnf)
  all_goals first | (exfalso; omega) | skip
  refine ALoop.only [(44, .d (I 0)), (43, .d (I x.a.length)), (42, .d (SL 4 (x.a.map Ans.d))), (9, .ptr 1 0 0 0), (3, .d (SL 4 (x.a.map Ans.d))), (2, .d (SL 4 (x.v.map Ver.d))), (4, .ptr 0 0 0 0)] (by repeat (first | exact trivial | refine And.intro rfl ?_)) ?_
  refine ALoop.at (E := envOf Tryd.prog tt Tryd.f12.ntmps) (envOf_ok ttok mixed) (X := XR) (fun q => [(44, .d (I q.i))]) (fun q => [(1, .var [.sref 2 q.v 0 q.n false]), (2, .row q.v 2 false q.rs)])
    (fun q => q.i ≤ x.a.length ∧ q.n = (e2 ++ entsM wAnswer Ans.parts (x.a.take q.i)).length ∧ q.rs = (e2 ++ entsM wAnswer Ans.parts (x.a.take q.i)).map Ent.d) (fun q => x.a.length - q.i) ⟨0, w1, n1, r1⟩ sam rfl ⟨Nat.zero_le _, by rw [List.take_zero, entsM_nil, List.append_nil]; exact hn1', by rw [List.take_zero, entsM_nil, List.append_nil]; exact hr1'⟩ ?_
  rintro ⟨i2, w2, n2, r2⟩ ⟨hi2, hn2', hr2'⟩
  dsimp only at hi2 hn2' hr2'
  dsimp only
  by_cases hlt : i2 < x.a.length
  · obtain ⟨z, hz, _⟩ := drop_get hlt
    have hm := hx.a.1
    have hll : (e2 ++ entsM wAnswer Ans.parts (x.a.take i2)).length < 2 ^ 28 := by rw [List.length_append, entsM_len, List.length_take]; omega
    have hzi : okI (i2 : Int) := ⟨by omega, by omega⟩
    have hzm : z ∈ x.a := List.mem_of_getElem? hz
    have hzp : okP (Ans.parts z) := hx.a.2 z hzm
    repeat' ((conv => whnf); first | (with_reducible first | refine dT ?_ | refine dU ?_ | refine dF ?_ | refine dG ?_) | refine aT ?_ | refine aF ?_ | refine dS (fun _ => ?_) fun _ => ?_ | refine aW ?_ | refine aC ?_ | refine aL ?_ | refine Prep.skip ?_ | refine Eith.l ?_ | refine aD ?_ | refine aB (fun _ => ?_) fun _ => ?_ | refine nthK_mk (map_get (f := Ans.d) hz) ?_ | (refine ACall.grow (grow_answer _ hzi z hzp (hx.amts z hzm).1 (hx.amts z hzm).2) (by decide) hll rfl hn2' rfl hr2' rfl ?_; intro v') | fail)
    all_goals (conv => whnf)
    all_goals first | (exfalso; omega) | skip
    refine ⟨⟨i2 + 1, v', _, _⟩, Wm.end sam rfl rfl rfl, ⟨hlt, ?_, ?_⟩, by show x.a.length - (i2 + 1) < x.a.length - i2; omega⟩
    · show _ = (e2 ++ entsM wAnswer Ans.parts (x.a.take (i2 + 1))).length
      rw [entsM_next wAnswer Ans.parts hz, ← List.append_assoc]
    · show _ = (e2 ++ entsM wAnswer Ans.parts (x.a.take (i2 + 1))).map Ent.d
      rw [entsM_next wAnswer Ans.parts hz, ← List.append_assoc]
  have hie : i2 = x.a.length := by omega
  subst hie
  rw [List.take_length] at hn2' hr2'
  clear hlt
  obtain ⟨e3, he3⟩ : ∃ e3, e3 = e2 ++ entsM wAnswer Ans.parts x.a := ⟨_, rfl⟩
  rw [← he3] at hn2' hr2'
  have hl3 : e3.length < 2 ^ 27 + 3 * 2 ^ 24 := by
    have := hx.a.1
    rw [he3, List.length_append, entsM_len]; omega
  repeat' ((conv => whnf); first | (with_reducible first | refine dT ?_ | refine dU ?_ | refine dF ?_ | refine dG ?_) | refine aT ?_ | refine aF ?_ | refine dS (fun _ => ?_) fun _ => ?_ | refine aW ?_ | refine aC ?_ | refine aL ?_ | refine Prep.skip ?_ | refine Eith.l ?_ | refine aD ?_ | refine aB (fun _ => ?_) fun _ => ?_ | refine Nam.mk (List.length_map _) ?_ | fail)
  all_goals (conv => whnf)
  all_goals first | (exfalso; omega) | skip
  subst hn2'; subst hr2'
  have he : e3 = reportM x := by rw [he3, he2, he1, he0]; rfl
  subst he
  refine ACall.sort Tryd.sortEntry 2 (by decide) (fun w => run_isAgg (tyOf_ok ttok (show tyOf tt 52 = some _ from rfl)) w) (fun w => run_sizeOf' (tyOf_ok ttok (show tyOf tt 52 = some _ from rfl)) w) Ent.cells (fun _ => rfl)
    (fun x c hc => by simp only [Ent.cells, List.mem_cons, List.not_mem_nil, or_false] at hc; rcases hc with rfl | rfl <;> rfl) cfEnt swoEnt deltas_byName (fun args w => enters_of Tryd.func33 (by kernel_rfl) rfl args w) (l := reportM x) (by rfl) rfl (by omega) ?_
  intro l' hp hs
  have he : l' = ordE (reportM x) := ordE_uniq hd hp fun p q x y h1 h2 h3 h4 => hs p q x y h1 h2 h3 ((cfEnt_lt y x).2 h4)
  have hll : l'.length = (reportM x).length := hp.length_eq
  subst he
  repeat' ((conv => whnf); first | refine Chk.mk ⟨rfl, by simp only [List.length_map]; omega⟩ ?_ | refine Nam.mk (y := (ordE (reportM x)).map Ent.d) (whole (by rw [List.length_map]; exact hll.symm)) ?_ | (with_reducible first | refine dT ?_ | refine dU ?_ | refine dF ?_ | refine dG ?_) | refine aT ?_ | refine aF ?_ | refine dS (fun _ => ?_) fun _ => ?_ | refine aW ?_ | refine aC ?_ | refine aL ?_ | refine Prep.skip ?_ | refine Eith.l ?_ | refine aD ?_ | refine aB (fun _ => ?_) fun _ => ?_ | fail)
  all_goals (conv => whnf)
  exact DLe.refl _
end Go.PM
