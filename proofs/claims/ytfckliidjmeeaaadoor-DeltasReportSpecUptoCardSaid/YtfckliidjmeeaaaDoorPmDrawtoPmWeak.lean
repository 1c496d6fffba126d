/-
  PM, part 17: operations in an order that is drawn.
-/
import Derived.Test.YtfckliidjmeeaaaDoorPmLifttoPmCode
import Derived.OrdersIn
set_option linter.unusedSectionVars false
namespace Go.PM
variable [Glob]
variable {P : Program}
structure Inst where
  o : Oper
  idx : Nat
  run : Bool
  vs : List V
  ns : List Nat
  bs : List Blk
  bs' : List Blk
  v : V
  still : Bool
def Inst.Ok (P : Program) (ro : Option Nat) (n N : Nat) (x : Inst) : Prop :=
  (x.run = true → OpW P ro n x.o (opReads x.o.op) x.vs x.ns x.bs x.bs' x.v) ∧ (x.run = false → x.ns = [] ∧ x.v = .tup []) ∧ (∀ d, x.o.dst = some d → d < N) ∧ (x.still = true → x.bs' = x.bs ∨ x.ns = [])
def Exec (all : List Oper) (ts : Tm) (h : Hp) (x : Inst) : Prop :=
  Wants all ts x.o x.run ∧ (x.run = true → (opReads x.o.op).map (ev ts) = x.vs) ∧ ∀ (i m : Nat), x.ns[i]? = some m → h[m]? = x.bs[i]?
def Like (ts ts' : Tm) : Prop := ∀ t, look ts t = look ts' t
def Chain (all : List Oper) (tF : Tm) (hF : Hp) : List Inst → Tm → Hp → Prop
  | [], ts, h => Like ts tF ∧ h = hF
  | x :: l, ts, h => Exec all ts h x ∧ Chain all tF hF l (putT ts x.o.dst x.v) (setL h x.ns x.bs')
def Apart (all : List Oper) (x y : Inst) : Prop := tmpApart all x.o y.o = true ∧ fpApart (x.ns, x.still) (y.ns, y.still) = true
theorem noneIn_spec {xs ys : List Nat} (h : noneIn xs ys = true) : ∀ x ∈ xs, x ∉ ys := by
  intro x hx hy
  simp only [noneIn, List.all_eq_true, Bool.not_eq_true'] at h
  have := h x hx x hy
  rw [Nat.beq_refl x] at this; cases this
theorem setL_get : ∀ (ns : List Nat) (bs : List Blk) (h : Hp) (m : Nat), m ∉ ns → (setL h ns bs)[m]? = h[m]?
  | [], bs, h, m, _ => by simp [setL]
  | n :: ns, [], h, m, _ => by simp [setL]
  | n :: ns, b :: bs, h, m, hm => by
    simp only [List.mem_cons, not_or] at hm
    rw [setL, setL_get ns bs _ m hm.2, List.getElem?_set_ne (Ne.symm hm.1)]
theorem setL_set : ∀ (ms : List Nat) (cs : List Blk) (h : Hp) (n : Nat) (b : Blk), n ∉ ms → setL (h.set n b) ms cs = (setL h ms cs).set n b
  | [], cs, h, n, b, _ => by simp [setL]
  | m :: ms, [], h, n, b, _ => by simp [setL]
  | m :: ms, c :: cs, h, n, b, hn => by
    simp only [List.mem_cons, not_or] at hn
    rw [setL, setL, List.set_comm _ _ hn.1, setL_set ms cs _ n b hn.2]
theorem setL_comm : ∀ (ns : List Nat) (bs : List Blk) (ms : List Nat) (cs : List Blk) (h : Hp), (∀ x ∈ ns, x ∉ ms) → setL (setL h ns bs) ms cs = setL (setL h ms cs) ns bs
  | [], bs, ms, cs, h, _ => by simp [setL]
  | n :: ns, [], ms, cs, h, _ => by simp [setL]
  | n :: ns, b :: bs, ms, cs, h, hn => by
    rw [setL, setL, setL_comm ns bs ms cs _ (fun x hx => hn x (.tail _ hx)), setL_set ms cs h n b (hn n (.head _))]
theorem look_put {ts : Tm} {d : Option Nat} {v : V} {t : Nat} (h : ∀ x, d = some x → x ≠ t) : look (putT ts d v) t = look ts t := by
  cases d with
  | none => rfl
  | some d =>
    have : Nat.beq d t = false := by
      cases hb : Nat.beq d t
      · rfl
      · exact absurd (Nat.eq_of_beq_eq_true hb) (h d rfl)
    simp only [putT, look, this]
theorem Like.put {ts ts' : Tm} (h : Like ts ts') (d : Option Nat) (v : V) : Like (putT ts d v) (putT ts' d v) := by
  cases d with
  | none => exact h
  | some d =>
    intro t
    simp only [putT, look]
    cases Nat.beq d t
    · exact h t
    · rfl
theorem ev_like {ts ts' : Tm} {x : Operand} (h : ∀ t, x = .tmp t → look ts t = look ts' t) : ev ts x = ev ts' x := by
  cases x with
  | tmp t => exact h t rfl
  | const v => rfl
  | func f => rfl
  | global g => rfl
theorem mem_tmpsOf {t : Nat} : ∀ {xs : List Operand}, .tmp t ∈ xs → t ∈ tmpsOf xs
  | x :: r, h => by
    cases h with
    | head => simp [tmpsOf]
    | tail _ h => cases x <;> simp [tmpsOf, mem_tmpsOf h]
theorem map_like {ts ts' : Tm} {xs : List Operand} (h : ∀ t ∈ tmpsOf xs, look ts t = look ts' t) : xs.map (ev ts) = xs.map (ev ts') := by
  apply List.map_congr_left
  intro x hx
  exact ev_like fun t ht => h t (mem_tmpsOf (ht ▸ hx))
theorem wants_like {all : List Oper} {ts ts' : Tm} {o : Oper} {run : Bool} (h : ∀ t ∈ guardTmp all o, look ts t = look ts' t) (hw : Wants all ts o run) : Wants all ts' o run := by
  unfold Wants at hw ⊢
  cases hg : o.guard with
  | none => simpa only [hg] using hw
  | some p =>
    obtain ⟨j, want⟩ := p
    simp only [hg] at hw ⊢
    obtain ⟨g, t, h1, h2, hw⟩ := hw
    refine ⟨g, t, h1, h2, ?_⟩
    rw [← h t (by simp [guardTmp, hg, nthO_eq, h1, h2])]
    exact hw
theorem Exec.like {all : List Oper} {ts ts' : Tm} {h : Hp} {x : Inst} (hl : Like ts ts') (hx : Exec all ts h x) : Exec all ts' h x :=
  ⟨wants_like (fun t _ => hl t) hx.1, fun hr => by rw [← hx.2.1 hr]; exact (map_like fun t _ => hl t).symm, hx.2.2⟩
theorem Chain.like {all : List Oper} {tF : Tm} {hF : Hp} : ∀ {l : List Inst} {ts ts' : Tm} {h : Hp}, Like ts ts' → Chain all tF hF l ts h → Chain all tF hF l ts' h
  | [], ts, ts', h, hl, hc => ⟨fun t => (hl t).symm.trans (hc.1 t), hc.2⟩
  | x :: l, ts, ts', h, hl, hc => ⟨hc.1.like hl, hc.2.like (hl.put _ _)⟩
theorem dstL_mem {o : Oper} {d : Nat} (h : o.dst = some d) : d ∈ dstL o := by simp [dstL, h]
theorem swap {all : List Oper} {ts : Tm} {h : Hp} {x y : Inst} (ha : Apart all y x) (hy0 : y.still = true → y.bs' = y.bs ∨ y.ns = []) (hx0 : x.still = true → x.bs' = x.bs ∨ x.ns = [])
    (hy : Exec all ts h y) (hx : Exec all (putT ts y.o.dst y.v) (setL h y.ns y.bs') x) :
    Exec all ts h x ∧ Exec all (putT ts x.o.dst x.v) (setL h x.ns x.bs') y ∧
      Like (putT (putT ts y.o.dst y.v) x.o.dst x.v) (putT (putT ts x.o.dst x.v) y.o.dst y.v) ∧ setL (setL h y.ns y.bs') x.ns x.bs' = setL (setL h x.ns x.bs') y.ns y.bs' := by
  obtain ⟨h1, h2⟩ := ha
  simp only [tmpApart, Bool.and_eq_true] at h1
  obtain ⟨⟨⟨⟨a1, a2⟩, a3⟩, a4⟩, a5⟩ := h1
  have same : ∀ {z : Inst} {h : Hp}, (z.still = true → z.bs' = z.bs ∨ z.ns = []) → z.still = true → (∀ (i m : Nat), z.ns[i]? = some m → h[m]? = z.bs[i]?) → setL h z.ns z.bs' = h := fun h0 hs hb => by
    rcases h0 hs with e | e
    · rw [e]; exact setL_same fun i m b hi hbi => by rw [hb i m hi, hbi]
    · rw [e]; simp [setL]
  have key : (setL h y.ns y.bs' = h ∧ setL h x.ns x.bs' = h) ∨ (∀ m ∈ y.ns, m ∉ x.ns) := by
    simp only [fpApart, Bool.or_eq_true, Bool.and_eq_true] at h2
    rcases h2 with ⟨s1, s2⟩ | hn
    · have e1 := same hy0 s1 hy.2.2
      exact .inl ⟨e1, same hx0 s2 (by have := hx.2.2; rw [e1] at this; exact this)⟩
    · exact .inr (noneIn_spec hn)
  have bx : ∀ (i m : Nat), x.ns[i]? = some m → h[m]? = x.bs[i]? := fun i m hi => by
    rw [← hx.2.2 i m hi]
    rcases key with ⟨e, _⟩ | hn
    · rw [e]
    · exact (setL_get _ _ _ _ fun hm => hn m hm (List.mem_of_getElem? hi)).symm
  have byy : ∀ (i m : Nat), y.ns[i]? = some m → (setL h x.ns x.bs')[m]? = y.bs[i]? := fun i m hi => by
    rw [← hy.2.2 i m hi]
    rcases key with ⟨_, e⟩ | hn
    · rw [e]
    · exact setL_get _ _ _ _ (hn m (List.mem_of_getElem? hi))
  have lx : ∀ t, t ∈ tmpsOf (opReads x.o.op) ∨ t ∈ guardTmp all x.o → look (putT ts y.o.dst y.v) t = look ts t := fun t ht => look_put fun d hd e => by
    subst e
    rcases ht with ht | ht
    · exact noneIn_spec a1 d (dstL_mem hd) ht
    · exact noneIn_spec a2 d (dstL_mem hd) ht
  have ly : ∀ t, t ∈ tmpsOf (opReads y.o.op) ∨ t ∈ guardTmp all y.o → look ts t = look (putT ts x.o.dst x.v) t := fun t ht => (look_put fun d hd e => by
    subst e
    rcases ht with ht | ht
    · exact noneIn_spec a3 d (dstL_mem hd) ht
    · exact noneIn_spec a4 d (dstL_mem hd) ht).symm
  refine ⟨⟨wants_like (fun t ht => lx t (.inr ht)) hx.1, fun hr => ?_, bx⟩, ⟨wants_like (fun t ht => ly t (.inr ht)) hy.1, fun hr => ?_, byy⟩, ?_, ?_⟩
  · rw [← hx.2.1 hr]; exact map_like fun t ht => (lx t (.inl ht)).symm
  · rw [← hy.2.1 hr]; exact map_like fun t ht => (ly t (.inl ht)).symm
  · intro t
    cases hdx : x.o.dst with
    | none => rfl
    | some dx =>
      cases hdy : y.o.dst with
      | none => rfl
      | some dy =>
        have hne : dy ≠ dx := fun e => noneIn_spec a5 dy (dstL_mem hdy) (e ▸ dstL_mem hdx)
        simp only [putT, look]
        cases h1 : Nat.beq dx t <;> cases h2 : Nat.beq dy t <;> try rfl
        exact absurd ((Nat.eq_of_beq_eq_true h2).trans (Nat.eq_of_beq_eq_true h1).symm) hne
  · rcases key with ⟨e1, e2⟩ | hn
    · rw [e1, e2, e1]
    · exact setL_comm _ _ _ _ _ hn
theorem bubble {all : List Oper} {tF : Tm} {hF : Hp} {x : Inst} {l2 : List Inst} (hx0 : x.still = true → x.bs' = x.bs ∨ x.ns = []) : ∀ (l1 : List Inst) (ts : Tm) (h : Hp), (∀ y ∈ l1, Apart all y x ∧ (y.still = true → y.bs' = y.bs ∨ y.ns = [])) →
    Chain all tF hF (l1 ++ x :: l2) ts h → Chain all tF hF (x :: (l1 ++ l2)) ts h
  | [], ts, h, _, hc => hc
  | y :: l1, ts, h, ha, hc => by
    obtain ⟨c1, c2⟩ := hc
    obtain ⟨d1, d2⟩ := bubble hx0 l1 _ _ (fun z hz => ha z (.tail _ hz)) c2
    obtain ⟨s1, s2, s3, s4⟩ := swap (ha y (.head _)).1 (ha y (.head _)).2 hx0 c1 d1
    exact ⟨s1, s2, by rw [← s4]; exact d2.like s3⟩
theorem waits_spec {o : Oper} {i : Nat} (h : waits o i = true) : ∃ e ∈ o.after, Region.binds .any e = true ∧ e.on = i := by
  simp only [waits, List.any_eq_true, Bool.and_eq_true] at h
  obtain ⟨e, h1, h2, h3⟩ := h
  exact ⟨e, by simpa using h1, h2, Nat.eq_of_beq_eq_true h3⟩
theorem backs_spec {o : Oper} {i : Nat} (h : backs o i = true) : ∀ e ∈ o.after, Region.binds .any e = true → e.on < i := by
  intro e he hb
  simp only [backs, List.all_eq_true, Bool.or_eq_true, Bool.not_eq_true'] at h
  rcases h e (by simpa using he) with h | h
  · rw [hb] at h; cases h
  · have : Nat.ble (e.on + 1) i = true := h
    exact Nat.le_of_ble_eq_true this
def Ordered (all : List Oper) (l : List Inst) : Prop := l.Pairwise fun x y => x.idx < y.idx ∧ (waitsT all 2 y.o x.idx = true ∨ Apart all x y)
theorem waitsT_of {all : List Oper} {o : Oper} {i : Nat} (h : waits o i = true) : ∀ n, waitsT all n o i = true
  | 0 => h
  | n + 1 => by simp [waitsT, h]
theorem waitsT_listed {ops : Array Oper} {listed : Array Bool} (hcl : ∀ j oj, ops[j]? = some oj → listed.getD j false = true → ∀ e ∈ oj.after, Region.binds .any e = true → listed.getD e.on false = true) :
    ∀ (n : Nat) (o : Oper) (i : Nat), (∀ e ∈ o.after, Region.binds .any e = true → listed.getD e.on false = true) → waitsT ops.toList n o i = true → listed.getD i false = true
  | 0, o, i, ho, hw => by
    obtain ⟨e, he, hb, hon⟩ := waits_spec hw
    rw [← hon]; exact ho e he hb
  | n + 1, o, i, ho, hw => by
    simp only [waitsT, Bool.or_eq_true, List.any_eq_true, Bool.and_eq_true] at hw
    rcases hw with hw | ⟨e, he, hb, hw⟩
    · obtain ⟨e, he, hb, hon⟩ := waits_spec hw
      rw [← hon]; exact ho e he hb
    · have he' : e ∈ o.after := by simpa using he
      rw [nthO_eq] at hw
      cases hq : ops.toList[e.on]? with
      | none => simp [hq] at hw
      | some q =>
        simp only [hq] at hw
        exact waitsT_listed hcl n q i (hcl e.on q (by simpa using hq) (ho e he' hb)) hw
theorem getD_of_lt {l : Array Bool} {i : Nat} (h : i < l.size) (a b : Bool) : l.getD i a = l.getD i b := by
  simp [Array.getD_eq_getD_getElem?, Array.getElem?_eq_getElem h]
theorem wpAny_chain {C : Cx} {n N : Nat} {ops : Array Oper} {tF : Tm} {hF : Hp} {k : Tm → Hp → Prop} (hk : k tF hF) : ∀ (fuel : Nat) (l : List Inst) (listed : Array Bool) (ts : Tm) (h : Hp) (a : Act) (w : World) (S : Stb) (β : Bet) (Q : Exit → Act → World → Prop),
    l.length = fuel → Chain ops.toList tF hF l ts h → St N C a w S ts h β → listed.size = ops.size → (∀ j oj, ops[j]? = some oj → listed.getD j false = true → ∀ e ∈ oj.after, Region.binds .any e = true → listed.getD e.on false = true) → (∀ i, i < ops.size → (listed.getD i true = false ↔ ∃ x ∈ l, x.idx = i)) →
    (∀ x ∈ l, ops[x.idx]? = some x.o ∧ x.Ok P C.ro n N ∧ backs x.o x.idx = true) → Ordered ops.toList l → (∀ a' w', Post N C w S h β k a' w' → Q .normal a' w') →
    wpAnyIn (FF C.ro) n P .any ops Q fuel listed a w := by
  intro fuel
  induction fuel with
  | zero =>
    intro l listed ts h a w S β Q hl hc hs hsz hcl hli hok hor hQ
    have : l = [] := List.eq_nil_of_length_eq_zero hl
    subst this
    obtain ⟨c1, rfl⟩ := hc
    refine ⟨?_, hQ a w ⟨tF, h, S, β, hk, ⟨hs.hr, fun t => by rw [← c1 t]; exact hs.tr t, hs.size, hs.marks, hs.round, hs.base⟩, Evol.refl _ _ _ _⟩⟩
    rw [List.eq_nil_iff_forall_not_mem]
    intro i hi
    obtain ⟨h1, o, h2, _⟩ := mem_ready.1 hi
    obtain ⟨x, hx, _⟩ := (hli i (Array.getElem?_eq_some_iff.1 h2).1).1 h1
    cases hx
  | succ fuel ih =>
    intro l listed ts h a w S β Q hl hc hs hsz hcl hli hok hor hQ
    refine ⟨fun hnil => ?_, fun i hi => ?_⟩
    · exfalso
      cases l with
      | nil => simp at hl
      | cons x l =>
        obtain ⟨g1, g2, g3⟩ := hok x (.head _)
        have hlt := (Array.getElem?_eq_some_iff.1 g1).1
        have : x.idx ∈ Region.ready .any ops listed := by
          refine mem_ready.2 ⟨(hli _ hlt).2 ⟨x, .head _, rfl⟩, x.o, g1, fun e he hb => ?_⟩
          have hlt' := backs_spec g3 e he hb
          have hel : e.on < ops.size := by omega
          rw [getD_of_lt (by rw [hsz]; exact hel) false true]
          cases hg : listed.getD e.on true with
          | true => rfl
          | false =>
            obtain ⟨y, hy, hyi⟩ := (hli _ hel).1 hg
            cases hy with
            | head => omega
            | tail _ hy =>
              have := (List.rel_of_pairwise_cons hor hy).1
              omega
        rw [hnil] at this
        cases this
    · obtain ⟨h1, o, h2, h3⟩ := mem_ready.1 hi
      have hlt := (Array.getElem?_eq_some_iff.1 h2).1
      obtain ⟨x, hx, rfl⟩ := (hli i hlt).1 h1
      obtain ⟨l1, l2, rfl⟩ := List.append_of_mem hx
      obtain ⟨g1, g2, g3⟩ := hok x hx
      obtain ⟨p1, p2, p3⟩ := List.pairwise_append.1 hor
      have hfree : ∀ y ∈ l1, Apart ops.toList y x ∧ (y.still = true → y.bs' = y.bs ∨ y.ns = []) := fun y hy => by
        have hym : y ∈ l1 ++ x :: l2 := List.mem_append_left _ hy
        obtain ⟨k1, k2, _⟩ := hok y hym
        refine ⟨?_, k2.2.2.2⟩
        rcases (p3 y hy x (.head _)).2 with hw | ha
        · exfalso
          rw [g1] at h2; cases h2
          have e1 := waitsT_listed hcl 2 x.o y.idx h3 hw
          have hyl := (Array.getElem?_eq_some_iff.1 k1).1
          have e2 := (hli y.idx hyl).2 ⟨y, hym, rfl⟩
          rw [getD_of_lt (by rw [hsz]; exact hyl) false true, e2] at e1
          cases e1
        · exact ha
      obtain ⟨c1, c2⟩ := bubble g2.2.2.2 l1 ts h hfree hc
      have hsub : (l1 ++ l2).Sublist (l1 ++ x :: l2) := (List.Sublist.refl l1).append (List.sublist_cons_self x l2)
      have hnx : ∀ y ∈ l1 ++ l2, y.idx ≠ x.idx := fun y hy => by
        rcases List.mem_append.1 hy with hy | hy
        · have := (p3 y hy x (.head _)).1; omega
        · have := (List.rel_of_pairwise_cons p2 hy).1; omega
      have step : ∀ {cv : Value} {w' : World} {S' : Stb} {β' : Bet}, HR w' S' (setL h x.ns x.bs') β' → VR w' S' (setL h x.ns x.bs') β' x.v cv → Evol w S h β w' S' (setL h x.ns x.bs') β' →
          wpAnyIn (FF C.ro) n P .any ops Q fuel (listed.setIfInBounds x.idx true) (a.put x.o.dst cv) w' := fun e1 e2 e3 => by
        refine ih (l1 ++ l2) _ _ _ _ _ _ _ Q (by simp at hl ⊢; omega) c2 ((hs.evol e3 e1).put g2.2.2.1 e2) (by simpa using hsz) (fun j oj hj hjl e he hb => ?_) (fun j hj => ?_) (fun y hy => hok y (hsub.subset hy)) (hor.sublist hsub) (fun a' w' hp => hQ a' w' ?_)
        · have mono : ∀ m, listed.getD m false = true → (listed.setIfInBounds x.idx true).getD m false = true := fun m hm => by
            by_cases hmi : x.idx = m
            · subst hmi
              rw [Array.getD_eq_getD_getElem?, Array.getElem?_setIfInBounds_self, if_pos (by rw [hsz]; exact hlt)]; rfl
            · rw [Array.getD_eq_getD_getElem?, Array.getElem?_setIfInBounds_ne hmi, ← Array.getD_eq_getD_getElem?]; exact hm
          refine mono _ ?_
          by_cases hji : x.idx = j
          · subst hji
            rw [h2] at hj; cases hj
            exact h3 e he hb
          · rw [Array.getD_eq_getD_getElem?, Array.getElem?_setIfInBounds_ne hji, ← Array.getD_eq_getD_getElem?] at hjl
            exact hcl j oj hj hjl e he hb
        · by_cases hji : j = x.idx
          · subst hji
            rw [Array.getD_eq_getD_getElem?, Array.getElem?_setIfInBounds_self, if_pos (by rw [hsz]; exact hj)]
            rw [Option.getD_some]
            exact Iff.intro (fun h => by cases h) fun ⟨y, hy, hyi⟩ => absurd hyi (hnx y hy)
          · rw [Array.getD_eq_getD_getElem?, Array.getElem?_setIfInBounds_ne (Ne.symm hji), ← Array.getD_eq_getD_getElem?, hli j hj]
            constructor
            · rintro ⟨y, hy, hyi⟩
              rcases List.mem_append.1 hy with hy | hy
              · exact ⟨y, List.mem_append_left _ hy, hyi⟩
              · cases hy with
                | head => exact absurd hyi.symm hji
                | tail _ hy => exact ⟨y, List.mem_append_right _ hy, hyi⟩
            · rintro ⟨y, hy, hyi⟩
              exact ⟨y, hsub.subset hy, hyi⟩
        · obtain ⟨t1, t2, t3, t4, t5, t6, t7⟩ := hp
          exact ⟨t1, t2, t3, t4, t5, t6, e3.trans t7⟩
      simp only [wpOpIn, g1]
      cases hrun : x.run with
      | true =>
        rw [if_pos (by have := c1.1.run hs; rw [hrun] at this; exact this)]
        have hor := ors_rel hs.hr.glob hs.tr (opReads x.o.op)
        rw [c1.2.1 hrun] at hor
        exact g2.1 hrun a w S h β hs.hr hor c1.2.2 _ _ fun w' S' β' cv e1 e2 e3 => step e1 e2 e3
      | false =>
        rw [if_neg (by have := c1.1.run hs; rw [hrun] at this; simp [this])]
        obtain ⟨e1, e2⟩ := g2.2.1 hrun
        refine ⟨fun f _ => FF.all C.ro f, ?_⟩
        have hset : setL h x.ns x.bs' = h := by rw [e1]; simp [setL]
        refine step (S' := S) (β' := β) ?_ ?_ ?_
        · rw [hset]; exact hs.hr
        · rw [e2]; exact .tup [] #[] rfl (by simp)
        · rw [hset]; exact Evol.refl _ _ _ _
def Numbered : Nat → List Inst → Prop
  | _, [] => True
  | j, x :: l => x.idx = j ∧ Numbered (j + 1) l
def Inst.fp (x : Inst) : List Nat × Bool := (x.ns, x.still)
theorem opReads_arg {op : Op} (h : ∀ f args ats, op = .call { callee := .value f, args := args, argTypes := ats } → False) : opReads op = opArgs op := by
  unfold opReads
  split
  · exact (h _ _ _ rfl).elim
  · rfl
theorem fnK_spec {v : V} {vs : List V} {k : FuncId → List V → Prop} (h : fnK v vs k) : ∃ g cap, FnV v g cap ∧ k g (vs ++ cap) := by
  unfold fnK at h
  split at h
  · exact ⟨_, _, .inl rfl, appV_spec _ _ _ h⟩
  · split at h
    · rename_i g a b
      split at h
      · rename_i ha hb
        have ha : a = #[] := by simpa using ha
        have hb : b = #[] := by simpa using hb
        subst ha; subst hb
        exact ⟨g, [], .inr ⟨rfl, rfl⟩, by simpa using h⟩
      · exact h.elim
    · exact h.elim
  · exact h.elim
theorem drStoreK_spec {ro : Option Nat} {n : Nat} {E : Env} (hE : E.Ok P) {o : Oper} {vs : List V} {nf : Nat} {h : Hp} {k : List Nat → Bool → V → Hp → Prop} (hk : drStoreK E o.op vs nf h k) :
    ∃ ns st v bs bs', k ns st v (setL h ns bs') ∧ (∀ (i m : Nat), ns[i]? = some m → h[m]? = bs[i]?) ∧ (st = true → bs' = bs) ∧ OpW P ro n o (opArgs o.op) vs ns bs bs' v := by
  unfold drStoreK at hk
  have dflt : (stepK E o.op vs nf h fun v h' => k (opN o.op vs nf) (opRO o.op) v h') → ∃ ns st v bs bs', k ns st v (setL h ns bs') ∧ (∀ (i m : Nat), ns[i]? = some m → h[m]? = bs[i]?) ∧ (st = true → bs' = bs) ∧ OpW P ro n o (opArgs o.op) vs ns bs bs' v := fun hk => by
    obtain ⟨v, bs, bs', g1, g2, g3, g4⟩ := stepK_spec (ro := ro) (n := n) hE.types hk
    exact ⟨_, _, v, bs, bs', g1, g2, g3, g4⟩
  split at hk
  · rename_i t a x pn pv pe po m ver lo len full hop
    obtain ⟨tb, htb, hk⟩ := nthK_iff.1 hk
    split at hk
    · obtain ⟨hne, hk⟩ := (chkB_iff _ _).1 hk
      have hne : m ≠ pn := by
        intro e; subst e
        simp at hne
      obtain ⟨b, hb, hk⟩ := nthK_iff.1 hk
      split at hk
      case h_2 => exact hk.elim
      rename_i ver' sz r0 xs
      obtain ⟨⟨hver, hl⟩, hk⟩ := hk.elim
      subst hver
      have hk := hk.elim
      obtain ⟨_, hk⟩ := setK_iff.1 hk
      rw [← hop] at hk
      obtain ⟨v, bs, bs', g1, g2, g3, g4⟩ := stepK_spec (ro := ro) (n := n) hE.types hk
      have hN : opN o.op [.ptr pn pv pe po, .d (.sl sz full ((xs.drop lo).take len))] nf = [pn] := by rw [hop]; rfl
      rw [hN] at g1 g2 g4
      have hn1 : bs[0]? = h[pn]? := by
        have := g2 0 pn rfl
        rw [List.getElem?_set_ne hne] at this
        exact this.symm
      refine ⟨[m, pn], false, v, .row ver sz r0 xs :: bs, .row ver sz true xs :: bs', ?_, fun i q hi => ?_, fun h => (by cases h), ?_⟩
      · simpa [setL] using g1
      · match i with
        | 0 => simp at hi; subst hi; simpa using hb
        | 1 => simp at hi; subst hi; simpa using hn1.symm
        | i + 2 => simp at hi
      · intro act w S hp β hr hor hbb next Q hnext
        have hm : hp[m]? = some (.row ver sz r0 xs) := by simpa using hbb 0 m rfl
        have hpn : hp[pn]? = bs[0]? := by simpa using hbb 1 pn rfl
        obtain ⟨r1, e1⟩ := freeze hr hm
        have hxs : (opArgs o.op) = [a, x] := by rw [hop]; rfl
        rw [hxs] at hor g4
        obtain ⟨v1, v2⟩ := hor.two
        have hd := sref_data hr hm hl v2
        refine g4 act w _ (hp.set m (.row ver sz true xs)) β r1 ⟨rfl, fun i y z hy hz => ?_⟩ (fun i q hi => ?_) next Q fun w' S' β' cv q1 q2 q3 => ?_
        · match i with
          | 0 => simp at hy hz; subst hy; subst hz; exact v1.evol e1
          | 1 => simp at hy hz; subst hy; subst hz; exact .d hd
          | i + 2 => simp at hy
        · match i with
          | 0 => simp at hi; subst hi; rw [List.getElem?_set_ne hne]; exact hpn
          | i + 1 => simp at hi
        · exact hnext w' S' β' cv (by simpa [setL] using q1) (by simpa [setL] using q2) (by simpa [setL] using e1.trans q3)
    · exact dflt (by rw [hop]; exact hk)
  · exact dflt hk
theorem exDr_chain {ro : Option Nat} {n : Nat} {E : Env} (hE : E.Ok P) (all : List Oper) : ∀ (l : List Oper) (j nf : Nat) (ts : Tm) (h : Hp) (K : Fp → Tm → Hp → Prop), exDr E all l nf ts h K →
    ∃ insts tF hF, K (insts.map Inst.fp) tF hF ∧ Chain all tF hF insts ts h ∧ insts.map Inst.o = l ∧ Numbered j insts ∧ ∀ x ∈ insts, x.Ok P ro n E.N
  | [], j, nf, ts, h, K, hx => ⟨[], ts, h, hx, ⟨fun _ => rfl, rfl⟩, rfl, trivial, by simp⟩
  | o :: r, j, nf, ts, h, K, hx => by
    have join : ∀ (x : Inst) (nf' : Nat), x.o = o → x.idx = j → x.Ok P ro n E.N → Exec all ts h x → exDr E all r nf' (putT ts o.dst x.v) (setL h x.ns x.bs') (fun fs => K (x.fp :: fs)) →
        ∃ insts tF hF, K (insts.map Inst.fp) tF hF ∧ Chain all tF hF insts ts h ∧ insts.map Inst.o = o :: r ∧ Numbered j insts ∧ ∀ x ∈ insts, x.Ok P ro n E.N := fun x nf' h1 h2 h3 h4 h5 => by
      obtain ⟨insts, tF, hF, g1, g2, g3, g4, g5⟩ := exDr_chain (ro := ro) (n := n) hE all r (j + 1) nf' _ _ _ h5
      refine ⟨x :: insts, tF, hF, by simpa using g1, ⟨h4, by rw [h1]; exact g2⟩, by simp [g3, h1], ⟨h2, g4⟩, fun y hy => ?_⟩
      cases hy with
      | head => exact h3
      | tail _ hy => exact g5 y hy
    rw [exDr_cons] at hx
    obtain ⟨nf', hx⟩ := nfK_spec hx
    rcases guardK_spec hx with ⟨hw, hx⟩ | ⟨hw, hx⟩
    · have hx := evsK_spec _ _ _ hx
      split at hx
      · rename_i f as ats ho
        have hop : o.op = .call { callee := .value f, args := as, argTypes := ats } := ho
        have hx := evK_spec _ _ _ hx
        obtain ⟨g, cap, hfv, hx⟩ := fnK_spec hx
        · generalize hg : ev ts f = hv at hfv
          obtain ⟨res, hx, hp⟩ := hE.pcall _ _ _ _ hx
          cases res with
          | row sz ys =>
            simp only [] at hx
            obtain ⟨b0, hn, hx⟩ := nthK_iff.1 hx
            split at hx
            case h_2 => exact hx.elim
            obtain ⟨_, hx⟩ := setK_iff.1 hx
            obtain ⟨k1, k2⟩ := putK_spec hx
            have hopr : opReads o.op = f :: as.toList := by rw [hop]; rfl
            have hopa : opArgs o.op = as.toList := by rw [hop]; rfl
            refine join { o := o, idx := j, run := true, vs := hv :: (opArgs o.op).map (ev ts), ns := [nf], bs := [.res], bs' := [.row 0 sz false ys], v := .sref nf 0 0 ys.length false, still := false } nf' rfl rfl ⟨fun _ => ?_, fun h => (by cases h), k1, fun h => (by cases h)⟩ ⟨hw, fun _ => ?_, fun i m hi => ?_⟩ k2
            · simp only []
              rw [hopr]
              exact CallRow.opW (hfv := hfv) hop rfl hp nf
            · simp only []
              rw [hopr, hopa, List.map_cons, hg]
            · cases i with
              | zero => simp at hi; subst hi; simpa using hn
              | succ i => simp at hi
          | map T' kt es =>
            simp only [] at hx
            obtain ⟨b0, hn, hx⟩ := nthK_iff.1 hx
            split at hx
            case h_2 => exact hx.elim
            obtain ⟨_, hx⟩ := setK_iff.1 hx
            obtain ⟨k1, k2⟩ := putK_spec hx
            have hopr : opReads o.op = f :: as.toList := by rw [hop]; rfl
            have hopa : opArgs o.op = as.toList := by rw [hop]; rfl
            refine join { o := o, idx := j, run := true, vs := hv :: (opArgs o.op).map (ev ts), ns := [nf], bs := [.res], bs' := [.map T' kt es], v := .map nf, still := false } nf' rfl rfl ⟨fun _ => ?_, fun h => (by cases h), k1, fun h => (by cases h)⟩ ⟨hw, fun _ => ?_, fun i m hi => ?_⟩ k2
            · simp only []
              rw [hopr]
              exact CallMap.opW (hfv := hfv) hop rfl hp nf
            · simp only []
              rw [hopr, hopa, List.map_cons, hg]
            · cases i with
              | zero => simp at hi; subst hi; simpa using hn
              | succ i => simp at hi
          | fix m v =>
            simp only [] at hx
            obtain ⟨b0, hn, hx⟩ := nthK_iff.1 hx
            split at hx
            case h_2 => exact hx.elim
            rename_i ver sz r0 xs
            obtain ⟨_, hx⟩ := setK_iff.1 hx
            obtain ⟨k1, k2⟩ := putK_spec hx
            have hopr : opReads o.op = f :: as.toList := by rw [hop]; rfl
            have hopa : opArgs o.op = as.toList := by rw [hop]; rfl
            refine join { o := o, idx := j, run := true, vs := hv :: (opArgs o.op).map (ev ts), ns := [m], bs := [.row ver sz r0 xs], bs' := [.row ver sz true xs], v := v, still := false } nf' rfl rfl ⟨fun _ => ?_, fun h => (by cases h), k1, fun h => (by cases h)⟩ ⟨hw, fun _ => ?_, fun i m hi => ?_⟩ k2
            · simp only []
              rw [hopr]
              exact CallFix.opW (hfv := hfv) hop rfl (hp ver sz r0 xs hn)
            · simp only []
              rw [hopr, hopa, List.map_cons, hg]
            · cases i with
              | zero => simp at hi; subst hi; simpa using hn
              | succ i => simp at hi
          | keep ms v =>
            simp only [] at hx
            obtain ⟨bs, hl, hb, hx⟩ := getsK_iff hx
            have hx := setsK_iff _ _ _ _ hx
            obtain ⟨k1, k2⟩ := putK_spec hx
            have hopr : opReads o.op = f :: as.toList := by rw [hop]; rfl
            have hopa : opArgs o.op = as.toList := by rw [hop]; rfl
            refine join { o := o, idx := j, run := true, vs := hv :: (opArgs o.op).map (ev ts), ns := ms, bs := bs, bs' := bs, v := v, still := true } nf' rfl rfl ⟨fun _ => ?_, fun h => (by cases h), k1, fun _ => .inl rfl⟩ ⟨hw, fun _ => ?_, hb⟩ k2
            · simp only []
              rw [hopr]
              exact CallK.opW (hfv := hfv) hop rfl (hp bs hl hb)
            · simp only []
              rw [hopr, hopa, List.map_cons, hg]
          | d v =>
          obtain ⟨k1, k2⟩ := putK_spec hx
          have hopr : opReads o.op = f :: as.toList := by rw [hop]; rfl
          have hopa : opArgs o.op = as.toList := by rw [hop]; rfl
          refine join { o := o, idx := j, run := true, vs := hv :: (opArgs o.op).map (ev ts), ns := [], bs := [], bs' := [], v := v, still := true } nf' rfl rfl ⟨fun _ => ?_, fun h => (by cases h), k1, fun _ => .inr rfl⟩ ⟨hw, fun _ => ?_, by simp⟩ k2
          · simp only []
            rw [hopr]
            exact CallP.opW (hfv := hfv) hop rfl hp
          · simp only []
            rw [hopr, hopa, List.map_cons, hg]
      · rename_i hno
        have hra : opReads o.op = opArgs o.op := opReads_arg fun f args ats e => hno f args ats e
        obtain ⟨ns, st, v, bs, bs', g1, g2, g4, g3⟩ := drStoreK_spec (ro := ro) (n := n) hE hx
        obtain ⟨k1, k2⟩ := putK_spec g1
        exact join { o := o, idx := j, run := true, vs := (opArgs o.op).map (ev ts), ns := ns, bs := bs, bs' := bs', v := v, still := st } nf' rfl rfl
          ⟨fun _ => by simp only []; rw [hra]; exact g3, fun h => (by cases h), k1, fun hs => .inl (g4 hs)⟩ ⟨hw, fun _ => by simp only []; rw [hra], g2⟩ k2
    · obtain ⟨k1, k2⟩ := putK_spec hx
      exact join { o := o, idx := j, run := false, vs := [], ns := [], bs := [], bs' := [], v := .tup [], still := true } nf' rfl rfl ⟨fun h => (by cases h), fun _ => ⟨rfl, rfl⟩, k1, fun _ => .inr rfl⟩ ⟨hw, fun h => (by cases h), by simp⟩ k2
theorem numbered_get {l : List Inst} : ∀ {j : Nat}, Numbered j l → ∀ x ∈ l, ∃ i, l[i]? = some x ∧ x.idx = j + i := by
  induction l with
  | nil => intro j _ x hx; cases hx
  | cons y l ih =>
    intro j h x hx
    obtain ⟨h1, h2⟩ := h
    rcases List.mem_cons.1 hx with rfl | hx
    · exact ⟨0, rfl, h1⟩
    · obtain ⟨i, g1, g2⟩ := ih h2 x hx
      exact ⟨i + 1, by simpa using g1, by omega⟩
theorem numbered_mem {l : List Inst} : ∀ {j : Nat}, Numbered j l → ∀ i, i < l.length → ∃ x ∈ l, x.idx = j + i := by
  induction l with
  | nil => intro j _ i hi; cases hi
  | cons y l ih =>
    intro j h i hi
    obtain ⟨h1, h2⟩ := h
    cases i with
    | zero => exact ⟨y, .head _, h1⟩
    | succ i =>
      obtain ⟨x, hx, hi⟩ := ih h2 i (by simpa using hi)
      exact ⟨x, .tail _ hx, by omega⟩
theorem indepFrom_spec {all : List Oper} {i : Nat} {o : Oper} {f : List Nat × Bool} {l : List Inst} : indepFrom all i o f (l.map Inst.o) (l.map Inst.fp) = true → ∀ y ∈ l, waitsT all 2 y.o i = true ∨ (fpApart f y.fp = true ∧ tmpApart all o y.o = true) := by
  induction l with
  | nil => intro _ y hy; cases hy
  | cons z l ih =>
    intro h y hy
    simp only [List.map_cons, indepFrom, Bool.and_eq_true, Bool.or_eq_true] at h
    rcases List.mem_cons.1 hy with rfl | hy
    · rcases h.1 with (h | h) | h
      · exact .inl (waitsT_of h 2)
      · exact .inr h
      · exact .inl h
    · exact ih h.2 y hy
theorem indep_spec {all : List Oper} {l : List Inst} : ∀ {j : Nat}, indep all j (l.map Inst.o) (l.map Inst.fp) = true → Numbered j l → Ordered all l ∧ ∀ x ∈ l, backs x.o x.idx = true := by
  induction l with
  | nil => intro j _ _; exact ⟨.nil, by simp⟩
  | cons x l ih =>
    intro j h hn
    obtain ⟨n1, n2⟩ := hn
    simp only [List.map_cons, indep, Bool.and_eq_true] at h
    obtain ⟨⟨h1, h2⟩, h3⟩ := h
    obtain ⟨i1, i2⟩ := ih h3 n2
    refine ⟨.cons (fun y hy => ?_) i1, fun y hy => ?_⟩
    · obtain ⟨i, _, hi⟩ := numbered_get n2 y hy
      refine ⟨by omega, ?_⟩
      rw [n1]
      rcases indepFrom_spec h2 y hy with h | ⟨h, h'⟩
      · exact .inl h
      · exact .inr ⟨h', h⟩
    · rcases List.mem_cons.1 hy with rfl | hy
      · rw [n1]; exact h1
      · exact i2 y hy
theorem exDr_sound {C : Cx} {n : Nat} {E : Env} (hE : E.Ok P) {id : Nat} {ops : Array Oper} {k : Tm → Hp → Prop} {nf : Nat} {ts : Tm} {h : Hp} {a : Act} {w : World} {S : Stb} {β : Bet} {Q : Exit → Act → World → Prop}
    (hx : exDr E ops.toList ops.toList nf ts h fun fs ts h => chkB (indep ops.toList 0 ops.toList fs) (k ts h)) (hs : St E.N C a w S ts h β) (hQ : ∀ a' w', Post E.N C w S h β k a' w' → Q .normal a' w') :
    (Code.region id ops true).wpIn (FF C.ro) n P Q a w := by
  obtain ⟨insts, tF, hF, g1, g2, g3, g4, g5⟩ := exDr_chain (ro := C.ro) (n := n) hE ops.toList ops.toList 0 nf ts h _ hx
  obtain ⟨hi, hk⟩ := (chkB_iff _ _).1 g1
  rw [← g3] at hi
  have hi' : indep ops.toList 0 (insts.map Inst.o) (insts.map Inst.fp) = true := by simpa [g3] using hi
  obtain ⟨o1, o2⟩ := indep_spec hi' g4
  have hlen : insts.length = ops.size := by
    have := congrArg List.length g3
    simpa using this
  obtain ⟨d1, d2⟩ := drawn hs.hr
  refine wpIn_region_any hE.mixed (wpAny_chain (w := w.drew) hk ops.size insts _ ts h a S β Q hlen g2 (hs.evol d2 d1) (by simp) (fun j oj _ hj => by rw [Array.getD_eq_getD_getElem?, Array.getElem?_replicate] at hj; split at hj <;> simp at hj) (fun i hi => ?_) (fun x hx => ⟨?_, g5 x hx, o2 x hx⟩) o1 fun a' w' hp => hQ a' w' ?_)
  · have h1 : (Array.replicate ops.size false).getD i true = false := by
      rw [Array.getD_eq_getD_getElem?, Array.getElem?_replicate, if_pos hi]; rfl
    obtain ⟨x, hx, hxi⟩ := numbered_mem g4 i (by omega)
    exact Iff.intro (fun _ => ⟨x, hx, by omega⟩) fun _ => h1
  · obtain ⟨i, h1, h2⟩ := numbered_get g4 x hx
    have : (insts.map Inst.o)[i]? = some x.o := by simp [h1]
    rw [g3] at this
    rw [h2, Nat.zero_add]
    simpa using this
  · obtain ⟨t1, t2, t3, t4, t5, t6, t7⟩ := hp
    exact ⟨t1, t2, t3, t4, t5, t6, d2.trans t7⟩
end Go.PM
/-
  PM, part 18: code.
-/
set_option linter.unusedSectionVars false
namespace Go.PM
variable [Glob]
variable {P : Program}
theorem lenOfK_spec : ∀ (h : Hp) (k : Nat → Prop), roomK.lenOfK h k → k h.length
  | [], k, hk => hk
  | _ :: h, k, hk => lenOfK_spec h _ hk
theorem appK_spec : ∀ (h ys : Hp) (k : Hp → Prop), appK h ys k → k (h ++ ys)
  | [], ys, k, hk => hk
  | _ :: h, ys, k, hk => appK_spec h ys _ hk
theorem resL_spec : ∀ (n : Nat) (k : List Blk → Prop), resL n k → k (List.replicate n .res)
  | 0, k, hk => hk
  | n + 1, k, hk => resL_spec n _ hk
theorem padK_spec {h : Hp} {n : Nat} {k : Hp → Prop} (hk : padK h n k) : k (h ++ List.replicate n .res) := appK_spec _ _ _ (resL_spec _ _ hk)
theorem roomK_spec {n : Nat} {h : Hp} {k : Nat → Hp → Prop} (hk : roomK n h k) : ∃ nf, k nf (h ++ List.replicate n .res) := by
  unfold roomK at hk
  cases n with
  | zero => exact ⟨0, by simpa using hk⟩
  | succ n => exact ⟨h.length, padK_spec (lenOfK_spec h _ hk)⟩
theorem Prep.elim {W : Tm → Hp → Tm → Hp → Prop} {ts : Tm} {h : Hp} {k : Tm → Hp → Prop} (hp : Prep W ts h k) : ∃ ts' h', W ts h ts' h' ∧ k ts' h' := hp.holds
theorem Prep.mk {W : Tm → Hp → Tm → Hp → Prop} {ts : Tm} {h : Hp} {k : Tm → Hp → Prop} (ts' : Tm) (h' : Hp) (hw : W ts h ts' h') (hk : k ts' h') : Prep W ts h k := ⟨ts', h', hw, hk⟩
theorem Post.then {N : Nat} {C : Cx} {w w1 : World} {S S1 : Stb} {h h1 : Hp} {β β1 : Bet} {k : Tm → Hp → Prop} {a' : Act} {w' : World} (E : Evol w S h β w1 S1 h1 β1) (hp : Post N C w1 S1 h1 β1 k a' w') : Post N C w S h β k a' w' := by
  obtain ⟨t1, t2, t3, t4, t5, t6, t7⟩ := hp
  exact ⟨t1, t2, t3, t4, t5, t6, E.trans t7⟩
theorem PostE.then {N : Nat} {C : Cx} {w w1 : World} {S S1 : Stb} {h h1 : Hp} {β β1 : Bet} {k : Ex → Tm → Hp → Prop} {e : Exit} {a' : Act} {w' : World} (E : Evol w S h β w1 S1 h1 β1) (hp : PostE N C w1 S1 h1 β1 k e a' w') : PostE N C w S h β k e a' w' := by
  obtain ⟨x, h1, h2⟩ := hp
  exact ⟨x, h1, h2.then E⟩
theorem PostE.here {N : Nat} {C : Cx} {w : World} {S : Stb} {ts : Tm} {h : Hp} {β : Bet} {k : Ex → Tm → Hp → Prop} {a : Act} (x : Ex) (hs : St N C a w S ts h β) (hk : k x ts h) : PostE N C w S h β k (exitOf x) a w :=
  ⟨x, rfl, ts, h, S, β, hk, hs, Evol.refl _ _ _ _⟩
theorem AWP.mono {N : Nat} {c : Code} {ts : Tm} {h : Hp} {k k' : Ex → Tm → Hp → Prop} (hk : ∀ e ts h, k e ts h → k' e ts h) (hc : AWP P N c ts h k) : AWP P N c ts h k' :=
  fun n C a w S β hs => wpIn_mono (hc n C a w S β hs) fun _ _ _ ⟨x, e, t1, t2, t3, t4, t5, t6⟩ => ⟨x, e, t1, t2, t3, t4, hk _ _ _ t5, t6⟩
theorem AWP.seq {N : Nat} {c d : Code} {ts : Tm} {h : Hp} {k : Ex → Tm → Hp → Prop}
    (hc : AWP P N c ts h fun e ts h => match e with
      | .normal => AWP P N d ts h k
      | e => k e ts h) : AWP P N (.seq c d) ts h k := by
  intro n C a w S β hs
  refine wpIn_seq (wpIn_mono (hc n C a w S β hs) fun e a' w' hp => ?_)
  obtain ⟨x, rfl, t1, t2, t3, t4, t5, t6, t7⟩ := hp
  cases x with
  | normal => exact wpIn_mono (t5 n C a' w' t3 t4 t6) fun e a2 w2 hp2 => hp2.then t7
  | exit id => exact ⟨.exit id, rfl, t1, t2, t3, t4, t5, t6, t7⟩
  | ret => exact ⟨.ret, rfl, t1, t2, t3, t4, t5, t6, t7⟩
theorem AWP.cond {N : Nat} {c : Operand} {x y : Code} {ts : Tm} {h : Hp} {k : Ex → Tm → Hp → Prop} {b : Bool} (hb : ev ts c = .d (.b b)) (h1 : b = true → AWP P N x ts h k) (h2 : b = false → AWP P N y ts h k) : AWP P N (.cond c x y) ts h k := by
  intro n C a w S β hs
  have hv := ev_rel hs.hr.glob hs.tr c
  rw [hb] at hv
  have hc : a.eval c = .bool b := by
    generalize a.eval c = v at hv
    cases hv with
    | d hd => cases hd; rfl
  exact wpIn_cond_split hc (fun e => h1 e n C a w S β hs) fun e => h2 e n C a w S β hs
theorem AWP.block {N : Nat} {id : Nat} {c : Code} {ts : Tm} {h : Hp} {k : Ex → Tm → Hp → Prop}
    (hc : AWP P N c ts h fun e ts h => match e with
      | .exit j => match Nat.beq j id with
        | true => k .normal ts h
        | false => k (.exit j) ts h
      | e => k e ts h) : AWP P N (.block id c) ts h k := by
  intro n C a w S β hs
  refine wpIn_block (wpIn_mono (hc n C a w S β hs) fun e a' w' hp => ?_)
  obtain ⟨x, rfl, t1, t2, t3, t4, t5, t6, t7⟩ := hp
  cases x with
  | normal => exact ⟨.normal, rfl, t1, t2, t3, t4, t5, t6, t7⟩
  | exit j =>
    simp only [exitOf, Exit.inBlock]
    cases hj : Nat.beq j id with
    | true =>
      simp only [hj] at t5
      rw [if_pos (Nat.eq_of_beq_eq_true hj)]
      exact ⟨.normal, rfl, t1, t2, t3, t4, t5, t6, t7⟩
    | false =>
      simp only [hj] at t5
      rw [if_neg (fun e => by rw [e, Nat.beq_refl id] at hj; cases hj)]
      exact ⟨.exit j, rfl, t1, t2, t3, t4, t5, t6, t7⟩
  | ret => exact ⟨.ret, rfl, t1, t2, t3, t4, t5, t6, t7⟩
theorem stepR_scope {b : Frame} {a : Act} {k : List Item} {cs : List Frame} {w : World} {c : Code} : step P (lone (b.atR a (.code (.scope c) :: k)) cs w) = .next (lone (b.atR a (.code c :: .inScope c :: k)) cs w) :=
  step_lone_go (by simp [stepG, stepG.exec, Frame.atR])
theorem stepR_inScope {b : Frame} {a : Act} {k : List Item} {cs : List Frame} {w : World} {c : Code} : step P (lone (b.atR a (.inScope c :: k)) cs w) = .next (lone (b.atR a k) cs w) :=
  step_lone_go (by simp [stepG, stepG.exec, Frame.atR])
theorem wpIn_scope {F : Fence} {n : Nat} {c : Code} {Q : Exit → Act → World → Prop} {a : Act} {w : World} (hQ : ∀ l a w, ¬ Q (.goto l) a w) (h : c.wpIn F n P Q a w) : (Code.scope c).wpIn F n P Q a w := by
  intro b k cs hro hb hr
  have h0 : (lone (b.atR a (.code (.scope c) :: k)) cs w).fenced P F := fenced_calm hb hr rfl
  obtain ⟨e, a₁, w₁, hq, harr⟩ := h b (.inScope c :: k) cs hro hb hr
  cases e with
  | normal => exact ⟨.normal, a₁, w₁, hq, .head h0 stepR_scope (StepsIn.trans harr (.one (fenced_calm hb hr rfl) stepR_inScope))⟩
  | exit id =>
    have hx : exitTo id (.inScope c :: k) = exitTo id k := by simp [exitTo]
    exact ⟨.exit id, a₁, w₁, hq, fun k' hk => .head h0 stepR_scope (harr.1 k' (by rw [hx]; exact hk)),
      fun hr' hk => let ⟨k₁, h1, h2⟩ := harr.2 hr' (by rw [hx]; exact hk); ⟨k₁, h1, .head h0 stepR_scope h2⟩⟩
  | goto l => exact absurd hq (hQ l a₁ w₁)
  | ret => exact ⟨_, a₁, w₁, hq, .of_steps (.one h0 stepR_scope) harr⟩
  | panic ch => exact ⟨_, a₁, w₁, hq, .of_steps (.one h0 stepR_scope) harr⟩
  | outgrown => exact ⟨_, a₁, w₁, hq, .of_steps (.one h0 stepR_scope) harr⟩
theorem PostE.no_goto {N : Nat} {C : Cx} {w : World} {S : Stb} {h : Hp} {β : Bet} {k : Ex → Tm → Hp → Prop} (l : Nat) (a : Act) (w' : World) : ¬ PostE N C w S h β k (.goto l) a w' := by
  rintro ⟨x, hx, _⟩
  cases x <;> cases hx
theorem exCode_sound {E : Env} (hE : E.Ok P) : ∀ (c : Code) (ts : Tm) (h : Hp) (k : Ex → Tm → Hp → Prop), exCode E c ts h k → AWP P E.N c ts h k := by
  intro c
  induction c with
  | skip => exact fun ts h k hx n C a w S β hs => wpIn_skip (.here .normal hs hx)
  | region id ops d =>
    intro ts h k hx n C a w S β hs
    cases d with
    | false =>
      have hx : roomK (newCount false ops.toList) h fun nf h => exOps E ops.toList ops.toList nf ts h fun ts h => k .normal ts h := hx
      obtain ⟨nf, hx⟩ := roomK_spec hx
      obtain ⟨β', r1, r2⟩ := padded hs.hr (newCount false ops.toList)
      have hs' := hs.evol r2 r1
      refine wpIn_region ?_
      have := exOps_sound (n := n) (C := C) hE ops ops.toList 0 nf ts _ a w S β' (PostE E.N C w S h β k) (fun i => by simp) hx hs' fun a' w' hp => ⟨.normal, rfl, hp.then r2⟩
      rw [List.range_eq_range']
      simpa using this
    | true =>
      have fin : ∀ {ts : Tm} {h : Hp} {S : Stb} {β : Bet}, (roomK (newCount true ops.toList) h fun nf h => exDr E ops.toList ops.toList nf ts h fun fs ts h => chkB (indep ops.toList 0 ops.toList fs) (k .normal ts h)) → St E.N C a w S ts h β →
          (Code.region id ops true).wpIn (FF C.ro) n P (PostE E.N C w S h β k) a w := fun hx hs => by
        obtain ⟨nf, hx⟩ := roomK_spec hx
        obtain ⟨β', r1, r2⟩ := padded hs.hr (newCount true ops.toList)
        exact exDr_sound hE hx (hs.evol r2 r1) fun a' w' hp => ⟨.normal, rfl, hp.then r2⟩
      have hx : exRegion E ops true ts h k := hx
      simp only [exRegion] at hx
      split at hx
      · exact fin hx hs
      · obtain ⟨ts', h', hw, hx⟩ := hx.elim
        obtain ⟨S', β', s1, e1⟩ := hE.weak _ _ _ _ hw C a w S β hs
        exact wpIn_mono (fin hx s1) fun e a' w' hp => hp.then e1
  | seq c d ihc ihd =>
    intro ts h k hx
    have hx : exCode E c ts h (seqK (exCode E d) k) := hx
    refine AWP.seq (AWP.mono (fun e ts h hk => ?_) (ihc ts h _ hx))
    cases e with
    | normal => exact ihd ts h k hk
    | exit id => exact hk
    | ret => exact hk
  | cond c x y ihx ihy =>
    intro ts h k hx
    have hx : exCond ts c (exCode E x ts h k) (exCode E y ts h k) := hx
    unfold exCond at hx
    have hx := evK_spec _ _ _ hx
    split at hx
    · rename_i b hb
      obtain ⟨h1, h2⟩ := (br_iff _ _ _).1 hx
      exact AWP.cond hb (fun e => ihx _ _ _ (h1 e)) fun e => ihy _ _ _ (h2 e)
    · exact hx.elim
  | block id c ih =>
    intro ts h k hx
    have hx : exCode E c ts h (blockK id k) := hx
    refine AWP.block (AWP.mono (fun e ts h hk => ?_) (ih _ _ _ hx))
    cases e <;> exact hk
  | loop c _ => exact fun ts h k hx => hE.loop c ts h k hx
  | rangeFunc g ps as body => exact fun ts h k hx => hE.range g ps as body ts h k hx
  | exit id => exact fun ts h k hx n C a w S β hs => wpIn_exit (.here (.exit id) hs hx)
  | scope c ih => exact fun ts h k hx n C a w S β hs => wpIn_scope (fun l a w => PostE.no_goto l a w) (ih ts h k hx n C a w S β hs)
  | label l => exact fun ts h k hx n C a w S β hs => wpIn_label (.here .normal hs hx)
  | goto l => exact fun ts h k hx => hx.elim
  | ret => exact fun ts h k hx n C a w S β hs => wpIn_ret (.here .ret hs hx)
  | refuse m => exact fun ts h k hx => hx.elim
end Go.PM
/-
  PM, part 19: states that say less. Temporaries forgotten, names dropped, rows that become data.
-/
set_option linter.unusedSectionVars false
namespace Go.PM
variable [Glob]
variable {P : Program}
theorem Wk.refl {N : Nat} {ts : Tm} {h : Hp} : Wk N ts h ts h := fun C a w S β hs => ⟨S, β, hs, Evol.refl _ _ _ _⟩
theorem Wk.trans {N : Nat} {ts ts1 ts2 : Tm} {h h1 h2 : Hp} (x : Wk N ts h ts1 h1) (y : Wk N ts1 h1 ts2 h2) : Wk N ts h ts2 h2 := fun C a w S β hs => by
  obtain ⟨S1, β1, s1, e1⟩ := x C a w S β hs
  obtain ⟨S2, β2, s2, e2⟩ := y C a w S1 β1 s1
  exact ⟨S2, β2, s2, e1.trans e2⟩
theorem AWP.weak {N : Nat} {c : Code} {ts ts' : Tm} {h h' : Hp} {k : Ex → Tm → Hp → Prop} (x : Wk N ts h ts' h') (hc : AWP P N c ts' h' k) : AWP P N c ts h k := fun n C a w S β hs => by
  obtain ⟨S1, β1, s1, e1⟩ := x C a w S β hs
  exact wpIn_mono (hc n C a w S1 β1 s1) fun e a2 w2 hp => hp.then e1
theorem Wk.tmps {N : Nat} {ts ts' : Tm} {h : Hp} (hh : ∀ p ∈ ts', look ts p.1 = p.2) : Wk N ts h ts' h := fun C a w S β hs => by
  refine ⟨S, β, ⟨hs.hr, fun t => ?_, hs.size, hs.marks, hs.round, hs.base⟩, Evol.refl _ _ _ _⟩
  have key : ∀ l : Tm, (∀ p ∈ l, look ts p.1 = p.2) → look l t = .u ∨ look l t = look ts t := by
    intro l
    induction l with
    | nil => intro _; exact .inl rfl
    | cons p l ih =>
      intro hl
      obtain ⟨j, v⟩ := p
      simp only [look]
      cases hj : Nat.beq j t with
      | true =>
        have := hl (j, v) (.head _)
        rw [← Nat.eq_of_beq_eq_true hj]
        exact .inr this.symm
      | false => exact ih fun p hp => hl p (.tail _ hp)
  rcases key ts' hh with e | e
  · rw [e]; exact .u _
  · rw [e]; exact hs.tr t
def nm1 (n : Nat) : V → Bool
  | .ptr m _ _ _ => Nat.blt m n
  | .sref m _ _ _ _ => Nat.blt m n
  | .yld m => Nat.blt m n
  | .map m => Nat.blt m n
  | .agg _ => false
  | .tup _ => false
  | .fn _ cap => match cap with
    | [] => true
    | _ => false
  | _ => true
def nmV (n : Nat) : V → Bool
  | .agg cs => cs.all (nm1 n)
  | .tup cs => cs.all (nm1 n)
  | .fn _ cap => cap.all (nm1 n)
  | v => nm1 n v
def nmBlk (n : Nat) : Blk → Bool
  | .var cs => cs.all (nmV n)
  | .loop _ _ _ ts _ _ _ => ts.all fun p => nmV n p.2
  | .mapo _ _ _ _ lent => match lent with
    | some (_, v, _) => nm1 n v
    | none => true
  | _ => true
theorem blt_lt {m n : Nat} (h : Nat.blt m n = true) : m < n := Nat.le_of_ble_eq_true h
def cutB (h : Hp) (β : Bet) (n : Nat) : Bet := β.take (min n h.length) ++ β.drop h.length
theorem take_get {α : Type} {l : List α} {n m : Nat} (h : m < n) : (l.take n)[m]? = l[m]? := List.getElem?_take_of_lt h
theorem cutB_get {h : Hp} {β : Bet} {n m : Nat} (h1 : m < n) (h2 : m < h.length) : (cutB h β n)[m]? = β[m]? := by
  unfold cutB
  by_cases hl : h.length ≤ β.length
  · rw [List.getElem?_append_left (by rw [List.length_take]; omega), List.getElem?_take_of_lt (by omega)]
  · rw [List.drop_eq_nil_of_le (by omega), List.append_nil, List.getElem?_take_of_lt (by omega)]
theorem cutB_tl {h : Hp} {β : Bet} {n : Nat} (hl : h.length ≤ β.length) (r : Nat) : tl (h.take n) (cutB h β n) r = tl h β r := by
  unfold tl cutB
  rw [List.getElem?_append_right (by simp only [List.length_take]; omega), List.getElem?_drop]
  congr 1
  simp only [List.length_take]; omega
theorem cutB_case {h : Hp} {β : Bet} {n m b p : Nat} (hl : h.length ≤ β.length) (hm : (cutB h β n)[m]? = some (some (b, p))) : ∃ m', β[m']? = some (some (b, p)) ∧ ((m < min n h.length ∧ m' = m) ∨ (min n h.length ≤ m ∧ m' = m - min n h.length + h.length)) := by
  by_cases h1 : m < min n h.length
  · rw [cutB_get (by omega) (by omega)] at hm
    exact ⟨m, hm, .inl ⟨h1, rfl⟩⟩
  · unfold cutB at hm
    rw [List.getElem?_append_right (by rw [List.length_take]; omega), List.getElem?_drop, List.length_take] at hm
    refine ⟨_, hm, .inr ⟨by omega, by omega⟩⟩
theorem got {α : Type} {l : List α} {n : Nat} {x : α} (h : l[n]? = some x) : n < l.length := (List.getElem?_eq_some_iff.1 h).1
theorem VR.drop1 {w : World} {S : Stb} {h : Hp} {β : Bet} {n : Nat} {x : V} {v : Value} (hx : VR w S h β x v) (hb : nm1 n x = true) : VR w S (h.take n) (cutB h β n) x v := by
  cases hx with
  | u => exact .u _
  | d h => exact .d h
  | agg => cases hb
  | tup => cases hb
  | @ptr m _ _ _ _ h1 h2 =>
    have hl := blt_lt hb
    refine .ptr h1 ?_
    unfold PR at h2 ⊢
    rw [take_get hl]
    by_cases hm : m < h.length
    · rw [cutB_get hl hm]; exact h2
    · rw [List.getElem?_eq_none (by omega)] at h2; exact h2.elim
  | rp cs o b off uf h1 h2 => exact .rp cs o b off uf h1 h2
  | @sref m _ _ _ _ _ h1 h2 =>
    have hl := blt_lt hb
    refine .sref h1 ?_
    unfold SR at h2 ⊢
    rw [take_get hl]
    by_cases hm : m < h.length
    · rw [cutB_get hl hm]; exact h2
    · obtain ⟨a, cap, _, _, _, h2⟩ := h2
      rw [List.getElem?_eq_none (by omega)] at h2; exact h2.elim
  | fn f cap arr h1 h2 =>
    cases cap with
    | nil => exact .fn f [] arr h1 (by simp)
    | cons => cases hb
  | @yld m _ h1 h2 =>
    have hl := blt_lt hb
    by_cases hm : m < h.length
    · exact .yld (by rw [take_get hl]; exact h1) (by rw [take_get hl, cutB_get hl hm]; exact h2)
    · rw [List.getElem?_eq_none (by omega)] at h1; exact h1.elim
  | @map m _ h1 h2 =>
    have hl := blt_lt hb
    by_cases hm : m < h.length
    · exact .map (by rw [take_get hl]; exact h1) (by rw [take_get hl, cutB_get hl hm]; exact h2)
    · rw [List.getElem?_eq_none (by omega)] at h1; exact h1.elim
theorem VR.drop {w : World} {S : Stb} {h : Hp} {β : Bet} {n : Nat} {x : V} {v : Value} (hx : VR w S h β x v) (hb : nmV n x = true) : VR w S (h.take n) (cutB h β n) x v := by
  have all : ∀ {cs : List V} {j : Nat} {c : V}, cs.all (nm1 n) = true → cs[j]? = some c → nm1 n c = true := fun h hj => List.all_eq_true.1 h _ (List.mem_of_getElem? hj)
  cases hx with
  | agg cs arr h1 h2 h3 => exact .agg cs arr h1 h2 fun j c u hc hu => (h3 j c u hc hu).drop1 (all hb hc)
  | tup cs arr h1 h2 => exact .tup cs arr h1 fun j c u hc hu => (h2 j c u hc hu).drop1 (all hb hc)
  | fn f cap arr h1 h2 => exact .fn f cap arr h1 fun j c u hc hu => (h2 j c u hc hu).drop1 (all hb hc)
  | u => exact .u _
  | d h => exact .d h
  | ptr h1 h2 => exact (VR.ptr h1 h2).drop1 hb
  | rp cs o b off uf h1 h2 => exact .rp cs o b off uf h1 h2
  | sref h1 h2 => exact (VR.sref h1 h2).drop1 hb
  | yld h1 h2 => exact (VR.yld h1 h2).drop1 hb
  | map h1 h2 => exact (VR.map h1 h2).drop1 hb
theorem TR.drop {w : World} {S : Stb} {h : Hp} {β : Bet} {n : Nat} {ts : Tm} {tmps : Array Value} (hx : TR w S h β ts tmps) (hb : ts.all (fun p => nmV n p.2) = true) : TR w S (h.take n) (cutB h β n) ts tmps := fun t => by
  refine (hx t).drop ?_
  have key : ∀ l : Tm, l.all (fun p => nmV n p.2) = true → nmV n (look l t) = true := by
    intro l
    induction l with
    | nil => intro _; rfl
    | cons p l ih =>
      intro hl
      obtain ⟨j, v⟩ := p
      simp only [List.all_cons, Bool.and_eq_true] at hl
      simp only [look]
      cases Nat.beq j t with
      | true => exact hl.1
      | false => exact ih hl.2
  exact key ts hb
theorem BR.drop {w : World} {S : Stb} {h : Hp} {β : Bet} {n m : Nat} (hm : m < n) (hmh : m < h.length) (hlen : h.length ≤ β.length) {b : Blk} (hx : BR w S h β m b) (hb : nmBlk n b = true) : BR w S (h.take n) (cutB h β n) m b := by
  cases b with
  | res => simp only [BR] at hx ⊢; rw [cutB_get hm hmh]; exact hx
  | gone => simp only [BR] at hx ⊢; rw [cutB_get hm hmh]; exact hx
  | var cs =>
    obtain ⟨b, c, e, h1, h2, h3, h4, h5⟩ := hx
    exact ⟨b, c, e, by rw [cutB_get hm hmh]; exact h1, h2, h3, fun j x u hj hu => ⟨(h4 j x u hj hu).1, (h4 j x u hj hu).2.drop (List.all_eq_true.1 hb _ (List.mem_of_getElem? hj))⟩, h5⟩
  | vard cs =>
    obtain ⟨b, c, e, h1, h2⟩ := hx
    exact ⟨b, c, e, by rw [cutB_get hm hmh]; exact h1, h2⟩
  | row ver sz ro xs =>
    obtain ⟨h0, h1, h2⟩ := hx
    refine ⟨h0, h1, ?_⟩
    rcases h2 with ⟨h2, h3⟩ | ⟨b, base, c, e, h2, h3⟩
    · exact .inl ⟨h2, by rw [cutB_get hm hmh]; exact h3⟩
    · exact .inr ⟨b, base, c, e, by rw [cutB_get hm hmh]; exact h2, h3⟩
  | map T kt es =>
    obtain ⟨b, c, e, h1, h2⟩ := hx
    exact ⟨b, c, e, by rw [cutB_get hm hmh]; exact h1, h2⟩
  | mapn T kt =>
    obtain ⟨b, h1, h2⟩ := hx
    exact ⟨b, by rw [cutB_get hm hmh]; exact h1, h2⟩
  | mapo T kt sz es l =>
    obtain ⟨h0, b, c, h1, h2, h3, hborn, ⟨q, h4, hq⟩, h5, h6⟩ := hx
    refine ⟨h0, b, c, by rw [cutB_get hm hmh]; exact h1, h2, h3, hborn, ⟨q, fun j p mm hj hu => ?_, hq⟩, h5, h6⟩
    obtain ⟨a1, a2, a3⟩ := h4 j p mm hj hu
    refine ⟨a1, a2, ?_⟩
    obtain ⟨key, x⟩ := p
    cases x with
    | none =>
      obtain ⟨v, v1, v2⟩ := a3
      subst v1
      exact ⟨v, rfl, v2.drop1 hb⟩
    | some xs =>
      obtain ⟨b2, base, cells, elem, cap, g1, g2⟩ := a3
      exact ⟨b2, base, cells, elem, cap, by rw [cutB_tl hlen]; exact g1, g2⟩
  | miter T kt l c =>
    obtain ⟨r, mb, q, mes, since, seen, last, clock, h1, h2, h3, h4⟩ := hx
    exact ⟨r, mb, q, mes, since, seen, last, clock, by rw [cutB_get hm hmh]; exact h1, h2, by rw [cutB_tl hlen]; exact h3, h4⟩
  | loop st pend N ts ps as body =>
    obtain ⟨b, l, h1, h2, h3, h4, h5, h6, h7, h8, h9⟩ := hx
    exact ⟨b, l, by rw [cutB_get hm hmh]; exact h1, h2, h3, h4, h5, h6, h7, h8.drop hb, h9⟩
theorem HR.drop {w : World} {S : Stb} {h : Hp} {β : Bet} (hr : HR w S h β) {n : Nat} (hb : (h.take n).all (nmBlk n) = true) : HR w S (h.take n) (cutB h β n) where
  len := by have := hr.len; unfold cutB; simp only [List.length_take, List.length_append, List.length_drop]; omega
  blk := fun m b hm => by
    have hmn : m < n := by
      have := (List.getElem?_eq_some_iff.1 hm).1
      simp at this; omega
    have hbb := List.all_eq_true.1 hb _ (List.mem_of_getElem? hm)
    rw [take_get hmn] at hm
    exact (hr.blk m b hm).drop hmn (got hm) hr.len hbb
  inj := fun m1 m2 b p q h1 h2 => by
    obtain ⟨k1, e1, c1⟩ := cutB_case hr.len h1
    obtain ⟨k2, e2, c2⟩ := cutB_case hr.len h2
    have := hr.inj _ _ _ _ _ e1 e2
    omega
  old := hr.old
  glob := hr.glob
  tlt := fun r b p hb => by rw [cutB_tl hr.len] at hb; exact hr.tlt r b p hb
  one := fun n1 n2 b c h1 h2 => by
    have key : ∀ {m : Nat} {b : Blk}, (h.take n)[m]? = some b → h[m]? = some b := fun {m b} hm => by
      have hmn : m < n := by
        have := (List.getElem?_eq_some_iff.1 hm).1
        simp at this; omega
      rwa [take_get hmn] at hm
    exact hr.one n1 n2 b c (key h1) (key h2)
theorem Evol.drop {w w' : World} {S S' : Stb} {h h' : Hp} {β β' : Bet} (E : Evol w S h β w' S' h' β') {n : Nat} (hn : h.length ≤ n) (hl : h'.length ≤ β'.length) : Evol w S h β w' S' (h'.take n) (cutB h' β' n) where
  outer := E.outer
  size := E.size
  frame := E.frame
  shape := E.shape
  loops := E.loops
  froz := E.froz
  sub := E.sub
  new := E.new
  cell := E.cell
  imgs := fun b hb => by
    obtain ⟨m, p, hm⟩ := hb
    obtain ⟨m', e, _⟩ := cutB_case hl hm
    exact E.imgs b ⟨m', p, e⟩
  len := by have := E.len; simp; omega
  blk := fun m b hm => by
    obtain ⟨b', h1, h2⟩ := E.blk m b hm
    have hmn : m < n := by
      have := (List.getElem?_eq_some_iff.1 hm).1; omega
    exact ⟨b', by rw [take_get hmn]; exact h1, by rw [cutB_get hmn (got h1)]; exact h2⟩
theorem Marks.drop {B : Nat} {w : World} {h : Hp} {β : Bet} {ds : List Deferred} (hl : h.length ≤ β.length) (hm : Marks B w β ds) (n : Nat) : Marks B w (cutB h β n) ds := by
  refine ⟨hm.1, fun d hd => ?_⟩
  obtain ⟨r, h1, h2, h3, h4⟩ := hm.2 d hd
  refine ⟨r, h1, h2, h3, fun ⟨m, p, hp⟩ => ?_⟩
  obtain ⟨m', e, _⟩ := cutB_case hl hp
  exact h4 ⟨m', p, e⟩
def Wm (N m : Nat) (ts : Tm) (h : Hp) (ts' : Tm) (h' : Hp) : Prop :=
  ∀ (C : Cx) (a : Act) (w0 w : World) (S0 S : Stb) (h0 : Hp) (β0 β : Bet), h0.length = m → St N C a w S ts h β → Evol w0 S0 h0 β0 w S h β → ∃ S' β', St N C a w S' ts' h' β' ∧ Evol w0 S0 h0 β0 w S' h' β'
theorem Wk.wm {N m : Nat} {ts ts' : Tm} {h h' : Hp} (x : Wk N ts h ts' h') : Wm N m ts h ts' h' := fun C a w0 w S0 S h0 β0 β _ hs hE => by
  obtain ⟨S', β', s1, e1⟩ := x C a w S β hs
  exact ⟨S', β', s1, hE.trans e1⟩
theorem Wm.trans {N m : Nat} {ts ts1 ts2 : Tm} {h h1 h2 : Hp} (x : Wm N m ts h ts1 h1) (y : Wm N m ts1 h1 ts2 h2) : Wm N m ts h ts2 h2 := fun C a w0 w S0 S h0 β0 β hl hs hE => by
  obtain ⟨S1, β1, s1, e1⟩ := x C a w0 w S0 S h0 β0 β hl hs hE
  exact y C a w0 w S0 S1 h0 β0 β1 hl s1 e1
theorem Wm.drop {N m n : Nat} {ts : Tm} {h : Hp} (hn : m ≤ n) (h1 : ts.all (fun p => nmV n p.2) = true) (h2 : (h.take n).all (nmBlk n) = true) : Wm N m ts h ts (h.take n) := fun C a w0 w S0 S h0 β0 β hl hs hE =>
  ⟨S, cutB h β n, ⟨hs.hr.drop h2, hs.tr.drop h1, hs.size, hs.marks.drop hs.hr.len n, hs.round, hs.base⟩, hE.drop (by omega) hs.hr.len⟩
theorem Post.weak {N : Nat} {C : Cx} {w : World} {S : Stb} {h : Hp} {β : Bet} {k k' : Tm → Hp → Prop} {a' : Act} {w' : World} (hp : Post N C w S h β k a' w') (hk : ∀ ts' h', k ts' h' → ∃ ts2 h2, Wm N h.length ts' h' ts2 h2 ∧ k' ts2 h2) : Post N C w S h β k' a' w' := by
  obtain ⟨t1, t2, t3, t4, t5, t6, t7⟩ := hp
  obtain ⟨ts2, h2, x, y⟩ := hk _ _ t5
  obtain ⟨S', β', s1, e1⟩ := x C a' w w' S t3 h β t4 rfl t6 t7
  exact ⟨ts2, h2, S', β', y, s1, e1⟩
theorem AWP.post {N : Nat} {c : Code} {ts : Tm} {h : Hp} {k k' : Ex → Tm → Hp → Prop} (hc : AWP P N c ts h k) (hk : ∀ e ts' h', k e ts' h' → ∃ ts2 h2, Wm N h.length ts' h' ts2 h2 ∧ k' e ts2 h2) : AWP P N c ts h k' :=
  fun n C a w S β hs => wpIn_mono (hc n C a w S β hs) fun _ _ _ ⟨x, e, hp⟩ => ⟨x, e, hp.weak (hk x)⟩
def LP (P : Program) (N : Nat) (c : Code) (ts : Tm) (h : Hp) (k : Ex → Tm → Hp → Prop) : Prop :=
  ∀ (n : Nat) (C : Cx) (a : Act) (w : World) (S : Stb) (β : Bet), St N C a w S ts h β →
    ∀ (b : Frame) (kk : List Item) (cs : List Frame), b.roundOf = (FF C.ro).round → (FF C.ro).fn b.fn → (FF C.ro).room (cs.length + 1 + n) →
      ∃ e a' w', PostE N C w S h β k e a' w' ∧ ArrivesIn (Machine.fenced P (FF C.ro)) P (lone (b.atR a (.code c :: .inLoop c :: kk)) cs w) b kk cs e a' w'
theorem AWP.of_LP {N : Nat} {c : Code} {ts : Tm} {h : Hp} {k : Ex → Tm → Hp → Prop} (hl : LP P N c ts h k) : AWP P N (.loop c) ts h k := by
  intro n C a w S β hs b kk cs hro hb hr
  obtain ⟨e, a', w', hq, harr⟩ := hl n C a w S β hs b kk cs hro hb hr
  exact ⟨e, a', w', hq, .of_steps (.one (fenced_calm hb hr rfl) stepR_loop) harr⟩
theorem LP.weak {N : Nat} {c : Code} {ts ts' : Tm} {h h' : Hp} {k : Ex → Tm → Hp → Prop} (x : Wk N ts h ts' h') (hl : LP P N c ts' h' k) : LP P N c ts h k := by
  intro n C a w S β hs b kk cs hro hb hr
  obtain ⟨S1, β1, s1, e1⟩ := x C a w S β hs
  obtain ⟨e, a', w', hq, harr⟩ := hl n C a w S1 β1 s1 b kk cs hro hb hr
  exact ⟨e, a', w', hq.then e1, harr⟩
theorem LP.peel {N : Nat} {c : Code} {ts : Tm} {h : Hp} {k : Ex → Tm → Hp → Prop} (round : AWP P N c ts h fun e ts1 h1 => match e with
      | .normal => LP P N c ts1 h1 k
      | e => k e ts1 h1) : LP P N c ts h k := by
  intro n C a w S β hs b kk cs hro hb hr
  obtain ⟨e, a₁, w₁, hq, harr⟩ := round n C a w S β hs b (.inLoop c :: kk) cs hro hb hr
  obtain ⟨ex, rfl, t1, t2, t3, t4, t5, t6, t7⟩ := hq
  cases ex with
  | normal =>
    obtain ⟨e₂, a₂, w₂, hq₂, harr₂⟩ := t5 n C a₁ w₁ t3 t4 t6 b kk cs hro hb hr
    exact ⟨e₂, a₂, w₂, hq₂.then t7, .of_steps (StepsIn.trans harr (.one (fenced_calm hb hr rfl) stepR_inLoop)) harr₂⟩
  | exit id => exact ⟨_, a₁, w₁, ⟨.exit id, rfl, t1, t2, t3, t4, t5, t6, t7⟩, .pass (x := .inLoop c) rfl (fun _ _ => .inl (by simp [exitOf])) harr⟩
  | ret => exact ⟨_, a₁, w₁, ⟨.ret, rfl, t1, t2, t3, t4, t5, t6, t7⟩, .pass (x := .inLoop c) rfl (fun _ _ => .inl (by simp [exitOf])) harr⟩
theorem LP.loop {N : Nat} {c : Code} {k : Ex → Tm → Hp → Prop} {X : Type} (tsx : X → Tm) (hx : X → Hp) (Inv : X → Prop) (μ : X → Nat) (x0 : X) (h0 : Inv x0)
    (round : ∀ x, Inv x → AWP P N c (tsx x) (hx x) fun e ts h => match e with
      | .normal => ∃ y, Wm N (hx x0).length ts h (tsx y) (hx y) ∧ Inv y ∧ μ y < μ x
      | e => k e ts h) : LP P N c (tsx x0) (hx x0) k := by
  intro n C a w S β hs
  intro b kk cs hro hb hr
  have key : ∀ (j : Nat) (x : X) (a' : Act) (w' : World) (S' : Stb) (β' : Bet), μ x = j → Inv x → St N C a' w' S' (tsx x) (hx x) β' → Evol w S (hx x0) β w' S' (hx x) β' →
      ∃ e a2 w2, PostE N C w S (hx x0) β k e a2 w2 ∧ ArrivesIn (Machine.fenced P (FF C.ro)) P (lone (b.atR a' (.code c :: .inLoop c :: kk)) cs w') b kk cs e a2 w2 := by
    intro j
    induction j using Nat.strongRecOn with
    | _ j ih =>
      intro x a' w' S' β' hj hI hs' hE
      obtain ⟨e, a₁, w₁, hq, harr⟩ := round x hI n C a' w' S' β' hs' b (.inLoop c :: kk) cs hro hb hr
      obtain ⟨ex, rfl, t1, t2, t3, t4, t5, t6, t7⟩ := hq
      cases ex with
      | normal =>
        obtain ⟨y, hw, hy, hlt⟩ := t5
        obtain ⟨S2, β2, s2, e2⟩ := hw C a₁ w w₁ S t3 (hx x0) β t4 rfl t6 (hE.trans t7)
        obtain ⟨e₂, a₂, w₂, hq₂, harr₂⟩ := ih (μ y) (hj ▸ hlt) y a₁ w₁ S2 β2 rfl hy s2 e2
        exact ⟨e₂, a₂, w₂, hq₂, .of_steps (StepsIn.trans harr (.one (fenced_calm hb hr rfl) stepR_inLoop)) harr₂⟩
      | exit id => exact ⟨_, a₁, w₁, ⟨.exit id, rfl, t1, t2, t3, t4, t5, t6, hE.trans t7⟩, .pass (x := .inLoop c) rfl (fun _ _ => .inl (by simp [exitOf])) harr⟩
      | ret => exact ⟨_, a₁, w₁, ⟨.ret, rfl, t1, t2, t3, t4, t5, t6, hE.trans t7⟩, .pass (x := .inLoop c) rfl (fun _ _ => .inl (by simp [exitOf])) harr⟩
  obtain ⟨e, a', w', hq, harr⟩ := key _ x0 a w S β rfl h0 hs (Evol.refl _ _ _ _)
  exact ⟨e, a', w', hq, harr⟩
theorem AWP.loop {N : Nat} {c : Code} {k : Ex → Tm → Hp → Prop} {X : Type} (tsx : X → Tm) (hx : X → Hp) (Inv : X → Prop) (μ : X → Nat) (x0 : X) (h0 : Inv x0)
    (round : ∀ x, Inv x → AWP P N c (tsx x) (hx x) fun e ts h => match e with
      | .normal => ∃ y, Wm N (hx x0).length ts h (tsx y) (hx y) ∧ Inv y ∧ μ y < μ x
      | e => k e ts h) : AWP P N (.loop c) (tsx x0) (hx x0) k := .of_LP (LP.loop tsx hx Inv μ x0 h0 round)
end Go.PM
