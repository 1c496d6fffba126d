/- The statements of layer 19: OrderSpec, PutSpec. -/
import Derived.Test.YtghlkcnmocgkaaaO19s
namespace Go.PM
open Go.Proofs
set_option maxRecDepth 10000
set_option maxHeartbeats 8000000


theorem ref04_SameReads (a b : List (Read)) (hl : a.length < 2 ^ 40)  : CallP Try.prog 13 [.d (SL 5 (a.map Read.d)), .d (SL 5 (b.map Read.d))] (retD [.b (decide (a = b))]) := by
  refine exPure_sound (E := envOf Try.prog tt Try.f13.ntmps) (envOf_ok ttok mixed) Try.func13 (by rfl) rfl rfl (Nat.le_of_ble_eq_true rfl) ?_
  by_cases he : a.length = b.length
  · repeat' ((conv => whnf); first | with_reducible refine Dec.t (show true = true from rfl) ?_ | with_reducible refine Dec.t (show false = false from rfl) ?_ | with_reducible refine Dec.f (show ¬ (true = false) by decide) ?_ | with_reducible refine Dec.f (show ¬ (false = true) by decide) ?_ | refine Dec.t (by omega) ?_ | refine Dec.f (by omega) ?_ | refine Dec.split (fun _ => ?_) (fun _ => ?_) | refine Wr.id (by omega) ?_ | refine Chk.mk (by first | omega | exact rfl | (simp only [List.length_map]; omega) | (simp [room]; done) | (simp [room]; omega) | (simp [dropL, room]; done) | (simp [dropL, room]; omega)) ?_ | refine Nam.mk (List.length_map _) ?_ | refine Prep.skip ?_ | refine Eith.l ?_ | refine chk_t (x := D.flat _) (by assumption) ?_ | refine br_mk (fun _ => ?_) (fun _ => ?_))
    conv => whnf
    refine ALoop.at (E := envOf Try.prog tt Try.f13.ntmps) (envOf_ok ttok mixed) (X := Nat) (fun i => [(5, .d (I i))]) (fun _ => []) (fun i => i ≤ a.length ∧ a.take i = b.take i) (fun i => a.length - i) 0 (by repeat (first | exact trivial | refine And.intro rfl ?_ | refine And.intro (congrArg (fun n => V.d (I n)) (wrap_nat _ (by omega))) ?_)) rfl ⟨Nat.zero_le _, rfl⟩ ?_
    rintro i ⟨hi, hm⟩
    by_cases hlt : i < a.length
    · obtain ⟨x, hx, _⟩ := drop_get hlt
      obtain ⟨y, hy, _⟩ := drop_get (l := b) (i := i) (by omega)
      repeat' ((conv => whnf); first | with_reducible refine Dec.t (show true = true from rfl) ?_ | with_reducible refine Dec.t (show false = false from rfl) ?_ | with_reducible refine Dec.f (show ¬ (true = false) by decide) ?_ | with_reducible refine Dec.f (show ¬ (false = true) by decide) ?_ | refine Dec.t (by omega) ?_ | refine Dec.f (by omega) ?_ | refine Dec.split (fun _ => ?_) (fun _ => ?_) | refine Wr.id (by omega) ?_ | refine Chk.mk (by first | omega | exact rfl | (simp only [List.length_map]; omega) | (simp [room]; done) | (simp [room]; omega) | (simp [dropL, room]; done) | (simp [dropL, room]; omega)) ?_ | refine Nam.mk (List.length_map _) ?_ | refine Prep.skip ?_ | refine Eith.l ?_ | refine chk_t (x := D.flat _) (by assumption) ?_ | refine br_mk (fun _ => ?_) (fun _ => ?_) | refine nthK_mk (map_get hx) ?_ | refine nthK_mk (map_get hy) ?_ | refine Nam.dec (eqRead x y) (fun _ => ?_) (fun _ => ?_))
      all_goals (conv => whnf)
      all_goals try simp only [decide_eq_true_eq, decide_eq_false_iff_not] at *
      all_goals first
        | (have e : x = y := by first | assumption | (simp_all; done)
           subst e
           refine ⟨i + 1, Wm.end (by repeat (first | exact trivial | refine And.intro rfl ?_ | refine And.intro (congrArg (fun n => V.d (I n)) (wrap_nat _ (by omega))) ?_)) rfl rfl rfl, ⟨hlt, ?_⟩, by omega⟩
           rw [List.take_add_one, List.take_add_one, hm, hx, hy])
        | (have e : ¬ x = y := by first | assumption | (simp_all; done)
           rw [decide_eq_false (fun h => e (by subst h; rw [hx] at hy; exact Option.some.inj hy))]; exact DLe.refl _)
    · have : i = a.length := by omega
      subst this
      rw [List.take_length, he, List.take_length] at hm
      repeat' ((conv => whnf); first | with_reducible refine Dec.t (show true = true from rfl) ?_ | with_reducible refine Dec.t (show false = false from rfl) ?_ | with_reducible refine Dec.f (show ¬ (true = false) by decide) ?_ | with_reducible refine Dec.f (show ¬ (false = true) by decide) ?_ | refine Dec.t (by omega) ?_ | refine Dec.f (by omega) ?_ | refine Dec.split (fun _ => ?_) (fun _ => ?_) | refine Wr.id (by omega) ?_ | refine Chk.mk (by first | omega | exact rfl | (simp only [List.length_map]; omega) | (simp [room]; done) | (simp [room]; omega) | (simp [dropL, room]; done) | (simp [dropL, room]; omega)) ?_ | refine Nam.mk (List.length_map _) ?_ | refine Prep.skip ?_ | refine Eith.l ?_ | refine chk_t (x := D.flat _) (by assumption) ?_ | refine br_mk (fun _ => ?_) (fun _ => ?_))
      all_goals (conv => whnf)
      rw [decide_eq_true hm]; exact DLe.refl _
  · repeat' ((conv => whnf); first | with_reducible refine Dec.t (show true = true from rfl) ?_ | with_reducible refine Dec.t (show false = false from rfl) ?_ | with_reducible refine Dec.f (show ¬ (true = false) by decide) ?_ | with_reducible refine Dec.f (show ¬ (false = true) by decide) ?_ | refine Dec.t (by omega) ?_ | refine Dec.f (by omega) ?_ | refine Dec.split (fun _ => ?_) (fun _ => ?_) | refine Wr.id (by omega) ?_ | refine Chk.mk (by first | omega | exact rfl | (simp only [List.length_map]; omega) | (simp [room]; done) | (simp [room]; omega) | (simp [dropL, room]; done) | (simp [dropL, room]; omega)) ?_ | refine Nam.mk (List.length_map _) ?_ | refine Prep.skip ?_ | refine Eith.l ?_ | refine chk_t (x := D.flat _) (by assumption) ?_ | refine br_mk (fun _ => ?_) (fun _ => ?_))
    all_goals (conv => whnf)
    rw [decide_eq_false (fun h => he (by rw [h]))]; exact DLe.refl _

theorem same_reads19 (r : List Read) (h : r.length < 2 ^ 40) : CallP Try.prog 13 [.d (SL 5 (r.map Read.d)), .d (SL 5 (r.map Read.d))] (retD [.b true]) := by
  have h := ref04_SameReads r r h
  rwa [decide_eq_true rfl] at h
theorem same_ords19 (r : List Ord) (h : r.length < 2 ^ 40) : CallP Try.prog 18 [.d (SL 8 (r.map Ord.d)), .d (SL 8 (r.map Ord.d))] (retD [.b true]) := by
  have h := ref19_Same r r h
  rwa [decide_eq_true rfl] at h
theorem same_opns19 (r : List Opn) (h : r.length < 2 ^ 40) : CallP Try.prog 19 [.d (SL 6 (r.map Opn.d)), .d (SL 6 (r.map Opn.d))] (retD [.b true]) := by
  have h := ref19_SameOpens r r h
  rwa [decide_eq_true rfl] at h
theorem same_facts19 (r : List Fact) (h : r.length < 2 ^ 40) : CallP Try.prog 22 [.d (SL 8 (r.map Fact.d)), .d (SL 8 (r.map Fact.d))] (retD [.b true]) := by
  have h := ref04_Same r r h
  rwa [decide_eq_true rfl] at h
theorem manyM_le (l : List Fact) (ob day known : Int) : 0 ≤ manyM l ob day known ∧ manyM l ob day known ≤ 1024 := by
  unfold manyM
  cases h : atM l (headO ob) day known with
  | none => simp
  | some n =>
    have := atM_nonneg h
    simp only
    split <;> omega
theorem orderM_reads (w : OWorld) (no day known : Int) : (orderM w no day known).reads.length ≤ 8 := by
  unfold orderM
  have := findM_reads w no day known
  split
  · split
    · simp only [List.length_cons]; omega
    · simp
  · simp
theorem ordersF_len (w : OWorld) (day known : Int) (n : Nat) : (ordersF w day known n).length ≤ n := by
  unfold ordersF
  exact Nat.le_trans (List.length_filterMap_le _ _) (by simp)
theorem readsF_len (w : OWorld) (day known : Int) : ∀ (n : Nat), (readsF w day known n).length ≤ 7 * n
  | 0 => by simp [readsF]
  | n + 1 => by
    have h1 := readsF_len w day known n
    have h2 := findM_reads w n day known
    rw [readsF_succ, List.length_append]; omega
theorem opensF_len (w : OWorld) (day known : Int) (n : Nat) : (opensF w day known n).length ≤ n := by
  unfold opensF
  exact Nat.le_trans (List.length_filterMap_le _ _) (by simp)
theorem readsP_len (w : OWorld) (day known : Int) : ∀ (n : Nat), (readsP w day known n).length ≤ 5 * n
  | 0 => by simp [readsP]
  | n + 1 => by
    have h1 := readsP_len w day known n
    have h2 := findP_reads w n day known
    rw [readsP_succ, List.length_append]; omega
theorem ordersM_len (w : OWorld) (day known : Int) : (ordersM w day known).1.length ≤ 1024 ∧ (ordersM w day known).2.length ≤ 8000 := by
  unfold ordersM
  have hm := manyM_le w.facts 1 day known
  split
  · refine ⟨Nat.le_trans (ordersF_len _ _ _ _) (by omega), ?_⟩
    have := readsF_len w day known (manyM w.facts 1 day known).toNat
    simp only [List.length_cons]; omega
  · simp
theorem opensM_len (w : OWorld) (day known : Int) : (opensM w day known).1.length ≤ 1024 ∧ (opensM w day known).2.length ≤ 8000 := by
  unfold opensM
  have hm := manyM_le w.facts 2 day known
  split
  · refine ⟨Nat.le_trans (opensF_len _ _ _ _) (by omega), ?_⟩
    have := readsP_len w day known (manyM w.facts 2 day known).toNat
    simp only [List.length_cons]; omega
  · simp
/-- What is known of a world that was read. -/
structure Wd (w : OWorld) : Prop where
  sw : w.src.wide
  fw : w.wide
  fl : w.facts.length < 2 ^ 63
  ol : w.src.opts.length < 2 ^ 63
  bl : w.src.forbids.length < 2 ^ 63

theorem law19_OrderSpec (w : OWorld) (no day known : Int) (hw : Wd w) : CallP Try.prog 3 [.d w.d, .d (I no), .d (I day), .d (I known)] (retD [.b true]) := by
  refine exPure_sound (E := envOf Try.prog tt Try.f3.ntmps) (envOf_ok ttok mixed) Try.func3 (by rfl) rfl rfl (Nat.le_of_ble_eq_true rfl) ?_
  have hFew := ref19_Few w hw.fl hw.ol hw.bl
  by_cases hs : few19 w
  · have hl : w.facts.length ≤ 60 := hs.1.1
    rw [decide_eq_true hs] at hFew
    have hA := fun n => orders_Order w n day known (by omega) hs.few hw.sw hw.fw
    have hB := fun n => ref19_Order w n day known (by omega) hs.few hw.sw
    have hR := fun n => orderM_reads w n day known
    have a1 := hA no
    have b1 := hB no
    have r1 := hR no
    have a2 := hA 0
    have b2 := hB 0
    have r2 := hR 0
    have a3 := hA 1
    have b3 := hB 1
    have r3 := hR 1
    clear hA hB hR
    generalize orderM w no day known = m1 at a1 b1 r1
    generalize orderM w 0 day known = m2 at a2 b2 r2
    generalize orderM w 1 day known = m3 at a3 b3 r3
    obtain ⟨t1, s1, o1⟩ := m1
    obtain ⟨t2, s2, o2⟩ := m2
    obtain ⟨t3, s3, o3⟩ := m3
    simp only [OrdR.d] at a1 b1 r1 a2 b2 r2 a3 b3 r3
    have e1 := same_reads19 s1 (by omega)
    have e2 := same_reads19 s2 (by omega)
    have e3 := same_reads19 s3 (by omega)
    have c1 := orders_Orders w day known (by omega) hs.few hw.sw hw.fw
    have c2 := ref19_Orders w day known (by omega) hs.few hw.sw
    have c3 := orders_Opens w day known (by omega) hs.few hw.sw hw.fw
    have c4 := ref19_Opens w day known (by omega) hs.few hw.sw
    have n1 := ordersM_len w day known
    have n2 := opensM_len w day known
    generalize ordersM w day known = q1 at c1 c2 n1
    generalize opensM w day known = q2 at c3 c4 n2
    obtain ⟨L1, R1⟩ := q1
    obtain ⟨L2, R2⟩ := q2
    simp only at c1 c2 n1 c3 c4 n2
    have f1 := same_ords19 L1 (by omega)
    have f2 := same_reads19 R1 (by omega)
    have f3 := same_opns19 L2 (by omega)
    have f4 := same_reads19 R2 (by omega)
    clear hw hs
    cases o1 <;> cases o2 <;> cases o3
    all_goals
      repeat' ((conv => whnf); first | refine Nam.mk (y := 3) rfl ?_ | with_reducible refine Dec.t (show true = true from rfl) ?_ | with_reducible refine Dec.t (show false = false from rfl) ?_ | with_reducible refine Dec.f (show ¬ (true = false) by decide) ?_ | with_reducible refine Dec.f (show ¬ (false = true) by decide) ?_ | refine Dec.t (by omega) ?_ | refine Dec.f (by omega) ?_ | refine Dec.split (fun _ => ?_) (fun _ => ?_) | refine Wr.id (by omega) ?_ | refine Chk.mk (by first | omega | exact rfl | (simp only [List.length_map]; omega) | (simp [room]; done) | (simp [room]; omega) | (simp [dropL, room]; done) | (simp [dropL, room]; omega)) ?_ | refine Nam.mk (List.length_map _) ?_ | refine Prep.skip ?_ | refine Eith.l ?_ | refine chk_t (x := D.flat _) (by assumption) ?_ | refine br_mk (fun _ => ?_) (fun _ => ?_) | refine ACall.of (law19_sane) ?_ | refine APCall.of (law19_sane) ?_ | refine ACall.of hFew ?_ | refine ALoop.rounds 4 ?_ | refine ALoopN.step (E := (envOf Try.prog tt Try.f3.ntmps)) (envOf_ok ttok mixed) ?_ | refine ACall.of a1 ?_ | refine APCall.of a1 ?_ | refine ACall.of b1 ?_ | refine APCall.of b1 ?_ | refine ACall.of a2 ?_ | refine APCall.of a2 ?_ | refine ACall.of b2 ?_ | refine APCall.of b2 ?_ | refine ACall.of a3 ?_ | refine APCall.of a3 ?_ | refine ACall.of b3 ?_ | refine APCall.of b3 ?_ | refine ACall.of e1 ?_ | refine APCall.of e1 ?_ | refine ACall.of e2 ?_ | refine APCall.of e2 ?_ | refine ACall.of e3 ?_ | refine APCall.of e3 ?_ | refine Nam.dec (eqOrd t1 t1) (fun _ => ?_) (fun h => absurd rfl h) | refine Nam.dec (eqOrd t2 t2) (fun _ => ?_) (fun h => absurd rfl h) | refine Nam.dec (eqOrd t3 t3) (fun _ => ?_) (fun h => absurd rfl h) | refine ACall.of c1 ?_ | refine APCall.of c1 ?_ | refine ACall.of c2 ?_ | refine APCall.of c2 ?_ | refine ACall.of c3 ?_ | refine APCall.of c3 ?_ | refine ACall.of c4 ?_ | refine APCall.of c4 ?_ | refine ACall.of f1 ?_ | refine APCall.of f1 ?_ | refine ACall.of f2 ?_ | refine APCall.of f2 ?_ | refine ACall.of f3 ?_ | refine APCall.of f3 ?_ | refine ACall.of f4 ?_ | refine APCall.of f4 ?_ | fail)
    all_goals (conv => whnf)
    all_goals exact (by repeat (first | exact trivial | exact rfl | exact DLe.refl _ | exact DLe.full _ _ _ | exact DLe.nil _ _ _ | exact VLe.refl _ | refine And.intro ?_ ?_ | refine VLe.d ?_ | refine DLe.agg ?_))
  · rw [decide_eq_false hs] at hFew
    repeat' ((conv => whnf); first | with_reducible refine Dec.t (show true = true from rfl) ?_ | with_reducible refine Dec.t (show false = false from rfl) ?_ | with_reducible refine Dec.f (show ¬ (true = false) by decide) ?_ | with_reducible refine Dec.f (show ¬ (false = true) by decide) ?_ | refine Dec.t (by omega) ?_ | refine Dec.f (by omega) ?_ | refine Dec.split (fun _ => ?_) (fun _ => ?_) | refine Wr.id (by omega) ?_ | refine Chk.mk (by first | omega | exact rfl | (simp only [List.length_map]; omega) | (simp [room]; done) | (simp [room]; omega) | (simp [dropL, room]; done) | (simp [dropL, room]; omega)) ?_ | refine Nam.mk (List.length_map _) ?_ | refine Prep.skip ?_ | refine Eith.l ?_ | refine chk_t (x := D.flat _) (by assumption) ?_ | refine br_mk (fun _ => ?_) (fun _ => ?_) | refine ACall.of (law19_sane) ?_ | refine APCall.of (law19_sane) ?_ | refine ACall.of hFew ?_ | fail)
    all_goals (conv => whnf)
    all_goals exact (by repeat (first | exact trivial | exact rfl | exact DLe.refl _ | exact DLe.full _ _ _ | exact DLe.nil _ _ _ | exact VLe.refl _ | refine And.intro ?_ ?_ | refine VLe.d ?_ | refine DLe.agg ?_))

theorem addsM_len : ∀ (fs l : List Fact), (addsM l fs).1.length ≤ l.length + fs.length
  | [], l => by simp [addsM]
  | f :: fs, l => by
    unfold addsM
    have h1 := addM_len l f
    split
    · have := addsM_len fs (addM l f).1
      simp only [List.length_cons]; omega
    · simp
theorem putM_len (s : Src) (l : List Fact) (x : Ord) (a b known : Int) : (putM s l x a b known).1.length ≤ l.length + 8 := by
  unfold putM
  have h1 := addsM_len (ordFacts x a b known (nextNo l known)) l
  have h2 : (ordFacts x a b known (nextNo l known)).length = 7 := rfl
  repeat' split
  · have h3 := addsM_len [headFact (raisedM (addsM l (ordFacts x a b known (nextNo l known))).1 x.no a b known).1 known (nextNo l known + 1 + 1 + 1 + 1 + 1 + 1 + 1)] (addsM l (ordFacts x a b known (nextNo l known))).1
    simp only [List.length_singleton] at h3
    omega
  · omega
  · omega
  · simp
  · simp
theorem law19_PutSpec (w : OWorld) (x : Ord) (a b known : Int) (hw : Wd w) (hxc : x.config < 9223372036854775808) : CallP Try.prog 4 [.d w.d, .d x.d, .d (spanD a b), .d (I known)] (retD [.b true]) := by
  refine exPure_sound (E := envOf Try.prog tt Try.f4.ntmps) (envOf_ok ttok mixed) Try.func4 (by rfl) rfl rfl (Nat.le_of_ble_eq_true rfl) ?_
  have hFew := ref19_Few w hw.fl hw.ol hw.bl
  by_cases hs : few19 w
  · have hl : w.facts.length ≤ 60 := hs.1.1
    rw [decide_eq_true hs] at hFew
    have c1 := orders_Put w x a b known (by omega) hs.few hw.sw hxc
    have c2 := ref19_Put w x a b known (by omega) hs.few hw.sw
    have n1 := putM_len w.src w.facts x a b known
    generalize putM w.src w.facts x a b known = r at c1 c2 n1
    obtain ⟨l', e⟩ := r
    clear hs
    by_cases he : e = 0
    · have hw : w.put (l', e) = { w with facts := l' } := by unfold OWorld.put; rw [if_pos he]
      rw [hw] at c1 c2
      simp only at c1 c2 n1
      have f1 := same_facts19 l' (by omega)
      repeat' ((conv => whnf); first | with_reducible refine Dec.t (show true = true from rfl) ?_ | with_reducible refine Dec.t (show false = false from rfl) ?_ | with_reducible refine Dec.f (show ¬ (true = false) by decide) ?_ | with_reducible refine Dec.f (show ¬ (false = true) by decide) ?_ | refine Dec.t (by omega) ?_ | refine Dec.f (by omega) ?_ | refine Dec.split (fun _ => ?_) (fun _ => ?_) | refine Wr.id (by omega) ?_ | refine Chk.mk (by first | omega | exact rfl | (simp only [List.length_map]; omega) | (simp [room]; done) | (simp [room]; omega) | (simp [dropL, room]; done) | (simp [dropL, room]; omega)) ?_ | refine Nam.mk (List.length_map _) ?_ | refine Prep.skip ?_ | refine Eith.l ?_ | refine chk_t (x := D.flat _) (by assumption) ?_ | refine br_mk (fun _ => ?_) (fun _ => ?_) | refine ACall.of (law19_sane) ?_ | refine APCall.of (law19_sane) ?_ | refine ACall.of hFew ?_ | refine ACall.of c1 ?_ | refine ACall.of c2 ?_ | refine ACall.of f1 ?_ | refine Nam.mk (y := w.src.items.length) rfl ?_ | fail)
      all_goals (conv => whnf)
      all_goals first | exact DLe.refl _ | trace_state
    · have hw : w.put (l', e) = OWorld.zero := by unfold OWorld.put; rw [if_neg he]
      rw [hw] at c1 c2
      simp only at c1 c2 n1
      have f1 := same_facts19 [] (by simp)
      repeat' ((conv => whnf); first | with_reducible refine Dec.t (show true = true from rfl) ?_ | with_reducible refine Dec.t (show false = false from rfl) ?_ | with_reducible refine Dec.f (show ¬ (true = false) by decide) ?_ | with_reducible refine Dec.f (show ¬ (false = true) by decide) ?_ | refine Dec.t (by omega) ?_ | refine Dec.f (by omega) ?_ | refine Dec.split (fun _ => ?_) (fun _ => ?_) | refine Wr.id (by omega) ?_ | refine Chk.mk (by first | omega | exact rfl | (simp only [List.length_map]; omega) | (simp [room]; done) | (simp [room]; omega) | (simp [dropL, room]; done) | (simp [dropL, room]; omega)) ?_ | refine Nam.mk (List.length_map _) ?_ | refine Prep.skip ?_ | refine Eith.l ?_ | refine chk_t (x := D.flat _) (by assumption) ?_ | refine br_mk (fun _ => ?_) (fun _ => ?_) | refine ACall.of (law19_sane) ?_ | refine APCall.of (law19_sane) ?_ | refine ACall.of hFew ?_ | refine ACall.of c1 ?_ | refine ACall.of c2 ?_ | refine ACall.of f1 ?_ | refine Nam.mk (y := 0) rfl ?_ | fail)
      all_goals (conv => whnf)
      all_goals first | exact DLe.refl _ | trace_state
  · rw [decide_eq_false hs] at hFew
    repeat' ((conv => whnf); first | with_reducible refine Dec.t (show true = true from rfl) ?_ | with_reducible refine Dec.t (show false = false from rfl) ?_ | with_reducible refine Dec.f (show ¬ (true = false) by decide) ?_ | with_reducible refine Dec.f (show ¬ (false = true) by decide) ?_ | refine Dec.t (by omega) ?_ | refine Dec.f (by omega) ?_ | refine Dec.split (fun _ => ?_) (fun _ => ?_) | refine Wr.id (by omega) ?_ | refine Chk.mk (by first | omega | exact rfl | (simp only [List.length_map]; omega) | (simp [room]; done) | (simp [room]; omega) | (simp [dropL, room]; done) | (simp [dropL, room]; omega)) ?_ | refine Nam.mk (List.length_map _) ?_ | refine Prep.skip ?_ | refine Eith.l ?_ | refine chk_t (x := D.flat _) (by assumption) ?_ | refine br_mk (fun _ => ?_) (fun _ => ?_) | refine ACall.of (law19_sane) ?_ | refine APCall.of (law19_sane) ?_ | refine ACall.of hFew ?_ | fail)
    all_goals (conv => whnf)
    all_goals exact (by repeat (first | exact trivial | exact rfl | exact DLe.refl _ | exact DLe.full _ _ _ | exact DLe.nil _ _ _ | exact VLe.refl _ | refine And.intro ?_ ?_ | refine VLe.d ?_ | refine DLe.agg ?_))
end Go.PM

