/- The statements of layer 19: Reads, Past. -/
import Derived.Test.YtghlkcnmocgkaaaL19a
namespace Go.PM
open Go.Proofs
set_option maxRecDepth 10000
set_option maxHeartbeats 8000000

theorem alike_at {l : List Fact} {k : Key} {d a b : Int} (h0 : 0 ≤ d) (h1 : d ≤ 1023) (h : valuesM l k d (d + 1) a = valuesM l k d (d + 1) b) : atM l k d a = atM l k d b := by
  have hn : daysN d (d + 1) = 1 := by unfold daysN hi0 lo0; rw [if_neg (by omega), if_neg (by omega)]; omega
  unfold valuesM at h
  rw [hn] at h
  have h := congrArg (fun x => x[0]?) h
  simp only [List.range_one, List.map_cons, List.map_nil, List.getElem?_cons_zero, Option.some.injEq] at h
  rw [show lo0 d + ((0 : Nat) : Int) = d by unfold lo0; rw [if_neg (by omega)]; omega] at h
  unfold atM
  rw [valOf_vOf, valOf_vOf, h]
theorem vals_alike (f g : List Fact) (kind no day a b : Int) : ∀ (k i : Nat), (∀ key, rdOf key day ∈ frdsM f kind no day a i k → atM g key day b = atM f key day a) →
    valsM g kind no day b i k = valsM f kind no day a i k ∧ frdsM g kind no day b i k = frdsM f kind no day a i k
  | 0, i, _ => ⟨rfl, rfl⟩
  | k + 1, i, h => by
    have h0 := h ⟨kind, no, i⟩ (by rw [frdsM]; exact .head _)
    rw [valsM, valsM, frdsM, frdsM, h0]
    cases hq : atM f ⟨kind, no, i⟩ day a with
    | none => exact ⟨rfl, rfl⟩
    | some v =>
      obtain ⟨h1, h2⟩ := vals_alike f g kind no day a b k (i + 1) fun key hk => h key (by rw [frdsM, hq]; exact .tail _ hk)
      simp only [h1, h2, and_self]
theorem findM_alike (w v : OWorld) (hs : v.src = w.src) (no day a b : Int) (h : ∀ k, rdOf k day ∈ (findM w no day a).reads → atM v.facts k day b = atM w.facts k day a) : findM v no day b = findM w no day a := by
  have hr : (findM w no day a).reads = frdsM w.facts 2 no day a 0 7 := by unfold findM; split <;> rfl
  rw [hr] at h
  obtain ⟨h1, h2⟩ := vals_alike w.facts v.facts 2 no day a b 7 0 h
  unfold findM
  rw [h1, h2, hs]
theorem findP_alike (w v : OWorld) (hs : v.src = w.src) (no day a b : Int) (h : ∀ k, rdOf k day ∈ (findP w no day a).reads → atM v.facts k day b = atM w.facts k day a) : findP v no day b = findP w no day a := by
  have hr : (findP w no day a).reads = frdsM w.facts 3 no day a 0 5 := by unfold findP; split <;> rfl
  rw [hr] at h
  obtain ⟨h1, h2⟩ := vals_alike w.facts v.facts 3 no day a b 5 0 h
  unfold findP
  rw [h1, h2, hs]
theorem orderM_alike (w v : OWorld) (hs : v.src = w.src) (no day a b : Int) (h : dayM day → ∀ k, rdOf k day ∈ (orderM w no day a).reads → atM v.facts k day b = atM w.facts k day a) : orderM v no day b = orderM w no day a := by
  unfold orderM at h ⊢
  by_cases hd : dayM day
  · rw [if_pos hd, if_pos hd]
    replace h := h hd
    rw [if_pos hd] at h
    have hm : manyM v.facts 1 day b = manyM w.facts 1 day a := by
      unfold manyM
      rw [h (headO 1) (by split <;> exact .head _)]
    rw [hm]
    by_cases hn : 0 ≤ no ∧ no < manyM w.facts 1 day a
    · rw [if_pos hn] at h ⊢
      rw [if_pos hn, findM_alike w v hs no day a b fun k hk => h k (.tail _ hk)]
    · rw [if_neg hn, if_neg hn]
  · rw [if_neg hd, if_neg hd]
theorem filterMap_congr19 {α β : Type} {f g : α → Option β} : ∀ {l : List α}, (∀ x ∈ l, f x = g x) → l.filterMap f = l.filterMap g
  | [], _ => rfl
  | x :: l, h => by
    rw [List.filterMap_cons, List.filterMap_cons, h x (.head _), filterMap_congr19 fun y hy => h y (.tail _ hy)]
theorem ordersM_alike (w v : OWorld) (hs : v.src = w.src) (day a b : Int) (h : dayM day → ∀ k, rdOf k day ∈ (ordersM w day a).2 → atM v.facts k day b = atM w.facts k day a) : ordersM v day b = ordersM w day a := by
  unfold ordersM at h ⊢
  by_cases hd : dayM day
  · rw [if_pos hd, if_pos hd]
    replace h := h hd
    rw [if_pos hd] at h
    have hm : manyM v.facts 1 day b = manyM w.facts 1 day a := by
      unfold manyM
      rw [h (headO 1) (.head _)]
    rw [hm]
    have hf : ∀ i ∈ List.range (manyM w.facts 1 day a).toNat, findM v (i : Int) day b = findM w (i : Int) day a := fun i hi => findM_alike w v hs i day a b fun k hk => h k (.tail _ (by
      unfold readsF
      exact List.mem_flatMap.2 ⟨i, hi, hk⟩))
    unfold ordersF readsF
    congr 1
    · exact filterMap_congr19 fun i hi => by rw [hf i hi]
    · congr 1
      rw [List.flatMap_def, List.flatMap_def]
      congr 1
      exact List.map_congr_left fun i hi => by rw [hf i hi]
  · rw [if_neg hd, if_neg hd]
theorem opensM_alike (w v : OWorld) (hs : v.src = w.src) (day a b : Int) (h : dayM day → ∀ k, rdOf k day ∈ (opensM w day a).2 → atM v.facts k day b = atM w.facts k day a) : opensM v day b = opensM w day a := by
  unfold opensM at h ⊢
  by_cases hd : dayM day
  · rw [if_pos hd, if_pos hd]
    replace h := h hd
    rw [if_pos hd] at h
    have hm : manyM v.facts 2 day b = manyM w.facts 2 day a := by
      unfold manyM
      rw [h (headO 2) (.head _)]
    rw [hm]
    have hf : ∀ i ∈ List.range (manyM w.facts 2 day a).toNat, findP v (i : Int) day b = findP w (i : Int) day a := fun i hi => findP_alike w v hs i day a b fun k hk => h k (.tail _ (by
      unfold readsP
      exact List.mem_flatMap.2 ⟨i, hi, hk⟩))
    unfold opensF readsP
    congr 1
    · exact filterMap_congr19 fun i hi => by rw [hf i hi]
    · congr 1
      rw [List.flatMap_def, List.flatMap_def]
      congr 1
      exact List.map_congr_left fun i hi => by rw [hf i hi]
  · rw [if_neg hd, if_neg hd]
theorem alike_reads {l : List Fact} {rs : List Read} {day a b : Int} (h : alikeM l rs a b) : dayM day → ∀ k, rdOf k day ∈ rs → atM l k day b = atM l k day a := fun hd k hk => (alike_at (d := day) (by omega) (by omega) (h _ hk)).symm
theorem law19_Reads (w : OWorld) (no day before_ after_ : Int) (hw : Wd w) : CallP Try.prog 8 [.d w.d, .d (I no), .d (I day), .d (I before_), .d (I after_)] (retD [.b true]) := by
  refine exPure_sound (E := envOf Try.prog tt Try.f8.ntmps) (envOf_ok ttok mixed) Try.func8 (by rfl) rfl rfl (Nat.le_of_ble_eq_true rfl) ?_
  have hFew := ref19_Few w hw.fl hw.ol hw.bl
  by_cases hs : few19 w
  · have hl : w.facts.length ≤ 60 := hs.1.1
    rw [decide_eq_true hs] at hFew
    have a1 := orders_Order w no day before_ (by omega) hs.few hw.sw hw.fw
    have r1 := orderM_reads w no day before_
    have b1 : alikeM w.facts (orderM w no day before_).reads before_ after_ → CallP Try.prog 11 [.d w.d, .d (I no), .d (I day), .d (I after_)] (orderM w no day before_).d := fun h => by
      have := orders_Order w no day after_ (by omega) hs.few hw.sw hw.fw
      rwa [orderM_alike w w rfl no day before_ after_ (alike_reads h)] at this
    have k1 := facts_Alike w.facts (orderM w no day before_).reads before_ after_ (by omega) (by omega)
    have a2 := orders_Orders w day before_ (by omega) hs.few hw.sw hw.fw
    have n2 := ordersM_len w day before_
    have b2 : alikeM w.facts (ordersM w day before_).2 before_ after_ → CallP Try.prog 14 [.d w.d, .d (I day), .d (I after_)] (retD [SL 8 ((ordersM w day before_).1.map Ord.d), SL 5 ((ordersM w day before_).2.map Read.d)]) := fun h => by
      have := orders_Orders w day after_ (by omega) hs.few hw.sw hw.fw
      rwa [ordersM_alike w w rfl day before_ after_ (alike_reads h)] at this
    have k2 := facts_Alike w.facts (ordersM w day before_).2 before_ after_ (by omega) (by omega)
    have a3 := orders_Opens w day before_ (by omega) hs.few hw.sw hw.fw
    have n3 := opensM_len w day before_
    have b3 : alikeM w.facts (opensM w day before_).2 before_ after_ → CallP Try.prog 16 [.d w.d, .d (I day), .d (I after_)] (retD [SL 6 ((opensM w day before_).1.map Opn.d), SL 5 ((opensM w day before_).2.map Read.d)]) := fun h => by
      have := orders_Opens w day after_ (by omega) hs.few hw.sw hw.fw
      rwa [opensM_alike w w rfl day before_ after_ (alike_reads h)] at this
    have k3 := facts_Alike w.facts (opensM w day before_).2 before_ after_ (by omega) (by omega)
    generalize orderM w no day before_ = m1 at a1 b1 r1 k1
    obtain ⟨t1, s1, o1⟩ := m1
    generalize ordersM w day before_ = m2 at a2 b2 n2 k2
    obtain ⟨t2, s2⟩ := m2
    generalize opensM w day before_ = m3 at a3 b3 n3 k3
    obtain ⟨t3, s3⟩ := m3
    simp only [OrdR.d] at a1 b1 r1 k1 a2 b2 n2 k2 a3 b3 n3 k3
    have e1 := same_reads19 s1 (by omega)
    have e2 := same_reads19 s2 (by omega)
    have e3 := same_reads19 s3 (by omega)
    have f2 := same_ords19 t2 (by omega)
    have f3 := same_opns19 t3 (by omega)
    clear hs hw
    by_cases h1 : alikeM w.facts s1 before_ after_ <;> by_cases h2 : alikeM w.facts s2 before_ after_ <;> by_cases h3 : alikeM w.facts s3 before_ after_ <;> cases o1
    all_goals simp only [h1, h2, h3, decide_true, decide_false] at k1 k2 k3
    all_goals try replace b1 := b1 h1
    all_goals try replace b2 := b2 h2
    all_goals try replace b3 := b3 h3
    all_goals clear h1 h2 h3
    all_goals
      repeat' ((conv => whnf); first | with_reducible refine Dec.t (show true = true from rfl) ?_ | with_reducible refine Dec.t (show false = false from rfl) ?_ | with_reducible refine Dec.f (show ¬ (true = false) by decide) ?_ | with_reducible refine Dec.f (show ¬ (false = true) by decide) ?_ | refine Dec.t (by omega) ?_ | refine Dec.f (by omega) ?_ | refine Dec.split (fun _ => ?_) (fun _ => ?_) | refine Wr.id (by omega) ?_ | refine Chk.mk (by first | omega | exact rfl | (simp only [List.length_map]; omega) | (simp [room]; done) | (simp [room]; omega) | (simp [dropL, room]; done) | (simp [dropL, room]; omega)) ?_ | refine Nam.mk (List.length_map _) ?_ | refine Prep.skip ?_ | refine Eith.l ?_ | refine chk_t (x := D.flat _) (by assumption) ?_ | refine br_mk (fun _ => ?_) (fun _ => ?_) | refine ACall.of (law19_sane) ?_ | refine APCall.of (law19_sane) ?_ | refine ACall.of hFew ?_ | refine ACall.of a1 ?_ | refine ACall.of b1 ?_ | refine ACall.of k1 ?_ | refine ACall.of a2 ?_ | refine ACall.of b2 ?_ | refine ACall.of k2 ?_ | refine ACall.of a3 ?_ | refine ACall.of b3 ?_ | refine ACall.of k3 ?_ | refine ACall.of e1 ?_ | refine ACall.of e2 ?_ | refine ACall.of e3 ?_ | refine ACall.of f2 ?_ | refine ACall.of f3 ?_ | refine Nam.dec (eqOrd t1 t1) (fun _ => ?_) (fun h => absurd rfl h) | fail)
    all_goals (conv => whnf)
    all_goals exact (by repeat (first | exact trivial | exact rfl | exact DLe.refl _ | exact DLe.full _ _ _ | exact DLe.nil _ _ _ | exact VLe.refl _ | refine And.intro ?_ ?_ | refine VLe.d ?_ | refine DLe.agg ?_))
  · rw [decide_eq_false hs] at hFew
    repeat' ((conv => whnf); first | with_reducible refine Dec.t (show true = true from rfl) ?_ | with_reducible refine Dec.t (show false = false from rfl) ?_ | with_reducible refine Dec.f (show ¬ (true = false) by decide) ?_ | with_reducible refine Dec.f (show ¬ (false = true) by decide) ?_ | refine Dec.t (by omega) ?_ | refine Dec.f (by omega) ?_ | refine Dec.split (fun _ => ?_) (fun _ => ?_) | refine Wr.id (by omega) ?_ | refine Chk.mk (by first | omega | exact rfl | (simp only [List.length_map]; omega) | (simp [room]; done) | (simp [room]; omega) | (simp [dropL, room]; done) | (simp [dropL, room]; omega)) ?_ | refine Nam.mk (List.length_map _) ?_ | refine Prep.skip ?_ | refine Eith.l ?_ | refine chk_t (x := D.flat _) (by assumption) ?_ | refine br_mk (fun _ => ?_) (fun _ => ?_) | refine ACall.of (law19_sane) ?_ | refine APCall.of (law19_sane) ?_ | refine ACall.of hFew ?_ | fail)
    all_goals (conv => whnf)
    all_goals exact (by repeat (first | exact trivial | exact rfl | exact DLe.refl _ | exact DLe.full _ _ _ | exact DLe.nil _ _ _ | exact VLe.refl _ | refine And.intro ?_ ?_ | refine VLe.d ?_ | refine DLe.agg ?_))

theorem at_upto (l : List Fact) (k : Key) (d t : Int) : atM (l.filter fun f => decide (f.known ≤ t)) k d t = atM l k d t := by
  unfold atM atF
  congr 1
  generalize (none : Option Fact) = o
  induction l generalizing o with
  | nil => rfl
  | cons f l ih =>
    by_cases hf : f.known ≤ t
    · rw [List.filter_cons, if_pos (by simp [hf]), List.foldl_cons, List.foldl_cons, ih]
    · rw [List.filter_cons, if_neg (by simp [hf]), List.foldl_cons, ih]
      congr 1
      unfold atStep
      rw [if_neg (fun hh => hf hh.2.1)]
def OWorld.upto (w : OWorld) (t : Int) : OWorld := { w with facts := w.facts.filter fun f => decide (f.known ≤ t) }
theorem law19_Past (w : OWorld) (no day known : Int) (hw : Wd w) : CallP Try.prog 7 [.d w.d, .d (I no), .d (I day), .d (I known)] (retD [.b true]) := by
  refine exPure_sound (E := envOf Try.prog tt Try.f7.ntmps) (envOf_ok ttok mixed) Try.func7 (by rfl) rfl rfl (Nat.le_of_ble_eq_true rfl) ?_
  have hFew := ref19_Few w hw.fl hw.ol hw.bl
  by_cases hs : few19 w
  · have hl : w.facts.length ≤ 60 := hs.1.1
    rw [decide_eq_true hs] at hFew
    have hU := facts_Upto w.facts known (by omega)
    have hul : (w.upto known).facts.length ≤ 60 := Nat.le_trans (List.length_filter_le _ _) hl
    have hfu : (w.upto known).wide := fun f hf => hw.fw f (List.mem_filter.1 hf).1
    have a1 := orders_Order w no day known (by omega) hs.few hw.sw hw.fw
    have b1 := orders_Order (w.upto known) no day known (by omega) hs.few hw.sw hfu
    rw [orderM_alike w (w.upto known) rfl no day known known fun _ k _ => at_upto _ _ _ _] at b1
    have r1 := orderM_reads w no day known
    have a2 := orders_Orders w day known (by omega) hs.few hw.sw hw.fw
    have b2 := orders_Orders (w.upto known) day known (by omega) hs.few hw.sw hfu
    rw [ordersM_alike w (w.upto known) rfl day known known fun _ k _ => at_upto _ _ _ _] at b2
    have n2 := ordersM_len w day known
    generalize orderM w no day known = m1 at a1 b1 r1
    obtain ⟨t1, s1, o1⟩ := m1
    generalize ordersM w day known = m2 at a2 b2 n2
    obtain ⟨t2, s2⟩ := m2
    simp only [OrdR.d] at a1 b1 r1 a2 b2 n2
    have e1 := same_reads19 s1 (by omega)
    have e2 := same_reads19 s2 (by omega)
    have f2 := same_ords19 t2 (by omega)
    clear hs hw
    cases o1
    all_goals
      repeat' ((conv => whnf); first | with_reducible refine Dec.t (show true = true from rfl) ?_ | with_reducible refine Dec.t (show false = false from rfl) ?_ | with_reducible refine Dec.f (show ¬ (true = false) by decide) ?_ | with_reducible refine Dec.f (show ¬ (false = true) by decide) ?_ | refine Dec.t (by omega) ?_ | refine Dec.f (by omega) ?_ | refine Dec.split (fun _ => ?_) (fun _ => ?_) | refine Wr.id (by omega) ?_ | refine Chk.mk (by first | omega | exact rfl | (simp only [List.length_map]; omega) | (simp [room]; done) | (simp [room]; omega) | (simp [dropL, room]; done) | (simp [dropL, room]; omega)) ?_ | refine Nam.mk (List.length_map _) ?_ | refine Prep.skip ?_ | refine Eith.l ?_ | refine chk_t (x := D.flat _) (by assumption) ?_ | refine br_mk (fun _ => ?_) (fun _ => ?_) | refine ACall.of (law19_sane) ?_ | refine APCall.of (law19_sane) ?_ | refine ACall.of hFew ?_ | refine ACall.of hU ?_ | refine ACall.of a1 ?_ | refine ACall.of b1 ?_ | refine ACall.of a2 ?_ | refine ACall.of b2 ?_ | refine ACall.of e1 ?_ | refine ACall.of e2 ?_ | refine ACall.of f2 ?_ | refine Nam.dec (eqOrd t1 t1) (fun _ => ?_) (fun h => absurd rfl h) | fail)
    all_goals (conv => whnf)
    all_goals exact (by repeat (first | exact trivial | exact rfl | exact DLe.refl _ | exact DLe.full _ _ _ | exact DLe.nil _ _ _ | exact VLe.refl _ | refine And.intro ?_ ?_ | refine VLe.d ?_ | refine DLe.agg ?_))
  · rw [decide_eq_false hs] at hFew
    repeat' ((conv => whnf); first | with_reducible refine Dec.t (show true = true from rfl) ?_ | with_reducible refine Dec.t (show false = false from rfl) ?_ | with_reducible refine Dec.f (show ¬ (true = false) by decide) ?_ | with_reducible refine Dec.f (show ¬ (false = true) by decide) ?_ | refine Dec.t (by omega) ?_ | refine Dec.f (by omega) ?_ | refine Dec.split (fun _ => ?_) (fun _ => ?_) | refine Wr.id (by omega) ?_ | refine Chk.mk (by first | omega | exact rfl | (simp only [List.length_map]; omega) | (simp [room]; done) | (simp [room]; omega) | (simp [dropL, room]; done) | (simp [dropL, room]; omega)) ?_ | refine Nam.mk (List.length_map _) ?_ | refine Prep.skip ?_ | refine Eith.l ?_ | refine chk_t (x := D.flat _) (by assumption) ?_ | refine br_mk (fun _ => ?_) (fun _ => ?_) | refine ACall.of (law19_sane) ?_ | refine APCall.of (law19_sane) ?_ | refine ACall.of hFew ?_ | fail)
    all_goals (conv => whnf)
    all_goals exact (by repeat (first | exact trivial | exact rfl | exact DLe.refl _ | exact DLe.full _ _ _ | exact DLe.nil _ _ _ | exact VLe.refl _ | refine And.intro ?_ ?_ | refine VLe.d ?_ | refine DLe.agg ?_))
end Go.PM

