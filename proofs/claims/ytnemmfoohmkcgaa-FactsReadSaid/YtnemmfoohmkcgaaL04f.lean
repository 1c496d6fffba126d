/- The statements of layer 4: Past. -/
import Derived.Test.YtnemmfoohmkcgaaL04a
namespace Go.PM
open Go.Proofs
set_option maxRecDepth 10000
set_option maxHeartbeats 4000000

theorem at_skip (l m : List Fact) (k : Key) (d t : Int) (h : ∀ f ∈ m, ¬ (f.key = k ∧ f.known ≤ t)) : atM (l ++ m) k d t = atM l k d t := by
  unfold atM atF
  rw [List.foldl_append]
  congr 1
  generalize l.foldl (atStep k d t) none = o
  induction m generalizing o with
  | nil => rfl
  | cons f m ih =>
    rw [List.foldl_cons]
    have : atStep k d t o f = o := by
      unfold atStep
      rw [if_neg (fun hh => h f (.head _) ⟨hh.1, hh.2.1⟩)]
    rw [this]
    exact ih (fun g hg => h g (.tail _ hg)) o
theorem at_nil {l : List Fact} {k : Key} (d t : Int) (h : ∀ f ∈ l, f.key ≠ k) : atM l k d t = none := by
  have := at_skip [] l k d t fun f hf hh => h f hf hh.1
  rw [List.nil_append] at this
  exact this
theorem filterMap_none {α β : Type} (p : α → Bool) (f : α → Option β) : ∀ {l : List α}, (∀ x ∈ l, p x = false → f x = none) → l.filterMap f = (l.filter p).filterMap f
  | [], _ => rfl
  | x :: l, h => by
    have ih := filterMap_none p f fun y hy => h y (.tail _ hy)
    cases hp : p x with
    | true => rw [List.filter_cons_of_pos hp, List.filterMap_cons, List.filterMap_cons, ih]
    | false => rw [List.filter_cons_of_neg (by simp [hp]), List.filterMap_cons, h x (.head _) hp]; exact ih
theorem filterMap_same {α β : Type} {f g : α → Option β} : ∀ {l : List α}, (∀ x ∈ l, f x = g x) → l.filterMap f = l.filterMap g
  | [], _ => rfl
  | x :: l, h => by
    rw [List.filterMap_cons, List.filterMap_cons, h x (.head _), filterMap_same fun y hy => h y (.tail _ hy)]
theorem runs_false : ∀ n, runsM (fun _ => false) n = []
  | 0 => rfl
  | n + 1 => by rw [runsM, runs_false n]; rfl
theorem changed_past (l m : List Fact) (b a : Int) (h : ∀ f ∈ m, b < f.known ∧ a < f.known) : changedM (l ++ m) b a = changedM l b a := by
  have hat : ∀ k d t, (t = b ∨ t = a) → atM (l ++ m) k d t = atM l k d t := fun k d t ht => at_skip _ _ _ _ _ fun f hf hh => by
    have := h f hf
    rcases ht with rfl | rfl <;> omega
  unfold changedM
  have hd : ∀ k, difM (l ++ m) b a k = difM l b a k := fun k => by
    unfold difM
    rw [runsM_congr (q := difP l k b a) fun i _ => by unfold difP; rw [hat _ _ _ (.inl rfl), hat _ _ _ (.inr rfl)]]
  rw [filterMap_same fun k _ => hd k]
  obtain ⟨s1, m1⟩ := keysR_spec (l ++ m)
  obtain ⟨s2, m2⟩ := keysR_spec l
  rw [filterMap_none (fun k => decide (k ∈ keysR l)) (difM l b a) fun k _ hk => by
    have hk := of_decide_eq_false hk
    rw [m2] at hk
    have hn : ∀ d t, atM l k d t = none := fun d t => at_nil d t fun f hf he => hk ⟨f, hf, he⟩
    unfold difM
    rw [runsM_congr (q := fun _ => false) fun i _ => by unfold difP; rw [hn, hn]; simp]
    rw [if_pos]
    exact runs_false 1024]
  congr 1
  refine sorted_unique (s1.filter _) s2 fun k => ?_
  rw [List.mem_filter, decide_eq_true_eq]
  constructor
  · exact fun h => h.2
  · intro hk
    refine ⟨?_, hk⟩
    rw [m2] at hk
    obtain ⟨f, hf, he⟩ := hk
    exact (m1 k).2 ⟨f, List.mem_append_left _ hf, he⟩
theorem points_past (l m : List Fact) (k : Key) (a b t : Int) (h : ∀ f ∈ m, t < f.known) : pointsM (l ++ m) k a b t = pointsM l k a b t := by
  unfold pointsM pointsF
  congr 1
  funext i
  rw [at_skip _ _ _ _ _ fun f hf hh => by have := h f hf; omega]
theorem upto_past (l m : List Fact) (t : Int) (h : ∀ f ∈ m, t < f.known) : ((l ++ m).filter fun f => decide (f.known ≤ t)) = l.filter fun f => decide (f.known ≤ t) := by
  have e : (m.filter fun f => decide (f.known ≤ t)) = [] := List.filter_eq_nil_iff.2 fun f hf => by have := h f hf; simp; omega
  rw [List.filter_append, e, List.append_nil]
/-- One round is walked, and leads into the state of a loop. -/
theorem ALoop.peelAt {P : Program} {E : Env} (hE : E.Ok P) {c : Code} {ts : Tm} {h : Hp} {k : Ex → Tm → Hp → Prop} {X : Type} (tv : X → Tm) (hv : X → List (Nat × Blk)) (Inv : X → Prop) (μ : X → Nat) (tsB : Tm) (hB : Hp)
    (first : exCode E c ts h fun e ts1 h1 => match e with
      | .normal => ∃ x0, Inv x0 ∧ Wm E.N h.length ts1 h1 (over (tv x0) tsB) (hset hB (hv x0))
      | e => k e ts1 h1)
    (round : ∀ x, Inv x → exCode E c (over (tv x) tsB) (hset hB (hv x)) fun e ts' h' => match e with
      | .normal => ∃ y, Wm E.N hB.length ts' h' (over (tv y) tsB) (hset hB (hv y)) ∧ Inv y ∧ μ y < μ x
      | e => k e ts' h') : ALoop P E.N c ts h k := by
  have hlen : ∀ (l : List (Nat × Blk)) (h : Hp), (hset h l).length = h.length := by
    intro l
    induction l with
    | nil => intro h; rfl
    | cons p l ih => intro h; rw [hset, ih]; simp
  refine ⟨LP.peel (AWP.post (AWP.mono (fun e ts1 h1 hk => ?_) (exCode_sound hE c _ _ _ first)) fun e ts' h' hk => hk)⟩
  cases e with
  | normal =>
    obtain ⟨x0, i0, hw⟩ := hk
    refine ⟨_, _, hw, ?_⟩
    refine LP.loop (X := X) (fun x => over (tv x) tsB) (fun x => hset hB (hv x)) Inv μ x0 i0 fun x hi => ?_
    rw [hlen]
    exact AWP.mono (fun e ts h hk => by cases e <;> exact hk) (exCode_sound hE c _ _ _ (round x hi))
  | exit id => exact ⟨_, _, Wk.refl.wm, hk⟩
  | ret => exact ⟨_, _, Wk.refl.wm, hk⟩
structure XZ where
  i : Nat
  vr : Nat
  ks : List Key
theorem law04_Past (l m : List Fact) (k : Key) (day known : Int) (hl : l.length < 2 ^ 63) (hm : m.length < 2 ^ 63) : CallP Try.prog 6 [.d (SL 8 (l.map Fact.d)), .d (SL 8 (m.map Fact.d)), .d k.d, .d (I day), .d (I known)] (retD [.b true]) := by
  refine exPure_sound (E := envOf Try.prog tt Try.f6.ntmps) (envOf_ok ttok mixed) Try.func6 (by rfl) rfl rfl (Nat.le_of_ble_eq_true rfl) ?_
  repeat' ((conv => whnf); first | with_reducible refine Dec.t (show true = true from rfl) ?_ | with_reducible refine Dec.t (show false = false from rfl) ?_ | with_reducible refine Dec.f (show ¬ (true = false) by decide) ?_ | with_reducible refine Dec.f (show ¬ (false = true) by decide) ?_ | refine Dec.t (by omega) ?_ | refine Dec.f (by omega) ?_ | refine Dec.split (fun _ => ?_) (fun _ => ?_) | refine Wr.id (by omega) ?_ | refine Chk.mk (by first | omega | exact rfl | (simp only [List.length_map]; omega) | (simp [room]; done) | (simp [room]; omega) | (simp [dropL, room]; done) | (simp [dropL, room]; omega)) ?_ | refine Nam.mk (List.length_map _) ?_ | refine Prep.skip ?_ | refine Eith.l ?_ | refine chk_t (x := D.flat _) (by assumption) ?_ | refine br_mk (fun _ => ?_) (fun _ => ?_) | refine Nam.mk (List.length_map _) ?_ | refine ACall.of (law04_sane) ?_ | refine APCall.of (law04_sane) ?_ | fail)
  all_goals (conv => whnf)
  all_goals try exact DLe.refl _
  refine ALoop.at (E := envOf Try.prog tt Try.f6.ntmps) (envOf_ok ttok mixed) (X := Nat) (fun i => [(11, .d (I i))]) (fun _ => []) (fun i => i ≤ m.length ∧ ∀ f ∈ m.take i, known < f.known) (fun i => m.length - i) 0 (by repeat (first | exact trivial | refine And.intro rfl ?_ | refine And.intro (congrArg (fun n => V.d (I n)) (wrap_nat _ (by omega))) ?_)) rfl ⟨Nat.zero_le _, by simp⟩ ?_
  rintro i ⟨hi, hk⟩
  dsimp only
  by_cases hlt : i < m.length
  · obtain ⟨f, hx, _⟩ := drop_get (l := m) (i := i) hlt
    have hfx : (m.map Fact.d)[((i : Nat) : Int).toNat]? = some f.d := by rw [Int.toNat_natCast]; exact map_get hx
    repeat' ((conv => whnf); first | with_reducible refine Dec.t (show true = true from rfl) ?_ | with_reducible refine Dec.t (show false = false from rfl) ?_ | with_reducible refine Dec.f (show ¬ (true = false) by decide) ?_ | with_reducible refine Dec.f (show ¬ (false = true) by decide) ?_ | refine Dec.t (by omega) ?_ | refine Dec.f (by omega) ?_ | refine Dec.split (fun _ => ?_) (fun _ => ?_) | refine Wr.id (by omega) ?_ | refine Chk.mk (by first | omega | exact rfl | (simp only [List.length_map]; omega) | (simp [room]; done) | (simp [room]; omega) | (simp [dropL, room]; done) | (simp [dropL, room]; omega)) ?_ | refine Nam.mk (List.length_map _) ?_ | refine Prep.skip ?_ | refine Eith.l ?_ | refine chk_t (x := D.flat _) (by assumption) ?_ | refine br_mk (fun _ => ?_) (fun _ => ?_) | refine Nam.mk (List.length_map _) ?_ | refine nthK_mk hfx ?_ | fail)
    all_goals (conv => whnf)
    all_goals try exact DLe.refl _
    refine ⟨i + 1, Wm.end (by repeat (first | exact trivial | refine And.intro rfl ?_ | refine And.intro (congrArg (fun n => V.d (I n)) (wrap_nat _ (by omega))) ?_)) rfl rfl rfl, ⟨by omega, fun g hg => ?_⟩, by omega⟩
    rw [List.take_add_one, hx, List.mem_append] at hg
    rcases hg with hg | hg
    · exact hk g hg
    · rw [show g = f by simpa using hg]; omega
  · have : i = m.length := by omega
    subst this
    rw [List.take_length] at hk
    clear hi hlt
    repeat' ((conv => whnf); first | with_reducible refine Dec.t (show true = true from rfl) ?_ | with_reducible refine Dec.t (show false = false from rfl) ?_ | with_reducible refine Dec.f (show ¬ (true = false) by decide) ?_ | with_reducible refine Dec.f (show ¬ (false = true) by decide) ?_ | refine Dec.t (by omega) ?_ | refine Dec.f (by omega) ?_ | refine Dec.split (fun _ => ?_) (fun _ => ?_) | refine Wr.id (by omega) ?_ | refine Chk.mk (by first | omega | exact rfl | (simp only [List.length_map]; omega) | (simp [room]; done) | (simp [room]; omega) | (simp [dropL, room]; done) | (simp [dropL, room]; omega)) ?_ | refine Nam.mk (List.length_map _) ?_ | refine Prep.skip ?_ | refine Eith.l ?_ | refine chk_t (x := D.flat _) (by assumption) ?_ | refine br_mk (fun _ => ?_) (fun _ => ?_) | refine Nam.mk (List.length_map _) ?_ | fail)
    all_goals (conv => whnf)
    have hl10 : l.length ≤ 10 := by omega
    have hm6 : m.length ≤ 6 := by omega
    have hll : (l.map Fact.d).length = l.length := List.length_map _
    have hlm : (m.map Fact.d).length = m.length := List.length_map _
    have hln : ([] : List D).length = 0 := rfl
    have hget : ∀ i : Nat, i < l.length + m.length → ∃ f : Fact, (dropL ([] ++ l.map Fact.d) 0 ++ m.map Fact.d)[0 + ((i : Nat) : Int).toNat]? = some f.d := fun i hi => by
      show ∃ f : Fact, (([] ++ l.map Fact.d) ++ m.map Fact.d)[0 + ((i : Nat) : Int).toNat]? = some f.d
      rw [Nat.zero_add, Int.toNat_natCast, List.nil_append, ← List.map_append, List.getElem?_map, List.getElem?_eq_getElem (by simpa using hi)]
      exact ⟨_, rfl⟩
    by_cases hpos : 0 < l.length + m.length
    · obtain ⟨f, hf⟩ := hget 0 hpos
      refine ALoop.peelAt (E := (envOf Try.prog tt Try.f6.ntmps)) (envOf_ok ttok mixed) (X := XZ) (fun x => [(14, .d (I x.i)), (13, .sref 3 x.vr 0 (x.i + 1) false)]) (fun x => [(3, .row x.vr 3 false (x.ks.map Key.d))]) (fun x => x.i ≤ l.length + m.length ∧ x.ks.length = x.i + 1) (fun x => l.length + m.length - x.i) 
        [(12, .sref 1 1 0 (([] : List D).length + (l.map Fact.d).length + (m.map Fact.d).length) false), (7, .ptr 0 0 0 0), (4, .d (I known)), (3, .d (I day)), (2, .d k.d), (1, .d (SL 8 (m.map Fact.d))), (0, .d (SL 8 (l.map Fact.d)))] [.vard k.d.cells, .row 1 8 false (dropL ([] ++ l.map Fact.d) 0 ++ m.map Fact.d), .res, .row 0 3 false []] ?_ ?_
      · repeat' ((conv => whnf); first | with_reducible refine Dec.t (show true = true from rfl) ?_ | with_reducible refine Dec.t (show false = false from rfl) ?_ | with_reducible refine Dec.f (show ¬ (true = false) by decide) ?_ | with_reducible refine Dec.f (show ¬ (false = true) by decide) ?_ | refine Dec.t (by omega) ?_ | refine Dec.f (by omega) ?_ | refine Dec.split (fun _ => ?_) (fun _ => ?_) | refine Wr.id (by omega) ?_ | refine Chk.mk (by first | omega | exact rfl | (simp only [List.length_map]; omega) | (simp [room]; done) | (simp [room]; omega) | (simp [dropL, room]; done) | (simp [dropL, room]; omega)) ?_ | refine Nam.mk (List.length_map _) ?_ | refine Prep.skip ?_ | refine Eith.l ?_ | refine chk_t (x := D.flat _) (by assumption) ?_ | refine br_mk (fun _ => ?_) (fun _ => ?_) | refine Nam.mk (List.length_map _) ?_ | refine nthK_mk hf ?_ | fail)
        all_goals (conv => whnf)
        exact ⟨⟨1, 0, [k, f.key]⟩, ⟨by simp only; omega, rfl⟩, Wm.fin 4 (Nat.le_of_ble_eq_true rfl) (by repeat (first | exact trivial | refine And.intro rfl ?_ | refine And.intro (congrArg (fun n => V.d (I n)) (wrap_nat _ (by omega))) ?_)) rfl rfl rfl⟩
      · rintro ⟨i, vr, ks⟩ ⟨hi, hks⟩
        simp only at hi hks
        dsimp only
        have hkl : (ks.map Key.d).length = i + 1 := by rw [List.length_map, hks]
        by_cases hlt : i < l.length + m.length
        · obtain ⟨f, hf⟩ := hget i hlt
          repeat' ((conv => whnf); first | with_reducible refine Dec.t (show true = true from rfl) ?_ | with_reducible refine Dec.t (show false = false from rfl) ?_ | with_reducible refine Dec.f (show ¬ (true = false) by decide) ?_ | with_reducible refine Dec.f (show ¬ (false = true) by decide) ?_ | refine Dec.t (by omega) ?_ | refine Dec.f (by omega) ?_ | refine Dec.split (fun _ => ?_) (fun _ => ?_) | refine Wr.id (by omega) ?_ | refine Chk.mk (by first | omega | exact rfl | (simp only [List.length_map]; omega) | (simp [room]; done) | (simp [room]; omega) | (simp [dropL, room]; done) | (simp [dropL, room]; omega)) ?_ | refine Nam.mk (List.length_map _) ?_ | refine Prep.skip ?_ | refine Eith.l ?_ | refine chk_t (x := D.flat _) (by assumption) ?_ | refine br_mk (fun _ => ?_) (fun _ => ?_) | refine Nam.mk (List.length_map _) ?_ | refine nthK_mk hf ?_ | fail)
          all_goals (conv => whnf)
          exact ⟨⟨i + 1, vr + 1, ks ++ [f.key]⟩, Wm.end (by repeat (first | exact trivial | refine And.intro rfl ?_ | refine And.intro (congrArg (fun n => V.d (I n)) (wrap_nat _ (by omega))) ?_)) (by show [_, _, _, Blk.row (vr + 1) 3 false (ks.map Key.d ++ [f.key.d])] = [_, _, _, Blk.row (vr + 1) 3 false ((ks ++ [f.key]).map Key.d)]; rw [List.map_append]; rfl) rfl rfl, ⟨by simp only; omega, by simp [hks]⟩, by simp only; omega⟩
        · have : i = l.length + m.length := by omega
          subst this
          repeat' ((conv => whnf); first | with_reducible refine Dec.t (show true = true from rfl) ?_ | with_reducible refine Dec.t (show false = false from rfl) ?_ | with_reducible refine Dec.f (show ¬ (true = false) by decide) ?_ | with_reducible refine Dec.f (show ¬ (false = true) by decide) ?_ | refine Dec.t (by omega) ?_ | refine Dec.f (by omega) ?_ | refine Dec.split (fun _ => ?_) (fun _ => ?_) | refine Wr.id (by omega) ?_ | refine Chk.mk (by first | omega | exact rfl | (simp only [List.length_map]; omega) | (simp [room]; done) | (simp [room]; omega) | (simp [dropL, room]; done) | (simp [dropL, room]; omega)) ?_ | refine Nam.mk (List.length_map _) ?_ | refine Prep.skip ?_ | refine Eith.l ?_ | refine chk_t (x := D.flat _) (by assumption) ?_ | refine br_mk (fun _ => ?_) (fun _ => ?_) | refine Nam.mk (List.length_map _) ?_ | fail)
          all_goals (conv => whnf)
          refine ALoop.weak (liftT_to (t := 12) (m := 1) ((l ++ m).map Fact.d) rfl rfl (by simp [dropL]) (by simp [dropL]; exact List.take_of_length_le (by simp))) ?_
          refine ALoop.weak (liftT_to (t := 13) (m := 3) (ks.map Key.d) rfl rfl (by simp [hks]) (by simp; exact List.take_of_length_le (by simp [hks]))) ?_
          refine ALoop.at (E := envOf Try.prog tt Try.f6.ntmps) (envOf_ok ttok mixed) (X := Nat) (fun i => [(15, .d (I i)), (13, .d (.sl 3 false (ks.map Key.d))), (12, .d (.sl 8 false ((l ++ m).map Fact.d)))]) (fun _ => []) (fun i => i ≤ ks.length) (fun i => ks.length - i) 0 (by repeat (first | exact trivial | refine And.intro rfl ?_ | refine And.intro (congrArg (fun n => V.d (I n)) (wrap_nat _ (by omega))) ?_)) rfl (Nat.zero_le _) ?_
          intro i hi
          by_cases hlt : i < ks.length
          · obtain ⟨q, hq, _⟩ := drop_get (l := ks) (i := i) hlt
            have hqd : (ks.map Key.d)[((i : Nat) : Int).toNat]? = some q.d := by rw [Int.toNat_natCast]; exact map_get hq
            have c1 := facts_At l q day known (by omega)
            have c2 := facts_At (l ++ m) q day known (by rw [List.length_append]; omega)
            rw [at_skip l m q day known fun f hf hh => by have := hk f hf; omega] at c2
            have c3 := facts_Points l q 0 40 known (by omega)
            have c4 := facts_Points (l ++ m) q 0 40 known (by rw [List.length_append]; omega)
            rw [points_past l m q 0 40 known hk] at c4
            have c5 := same_points04 (pointsM l q 0 40 known) (Nat.lt_of_le_of_lt (pointsM_len _ _ _ _ _) (by decide))
            generalize pointsM l q 0 40 known = P at c3 c4 c5
            generalize (atM l q day known).getD 0 = v at c1 c2
            generalize (atM l q day known).isSome = b at c1 c2
            clear hget hf hk
            cases b
            all_goals
              repeat' ((conv => whnf); first | with_reducible refine Dec.t (show true = true from rfl) ?_ | with_reducible refine Dec.t (show false = false from rfl) ?_ | with_reducible refine Dec.f (show ¬ (true = false) by decide) ?_ | with_reducible refine Dec.f (show ¬ (false = true) by decide) ?_ | refine Dec.t (by omega) ?_ | refine Dec.f (by omega) ?_ | refine Dec.split (fun _ => ?_) (fun _ => ?_) | refine Wr.id (by omega) ?_ | refine Chk.mk (by first | omega | exact rfl | (simp only [List.length_map]; omega) | (simp [room]; done) | (simp [room]; omega) | (simp [dropL, room]; done) | (simp [dropL, room]; omega)) ?_ | refine Nam.mk (List.length_map _) ?_ | refine Prep.skip ?_ | refine Eith.l ?_ | refine chk_t (x := D.flat _) (by assumption) ?_ | refine br_mk (fun _ => ?_) (fun _ => ?_) | refine Nam.mk (List.length_map _) ?_ | refine nthK_mk hqd ?_ | refine ACall.of (c1) ?_ | refine APCall.of (c1) ?_ | refine ACall.of (c2) ?_ | refine APCall.of (c2) ?_ | refine ACall.of (c3) ?_ | refine APCall.of (c3) ?_ | refine ACall.of (c4) ?_ | refine APCall.of (c4) ?_ | refine ACall.of (c5) ?_ | refine APCall.of (c5) ?_ | refine APCall.of c3 ?_ | refine APCall.of c4 ?_ | refine APCall.of c5 ?_ | fail)
            all_goals (conv => whnf)
            all_goals first | (exfalso; rename_i hh; exact hh rfl) | exact ⟨i + 1, Wm.end (by repeat (first | exact trivial | refine And.intro rfl ?_ | refine And.intro (congrArg (fun n => V.d (I n)) (wrap_nat _ (by omega))) ?_)) rfl rfl rfl, hlt, by omega⟩
          · have : i = ks.length := by omega
            subst this
            have c1 := facts_Upto (l ++ m) known (by rw [List.length_append]; omega)
            rw [upto_past l m known hk] at c1
            have c2 := facts_Upto l known (by omega)
            have c3 := same_facts04 (l.filter fun f => decide (f.known ≤ known)) (Nat.lt_of_le_of_lt (List.length_filter_le _ _) (by omega))
            generalize (l.filter fun f => decide (f.known ≤ known)) = u at c1 c2 c3
            have c4 := facts_Changed (l ++ m) 0 known (by rw [List.length_append]; omega)
            rw [changed_past l m 0 known fun f hf => by have := hk f hf; omega] at c4
            have c5 := facts_Changed l 0 known (by omega)
            obtain ⟨n1, n2⟩ := changedM_len l 0 known
            generalize changedM l 0 known = r at c4 c5 n1 n2
            have c6 := same_difs04 r (by omega) (fun x hx => by have := n2 x hx; omega)
            clear hget hf hk
            repeat' ((conv => whnf); first | with_reducible refine Dec.t (show true = true from rfl) ?_ | with_reducible refine Dec.t (show false = false from rfl) ?_ | with_reducible refine Dec.f (show ¬ (true = false) by decide) ?_ | with_reducible refine Dec.f (show ¬ (false = true) by decide) ?_ | refine Dec.t (by omega) ?_ | refine Dec.f (by omega) ?_ | refine Dec.split (fun _ => ?_) (fun _ => ?_) | refine Wr.id (by omega) ?_ | refine Chk.mk (by first | omega | exact rfl | (simp only [List.length_map]; omega) | (simp [room]; done) | (simp [room]; omega) | (simp [dropL, room]; done) | (simp [dropL, room]; omega)) ?_ | refine Nam.mk (List.length_map _) ?_ | refine Prep.skip ?_ | refine Eith.l ?_ | refine chk_t (x := D.flat _) (by assumption) ?_ | refine br_mk (fun _ => ?_) (fun _ => ?_) | refine Nam.mk (List.length_map _) ?_ | refine ACall.of (c1) ?_ | refine APCall.of (c1) ?_ | refine ACall.of (c2) ?_ | refine APCall.of (c2) ?_ | refine ACall.of (c3) ?_ | refine APCall.of (c3) ?_ | refine ACall.of (c4) ?_ | refine APCall.of (c4) ?_ | refine ACall.of (c5) ?_ | refine APCall.of (c5) ?_ | refine ACall.of (c6) ?_ | refine APCall.of (c6) ?_ | refine APCall.of c4 ?_ | refine APCall.of c5 ?_ | refine APCall.of c6 ?_ | fail)
            all_goals (conv => whnf)
            all_goals exact DLe.refl _
    · have hl0 : l = [] := List.length_eq_zero_iff.1 (by omega)
      have hm0 : m = [] := List.length_eq_zero_iff.1 (by omega)
      subst hl0; subst hm0
      clear hget hll hlm hln hk
      refine ALoop.weak (liftT_to (t := 12) (m := 1) (([] : List Fact).map Fact.d) rfl rfl (by simp [dropL]) (by simp [dropL])) ?_
      have c1 := facts_At [] k day known (by simp)
      rw [show atM [] k day known = none from rfl] at c1
      have c3 := facts_Points [] k 0 40 known (by simp)
      have c5 := same_points04 (pointsM [] k 0 40 known) (Nat.lt_of_le_of_lt (pointsM_len _ _ _ _ _) (by decide))
      generalize pointsM [] k 0 40 known = P at c3 c5
      have c2 := facts_Upto [] known (by simp)
      have c4 := same_facts04 [] (by simp)
      have c6 := facts_Changed [] 0 known (by simp)
      obtain ⟨n1, n2⟩ := changedM_len [] 0 known
      generalize changedM [] 0 known = r at c6 n1 n2
      have c7 := same_difs04 r (by simp at n1; simp [n1]) (fun x hx => by have := n2 x hx; omega)
      repeat' ((conv => whnf); first | refine Dec.t (of_decide_eq_true (Eq.refl true)) ?_ | refine Dec.f (of_decide_eq_false (Eq.refl false)) ?_ | with_reducible refine Dec.t (show true = true from rfl) ?_ | with_reducible refine Dec.t (show false = false from rfl) ?_ | with_reducible refine Dec.f (show ¬ (true = false) by decide) ?_ | with_reducible refine Dec.f (show ¬ (false = true) by decide) ?_ | refine Dec.t (by omega) ?_ | refine Dec.f (by omega) ?_ | refine Dec.split (fun _ => ?_) (fun _ => ?_) | refine Wr.id (by omega) ?_ | refine Chk.mk (by first | omega | exact rfl | (simp only [List.length_map]; omega) | (simp [room]; done) | (simp [room]; omega) | (simp [dropL, room]; done) | (simp [dropL, room]; omega)) ?_ | refine Nam.mk (List.length_map _) ?_ | refine Prep.skip ?_ | refine Eith.l ?_ | refine chk_t (x := D.flat _) (by assumption) ?_ | refine br_mk (fun _ => ?_) (fun _ => ?_) | refine Nam.mk (y := 0) rfl ?_ | refine Nam.mk (y := 1) rfl ?_ | refine ALoop.rounds 2 ?_ | refine ALoopN.step (E := (envOf Try.prog tt Try.f6.ntmps)) (envOf_ok ttok mixed) ?_ | refine ACall.of (c1) ?_ | refine APCall.of (c1) ?_ | refine ACall.of (c2) ?_ | refine APCall.of (c2) ?_ | refine ACall.of (c3) ?_ | refine APCall.of (c3) ?_ | refine ACall.of (c4) ?_ | refine APCall.of (c4) ?_ | refine ACall.of (c5) ?_ | refine APCall.of (c5) ?_ | refine ACall.of (c6) ?_ | refine APCall.of (c6) ?_ | refine ACall.of (c7) ?_ | refine APCall.of (c7) ?_ | refine APCall.of c3 ?_ | refine APCall.of c5 ?_ | refine APCall.of c6 ?_ | refine APCall.of c7 ?_ | fail)
      all_goals (conv => whnf)
      all_goals first | exact DLe.refl _ | trace_state
end Go.PM

