/- Package facts: Changed. -/
import Derived.Test.YtfbngjofngmbdaaF04e
import Derived.Test.YtfbngjofngmbdaaPmSort
import Derived.Test.YtfbngjofngmbdaaPmOwn
import Derived.Ground.SlsfProg
namespace Go.Proofs
open Go.Shelf
def Try.sortKey_ren : Go.Shelf.Ren := ⟨fun | 6 => 43 | 15 => 52 | 14 => 51 | 28 => 62 | 29 => 63 | 20 => 54 | 21 => 55 | 22 => 56 | 23 => 57 | 24 => 58 | 25 => 59 | 26 => 60 | 27 => 61 | 46 => 64 | 47 => 65 | 48 => 66 | 49 => 67 | 50 => 68 | 57 => 69 | n => n, fun | 22 => 49 | 24 => 52 | 25 => 106 | 3 => 3 | 39 => 47 | 0 => 0 | 53 => 122 | 55 => 124 | 4 => 4 | 46 => 116 | 45 => 115 | 50 => 65 | 5 => 5 | 9 => 9 | 66 => 125 | 70 => 129 | 76 => 131 | 77 => 132 | n => n, fun | n => n⟩
theorem Try.sortKey : Go.Proofs.SlLaysF0.n6 Try.prog Try.sortKey_ren := {
  mixed := by kernel_rfl
  f6 := ⟨Try.f43.name, by decide, Try.func43.trans (congrArg some (by kernel_rfl))⟩
  f14 := ⟨Try.f51.name, by decide, Try.func51.trans (congrArg some (by kernel_rfl))⟩
  f15 := Try.func52.trans (congrArg some (by kernel_rfl))
  f20 := ⟨Try.f54.name, by decide, Try.func54.trans (congrArg some (by kernel_rfl))⟩
  f21 := ⟨Try.f55.name, by decide, Try.func55.trans (congrArg some (by kernel_rfl))⟩
  f22 := ⟨Try.f56.name, by decide, Try.func56.trans (congrArg some (by kernel_rfl))⟩
  f23 := ⟨Try.f57.name, by decide, Try.func57.trans (congrArg some (by kernel_rfl))⟩
  f24 := ⟨Try.f58.name, by decide, Try.func58.trans (congrArg some (by kernel_rfl))⟩
  f25 := ⟨Try.f59.name, by decide, Try.func59.trans (congrArg some (by kernel_rfl))⟩
  f26 := ⟨Try.f60.name, by decide, Try.func60.trans (congrArg some (by kernel_rfl))⟩
  f27 := ⟨Try.f61.name, by decide, Try.func61.trans (congrArg some (by kernel_rfl))⟩
  f28 := Try.func62.trans (congrArg some (by kernel_rfl))
  f29 := Try.func63.trans (congrArg some (by kernel_rfl))
  f46 := ⟨Try.f64.name, by decide, Try.func64.trans (congrArg some (by kernel_rfl))⟩
  f47 := Try.func65.trans (congrArg some (by kernel_rfl))
  f48 := Try.func66.trans (congrArg some (by kernel_rfl))
  f49 := ⟨Try.f67.name, by decide, Try.func67.trans (congrArg some (by kernel_rfl))⟩
  f50 := ⟨Try.f68.name, by decide, Try.func68.trans (congrArg some (by kernel_rfl))⟩
  f57 := ⟨Try.f69.name, by decide, Try.func69.trans (congrArg some (by kernel_rfl))⟩
  t0 := Try.underlying0
  a0 := Try.isAgg0
  z0 := Try.sizeOf0
  v0 := Try.zeroValue0
  t3 := Try.underlying3
  a3 := Try.isAgg3
  z3 := Try.sizeOf3
  v3 := Try.zeroValue3
  t4 := Try.underlying4
  a4 := Try.isAgg4
  z4 := Try.sizeOf4
  v4 := Try.zeroValue4
  t5 := Try.underlying5
  a5 := Try.isAgg5
  z5 := Try.sizeOf5
  v5 := Try.zeroValue5
  t9 := Try.underlying9
  a9 := Try.isAgg9
  z9 := Try.sizeOf9
  v9 := Try.zeroValue9
  t22 := Try.underlying49
  a22 := Try.isAgg49
  z22 := Try.sizeOf49
  v22 := Try.zeroValue49
  t25 := Try.underlying106
  a25 := Try.isAgg106
  z25 := Try.sizeOf106
  v25 := Try.zeroValue106
  t39 := Try.underlying47
  a39 := Try.isAgg47
  z39 := Try.sizeOf47
  v39 := Try.zeroValue47
  t45 := Try.underlying115
  a45 := Try.isAgg115
  z45 := Try.sizeOf115
  v45 := Try.zeroValue115
  t46 := Try.underlying116
  a46 := Try.isAgg116
  z46 := Try.sizeOf116
  v46 := Try.zeroValue116
  t50 := Try.underlying65
  a50 := Try.isAgg65
  z50 := Try.sizeOf65
  v50 := Try.zeroValue65
  t53 := Try.underlying122
  a53 := Try.isAgg122
  z53 := Try.sizeOf122
  v53 := Try.zeroValue122
  t55 := Try.underlying124
  a55 := Try.isAgg124
  z55 := Try.sizeOf124
  v55 := Try.zeroValue124
  t66 := Try.underlying125
  a66 := Try.isAgg125
  z66 := Try.sizeOf125
  v66 := Try.zeroValue125
  t70 := Try.underlying129
  a70 := Try.isAgg129
  z70 := Try.sizeOf129
  v70 := Try.zeroValue129
  t76 := Try.underlying131
  a76 := Try.isAgg131
  z76 := Try.sizeOf131
  v76 := Try.zeroValue131
  t77 := Try.underlying132
  a77 := Try.isAgg132
  z77 := Try.sizeOf132
  v77 := Try.zeroValue132 }

end Go.Proofs
namespace Go.PM
open Go.Proofs
set_option maxRecDepth 10000
set_option maxHeartbeats 1000000

def cfKey (a b : Key) : Int := orL [cmpI a.kind b.kind, cmpI a.subj b.subj, cmpI a.obj b.obj]
theorem cfKey_lt (a b : Key) : cfKey a b < 0 ↔ lessK a b := by
  unfold cfKey lessK
  simp only [orL, cmpI]
  repeat' split
  all_goals omega
theorem swoKey : Go.Sort.SWO (ltOf cfKey) where
  irrefl x := by unfold ltOf; rw [decide_eq_false]; rw [cfKey_lt]; unfold lessK; omega
  trans x y z h1 h2 := by
    unfold ltOf at *
    simp only [decide_eq_true_eq, cfKey_lt] at *
    unfold lessK at *
    omega
  ntrans x y z h1 h2 := by
    unfold ltOf at *
    simp only [decide_eq_false_iff_not, cfKey_lt] at *
    unfold lessK at *
    omega
def Key.cells (l : Key) : List D := [I l.kind, I l.subj, I l.obj]
instance : Inhabited Key := ⟨⟨0, 0, 0⟩⟩
theorem facts_Changed1 (a b : Key) : CallP Try.prog 44 [.d (.agg a.cells), .d (.agg b.cells)] (retD [I (cfKey a b)]) := by
  refine exPure_sound (E := envOf Try.prog tt Try.f44.ntmps) (envOf_ok ttok mixed) Try.func44 (by rfl) rfl rfl (Nat.le_of_ble_eq_true rfl) ?_
  repeat' ((conv => whnf); first | with_reducible refine Dec.t (show true = true from rfl) ?_ | with_reducible refine Dec.t (show false = false from rfl) ?_ | with_reducible refine Dec.f (show ¬ (true = false) by decide) ?_ | with_reducible refine Dec.f (show ¬ (false = true) by decide) ?_ | refine Dec.t (by omega) ?_ | refine Dec.f (by omega) ?_ | refine Dec.split (fun _ => ?_) (fun _ => ?_) | refine Wr.id (by omega) ?_ | refine Chk.mk (by first | omega | exact rfl | (simp only [List.length_map]; omega) | (simp [room]; done) | (simp [room]; omega) | (simp [dropL, room]; done) | (simp [dropL, room]; omega)) ?_ | refine Nam.mk (List.length_map _) ?_ | refine Prep.skip ?_ | refine Eith.l ?_ | refine chk_t (x := D.flat _) (by assumption) ?_ | refine br_mk (fun _ => ?_) (fun _ => ?_) | refine APCall.of (cmp_Compare _ _) ?_ | refine APCall.le (by repeat (first | exact trivial | exact rfl | exact DLe.refl _ | exact DLe.full _ _ _ | exact DLe.nil _ _ _ | exact VLe.refl _ | refine And.intro ?_ ?_ | refine VLe.d ?_ | refine DLe.agg ?_)) (cmp_Or [_, _, _] (by simp)) ?_ | refine ACall.of (cmp_Compare _ _) ?_ | refine ACall.le (by repeat (first | exact trivial | exact rfl | exact DLe.refl _ | exact DLe.full _ _ _ | exact DLe.nil _ _ _ | exact VLe.refl _ | refine And.intro ?_ ?_ | refine VLe.d ?_ | refine DLe.agg ?_)) (cmp_Or [_, _, _] (by simp)) ?_ | fail)
  conv => whnf
  exact DLe.refl _

theorem lessK_irr (a : Key) : ¬ lessK a a := by unfold lessK; omega
theorem lessK_trans {a b c : Key} (h1 : lessK a b) (h2 : lessK b c) : lessK a c := by unfold lessK at *; omega
theorem lessK_tri (a b : Key) : lessK a b ∨ a = b ∨ lessK b a := by
  cases a; cases b
  simp only [lessK, Key.mk.injEq]
  omega
/-- The reference's keys are sorted, and those of the facts. -/
theorem insK_spec (k : Key) : ∀ {out : List Key}, out.Pairwise lessK → (insK k out).Pairwise lessK ∧ ∀ x, x ∈ insK k out ↔ x = k ∨ x ∈ out
  | [], _ => ⟨by simp [insK], by simp [insK]⟩
  | y :: r, h => by
    obtain ⟨h1, h2⟩ := List.pairwise_cons.1 h
    rw [insK]
    split
    · rename_i hl
      obtain ⟨g1, g2⟩ := insK_spec k h2
      refine ⟨List.pairwise_cons.2 ⟨fun z hz => ?_, g1⟩, fun x => ?_⟩
      · rcases (g2 z).1 hz with rfl | hz
        · exact hl
        · exact h1 z hz
      · simp only [List.mem_cons, g2]; exact ⟨fun h => by rcases h with h | h | h <;> simp [h], fun h => by rcases h with h | h | h <;> simp [h]⟩
    · split
      · rename_i hl he
        subst he
        exact ⟨h, fun x => by simp⟩
      · rename_i hl he
        have hk : lessK k y := by
          rcases lessK_tri y k with h | h | h
          · exact absurd h hl
          · exact absurd h he
          · exact h
        refine ⟨List.pairwise_cons.2 ⟨fun z hz => ?_, h⟩, fun x => by simp⟩
        rcases List.mem_cons.1 hz with rfl | hz
        · exact hk
        · exact lessK_trans hk (h1 z hz)
theorem keysR_spec (l : List Fact) : (keysR l).Pairwise lessK ∧ ∀ x, x ∈ keysR l ↔ ∃ f ∈ l, f.key = x := by
  have key : ∀ (l : List Fact) (out : List Key), out.Pairwise lessK → (l.foldl (fun out f => insK f.key out) out).Pairwise lessK ∧ ∀ x, x ∈ l.foldl (fun out f => insK f.key out) out ↔ x ∈ out ∨ ∃ f ∈ l, f.key = x := by
    intro l
    induction l with
    | nil => intro out h; exact ⟨h, by simp⟩
    | cons f l ih =>
      intro out h
      obtain ⟨g1, g2⟩ := insK_spec f.key h
      obtain ⟨i1, i2⟩ := ih _ g1
      refine ⟨i1, fun x => ?_⟩
      rw [List.foldl_cons, i2, g2]
      simp only [List.mem_cons, exists_eq_or_imp]
      exact ⟨fun h => by rcases h with (h | h) | h <;> simp [h], fun h => by rcases h with h | h | h <;> simp [h]⟩
  obtain ⟨h1, h2⟩ := key l [] .nil
  exact ⟨h1, fun x => by rw [keysR, h2]; simp⟩
theorem sorted_unique : ∀ {a b : List Key}, a.Pairwise lessK → b.Pairwise lessK → (∀ x, x ∈ a ↔ x ∈ b) → a = b
  | [], [], _, _, _ => rfl
  | [], y :: b, _, _, h => absurd ((h y).2 (.head _)) (by simp)
  | x :: a, [], _, _, h => absurd ((h x).1 (.head _)) (by simp)
  | x :: a, y :: b, h1, h2, h => by
    obtain ⟨a1, a2⟩ := List.pairwise_cons.1 h1
    obtain ⟨b1, b2⟩ := List.pairwise_cons.1 h2
    have hxy : x = y := by
      rcases List.mem_cons.1 ((h x).1 (.head _)) with e | e
      · exact e
      · rcases List.mem_cons.1 ((h y).2 (.head _)) with e2 | e2
        · exact e2.symm
        · exact absurd (lessK_trans (a1 y e2) (b1 x e)) (lessK_irr x)
    subst hxy
    congr 1
    refine sorted_unique a2 b2 fun z => ?_
    constructor
    · intro hz
      rcases List.mem_cons.1 ((h z).1 (.tail _ hz)) with e | e
      · subst e; exact absurd (a1 z hz) (lessK_irr z)
      · exact e
    · intro hz
      rcases List.mem_cons.1 ((h z).2 (.tail _ hz)) with e | e
      · subst e; exact absurd (b1 z hz) (lessK_irr z)
      · exact e

abbrev Grp := Key × List Fact
def encG (g : Grp) : D × Option (List D) := (g.1.d, some (g.2.map Fact.d))
/-- The facts of each key. -/
def GInv (l : List Fact) (gs : List Grp) : Prop := (gs.map Prod.fst).Nodup ∧ (∀ g ∈ gs, g.2 = l.filter (fun f => decide (f.key = g.1)) ∧ g.2 ≠ []) ∧ ∀ f ∈ l, ∃ g ∈ gs, g.1 = f.key
theorem GInv.old {l : List Fact} {f : Fact} {pre post : List Grp} {xs : List Fact} (h : GInv l (pre ++ (f.key, xs) :: post)) : GInv (l ++ [f]) (pre ++ (f.key, xs ++ [f]) :: post) := by
  obtain ⟨h1, h2, h3⟩ := h
  have hne : ∀ g ∈ pre ++ post, g.1 ≠ f.key := fun g hg he => by
    rw [List.map_append, List.map_cons, List.nodup_append] at h1
    obtain ⟨_, n2, n3⟩ := h1
    rw [List.nodup_cons] at n2
    rcases List.mem_append.1 hg with hg | hg
    · exact n3 g.1 (List.mem_map.2 ⟨g, hg, rfl⟩) f.key (.head _) he
    · exact n2.1 (List.mem_map.2 ⟨g, hg, he⟩)
  refine ⟨by simpa using h1, fun g hg => ?_, fun x hx => ?_⟩
  · rcases List.mem_append.1 hg with hg | hg
    · obtain ⟨e1, e2⟩ := h2 g (List.mem_append.2 (.inl hg))
      refine ⟨?_, e2⟩
      rw [List.filter_append, ← e1]
      simp [(hne g (List.mem_append.2 (.inl hg))).symm]
    · rcases List.mem_cons.1 hg with rfl | hg
      · obtain ⟨e1, e2⟩ := h2 (f.key, xs) (by simp)
        refine ⟨?_, by simp⟩
        simp only at e1 ⊢
        rw [List.filter_append, ← e1]; simp
      · obtain ⟨e1, e2⟩ := h2 g (by simp [hg])
        refine ⟨?_, e2⟩
        rw [List.filter_append, ← e1]
        simp [(hne g (List.mem_append.2 (.inr hg))).symm]
  · rcases List.mem_append.1 hx with hx | hx
    · obtain ⟨g, hg, he⟩ := h3 x hx
      rcases List.mem_append.1 hg with hg | hg
      · exact ⟨g, by simp [hg], he⟩
      · rcases List.mem_cons.1 hg with rfl | hg
        · exact ⟨(f.key, xs ++ [f]), by simp, he⟩
        · exact ⟨g, by simp [hg], he⟩
    · simp at hx; subst hx
      exact ⟨(x.key, xs ++ [x]), by simp, rfl⟩
theorem GInv.new {l : List Fact} {f : Fact} {gs : List Grp} (h : GInv l gs) (hn : ∀ g ∈ gs, g.1 ≠ f.key) : GInv (l ++ [f]) (gs ++ [(f.key, [f])]) := by
  obtain ⟨h1, h2, h3⟩ := h
  refine ⟨?_, fun g hg => ?_, fun x hx => ?_⟩
  · rw [List.map_append, List.nodup_append]
    refine ⟨h1, by simp, fun a ha b hb => ?_⟩
    obtain ⟨g, hg, rfl⟩ := List.mem_map.1 ha
    simp at hb; subst hb
    exact hn g hg
  · rcases List.mem_append.1 hg with hg | hg
    · obtain ⟨e1, e2⟩ := h2 g hg
      refine ⟨?_, e2⟩
      rw [List.filter_append, ← e1]
      simp [(hn g hg).symm]
    · simp at hg; subst hg
      refine ⟨?_, by simp⟩
      simp only
      rw [List.filter_append]
      have : l.filter (fun x => decide (x.key = f.key)) = [] := List.filter_eq_nil_iff.2 fun x hx => by
        obtain ⟨g, hg, he⟩ := h3 x hx
        have := hn g hg
        rw [he] at this
        simpa using this
      rw [this]; simp
  · rcases List.mem_append.1 hx with hx | hx
    · obtain ⟨g, hg, he⟩ := h3 x hx
      exact ⟨g, by simp [hg], he⟩
    · simp at hx; subst hx
      exact ⟨(x.key, [x]), by simp, rfl⟩
theorem GInv.apart {l : List Fact} {k : Key} {pre post : List Grp} {xs : List Fact} (h : GInv l (pre ++ (k, xs) :: post)) : ∀ g ∈ pre ++ post, g.1 ≠ k := fun g hg he => by
  obtain ⟨h1, _, _⟩ := h
  rw [List.map_append, List.map_cons, List.nodup_append] at h1
  obtain ⟨_, n2, n3⟩ := h1
  rw [List.nodup_cons] at n2
  rcases List.mem_append.1 hg with hg | hg
  · exact n3 g.1 (List.mem_map.2 ⟨g, hg, rfl⟩) k (.head _) he
  · exact n2.1 (List.mem_map.2 ⟨g, hg, he⟩)
theorem encG_ne {k : Key} {gs : List Grp} (h : ∀ g ∈ gs, g.1 ≠ k) : ∀ p ∈ gs.map encG, eqD tt 4 52 k.d.cells p.1.cells = false := fun p hp => by
  obtain ⟨g, hg, rfl⟩ := List.mem_map.1 hp
  rw [show (encG g).1 = g.1.d from rfl, eqKey]
  exact decide_eq_false (Ne.symm (h g hg))
/-- What a key has. -/
theorem find_enc {k : Key} {xs : List Fact} : ∀ {gs : List Grp}, (gs.map Prod.fst).Nodup → (k, xs) ∈ gs → mapFind tt 52 k.d (gs.map fun g => (g.1.d, SL 8 (g.2.map Fact.d))) = some (SL 8 (xs.map Fact.d))
  | g :: gs, hn, hm => by
    rw [List.map_cons, List.nodup_cons] at hn
    rw [List.map_cons, mapFind, eqKey]
    by_cases he : k = g.1
    · rw [if_pos (by simp [he])]
      rcases List.mem_cons.1 hm with rfl | hm
      · rfl
      · exact absurd (List.mem_map.2 ⟨(k, xs), hm, he⟩) hn.1
    · rw [if_neg (by simp [he])]
      rcases List.mem_cons.1 hm with rfl | hm
      · exact absurd rfl he
      · exact find_enc hn.2 hm
theorem atF_filter (l : List Fact) (k : Key) (d t : Int) : atF (l.filter fun f => decide (f.key = k)) k d t = atF l k d t := by
  unfold atF
  generalize (none : Option Fact) = o
  induction l generalizing o with
  | nil => rfl
  | cons f l ih =>
    by_cases h : f.key = k
    · rw [List.filter_cons, if_pos (by simp [h]), List.foldl_cons, List.foldl_cons, ih]
    · rw [List.filter_cons, if_neg (by simp [h]), List.foldl_cons, ih]
      congr 1
      unfold atStep
      rw [if_neg (fun hh => h hh.1)]
theorem runsM_congr {p q : Nat → Bool} : ∀ {n : Nat}, (∀ i, i < n → p i = q i) → runsM p n = runsM q n
  | 0, _ => rfl
  | n + 1, h => by rw [runsM, runsM, h n (by omega), runsM_congr fun i hi => h i (by omega)]
structure XG where
  i : Nat
  vr : Nat
  gs : List Grp
theorem facts_Changed (l : List Fact) (b a : Int) (hl : l.length < 2 ^ 20) : CallP Try.prog 32 [.d (SL 8 (l.map Fact.d)), .d (I b), .d (I a)] (retD [SL 4 ((changedM l b a).map Dif.d)]) := by
  refine exPure_sound (E := envOf Try.prog tt Try.f32.ntmps) (envOf_ok ttok mixed) Try.func32 (by rfl) rfl rfl (Nat.le_of_ble_eq_true rfl) ?_
  repeat' ((conv => whnf); first | with_reducible refine Dec.t (show true = true from rfl) ?_ | with_reducible refine Dec.t (show false = false from rfl) ?_ | with_reducible refine Dec.f (show ¬ (true = false) by decide) ?_ | with_reducible refine Dec.f (show ¬ (false = true) by decide) ?_ | refine Dec.t (by omega) ?_ | refine Dec.f (by omega) ?_ | refine Dec.split (fun _ => ?_) (fun _ => ?_) | refine Wr.id (by omega) ?_ | refine Chk.mk (by first | omega | exact rfl | (simp only [List.length_map]; omega) | (simp [room]; done) | (simp [room]; omega) | (simp [dropL, room]; done) | (simp [dropL, room]; omega)) ?_ | refine Nam.mk (List.length_map _) ?_ | refine Prep.skip ?_ | refine Eith.l ?_ | refine chk_t (x := D.flat _) (by assumption) ?_ | refine br_mk (fun _ => ?_) (fun _ => ?_) | fail)
  all_goals (conv => whnf)
  refine ALoop.virt 8 0 3 false (by decide) rfl ?_
  conv => whnf
  refine ALoop.weak (Wk.toOwn (n := 0) (sz := 8) (kt := 52) (T := tt) (by decide) rfl rfl) ?_
  refine ALoop.atW (E := (envOf Try.prog tt Try.f32.ntmps)) (envOf_ok ttok mixed) (X := XG) (fun x => [(21, .d (I x.i)), (8, .sref 1 x.vr 0 x.gs.length false)]) (fun x => [(0, .mapo tt 52 8 (x.gs.map encG) none), (1, .row x.vr 3 false (x.gs.map fun g => g.1.d))])
    (fun x => x.i ≤ l.length ∧ x.gs.length ≤ x.i ∧ GInv (l.take x.i) x.gs) (fun x => l.length - x.i) ⟨0, 0, []⟩ (by repeat (first | exact trivial | refine And.intro rfl ?_ | refine And.intro (congrArg (fun n => V.d (I n)) (wrap_nat _ (by omega))) ?_)) rfl ⟨Nat.zero_le _, Nat.le_refl _, by simp [GInv]⟩ ?_
  rintro ⟨i, vr, gs⟩ ⟨hi, hlen, hinv⟩
  simp only at hi hlen hinv
  dsimp only
  by_cases hlt : i < l.length
  · obtain ⟨f, hx, _⟩ := drop_get hlt
    have htk : l.take (i + 1) = l.take i ++ [f] := by rw [List.take_add_one, hx]; rfl
    by_cases hex : ∃ g ∈ gs, g.1 = f.key
    · obtain ⟨⟨k, xs⟩, hg, he⟩ := hex
      simp only at he
      subst he
      obtain ⟨pre, post, rfl⟩ := List.append_of_mem hg
      obtain ⟨e1, e2⟩ := hinv.2.1 _ hg
      have hpos : 0 < xs.length := List.length_pos_iff.2 e2
      have hes : (pre ++ (f.key, xs) :: post).map encG = pre.map encG ++ (f.key.d, some (xs.map Fact.d)) :: post.map encG := by simp [encG]
      refine ⟨_, _, Wk.lend (T := tt) (n := 0) (sz := 8) (kt := 52) (k := f.key.d) (xs := xs.map Fact.d) (pre := pre.map encG) (post := post.map encG) (congrArg (fun e => some (Blk.mapo tt 52 8 e none)) hes) (by rw [eqKey]; simp) (by rw [← List.map_append]; exact encG_ne hinv.apart), ?_⟩
      have hlm : ¬ (((xs.map Fact.d).length : Nat) : Int) = 0 := by rw [List.length_map]; omega
      have hxl : xs.length ≤ i := by
        have := e1
        simp only at this
        rw [this]; exact Nat.le_trans (List.length_filter_le _ _) (by simp; omega)
      repeat' ((conv => whnf); first | refine Dec.f hlm ?_ | with_reducible refine Dec.t (show true = true from rfl) ?_ | with_reducible refine Dec.t (show false = false from rfl) ?_ | with_reducible refine Dec.f (show ¬ (true = false) by decide) ?_ | with_reducible refine Dec.f (show ¬ (false = true) by decide) ?_ | refine Dec.t (by omega) ?_ | refine Dec.f (by omega) ?_ | refine Dec.split (fun _ => ?_) (fun _ => ?_) | refine Wr.id (by omega) ?_ | refine Chk.mk (by first | omega | exact rfl | (simp only [List.length_map]; omega) | (simp [room]; done) | (simp [room]; omega) | (simp [dropL, room]; done) | (simp [dropL, room]; omega)) ?_ | refine Nam.mk (List.length_map _) ?_ | refine Prep.skip ?_ | refine Eith.l ?_ | refine chk_t (x := D.flat _) (by assumption) ?_ | refine br_mk (fun _ => ?_) (fun _ => ?_) | refine nthK_mk (map_get hx) ?_ | refine Chk.mk ⟨rfl, rfl⟩ ?_ | refine Chk.mk ⟨rfl, by simp, by simp [room]; omega⟩ ?_ | fail)
      all_goals (conv => whnf)
      refine ⟨⟨i + 1, vr, pre ++ (f.key, xs ++ [f]) :: post⟩, (Wk.wm (Wk.unlend (T := tt) (n := 0) (m := 2) (sz := 8) (kt := 52) (k := f.key.d) (pre := pre.map encG) (post := post.map encG) rfl rfl (by simp) (by simp [dropL]))).trans (Wm.end (by refine ⟨?_, ?_, (by repeat (first | exact trivial | refine And.intro rfl ?_ | refine And.intro (congrArg (fun n => V.d (I n)) (wrap_nat _ (by omega))) ?_))⟩; exact congrArg (fun n => V.d (I n)) (by dsimp only; omega); exact congrArg (fun n => V.sref 1 vr 0 n false) (by simp)) ?_ rfl rfl), ⟨hlt, by simp at hlen ⊢; omega, by rw [htk]; exact hinv.old⟩, by simp only; omega⟩
      have h1 : pre.map encG ++ (f.key.d, some (dropL (xs.map Fact.d) 0 ++ [D.agg f.d.cells])) :: post.map encG = (pre ++ (f.key, xs ++ [f]) :: post).map encG := by simp [encG, dropL, show D.agg f.d.cells = f.d from rfl]
      have h2 : (pre ++ (f.key, xs) :: post).map (fun g => g.1.d) = (pre ++ (f.key, xs ++ [f]) :: post).map (fun g => g.1.d) := by simp
      exact (show [Blk.mapo tt 52 8 (pre.map encG ++ (f.key.d, some (dropL (xs.map Fact.d) 0 ++ [D.agg f.d.cells])) :: post.map encG) none, Blk.row vr 3 false ((pre ++ (f.key, xs) :: post).map (fun g => g.1.d))] = [Blk.mapo tt 52 8 ((pre ++ (f.key, xs ++ [f]) :: post).map encG) none, Blk.row vr 3 false ((pre ++ (f.key, xs ++ [f]) :: post).map (fun g => g.1.d))] by rw [h1, h2])
    · have hne : ∀ g ∈ gs, g.1 ≠ f.key := fun g hg he => hex ⟨g, hg, he⟩
      refine ⟨_, _, Wk.lend0 (T := tt) (n := 0) (sz := 8) (kt := 52) (k := f.key.d) (es := gs.map encG) rfl (by rw [eqKey]; simp) (encG_ne hne), ?_⟩
      repeat' ((conv => whnf); first | refine Nam.mk (y := 0) rfl ?_ | with_reducible refine Dec.t (show true = true from rfl) ?_ | with_reducible refine Dec.t (show false = false from rfl) ?_ | with_reducible refine Dec.f (show ¬ (true = false) by decide) ?_ | with_reducible refine Dec.f (show ¬ (false = true) by decide) ?_ | refine Dec.t (by omega) ?_ | refine Dec.f (by omega) ?_ | refine Dec.split (fun _ => ?_) (fun _ => ?_) | refine Wr.id (by omega) ?_ | refine Chk.mk (by first | omega | exact rfl | (simp only [List.length_map]; omega) | (simp [room]; done) | (simp [room]; omega) | (simp [dropL, room]; done) | (simp [dropL, room]; omega)) ?_ | refine Nam.mk (List.length_map _) ?_ | refine Prep.skip ?_ | refine Eith.l ?_ | refine chk_t (x := D.flat _) (by assumption) ?_ | refine br_mk (fun _ => ?_) (fun _ => ?_) | refine nthK_mk (map_get hx) ?_ | refine Chk.mk ⟨rfl, rfl⟩ ?_ | refine Chk.mk ⟨rfl, by simp, by simp [room]; omega⟩ ?_ | fail)
      all_goals (conv => whnf)
      refine ⟨⟨i + 1, vr + 1, gs ++ [(f.key, [f])]⟩, (Wk.wm (Wk.unlend (T := tt) (n := 0) (m := 4) (sz := 8) (kt := 52) (k := f.key.d) (pre := gs.map encG) (post := []) rfl rfl (by simp) rfl)).trans (Wm.end (by refine ⟨?_, ?_, (by repeat (first | exact trivial | refine And.intro rfl ?_ | refine And.intro (congrArg (fun n => V.d (I n)) (wrap_nat _ (by omega))) ?_))⟩; exact congrArg (fun n => V.d (I n)) (by dsimp only; omega); exact congrArg (fun n => V.sref 1 (vr + 1) 0 n false) (by simp)) ?_ rfl rfl), ⟨hlt, by simp; omega, by rw [htk]; exact hinv.new hne⟩, by simp only; omega⟩
      have h1 : gs.map encG ++ (f.key.d, some ([] ++ [D.agg f.d.cells])) :: [] = (gs ++ [(f.key, [f])]).map encG := by simp [encG, show D.agg f.d.cells = f.d from rfl]
      have h2 : dropL (gs.map fun g => g.1.d) 0 ++ [D.agg [I f.kind, I f.subj, I f.obj]] = (gs ++ [(f.key, [f])]).map (fun g => g.1.d) := by simp [dropL, Key.d, Fact.key]
      exact (show [Blk.mapo tt 52 8 (gs.map encG ++ (f.key.d, some ([] ++ [D.agg f.d.cells])) :: []) none, Blk.row (vr + 1) 3 false (dropL (gs.map fun g => g.1.d) 0 ++ [D.agg [I f.kind, I f.subj, I f.obj]])] = [Blk.mapo tt 52 8 ((gs ++ [(f.key, [f])]).map encG) none, Blk.row (vr + 1) 3 false ((gs ++ [(f.key, [f])]).map (fun g => g.1.d))] by rw [h1, h2])
  · have : i = l.length := by omega
    subst this
    rw [List.take_length] at hinv
    refine ⟨_, _, Wk.refl, ?_⟩
    repeat' ((conv => whnf); first | with_reducible refine Dec.t (show true = true from rfl) ?_ | with_reducible refine Dec.t (show false = false from rfl) ?_ | with_reducible refine Dec.f (show ¬ (true = false) by decide) ?_ | with_reducible refine Dec.f (show ¬ (false = true) by decide) ?_ | refine Dec.t (by omega) ?_ | refine Dec.f (by omega) ?_ | refine Dec.split (fun _ => ?_) (fun _ => ?_) | refine Wr.id (by omega) ?_ | refine Chk.mk (by first | omega | exact rfl | (simp only [List.length_map]; omega) | (simp [room]; done) | (simp [room]; omega) | (simp [dropL, room]; done) | (simp [dropL, room]; omega)) ?_ | refine Nam.mk (List.length_map _) ?_ | refine Prep.skip ?_ | refine Eith.l ?_ | refine chk_t (x := D.flat _) (by assumption) ?_ | refine br_mk (fun _ => ?_) (fun _ => ?_) | fail)
    all_goals (conv => whnf)
    obtain ⟨v1, v2, v3⟩ := hinv
    have hmap : gs.map (fun g => g.1.d) = (gs.map Prod.fst).map fun x => D.agg x.cells := by rw [List.map_map]; rfl
    refine ACall.sort Try.sortKey 3 (by decide) (fun w => run_isAgg (tyOf_ok ttok (show tyOf tt 52 = some _ from rfl)) w) (fun w => run_sizeOf' (tyOf_ok ttok (show tyOf tt 52 = some _ from rfl)) w) Key.cells (fun _ => rfl)
        (fun x c hc => by simp only [Key.cells, List.mem_cons, List.not_mem_nil, or_false] at hc; rcases hc with rfl | rfl | rfl <;> rfl) cfKey swoKey facts_Changed1 (enters_of Try.func44 (by kernel_rfl) rfl) (l := gs.map Prod.fst) (congrArg (fun r => some (Blk.row vr 3 false r)) hmap) (by simp) (by simp; omega) (fun l' hp hs => ?_)
    have hnd : l'.Nodup := hp.nodup_iff.2 v1
    have hsort : l'.Pairwise lessK := by
      rw [List.pairwise_iff_getElem]
      intro p q hp1 hq1 hpq
      have h1 := hs p q _ _ hpq (List.getElem?_eq_getElem hp1) (List.getElem?_eq_getElem hq1)
      rw [cfKey_lt] at h1
      rcases lessK_tri l'[p] l'[q] with h | h | h
      · exact h
      · exact absurd ((List.getElem_inj hnd).1 h) (by omega)
      · exact absurd h h1
    have hk' : l' = keysR l := by
      obtain ⟨g1, g2⟩ := keysR_spec l
      refine sorted_unique hsort g1 fun x => ?_
      rw [g2, hp.mem_iff, List.mem_map]
      constructor
      · rintro ⟨g, hg, rfl⟩
        obtain ⟨e1, e2⟩ := v2 g hg
        obtain ⟨f, hf⟩ := List.exists_mem_of_ne_nil _ e2
        rw [e1] at hf
        obtain ⟨h1, h2⟩ := List.mem_filter.1 hf
        exact ⟨f, h1, by simpa using h2⟩
      · rintro ⟨f, hf, rfl⟩
        obtain ⟨g, hg, he⟩ := v3 f hf
        exact ⟨g, hg, he⟩
    subst hk'
    have hlk : gs.length = (keysR l).length := by rw [hp.length_eq]; simp
    have hfind : ∀ k ∈ keysR l, mapFind tt 52 k.d ((gs.map fun g => (g.1.d, g.2.map Fact.d)).map fun p => (p.1, D.sl 8 false p.2)) = some (SL 8 ((l.filter fun f => decide (f.key = k)).map Fact.d)) := fun k hk => by
      obtain ⟨⟨k2, xs⟩, hg, rfl⟩ := List.mem_map.1 (hp.mem_iff.1 hk)
      obtain ⟨e1, _⟩ := v2 _ hg
      rw [List.map_map]
      have := find_enc v1 hg
      simp only at e1 ⊢
      rw [← e1]; exact this
    have hkl := keysR_len l
    unfold changedM
    generalize keysR l = ks at hkl hlk hfind ⊢
    clear hs hp hsort hnd
    repeat' ((conv => whnf); first | with_reducible refine Dec.t (show true = true from rfl) ?_ | with_reducible refine Dec.t (show false = false from rfl) ?_ | with_reducible refine Dec.f (show ¬ (true = false) by decide) ?_ | with_reducible refine Dec.f (show ¬ (false = true) by decide) ?_ | refine Dec.t (by omega) ?_ | refine Dec.f (by omega) ?_ | refine Dec.split (fun _ => ?_) (fun _ => ?_) | refine Wr.id (by omega) ?_ | refine Chk.mk (by first | omega | exact rfl | (simp only [List.length_map]; omega) | (simp [room]; done) | (simp [room]; omega) | (simp [dropL, room]; done) | (simp [dropL, room]; omega)) ?_ | refine Nam.mk (List.length_map _) ?_ | refine Prep.skip ?_ | refine Eith.l ?_ | refine chk_t (x := D.flat _) (by assumption) ?_ | refine br_mk (fun _ => ?_) (fun _ => ?_) | fail)
    all_goals (conv => whnf)
    refine ALoop.weak (Wk.fixed (T := tt) (n := 0) (sz := 8) (kt := 52) (gs.map fun g => (g.1.d, g.2.map Fact.d)) rfl (by rw [List.map_map]; rfl)) ?_
    refine ALoop.virt 6 0 4 false (by decide) rfl ?_
    conv => whnf
    refine ALoop.at (E := envOf Try.prog tt Try.f32.ntmps) (envOf_ok ttok mixed) (X := XC) (fun x => [(50, .d (I x.i)), (6, .sref 2 x.vr 0 x.lr false)]) (fun x => [(2, .row x.vr 4 false x.dp)])
      (fun x => x.i ≤ ks.length ∧ x.dp = ((ks.take x.i).filterMap (difM l b a)).map Dif.d ∧ x.lr = x.dp.length ∧ x.lr ≤ x.i) (fun x => ks.length - x.i) ⟨0, 0, 0, []⟩ (by repeat (first | exact trivial | refine And.intro rfl ?_ | refine And.intro (congrArg (fun n => V.d (I n)) (wrap_nat _ (by omega))) ?_)) rfl ⟨Nat.zero_le _, rfl, rfl, Nat.le_refl _⟩ ?_
    rintro ⟨i, v2, lr, dp⟩ ⟨hi2, g1, g2, g3⟩
    simp only at hi2 g1 g2 g3
    dsimp only
    by_cases hlt2 : i < ks.length
    · obtain ⟨k, hx, _⟩ := drop_get hlt2
      have hF := hfind k (List.mem_of_getElem? hx)
      have hfl : (l.filter fun f => decide (f.key = k)).length < 2 ^ 40 := Nat.lt_of_le_of_lt (List.length_filter_le _ _) (by omega)
      have hvl : ∀ t, valuesM (l.filter fun f => decide (f.key = k)) k 0 1024 t = valuesM l k 0 1024 t := fun t => by unfold valuesM; simp only [atF_filter]
      have cb := facts_values (l.filter fun f => decide (f.key = k)) k 0 1024 b hfl
      have ca := facts_values (l.filter fun f => decide (f.key = k)) k 0 1024 a hfl
      rw [hvl] at ca cb
      have hlen : ∀ t, (valuesM l k 0 1024 t).length = 1024 := fun t => by unfold valuesM; rw [List.length_map, List.length_range]; decide
      have cd := facts_different (valuesM l k 0 1024 b) (valuesM l k 0 1024 a) (by rw [hlen]; decide) (by rw [hlen, hlen]; exact Nat.le_refl _)
      have hruns : runsM (fun i => decide (¬ (valuesM l k 0 1024 b)[i]? = (valuesM l k 0 1024 a)[i]?)) (valuesM l k 0 1024 b).length = runsM (difP l k b a) 1024 := by
        rw [hlen]
        refine runsM_congr fun j hj => ?_
        have hg : ∀ t, (valuesM l k 0 1024 t)[j]? = some (vOf (atF l k (j : Int) t)) := fun t => by
          unfold valuesM
          rw [range_get _ (show j < daysN 0 1024 by rw [show daysN 0 1024 = 1024 by decide]; exact hj), show lo0 0 = 0 by decide]
          simp
        rw [hg, hg]
        unfold difP
        congr 1
        have := vOf_eq (atF l k (j : Int) b) (atF l k (j : Int) a)
        unfold atM
        rw [this]; simp
      rw [hruns] at cd
      have htk : (ks.take (i + 1)).filterMap (difM l b a) = (ks.take i).filterMap (difM l b a) ++ (difM l b a k).toList := by
        rw [List.take_add_one, hx, List.filterMap_append]
        cases hq : difM l b a k <;> simp [hq]
      have hkx : (ks.map fun x => D.agg x.cells)[0 + ((i : Nat) : Int).toNat]? = some k.d := by rw [Nat.zero_add, Int.toNat_natCast, List.getElem?_map, hx]; rfl
      have hdm : difM l b a k = if runsM (difP l k b a) 1024 = [] then none else some ⟨k, runsM (difP l k b a) 1024⟩ := rfl
      generalize runsM (difP l k b a) 1024 = R at cd hdm
      repeat' ((conv => whnf); first | with_reducible refine Dec.t (show true = true from rfl) ?_ | with_reducible refine Dec.t (show false = false from rfl) ?_ | with_reducible refine Dec.f (show ¬ (true = false) by decide) ?_ | with_reducible refine Dec.f (show ¬ (false = true) by decide) ?_ | refine Dec.t (by omega) ?_ | refine Dec.f (by omega) ?_ | refine Dec.split (fun _ => ?_) (fun _ => ?_) | refine Wr.id (by omega) ?_ | refine Chk.mk (by first | omega | exact rfl | (simp only [List.length_map]; omega) | (simp [room]; done) | (simp [room]; omega) | (simp [dropL, room]; done) | (simp [dropL, room]; omega)) ?_ | refine Nam.mk (List.length_map _) ?_ | refine Prep.skip ?_ | refine Eith.l ?_ | refine chk_t (x := D.flat _) (by assumption) ?_ | refine br_mk (fun _ => ?_) (fun _ => ?_) | refine Nam.mk (y := SL 8 ((l.filter fun f => decide (f.key = k)).map Fact.d)) (show (mapFind tt 52 k.d _).getD _ = _ from by rw [hF]; rfl) ?_ | refine nthK_mk hkx ?_ | refine Chk.mk rfl ?_ | refine ACall.of (cb) ?_ | refine APCall.of (cb) ?_ | refine ACall.of (ca) ?_ | refine APCall.of (ca) ?_ | refine ACall.of (cd) ?_ | refine APCall.of (cd) ?_ | refine Nam.mk (List.length_map _) ?_ | fail)
      all_goals (conv => whnf)
      · have hR : R ≠ [] := List.length_pos_iff.1 (by omega)
        rw [if_neg hR] at hdm
        rw [hdm] at htk
        exact ⟨⟨i + 1, v2 + 1, lr + 1, dp ++ [Dif.d ⟨k, R⟩]⟩, Wm.end (by repeat (first | exact trivial | refine And.intro rfl ?_ | refine And.intro (congrArg (fun n => V.d (I n)) (wrap_nat _ (by omega))) ?_)) rfl rfl rfl, ⟨hlt2, by simp only; rw [htk, List.map_append, g1]; rfl, by simp; omega, by simp only; omega⟩, by simp only; omega⟩
      · have hR : R = [] := List.length_eq_zero_iff.1 (by omega)
        rw [if_pos hR] at hdm
        rw [hdm] at htk
        exact ⟨⟨i + 1, v2, lr, dp⟩, Wm.end (by repeat (first | exact trivial | refine And.intro rfl ?_ | refine And.intro (congrArg (fun n => V.d (I n)) (wrap_nat _ (by omega))) ?_)) rfl rfl rfl, ⟨hlt2, by simp only; rw [htk, g1]; simp, g2, by simp only; omega⟩, by simp only; omega⟩
    · have : i = ks.length := by omega
      subst this
      rw [List.take_length] at g1
      repeat' ((conv => whnf); first | with_reducible refine Dec.t (show true = true from rfl) ?_ | with_reducible refine Dec.t (show false = false from rfl) ?_ | with_reducible refine Dec.f (show ¬ (true = false) by decide) ?_ | with_reducible refine Dec.f (show ¬ (false = true) by decide) ?_ | refine Dec.t (by omega) ?_ | refine Dec.f (by omega) ?_ | refine Dec.split (fun _ => ?_) (fun _ => ?_) | refine Wr.id (by omega) ?_ | refine Chk.mk (by first | omega | exact rfl | (simp only [List.length_map]; omega) | (simp [room]; done) | (simp [room]; omega) | (simp [dropL, room]; done) | (simp [dropL, room]; omega)) ?_ | refine Nam.mk (List.length_map _) ?_ | refine Prep.skip ?_ | refine Eith.l ?_ | refine chk_t (x := D.flat _) (by assumption) ?_ | refine br_mk (fun _ => ?_) (fun _ => ?_) | refine Nam.mk ((whole g2).trans g1) ?_ | fail)
      all_goals (conv => whnf)
      exact (by repeat (first | exact trivial | exact rfl | exact DLe.refl _ | exact DLe.full _ _ _ | exact DLe.nil _ _ _ | exact VLe.refl _ | refine And.intro ?_ ?_ | refine VLe.d ?_ | refine DLe.agg ?_))
end Go.PM

