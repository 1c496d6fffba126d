/- Package network: Cut. -/
import Derived.Test.YtoadefidkdmheaaN46f
import Derived.Test.YtoadefidkdmheaaPmSort
import Derived.Test.YtoadefidkdmheaaPmClo
import Derived.Ground.SlsfProg
namespace Go.PM
open Go.Proofs
set_option maxRecDepth 10000
set_option maxHeartbeats 4000000

theorem net_others (l : List Pair) (q : Pair) : CallP Try.prog 39 [.d (SL 2 (l.map Pair.d)), .d q.d] (.fn 49 [.rp [SL 2 (l.map Pair.d)] 0, .rp q.d.cells 0]) := by
  have h : CallP Try.prog 39 [.d (SL 2 (l.map Pair.d)), .d q.d] (.fn 49 (([[SL 2 (l.map Pair.d)], q.d.cells] : List (List D)).map fun cs => .rp cs 0)) := by
    refine exClo_sound (E := envOf Try.prog tt Try.f39.ntmps) (envOf_ok ttok mixed) Try.func39 (by rfl) rfl rfl (Nat.le_of_ble_eq_true rfl) ?_
    repeat' ((conv => whnf); first | with_reducible refine Dec.t (show true = true from rfl) ?_ | with_reducible refine Dec.t (show false = false from rfl) ?_ | with_reducible refine Dec.f (show ¬ (true = false) by decide) ?_ | with_reducible refine Dec.f (show ¬ (false = true) by decide) ?_ | refine Dec.t (by omega) ?_ | refine Dec.f (by omega) ?_ | refine Dec.split (fun _ => ?_) (fun _ => ?_) | refine Wr.id (by omega) ?_ | refine Chk.mk (by first | omega | exact rfl | (simp only [List.length_map]; omega) | (simp [room]; done) | (simp [room]; omega) | (simp [dropL, room]; done) | (simp [dropL, room]; omega)) ?_ | refine Nam.mk (List.length_map _) ?_ | refine Prep.skip ?_ | refine Eith.l ?_ | refine chk_t (x := D.flat _) (by assumption) ?_ | refine br_mk (fun _ => ?_) (fun _ => ?_) | fail)
    all_goals (conv => whnf)
    exact ⟨rfl, ⟨_, rfl, rfl⟩, ⟨_, rfl, rfl⟩, trivial⟩
  exact h
def Try.sortPair_ren : Go.Shelf.Ren := ⟨fun | 6 => 40 | 15 => 51 | 14 => 50 | 28 => 61 | 29 => 62 | 20 => 53 | 21 => 54 | 22 => 55 | 23 => 56 | 24 => 57 | 25 => 58 | 26 => 59 | 27 => 60 | 46 => 63 | 47 => 64 | 48 => 65 | 49 => 66 | 50 => 67 | 57 => 68 | n => n, fun | 22 => 23 | 24 => 55 | 25 => 58 | 3 => 3 | 39 => 42 | 0 => 0 | 53 => 86 | 55 => 88 | 4 => 4 | 46 => 79 | 45 => 78 | 50 => 83 | 5 => 5 | 9 => 9 | 66 => 89 | 70 => 93 | 76 => 95 | 77 => 96 | n => n, fun | n => n⟩
theorem Try.sortPair : Go.Proofs.SlLaysF0.n6 Try.prog Try.sortPair_ren := {
  mixed := by kernel_rfl
  f6 := ⟨Try.f40.name, by decide, Try.func40.trans (congrArg some (by kernel_rfl))⟩
  f14 := ⟨Try.f50.name, by decide, Try.func50.trans (congrArg some (by kernel_rfl))⟩
  f15 := Try.func51.trans (congrArg some (by kernel_rfl))
  f20 := ⟨Try.f53.name, by decide, Try.func53.trans (congrArg some (by kernel_rfl))⟩
  f21 := ⟨Try.f54.name, by decide, Try.func54.trans (congrArg some (by kernel_rfl))⟩
  f22 := ⟨Try.f55.name, by decide, Try.func55.trans (congrArg some (by kernel_rfl))⟩
  f23 := ⟨Try.f56.name, by decide, Try.func56.trans (congrArg some (by kernel_rfl))⟩
  f24 := ⟨Try.f57.name, by decide, Try.func57.trans (congrArg some (by kernel_rfl))⟩
  f25 := ⟨Try.f58.name, by decide, Try.func58.trans (congrArg some (by kernel_rfl))⟩
  f26 := ⟨Try.f59.name, by decide, Try.func59.trans (congrArg some (by kernel_rfl))⟩
  f27 := ⟨Try.f60.name, by decide, Try.func60.trans (congrArg some (by kernel_rfl))⟩
  f28 := Try.func61.trans (congrArg some (by kernel_rfl))
  f29 := Try.func62.trans (congrArg some (by kernel_rfl))
  f46 := ⟨Try.f63.name, by decide, Try.func63.trans (congrArg some (by kernel_rfl))⟩
  f47 := Try.func64.trans (congrArg some (by kernel_rfl))
  f48 := Try.func65.trans (congrArg some (by kernel_rfl))
  f49 := ⟨Try.f66.name, by decide, Try.func66.trans (congrArg some (by kernel_rfl))⟩
  f50 := ⟨Try.f67.name, by decide, Try.func67.trans (congrArg some (by kernel_rfl))⟩
  f57 := ⟨Try.f68.name, by decide, Try.func68.trans (congrArg some (by kernel_rfl))⟩
  t0 := Try.underlying0
  a0 := Try.isAgg0
  z0 := Try.sizeOf0
  v0 := Try.zeroValue0
  t3 := Try.underlying3
  a3 := Try.isAgg3
  z3 := Try.sizeOf3
  v3 := Try.zeroValue3
  t4 := Try.underlying4
  a4 := Try.isAgg4
  z4 := Try.sizeOf4
  v4 := Try.zeroValue4
  t5 := Try.underlying5
  a5 := Try.isAgg5
  z5 := Try.sizeOf5
  v5 := Try.zeroValue5
  t9 := Try.underlying9
  a9 := Try.isAgg9
  z9 := Try.sizeOf9
  v9 := Try.zeroValue9
  t22 := Try.underlying23
  a22 := Try.isAgg23
  z22 := Try.sizeOf23
  v22 := Try.zeroValue23
  t25 := Try.underlying58
  a25 := Try.isAgg58
  z25 := Try.sizeOf58
  v25 := Try.zeroValue58
  t39 := Try.underlying42
  a39 := Try.isAgg42
  z39 := Try.sizeOf42
  v39 := Try.zeroValue42
  t45 := Try.underlying78
  a45 := Try.isAgg78
  z45 := Try.sizeOf78
  v45 := Try.zeroValue78
  t46 := Try.underlying79
  a46 := Try.isAgg79
  z46 := Try.sizeOf79
  v46 := Try.zeroValue79
  t50 := Try.underlying83
  a50 := Try.isAgg83
  z50 := Try.sizeOf83
  v50 := Try.zeroValue83
  t53 := Try.underlying86
  a53 := Try.isAgg86
  z53 := Try.sizeOf86
  v53 := Try.zeroValue86
  t55 := Try.underlying88
  a55 := Try.isAgg88
  z55 := Try.sizeOf88
  v55 := Try.zeroValue88
  t66 := Try.underlying89
  a66 := Try.isAgg89
  z66 := Try.sizeOf89
  v66 := Try.zeroValue89
  t70 := Try.underlying93
  a70 := Try.isAgg93
  z70 := Try.sizeOf93
  v70 := Try.zeroValue93
  t76 := Try.underlying95
  a76 := Try.isAgg95
  z76 := Try.sizeOf95
  v76 := Try.zeroValue95
  t77 := Try.underlying96
  a77 := Try.isAgg96
  z77 := Try.sizeOf96
  v77 := Try.zeroValue96 }

structure XP where
  i : Nat
  vr : Nat
  lr : Nat
  dp : List D
theorem net_Collect (l : List Pair) (q : Pair) (hl : l.length < 2 ^ 20) : CallRow Try.prog 38 [.fn 49 [.rp [SL 2 (l.map Pair.d)] 0, .rp q.d.cells 0]] 2 ((l.filter fun x => decide (x ≠ q)).map Pair.d) := by
  refine exRow_sound (E := envOf Try.prog tt Try.f38.ntmps) (envOf_ok ttok mixed) Try.func38 (by rfl) rfl rfl (Nat.le_of_ble_eq_true rfl) ?_
  repeat' ((conv => whnf); first | with_reducible refine Dec.t (show true = true from rfl) ?_ | with_reducible refine Dec.t (show false = false from rfl) ?_ | with_reducible refine Dec.f (show ¬ (true = false) by decide) ?_ | with_reducible refine Dec.f (show ¬ (false = true) by decide) ?_ | refine Dec.t (by omega) ?_ | refine Dec.f (by omega) ?_ | refine Dec.split (fun _ => ?_) (fun _ => ?_) | refine Wr.id (by omega) ?_ | refine Chk.mk (by first | omega | exact rfl | (simp only [List.length_map]; omega) | (simp [room]; done) | (simp [room]; omega) | (simp [dropL, room]; done) | (simp [dropL, room]; omega)) ?_ | refine Nam.mk (List.length_map _) ?_ | refine Prep.skip ?_ | refine Eith.l ?_ | refine chk_t (x := D.flat _) (by assumption) ?_ | refine br_mk (fun _ => ?_) (fun _ => ?_) | refine ACall.body (E := envOf Try.prog tt Try.f48.ntmps) (envOf_ok ttok mixed) Try.func48 (by rfl) rfl (Nat.le_of_ble_eq_true rfl) ?_ | refine ARange.body (E := envOf Try.prog tt Try.f48.ntmps) (envOf_ok ttok mixed) ttok mixed (by rfl) Try.func49 (by rfl) (Nat.le_of_ble_eq_true rfl) ?_ | fail)
  all_goals (conv => whnf)
  refine ALoop.virtC 0 0 0 2 false (by decide) rfl rfl ?_
  conv => whnf
  refine ALoop.at (E := envY Try.prog tt Try.f49.ntmps (yldIn (envOf Try.prog tt Try.f48.ntmps) 1)) (envY_ok (yldIn_ok (envOf_ok ttok mixed) 1) ttok mixed) (X := XP) (fun x => [(8, .d (I x.i))]) (fun x => [(0, .var [.sref 2 x.vr 0 x.lr false]), (2, .row x.vr 2 false x.dp)])
    (fun x => x.i ≤ l.length ∧ x.dp = ((l.take x.i).filter fun x => decide (x ≠ q)).map Pair.d ∧ x.lr = x.dp.length) (fun x => l.length - x.i) ⟨0, 0, 0, []⟩ (by repeat (first | exact trivial | refine And.intro rfl ?_ | refine And.intro (congrArg (fun n => V.d (I n)) (wrap_nat _ (by omega))) ?_)) rfl ⟨Nat.zero_le _, rfl, rfl⟩ ?_
  rintro ⟨i, vr, lr, dp⟩ ⟨hi, g1, g2⟩
  simp only at hi g1 g2
  dsimp only
  have hdl : dp.length ≤ i := by rw [g1, List.length_map]; exact Nat.le_trans (List.length_filter_le _ _) (by simp; omega)
  by_cases hlt : i < l.length
  · obtain ⟨x, hx, _⟩ := drop_get hlt
    have hs : (l.take (i + 1)).filter (fun x => decide (x ≠ q)) = (l.take i).filter (fun x => decide (x ≠ q)) ++ [x].filter (fun x => decide (x ≠ q)) := by rw [List.take_add_one, hx, List.filter_append]; rfl
    repeat' ((conv => whnf); first | with_reducible refine Dec.t (show true = true from rfl) ?_ | with_reducible refine Dec.t (show false = false from rfl) ?_ | with_reducible refine Dec.f (show ¬ (true = false) by decide) ?_ | with_reducible refine Dec.f (show ¬ (false = true) by decide) ?_ | refine Dec.t (by omega) ?_ | refine Dec.f (by omega) ?_ | refine Dec.split (fun _ => ?_) (fun _ => ?_) | refine Wr.id (by omega) ?_ | refine Chk.mk (by first | omega | exact rfl | (simp only [List.length_map]; omega) | (simp [room]; done) | (simp [room]; omega) | (simp [dropL, room]; done) | (simp [dropL, room]; omega)) ?_ | refine Nam.mk (List.length_map _) ?_ | refine Prep.skip ?_ | refine Eith.l ?_ | refine chk_t (x := D.flat _) (by assumption) ?_ | refine br_mk (fun _ => ?_) (fun _ => ?_) | refine nthK_mk (map_get hx) ?_ | refine Nam.dec (eqPair x q) (fun _ => ?_) (fun _ => ?_) | fail)
    all_goals (conv => whnf)
    · rename_i h
      rw [show [x].filter (fun x => decide (x ≠ q)) = [] by simp [h], List.append_nil] at hs
      exact ⟨⟨i + 1, vr, lr, dp⟩, Wm.end (by repeat (first | exact trivial | refine And.intro rfl ?_ | refine And.intro (congrArg (fun n => V.d (I n)) (wrap_nat _ (by omega))) ?_)) rfl rfl rfl, ⟨hlt, by simp only; rw [hs]; exact g1, g2⟩, by simp only; omega⟩
    · rename_i h
      rw [show [x].filter (fun x => decide (x ≠ q)) = [x] by simp [h]] at hs
      exact ⟨⟨i + 1, vr + 1, lr + 1, dp ++ [x.d]⟩, Wm.end (by repeat (first | exact trivial | refine And.intro rfl ?_ | refine And.intro (congrArg (fun n => V.d (I n)) (wrap_nat _ (by omega))) ?_)) rfl rfl rfl, ⟨hlt, by simp only; rw [hs, List.map_append, ← g1]; rfl, by simp only; rw [List.length_append, ← g2]; rfl⟩, by simp only; omega⟩
  · have : i = l.length := by omega
    subst this
    rw [List.take_length] at g1
    repeat' ((conv => whnf); first | with_reducible refine Dec.t (show true = true from rfl) ?_ | with_reducible refine Dec.t (show false = false from rfl) ?_ | with_reducible refine Dec.f (show ¬ (true = false) by decide) ?_ | with_reducible refine Dec.f (show ¬ (false = true) by decide) ?_ | refine Dec.t (by omega) ?_ | refine Dec.f (by omega) ?_ | refine Dec.split (fun _ => ?_) (fun _ => ?_) | refine Wr.id (by omega) ?_ | refine Chk.mk (by first | omega | exact rfl | (simp only [List.length_map]; omega) | (simp [room]; done) | (simp [room]; omega) | (simp [dropL, room]; done) | (simp [dropL, room]; omega)) ?_ | refine Nam.mk (List.length_map _) ?_ | refine Prep.skip ?_ | refine Eith.l ?_ | refine chk_t (x := D.flat _) (by assumption) ?_ | refine br_mk (fun _ => ?_) (fun _ => ?_) | refine Nam.mk ((whole g2).trans g1) ?_ | fail)
    all_goals (conv => whnf)
theorem swoPair : Go.Sort.SWO (ltOf cfPair) where
  irrefl x := by unfold ltOf; rw [decide_eq_false]; rw [cf_less]; unfold lessP; omega
  trans x y z h1 h2 := by
    unfold ltOf at *
    simp only [decide_eq_true_eq, cf_less] at *
    unfold lessP at *
    omega
  ntrans x y z h1 h2 := by
    unfold ltOf at *
    simp only [decide_eq_false_iff_not, cf_less] at *
    unfold lessP at *
    omega
def Pair.cells (q : Pair) : List D := [I q.a, I q.b]
instance : Inhabited Pair := ⟨⟨0, 0⟩⟩
theorem lessP_irr (a : Pair) : ¬ lessP a a := by unfold lessP; omega
theorem lessP_trans {a b c : Pair} (h1 : lessP a b) (h2 : lessP b c) : lessP a c := by unfold lessP at *; omega
theorem lessP_tri (a b : Pair) : lessP a b ∨ a = b ∨ lessP b a := by
  cases a; cases b
  simp only [lessP, Pair.mk.injEq]
  omega
theorem pairs_unique : ∀ {a b : List Pair}, a.Pairwise lessP → b.Pairwise lessP → (∀ x, x ∈ a ↔ x ∈ b) → a = b
  | [], [], _, _, _ => rfl
  | [], y :: b, _, _, h => absurd ((h y).2 (.head _)) (by simp)
  | x :: a, [], _, _, h => absurd ((h x).1 (.head _)) (by simp)
  | x :: a, y :: b, h1, h2, h => by
    obtain ⟨a1, a2⟩ := List.pairwise_cons.1 h1
    obtain ⟨b1, b2⟩ := List.pairwise_cons.1 h2
    have hxy : x = y := by
      rcases List.mem_cons.1 ((h x).1 (.head _)) with e | e
      · exact e
      · rcases List.mem_cons.1 ((h y).2 (.head _)) with e2 | e2
        · exact e2.symm
        · exact absurd (lessP_trans (a1 y e2) (b1 x e)) (lessP_irr x)
    subst hxy
    congr 1
    refine pairs_unique a2 b2 fun z => ?_
    constructor
    · intro hz
      rcases List.mem_cons.1 ((h z).1 (.tail _ hz)) with e | e
      · subst e; exact absurd (a1 z hz) (lessP_irr z)
      · exact e
    · intro hz
      rcases List.mem_cons.1 ((h z).2 (.tail _ hz)) with e | e
      · subst e; exact absurd (b1 z hz) (lessP_irr z)
      · exact e
theorem chain_pair : ∀ l : List Pair, chainP l → l.Pairwise lessP
  | [], _ => List.Pairwise.nil
  | [a], _ => List.pairwise_singleton _ _
  | a :: b :: r, h => by
    have ih := chain_pair (b :: r) h.2
    rw [List.pairwise_cons]
    refine ⟨fun x hx => ?_, ih⟩
    rcases List.mem_cons.1 hx with rfl | hx
    · exact h.1
    · exact lessP_trans h.1 ((List.pairwise_cons.1 ih).1 x hx)
theorem pair_chain : ∀ l : List Pair, l.Pairwise lessP → chainP l
  | [], _ => trivial
  | [a], _ => trivial
  | a :: b :: r, h => by
    obtain ⟨h1, h2⟩ := List.pairwise_cons.1 h
    exact ⟨h1 b (.head _), pair_chain (b :: r) h2⟩
/-- All pairs of two parties, the lesser one first, in order. -/
def rowP (x : Nat) : List Pair := (List.range 16).filterMap fun y => if x < y then some ⟨(x : Int), (y : Int)⟩ else none
def allP : List Pair := (List.range 16).flatMap rowP
theorem allP_sorted : allP.Pairwise lessP := by decide +kernel
theorem allP_mem (q : Pair) : q ∈ allP ↔ q.ok := by
  unfold allP rowP Pair.ok site
  simp only [List.mem_flatMap, List.mem_filterMap, List.mem_range]
  constructor
  · rintro ⟨x, hx, y, hy, h⟩
    split at h
    · cases h; simp only; omega
    · cases h
  · rintro ⟨h1, h2, h3⟩
    refine ⟨q.a.toNat, by omega, q.b.toNat, by omega, ?_⟩
    rw [if_pos (by omega)]
    cases q
    simp only [Option.some.injEq, Pair.mk.injEq] at *
    omega
/-- The links that are cut afterwards. -/
def targ (l : List Pair) (q : Pair) (on : Bool) : List Pair := allP.filter fun x => if x = q then on else decide (x ∈ l)
theorem targ_mem (l : List Pair) (q : Pair) (on : Bool) (x : Pair) : x ∈ targ l q on ↔ x.ok ∧ if x = q then on = true else x ∈ l := by
  unfold targ
  rw [List.mem_filter, allP_mem]
  by_cases h : x = q
  · simp [h]
  · simp [h]
theorem targ_sorted (l : List Pair) (q : Pair) (on : Bool) : (targ l q on).Pairwise lessP := List.Pairwise.sublist List.filter_sublist allP_sorted
theorem link_ok {a b : Int} (ha : site a) (hb : site b) (hab : ¬ a = b) : (linkM a b).ok := by
  unfold linkM Pair.ok site at *
  simp only
  split <;> split <;> omega
theorem cut_off {n : Net} (hn : n.ok) (q : Pair) : n.apart.filter (fun x => decide (x ≠ q)) = targ n.apart q false := by
  refine pairs_unique (List.Pairwise.sublist List.filter_sublist (chain_pair _ hn.ch)) (targ_sorted _ _ _) fun x => ?_
  rw [targ_mem, List.mem_filter]
  simp only [ne_eq, decide_eq_true_eq]
  constructor
  · rintro ⟨h1, h2⟩
    exact ⟨hn.pr x h1, by rw [if_neg h2]; exact h1⟩
  · rintro ⟨_, h2⟩
    by_cases h : x = q
    · rw [if_pos h] at h2; cases h2
    · rw [if_neg h] at h2; exact ⟨h2, h⟩
theorem cut_on {n : Net} (hn : n.ok) {q : Pair} (hq : q.ok) {l' : List Pair} (hp : l'.Perm (n.apart.filter (fun x => decide (x ≠ q)) ++ [q])) (hs : ∀ (i j : Nat) (x y : Pair), i < j → l'[i]? = some x → l'[j]? = some y → ¬ cfPair y x < 0) : l' = targ n.apart q true := by
  have h0 : (n.apart.filter (fun x => decide (x ≠ q))).Pairwise lessP := List.Pairwise.sublist List.filter_sublist (chain_pair _ hn.ch)
  have hnd : l'.Nodup := by
    rw [hp.nodup_iff, List.nodup_append]
    refine ⟨h0.imp (fun h e => by subst e; exact lessP_irr _ h), by simp, fun x hx y hy e => ?_⟩
    rw [List.mem_singleton] at hy
    subst hy; subst e
    have := (List.mem_filter.1 hx).2
    simp at this
  have hsort : l'.Pairwise lessP := by
    rw [List.pairwise_iff_getElem]
    intro i j hi hj hij
    have h1 := hs i j _ _ hij (List.getElem?_eq_getElem hi) (List.getElem?_eq_getElem hj)
    rw [cf_less] at h1
    rcases lessP_tri l'[i] l'[j] with h | h | h
    · exact h
    · exact absurd ((List.getElem_inj hnd).1 h) (by omega)
    · exact absurd h h1
  refine pairs_unique hsort (targ_sorted _ _ _) fun x => ?_
  rw [targ_mem, hp.mem_iff, List.mem_append, List.mem_filter, List.mem_singleton]
  simp only [ne_eq, decide_eq_true_eq]
  constructor
  · rintro (⟨h1, h2⟩ | rfl)
    · exact ⟨hn.pr x h1, by rw [if_neg h2]; exact h1⟩
    · exact ⟨hq, by simp⟩
  · rintro ⟨_, h2⟩
    by_cases h : x = q
    · exact .inr h
    · rw [if_neg h] at h2; exact .inl ⟨h2, h⟩
def cutM (n : Net) (a b : Int) (on : Bool) : Net × Int :=
  if n.ok then (if site a ∧ site b ∧ ¬ a = b then (⟨n.queue, targ n.apart (linkM a b) on⟩, 0) else (Net.zero, 1)) else (Net.zero, 460)
theorem net_Cut (n : Net) (a b : Int) (on : Bool) (hw : Wid n) (hl : n.apart.length ≤ 1000) : CallP Try.prog 20 [.d n.d, .d (I a), .d (I b), .d (.b on)] (retD [(cutM n a b on).1.d, I (cutM n a b on).2]) := by
  have hC := net_Check n hw
  unfold cutM
  by_cases hn : n.ok
  · rw [check_ok hn] at hC
    rw [if_pos hn]
    by_cases hs : site a ∧ site b ∧ ¬ a = b
    · rw [if_pos hs]
      obtain ⟨ha, hb, hab⟩ := hs
      have hfl : (n.apart.filter (fun x => decide (x ≠ linkM a b))).length ≤ 1000 := Nat.le_trans (List.length_filter_le _ _) hl
      refine exPure_sound (E := envOf Try.prog tt Try.f20.ntmps) (envOf_ok ttok mixed) Try.func20 (by rfl) rfl rfl (Nat.le_of_ble_eq_true rfl) ?_
      cases on with
      | false =>
        have ht := cut_off hn (linkM a b)
        repeat' ((conv => whnf); first | with_reducible refine Dec.t (show true = true from rfl) ?_ | with_reducible refine Dec.t (show false = false from rfl) ?_ | with_reducible refine Dec.f (show ¬ (true = false) by decide) ?_ | with_reducible refine Dec.f (show ¬ (false = true) by decide) ?_ | refine Dec.t (by omega) ?_ | refine Dec.f (by omega) ?_ | refine Dec.split (fun _ => ?_) (fun _ => ?_) | refine Wr.id (by omega) ?_ | refine Chk.mk (by first | omega | exact rfl | (simp only [List.length_map]; omega) | (simp [room]; done) | (simp [room]; omega) | (simp [dropL, room]; done) | (simp [dropL, room]; omega)) ?_ | refine Nam.mk (List.length_map _) ?_ | refine Prep.skip ?_ | refine Eith.l ?_ | refine chk_t (x := D.flat _) (by assumption) ?_ | refine br_mk (fun _ => ?_) (fun _ => ?_) | refine ACall.of (hC) ?_ | refine APCall.of (hC) ?_ | refine ACall.ofB (net_party a) (fun _ => ?_) (fun h => absurd ha (of_decide_eq_false h)) | refine ACall.ofB (net_party b) (fun _ => ?_) (fun h => absurd hb (of_decide_eq_false h)) | refine ACall.of (net_link a b) ?_ | refine APCall.of (net_link a b) ?_ | refine ACall.of (net_others n.apart (linkM a b)) ?_ | refine APCall.of (net_others n.apart (linkM a b)) ?_ | refine APCall.ofRow (net_Collect n.apart (linkM a b) (by omega)) ?_ | refine ACall.ofRow (net_Collect n.apart (linkM a b) (by omega)) ?_ | refine Nam.mk (y := (targ n.apart (linkM a b) false).map Pair.d) (by rw [← ht, List.drop_zero, List.take_length]) ?_ | fail)
        all_goals (conv => whnf)
        exact ⟨DLe.refl _, DLe.refl _, rfl⟩
      | true =>
        have hmap : ((n.apart.filter (fun x => decide (x ≠ linkM a b))).map Pair.d ++ [(linkM a b).d]) = ((n.apart.filter (fun x => decide (x ≠ linkM a b))) ++ [linkM a b]).map fun x => D.agg x.cells := by rw [List.map_append]; rfl
        repeat' ((conv => whnf); first | with_reducible refine Dec.t (show true = true from rfl) ?_ | with_reducible refine Dec.t (show false = false from rfl) ?_ | with_reducible refine Dec.f (show ¬ (true = false) by decide) ?_ | with_reducible refine Dec.f (show ¬ (false = true) by decide) ?_ | refine Dec.t (by omega) ?_ | refine Dec.f (by omega) ?_ | refine Dec.split (fun _ => ?_) (fun _ => ?_) | refine Wr.id (by omega) ?_ | refine Chk.mk (by first | omega | exact rfl | (simp only [List.length_map]; omega) | (simp [room]; done) | (simp [room]; omega) | (simp [dropL, room]; done) | (simp [dropL, room]; omega)) ?_ | refine Nam.mk (List.length_map _) ?_ | refine Prep.skip ?_ | refine Eith.l ?_ | refine chk_t (x := D.flat _) (by assumption) ?_ | refine br_mk (fun _ => ?_) (fun _ => ?_) | refine ACall.of (hC) ?_ | refine APCall.of (hC) ?_ | refine ACall.ofB (net_party a) (fun _ => ?_) (fun h => absurd ha (of_decide_eq_false h)) | refine ACall.ofB (net_party b) (fun _ => ?_) (fun h => absurd hb (of_decide_eq_false h)) | refine ACall.of (net_link a b) ?_ | refine APCall.of (net_link a b) ?_ | refine ACall.of (net_others n.apart (linkM a b)) ?_ | refine APCall.of (net_others n.apart (linkM a b)) ?_ | refine APCall.ofRow (net_Collect n.apart (linkM a b) (by omega)) ?_ | refine ACall.ofRow (net_Collect n.apart (linkM a b) (by omega)) ?_ | refine Chk.mk ⟨rfl, by simp only [List.length_map, Nat.zero_add], by simp only [List.length_map, List.length_singleton, room]; omega⟩ ?_ | fail)
        all_goals (conv => whnf)
        refine ACall.sort Try.sortPair 2 (by decide) (fun w => run_isAgg (tyOf_ok ttok (show tyOf tt 55 = some _ from rfl)) w) (fun w => run_sizeOf' (tyOf_ok ttok (show tyOf tt 55 = some _ from rfl)) w) Pair.cells (fun _ => rfl)
          (fun x c hc => by simp only [Pair.cells, List.mem_cons, List.not_mem_nil, or_false] at hc; rcases hc with rfl | rfl <;> rfl) cfPair swoPair net_compare (enters_of Try.func32 (by kernel_rfl) rfl) (l := n.apart.filter (fun x => decide (x ≠ linkM a b)) ++ [linkM a b]) (congrArg (fun r => some (Blk.row _ 2 false r)) hmap) (by simp) (by simp only [List.length_append, List.length_singleton]; omega) (fun l' hp hs => ?_)
        have ht := cut_on hn (link_ok ha hb hab) hp hs
        have hlen : l'.length = (n.apart.filter (fun x => decide (x ≠ linkM a b))).length + 1 := by rw [hp.length_eq]; simp
        repeat' ((conv => whnf); first | with_reducible refine Dec.t (show true = true from rfl) ?_ | with_reducible refine Dec.t (show false = false from rfl) ?_ | with_reducible refine Dec.f (show ¬ (true = false) by decide) ?_ | with_reducible refine Dec.f (show ¬ (false = true) by decide) ?_ | refine Dec.t (by omega) ?_ | refine Dec.f (by omega) ?_ | refine Dec.split (fun _ => ?_) (fun _ => ?_) | refine Wr.id (by omega) ?_ | refine Chk.mk (by first | omega | exact rfl | (simp only [List.length_map]; omega) | (simp [room]; done) | (simp [room]; omega) | (simp [dropL, room]; done) | (simp [dropL, room]; omega)) ?_ | refine Nam.mk (List.length_map _) ?_ | refine Prep.skip ?_ | refine Eith.l ?_ | refine chk_t (x := D.flat _) (by assumption) ?_ | refine br_mk (fun _ => ?_) (fun _ => ?_) | refine Chk.mk ⟨rfl, by simp only [List.length_map, List.length_singleton]; omega⟩ ?_ | refine Nam.mk (y := (targ n.apart (linkM a b) true).map Pair.d) (by rw [← ht, List.drop_zero]; exact List.take_of_length_le (by simp only [List.length_map, List.length_singleton]; omega)) ?_ | fail)
        all_goals (conv => whnf)
        exact ⟨DLe.refl _, DLe.refl _, rfl⟩
    · rw [if_neg hs]
      refine exPure_sound (E := envOf Try.prog tt Try.f20.ntmps) (envOf_ok ttok mixed) Try.func20 (by rfl) rfl rfl (Nat.le_of_ble_eq_true rfl) ?_
      repeat' ((conv => whnf); first | with_reducible refine Dec.t (show true = true from rfl) ?_ | with_reducible refine Dec.t (show false = false from rfl) ?_ | with_reducible refine Dec.f (show ¬ (true = false) by decide) ?_ | with_reducible refine Dec.f (show ¬ (false = true) by decide) ?_ | refine Dec.t (by omega) ?_ | refine Dec.f (by omega) ?_ | refine Dec.split (fun _ => ?_) (fun _ => ?_) | refine Wr.id (by omega) ?_ | refine Chk.mk (by first | omega | exact rfl | (simp only [List.length_map]; omega) | (simp [room]; done) | (simp [room]; omega) | (simp [dropL, room]; done) | (simp [dropL, room]; omega)) ?_ | refine Nam.mk (List.length_map _) ?_ | refine Prep.skip ?_ | refine Eith.l ?_ | refine chk_t (x := D.flat _) (by assumption) ?_ | refine br_mk (fun _ => ?_) (fun _ => ?_) | refine ACall.of (hC) ?_ | refine APCall.of (hC) ?_ | refine ACall.ofB (net_party _) (fun _ => ?_) (fun _ => ?_) | refine APCall.ofB (net_party _) (fun _ => ?_) (fun _ => ?_) | fail)
      all_goals try simp only [decide_eq_true_eq, decide_eq_false_iff_not] at *
      all_goals first | (exfalso; exact hs ⟨by assumption, by assumption, by assumption⟩) | skip
      all_goals (conv => whnf)
      all_goals first | exact ⟨net0, DLe.refl _, rfl⟩ | trace_state
  · rw [check_bad hn] at hC
    rw [if_neg hn]
    refine exPure_sound (E := envOf Try.prog tt Try.f20.ntmps) (envOf_ok ttok mixed) Try.func20 (by rfl) rfl rfl (Nat.le_of_ble_eq_true rfl) ?_
    repeat' ((conv => whnf); first | with_reducible refine Dec.t (show true = true from rfl) ?_ | with_reducible refine Dec.t (show false = false from rfl) ?_ | with_reducible refine Dec.f (show ¬ (true = false) by decide) ?_ | with_reducible refine Dec.f (show ¬ (false = true) by decide) ?_ | refine Dec.t (by omega) ?_ | refine Dec.f (by omega) ?_ | refine Dec.split (fun _ => ?_) (fun _ => ?_) | refine Wr.id (by omega) ?_ | refine Chk.mk (by first | omega | exact rfl | (simp only [List.length_map]; omega) | (simp [room]; done) | (simp [room]; omega) | (simp [dropL, room]; done) | (simp [dropL, room]; omega)) ?_ | refine Nam.mk (List.length_map _) ?_ | refine Prep.skip ?_ | refine Eith.l ?_ | refine chk_t (x := D.flat _) (by assumption) ?_ | refine br_mk (fun _ => ?_) (fun _ => ?_) | refine ACall.of (hC) ?_ | refine APCall.of (hC) ?_ | fail)
    all_goals (conv => whnf)
    all_goals first | exact ⟨net0, DLe.refl _, rfl⟩ | trace_state
end Go.PM

