/- Branches: conflicts. -/
import Derived.Test.YtbgdpjhgdboigaaB54j
import Derived.Test.YtbgdpjhgdboigaaPmSort
import Derived.Ground.SlsfProg
namespace Go.Proofs
open Go.Shelf
def Try.sortKey_ren : Go.Shelf.Ren := ⟨fun | 6 => 78 | 15 => 85 | 14 => 84 | 28 => 94 | 29 => 95 | 20 => 86 | 21 => 87 | 22 => 88 | 23 => 89 | 24 => 90 | 25 => 91 | 26 => 92 | 27 => 93 | 46 => 96 | 47 => 97 | 48 => 98 | 49 => 99 | 50 => 100 | 57 => 101 | n => n, fun | 22 => 48 | 24 => 38 | 25 => 101 | 3 => 3 | 39 => 120 | 0 => 0 | 53 => 129 | 55 => 131 | 4 => 4 | 46 => 123 | 45 => 122 | 50 => 71 | 5 => 5 | 9 => 9 | 66 => 132 | 70 => 136 | 76 => 138 | 77 => 139 | n => n, fun | n => n⟩
theorem Try.sortKey : Go.Proofs.SlLaysF0.n6 Try.prog Try.sortKey_ren := {
  mixed := by kernel_rfl
  f6 := ⟨Try.f78.name, by decide, Try.func78.trans (congrArg some (by kernel_rfl))⟩
  f14 := ⟨Try.f84.name, by decide, Try.func84.trans (congrArg some (by kernel_rfl))⟩
  f15 := Try.func85.trans (congrArg some (by kernel_rfl))
  f20 := ⟨Try.f86.name, by decide, Try.func86.trans (congrArg some (by kernel_rfl))⟩
  f21 := ⟨Try.f87.name, by decide, Try.func87.trans (congrArg some (by kernel_rfl))⟩
  f22 := ⟨Try.f88.name, by decide, Try.func88.trans (congrArg some (by kernel_rfl))⟩
  f23 := ⟨Try.f89.name, by decide, Try.func89.trans (congrArg some (by kernel_rfl))⟩
  f24 := ⟨Try.f90.name, by decide, Try.func90.trans (congrArg some (by kernel_rfl))⟩
  f25 := ⟨Try.f91.name, by decide, Try.func91.trans (congrArg some (by kernel_rfl))⟩
  f26 := ⟨Try.f92.name, by decide, Try.func92.trans (congrArg some (by kernel_rfl))⟩
  f27 := ⟨Try.f93.name, by decide, Try.func93.trans (congrArg some (by kernel_rfl))⟩
  f28 := Try.func94.trans (congrArg some (by kernel_rfl))
  f29 := Try.func95.trans (congrArg some (by kernel_rfl))
  f46 := ⟨Try.f96.name, by decide, Try.func96.trans (congrArg some (by kernel_rfl))⟩
  f47 := Try.func97.trans (congrArg some (by kernel_rfl))
  f48 := Try.func98.trans (congrArg some (by kernel_rfl))
  f49 := ⟨Try.f99.name, by decide, Try.func99.trans (congrArg some (by kernel_rfl))⟩
  f50 := ⟨Try.f100.name, by decide, Try.func100.trans (congrArg some (by kernel_rfl))⟩
  f57 := ⟨Try.f101.name, by decide, Try.func101.trans (congrArg some (by kernel_rfl))⟩
  t0 := Try.underlying0
  a0 := Try.isAgg0
  z0 := Try.sizeOf0
  v0 := Try.zeroValue0
  t3 := Try.underlying3
  a3 := Try.isAgg3
  z3 := Try.sizeOf3
  v3 := Try.zeroValue3
  t4 := Try.underlying4
  a4 := Try.isAgg4
  z4 := Try.sizeOf4
  v4 := Try.zeroValue4
  t5 := Try.underlying5
  a5 := Try.isAgg5
  z5 := Try.sizeOf5
  v5 := Try.zeroValue5
  t9 := Try.underlying9
  a9 := Try.isAgg9
  z9 := Try.sizeOf9
  v9 := Try.zeroValue9
  t22 := Try.underlying48
  a22 := Try.isAgg48
  z22 := Try.sizeOf48
  v22 := Try.zeroValue48
  t25 := Try.underlying101
  a25 := Try.isAgg101
  z25 := Try.sizeOf101
  v25 := Try.zeroValue101
  t39 := Try.underlying120
  a39 := Try.isAgg120
  z39 := Try.sizeOf120
  v39 := Try.zeroValue120
  t45 := Try.underlying122
  a45 := Try.isAgg122
  z45 := Try.sizeOf122
  v45 := Try.zeroValue122
  t46 := Try.underlying123
  a46 := Try.isAgg123
  z46 := Try.sizeOf123
  v46 := Try.zeroValue123
  t50 := Try.underlying71
  a50 := Try.isAgg71
  z50 := Try.sizeOf71
  v50 := Try.zeroValue71
  t53 := Try.underlying129
  a53 := Try.isAgg129
  z53 := Try.sizeOf129
  v53 := Try.zeroValue129
  t55 := Try.underlying131
  a55 := Try.isAgg131
  z55 := Try.sizeOf131
  v55 := Try.zeroValue131
  t66 := Try.underlying132
  a66 := Try.isAgg132
  z66 := Try.sizeOf132
  v66 := Try.zeroValue132
  t70 := Try.underlying136
  a70 := Try.isAgg136
  z70 := Try.sizeOf136
  v70 := Try.zeroValue136
  t76 := Try.underlying138
  a76 := Try.isAgg138
  z76 := Try.sizeOf138
  v76 := Try.zeroValue138
  t77 := Try.underlying139
  a77 := Try.isAgg139
  z77 := Try.sizeOf139
  v77 := Try.zeroValue139 }

end Go.Proofs
namespace Go.PM
open Go.Proofs
set_option maxRecDepth 10000
set_option maxHeartbeats 8000000

def cfKey (a b : Key) : Int := orL [cmpI a.kind b.kind, cmpI a.subj b.subj, cmpI a.obj b.obj]
theorem cfKey_lt (a b : Key) : cfKey a b < 0 ↔ lessK a b := by
  unfold cfKey lessK
  simp only [orL, cmpI]
  repeat' split
  all_goals omega
theorem swoKey : Go.Sort.SWO (ltOf cfKey) where
  irrefl x := by unfold ltOf; rw [decide_eq_false]; rw [cfKey_lt]; unfold lessK; omega
  trans x y z h1 h2 := by
    unfold ltOf at *
    simp only [decide_eq_true_eq, cfKey_lt] at *
    unfold lessK at *
    omega
  ntrans x y z h1 h2 := by
    unfold ltOf at *
    simp only [decide_eq_false_iff_not, cfKey_lt] at *
    unfold lessK at *
    omega
def Key.cells (l : Key) : List D := [I l.kind, I l.subj, I l.obj]
instance : Inhabited Key := ⟨⟨0, 0, 0⟩⟩
theorem branches_compare (a b : Key) : CallP Try.prog 69 [.d (.agg a.cells), .d (.agg b.cells)] (retD [I (cfKey a b)]) := by
  refine exPure_sound (E := envOf Try.prog tt Try.f69.ntmps) (envOf_ok ttok mixed) Try.func69 (by rfl) rfl rfl (Nat.le_of_ble_eq_true rfl) ?_
  repeat' ((conv => whnf); first | with_reducible refine Dec.t (show true = true from rfl) ?_ | with_reducible refine Dec.t (show false = false from rfl) ?_ | with_reducible refine Dec.f (show ¬ (true = false) by decide) ?_ | with_reducible refine Dec.f (show ¬ (false = true) by decide) ?_ | refine Dec.t (by omega) ?_ | refine Dec.f (by omega) ?_ | refine Dec.split (fun _ => ?_) (fun _ => ?_) | refine Wr.id (by omega) ?_ | refine Chk.mk (by first | omega | exact rfl | (simp only [List.length_map]; omega) | (simp [room]; done) | (simp [room]; omega) | (simp [dropL, room]; done) | (simp [dropL, room]; omega)) ?_ | refine Nam.mk (List.length_map _) ?_ | refine Prep.skip ?_ | refine Eith.l ?_ | refine chk_t (x := D.flat _) (by assumption) ?_ | refine br_mk (fun _ => ?_) (fun _ => ?_) | refine APCall.of (cmp_Compare _ _) ?_ | refine APCall.le (by repeat (first | exact trivial | exact rfl | exact DLe.refl _ | exact DLe.full _ _ _ | exact DLe.nil _ _ _ | exact VLe.refl _ | refine And.intro ?_ ?_ | refine VLe.d ?_ | refine DLe.agg ?_)) (cmp_Or [_, _, _] (by simp)) ?_ | refine ACall.of (cmp_Compare _ _) ?_ | refine ACall.le (by repeat (first | exact trivial | exact rfl | exact DLe.refl _ | exact DLe.full _ _ _ | exact DLe.nil _ _ _ | exact VLe.refl _ | refine And.intro ?_ ?_ | refine VLe.d ?_ | refine DLe.agg ?_)) (cmp_Or [_, _, _] (by simp)) ?_ | fail)
  conv => whnf
  exact DLe.refl _

theorem lessK_irr (a : Key) : ¬ lessK a a := by unfold lessK; omega
theorem lessK_trans {a b c : Key} (h1 : lessK a b) (h2 : lessK b c) : lessK a c := by unfold lessK at *; omega
theorem lessK_tri (a b : Key) : lessK a b ∨ a = b ∨ lessK b a := by
  cases a; cases b
  simp only [lessK, Key.mk.injEq]
  omega
/-- The reference's keys are sorted, and those of the facts. -/
theorem insK_spec (k : Key) : ∀ {out : List Key}, out.Pairwise lessK → (insK k out).Pairwise lessK ∧ ∀ x, x ∈ insK k out ↔ x = k ∨ x ∈ out
  | [], _ => ⟨by simp [insK], by simp [insK]⟩
  | y :: r, h => by
    obtain ⟨h1, h2⟩ := List.pairwise_cons.1 h
    rw [insK]
    split
    · rename_i hl
      obtain ⟨g1, g2⟩ := insK_spec k h2
      refine ⟨List.pairwise_cons.2 ⟨fun z hz => ?_, g1⟩, fun x => ?_⟩
      · rcases (g2 z).1 hz with rfl | hz
        · exact hl
        · exact h1 z hz
      · simp only [List.mem_cons, g2]; exact ⟨fun h => by rcases h with h | h | h <;> simp [h], fun h => by rcases h with h | h | h <;> simp [h]⟩
    · split
      · rename_i hl he
        subst he
        exact ⟨h, fun x => by simp⟩
      · rename_i hl he
        have hk : lessK k y := by
          rcases lessK_tri y k with h | h | h
          · exact absurd h hl
          · exact absurd h he
          · exact h
        refine ⟨List.pairwise_cons.2 ⟨fun z hz => ?_, h⟩, fun x => by simp⟩
        rcases List.mem_cons.1 hz with rfl | hz
        · exact hk
        · exact lessK_trans hk (h1 z hz)
theorem keysR_spec (l : List Fact) : (keysR l).Pairwise lessK ∧ ∀ x, x ∈ keysR l ↔ ∃ f ∈ l, f.key = x := by
  have key : ∀ (l : List Fact) (out : List Key), out.Pairwise lessK → (l.foldl (fun out f => insK f.key out) out).Pairwise lessK ∧ ∀ x, x ∈ l.foldl (fun out f => insK f.key out) out ↔ x ∈ out ∨ ∃ f ∈ l, f.key = x := by
    intro l
    induction l with
    | nil => intro out h; exact ⟨h, by simp⟩
    | cons f l ih =>
      intro out h
      obtain ⟨g1, g2⟩ := insK_spec f.key h
      obtain ⟨i1, i2⟩ := ih _ g1
      refine ⟨i1, fun x => ?_⟩
      rw [List.foldl_cons, i2, g2]
      simp only [List.mem_cons, exists_eq_or_imp]
      exact ⟨fun h => by rcases h with (h | h) | h <;> simp [h], fun h => by rcases h with h | h | h <;> simp [h]⟩
  obtain ⟨h1, h2⟩ := key l [] .nil
  exact ⟨h1, fun x => by rw [keysR, h2]; simp⟩
theorem sorted_unique : ∀ {a b : List Key}, a.Pairwise lessK → b.Pairwise lessK → (∀ x, x ∈ a ↔ x ∈ b) → a = b
  | [], [], _, _, _ => rfl
  | [], y :: b, _, _, h => absurd ((h y).2 (.head _)) (by simp)
  | x :: a, [], _, _, h => absurd ((h x).1 (.head _)) (by simp)
  | x :: a, y :: b, h1, h2, h => by
    obtain ⟨a1, a2⟩ := List.pairwise_cons.1 h1
    obtain ⟨b1, b2⟩ := List.pairwise_cons.1 h2
    have hxy : x = y := by
      rcases List.mem_cons.1 ((h x).1 (.head _)) with e | e
      · exact e
      · rcases List.mem_cons.1 ((h y).2 (.head _)) with e2 | e2
        · exact e2.symm
        · exact absurd (lessK_trans (a1 y e2) (b1 x e)) (lessK_irr x)
    subst hxy
    congr 1
    refine sorted_unique a2 b2 fun z => ?_
    constructor
    · intro hz
      rcases List.mem_cons.1 ((h z).1 (.tail _ hz)) with e | e
      · subst e; exact absurd (a1 z hz) (lessK_irr z)
      · exact e
    · intro hz
      rcases List.mem_cons.1 ((h z).2 (.tail _ hz)) with e | e
      · subst e; exact absurd (b1 z hz) (lessK_irr z)
      · exact e


/-! ### Sets of keys, as maps -/

def setE (ks : List Key) : List (D × D) := ks.map fun k => (k.d, D.b true)
def addK (ks : List Key) (k : Key) : List Key := if k ∈ ks then ks else ks ++ [k]
theorem put_key (k : Key) : ∀ ks : List Key, mapPut tt 38 k.d (.b true) (setE ks) = setE (addK ks k)
  | [] => rfl
  | x :: ks => by
    have ih := put_key k ks
    unfold setE at ih ⊢
    rw [List.map_cons, mapPut, eqKey]
    by_cases h : k = x
    · subst h
      rw [if_pos (by simp)]
      unfold addK; rw [if_pos (by simp)]; rfl
    · rw [if_neg (by simp [h]), ih]
      unfold addK
      by_cases hm : k ∈ ks
      · rw [if_pos hm, if_pos (by simp [hm])]; rfl
      · rw [if_neg hm, if_neg (by simp [h, hm])]; rfl
theorem find_key (k : Key) : ∀ ks : List Key, mapFind tt 38 k.d (setE ks) = if k ∈ ks then some (.b true) else none
  | [] => rfl
  | x :: ks => by
    have ih := find_key k ks
    unfold setE at ih ⊢
    rw [List.map_cons, mapFind, eqKey]
    by_cases h : k = x
    · subst h
      rw [if_pos (by simp), if_pos (by simp)]
    · rw [if_neg (by simp [h]), ih]
      by_cases hm : k ∈ ks
      · rw [if_pos hm, if_pos (by simp [hm])]
      · rw [if_neg hm, if_neg (by simp [h, hm])]
theorem addK_mem (ks : List Key) (k x : Key) : x ∈ addK ks k ↔ x ∈ ks ∨ x = k := by
  unfold addK
  split
  · rename_i h
    exact ⟨.inl, fun e => e.elim id fun e => e ▸ h⟩
  · simp
theorem addK_nodup {ks : List Key} (h : ks.Nodup) (k : Key) : (addK ks k).Nodup := by
  unfold addK
  split
  · exact h
  · rename_i hn
    rw [List.nodup_append]
    exact ⟨h, by simp, fun a ha b hb => by simp at hb; subst hb; exact fun e => hn (e ▸ ha)⟩
theorem addK_len (ks : List Key) (k : Key) : (addK ks k).length ≤ ks.length + 1 := by
  unfold addK; split <;> simp

def accK (l : List Key) : List Key := l.foldl addK []
theorem accK_snoc (l : List Key) (k : Key) : accK (l ++ [k]) = addK (accK l) k := by unfold accK; rw [List.foldl_append]; rfl
theorem accK_spec (l : List Key) : (accK l).Nodup ∧ ∀ x, x ∈ accK l ↔ x ∈ l := by
  have key : ∀ (l ks : List Key), ks.Nodup → (l.foldl addK ks).Nodup ∧ ∀ x, x ∈ l.foldl addK ks ↔ x ∈ ks ∨ x ∈ l := by
    intro l
    induction l with
    | nil => intro ks h; exact ⟨h, by simp⟩
    | cons k l ih =>
      intro ks h
      obtain ⟨a, b⟩ := ih (addK ks k) (addK_nodup h k)
      refine ⟨a, fun x => ?_⟩
      rw [List.foldl_cons, b, addK_mem]
      simp only [List.mem_cons, or_assoc]
  obtain ⟨a, b⟩ := key l [] (by simp)
  exact ⟨a, fun x => by rw [accK, b]; simp⟩
theorem accK_len (l : List Key) : (accK l).length ≤ l.length := by
  have key : ∀ (l ks : List Key), (l.foldl addK ks).length ≤ ks.length + l.length := by
    intro l
    induction l with
    | nil => intro ks; simp
    | cons k l ih => intro ks; have := ih (addK ks k); have := addK_len ks k; simp only [List.foldl_cons, List.length_cons]; omega
  have := key l []
  simp only [List.length_nil, Nat.zero_add] at this
  exact this
theorem put_step {α : Type} {l : List α} {i : Nat} {x : α} (f : α → Key) (hx : l[i]? = some x) : mapPut tt 38 (f x).d (.b true) (setE (accK ((l.take i).map f))) = setE (accK ((l.take (i + 1)).map f)) := by
  rw [put_key, List.take_add_one, hx, List.map_append, Option.toList_some, List.map_singleton, accK_snoc]
theorem setE_get {L : List Key} {j : Nat} {p : D × D} (h : (setE L)[j]? = some p) : ∃ k, L[j]? = some k ∧ p = (k.d, .b true) := by
  unfold setE at h
  rw [List.getElem?_map] at h
  obtain ⟨k, hk, rfl⟩ := Option.map_eq_some_iff.1 h
  exact ⟨k, hk, rfl⟩
theorem setE_erase : ∀ (L : List Key) (j : Nat), (setE L).eraseIdx j = setE (L.eraseIdx j)
  | [], _ => rfl
  | _ :: _, 0 => rfl
  | k :: L, j + 1 => by
    have := setE_erase L j
    unfold setE at this ⊢
    rw [List.map_cons, List.eraseIdx_cons_succ, this]; rfl
theorem erase_perm {α : Type} : ∀ {L : List α} {j : Nat} {k : α}, L[j]? = some k → L.Perm (k :: L.eraseIdx j)
  | [], j, k, h => by simp at h
  | x :: L, 0, k, h => by simp at h; subst h; simp
  | x :: L, j + 1, k, h => by
    have := erase_perm (L := L) (j := j) (k := k) (by simpa using h)
    rw [List.eraseIdx_cons_succ]
    exact (this.cons x).trans (List.Perm.swap k x _)
theorem ANext.keys {L : List Key} {z : Prop} {k : D × D → List (D × D) → Prop} (hz : L = [] → z) (hk : ∀ (j : Nat) (x : Key), L[j]? = some x → k (x.d, .b true) (setE (L.eraseIdx j))) : ANext (setE L) z k :=
  ⟨⟨fun h => hz (by cases L with
    | nil => rfl
    | cons a l => cases h), fun j p hp => by
    obtain ⟨x, h1, rfl⟩ := setE_get hp
    rw [setE_erase]
    exact hk j x h1⟩⟩
structure XM where
  v : Nat
  n : Nat
  ks : List Key
  L : List Key
  cur : Option (D × D)
/-- What is new in the parent of a branch: its keys. -/
def freshK (b : Brn) (no : Int) : List Key :=
  if b.par.getD no.toNat 0 < 0 then (b.base.drop (b.forks.getD no.toNat 0).toNat).map Fact.key else ((b.at (b.par.getD no.toNat 0)).drop (b.forks.getD no.toNat 0).toNat).map Chg.key
/-- Keys of a branch that are new in its parent, in order. -/
def confM (b : Brn) (no : Int) : List Key := (keysR ((b.at no).map fun c => c.fact 0)).filter fun k => decide (k ∈ freshK b no)

theorem conf_fin {b : Brn} {no : Int} {K : List Key} (hK : ∀ x, x ∈ K ↔ x ∈ freshK b no) {l' : List Key} (hp : l'.Perm (accK (((b.at no).filter fun c => decide (c.key ∈ K)).map Chg.key)))
    (hs : ∀ (p q : Nat) (x y : Key), p < q → l'[p]? = some x → l'[q]? = some y → ¬ lessK y x) : l' = confM b no := by
  obtain ⟨n1, n2⟩ := accK_spec (((b.at no).filter fun c => decide (c.key ∈ K)).map Chg.key)
  have hnd : l'.Nodup := hp.nodup_iff.2 n1
  have hsort : l'.Pairwise lessK := by
    rw [List.pairwise_iff_getElem]
    intro p q hp1 hq1 hpq
    have h1 := hs p q _ _ hpq (List.getElem?_eq_getElem hp1) (List.getElem?_eq_getElem hq1)
    rcases lessK_tri l'[p] l'[q] with h | h | h
    · exact h
    · exact absurd ((List.getElem_inj hnd).1 h) (by omega)
    · exact absurd h h1
  obtain ⟨g1, g2⟩ := keysR_spec ((b.at no).map fun c => c.fact 0)
  refine sorted_unique hsort (g1.filter _) fun x => ?_
  unfold confM
  rw [hp.mem_iff, n2, List.mem_map, List.mem_filter, g2]
  constructor
  · rintro ⟨c, hc, rfl⟩
    obtain ⟨h1, h2⟩ := List.mem_filter.1 hc
    exact ⟨⟨c.fact 0, List.mem_map.2 ⟨c, h1, rfl⟩, rfl⟩, by rw [decide_eq_true_eq, ← hK]; simpa using h2⟩
  · rintro ⟨⟨f, hf, rfl⟩, h2⟩
    obtain ⟨c, hc, rfl⟩ := List.mem_map.1 hf
    refine ⟨c, List.mem_filter.2 ⟨hc, ?_⟩, rfl⟩
    rw [decide_eq_true_eq] at h2 ⊢
    exact (hK _).2 h2
theorem branches_conflicts (b : Brn) (hf : b.formed) (ht : b.total < 2 ^ 18) (no : Int) (h0 : 0 ≤ no) (hn : no < b.br.length) : CallP Try.prog 50 [.d b.d, .d (I no)] (retD [SL 3 ((confM b no).map Key.d)]) := by
  have he := hf.each no.toNat (by omega)
  have h1 := par_get hf (no := no) (by omega) hn
  have h2 := forks_get hf (no := no) (by omega) hn
  refine exPure_sound (E := envOf Try.prog tt Try.f50.ntmps) (envOf_ok ttok mixed) Try.func50 (by rfl) rfl rfl (Nat.le_of_ble_eq_true rfl) ?_
  by_cases hp : b.par.getD no.toNat 0 < 0
  · have hlm : lenM b (b.par.getD no.toNat 0) = b.base.length := by unfold lenM; rw [if_pos hp]
    rw [hlm] at he
    obtain ⟨fs, hfs⟩ : ∃ fs, fs = b.base.drop (b.forks.getD no.toNat 0).toNat := ⟨_, rfl⟩
    have hfd : (b.base.map Fact.d).drop (b.forks.getD no.toNat 0).toNat = fs.map Fact.d := by rw [← List.map_drop, hfs]
    have hfl : fs.length ≤ b.total := by rw [hfs, List.length_drop]; have := base_le b; omega
    repeat' ((conv => whnf); first | with_reducible refine Dec.t (show true = true from rfl) ?_ | with_reducible refine Dec.t (show false = false from rfl) ?_ | with_reducible refine Dec.f (show ¬ (true = false) by decide) ?_ | with_reducible refine Dec.f (show ¬ (false = true) by decide) ?_ | refine Dec.t (by omega) ?_ | refine Dec.f (by omega) ?_ | refine Dec.split (fun _ => ?_) (fun _ => ?_) | refine Wr.id (by omega) ?_ | refine Chk.mk (by first | omega | exact rfl | (simp only [List.length_map]; omega) | (simp [room]; done) | (simp [room]; omega) | (simp [dropL, room]; done) | (simp [dropL, room]; omega)) ?_ | refine Nam.mk (List.length_map _) ?_ | refine Prep.skip ?_ | refine Eith.l ?_ | refine chk_t (x := D.flat _) (by assumption) ?_ | refine br_mk (fun _ => ?_) (fun _ => ?_) | refine nthK_mk h1 ?_ | refine nthK_mk h2 ?_ | refine Nam.mk (y := fs.length) (by rw [hfd, List.length_map]) ?_ | fail)
    all_goals first | (exfalso; omega) | skip
    all_goals (conv => whnf)
    refine ALoop.at (E := envOf Try.prog tt Try.f50.ntmps) (envOf_ok ttok mixed) (X := Nat) (fun i => [(33, .d (I i))]) (fun i => [(1, .map tt 38 (setE (accK ((fs.take i).map Fact.key))))]) (fun i => i ≤ fs.length) (fun i => fs.length - i) 0 (by repeat (first | exact trivial | refine And.intro rfl ?_ | refine And.intro (congrArg (fun n => V.d (I n)) (wrap_nat _ (by omega))) ?_)) rfl (Nat.zero_le _) ?_
    rintro i hi
    dsimp only
    by_cases hlt : i < fs.length
    · obtain ⟨f, hx, _⟩ := drop_get hlt
      have hx0 : ((b.base.map Fact.d).drop (b.forks.getD no.toNat 0).toNat)[((i : Nat) : Int).toNat]? = some f.d := by rw [hfd]; exact map_get hx
      have hput := put_step Fact.key hx
      repeat' ((conv => whnf); first | with_reducible refine Dec.t (show true = true from rfl) ?_ | with_reducible refine Dec.t (show false = false from rfl) ?_ | with_reducible refine Dec.f (show ¬ (true = false) by decide) ?_ | with_reducible refine Dec.f (show ¬ (false = true) by decide) ?_ | refine Dec.t (by omega) ?_ | refine Dec.f (by omega) ?_ | refine Dec.split (fun _ => ?_) (fun _ => ?_) | refine Wr.id (by omega) ?_ | refine Chk.mk (by first | omega | exact rfl | (simp only [List.length_map]; omega) | (simp [room]; done) | (simp [room]; omega) | (simp [dropL, room]; done) | (simp [dropL, room]; omega)) ?_ | refine Nam.mk (List.length_map _) ?_ | refine Prep.skip ?_ | refine Eith.l ?_ | refine chk_t (x := D.flat _) (by assumption) ?_ | refine br_mk (fun _ => ?_) (fun _ => ?_) | refine nthK_mk hx0 ?_ | fail)
      all_goals first | (exfalso; omega) | skip
      all_goals (conv => whnf)
      all_goals first
        | exact ⟨i + 1, Wm.end (by repeat (first | exact trivial | refine And.intro rfl ?_ | refine And.intro (congrArg (fun n => V.d (I n)) (wrap_nat _ (by omega))) ?_)) (congrArg (fun es => [Blk.vard b.d.cells, Blk.map tt 38 es]) hput) rfl rfl, hlt, by show fs.length - (i + 1) < fs.length - i; omega⟩
    · have : i = fs.length := by omega
      subst this
      rw [List.take_length]
      have h3 := at_get (b := b) (no := no) (by omega) hn
      repeat' ((conv => whnf); first | with_reducible refine Dec.t (show true = true from rfl) ?_ | with_reducible refine Dec.t (show false = false from rfl) ?_ | with_reducible refine Dec.f (show ¬ (true = false) by decide) ?_ | with_reducible refine Dec.f (show ¬ (false = true) by decide) ?_ | refine Dec.t (by omega) ?_ | refine Dec.f (by omega) ?_ | refine Dec.split (fun _ => ?_) (fun _ => ?_) | refine Wr.id (by omega) ?_ | refine Chk.mk (by first | omega | exact rfl | (simp only [List.length_map]; omega) | (simp [room]; done) | (simp [room]; omega) | (simp [dropL, room]; done) | (simp [dropL, room]; omega)) ?_ | refine Nam.mk (List.length_map _) ?_ | refine Prep.skip ?_ | refine Eith.l ?_ | refine chk_t (x := D.flat _) (by assumption) ?_ | refine br_mk (fun _ => ?_) (fun _ => ?_) | refine nthK_mk h3 ?_ | fail)
      all_goals first | (exfalso; omega) | skip
      all_goals (conv => whnf)
      obtain ⟨F, hF⟩ : ∃ F, F = accK (fs.map Fact.key) := ⟨_, rfl⟩
      rw [← hF]
      obtain ⟨cs, hcs⟩ : ∃ cs, cs = b.at no := ⟨_, rfl⟩
      rw [← hcs]
      have hcl : cs.length ≤ b.total := by rw [hcs]; exact at_len b no
      refine ALoop.at (E := envOf Try.prog tt Try.f50.ntmps) (envOf_ok ttok mixed) (X := Nat) (fun i => [(64, .d (I i))]) (fun i => [(2, .map tt 38 (setE (accK (((cs.take i).filter fun c => decide (c.key ∈ F)).map Chg.key))))]) (fun i => i ≤ cs.length) (fun i => cs.length - i) 0 (by repeat (first | exact trivial | refine And.intro rfl ?_ | refine And.intro (congrArg (fun n => V.d (I n)) (wrap_nat _ (by omega))) ?_)) rfl (Nat.zero_le _) ?_
      rintro i hi
      dsimp only
      by_cases hlt : i < cs.length
      · obtain ⟨c, hx, _⟩ := drop_get hlt
        have hx0 : (cs.map Chg.d)[((i : Nat) : Int).toNat]? = some c.d := map_get hx
        by_cases hin : c.key ∈ F
        · have hget : (mapFind tt 38 c.key.d (setE F)).getD (.b false) = .b true := by rw [find_key, if_pos hin]; rfl
          have hput : mapPut tt 38 c.key.d (.b true) (setE (accK (((cs.take i).filter fun c => decide (c.key ∈ F)).map Chg.key))) = setE (accK (((cs.take (i + 1)).filter fun c => decide (c.key ∈ F)).map Chg.key)) := by
            rw [put_key, List.take_add_one, hx, List.filter_append, Option.toList_some, List.map_append, List.filter_cons_of_pos (by simp [hin]), List.filter_nil, List.map_singleton, accK_snoc]
          repeat' ((conv => whnf); first | with_reducible refine Dec.t (show true = true from rfl) ?_ | with_reducible refine Dec.t (show false = false from rfl) ?_ | with_reducible refine Dec.f (show ¬ (true = false) by decide) ?_ | with_reducible refine Dec.f (show ¬ (false = true) by decide) ?_ | refine Dec.t (by omega) ?_ | refine Dec.f (by omega) ?_ | refine Dec.split (fun _ => ?_) (fun _ => ?_) | refine Wr.id (by omega) ?_ | refine Chk.mk (by first | omega | exact rfl | (simp only [List.length_map]; omega) | (simp [room]; done) | (simp [room]; omega) | (simp [dropL, room]; done) | (simp [dropL, room]; omega)) ?_ | refine Nam.mk (List.length_map _) ?_ | refine Prep.skip ?_ | refine Eith.l ?_ | refine chk_t (x := D.flat _) (by assumption) ?_ | refine br_mk (fun _ => ?_) (fun _ => ?_) | refine nthK_mk hx0 ?_ | refine Nam.mk hget ?_ | fail)
          all_goals first | (exfalso; omega) | skip
          all_goals (conv => whnf)
          all_goals first
            | exact ⟨i + 1, Wm.end (by repeat (first | exact trivial | refine And.intro rfl ?_ | refine And.intro (congrArg (fun n => V.d (I n)) (wrap_nat _ (by omega))) ?_)) (congrArg (fun es => [Blk.vard b.d.cells, Blk.map tt 38 (setE F), Blk.map tt 38 es]) hput) rfl rfl, hlt, by show cs.length - (i + 1) < cs.length - i; omega⟩
        · have hget : (mapFind tt 38 c.key.d (setE F)).getD (.b false) = .b false := by rw [find_key, if_neg hin]; rfl
          have hput : accK (((cs.take i).filter fun c => decide (c.key ∈ F)).map Chg.key) = accK (((cs.take (i + 1)).filter fun c => decide (c.key ∈ F)).map Chg.key) := by
            rw [List.take_add_one, hx, List.filter_append, Option.toList_some, List.filter_cons_of_neg (by simp [hin]), List.filter_nil, List.append_nil]
          repeat' ((conv => whnf); first | with_reducible refine Dec.t (show true = true from rfl) ?_ | with_reducible refine Dec.t (show false = false from rfl) ?_ | with_reducible refine Dec.f (show ¬ (true = false) by decide) ?_ | with_reducible refine Dec.f (show ¬ (false = true) by decide) ?_ | refine Dec.t (by omega) ?_ | refine Dec.f (by omega) ?_ | refine Dec.split (fun _ => ?_) (fun _ => ?_) | refine Wr.id (by omega) ?_ | refine Chk.mk (by first | omega | exact rfl | (simp only [List.length_map]; omega) | (simp [room]; done) | (simp [room]; omega) | (simp [dropL, room]; done) | (simp [dropL, room]; omega)) ?_ | refine Nam.mk (List.length_map _) ?_ | refine Prep.skip ?_ | refine Eith.l ?_ | refine chk_t (x := D.flat _) (by assumption) ?_ | refine br_mk (fun _ => ?_) (fun _ => ?_) | refine nthK_mk hx0 ?_ | refine Nam.mk hget ?_ | fail)
          all_goals first | (exfalso; omega) | skip
          all_goals (conv => whnf)
          all_goals first
            | exact ⟨i + 1, Wm.end (by repeat (first | exact trivial | refine And.intro rfl ?_ | refine And.intro (congrArg (fun n => V.d (I n)) (wrap_nat _ (by omega))) ?_)) (congrArg (fun es => [Blk.vard b.d.cells, Blk.map tt 38 (setE F), Blk.map tt 38 (setE es)]) hput) rfl rfl, hlt, by show cs.length - (i + 1) < cs.length - i; omega⟩
      · have : i = cs.length := by omega
        subst this
        rw [List.take_length]
        obtain ⟨G, hG⟩ : ∃ G, G = accK ((cs.filter fun c => decide (c.key ∈ F)).map Chg.key) := ⟨_, rfl⟩
        rw [← hG]
        repeat' ((conv => whnf); first | with_reducible refine Dec.t (show true = true from rfl) ?_ | with_reducible refine Dec.t (show false = false from rfl) ?_ | with_reducible refine Dec.f (show ¬ (true = false) by decide) ?_ | with_reducible refine Dec.f (show ¬ (false = true) by decide) ?_ | refine Dec.t (by omega) ?_ | refine Dec.f (by omega) ?_ | refine Dec.split (fun _ => ?_) (fun _ => ?_) | refine Wr.id (by omega) ?_ | refine Chk.mk (by first | omega | exact rfl | (simp only [List.length_map]; omega) | (simp [room]; done) | (simp [room]; omega) | (simp [dropL, room]; done) | (simp [dropL, room]; omega)) ?_ | refine Nam.mk (List.length_map _) ?_ | refine Prep.skip ?_ | refine Eith.l ?_ | refine chk_t (x := D.flat _) (by assumption) ?_ | refine br_mk (fun _ => ?_) (fun _ => ?_) | refine ACall.body (E := envOf Try.prog tt Try.f68.ntmps) (envOf_ok ttok mixed) Try.func68 (by rfl) rfl (Nat.le_of_ble_eq_true rfl) ?_ | refine ACall.body (E := envOf Try.prog tt Try.f67.ntmps) (envOf_ok ttok mixed) Try.func67 (by rfl) rfl (Nat.le_of_ble_eq_true rfl) ?_ | refine ACall.body (E := envOf Try.prog tt Try.f77.ntmps) (envOf_ok ttok mixed) Try.func77 (by rfl) rfl (Nat.le_of_ble_eq_true rfl) ?_ | refine ACall.body (E := envOf Try.prog tt Try.f83.ntmps) (envOf_ok ttok mixed) Try.func83 (by rfl) rfl (Nat.le_of_ble_eq_true rfl) ?_ | refine ARange.body (E := envOf Try.prog tt Try.f83.ntmps) (envOf_ok ttok mixed) ttok mixed (by rfl) Try.func79 (by rfl) (Nat.le_of_ble_eq_true rfl) ?_ | fail)
        all_goals first | (exfalso; omega) | skip
        all_goals (conv => whnf)
        have hGl : G.length ≤ b.total := by
          rw [hG]
          refine Nat.le_trans (accK_len _) ?_
          rw [List.length_map]
          exact Nat.le_trans (List.length_filter_le _ _) hcl
        have hfin : ∀ l' : List Key, l'.Perm G → (∀ (p q : Nat) (x y : Key), p < q → l'[p]? = some x → l'[q]? = some y → ¬ lessK y x) → l' = confM b no := fun l' hq hs => by
          subst hG hcs
          refine conf_fin (K := F) (fun x => ?_) hq hs
          rw [hF, (accK_spec _).2]
          unfold freshK
          rw [if_pos hp, hfs]
        refine ALoop.virtC 4 0 0 3 false (by decide) rfl rfl ?_
        conv => whnf
        refine ALoop.at (E := envY Try.prog tt Try.f79.ntmps (yldIn (envOf Try.prog tt Try.f83.ntmps) 5)) (envY_ok (yldIn_ok (envOf_ok ttok mixed) 5) ttok mixed) (X := XM) (fun _ => []) (fun x => [(4, .var [.sref 7 x.v 0 x.n false]), (6, .miter tt 38 (setE x.L) x.cur), (7, .row x.v 3 false (x.ks.map Key.d))])
          (fun x => (x.ks ++ x.L).Perm G ∧ x.n = x.ks.length) (fun x => x.L.length) ⟨0, 0, [], G, none⟩ (by repeat (first | exact trivial | refine And.intro rfl ?_ | refine And.intro (congrArg (fun n => V.d (I n)) (wrap_nat _ (by omega))) ?_)) rfl ⟨List.Perm.refl _, rfl⟩ ?_
        rintro ⟨v, n, ks, L, cur⟩ ⟨hpm, hnl⟩
        simp only at hpm hnl
        have hpl := hpm.length_eq
        rw [List.length_append] at hpl
        dsimp only
        by_cases hL : L = []
        · subst hL
          rw [List.append_nil] at hpm
          repeat' ((conv => whnf); first | with_reducible refine Dec.t (show true = true from rfl) ?_ | with_reducible refine Dec.t (show false = false from rfl) ?_ | with_reducible refine Dec.f (show ¬ (true = false) by decide) ?_ | with_reducible refine Dec.f (show ¬ (false = true) by decide) ?_ | refine Dec.t (by omega) ?_ | refine Dec.f (by omega) ?_ | refine Dec.split (fun _ => ?_) (fun _ => ?_) | refine Wr.id (by omega) ?_ | refine Chk.mk (by first | omega | exact rfl | (simp only [List.length_map]; omega) | (simp [room]; done) | (simp [room]; omega) | (simp [dropL, room]; done) | (simp [dropL, room]; omega)) ?_ | refine Nam.mk (List.length_map _) ?_ | refine Prep.skip ?_ | refine Eith.l ?_ | refine chk_t (x := D.flat _) (by assumption) ?_ | refine br_mk (fun _ => ?_) (fun _ => ?_) | refine ANext.keys (fun _ => ?_) (fun j k hk => (by simp at hk)) | fail)
          all_goals first | (exfalso; omega) | skip
          all_goals (conv => whnf)
          have hmap : ks.map Key.d = ks.map fun x => D.agg x.cells := rfl
          refine ACall.sort Try.sortKey 3 (by decide) (fun w => run_isAgg (tyOf_ok ttok (show tyOf tt 38 = some _ from rfl)) w) (fun w => run_sizeOf' (tyOf_ok ttok (show tyOf tt 38 = some _ from rfl)) w) Key.cells (fun _ => rfl)
            (fun x c hc => by simp only [Key.cells, List.mem_cons, List.not_mem_nil, or_false] at hc; rcases hc with rfl | rfl | rfl <;> rfl) cfKey swoKey branches_compare (enters_of Try.func69 (by kernel_rfl) rfl) (l := ks) (congrArg (fun r => some (Blk.row v 3 false r)) hmap) (by simp [hnl]) (by omega) (fun l' hp hs => ?_)
          have hl' : l' = confM b no := by
            rw [hfin l' (hp.trans hpm)]
            intro p q x y hpq hx hy
            have := hs p q x y hpq hx hy
            rwa [cfKey_lt] at this
          subst hl'
          have hcl2 : n = ((confM b no).map fun x => D.agg x.cells).length := by rw [List.length_map, hp.length_eq, hnl]
          repeat' ((conv => whnf); first | with_reducible refine Dec.t (show true = true from rfl) ?_ | with_reducible refine Dec.t (show false = false from rfl) ?_ | with_reducible refine Dec.f (show ¬ (true = false) by decide) ?_ | with_reducible refine Dec.f (show ¬ (false = true) by decide) ?_ | refine Dec.t (by omega) ?_ | refine Dec.f (by omega) ?_ | refine Dec.split (fun _ => ?_) (fun _ => ?_) | refine Wr.id (by omega) ?_ | refine Chk.mk (by first | omega | exact rfl | (simp only [List.length_map]; omega) | (simp [room]; done) | (simp [room]; omega) | (simp [dropL, room]; done) | (simp [dropL, room]; omega)) ?_ | refine Nam.mk (List.length_map _) ?_ | refine Prep.skip ?_ | refine Eith.l ?_ | refine chk_t (x := D.flat _) (by assumption) ?_ | refine br_mk (fun _ => ?_) (fun _ => ?_) | refine Chk.mk ⟨rfl, by rw [← hcl2]; omega⟩ ?_ | refine Nam.mk (whole hcl2) ?_ | fail)
          all_goals (conv => whnf)
          all_goals first | exact DLe.refl _
        · repeat' ((conv => whnf); first | with_reducible refine Dec.t (show true = true from rfl) ?_ | with_reducible refine Dec.t (show false = false from rfl) ?_ | with_reducible refine Dec.f (show ¬ (true = false) by decide) ?_ | with_reducible refine Dec.f (show ¬ (false = true) by decide) ?_ | refine Dec.t (by omega) ?_ | refine Dec.f (by omega) ?_ | refine Dec.split (fun _ => ?_) (fun _ => ?_) | refine Wr.id (by omega) ?_ | refine Chk.mk (by first | omega | exact rfl | (simp only [List.length_map]; omega) | (simp [room]; done) | (simp [room]; omega) | (simp [dropL, room]; done) | (simp [dropL, room]; omega)) ?_ | refine Nam.mk (List.length_map _) ?_ | refine Prep.skip ?_ | refine Eith.l ?_ | refine chk_t (x := D.flat _) (by assumption) ?_ | refine br_mk (fun _ => ?_) (fun _ => ?_) | refine ANext.keys (fun hz => absurd hz hL) (fun j k hk => ?_) | refine Chk.mk ⟨rfl, by simp [hnl], by simp [room]; omega⟩ ?_ | fail)
          all_goals first | (exfalso; omega) | skip
          all_goals (conv => whnf)
          have hpe := erase_perm hk
          have hle := hpe.length_eq
          simp only [List.length_cons] at hle
          all_goals first
            | exact ⟨⟨v + 1, n + 1, ks ++ [k], L.eraseIdx j, some (k.d, .b true)⟩, Wm.end (by repeat (first | exact trivial | refine And.intro rfl ?_ | refine And.intro (congrArg (fun n => V.d (I n)) (wrap_nat _ (by omega))) ?_)) (congrArg (fun r => [Blk.vard b.d.cells, Blk.map tt 38 (setE F), Blk.gone, Blk.var [V.map 2], Blk.var [V.sref 7 (v + 1) 0 (n + 1) false], _, _, Blk.row (v + 1) 3 false r]) (by rw [List.map_append]; rfl)) rfl rfl, ⟨by rw [List.append_assoc]; exact (List.Perm.append_left ks hpe.symm).trans hpm, by simp [hnl]⟩, by simp only; omega⟩
  · have hlm : lenM b (b.par.getD no.toNat 0) = (b.at (b.par.getD no.toNat 0)).length := by unfold lenM; rw [if_neg hp]
    rw [hlm] at he
    obtain ⟨fs, hfs⟩ : ∃ fs, fs = (b.at (b.par.getD no.toNat 0)).drop (b.forks.getD no.toNat 0).toNat := ⟨_, rfl⟩
    have hfd : ((b.at (b.par.getD no.toNat 0)).map Chg.d).drop (b.forks.getD no.toNat 0).toNat = fs.map Chg.d := by rw [← List.map_drop, hfs]
    have hfl : fs.length ≤ b.total := by rw [hfs, List.length_drop]; have := at_len b (b.par.getD no.toNat 0); omega
    have h4 := at_get (b := b) (no := b.par.getD no.toNat 0) hp (by omega)
    repeat' ((conv => whnf); first | with_reducible refine Dec.t (show true = true from rfl) ?_ | with_reducible refine Dec.t (show false = false from rfl) ?_ | with_reducible refine Dec.f (show ¬ (true = false) by decide) ?_ | with_reducible refine Dec.f (show ¬ (false = true) by decide) ?_ | refine Dec.t (by omega) ?_ | refine Dec.f (by omega) ?_ | refine Dec.split (fun _ => ?_) (fun _ => ?_) | refine Wr.id (by omega) ?_ | refine Chk.mk (by first | omega | exact rfl | (simp only [List.length_map]; omega) | (simp [room]; done) | (simp [room]; omega) | (simp [dropL, room]; done) | (simp [dropL, room]; omega)) ?_ | refine Nam.mk (List.length_map _) ?_ | refine Prep.skip ?_ | refine Eith.l ?_ | refine chk_t (x := D.flat _) (by assumption) ?_ | refine br_mk (fun _ => ?_) (fun _ => ?_) | refine nthK_mk h1 ?_ | refine nthK_mk h2 ?_ | refine nthK_mk h4 ?_ | refine Nam.mk (y := fs.length) (by rw [hfd, List.length_map]) ?_ | fail)
    all_goals first | (exfalso; omega) | skip
    all_goals (conv => whnf)
    refine ALoop.at (E := envOf Try.prog tt Try.f50.ntmps) (envOf_ok ttok mixed) (X := Nat) (fun i => [(49, .d (I i))]) (fun i => [(1, .map tt 38 (setE (accK ((fs.take i).map Chg.key))))]) (fun i => i ≤ fs.length) (fun i => fs.length - i) 0 (by repeat (first | exact trivial | refine And.intro rfl ?_ | refine And.intro (congrArg (fun n => V.d (I n)) (wrap_nat _ (by omega))) ?_)) rfl (Nat.zero_le _) ?_
    rintro i hi
    dsimp only
    by_cases hlt : i < fs.length
    · obtain ⟨f, hx, _⟩ := drop_get hlt
      have hx0 : (((b.at (b.par.getD no.toNat 0)).map Chg.d).drop (b.forks.getD no.toNat 0).toNat)[((i : Nat) : Int).toNat]? = some f.d := by rw [hfd]; exact map_get hx
      have hput := put_step Chg.key hx
      repeat' ((conv => whnf); first | with_reducible refine Dec.t (show true = true from rfl) ?_ | with_reducible refine Dec.t (show false = false from rfl) ?_ | with_reducible refine Dec.f (show ¬ (true = false) by decide) ?_ | with_reducible refine Dec.f (show ¬ (false = true) by decide) ?_ | refine Dec.t (by omega) ?_ | refine Dec.f (by omega) ?_ | refine Dec.split (fun _ => ?_) (fun _ => ?_) | refine Wr.id (by omega) ?_ | refine Chk.mk (by first | omega | exact rfl | (simp only [List.length_map]; omega) | (simp [room]; done) | (simp [room]; omega) | (simp [dropL, room]; done) | (simp [dropL, room]; omega)) ?_ | refine Nam.mk (List.length_map _) ?_ | refine Prep.skip ?_ | refine Eith.l ?_ | refine chk_t (x := D.flat _) (by assumption) ?_ | refine br_mk (fun _ => ?_) (fun _ => ?_) | refine nthK_mk hx0 ?_ | fail)
      all_goals first | (exfalso; omega) | skip
      all_goals (conv => whnf)
      all_goals first
        | exact ⟨i + 1, Wm.end (by repeat (first | exact trivial | refine And.intro rfl ?_ | refine And.intro (congrArg (fun n => V.d (I n)) (wrap_nat _ (by omega))) ?_)) (congrArg (fun es => [Blk.vard b.d.cells, Blk.map tt 38 es]) hput) rfl rfl, hlt, by show fs.length - (i + 1) < fs.length - i; omega⟩
    · have : i = fs.length := by omega
      subst this
      rw [List.take_length]
      have h3 := at_get (b := b) (no := no) (by omega) hn
      repeat' ((conv => whnf); first | with_reducible refine Dec.t (show true = true from rfl) ?_ | with_reducible refine Dec.t (show false = false from rfl) ?_ | with_reducible refine Dec.f (show ¬ (true = false) by decide) ?_ | with_reducible refine Dec.f (show ¬ (false = true) by decide) ?_ | refine Dec.t (by omega) ?_ | refine Dec.f (by omega) ?_ | refine Dec.split (fun _ => ?_) (fun _ => ?_) | refine Wr.id (by omega) ?_ | refine Chk.mk (by first | omega | exact rfl | (simp only [List.length_map]; omega) | (simp [room]; done) | (simp [room]; omega) | (simp [dropL, room]; done) | (simp [dropL, room]; omega)) ?_ | refine Nam.mk (List.length_map _) ?_ | refine Prep.skip ?_ | refine Eith.l ?_ | refine chk_t (x := D.flat _) (by assumption) ?_ | refine br_mk (fun _ => ?_) (fun _ => ?_) | refine nthK_mk h3 ?_ | fail)
      all_goals first | (exfalso; omega) | skip
      all_goals (conv => whnf)
      obtain ⟨F, hF⟩ : ∃ F, F = accK (fs.map Chg.key) := ⟨_, rfl⟩
      rw [← hF]
      obtain ⟨cs, hcs⟩ : ∃ cs, cs = b.at no := ⟨_, rfl⟩
      rw [← hcs]
      have hcl : cs.length ≤ b.total := by rw [hcs]; exact at_len b no
      refine ALoop.at (E := envOf Try.prog tt Try.f50.ntmps) (envOf_ok ttok mixed) (X := Nat) (fun i => [(64, .d (I i))]) (fun i => [(2, .map tt 38 (setE (accK (((cs.take i).filter fun c => decide (c.key ∈ F)).map Chg.key))))]) (fun i => i ≤ cs.length) (fun i => cs.length - i) 0 (by repeat (first | exact trivial | refine And.intro rfl ?_ | refine And.intro (congrArg (fun n => V.d (I n)) (wrap_nat _ (by omega))) ?_)) rfl (Nat.zero_le _) ?_
      rintro i hi
      dsimp only
      by_cases hlt : i < cs.length
      · obtain ⟨c, hx, _⟩ := drop_get hlt
        have hx0 : (cs.map Chg.d)[((i : Nat) : Int).toNat]? = some c.d := map_get hx
        by_cases hin : c.key ∈ F
        · have hget : (mapFind tt 38 c.key.d (setE F)).getD (.b false) = .b true := by rw [find_key, if_pos hin]; rfl
          have hput : mapPut tt 38 c.key.d (.b true) (setE (accK (((cs.take i).filter fun c => decide (c.key ∈ F)).map Chg.key))) = setE (accK (((cs.take (i + 1)).filter fun c => decide (c.key ∈ F)).map Chg.key)) := by
            rw [put_key, List.take_add_one, hx, List.filter_append, Option.toList_some, List.map_append, List.filter_cons_of_pos (by simp [hin]), List.filter_nil, List.map_singleton, accK_snoc]
          repeat' ((conv => whnf); first | with_reducible refine Dec.t (show true = true from rfl) ?_ | with_reducible refine Dec.t (show false = false from rfl) ?_ | with_reducible refine Dec.f (show ¬ (true = false) by decide) ?_ | with_reducible refine Dec.f (show ¬ (false = true) by decide) ?_ | refine Dec.t (by omega) ?_ | refine Dec.f (by omega) ?_ | refine Dec.split (fun _ => ?_) (fun _ => ?_) | refine Wr.id (by omega) ?_ | refine Chk.mk (by first | omega | exact rfl | (simp only [List.length_map]; omega) | (simp [room]; done) | (simp [room]; omega) | (simp [dropL, room]; done) | (simp [dropL, room]; omega)) ?_ | refine Nam.mk (List.length_map _) ?_ | refine Prep.skip ?_ | refine Eith.l ?_ | refine chk_t (x := D.flat _) (by assumption) ?_ | refine br_mk (fun _ => ?_) (fun _ => ?_) | refine nthK_mk hx0 ?_ | refine Nam.mk hget ?_ | fail)
          all_goals first | (exfalso; omega) | skip
          all_goals (conv => whnf)
          all_goals first
            | exact ⟨i + 1, Wm.end (by repeat (first | exact trivial | refine And.intro rfl ?_ | refine And.intro (congrArg (fun n => V.d (I n)) (wrap_nat _ (by omega))) ?_)) (congrArg (fun es => [Blk.vard b.d.cells, Blk.map tt 38 (setE F), Blk.map tt 38 es]) hput) rfl rfl, hlt, by show cs.length - (i + 1) < cs.length - i; omega⟩
        · have hget : (mapFind tt 38 c.key.d (setE F)).getD (.b false) = .b false := by rw [find_key, if_neg hin]; rfl
          have hput : accK (((cs.take i).filter fun c => decide (c.key ∈ F)).map Chg.key) = accK (((cs.take (i + 1)).filter fun c => decide (c.key ∈ F)).map Chg.key) := by
            rw [List.take_add_one, hx, List.filter_append, Option.toList_some, List.filter_cons_of_neg (by simp [hin]), List.filter_nil, List.append_nil]
          repeat' ((conv => whnf); first | with_reducible refine Dec.t (show true = true from rfl) ?_ | with_reducible refine Dec.t (show false = false from rfl) ?_ | with_reducible refine Dec.f (show ¬ (true = false) by decide) ?_ | with_reducible refine Dec.f (show ¬ (false = true) by decide) ?_ | refine Dec.t (by omega) ?_ | refine Dec.f (by omega) ?_ | refine Dec.split (fun _ => ?_) (fun _ => ?_) | refine Wr.id (by omega) ?_ | refine Chk.mk (by first | omega | exact rfl | (simp only [List.length_map]; omega) | (simp [room]; done) | (simp [room]; omega) | (simp [dropL, room]; done) | (simp [dropL, room]; omega)) ?_ | refine Nam.mk (List.length_map _) ?_ | refine Prep.skip ?_ | refine Eith.l ?_ | refine chk_t (x := D.flat _) (by assumption) ?_ | refine br_mk (fun _ => ?_) (fun _ => ?_) | refine nthK_mk hx0 ?_ | refine Nam.mk hget ?_ | fail)
          all_goals first | (exfalso; omega) | skip
          all_goals (conv => whnf)
          all_goals first
            | exact ⟨i + 1, Wm.end (by repeat (first | exact trivial | refine And.intro rfl ?_ | refine And.intro (congrArg (fun n => V.d (I n)) (wrap_nat _ (by omega))) ?_)) (congrArg (fun es => [Blk.vard b.d.cells, Blk.map tt 38 (setE F), Blk.map tt 38 (setE es)]) hput) rfl rfl, hlt, by show cs.length - (i + 1) < cs.length - i; omega⟩
      · have : i = cs.length := by omega
        subst this
        rw [List.take_length]
        obtain ⟨G, hG⟩ : ∃ G, G = accK ((cs.filter fun c => decide (c.key ∈ F)).map Chg.key) := ⟨_, rfl⟩
        rw [← hG]
        repeat' ((conv => whnf); first | with_reducible refine Dec.t (show true = true from rfl) ?_ | with_reducible refine Dec.t (show false = false from rfl) ?_ | with_reducible refine Dec.f (show ¬ (true = false) by decide) ?_ | with_reducible refine Dec.f (show ¬ (false = true) by decide) ?_ | refine Dec.t (by omega) ?_ | refine Dec.f (by omega) ?_ | refine Dec.split (fun _ => ?_) (fun _ => ?_) | refine Wr.id (by omega) ?_ | refine Chk.mk (by first | omega | exact rfl | (simp only [List.length_map]; omega) | (simp [room]; done) | (simp [room]; omega) | (simp [dropL, room]; done) | (simp [dropL, room]; omega)) ?_ | refine Nam.mk (List.length_map _) ?_ | refine Prep.skip ?_ | refine Eith.l ?_ | refine chk_t (x := D.flat _) (by assumption) ?_ | refine br_mk (fun _ => ?_) (fun _ => ?_) | refine ACall.body (E := envOf Try.prog tt Try.f68.ntmps) (envOf_ok ttok mixed) Try.func68 (by rfl) rfl (Nat.le_of_ble_eq_true rfl) ?_ | refine ACall.body (E := envOf Try.prog tt Try.f67.ntmps) (envOf_ok ttok mixed) Try.func67 (by rfl) rfl (Nat.le_of_ble_eq_true rfl) ?_ | refine ACall.body (E := envOf Try.prog tt Try.f77.ntmps) (envOf_ok ttok mixed) Try.func77 (by rfl) rfl (Nat.le_of_ble_eq_true rfl) ?_ | refine ACall.body (E := envOf Try.prog tt Try.f83.ntmps) (envOf_ok ttok mixed) Try.func83 (by rfl) rfl (Nat.le_of_ble_eq_true rfl) ?_ | refine ARange.body (E := envOf Try.prog tt Try.f83.ntmps) (envOf_ok ttok mixed) ttok mixed (by rfl) Try.func79 (by rfl) (Nat.le_of_ble_eq_true rfl) ?_ | fail)
        all_goals first | (exfalso; omega) | skip
        all_goals (conv => whnf)
        have hGl : G.length ≤ b.total := by
          rw [hG]
          refine Nat.le_trans (accK_len _) ?_
          rw [List.length_map]
          exact Nat.le_trans (List.length_filter_le _ _) hcl
        have hfin : ∀ l' : List Key, l'.Perm G → (∀ (p q : Nat) (x y : Key), p < q → l'[p]? = some x → l'[q]? = some y → ¬ lessK y x) → l' = confM b no := fun l' hq hs => by
          subst hG hcs
          refine conf_fin (K := F) (fun x => ?_) hq hs
          rw [hF, (accK_spec _).2]
          unfold freshK
          rw [if_neg hp, hfs]
        refine ALoop.virtC 4 0 0 3 false (by decide) rfl rfl ?_
        conv => whnf
        refine ALoop.at (E := envY Try.prog tt Try.f79.ntmps (yldIn (envOf Try.prog tt Try.f83.ntmps) 5)) (envY_ok (yldIn_ok (envOf_ok ttok mixed) 5) ttok mixed) (X := XM) (fun _ => []) (fun x => [(4, .var [.sref 7 x.v 0 x.n false]), (6, .miter tt 38 (setE x.L) x.cur), (7, .row x.v 3 false (x.ks.map Key.d))])
          (fun x => (x.ks ++ x.L).Perm G ∧ x.n = x.ks.length) (fun x => x.L.length) ⟨0, 0, [], G, none⟩ (by repeat (first | exact trivial | refine And.intro rfl ?_ | refine And.intro (congrArg (fun n => V.d (I n)) (wrap_nat _ (by omega))) ?_)) rfl ⟨List.Perm.refl _, rfl⟩ ?_
        rintro ⟨v, n, ks, L, cur⟩ ⟨hpm, hnl⟩
        simp only at hpm hnl
        have hpl := hpm.length_eq
        rw [List.length_append] at hpl
        dsimp only
        by_cases hL : L = []
        · subst hL
          rw [List.append_nil] at hpm
          repeat' ((conv => whnf); first | with_reducible refine Dec.t (show true = true from rfl) ?_ | with_reducible refine Dec.t (show false = false from rfl) ?_ | with_reducible refine Dec.f (show ¬ (true = false) by decide) ?_ | with_reducible refine Dec.f (show ¬ (false = true) by decide) ?_ | refine Dec.t (by omega) ?_ | refine Dec.f (by omega) ?_ | refine Dec.split (fun _ => ?_) (fun _ => ?_) | refine Wr.id (by omega) ?_ | refine Chk.mk (by first | omega | exact rfl | (simp only [List.length_map]; omega) | (simp [room]; done) | (simp [room]; omega) | (simp [dropL, room]; done) | (simp [dropL, room]; omega)) ?_ | refine Nam.mk (List.length_map _) ?_ | refine Prep.skip ?_ | refine Eith.l ?_ | refine chk_t (x := D.flat _) (by assumption) ?_ | refine br_mk (fun _ => ?_) (fun _ => ?_) | refine ANext.keys (fun _ => ?_) (fun j k hk => (by simp at hk)) | fail)
          all_goals first | (exfalso; omega) | skip
          all_goals (conv => whnf)
          have hmap : ks.map Key.d = ks.map fun x => D.agg x.cells := rfl
          refine ACall.sort Try.sortKey 3 (by decide) (fun w => run_isAgg (tyOf_ok ttok (show tyOf tt 38 = some _ from rfl)) w) (fun w => run_sizeOf' (tyOf_ok ttok (show tyOf tt 38 = some _ from rfl)) w) Key.cells (fun _ => rfl)
            (fun x c hc => by simp only [Key.cells, List.mem_cons, List.not_mem_nil, or_false] at hc; rcases hc with rfl | rfl | rfl <;> rfl) cfKey swoKey branches_compare (enters_of Try.func69 (by kernel_rfl) rfl) (l := ks) (congrArg (fun r => some (Blk.row v 3 false r)) hmap) (by simp [hnl]) (by omega) (fun l' hp hs => ?_)
          have hl' : l' = confM b no := by
            rw [hfin l' (hp.trans hpm)]
            intro p q x y hpq hx hy
            have := hs p q x y hpq hx hy
            rwa [cfKey_lt] at this
          subst hl'
          have hcl2 : n = ((confM b no).map fun x => D.agg x.cells).length := by rw [List.length_map, hp.length_eq, hnl]
          repeat' ((conv => whnf); first | with_reducible refine Dec.t (show true = true from rfl) ?_ | with_reducible refine Dec.t (show false = false from rfl) ?_ | with_reducible refine Dec.f (show ¬ (true = false) by decide) ?_ | with_reducible refine Dec.f (show ¬ (false = true) by decide) ?_ | refine Dec.t (by omega) ?_ | refine Dec.f (by omega) ?_ | refine Dec.split (fun _ => ?_) (fun _ => ?_) | refine Wr.id (by omega) ?_ | refine Chk.mk (by first | omega | exact rfl | (simp only [List.length_map]; omega) | (simp [room]; done) | (simp [room]; omega) | (simp [dropL, room]; done) | (simp [dropL, room]; omega)) ?_ | refine Nam.mk (List.length_map _) ?_ | refine Prep.skip ?_ | refine Eith.l ?_ | refine chk_t (x := D.flat _) (by assumption) ?_ | refine br_mk (fun _ => ?_) (fun _ => ?_) | refine Chk.mk ⟨rfl, by rw [← hcl2]; omega⟩ ?_ | refine Nam.mk (whole hcl2) ?_ | fail)
          all_goals (conv => whnf)
          all_goals first | exact DLe.refl _
        · repeat' ((conv => whnf); first | with_reducible refine Dec.t (show true = true from rfl) ?_ | with_reducible refine Dec.t (show false = false from rfl) ?_ | with_reducible refine Dec.f (show ¬ (true = false) by decide) ?_ | with_reducible refine Dec.f (show ¬ (false = true) by decide) ?_ | refine Dec.t (by omega) ?_ | refine Dec.f (by omega) ?_ | refine Dec.split (fun _ => ?_) (fun _ => ?_) | refine Wr.id (by omega) ?_ | refine Chk.mk (by first | omega | exact rfl | (simp only [List.length_map]; omega) | (simp [room]; done) | (simp [room]; omega) | (simp [dropL, room]; done) | (simp [dropL, room]; omega)) ?_ | refine Nam.mk (List.length_map _) ?_ | refine Prep.skip ?_ | refine Eith.l ?_ | refine chk_t (x := D.flat _) (by assumption) ?_ | refine br_mk (fun _ => ?_) (fun _ => ?_) | refine ANext.keys (fun hz => absurd hz hL) (fun j k hk => ?_) | refine Chk.mk ⟨rfl, by simp [hnl], by simp [room]; omega⟩ ?_ | fail)
          all_goals first | (exfalso; omega) | skip
          all_goals (conv => whnf)
          have hpe := erase_perm hk
          have hle := hpe.length_eq
          simp only [List.length_cons] at hle
          all_goals first
            | exact ⟨⟨v + 1, n + 1, ks ++ [k], L.eraseIdx j, some (k.d, .b true)⟩, Wm.end (by repeat (first | exact trivial | refine And.intro rfl ?_ | refine And.intro (congrArg (fun n => V.d (I n)) (wrap_nat _ (by omega))) ?_)) (congrArg (fun r => [Blk.vard b.d.cells, Blk.map tt 38 (setE F), Blk.gone, Blk.var [V.map 2], Blk.var [V.sref 7 (v + 1) 0 (n + 1) false], _, _, Blk.row (v + 1) 3 false r]) (by rw [List.map_append]; rfl)) rfl rfl, ⟨by rw [List.append_assoc]; exact (List.Perm.append_left ks hpe.symm).trans hpm, by simp [hnl]⟩, by simp only; omega⟩
end Go.PM

