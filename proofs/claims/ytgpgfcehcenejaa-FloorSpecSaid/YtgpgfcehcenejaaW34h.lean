/- Package floor: Check and Shipped. -/
import Derived.Test.YtgpgfcehcenejaaW34g
import Derived.Test.YtgpgfcehcenejaaPmSort
import Derived.Ground.SlsfProg
namespace Go.Proofs
open Go.Shelf
def Try.sortFlow_ren : Go.Shelf.Ren := ⟨fun | 6 => 26 | 15 => 41 | 14 => 40 | 28 => 57 | 29 => 58 | 20 => 49 | 21 => 50 | 22 => 51 | 23 => 52 | 24 => 53 | 25 => 54 | 26 => 55 | 27 => 56 | 46 => 59 | 47 => 60 | 48 => 61 | 49 => 62 | 50 => 63 | 57 => 64 | n => n, fun | 22 => 23 | 24 => 38 | 25 => 55 | 3 => 3 | 39 => 68 | 0 => 0 | 53 => 83 | 55 => 85 | 4 => 4 | 46 => 76 | 45 => 75 | 50 => 80 | 5 => 5 | 9 => 9 | 66 => 86 | 70 => 90 | 76 => 92 | 77 => 93 | n => n, fun | n => n⟩
theorem Try.sortFlow : Go.Proofs.SlLaysF0.n6 Try.prog Try.sortFlow_ren := {
  mixed := by kernel_rfl
  f6 := ⟨Try.f26.name, by decide, Try.func26.trans (congrArg some (by kernel_rfl))⟩
  f14 := ⟨Try.f40.name, by decide, Try.func40.trans (congrArg some (by kernel_rfl))⟩
  f15 := Try.func41.trans (congrArg some (by kernel_rfl))
  f20 := ⟨Try.f49.name, by decide, Try.func49.trans (congrArg some (by kernel_rfl))⟩
  f21 := ⟨Try.f50.name, by decide, Try.func50.trans (congrArg some (by kernel_rfl))⟩
  f22 := ⟨Try.f51.name, by decide, Try.func51.trans (congrArg some (by kernel_rfl))⟩
  f23 := ⟨Try.f52.name, by decide, Try.func52.trans (congrArg some (by kernel_rfl))⟩
  f24 := ⟨Try.f53.name, by decide, Try.func53.trans (congrArg some (by kernel_rfl))⟩
  f25 := ⟨Try.f54.name, by decide, Try.func54.trans (congrArg some (by kernel_rfl))⟩
  f26 := ⟨Try.f55.name, by decide, Try.func55.trans (congrArg some (by kernel_rfl))⟩
  f27 := ⟨Try.f56.name, by decide, Try.func56.trans (congrArg some (by kernel_rfl))⟩
  f28 := Try.func57.trans (congrArg some (by kernel_rfl))
  f29 := Try.func58.trans (congrArg some (by kernel_rfl))
  f46 := ⟨Try.f59.name, by decide, Try.func59.trans (congrArg some (by kernel_rfl))⟩
  f47 := Try.func60.trans (congrArg some (by kernel_rfl))
  f48 := Try.func61.trans (congrArg some (by kernel_rfl))
  f49 := ⟨Try.f62.name, by decide, Try.func62.trans (congrArg some (by kernel_rfl))⟩
  f50 := ⟨Try.f63.name, by decide, Try.func63.trans (congrArg some (by kernel_rfl))⟩
  f57 := ⟨Try.f64.name, by decide, Try.func64.trans (congrArg some (by kernel_rfl))⟩
  t0 := Try.underlying0
  a0 := Try.isAgg0
  z0 := Try.sizeOf0
  v0 := Try.zeroValue0
  t3 := Try.underlying3
  a3 := Try.isAgg3
  z3 := Try.sizeOf3
  v3 := Try.zeroValue3
  t4 := Try.underlying4
  a4 := Try.isAgg4
  z4 := Try.sizeOf4
  v4 := Try.zeroValue4
  t5 := Try.underlying5
  a5 := Try.isAgg5
  z5 := Try.sizeOf5
  v5 := Try.zeroValue5
  t9 := Try.underlying9
  a9 := Try.isAgg9
  z9 := Try.sizeOf9
  v9 := Try.zeroValue9
  t22 := Try.underlying23
  a22 := Try.isAgg23
  z22 := Try.sizeOf23
  v22 := Try.zeroValue23
  t25 := Try.underlying55
  a25 := Try.isAgg55
  z25 := Try.sizeOf55
  v25 := Try.zeroValue55
  t39 := Try.underlying68
  a39 := Try.isAgg68
  z39 := Try.sizeOf68
  v39 := Try.zeroValue68
  t45 := Try.underlying75
  a45 := Try.isAgg75
  z45 := Try.sizeOf75
  v45 := Try.zeroValue75
  t46 := Try.underlying76
  a46 := Try.isAgg76
  z46 := Try.sizeOf76
  v46 := Try.zeroValue76
  t50 := Try.underlying80
  a50 := Try.isAgg80
  z50 := Try.sizeOf80
  v50 := Try.zeroValue80
  t53 := Try.underlying83
  a53 := Try.isAgg83
  z53 := Try.sizeOf83
  v53 := Try.zeroValue83
  t55 := Try.underlying85
  a55 := Try.isAgg85
  z55 := Try.sizeOf85
  v55 := Try.zeroValue85
  t66 := Try.underlying86
  a66 := Try.isAgg86
  z66 := Try.sizeOf86
  v66 := Try.zeroValue86
  t70 := Try.underlying90
  a70 := Try.isAgg90
  z70 := Try.sizeOf90
  v70 := Try.zeroValue90
  t76 := Try.underlying92
  a76 := Try.isAgg92
  z76 := Try.sizeOf92
  v76 := Try.zeroValue92
  t77 := Try.underlying93
  a77 := Try.isAgg93
  z77 := Try.sizeOf93
  v77 := Try.zeroValue93 }

end Go.Proofs
namespace Go.PM
open Go.Proofs
set_option maxRecDepth 10000
set_option maxHeartbeats 8000000

theorem floor_Check (h : Hist) (hw : WidH h) : CallP Try.prog 15 [.d h.d] (retD [I (amtsE h)]) := by
  have hA := floor_Amounts h hw
  refine exPure_sound (E := envOf Try.prog tt Try.f15.ntmps) (envOf_ok ttok mixed) Try.func15 (by rfl) rfl rfl (Nat.le_of_ble_eq_true rfl) ?_
  repeat' ((conv => whnf); first | with_reducible refine Dec.t (show true = true from rfl) ?_ | with_reducible refine Dec.t (show false = false from rfl) ?_ | with_reducible refine Dec.f (show ¬ (true = false) by decide) ?_ | with_reducible refine Dec.f (show ¬ (false = true) by decide) ?_ | refine Dec.t (by omega) ?_ | refine Dec.f (by omega) ?_ | refine Dec.split (fun _ => ?_) (fun _ => ?_) | refine Wr.id (by omega) ?_ | refine Chk.mk (by first | omega | exact rfl | (simp only [List.length_map]; omega) | (simp [room]; done) | (simp [room]; omega) | (simp [dropL, room]; done) | (simp [dropL, room]; omega)) ?_ | refine Nam.mk (List.length_map _) ?_ | refine Prep.skip ?_ | refine Eith.l ?_ | refine chk_t (x := D.flat _) (by assumption) ?_ | refine br_mk (fun _ => ?_) (fun _ => ?_) | refine ACall.of (hA) ?_ | refine APCall.of (hA) ?_ | fail)
  all_goals (conv => whnf)
  exact DLe.refl _
def Flow.cells (f : Flow) : List D := [I f.kind, I f.per, I f.src, I f.dst, I f.amt, I f.label]
def Flow.zero : Flow := ⟨0, 0, 0, 0, 0, 0⟩
instance : Inhabited Flow := ⟨Flow.zero⟩
def cfFlow (a b : Flow) : Int := cmpI a.label b.label
theorem cfFlow_lt (a b : Flow) : cfFlow a b < 0 ↔ a.label < b.label := by
  unfold cfFlow cmpI
  repeat' split
  all_goals omega
theorem swoFlow : Go.Sort.SWO (ltOf cfFlow) where
  irrefl x := by unfold ltOf; rw [decide_eq_false]; rw [cfFlow_lt]; omega
  trans x y z h1 h2 := by
    unfold ltOf at *
    simp only [decide_eq_true_eq, cfFlow_lt] at *
    omega
  ntrans x y z h1 h2 := by
    unfold ltOf at *
    simp only [decide_eq_false_iff_not, cfFlow_lt] at *
    omega
theorem floor_Shipped1 (a b : Flow) : CallP Try.prog 27 [.d (.agg a.cells), .d (.agg b.cells)] (retD [I (cfFlow a b)]) := by
  refine exPure_sound (E := envOf Try.prog tt Try.f27.ntmps) (envOf_ok ttok mixed) Try.func27 (by rfl) rfl rfl (Nat.le_of_ble_eq_true rfl) ?_
  repeat' ((conv => whnf); first | with_reducible refine Dec.t (show true = true from rfl) ?_ | with_reducible refine Dec.t (show false = false from rfl) ?_ | with_reducible refine Dec.f (show ¬ (true = false) by decide) ?_ | with_reducible refine Dec.f (show ¬ (false = true) by decide) ?_ | refine Dec.t (by omega) ?_ | refine Dec.f (by omega) ?_ | refine Dec.split (fun _ => ?_) (fun _ => ?_) | refine Wr.id (by omega) ?_ | refine Chk.mk (by first | omega | exact rfl | (simp only [List.length_map]; omega) | (simp [room]; done) | (simp [room]; omega) | (simp [dropL, room]; done) | (simp [dropL, room]; omega)) ?_ | refine Nam.mk (List.length_map _) ?_ | refine Prep.skip ?_ | refine Eith.l ?_ | refine chk_t (x := D.flat _) (by assumption) ?_ | refine br_mk (fun _ => ?_) (fun _ => ?_) | refine APCall.of (cmp_Compare _ _) ?_ | refine ACall.of (cmp_Compare _ _) ?_ | fail)
  conv => whnf
  exact DLe.refl _
def insF : List Flow → Flow → List Flow
  | [], f => [f]
  | g :: r, f => if g.label < f.label then g :: insF r f else f :: g :: r
def isOut (f : Flow) : Bool := decide (f.kind = 3)
def sentL (fl : List Flow) : List Flow := (fl.filter isOut).foldl insF []
def labLt (a b : Flow) : Prop := a.label < b.label
theorem insF_perm : ∀ (l : List Flow) (f : Flow), (insF l f).Perm (f :: l)
  | [], f => .refl _
  | g :: r, f => by
    unfold insF
    split
    · exact ((insF_perm r f).cons g).trans (.swap f g r)
    · exact .refl _
theorem insF_sorted : ∀ (l : List Flow) (f : Flow), l.Pairwise labLt → (∀ g ∈ l, g.label ≠ f.label) → (insF l f).Pairwise labLt
  | [], f, _, _ => List.pairwise_singleton _ _
  | g :: r, f, h, hn => by
    obtain ⟨h1, h2⟩ := List.pairwise_cons.1 h
    unfold insF
    split
    · rename_i hlt
      refine List.pairwise_cons.2 ⟨fun x hx => ?_, insF_sorted r f h2 fun x hx => hn x (.tail _ hx)⟩
      rcases List.mem_cons.1 ((insF_perm r f).subset hx) with rfl | hx
      · exact hlt
      · exact h1 x hx
    · rename_i hlt
      have := hn g (.head _)
      refine List.pairwise_cons.2 ⟨fun x hx => ?_, h⟩
      rcases List.mem_cons.1 hx with rfl | hx
      · unfold labLt; omega
      · have := h1 x hx; unfold labLt at this ⊢; omega
def labNe (a b : Flow) : Prop := a.label ≠ b.label
theorem foldF_spec : ∀ (l acc : List Flow), acc.Pairwise labLt → l.Pairwise labNe → (∀ a ∈ acc, ∀ b ∈ l, a.label ≠ b.label) → (l.foldl insF acc).Pairwise labLt ∧ (l.foldl insF acc).Perm (acc ++ l)
  | [], acc, h1, _, _ => ⟨h1, by simp⟩
  | x :: l, acc, h1, h2, h3 => by
    have hp := insF_perm acc x
    obtain ⟨g1, g2⟩ := foldF_spec l (insF acc x) (insF_sorted acc x h1 fun g hg => h3 g hg x (.head _)) (List.pairwise_cons.1 h2).2 (fun a ha b hb => by
      rcases List.mem_cons.1 (hp.subset ha) with rfl | ha
      · exact (List.pairwise_cons.1 h2).1 b hb
      · exact h3 a ha b (.tail _ hb))
    exact ⟨g1, g2.trans ((hp.append_right l).trans (by simpa using (List.perm_middle (l₁ := acc) (a := x) (l₂ := l)).symm))⟩
theorem sentL_unique {fl l' : List Flow} (hl : (fl.filter isOut).Pairwise labNe) (hp : l'.Perm (fl.filter isOut)) (hs : ∀ (i j : Nat) (x y : Flow), i < j → l'[i]? = some x → l'[j]? = some y → ¬ cfFlow y x < 0) : l' = sentL fl := by
  obtain ⟨g1, g2⟩ := foldF_spec (fl.filter isOut) [] List.Pairwise.nil hl (by simp)
  simp only [List.nil_append] at g2
  have hinj : ∀ a ∈ fl.filter isOut, ∀ b ∈ fl.filter isOut, a.label = b.label → a = b := by
    intro a ha b hb e
    obtain ⟨i, hi, rfl⟩ := List.getElem_of_mem ha
    obtain ⟨j, hj, rfl⟩ := List.getElem_of_mem hb
    rw [List.pairwise_iff_getElem] at hl
    rcases Nat.lt_trichotomy i j with h | h | h
    · exact absurd e (hl i j hi hj h)
    · subst h; rfl
    · exact absurd e.symm (hl j i hj hi h)
  have h' : l'.Pairwise (fun a b => ¬ labLt b a) := by
    rw [List.pairwise_iff_getElem]
    intro i j hi hj hij
    have := hs i j _ _ hij (List.getElem?_eq_getElem hi) (List.getElem?_eq_getElem hj)
    rw [cfFlow_lt] at this
    exact this
  refine List.Perm.eq_of_pairwise (le := fun a b => ¬ labLt b a) (fun a b ha hb h1 h2 => ?_) h' (g1.imp fun {a b} h => ?_) (hp.trans g2.symm)
  · refine hinj a (hp.subset ha) b (g2.subset hb) ?_
    unfold labLt at h1 h2; omega
  · unfold labLt at h ⊢; omega
theorem Hist.ok.labs {h : Hist} (hok : h.ok) : (h.fl.filter isOut).Pairwise labNe := by
  have h1 := (hok.lab.filter isOut)
  refine h1.imp_of_mem fun {a b} ha hb hn => ?_
  have ha := of_decide_eq_true (List.mem_filter.1 ha).2
  have hb := of_decide_eq_true (List.mem_filter.1 hb).2
  exact fun e => hn ⟨ha, hb, e⟩
def shipL (h : Hist) : List Int := if amtsE h = 0 then (sentL h.fl).map Flow.label else []
def shipA (h : Hist) : List Int := if amtsE h = 0 then (sentL h.fl).map Flow.amt else []
theorem amtsE_ok {h : Hist} (he : amtsE h = 0) : h.ok := by
  unfold amtsE at he
  split at he
  · assumption
  · cases he
structure XS2 where
  i : Nat
  v : Nat
  n : Nat
  d : List D
  v2 : Nat
  n2 : Nat
  d2 : List D
structure XSh where
  i : Nat
  vr : Nat
  lr : Nat
  ds : List D
theorem floor_Shipped (h : Hist) (hw : WidH h) : CallP Try.prog 13 [.d h.d] (retD [SL 1 ((shipL h).map I), SL 1 ((shipA h).map I), I (amtsE h)]) := by
  have hC := floor_Check h hw
  refine exPure_sound (E := envOf Try.prog tt Try.f13.ntmps) (envOf_ok ttok mixed) Try.func13 (by rfl) rfl rfl (Nat.le_of_ble_eq_true rfl) ?_
  by_cases he : amtsE h = 0
  · have hok := amtsE_ok he
    have hnf := hok.nf
    unfold shipL shipA
    rw [if_pos he, if_pos he]
    rw [he] at hC ⊢
    repeat' ((conv => whnf); first | with_reducible refine Dec.t (show true = true from rfl) ?_ | with_reducible refine Dec.t (show false = false from rfl) ?_ | with_reducible refine Dec.f (show ¬ (true = false) by decide) ?_ | with_reducible refine Dec.f (show ¬ (false = true) by decide) ?_ | refine Dec.t (by omega) ?_ | refine Dec.f (by omega) ?_ | refine Dec.split (fun _ => ?_) (fun _ => ?_) | refine Wr.id (by omega) ?_ | refine Chk.mk (by first | omega | exact rfl | (simp only [List.length_map]; omega) | (simp [room]; done) | (simp [room]; omega) | (simp [dropL, room]; done) | (simp [dropL, room]; omega)) ?_ | refine Nam.mk (List.length_map _) ?_ | refine Prep.skip ?_ | refine Eith.l ?_ | refine chk_t (x := D.flat _) (by assumption) ?_ | refine br_mk (fun _ => ?_) (fun _ => ?_) | refine ACall.of (hC) ?_ | refine APCall.of (hC) ?_ | fail)
    all_goals (conv => whnf)
    refine ALoop.virt 5 0 6 false (by decide) rfl ?_
    conv => whnf
    refine ALoop.at (E := envOf Try.prog tt Try.f13.ntmps) (envOf_ok ttok mixed) (X := XSh) (fun x => [(18, .d (I x.i)), (5, .sref 1 x.vr 0 x.lr false)]) (fun x => [(1, .row x.vr 6 false x.ds)])
      (fun x => x.i ≤ h.fl.length ∧ x.lr ≤ x.i ∧ x.lr = x.ds.length ∧ x.ds = ((h.fl.take x.i).filter isOut).map Flow.d) (fun x => h.fl.length - x.i)
      ⟨0, 0, 0, []⟩ (by repeat (first | exact trivial | refine And.intro rfl ?_ | refine And.intro (congrArg (fun n => V.d (I n)) (wrap_nat _ (by omega))) ?_)) rfl ⟨Nat.zero_le _, Nat.zero_le _, rfl, rfl⟩ ?_
    rintro ⟨i, vr, lr, ds⟩ ⟨hi, hi1, hlr, hds⟩
    simp only at hi hi1 hlr hds
    dsimp only
    by_cases hlt : i < h.fl.length
    · obtain ⟨x, hx, _⟩ := drop_get hlt
      have yes : isOut x = true → i + 1 ≤ h.fl.length ∧ lr + 1 ≤ i + 1 ∧ lr + 1 = (ds ++ [x.d]).length ∧ ds ++ [x.d] = ((h.fl.take (i + 1)).filter isOut).map Flow.d := fun h => by
        refine ⟨hlt, by omega, by rw [List.length_append, hlr]; rfl, ?_⟩
        rw [List.take_add_one, hx, hds, List.filter_append, List.map_append]
        simp [h]
      have no : isOut x = false → i + 1 ≤ h.fl.length ∧ lr ≤ i + 1 ∧ lr = ds.length ∧ ds = ((h.fl.take (i + 1)).filter isOut).map Flow.d := fun h => by
        refine ⟨hlt, by omega, hlr, ?_⟩
        rw [List.take_add_one, hx, hds, List.filter_append, List.map_append]
        simp [h]
      clear hds
      repeat' ((conv => whnf); first | with_reducible refine Dec.t (show true = true from rfl) ?_ | with_reducible refine Dec.t (show false = false from rfl) ?_ | with_reducible refine Dec.f (show ¬ (true = false) by decide) ?_ | with_reducible refine Dec.f (show ¬ (false = true) by decide) ?_ | refine Dec.t (by omega) ?_ | refine Dec.f (by omega) ?_ | refine Dec.split (fun _ => ?_) (fun _ => ?_) | refine Wr.id (by omega) ?_ | refine Chk.mk (by first | omega | exact rfl | (simp only [List.length_map]; omega) | (simp [room]; done) | (simp [room]; omega) | (simp [dropL, room]; done) | (simp [dropL, room]; omega)) ?_ | refine Nam.mk (List.length_map _) ?_ | refine Prep.skip ?_ | refine Eith.l ?_ | refine chk_t (x := D.flat _) (by assumption) ?_ | refine br_mk (fun _ => ?_) (fun _ => ?_) | refine nthK_mk (map_get hx) ?_ | refine Chk.mk ⟨rfl, by simp [hlr], by simp [room]; omega⟩ ?_ | fail)
      all_goals (conv => whnf)
      all_goals first
        | (have hf : isOut x = true := decide_eq_true (by omega)
           exact ⟨⟨i + 1, vr + 1, lr + 1, ds ++ [x.d]⟩, Wm.end (by repeat (first | exact trivial | refine And.intro rfl ?_ | refine And.intro (congrArg (fun n => V.d (I n)) (wrap_nat _ (by omega))) ?_)) rfl rfl rfl, yes hf, by simp only; omega⟩)
        | (have hf : isOut x = false := decide_eq_false (by omega)
           exact ⟨⟨i + 1, vr, lr, ds⟩, Wm.end (by repeat (first | exact trivial | refine And.intro rfl ?_ | refine And.intro (congrArg (fun n => V.d (I n)) (wrap_nat _ (by omega))) ?_)) rfl rfl rfl, no hf, by simp only; omega⟩)
    · have : i = h.fl.length := by omega
      subst this
      rw [List.take_length] at hds
      subst hds
      have hP := hok.labs
      have hlen2 : (h.fl.filter isOut).length ≤ h.fl.length := List.length_filter_le _ _
      have hun := fun l' => sentL_unique (l' := l') hP
      generalize h.fl.filter isOut = M at hP hlen2 hlr hun
      rw [List.length_map] at hlr
      subst hlr
      repeat' ((conv => whnf); first | with_reducible refine Dec.t (show true = true from rfl) ?_ | with_reducible refine Dec.t (show false = false from rfl) ?_ | with_reducible refine Dec.f (show ¬ (true = false) by decide) ?_ | with_reducible refine Dec.f (show ¬ (false = true) by decide) ?_ | refine Dec.t (by omega) ?_ | refine Dec.f (by omega) ?_ | refine Dec.split (fun _ => ?_) (fun _ => ?_) | refine Wr.id (by omega) ?_ | refine Chk.mk (by first | omega | exact rfl | (simp only [List.length_map]; omega) | (simp [room]; done) | (simp [room]; omega) | (simp [dropL, room]; done) | (simp [dropL, room]; omega)) ?_ | refine Nam.mk (List.length_map _) ?_ | refine Prep.skip ?_ | refine Eith.l ?_ | refine chk_t (x := D.flat _) (by assumption) ?_ | refine br_mk (fun _ => ?_) (fun _ => ?_) | fail)
      all_goals (conv => whnf)
      refine ACall.sort Try.sortFlow 6 (by decide) (fun w => run_isAgg (tyOf_ok ttok (show tyOf tt 38 = some _ from rfl)) w) (fun w => run_sizeOf' (tyOf_ok ttok (show tyOf tt 38 = some _ from rfl)) w) Flow.cells (fun _ => rfl)
        (fun x c hc => by simp only [Flow.cells, List.mem_cons, List.not_mem_nil, or_false] at hc; rcases hc with rfl | rfl | rfl | rfl | rfl | rfl <;> rfl) cfFlow swoFlow floor_Shipped1 (enters_of Try.func27 (by kernel_rfl) rfl) (l := M) rfl rfl (by omega) (fun l' hp hs => ?_)
      have hlu := hp.length_eq
      rw [hun l' hp hs] at hlu ⊢
      generalize sentL h.fl = Z at hlu
      clear hun hP hp hs
      repeat' ((conv => whnf); first | with_reducible refine Dec.t (show true = true from rfl) ?_ | with_reducible refine Dec.t (show false = false from rfl) ?_ | with_reducible refine Dec.f (show ¬ (true = false) by decide) ?_ | with_reducible refine Dec.f (show ¬ (false = true) by decide) ?_ | refine Dec.t (by omega) ?_ | refine Dec.f (by omega) ?_ | refine Dec.split (fun _ => ?_) (fun _ => ?_) | refine Wr.id (by omega) ?_ | refine Chk.mk (by first | omega | exact rfl | (simp only [List.length_map]; omega) | (simp [room]; done) | (simp [room]; omega) | (simp [dropL, room]; done) | (simp [dropL, room]; omega)) ?_ | refine Nam.mk (List.length_map _) ?_ | refine Prep.skip ?_ | refine Eith.l ?_ | refine chk_t (x := D.flat _) (by assumption) ?_ | refine br_mk (fun _ => ?_) (fun _ => ?_) | refine Nam.mk (y := Z.map Flow.d) (whole (by rw [List.length_map]; exact hlu.symm)) ?_ | fail)
      all_goals (conv => whnf)
      refine ALoop.virt 2 0 1 false (by decide) rfl ?_
      conv => whnf
      refine ALoop.virt 3 0 1 false (by decide) rfl ?_
      conv => whnf
      refine ALoop.at (E := envOf Try.prog tt Try.f13.ntmps) (envOf_ok ttok mixed) (X := XS2) (fun x => [(34, .d (I x.i)), (2, .sref 2 x.v 0 x.n false), (3, .sref 3 x.v2 0 x.n2 false)]) (fun x => [(2, .row x.v 1 false x.d), (3, .row x.v2 1 false x.d2)])
        (fun x => x.i ≤ Z.length ∧ x.i = x.n ∧ x.i = x.n2 ∧ x.d = ((Z.take x.i).map Flow.label).map I ∧ x.d2 = ((Z.take x.i).map Flow.amt).map I) (fun x => Z.length - x.i)
        ⟨0, 0, 0, [], 0, 0, []⟩ (by repeat (first | exact trivial | refine And.intro rfl ?_ | refine And.intro (congrArg (fun n => V.d (I n)) (wrap_nat _ (by omega))) ?_)) rfl ⟨Nat.zero_le _, rfl, rfl, rfl, rfl⟩ ?_
      rintro ⟨i, v, n, d, v2, n2, d2⟩ ⟨hi, e1, e2, e3, e4⟩
      simp only at hi e1 e2 e3 e4
      subst e1
      subst e2 e3 e4
      dsimp only
      by_cases hlt : i < Z.length
      · obtain ⟨x, hx, _⟩ := drop_get hlt
        have hx0 : (Z.map fun x => D.agg x.cells)[0 + (i : Int).toNat]? = some (D.agg x.cells) := by rw [Nat.zero_add]; exact map_get hx
        repeat' ((conv => whnf); first | with_reducible refine Dec.t (show true = true from rfl) ?_ | with_reducible refine Dec.t (show false = false from rfl) ?_ | with_reducible refine Dec.f (show ¬ (true = false) by decide) ?_ | with_reducible refine Dec.f (show ¬ (false = true) by decide) ?_ | refine Dec.t (by omega) ?_ | refine Dec.f (by omega) ?_ | refine Dec.split (fun _ => ?_) (fun _ => ?_) | refine Wr.id (by omega) ?_ | refine Chk.mk (by first | omega | exact rfl | (simp only [List.length_map]; omega) | (simp [room]; done) | (simp [room]; omega) | (simp [dropL, room]; done) | (simp [dropL, room]; omega)) ?_ | refine Nam.mk (List.length_map _) ?_ | refine Prep.skip ?_ | refine Eith.l ?_ | refine chk_t (x := D.flat _) (by assumption) ?_ | refine br_mk (fun _ => ?_) (fun _ => ?_) | refine nthK_mk hx0 ?_ | refine Chk.mk ⟨rfl, by simp; omega, by simp [room]; omega⟩ ?_ | fail)
        all_goals first | (exfalso; omega) | skip
        all_goals (conv => whnf)
        all_goals first
          | exact ⟨⟨i + 1, v + 1, i + 1, ((Z.take i).map Flow.label).map I ++ [I x.label], v2 + 1, i + 1, ((Z.take i).map Flow.amt).map I ++ [I x.amt]⟩, Wm.end (by repeat (first | exact trivial | refine And.intro rfl ?_ | refine And.intro (congrArg (fun n => V.d (I n)) (wrap_nat _ (by omega))) ?_)) rfl rfl rfl, ⟨hlt, rfl, rfl, by simp only; rw [List.take_add_one, hx]; simp, by simp only; rw [List.take_add_one, hx]; simp⟩, by simp only; omega⟩
      · have : i = Z.length := by omega
        subst this
        repeat' ((conv => whnf); first | with_reducible refine Dec.t (show true = true from rfl) ?_ | with_reducible refine Dec.t (show false = false from rfl) ?_ | with_reducible refine Dec.f (show ¬ (true = false) by decide) ?_ | with_reducible refine Dec.f (show ¬ (false = true) by decide) ?_ | refine Dec.t (by omega) ?_ | refine Dec.f (by omega) ?_ | refine Dec.split (fun _ => ?_) (fun _ => ?_) | refine Wr.id (by omega) ?_ | refine Chk.mk (by first | omega | exact rfl | (simp only [List.length_map]; omega) | (simp [room]; done) | (simp [room]; omega) | (simp [dropL, room]; done) | (simp [dropL, room]; omega)) ?_ | refine Nam.mk (List.length_map _) ?_ | refine Prep.skip ?_ | refine Eith.l ?_ | refine chk_t (x := D.flat _) (by assumption) ?_ | refine br_mk (fun _ => ?_) (fun _ => ?_) | refine Nam.mk (y := (Z.map Flow.label).map I) (by rw [List.drop_zero, List.take_length]; exact List.take_of_length_le (by simp)) ?_ | refine Nam.mk (y := (Z.map Flow.amt).map I) (by rw [List.drop_zero, List.take_length]; exact List.take_of_length_le (by simp)) ?_ | fail)
        all_goals first | (exfalso; omega) | skip
        all_goals (conv => whnf)
        all_goals first | exact ⟨DLe.refl _, DLe.refl _, DLe.refl _, rfl⟩
  · have e1 : shipL h = [] := by unfold shipL; rw [if_neg he]
    have e2 : shipA h = [] := by unfold shipA; rw [if_neg he]
    rw [e1, e2]
    repeat' ((conv => whnf); first | with_reducible refine Dec.t (show true = true from rfl) ?_ | with_reducible refine Dec.t (show false = false from rfl) ?_ | with_reducible refine Dec.f (show ¬ (true = false) by decide) ?_ | with_reducible refine Dec.f (show ¬ (false = true) by decide) ?_ | refine Dec.t (by omega) ?_ | refine Dec.f (by omega) ?_ | refine Dec.split (fun _ => ?_) (fun _ => ?_) | refine Wr.id (by omega) ?_ | refine Chk.mk (by first | omega | exact rfl | (simp only [List.length_map]; omega) | (simp [room]; done) | (simp [room]; omega) | (simp [dropL, room]; done) | (simp [dropL, room]; omega)) ?_ | refine Nam.mk (List.length_map _) ?_ | refine Prep.skip ?_ | refine Eith.l ?_ | refine chk_t (x := D.flat _) (by assumption) ?_ | refine br_mk (fun _ => ?_) (fun _ => ?_) | refine ACall.of (hC) ?_ | refine APCall.of (hC) ?_ | fail)
    all_goals (conv => whnf)
    exact ⟨DLe.nil 0 1 true, DLe.nil 0 1 true, DLe.refl _, rfl⟩
end Go.PM

