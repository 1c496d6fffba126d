/- stock.Usable. -/
import Derived.Test.YtbmnckaajofjmaaDoorS18a
import Derived.Test.YtbmnckaajofjmaaDoorPmSort
import Derived.Ground.SlsfProg
namespace Go.Proofs
open Go.Shelf
def Tryd.sortLot_ren : Go.Shelf.Ren := ⟨fun | 6 => 35 | 15 => 54 | 14 => 53 | 28 => 72 | 29 => 73 | 20 => 64 | 21 => 65 | 22 => 66 | 23 => 67 | 24 => 68 | 25 => 69 | 26 => 70 | 27 => 71 | 46 => 80 | 47 => 81 | 48 => 82 | 49 => 83 | 50 => 84 | 57 => 85 | n => n, fun | 22 => 49 | 24 => 44 | 25 => 91 | 3 => 3 | 39 => 113 | 0 => 0 | 53 => 136 | 55 => 138 | 4 => 4 | 46 => 130 | 45 => 129 | 50 => 102 | 5 => 5 | 9 => 9 | 66 => 139 | 70 => 98 | 76 => 144 | 77 => 145 | n => n, fun | n => n⟩
theorem Tryd.sortLot : Go.Proofs.SlLaysF0.n6 Tryd.prog Tryd.sortLot_ren := {
  mixed := by kernel_rfl
  f6 := ⟨Tryd.f35.name, by decide, Tryd.func35.trans (congrArg some (by kernel_rfl))⟩
  f14 := ⟨Tryd.f53.name, by decide, Tryd.func53.trans (congrArg some (by kernel_rfl))⟩
  f15 := Tryd.func54.trans (congrArg some (by kernel_rfl))
  f20 := ⟨Tryd.f64.name, by decide, Tryd.func64.trans (congrArg some (by kernel_rfl))⟩
  f21 := ⟨Tryd.f65.name, by decide, Tryd.func65.trans (congrArg some (by kernel_rfl))⟩
  f22 := ⟨Tryd.f66.name, by decide, Tryd.func66.trans (congrArg some (by kernel_rfl))⟩
  f23 := ⟨Tryd.f67.name, by decide, Tryd.func67.trans (congrArg some (by kernel_rfl))⟩
  f24 := ⟨Tryd.f68.name, by decide, Tryd.func68.trans (congrArg some (by kernel_rfl))⟩
  f25 := ⟨Tryd.f69.name, by decide, Tryd.func69.trans (congrArg some (by kernel_rfl))⟩
  f26 := ⟨Tryd.f70.name, by decide, Tryd.func70.trans (congrArg some (by kernel_rfl))⟩
  f27 := ⟨Tryd.f71.name, by decide, Tryd.func71.trans (congrArg some (by kernel_rfl))⟩
  f28 := Tryd.func72.trans (congrArg some (by kernel_rfl))
  f29 := Tryd.func73.trans (congrArg some (by kernel_rfl))
  f46 := ⟨Tryd.f80.name, by decide, Tryd.func80.trans (congrArg some (by kernel_rfl))⟩
  f47 := Tryd.func81.trans (congrArg some (by kernel_rfl))
  f48 := Tryd.func82.trans (congrArg some (by kernel_rfl))
  f49 := ⟨Tryd.f83.name, by decide, Tryd.func83.trans (congrArg some (by kernel_rfl))⟩
  f50 := ⟨Tryd.f84.name, by decide, Tryd.func84.trans (congrArg some (by kernel_rfl))⟩
  f57 := ⟨Tryd.f85.name, by decide, Tryd.func85.trans (congrArg some (by kernel_rfl))⟩
  t0 := Tryd.underlying0
  a0 := Tryd.isAgg0
  z0 := Tryd.sizeOf0
  v0 := Tryd.zeroValue0
  t3 := Tryd.underlying3
  a3 := Tryd.isAgg3
  z3 := Tryd.sizeOf3
  v3 := Tryd.zeroValue3
  t4 := Tryd.underlying4
  a4 := Tryd.isAgg4
  z4 := Tryd.sizeOf4
  v4 := Tryd.zeroValue4
  t5 := Tryd.underlying5
  a5 := Tryd.isAgg5
  z5 := Tryd.sizeOf5
  v5 := Tryd.zeroValue5
  t9 := Tryd.underlying9
  a9 := Tryd.isAgg9
  z9 := Tryd.sizeOf9
  v9 := Tryd.zeroValue9
  t22 := Tryd.underlying49
  a22 := Tryd.isAgg49
  z22 := Tryd.sizeOf49
  v22 := Tryd.zeroValue49
  t25 := Tryd.underlying91
  a25 := Tryd.isAgg91
  z25 := Tryd.sizeOf91
  v25 := Tryd.zeroValue91
  t39 := Tryd.underlying113
  a39 := Tryd.isAgg113
  z39 := Tryd.sizeOf113
  v39 := Tryd.zeroValue113
  t45 := Tryd.underlying129
  a45 := Tryd.isAgg129
  z45 := Tryd.sizeOf129
  v45 := Tryd.zeroValue129
  t46 := Tryd.underlying130
  a46 := Tryd.isAgg130
  z46 := Tryd.sizeOf130
  v46 := Tryd.zeroValue130
  t50 := Tryd.underlying102
  a50 := Tryd.isAgg102
  z50 := Tryd.sizeOf102
  v50 := Tryd.zeroValue102
  t53 := Tryd.underlying136
  a53 := Tryd.isAgg136
  z53 := Tryd.sizeOf136
  v53 := Tryd.zeroValue136
  t55 := Tryd.underlying138
  a55 := Tryd.isAgg138
  z55 := Tryd.sizeOf138
  v55 := Tryd.zeroValue138
  t66 := Tryd.underlying139
  a66 := Tryd.isAgg139
  z66 := Tryd.sizeOf139
  v66 := Tryd.zeroValue139
  t70 := Tryd.underlying98
  a70 := Tryd.isAgg98
  z70 := Tryd.sizeOf98
  v70 := Tryd.zeroValue98
  t76 := Tryd.underlying144
  a76 := Tryd.isAgg144
  z76 := Tryd.sizeOf144
  v76 := Tryd.zeroValue144
  t77 := Tryd.underlying145
  a77 := Tryd.isAgg145
  z77 := Tryd.sizeOf145
  v77 := Tryd.zeroValue145 }

end Go.Proofs
namespace Go.PM
open Go.Proofs
set_option maxRecDepth 10000
set_option maxHeartbeats 4000000

structure Line where
  item : Int
  plant : Int
  config : Int
  deriving DecidableEq
def Line.d (l : Line) : D := .agg [I l.item, I l.plant, I l.config]
def fitsL (line : Line) (day : Int) (x : Lot) : Bool := decide (x.item = line.item) && decide (x.plant = line.plant) && decide (x.state = 0) && decide (day < x.expiry)
/-- The one that expires first comes first. -/
def lotLt (a b : Lot) : Prop := a.expiry < b.expiry ∨ a.expiry = b.expiry ∧ a.no < b.no
instance (a b : Lot) : Decidable (lotLt a b) := by unfold lotLt; infer_instance
def cfLot (a b : Lot) : Int := orL [cmpI a.expiry b.expiry, cmpI a.no b.no]
theorem cfLot_lt (a b : Lot) : cfLot a b < 0 ↔ lotLt a b := by
  unfold cfLot lotLt
  simp only [orL, cmpI]
  repeat' split
  all_goals omega
theorem swoLot : Go.Sort.SWO (ltOf cfLot) where
  irrefl x := by unfold ltOf; rw [decide_eq_false]; rw [cfLot_lt]; unfold lotLt; omega
  trans x y z h1 h2 := by
    unfold ltOf at *
    simp only [decide_eq_true_eq, cfLot_lt] at *
    unfold lotLt at *
    omega
  ntrans x y z h1 h2 := by
    unfold ltOf at *
    simp only [decide_eq_false_iff_not, cfLot_lt] at *
    unfold lotLt at *
    omega
def Lot.cells (l : Lot) : List D := [I l.no, I l.item, I l.plant, I l.amount, I l.expiry, I l.state]
instance : Inhabited Lot := ⟨Lot.zero⟩
theorem stock_Usable1 (a b : Lot) : CallP Tryd.prog 36 [.d (.agg a.cells), .d (.agg b.cells)] (retD [I (cfLot a b)]) := by
  refine exPure_sound (E := envOf Tryd.prog tt Tryd.f36.ntmps) (envOf_ok ttok mixed) Tryd.func36 (by rfl) rfl rfl (Nat.le_of_ble_eq_true rfl) ?_
  repeat' ((conv => whnf); first | with_reducible refine Dec.t (show true = true from rfl) ?_ | with_reducible refine Dec.t (show false = false from rfl) ?_ | with_reducible refine Dec.f (show ¬ (true = false) by decide) ?_ | with_reducible refine Dec.f (show ¬ (false = true) by decide) ?_ | refine Dec.t (by omega) ?_ | refine Dec.f (by omega) ?_ | refine Dec.split (fun _ => ?_) (fun _ => ?_) | refine Wr.id (by omega) ?_ | refine Chk.mk (by first | omega | exact rfl | (simp only [List.length_map]; omega) | (simp [room]; done) | (simp [room]; omega) | (simp [dropL, room]; done) | (simp [dropL, room]; omega)) ?_ | refine Nam.mk (List.length_map _) ?_ | refine Prep.skip ?_ | refine Eith.l ?_ | refine chk_t (x := D.flat _) (by assumption) ?_ | refine br_mk (fun _ => ?_) (fun _ => ?_) | refine APCall.of (cmp_Compare _ _) ?_ | refine APCall.le (by repeat (first | exact trivial | exact rfl | exact DLe.refl _ | exact DLe.full _ _ _ | exact DLe.nil _ _ _ | exact VLe.refl _ | refine And.intro ?_ ?_ | refine VLe.d ?_ | refine DLe.agg ?_)) (cmp_Or [_, _] (by simp)) ?_ | refine ACall.of (cmp_Compare _ _) ?_ | refine ACall.le (by repeat (first | exact trivial | exact rfl | exact DLe.refl _ | exact DLe.full _ _ _ | exact DLe.nil _ _ _ | exact VLe.refl _ | refine And.intro ?_ ?_ | refine VLe.d ?_ | refine DLe.agg ?_)) (cmp_Or [_, _] (by simp)) ?_ | fail)
  conv => whnf
  exact DLe.refl _
def insL (l : List Lot) (x : Lot) : List Lot := l.filter (fun y => decide (y.expiry ≤ x.expiry)) ++ x :: l.filter (fun y => decide (x.expiry < y.expiry))
def usF (l : List Lot) : List Lot := l.foldl insL []
/-- Sorted by expiry, then by number. -/
theorem usF_spec : ∀ (l acc : List Lot), acc.Pairwise lotLt → l.Pairwise (fun a b => a.no < b.no) → (∀ a ∈ acc, ∀ b ∈ l, a.no < b.no) → (l.foldl insL acc).Pairwise lotLt ∧ (l.foldl insL acc).Perm (acc ++ l)
  | [], acc, h1, _, _ => ⟨h1, by simp⟩
  | x :: l, acc, h1, h2, h3 => by
    have hx : ∀ a ∈ acc, a.no < x.no := fun a ha => h3 a ha x (.head _)
    have hp : (insL acc x).Perm (x :: acc) := by
      unfold insL
      refine List.perm_middle.trans (List.Perm.cons _ ?_)
      have := List.filter_append_perm (fun y : Lot => decide (y.expiry ≤ x.expiry)) acc
      refine List.Perm.trans ?_ this
      refine List.Perm.append_left _ ?_
      rw [show (fun y : Lot => decide (x.expiry < y.expiry)) = fun y => !decide (y.expiry ≤ x.expiry) from by funext y; rw [Bool.eq_iff_iff]; simp]
    have hs : (insL acc x).Pairwise lotLt := by
      unfold insL
      rw [List.pairwise_append]
      refine ⟨h1.filter _, ?_, ?_⟩
      · rw [List.pairwise_cons]
        refine ⟨fun b hb => ?_, h1.filter _⟩
        exact .inl (of_decide_eq_true (List.mem_filter.1 hb).2)
      · intro a ha b hb
        have e1 : a.expiry ≤ x.expiry := of_decide_eq_true (List.mem_filter.1 ha).2
        have hna := hx a (List.mem_filter.1 ha).1
        rcases List.mem_cons.1 hb with rfl | hb
        · unfold lotLt; omega
        · have e2 : x.expiry < b.expiry := of_decide_eq_true (List.mem_filter.1 hb).2
          unfold lotLt; omega
    obtain ⟨g1, g2⟩ := usF_spec l (insL acc x) hs (List.pairwise_cons.1 h2).2 (fun a ha b hb => by
      rcases List.mem_cons.1 (hp.subset ha) with rfl | ha
      · exact (List.pairwise_cons.1 h2).1 b hb
      · exact h3 a ha b (.tail _ hb))
    exact ⟨g1, g2.trans ((hp.append_right l).trans (by simpa using (List.perm_middle (l₁ := acc) (a := x) (l₂ := l)).symm))⟩
theorem findM_no (l : List Fact) (no day known : Int) (h : (findM l no day known).ok = true) : (findM l no day known).l.no = no := by
  unfold findM at h ⊢
  cases e0 : atM l (lotKey no 0) day known with
  | none => simp only [e0] at h; cases h
  | some x0 => cases e1 : atM l (lotKey no 1) day known with
    | none => simp only [e0, e1] at h; cases h
    | some x1 => cases e2 : atM l (lotKey no 2) day known with
      | none => simp only [e0, e1, e2] at h; cases h
      | some x2 => cases e3 : atM l (lotKey no 3) day known with
        | none => simp only [e0, e1, e2, e3] at h; cases h
        | some x3 => cases e4 : atM l (lotKey no 4) day known with
          | none => simp only [e0, e1, e2, e3, e4] at h; cases h
          | some x4 =>
            simp only [e0, e1, e2, e3, e4] at h ⊢
            have := of_decide_eq_true h
            rw [if_pos this]
theorem lotsF_no (l : List Fact) (day known : Int) : ∀ n : Nat, (lotsF l day known n).Pairwise (fun a b => a.no < b.no) ∧ ∀ a ∈ lotsF l day known n, a.no < n
  | 0 => by simp [lotsF]
  | n + 1 => by
    obtain ⟨h1, h2⟩ := lotsF_no l day known n
    rw [lotsF_succ]
    by_cases ho : (findM l n day known).ok = true
    · rw [if_pos ho]
      have hno := findM_no l n day known ho
      refine ⟨?_, fun a ha => ?_⟩
      · rw [List.pairwise_append]
        refine ⟨h1, by simp, fun a ha b hb => ?_⟩
        rw [List.mem_singleton.1 hb, hno]; exact h2 a ha
      · rcases List.mem_append.1 ha with ha | ha
        · have := h2 a ha; omega
        · rw [List.mem_singleton.1 ha, hno]; omega
    · rw [if_neg ho, List.append_nil]
      exact ⟨h1, fun a ha => by have := h2 a ha; omega⟩
theorem lotsM_no (w : AWorld) (day known : Int) : (lotsM w day known).1.Pairwise (fun a b => a.no < b.no) := by
  unfold lotsM
  split
  · exact (lotsF_no _ _ _ _).1
  · exact List.Pairwise.nil
def usableM (w : AWorld) (line : Line) (day known : Int) : List Lot × List Read :=
  if line.config = 0 then (usF ((lotsM w day known).1.filter (fitsL line day)), (lotsM w day known).2) else ([], [])
/-- What is sorted is what the insertion lays. -/
theorem usF_unique {l l' : List Lot} (hl : l.Pairwise (fun a b => a.no < b.no)) (hp : l'.Perm l) (hs : ∀ (i j : Nat) (x y : Lot), i < j → l'[i]? = some x → l'[j]? = some y → ¬ cfLot y x < 0) : l' = usF l := by
  obtain ⟨g1, g2⟩ := usF_spec l [] List.Pairwise.nil hl (by simp)
  simp only [List.nil_append] at g2
  have hinj : ∀ a ∈ l, ∀ b ∈ l, a.no = b.no → a = b := by
    intro a ha b hb e
    obtain ⟨i, hi, rfl⟩ := List.getElem_of_mem ha
    obtain ⟨j, hj, rfl⟩ := List.getElem_of_mem hb
    rw [List.pairwise_iff_getElem] at hl
    rcases Nat.lt_trichotomy i j with h | h | h
    · have := hl i j hi hj h; omega
    · subst h; rfl
    · have := hl j i hj hi h; omega
  have h' : l'.Pairwise (fun a b => ¬ lotLt b a) := by
    rw [List.pairwise_iff_getElem]
    intro i j hi hj hij
    rw [← cfLot_lt]
    exact hs i j _ _ hij (List.getElem?_eq_getElem hi) (List.getElem?_eq_getElem hj)
  refine List.Perm.eq_of_pairwise (le := fun a b => ¬ lotLt b a) (fun a b ha hb h1 h2 => ?_) h' (g1.imp fun {a b} h => ?_) (hp.trans g2.symm)
  · refine hinj a (hp.subset ha) b (g2.subset hb) ?_
    unfold lotLt at h1 h2; omega
  · unfold lotLt at h ⊢; omega
structure XUs where
  i : Nat
  vr : Nat
  lr : Nat
  ds : List D
theorem stock_Usable (w : AWorld) (line : Line) (day known : Int) (hl : w.facts.length < 2 ^ 40) : CallP Tryd.prog 17 [.d w.d, .d line.d, .d (I day), .d (I known)] (retD [SL 6 ((usableM w line day known).1.map Lot.d), SL 5 ((usableM w line day known).2.map Read.d)]) := by
  refine exPure_sound (E := envOf Tryd.prog tt Tryd.f17.ntmps) (envOf_ok ttok mixed) Tryd.func17 (by rfl) rfl rfl (Nat.le_of_ble_eq_true rfl) ?_
  unfold usableM
  by_cases hc : line.config = 0
  · rw [if_pos hc]
    have hL := stock_Lots w day known hl
    have hno := lotsM_no w day known
    have hlen : (lotsM w day known).1.length ≤ 1024 := by
      unfold lotsM
      split
      · refine Nat.le_trans (lotsF_len _ _ _ _) ?_
        unfold manyM
        split
        · omega
        · split <;> omega
      · exact Nat.zero_le _
    generalize lotsM w day known = q at hL hno hlen
    obtain ⟨L, rs⟩ := q
    simp only at hL hno hlen ⊢
    repeat' ((conv => whnf); first | with_reducible refine Dec.t (show true = true from rfl) ?_ | with_reducible refine Dec.t (show false = false from rfl) ?_ | with_reducible refine Dec.f (show ¬ (true = false) by decide) ?_ | with_reducible refine Dec.f (show ¬ (false = true) by decide) ?_ | refine Dec.t (by omega) ?_ | refine Dec.f (by omega) ?_ | refine Dec.split (fun _ => ?_) (fun _ => ?_) | refine Wr.id (by omega) ?_ | refine Chk.mk (by first | omega | exact rfl | (simp only [List.length_map]; omega) | (simp [room]; done) | (simp [room]; omega) | (simp [dropL, room]; done) | (simp [dropL, room]; omega)) ?_ | refine Nam.mk (List.length_map _) ?_ | refine Prep.skip ?_ | refine Eith.l ?_ | refine chk_t (x := D.flat _) (by assumption) ?_ | refine br_mk (fun _ => ?_) (fun _ => ?_) | refine ACall.of (hL) ?_ | refine APCall.of (hL) ?_ | fail)
    all_goals (conv => whnf)
    refine ALoop.virt 8 0 6 false (by decide) rfl ?_
    conv => whnf
    refine ALoop.at (E := envOf Tryd.prog tt Tryd.f17.ntmps) (envOf_ok ttok mixed) (X := XUs) (fun x => [(25, .d (I x.i)), (8, .sref 2 x.vr 0 x.lr false), (9, .d (SL 5 (rs.map Read.d)))]) (fun x => [(2, .row x.vr 6 false x.ds)])
      (fun x => x.i ≤ L.length ∧ x.lr ≤ x.i ∧ x.lr = x.ds.length ∧ x.ds = ((L.take x.i).filter (fitsL line day)).map Lot.d) (fun x => L.length - x.i)
      ⟨0, 0, 0, []⟩ (by repeat (first | exact trivial | refine And.intro rfl ?_ | refine And.intro (congrArg (fun n => V.d (I n)) (wrap_nat _ (by omega))) ?_)) rfl ⟨Nat.zero_le _, Nat.zero_le _, rfl, rfl⟩ ?_
    rintro ⟨i, vr, lr, ds⟩ ⟨hi, hi1, hlr, hds⟩
    simp only at hi hi1 hlr hds
    dsimp only
    by_cases hlt : i < L.length
    · obtain ⟨x, hx, _⟩ := drop_get hlt
      have yes : fitsL line day x = true → i + 1 ≤ L.length ∧ lr + 1 ≤ i + 1 ∧ lr + 1 = (ds ++ [x.d]).length ∧ ds ++ [x.d] = ((L.take (i + 1)).filter (fitsL line day)).map Lot.d := fun h => by
        refine ⟨hlt, by omega, by rw [List.length_append, hlr]; rfl, ?_⟩
        rw [List.take_add_one, hx, hds, List.filter_append, List.map_append]
        simp [h]
      have no : fitsL line day x = false → i + 1 ≤ L.length ∧ lr ≤ i + 1 ∧ lr = ds.length ∧ ds = ((L.take (i + 1)).filter (fitsL line day)).map Lot.d := fun h => by
        refine ⟨hlt, by omega, hlr, ?_⟩
        rw [List.take_add_one, hx, hds, List.filter_append, List.map_append]
        simp [h]
      clear hds
      repeat' ((conv => whnf); first | with_reducible refine Dec.t (show true = true from rfl) ?_ | with_reducible refine Dec.t (show false = false from rfl) ?_ | with_reducible refine Dec.f (show ¬ (true = false) by decide) ?_ | with_reducible refine Dec.f (show ¬ (false = true) by decide) ?_ | refine Dec.t (by omega) ?_ | refine Dec.f (by omega) ?_ | refine Dec.split (fun _ => ?_) (fun _ => ?_) | refine Wr.id (by omega) ?_ | refine Chk.mk (by first | omega | exact rfl | (simp only [List.length_map]; omega) | (simp [room]; done) | (simp [room]; omega) | (simp [dropL, room]; done) | (simp [dropL, room]; omega)) ?_ | refine Nam.mk (List.length_map _) ?_ | refine Prep.skip ?_ | refine Eith.l ?_ | refine chk_t (x := D.flat _) (by assumption) ?_ | refine br_mk (fun _ => ?_) (fun _ => ?_) | refine nthK_mk (map_get hx) ?_ | refine Chk.mk ⟨rfl, by simp [hlr], by simp [room]; omega⟩ ?_ | fail)
      all_goals (conv => whnf)
      all_goals first
        | (have hf : fitsL line day x = true := by (unfold fitsL; simp only [Bool.and_eq_true, decide_eq_true_eq]; omega)
           exact ⟨⟨i + 1, vr + 1, lr + 1, ds ++ [x.d]⟩, Wm.end (by repeat (first | exact trivial | refine And.intro rfl ?_ | refine And.intro (congrArg (fun n => V.d (I n)) (wrap_nat _ (by omega))) ?_)) rfl rfl rfl, yes hf, by simp only; omega⟩)
        | (have hf : fitsL line day x = false := by (unfold fitsL; rw [Bool.eq_false_iff]; simp only [Ne, Bool.and_eq_true, decide_eq_true_eq]; omega)
           exact ⟨⟨i + 1, vr, lr, ds⟩, Wm.end (by repeat (first | exact trivial | refine And.intro rfl ?_ | refine And.intro (congrArg (fun n => V.d (I n)) (wrap_nat _ (by omega))) ?_)) rfl rfl rfl, no hf, by simp only; omega⟩)
    · have : i = L.length := by omega
      subst this
      rw [List.take_length] at hds
      subst hds
      have hP : (L.filter (fitsL line day)).Pairwise (fun a b => a.no < b.no) := hno.filter _
      have hlen2 : (L.filter (fitsL line day)).length ≤ L.length := List.length_filter_le _ _
      generalize L.filter (fitsL line day) = M at hP hlen2 hlr
      rw [List.length_map] at hlr
      subst hlr
      repeat' ((conv => whnf); first | with_reducible refine Dec.t (show true = true from rfl) ?_ | with_reducible refine Dec.t (show false = false from rfl) ?_ | with_reducible refine Dec.f (show ¬ (true = false) by decide) ?_ | with_reducible refine Dec.f (show ¬ (false = true) by decide) ?_ | refine Dec.t (by omega) ?_ | refine Dec.f (by omega) ?_ | refine Dec.split (fun _ => ?_) (fun _ => ?_) | refine Wr.id (by omega) ?_ | refine Chk.mk (by first | omega | exact rfl | (simp only [List.length_map]; omega) | (simp [room]; done) | (simp [room]; omega) | (simp [dropL, room]; done) | (simp [dropL, room]; omega)) ?_ | refine Nam.mk (List.length_map _) ?_ | refine Prep.skip ?_ | refine Eith.l ?_ | refine chk_t (x := D.flat _) (by assumption) ?_ | refine br_mk (fun _ => ?_) (fun _ => ?_) | fail)
      all_goals (conv => whnf)
      refine ACall.sort Tryd.sortLot 6 (by decide) (fun w => run_isAgg (tyOf_ok ttok (show tyOf tt 44 = some _ from rfl)) w) (fun w => run_sizeOf' (tyOf_ok ttok (show tyOf tt 44 = some _ from rfl)) w) Lot.cells (fun _ => rfl)
        (fun x c hc => by simp only [Lot.cells, List.mem_cons, List.not_mem_nil, or_false] at hc; rcases hc with rfl | rfl | rfl | rfl | rfl | rfl <;> rfl) cfLot swoLot stock_Usable1 (enters_of Tryd.func36 (by kernel_rfl) rfl) (l := M) rfl rfl (by omega) (fun l' hp hs => ?_)
      rw [usF_unique hP hp hs]
      have hlu : (usF M).length = M.length := by rw [← usF_unique hP hp hs]; exact hp.length_eq
      repeat' ((conv => whnf); first | with_reducible refine Dec.t (show true = true from rfl) ?_ | with_reducible refine Dec.t (show false = false from rfl) ?_ | with_reducible refine Dec.f (show ¬ (true = false) by decide) ?_ | with_reducible refine Dec.f (show ¬ (false = true) by decide) ?_ | refine Dec.t (by omega) ?_ | refine Dec.f (by omega) ?_ | refine Dec.split (fun _ => ?_) (fun _ => ?_) | refine Wr.id (by omega) ?_ | refine Chk.mk (by first | omega | exact rfl | (simp only [List.length_map]; omega) | (simp [room]; done) | (simp [room]; omega) | (simp [dropL, room]; done) | (simp [dropL, room]; omega)) ?_ | refine Nam.mk (List.length_map _) ?_ | refine Prep.skip ?_ | refine Eith.l ?_ | refine chk_t (x := D.flat _) (by assumption) ?_ | refine br_mk (fun _ => ?_) (fun _ => ?_) | refine Nam.mk (y := (usF M).map Lot.d) (whole (by rw [List.length_map]; exact hlu.symm)) ?_ | fail)
      all_goals (conv => whnf)
      exact (by repeat (first | exact trivial | exact rfl | exact DLe.refl _ | exact DLe.full _ _ _ | exact DLe.nil _ _ _ | exact VLe.refl _ | refine And.intro ?_ ?_ | refine VLe.d ?_ | refine DLe.agg ?_))
  · rw [if_neg hc]
    repeat' ((conv => whnf); first | with_reducible refine Dec.t (show true = true from rfl) ?_ | with_reducible refine Dec.t (show false = false from rfl) ?_ | with_reducible refine Dec.f (show ¬ (true = false) by decide) ?_ | with_reducible refine Dec.f (show ¬ (false = true) by decide) ?_ | refine Dec.t (by omega) ?_ | refine Dec.f (by omega) ?_ | refine Dec.split (fun _ => ?_) (fun _ => ?_) | refine Wr.id (by omega) ?_ | refine Chk.mk (by first | omega | exact rfl | (simp only [List.length_map]; omega) | (simp [room]; done) | (simp [room]; omega) | (simp [dropL, room]; done) | (simp [dropL, room]; omega)) ?_ | refine Nam.mk (List.length_map _) ?_ | refine Prep.skip ?_ | refine Eith.l ?_ | refine chk_t (x := D.flat _) (by assumption) ?_ | refine br_mk (fun _ => ?_) (fun _ => ?_) | fail)
    all_goals (conv => whnf)
    all_goals exact (by repeat (first | exact trivial | exact rfl | exact DLe.refl _ | exact DLe.full _ _ _ | exact DLe.nil _ _ _ | exact VLe.refl _ | refine And.intro ?_ ?_ | refine VLe.d ?_ | refine DLe.agg ?_))
end Go.PM

