/- StockUsable, its contract. -/
import Derived.Test.YtbmnckaajofjmaaDoorL18a
namespace Go.PM
open Go.Proofs
set_option maxRecDepth 10000
set_option maxHeartbeats 8000000

def usedE (l : List Int) : List (D × D) := l.map fun n => (I n, D.b true)
theorem used_find (n : Int) : ∀ l : List Int, mapFind tt 3 (I n) (usedE l) = if n ∈ l then some (.b true) else none
  | [] => rfl
  | m :: l => by
    have ih := used_find n l
    show (if eqD tt 4 3 [I n] [I m] then some (.b true) else mapFind tt 3 (I n) (usedE l)) = _
    rw [show eqD tt 4 3 [I n] [I m] = (n == m) from rfl, ih]
    by_cases h : n = m
    · simp [h]
    · simp [h]
theorem used_put (n : Int) : ∀ l : List Int, n ∉ l → mapPut tt 3 (I n) (.b true) (usedE l) = usedE (l ++ [n])
  | [], _ => rfl
  | m :: l, h => by
    have ih := used_put n l fun hh => h (.tail _ hh)
    show (if eqD tt 4 3 [I n] [I m] then (I n, D.b true) :: usedE l else (I m, D.b true) :: mapPut tt 3 (I n) (.b true) (usedE l)) = _
    rw [show eqD tt 4 3 [I n] [I m] = (n == m) from rfl, if_neg (by simp; exact fun e => h (e ▸ .head _)), ih]
    rfl
theorem eqLine (k k' : Line) : eqD tt 4 40 k.d.cells k'.d.cells = decide (k = k') := by
  rw [show eqD tt 4 40 k.d.cells k'.d.cells = (k.item == k'.item && (k.plant == k'.plant && (k.config == k'.config && true))) from rfl]
  rw [Bool.eq_iff_iff]
  cases k; cases k'
  simp
theorem usable_mem (w : AWorld) (line : Line) (day known : Int) (x : Lot) : x ∈ (usableM w line day known).1 ↔ line.config = 0 ∧ x ∈ (lotsM w day known).1 ∧ fitsL line day x = true := by
  unfold usableM
  split
  · rename_i h
    have := (usF_spec ((lotsM w day known).1.filter (fitsL line day)) [] List.Pairwise.nil ((lotsM_no w day known).filter _) (by simp)).2
    simp only [List.nil_append] at this
    show x ∈ usF _ ↔ _
    unfold usF
    rw [this.mem_iff, List.mem_filter]
    simp [h]
  · rename_i h
    simp [h]
theorem usable_sorted (w : AWorld) (line : Line) (day known : Int) : (usableM w line day known).1.Pairwise lotLt := by
  unfold usableM
  split
  · exact (usF_spec ((lotsM w day known).1.filter (fitsL line day)) [] List.Pairwise.nil ((lotsM_no w day known).filter _) (by simp)).1
  · exact List.Pairwise.nil
theorem usable_nodup (w : AWorld) (line : Line) (day known : Int) : ((usableM w line day known).1.map Lot.no).Nodup := by
  have hn : ∀ l : List Lot, l.Pairwise (fun a b => a.no < b.no) → (l.map Lot.no).Nodup := fun l h => by
    unfold List.Nodup
    rw [List.pairwise_map]
    exact h.imp fun {a b} h => by omega
  unfold usableM
  split
  · have := (usF_spec ((lotsM w day known).1.filter (fitsL line day)) [] List.Pairwise.nil ((lotsM_no w day known).filter _) (by simp)).2
    simp only [List.nil_append] at this
    exact ((this.map Lot.no).nodup_iff).2 (hn _ ((lotsM_no w day known).filter _))
  · exact List.Pairwise.nil
theorem lots_inj {w : AWorld} {day known : Int} {x y : Lot} (hx : x ∈ (lotsM w day known).1) (hy : y ∈ (lotsM w day known).1) (h : x.no = y.no) : x = y := by
  have hl := lotsM_no w day known
  obtain ⟨i, hi, rfl⟩ := List.getElem_of_mem hx
  obtain ⟨j, hj, rfl⟩ := List.getElem_of_mem hy
  rw [List.pairwise_iff_getElem] at hl
  rcases Nat.lt_trichotomy i j with h' | h' | h'
  · have := hl i j hi hj h'; omega
  · subst h'; rfl
  · have := hl j i hj hi h'; omega
theorem law18_Usable (w : AWorld) (line other : Line) (day known : Int) (hl40 : w.facts.length < 2 ^ 63) : CallP Tryd.prog 7 [.d w.d, .d line.d, .d other.d, .d (I day), .d (I known)] (retD [.b true]) := by
  refine exPure_sound (E := envOf Tryd.prog tt Tryd.f7.ntmps) (envOf_ok ttok mixed) Tryd.func7 (by rfl) rfl rfl (Nat.le_of_ble_eq_true rfl) ?_
  have hFew := ref18_Few w hl40
  by_cases hs : few18 w.facts
  · have hl : w.facts.length ≤ 60 := hs.1
    rw [decide_eq_true hs] at hFew
    have a1 := stock_Usable w line day known (by omega)
    have a2 := stock_Usable w other day known (by omega)
    have a3 := stock_Lots w day known (by omega)
    have n1 := usableM_len w line day known
    have n2 := usableM_len w other day known
    have n3 := lotsM_len w day known
    have m1 := usable_mem w line day known
    have m2 := usable_mem w other day known
    have hsrt := usable_sorted w line day known
    have hnd := usable_nodup w line day known
    have hinj : ∀ x y : Lot, x ∈ (lotsM w day known).1 → y ∈ (lotsM w day known).1 → x.no = y.no → x = y := fun x y => lots_inj
    generalize usableM w line day known = q1 at a1 n1 m1 hsrt hnd
    generalize usableM w other day known = q2 at a2 n2 m2
    generalize lotsM w day known = q3 at a3 n3 m1 m2 hinj
    obtain ⟨U, R1⟩ := q1
    obtain ⟨M, R2⟩ := q2
    obtain ⟨L, R3⟩ := q3
    simp only at a1 n1 m1 hsrt hnd a2 n2 m2 a3 n3 hinj
    repeat' ((conv => whnf); first | with_reducible refine Dec.t (show true = true from rfl) ?_ | with_reducible refine Dec.t (show false = false from rfl) ?_ | with_reducible refine Dec.f (show ¬ (true = false) by decide) ?_ | with_reducible refine Dec.f (show ¬ (false = true) by decide) ?_ | refine Dec.t (by omega) ?_ | refine Dec.f (by omega) ?_ | refine Dec.split (fun _ => ?_) (fun _ => ?_) | refine Wr.id (by omega) ?_ | refine Chk.mk (by first | omega | exact rfl | (simp only [List.length_map]; omega) | (simp [room]; done) | (simp [room]; omega) | (simp [dropL, room]; done) | (simp [dropL, room]; omega)) ?_ | refine Nam.mk (List.length_map _) ?_ | refine Prep.skip ?_ | refine Eith.l ?_ | refine chk_t (x := D.flat _) (by assumption) ?_ | refine br_mk (fun _ => ?_) (fun _ => ?_) | refine ACall.of (law18_sane) ?_ | refine APCall.of (law18_sane) ?_ | refine ACall.of hFew ?_ | refine ACall.of a1 ?_ | refine ACall.of a2 ?_ | refine ACall.of a3 ?_ | fail)
    all_goals (conv => whnf)
    refine ALoop.at (E := envOf Tryd.prog tt Tryd.f7.ntmps) (envOf_ok ttok mixed) (X := Nat) (fun i => [(56, .d (I i))]) (fun i => [(3, .map tt 3 (usedE ((U.map Lot.no).take i)))]) (fun i => i ≤ U.length) (fun i => U.length - i) 0 (by repeat (first | exact trivial | refine And.intro rfl ?_ | refine And.intro (congrArg (fun n => V.d (I n)) (wrap_nat _ (by omega))) ?_)) rfl (Nat.zero_le _) ?_
    intro i hi
    dsimp only
    by_cases hlt : i < U.length
    · obtain ⟨x, hx, _⟩ := drop_get hlt
      obtain ⟨hc0, _, hfx⟩ := (m1 x).1 (List.mem_of_getElem? hx)
      have hf1 : x.item = line.item ∧ x.plant = line.plant ∧ x.state = 0 ∧ day < x.expiry := by unfold fitsL at hfx; simpa [Bool.and_eq_true, and_assoc] using hfx
      obtain ⟨hf1, hf2, hf3, hf4⟩ := hf1
      have hxn : (U.map Lot.no)[i]? = some x.no := map_get hx
      have hnot : x.no ∉ (U.map Lot.no).take i := fun hm => by
        obtain ⟨j, hj, hje⟩ := List.getElem_of_mem hm
        rw [List.length_take] at hj
        rw [List.getElem_take] at hje
        have h1 := List.pairwise_iff_getElem.1 hnd j i (by omega) (by rw [List.length_map]; exact hlt) (by omega)
        exact h1 (hje.trans (List.getElem?_eq_some_iff.1 hxn).2.symm)
      have hfind : mapFind tt 3 (I x.no) (usedE ((U.map Lot.no).take i)) = none := by rw [used_find, if_neg hnot]
      have hget : (mapFind tt 3 (I x.no) (usedE ((U.map Lot.no).take i))).getD (.b false) = .b false := by rw [hfind]; rfl
      have hput : mapPut tt 3 (I x.no) (.b true) (usedE ((U.map Lot.no).take i)) = usedE ((U.map Lot.no).take (i + 1)) := by
        rw [used_put _ _ hnot, List.take_add_one, hxn]; rfl
      clear m1 m2 hinj hfx hnd
      by_cases hi0 : i = 0
      · repeat' ((conv => whnf); first | with_reducible refine Dec.t (show true = true from rfl) ?_ | with_reducible refine Dec.t (show false = false from rfl) ?_ | with_reducible refine Dec.f (show ¬ (true = false) by decide) ?_ | with_reducible refine Dec.f (show ¬ (false = true) by decide) ?_ | refine Dec.t (by omega) ?_ | refine Dec.f (by omega) ?_ | refine Dec.split (fun _ => ?_) (fun _ => ?_) | refine Wr.id (by omega) ?_ | refine Chk.mk (by first | omega | exact rfl | (simp only [List.length_map]; omega) | (simp [room]; done) | (simp [room]; omega) | (simp [dropL, room]; done) | (simp [dropL, room]; omega)) ?_ | refine Nam.mk (List.length_map _) ?_ | refine Prep.skip ?_ | refine Eith.l ?_ | refine chk_t (x := D.flat _) (by assumption) ?_ | refine br_mk (fun _ => ?_) (fun _ => ?_) | refine nthK_mk (map_get hx) ?_ | refine Nam.mk hget ?_ | fail)
        all_goals (conv => whnf)
        all_goals exact ⟨i + 1, Wm.end (by repeat (first | exact trivial | refine And.intro rfl ?_ | refine And.intro (congrArg (fun n => V.d (I n)) (wrap_nat _ (by omega))) ?_)) (congrArg (fun es => [Blk.vard w.d.cells, Blk.vard line.d.cells, Blk.vard other.d.cells, Blk.map tt 3 es]) hput) rfl rfl, hlt, by omega⟩
      · obtain ⟨z, hz0⟩ : ∃ z, U[i - 1]? = some z := ⟨_, List.getElem?_eq_getElem (by omega)⟩
        have hz : (U.map Lot.d)[((i : Int) - 1).toNat]? = some z.d := by rw [show ((i : Int) - 1).toNat = i - 1 by omega]; exact map_get hz0
        have hlt2 : lotLt z x := by
          rw [List.pairwise_iff_getElem] at hsrt
          have := hsrt (i - 1) i (by omega) hlt (by omega)
          have e1 : U[i - 1] = z := (List.getElem?_eq_some_iff.1 hz0).2
          have e2 : U[i] = x := (List.getElem?_eq_some_iff.1 hx).2
          rwa [e1, e2] at this
        unfold lotLt at hlt2
        clear hsrt
        repeat' ((conv => whnf); first | with_reducible refine Dec.t (show true = true from rfl) ?_ | with_reducible refine Dec.t (show false = false from rfl) ?_ | with_reducible refine Dec.f (show ¬ (true = false) by decide) ?_ | with_reducible refine Dec.f (show ¬ (false = true) by decide) ?_ | refine Dec.t (by omega) ?_ | refine Dec.f (by omega) ?_ | refine Dec.split (fun _ => ?_) (fun _ => ?_) | refine Wr.id (by omega) ?_ | refine Chk.mk (by first | omega | exact rfl | (simp only [List.length_map]; omega) | (simp [room]; done) | (simp [room]; omega) | (simp [dropL, room]; done) | (simp [dropL, room]; omega)) ?_ | refine Nam.mk (List.length_map _) ?_ | refine Prep.skip ?_ | refine Eith.l ?_ | refine chk_t (x := D.flat _) (by assumption) ?_ | refine br_mk (fun _ => ?_) (fun _ => ?_) | refine nthK_mk (map_get hx) ?_ | refine nthK_mk hz ?_ | refine Nam.mk hget ?_ | fail)
        all_goals (conv => whnf)
        all_goals exact ⟨i + 1, Wm.end (by repeat (first | exact trivial | refine And.intro rfl ?_ | refine And.intro (congrArg (fun n => V.d (I n)) (wrap_nat _ (by omega))) ?_)) (congrArg (fun es => [Blk.vard w.d.cells, Blk.vard line.d.cells, Blk.vard other.d.cells, Blk.map tt 3 es]) hput) rfl rfl, hlt, by omega⟩
    · have : i = U.length := by omega
      subst this
      rw [show (U.map Lot.no).take U.length = U.map Lot.no by rw [← List.length_map (f := Lot.no), List.take_length]]
      clear hi hlt hsrt hnd
      have hmem : ∀ x ∈ L, (x.no ∈ U.map Lot.no ↔ line.config = 0 ∧ fitsL line day x = true) := fun x hx => by
        constructor
        · intro h
          obtain ⟨y, hy, hyn⟩ := List.mem_map.1 h
          obtain ⟨c1, c2, c3⟩ := (m1 y).1 hy
          have : y = x := hinj y x c2 hx hyn
          subst this
          exact ⟨c1, c3⟩
        · rintro ⟨h1, h2⟩
          exact List.mem_map.2 ⟨x, (m1 x).2 ⟨h1, hx, h2⟩, rfl⟩
      have hoth : ∀ x ∈ M, x.no ∈ U.map Lot.no → line = other := fun x hx h => by
        obtain ⟨c1, c2, c3⟩ := (m2 x).1 hx
        obtain ⟨d1, d2⟩ := (hmem x c2).1 h
        unfold fitsL at c3 d2
        simp only [Bool.and_eq_true, decide_eq_true_eq] at c3 d2
        cases line; cases other
        simp only [Line.mk.injEq] at *
        omega
      clear m1 m2 hinj
      generalize hul : (U.map Lot.no) = N at hmem hoth
      have hNl : N.length = U.length := by rw [← hul, List.length_map]
      clear hul
      repeat' ((conv => whnf); first | with_reducible refine Dec.t (show true = true from rfl) ?_ | with_reducible refine Dec.t (show false = false from rfl) ?_ | with_reducible refine Dec.f (show ¬ (true = false) by decide) ?_ | with_reducible refine Dec.f (show ¬ (false = true) by decide) ?_ | refine Dec.t (by omega) ?_ | refine Dec.f (by omega) ?_ | refine Dec.split (fun _ => ?_) (fun _ => ?_) | refine Wr.id (by omega) ?_ | refine Chk.mk (by first | omega | exact rfl | (simp only [List.length_map]; omega) | (simp [room]; done) | (simp [room]; omega) | (simp [dropL, room]; done) | (simp [dropL, room]; omega)) ?_ | refine Nam.mk (List.length_map _) ?_ | refine Prep.skip ?_ | refine Eith.l ?_ | refine chk_t (x := D.flat _) (by assumption) ?_ | refine br_mk (fun _ => ?_) (fun _ => ?_) | fail)
      all_goals (conv => whnf)
      refine ALoop.at (E := envOf Tryd.prog tt Tryd.f7.ntmps) (envOf_ok ttok mixed) (X := Nat) (fun i => [(136, .d (I i))]) (fun _ => []) (fun i => i ≤ M.length) (fun i => M.length - i) 0 (by repeat (first | exact trivial | refine And.intro rfl ?_ | refine And.intro (congrArg (fun n => V.d (I n)) (wrap_nat _ (by omega))) ?_)) rfl (Nat.zero_le _) ?_
      intro i hi
      try dsimp only
      by_cases hlt : i < M.length
      · obtain ⟨x, hx, _⟩ := drop_get hlt
        have hox := hoth x (List.mem_of_getElem? hx)
        clear hoth hmem
        by_cases hin : x.no ∈ N
        · have hget : (mapFind tt 3 (I x.no) (usedE N)).getD (.b false) = .b true := by rw [used_find, if_pos hin]; rfl
          obtain rfl := hox hin
          repeat' ((conv => whnf); first | with_reducible refine Dec.t (show true = true from rfl) ?_ | with_reducible refine Dec.t (show false = false from rfl) ?_ | with_reducible refine Dec.f (show ¬ (true = false) by decide) ?_ | with_reducible refine Dec.f (show ¬ (false = true) by decide) ?_ | refine Dec.t (by omega) ?_ | refine Dec.f (by omega) ?_ | refine Dec.split (fun _ => ?_) (fun _ => ?_) | refine Wr.id (by omega) ?_ | refine Chk.mk (by first | omega | exact rfl | (simp only [List.length_map]; omega) | (simp [room]; done) | (simp [room]; omega) | (simp [dropL, room]; done) | (simp [dropL, room]; omega)) ?_ | refine Nam.mk (List.length_map _) ?_ | refine Prep.skip ?_ | refine Eith.l ?_ | refine chk_t (x := D.flat _) (by assumption) ?_ | refine br_mk (fun _ => ?_) (fun _ => ?_) | refine nthK_mk (map_get hx) ?_ | refine Nam.mk hget ?_ | refine Nam.dec (eqLine line line) (fun _ => ?_) (fun h => absurd rfl h) | fail)
          all_goals (conv => whnf)
          exact ⟨i + 1, Wm.end (by repeat (first | exact trivial | refine And.intro rfl ?_ | refine And.intro (congrArg (fun n => V.d (I n)) (wrap_nat _ (by omega))) ?_)) rfl rfl rfl, hlt, by omega⟩
        · have hget : (mapFind tt 3 (I x.no) (usedE N)).getD (.b false) = .b false := by rw [used_find, if_neg hin]; rfl
          repeat' ((conv => whnf); first | with_reducible refine Dec.t (show true = true from rfl) ?_ | with_reducible refine Dec.t (show false = false from rfl) ?_ | with_reducible refine Dec.f (show ¬ (true = false) by decide) ?_ | with_reducible refine Dec.f (show ¬ (false = true) by decide) ?_ | refine Dec.t (by omega) ?_ | refine Dec.f (by omega) ?_ | refine Dec.split (fun _ => ?_) (fun _ => ?_) | refine Wr.id (by omega) ?_ | refine Chk.mk (by first | omega | exact rfl | (simp only [List.length_map]; omega) | (simp [room]; done) | (simp [room]; omega) | (simp [dropL, room]; done) | (simp [dropL, room]; omega)) ?_ | refine Nam.mk (List.length_map _) ?_ | refine Prep.skip ?_ | refine Eith.l ?_ | refine chk_t (x := D.flat _) (by assumption) ?_ | refine br_mk (fun _ => ?_) (fun _ => ?_) | refine nthK_mk (map_get hx) ?_ | refine Nam.mk hget ?_ | fail)
          all_goals (conv => whnf)
          exact ⟨i + 1, Wm.end (by repeat (first | exact trivial | refine And.intro rfl ?_ | refine And.intro (congrArg (fun n => V.d (I n)) (wrap_nat _ (by omega))) ?_)) rfl rfl rfl, hlt, by omega⟩
      · clear hoth
        repeat' ((conv => whnf); first | with_reducible refine Dec.t (show true = true from rfl) ?_ | with_reducible refine Dec.t (show false = false from rfl) ?_ | with_reducible refine Dec.f (show ¬ (true = false) by decide) ?_ | with_reducible refine Dec.f (show ¬ (false = true) by decide) ?_ | refine Dec.t (by omega) ?_ | refine Dec.f (by omega) ?_ | refine Dec.split (fun _ => ?_) (fun _ => ?_) | refine Wr.id (by omega) ?_ | refine Chk.mk (by first | omega | exact rfl | (simp only [List.length_map]; omega) | (simp [room]; done) | (simp [room]; omega) | (simp [dropL, room]; done) | (simp [dropL, room]; omega)) ?_ | refine Nam.mk (List.length_map _) ?_ | refine Prep.skip ?_ | refine Eith.l ?_ | refine chk_t (x := D.flat _) (by assumption) ?_ | refine br_mk (fun _ => ?_) (fun _ => ?_) | fail)
        all_goals (conv => whnf)
        refine ALoop.at (E := envOf Tryd.prog tt Tryd.f7.ntmps) (envOf_ok ttok mixed) (X := Nat) (fun i => [(152, .d (I i))]) (fun _ => []) (fun i => i ≤ L.length) (fun i => L.length - i) 0 (by repeat (first | exact trivial | refine And.intro rfl ?_ | refine And.intro (congrArg (fun n => V.d (I n)) (wrap_nat _ (by omega))) ?_)) rfl (Nat.zero_le _) ?_
        clear hi hlt
        intro i hi
        try dsimp only
        by_cases hlt : i < L.length
        · obtain ⟨x, hx, _⟩ := drop_get hlt
          have hmx := hmem x (List.mem_of_getElem? hx)
          clear hmem
          by_cases hin : x.no ∈ N
          · have hget : (mapFind tt 3 (I x.no) (usedE N)).getD (.b false) = .b true := by rw [used_find, if_pos hin]; rfl
            obtain ⟨d1, d2⟩ := hmx.1 hin
            unfold fitsL at d2
            simp only [Bool.and_eq_true, decide_eq_true_eq] at d2
            clear hmx
            repeat' ((conv => whnf); first | with_reducible refine Dec.t (show true = true from rfl) ?_ | with_reducible refine Dec.t (show false = false from rfl) ?_ | with_reducible refine Dec.f (show ¬ (true = false) by decide) ?_ | with_reducible refine Dec.f (show ¬ (false = true) by decide) ?_ | refine Dec.t (by omega) ?_ | refine Dec.f (by omega) ?_ | refine Dec.split (fun _ => ?_) (fun _ => ?_) | refine Wr.id (by omega) ?_ | refine Chk.mk (by first | omega | exact rfl | (simp only [List.length_map]; omega) | (simp [room]; done) | (simp [room]; omega) | (simp [dropL, room]; done) | (simp [dropL, room]; omega)) ?_ | refine Nam.mk (List.length_map _) ?_ | refine Prep.skip ?_ | refine Eith.l ?_ | refine chk_t (x := D.flat _) (by assumption) ?_ | refine br_mk (fun _ => ?_) (fun _ => ?_) | refine nthK_mk (map_get hx) ?_ | refine Nam.mk hget ?_ | fail)
            all_goals (conv => whnf)
            all_goals exact ⟨i + 1, Wm.end (by repeat (first | exact trivial | refine And.intro rfl ?_ | refine And.intro (congrArg (fun n => V.d (I n)) (wrap_nat _ (by omega))) ?_)) rfl rfl rfl, hlt, by omega⟩
          · have hget : (mapFind tt 3 (I x.no) (usedE N)).getD (.b false) = .b false := by rw [used_find, if_neg hin]; rfl
            have hno : ¬ (line.config = 0 ∧ (((x.item = line.item ∧ x.plant = line.plant) ∧ x.state = 0) ∧ day < x.expiry)) := fun h => hin (hmx.2 ⟨h.1, by unfold fitsL; simp only [Bool.and_eq_true, decide_eq_true_eq]; exact h.2⟩)
            clear hmx
            repeat' ((conv => whnf); first | with_reducible refine Dec.t (show true = true from rfl) ?_ | with_reducible refine Dec.t (show false = false from rfl) ?_ | with_reducible refine Dec.f (show ¬ (true = false) by decide) ?_ | with_reducible refine Dec.f (show ¬ (false = true) by decide) ?_ | refine Dec.t (by omega) ?_ | refine Dec.f (by omega) ?_ | refine Dec.split (fun _ => ?_) (fun _ => ?_) | refine Wr.id (by omega) ?_ | refine Chk.mk (by first | omega | exact rfl | (simp only [List.length_map]; omega) | (simp [room]; done) | (simp [room]; omega) | (simp [dropL, room]; done) | (simp [dropL, room]; omega)) ?_ | refine Nam.mk (List.length_map _) ?_ | refine Prep.skip ?_ | refine Eith.l ?_ | refine chk_t (x := D.flat _) (by assumption) ?_ | refine br_mk (fun _ => ?_) (fun _ => ?_) | refine nthK_mk (map_get hx) ?_ | refine Nam.mk hget ?_ | fail)
            all_goals (conv => whnf)
            all_goals exact ⟨i + 1, Wm.end (by repeat (first | exact trivial | refine And.intro rfl ?_ | refine And.intro (congrArg (fun n => V.d (I n)) (wrap_nat _ (by omega))) ?_)) rfl rfl rfl, hlt, by omega⟩
        · have hul2 : (usedE N).length = U.length := by unfold usedE; rw [List.length_map, hNl]
          clear hmem
          repeat' ((conv => whnf); first | with_reducible refine Dec.t (show true = true from rfl) ?_ | with_reducible refine Dec.t (show false = false from rfl) ?_ | with_reducible refine Dec.f (show ¬ (true = false) by decide) ?_ | with_reducible refine Dec.f (show ¬ (false = true) by decide) ?_ | refine Dec.t (by omega) ?_ | refine Dec.f (by omega) ?_ | refine Dec.split (fun _ => ?_) (fun _ => ?_) | refine Wr.id (by omega) ?_ | refine Chk.mk (by first | omega | exact rfl | (simp only [List.length_map]; omega) | (simp [room]; done) | (simp [room]; omega) | (simp [dropL, room]; done) | (simp [dropL, room]; omega)) ?_ | refine Nam.mk (List.length_map _) ?_ | refine Prep.skip ?_ | refine Eith.l ?_ | refine chk_t (x := D.flat _) (by assumption) ?_ | refine br_mk (fun _ => ?_) (fun _ => ?_) | refine Nam.mk hul2 ?_ | fail)
          all_goals (conv => whnf)
          all_goals first | exact DLe.refl _ | (exfalso; omega)
  · rw [decide_eq_false hs] at hFew
    repeat' ((conv => whnf); first | with_reducible refine Dec.t (show true = true from rfl) ?_ | with_reducible refine Dec.t (show false = false from rfl) ?_ | with_reducible refine Dec.f (show ¬ (true = false) by decide) ?_ | with_reducible refine Dec.f (show ¬ (false = true) by decide) ?_ | refine Dec.t (by omega) ?_ | refine Dec.f (by omega) ?_ | refine Dec.split (fun _ => ?_) (fun _ => ?_) | refine Wr.id (by omega) ?_ | refine Chk.mk (by first | omega | exact rfl | (simp only [List.length_map]; omega) | (simp [room]; done) | (simp [room]; omega) | (simp [dropL, room]; done) | (simp [dropL, room]; omega)) ?_ | refine Nam.mk (List.length_map _) ?_ | refine Prep.skip ?_ | refine Eith.l ?_ | refine chk_t (x := D.flat _) (by assumption) ?_ | refine br_mk (fun _ => ?_) (fun _ => ?_) | refine ACall.of (law18_sane) ?_ | refine APCall.of (law18_sane) ?_ | refine ACall.of hFew ?_ | fail)
    all_goals (conv => whnf)
    all_goals exact (by repeat (first | exact trivial | exact rfl | exact DLe.refl _ | exact DLe.full _ _ _ | exact DLe.nil _ _ _ | exact VLe.refl _ | refine And.intro ?_ ?_ | refine VLe.d ?_ | refine DLe.agg ?_))
end Go.PM

