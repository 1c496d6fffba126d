/- The statements of layer 46: NetworkAll, its contract. -/
import Derived.Test.YtoadefidkdmheaaL46a
namespace Go.PM
open Go.Proofs
set_option maxRecDepth 10000
set_option maxHeartbeats 8000000

theorem liftT_to {N : Nat} {ts : Tm} {h : Hp} {t m ver lo len sz : Nat} {ro full : Bool} {xs : List D} (ys : List D) (ht : look ts t = .sref m ver lo len full) (hm : h[m]? = some (.row ver sz ro xs)) (hl : lo + len ≤ xs.length) (he : (xs.drop lo).take len = ys) :
    Wk N ts h ((t, .d (.sl sz full ys)) :: ts) (h.set m (.row ver sz true xs)) := he ▸ Wk.liftT ht hm hl
structure Plain (R : List Pkt) : Prop where
  ok : ∀ p ∈ R, p.ok
  len : R.length ≤ 12
def ofR (R : List Pkt) : Net := ⟨R, []⟩
theorem Plain.net {R : List Pkt} (h : Plain R) : (ofR R).ok := ⟨by have := h.len; simp only [ofR]; omega, h.ok, by simp [ofR], trivial⟩
theorem Plain.wid {R : List Pkt} (h : Plain R) : Wid (ofR R) := ⟨by have := h.len; simp only [ofR]; omega, by simp [ofR]⟩
structure XA where
  i : Nat
  R : List Pkt
  vr : Nat
  dp : List D
theorem law46_All (l : List Pkt) (o : List UInt8) (hl : l.length < 2 ^ 63) (ho : o.length < 2 ^ 63) : CallP Try.prog 4 [.d (SL 3 (l.map Pkt.d)), .d (SL 1 (o.map U8))] (retD [.b true]) := by
  by_cases h12 : l.length ≤ 12
  · refine exPure_sound (E := envOf Try.prog tt Try.f4.ntmps) (envOf_ok ttok mixed) Try.func4 (by rfl) rfl rfl (Nat.le_of_ble_eq_true rfl) ?_
    repeat' ((conv => whnf); first | with_reducible refine Dec.t (show true = true from rfl) ?_ | with_reducible refine Dec.t (show false = false from rfl) ?_ | with_reducible refine Dec.f (show ¬ (true = false) by decide) ?_ | with_reducible refine Dec.f (show ¬ (false = true) by decide) ?_ | refine Dec.t (by omega) ?_ | refine Dec.f (by omega) ?_ | refine Dec.split (fun _ => ?_) (fun _ => ?_) | refine Wr.id (by omega) ?_ | refine Chk.mk (by first | omega | exact rfl | (simp only [List.length_map]; omega) | (simp [room]; done) | (simp [room]; omega) | (simp [dropL, room]; done) | (simp [dropL, room]; omega)) ?_ | refine Nam.mk (List.length_map _) ?_ | refine Prep.skip ?_ | refine Eith.l ?_ | refine chk_t (x := D.flat _) (by assumption) ?_ | refine br_mk (fun _ => ?_) (fun _ => ?_) | refine ACall.of (law46_sane) ?_ | refine APCall.of (law46_sane) ?_ | refine ACall.of (net_New) ?_ | refine APCall.of (net_New) ?_ | fail)
    all_goals first | (exfalso; omega) | skip
    all_goals (conv => whnf)
    refine ALoop.virt 6 0 3 false (by decide) rfl ?_
    conv => whnf
    refine ALoop.at (E := envOf Try.prog tt Try.f4.ntmps) (envOf_ok ttok mixed) (X := XA) (fun x => [(7, .d (I x.i)), (6, .sref 1 x.vr 0 x.R.length false)]) (fun x => [(0, .vard [SL 3 (x.R.map Pkt.d), SL 2 (([] : List Pair).map Pair.d)]), (1, .row x.vr 3 false x.dp)])
      (fun x => x.i ≤ l.length ∧ (∀ p ∈ x.R, p.ok) ∧ x.R.length ≤ x.i ∧ x.dp = x.R.map Pkt.d) (fun x => l.length - x.i) ⟨0, [], 0, []⟩ (by repeat (first | exact trivial | refine And.intro rfl ?_ | refine And.intro (congrArg (fun n => V.d (I n)) (wrap_nat _ (by omega))) ?_)) rfl ⟨Nat.zero_le _, by simp, Nat.le_refl _, rfl⟩ ?_
    rintro ⟨i, R, vr, dp⟩ ⟨hi, hR, hRl, hdp⟩
    simp only at hi hR hRl hdp
    dsimp only
    have hP : Plain R := ⟨hR, by omega⟩
    have hdl : dp.length = R.length := by rw [hdp, List.length_map]
    by_cases hlt : i < l.length
    · obtain ⟨p, hx, _⟩ := drop_get hlt
      have c := net_Send (ofR R) p hP.wid
      by_cases hp : p.ok
      · have c : CallP Try.prog 11 [.d (ofR R).d, .d p.d] (retD [(ofR (R ++ [p])).d, I 0]) := by
          rw [(send_ok hP.net hp (by simp only [ofR]; omega)).1] at c
          exact c
        repeat' ((conv => whnf); first | with_reducible refine Dec.t (show true = true from rfl) ?_ | with_reducible refine Dec.t (show false = false from rfl) ?_ | with_reducible refine Dec.f (show ¬ (true = false) by decide) ?_ | with_reducible refine Dec.f (show ¬ (false = true) by decide) ?_ | refine Dec.t (by omega) ?_ | refine Dec.f (by omega) ?_ | refine Dec.split (fun _ => ?_) (fun _ => ?_) | refine Wr.id (by omega) ?_ | refine Chk.mk (by first | omega | exact rfl | (simp only [List.length_map]; omega) | (simp [room]; done) | (simp [room]; omega) | (simp [dropL, room]; done) | (simp [dropL, room]; omega)) ?_ | refine Nam.mk (List.length_map _) ?_ | refine Prep.skip ?_ | refine Eith.l ?_ | refine chk_t (x := D.flat _) (by assumption) ?_ | refine br_mk (fun _ => ?_) (fun _ => ?_) | refine nthK_mk (map_get hx) ?_ | refine ACall.of (c) ?_ | refine APCall.of (c) ?_ | refine Chk.mk ⟨rfl, by simp only [List.length_append, List.length_singleton] at *; omega, by simp only [room]; simp; omega⟩ ?_ | fail)
        all_goals first | (exfalso; rename_i h; exact h rfl) | (exfalso; omega) | skip
        all_goals (conv => whnf)
        exact ⟨⟨i + 1, R ++ [p], vr + 1, dp ++ [p.d]⟩, Wm.end (by repeat (first | exact trivial | refine And.intro rfl ?_ | refine And.intro (congrArg (fun k => V.sref 1 (vr + 1) 0 k false) (by simp)) ?_)) rfl rfl rfl, ⟨hlt, fun q hq => by
            rcases List.mem_append.1 hq with hq | hq
            · exact hR q hq
            · rw [List.mem_singleton.1 hq]; exact hp, by simp only [List.length_append, List.length_singleton]; omega, by simp only [List.map_append]; rw [hdp]; rfl⟩, by simp only; omega⟩
      · rw [send_bad (fun h => hp h.2)] at c
        repeat' ((conv => whnf); first | with_reducible refine Dec.t (show true = true from rfl) ?_ | with_reducible refine Dec.t (show false = false from rfl) ?_ | with_reducible refine Dec.f (show ¬ (true = false) by decide) ?_ | with_reducible refine Dec.f (show ¬ (false = true) by decide) ?_ | refine Dec.t (by omega) ?_ | refine Dec.f (by omega) ?_ | refine Dec.split (fun _ => ?_) (fun _ => ?_) | refine Wr.id (by omega) ?_ | refine Chk.mk (by first | omega | exact rfl | (simp only [List.length_map]; omega) | (simp [room]; done) | (simp [room]; omega) | (simp [dropL, room]; done) | (simp [dropL, room]; omega)) ?_ | refine Nam.mk (List.length_map _) ?_ | refine Prep.skip ?_ | refine Eith.l ?_ | refine chk_t (x := D.flat _) (by assumption) ?_ | refine br_mk (fun _ => ?_) (fun _ => ?_) | refine nthK_mk (map_get hx) ?_ | refine ACall.of (c) ?_ | refine APCall.of (c) ?_ | fail)
        all_goals first | (exfalso; omega) | skip
        all_goals (conv => whnf)
        all_goals first | exact ⟨⟨i + 1, R, vr, dp⟩, Wm.end (by repeat (first | exact trivial | refine And.intro rfl ?_ | refine And.intro (congrArg (fun n => V.d (I n)) (wrap_nat _ (by omega))) ?_)) rfl rfl rfl, ⟨hlt, hR, by simp only; omega, hdp⟩, by simp only; omega⟩
    · have : i = l.length := by omega
      subst this
      repeat' ((conv => whnf); first | with_reducible refine Dec.t (show true = true from rfl) ?_ | with_reducible refine Dec.t (show false = false from rfl) ?_ | with_reducible refine Dec.f (show ¬ (true = false) by decide) ?_ | with_reducible refine Dec.f (show ¬ (false = true) by decide) ?_ | refine Dec.t (by omega) ?_ | refine Dec.f (by omega) ?_ | refine Dec.split (fun _ => ?_) (fun _ => ?_) | refine Wr.id (by omega) ?_ | refine Chk.mk (by first | omega | exact rfl | (simp only [List.length_map]; omega) | (simp [room]; done) | (simp [room]; omega) | (simp [dropL, room]; done) | (simp [dropL, room]; omega)) ?_ | refine Nam.mk (List.length_map _) ?_ | refine Prep.skip ?_ | refine Eith.l ?_ | refine chk_t (x := D.flat _) (by assumption) ?_ | refine br_mk (fun _ => ?_) (fun _ => ?_) | fail)
      all_goals first | (exfalso; omega) | skip
      all_goals (conv => whnf)
      refine ALoop.weak (liftT_to (t := 6) (m := 1) (R.map Pkt.d) rfl rfl (by simp only [hdl]; omega) (by rw [List.drop_zero, ← hdl, List.take_length]; exact hdp)) ?_
      refine ALoop.at (E := envOf Try.prog tt Try.f4.ntmps) (envOf_ok ttok mixed) (X := Nat × List Pkt) (fun x => [(10, .d (I x.1)), (6, .d (SL 3 (x.2.map Pkt.d)))]) (fun x => [(0, .vard [SL 3 (x.2.map Pkt.d), SL 2 (([] : List Pair).map Pair.d)])])
        (fun x => Plain x.2 ∧ x.1 + x.2.length ≤ 12) (fun x => x.2.length) (0, R) (by repeat (first | exact trivial | refine And.intro rfl ?_ | refine And.intro (congrArg (fun n => V.d (I n)) (wrap_nat _ (by omega))) ?_)) rfl ⟨hP, by simp only; omega⟩ ?_
      clear hP hdl hdp hR hRl hi
      rintro ⟨j, R⟩ ⟨hP, hj⟩
      simp only at hP hj
      dsimp only
      by_cases h0 : R.length = 0
      · have : R = [] := List.eq_nil_of_length_eq_zero h0
        subst this
        repeat' ((conv => whnf); first | with_reducible refine Dec.t (show true = true from rfl) ?_ | with_reducible refine Dec.t (show false = false from rfl) ?_ | with_reducible refine Dec.f (show ¬ (true = false) by decide) ?_ | with_reducible refine Dec.f (show ¬ (false = true) by decide) ?_ | refine Dec.t (by omega) ?_ | refine Dec.f (by omega) ?_ | refine Dec.split (fun _ => ?_) (fun _ => ?_) | refine Wr.id (by omega) ?_ | refine Chk.mk (by first | omega | exact rfl | (simp only [List.length_map]; omega) | (simp [room]; done) | (simp [room]; omega) | (simp [dropL, room]; done) | (simp [dropL, room]; omega)) ?_ | refine Nam.mk (List.length_map _) ?_ | refine Prep.skip ?_ | refine Eith.l ?_ | refine chk_t (x := D.flat _) (by assumption) ?_ | refine br_mk (fun _ => ?_) (fun _ => ?_) | fail)
        all_goals first | (exfalso; rename_i h; simp at h; done) | skip
        all_goals (conv => whnf)
        all_goals exact DLe.refl _
      · have step : ∀ k : Nat, k < R.length → ∃ p, R[k]? = some p ∧ CallP Try.prog 18 [.d (ofR R).d, .d (I k)] (retD [p.d, (ofR (R.take k ++ R.drop (k + 1))).d, I 0]) := fun k hk => by
          have hk2 := List.getElem?_eq_getElem hk
          refine ⟨_, hk2, ?_⟩
          have c := net_Deliver (ofR R) k hP.wid
          rw [lose_in hP.net hk] at c
          have hg : gotM (ofR R) k = R[k] := by
            unfold gotM
            rw [if_pos (look_in hP.net hk)]
            have hpa : pktAt (ofR R) k = R[k] := by unfold pktAt; rw [Int.toNat_natCast]; show (R[k]?).getD _ = _; rw [hk2]; rfl
            rw [hpa, if_neg (by simp [ofR])]
          rw [hg] at c
          exact c
        have hPc : ∀ k : Nat, k < R.length → Plain (R.take k ++ R.drop (k + 1)) := fun k hk => ⟨fun p hp => by
          rcases List.mem_append.1 hp with hp | hp
          · exact hP.ok p (List.mem_of_mem_take hp)
          · exact hP.ok p (List.mem_of_mem_drop hp), by have := hP.len; simp only [List.length_append, List.length_take, List.length_drop]; omega⟩
        by_cases hjo : j < o.length
        · obtain ⟨b, hb, _⟩ := drop_get hjo
          obtain ⟨k, hk, hkl⟩ := pick (x := (b.toNat : Int)) (by omega) (k := R.length) (by omega)
          have hb8 : b.toNat < 256 := b.toNat_lt
          obtain ⟨p, hp, c⟩ := step k hkl
          have hkm : (R.map Pkt.d)[((b.toNat : Int).tmod (R.length : Int)).toNat]? = some p.d := by rw [hk, Int.toNat_natCast, List.getElem?_map, hp]; rfl
          rw [← hk] at c
          have d1 := pkt_t p
          repeat' ((conv => whnf); first | with_reducible refine Dec.t (show true = true from rfl) ?_ | with_reducible refine Dec.t (show false = false from rfl) ?_ | with_reducible refine Dec.f (show ¬ (true = false) by decide) ?_ | with_reducible refine Dec.f (show ¬ (false = true) by decide) ?_ | refine Dec.t (by omega) ?_ | refine Dec.f (by omega) ?_ | refine Dec.split (fun _ => ?_) (fun _ => ?_) | refine Wr.id (by omega) ?_ | refine Chk.mk (by first | omega | exact rfl | (simp only [List.length_map]; omega) | (simp [room]; done) | (simp [room]; omega) | (simp [dropL, room]; done) | (simp [dropL, room]; omega)) ?_ | refine Nam.mk (List.length_map _) ?_ | refine Prep.skip ?_ | refine Eith.l ?_ | refine chk_t (x := D.flat _) (by assumption) ?_ | refine br_mk (fun _ => ?_) (fun _ => ?_) | refine nthK_mk (map_get hb) ?_ | refine ACall.of (c) ?_ | refine APCall.of (c) ?_ | refine nthK_mk hkm ?_ | refine ACall.of (d1) ?_ | refine APCall.of (d1) ?_ | fail)
          all_goals first | (exfalso; rename_i h; exact h rfl) | (exfalso; omega) | skip
          all_goals (conv => whnf)
          refine ⟨(j + 1, R.take k ++ R.drop (k + 1)), Wm.trans (liftT_to (t := 6) (m := 5) ((R.take k ++ R.drop (k + 1)).map Pkt.d) rfl rfl ?_ ?_).wm (Wm.end (by repeat (first | exact trivial | refine And.intro rfl ?_ | refine And.intro (congrArg (fun n => V.d (I n)) (wrap_nat _ (by omega))) ?_)) rfl rfl rfl), ⟨hPc k hkl, ?_⟩, ?_⟩
          · simp [dropL]
          · have e1 : ((k : Int) + 1).toNat = k + 1 := by omega
            simp only [hk, Int.toNat_natCast, e1, dropL, List.drop_zero, List.nil_append, List.map_append, List.map_take, List.map_drop]
            exact List.take_of_length_le (by simp)
          · simp only [List.length_append, List.length_take, List.length_drop]; omega
          · simp only [List.length_append, List.length_take, List.length_drop]; omega
        · obtain ⟨p, hp, c⟩ := step 0 (by omega)
          have hkm : (R.map Pkt.d)[((0 : Int)).toNat]? = some p.d := by rw [show ((0 : Int)).toNat = 0 from rfl, List.getElem?_map, hp]; rfl
          have d1 := pkt_t p
          repeat' ((conv => whnf); first | with_reducible refine Dec.t (show true = true from rfl) ?_ | with_reducible refine Dec.t (show false = false from rfl) ?_ | with_reducible refine Dec.f (show ¬ (true = false) by decide) ?_ | with_reducible refine Dec.f (show ¬ (false = true) by decide) ?_ | refine Dec.t (by omega) ?_ | refine Dec.f (by omega) ?_ | refine Dec.split (fun _ => ?_) (fun _ => ?_) | refine Wr.id (by omega) ?_ | refine Chk.mk (by first | omega | exact rfl | (simp only [List.length_map]; omega) | (simp [room]; done) | (simp [room]; omega) | (simp [dropL, room]; done) | (simp [dropL, room]; omega)) ?_ | refine Nam.mk (List.length_map _) ?_ | refine Prep.skip ?_ | refine Eith.l ?_ | refine chk_t (x := D.flat _) (by assumption) ?_ | refine br_mk (fun _ => ?_) (fun _ => ?_) | refine ACall.of (c) ?_ | refine APCall.of (c) ?_ | refine nthK_mk hkm ?_ | refine ACall.of (d1) ?_ | refine APCall.of (d1) ?_ | fail)
          all_goals first | (exfalso; rename_i h; exact h rfl) | (exfalso; omega) | skip
          all_goals (conv => whnf)
          refine ⟨(j + 1, R.take 0 ++ R.drop (0 + 1)), Wm.trans (liftT_to (t := 6) (m := 5) ((R.take 0 ++ R.drop (0 + 1)).map Pkt.d) rfl rfl ?_ ?_).wm (Wm.end (by repeat (first | exact trivial | refine And.intro rfl ?_ | refine And.intro (congrArg (fun n => V.d (I n)) (wrap_nat _ (by omega))) ?_)) rfl rfl rfl), ⟨hPc 0 (by omega), ?_⟩, ?_⟩
          · simp [dropL]
          · have e1 : ((0 : Int) + 1).toNat = 0 + 1 := by omega
            have e0 : Int.toNat 0 = 0 := rfl
            simp only [e0, e1, dropL, List.drop_zero, List.nil_append, List.map_append, List.map_take, List.map_drop]
            exact List.take_of_length_le (by simp)
          · simp only [List.length_append, List.length_take, List.length_drop]; omega
          · simp only [List.length_append, List.length_take, List.length_drop]; omega
  · refine exPure_sound (E := envOf Try.prog tt Try.f4.ntmps) (envOf_ok ttok mixed) Try.func4 (by rfl) rfl rfl (Nat.le_of_ble_eq_true rfl) ?_
    repeat' ((conv => whnf); first | with_reducible refine Dec.t (show true = true from rfl) ?_ | with_reducible refine Dec.t (show false = false from rfl) ?_ | with_reducible refine Dec.f (show ¬ (true = false) by decide) ?_ | with_reducible refine Dec.f (show ¬ (false = true) by decide) ?_ | refine Dec.t (by omega) ?_ | refine Dec.f (by omega) ?_ | refine Dec.split (fun _ => ?_) (fun _ => ?_) | refine Wr.id (by omega) ?_ | refine Chk.mk (by first | omega | exact rfl | (simp only [List.length_map]; omega) | (simp [room]; done) | (simp [room]; omega) | (simp [dropL, room]; done) | (simp [dropL, room]; omega)) ?_ | refine Nam.mk (List.length_map _) ?_ | refine Prep.skip ?_ | refine Eith.l ?_ | refine chk_t (x := D.flat _) (by assumption) ?_ | refine br_mk (fun _ => ?_) (fun _ => ?_) | refine ACall.of (law46_sane) ?_ | refine APCall.of (law46_sane) ?_ | fail)
    all_goals first | (exfalso; omega) | skip
    all_goals (conv => whnf)
    all_goals exact DLe.refl _
end Go.PM

