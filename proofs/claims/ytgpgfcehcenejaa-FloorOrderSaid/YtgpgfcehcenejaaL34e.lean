/- The statements of floors: Order. -/
import Derived.Test.YtgpgfcehcenejaaL34d
namespace Go.PM
open Go.Proofs
set_option maxRecDepth 10000
set_option maxHeartbeats 8000000

theorem pick {x : Int} (hx : 0 ≤ x) {k : Nat} (hk : 0 < k) : ∃ i : Nat, x.tmod (k : Int) = i ∧ i < k := by
  refine ⟨(x.tmod k).toNat, ?_, ?_⟩
  · have := Int.tmod_nonneg (a := x) (b := k) hx; omega
  · have := Int.tmod_lt_of_pos x (b := k) (by omega)
    have := Int.tmod_nonneg (a := x) (b := k) hx; omega
structure XO where
  n : Int
  v : Nat
  ln : Nat
  d : List D
theorem law34_Order (h : Hist) (i k : Int) (hw : WidH h) (hi : 0 ≤ i ∧ i < 256) (hk : 0 ≤ k ∧ k < 256) : CallP Try.prog 6 [.d h.d, .d (.i .u8 i), .d (.i .u8 k)] (retD [.b true]) := by
  have hwo := hw.o
  have hwf := hw.f
  have hF := ref34_Few h hw
  have a1 := floor_Amounts h hw
  have b1 := floor_Shipped h hw
  obtain ⟨t1, t2⟩ := amtsT_rows h
  obtain ⟨l1, l2⟩ := ship_len h
  have s1 := ref34_SameAmounts (amtsT h) (amtsT h) (by omega) (by omega) (fun x hx => by have := t2 x hx; omega) (fun x hx => by have := t2 x hx; omega)
  rw [decide_eq_true rfl] at s1
  have s2 := ref34_SameInts (shipL h) (shipL h) (by omega) (by omega)
  rw [decide_eq_true rfl] at s2
  have s3 := ref34_SameInts (shipA h) (shipA h) (by omega) (by omega)
  rw [decide_eq_true rfl] at s3
  refine exPure_sound (E := envOf Try.prog tt Try.f6.ntmps) (envOf_ok ttok mixed) Try.func6 (by rfl) rfl rfl (Nat.le_of_ble_eq_true rfl) ?_
  by_cases hf : h.op.length ≤ 20 ∧ h.fl.length ≤ 70
  · rw [decide_eq_true hf] at hF
    by_cases hz : 0 < h.fl.length
    · repeat' ((conv => whnf); first | with_reducible refine Dec.t (show true = true from rfl) ?_ | with_reducible refine Dec.t (show false = false from rfl) ?_ | with_reducible refine Dec.f (show ¬ (true = false) by decide) ?_ | with_reducible refine Dec.f (show ¬ (false = true) by decide) ?_ | refine Dec.t (by omega) ?_ | refine Dec.f (by omega) ?_ | refine Dec.split (fun _ => ?_) (fun _ => ?_) | refine Wr.id (by omega) ?_ | refine Chk.mk (by first | omega | exact rfl | (simp only [List.length_map]; omega) | (simp [room]; done) | (simp [room]; omega) | (simp [dropL, room]; done) | (simp [dropL, room]; omega)) ?_ | refine Nam.mk (List.length_map _) ?_ | refine Prep.skip ?_ | refine Eith.l ?_ | refine chk_t (x := D.flat _) (by assumption) ?_ | refine br_mk (fun _ => ?_) (fun _ => ?_) | refine ACall.of (law34_sane) ?_ | refine APCall.of (law34_sane) ?_ | refine ACall.of (hF) ?_ | refine APCall.of (hF) ?_ | fail)
      all_goals first | (exfalso; omega) | skip
      all_goals (conv => whnf)
      refine ALoop.virtC 1 2 0 6 false (by decide) rfl rfl ?_
      conv => whnf
      refine ALoop.at (E := envOf Try.prog tt Try.f6.ntmps) (envOf_ok ttok mixed) (X := XO) (fun x => [(9, .d (I x.n))]) (fun x => [(1, .var [.d (SL 1 (h.op.map I)), .d (I h.per), .sref 3 x.v 0 x.ln false]), (3, .row x.v 6 false x.d)])
        (fun x => x.n = (h.fl.length : Int) - 1 - x.ln ∧ x.ln ≤ h.fl.length ∧ x.d = (h.fl.reverse.take x.ln).map Flow.d) (fun x => h.fl.length - x.ln) ⟨(h.fl.length : Int) - 1, 0, 0, []⟩ (by repeat (first | exact trivial | refine And.intro rfl ?_ | refine And.intro (congrArg (fun n => V.d (I n)) (wrap_nat _ (by omega))) ?_)) rfl
        ⟨by simp, Nat.zero_le _, rfl⟩ ?_
      rintro ⟨n, v, c, d⟩ ⟨hn, hc, hd⟩
      simp only at hn hc hd
      dsimp only
      by_cases hlt : c < h.fl.length
      · obtain ⟨f, hx, _⟩ := drop_get (l := h.fl.reverse) (i := c) (by rw [List.length_reverse]; exact hlt)
        have hx0 : (h.fl.map Flow.d)[n.toNat]? = some f.d := by
          have h1 := hx
          rw [List.getElem?_reverse hlt] at h1
          rw [show n.toNat = h.fl.length - 1 - c by omega, List.getElem?_map, h1]; rfl
        have hdl : d.length = c := by rw [hd, List.length_map, List.length_take, List.length_reverse]; omega
        have hds : d ++ [f.d] = (h.fl.reverse.take (c + 1)).map Flow.d := by rw [List.take_add_one, hx, List.map_append, hd]; rfl
        clear hd
        repeat' ((conv => whnf); first | with_reducible refine Dec.t (show true = true from rfl) ?_ | with_reducible refine Dec.t (show false = false from rfl) ?_ | with_reducible refine Dec.f (show ¬ (true = false) by decide) ?_ | with_reducible refine Dec.f (show ¬ (false = true) by decide) ?_ | refine Dec.t (by omega) ?_ | refine Dec.f (by omega) ?_ | refine Dec.split (fun _ => ?_) (fun _ => ?_) | refine Wr.id (by omega) ?_ | refine Chk.mk (by first | omega | exact rfl | (simp only [List.length_map]; omega) | (simp [room]; done) | (simp [room]; omega) | (simp [dropL, room]; done) | (simp [dropL, room]; omega)) ?_ | refine Nam.mk (List.length_map _) ?_ | refine Prep.skip ?_ | refine Eith.l ?_ | refine chk_t (x := D.flat _) (by assumption) ?_ | refine br_mk (fun _ => ?_) (fun _ => ?_) | refine nthK_mk hx0 ?_ | refine Chk.mk ⟨rfl, by simp [hdl], by simp [room]; omega⟩ ?_ | fail)
        all_goals first | (exfalso; omega) | skip
        all_goals (conv => whnf)
        all_goals first
          | exact ⟨⟨n - 1, v + 1, c + 1, d ++ [f.d]⟩, Wm.end (by repeat (first | exact trivial | refine And.intro rfl ?_ | refine And.intro (congrArg (fun n => V.d (I n)) (wrap_nat _ (by omega))) ?_)) rfl rfl rfl, ⟨by simp only; omega, hlt, hds⟩, by simp only; omega⟩
      · have : c = h.fl.length := by omega
        subst this
        have hd : d = h.fl.reverse.map Flow.d := by rw [hd, List.take_of_length_le (by rw [List.length_reverse]; exact Nat.le_refl _)]
        subst hd
        obtain ⟨p, hp, hpl⟩ := pick hi.1 hz
        obtain ⟨q, hq, hql⟩ := pick hk.1 hz
        obtain ⟨fp, hfp, _⟩ := drop_get hpl
        obtain ⟨fq, hfq, _⟩ := drop_get hql
        have hl0 : ([] : List D).length + (h.fl.map Flow.d).length = h.fl.length := by simp
        have hp0 : 0 + (i.tmod ((([] : List D).length + (h.fl.map Flow.d).length : Nat) : Int)).toNat = p := by rw [hl0, hp]; simp
        have hq0 : 0 + (k.tmod ((([] : List D).length + (h.fl.map Flow.d).length : Nat) : Int)).toNat = q := by rw [hl0, hq]; simp
        have np : 0 ≤ i.tmod ((([] : List D).length + (h.fl.map Flow.d).length : Nat) : Int) ∧ i.tmod ((([] : List D).length + (h.fl.map Flow.d).length : Nat) : Int) < (([] : List D).length + (h.fl.map Flow.d).length : Nat) := by rw [hl0, hp]; omega
        have nq : 0 ≤ k.tmod ((([] : List D).length + (h.fl.map Flow.d).length : Nat) : Int) ∧ k.tmod ((([] : List D).length + (h.fl.map Flow.d).length : Nat) : Int) < (([] : List D).length + (h.fl.map Flow.d).length : Nat) := by rw [hl0, hq]; omega
        have g1 : ([] ++ h.fl.map Flow.d)[0 + (k.tmod ((([] : List D).length + (h.fl.map Flow.d).length : Nat) : Int)).toNat]? = some fq.d := by rw [hq0, List.nil_append, List.getElem?_map, hfq]; rfl
        have g2 : ([] ++ h.fl.map Flow.d)[0 + (i.tmod ((([] : List D).length + (h.fl.map Flow.d).length : Nat) : Int)).toNat]? = some fp.d := by rw [hp0, List.nil_append, List.getElem?_map, hfp]; rfl
        have s4 : ([] ++ h.fl.map Flow.d).set (0 + (i.tmod ((([] : List D).length + (h.fl.map Flow.d).length : Nat) : Int)).toNat) fq.d = (h.fl.set p fq).map Flow.d := by rw [hp0, List.nil_append, List.map_set]
        have g3 : ∃ y : Flow, ((h.fl.set p fq).map Flow.d)[0 + (k.tmod ((([] : List D).length + (h.fl.map Flow.d).length : Nat) : Int)).toNat]? = some y.d := ⟨(h.fl.set p fq)[q]'(by rw [List.length_set]; exact hql), by rw [hq0, List.getElem?_map, List.getElem?_eq_getElem (by rw [List.length_set]; exact hql)]; rfl⟩
        obtain ⟨y3, g3⟩ := g3
        have s5 : ((h.fl.set p fq).map Flow.d).set (0 + (k.tmod ((([] : List D).length + (h.fl.map Flow.d).length : Nat) : Int)).toNat) fp.d = ((h.fl.set p fq).set q fp).map Flow.d := by rw [hq0, ← List.map_set]
        have l3 : 0 + (i.tmod ((([] : List D).length + (h.fl.map Flow.d).length : Nat) : Int)).toNat < ([] ++ h.fl.map Flow.d).length := by rw [hp0]; simpa using hpl
        have l4 : 0 + (k.tmod ((([] : List D).length + (h.fl.map Flow.d).length : Nat) : Int)).toNat < ((h.fl.set p fq).map Flow.d).length := by rw [hq0]; simpa using hql
        repeat' ((conv => whnf); first | with_reducible refine Dec.t (show true = true from rfl) ?_ | with_reducible refine Dec.t (show false = false from rfl) ?_ | with_reducible refine Dec.f (show ¬ (true = false) by decide) ?_ | with_reducible refine Dec.f (show ¬ (false = true) by decide) ?_ | refine Dec.t (by omega) ?_ | refine Dec.f (by omega) ?_ | refine Dec.split (fun _ => ?_) (fun _ => ?_) | refine Wr.id (by omega) ?_ | refine Chk.mk (by first | omega | exact rfl | (simp only [List.length_map]; omega) | (simp [room]; done) | (simp [room]; omega) | (simp [dropL, room]; done) | (simp [dropL, room]; omega)) ?_ | refine Nam.mk (List.length_map _) ?_ | refine Prep.skip ?_ | refine Eith.l ?_ | refine chk_t (x := D.flat _) (by assumption) ?_ | refine br_mk (fun _ => ?_) (fun _ => ?_) | refine nthK_mk g1 ?_ | refine nthK_mk g2 ?_ | refine nthK_mk g3 ?_ | refine setK_to l3 s4 ?_ | refine setK_to l4 s5 ?_ | refine ACall.of (a1) ?_ | refine APCall.of (a1) ?_ | refine ACall.of (b1) ?_ | refine APCall.of (b1) ?_ | refine Chk.mk ⟨rfl, by (simp <;> omega)⟩ ?_ | refine Nam.mk (y := h.fl.reverse.map Flow.d) (by rw [List.drop_zero]; exact List.take_of_length_le (by simp)) ?_ | refine Nam.mk (y := ((h.fl.set p fq).set q fp).map Flow.d) (by rw [List.drop_zero]; exact List.take_of_length_le (by simp)) ?_ | refine Nam.mk (y := 2) rfl ?_ | fail)
        all_goals first | (exfalso; omega) | skip
        all_goals (conv => whnf)
        obtain ⟨zs, hzs⟩ : ∃ zs : List Hist, zs = [⟨h.op, h.per, h.fl.reverse⟩, ⟨h.op, h.per, (h.fl.set p fq).set q fp⟩] := ⟨_, rfl⟩
        have hal : ∀ z ∈ zs, Alike h z ∧ WidH z := fun z hz => by
          rw [hzs] at hz
          simp only [List.mem_cons, List.not_mem_nil, or_false] at hz
          rcases hz with rfl | rfl
          · exact ⟨alike_perm (a := h.fl) (List.reverse_perm _).symm, hwo, by simp only [List.length_reverse]; exact hwf⟩
          · exact ⟨alike_perm (a := h.fl) (swap_perm hfp hfq), hwo, by simp only [List.length_set]; exact hwf⟩
        have hzd : ∀ (j : Nat) (z : Hist), zs[j]? = some z → ([D.agg [SL 1 (h.op.map I), I h.per, D.sl 6 false (h.fl.reverse.map Flow.d)], D.agg [SL 1 (h.op.map I), I h.per, D.sl 6 false (((h.fl.set p fq).set q fp).map Flow.d)]] : List D)[(j : Int).toNat]? = some z.d := fun j z hj => by
          rw [Int.toNat_natCast]
          subst hzs
          match j with
          | 0 => cases hj; rfl
          | 1 => cases hj; rfl
          | j + 2 => simp at hj
        have hzl : zs.length = 2 := by rw [hzs]; rfl
        refine ALoop.at (E := envOf Try.prog tt Try.f6.ntmps) (envOf_ok ttok mixed) (X := Nat) (fun j => [(106, .d (I j))]) (fun _ => []) (fun j => j ≤ 2) (fun j => 2 - j) 0 (by repeat (first | exact trivial | refine And.intro rfl ?_ | refine And.intro (congrArg (fun n => V.d (I n)) (wrap_nat _ (by omega))) ?_)) rfl (Nat.zero_le _) ?_
        rintro j hj
        by_cases hlt2 : j < 2
        · obtain ⟨z, hzj, _⟩ := drop_get (l := zs) (i := j) (by omega)
          obtain ⟨hA, hwz⟩ := hal z (List.mem_of_getElem? hzj)
          have hzj := hzd j z hzj
          have a2 := floor_Amounts z hwz
          have b2 := floor_Shipped z hwz
          rw [hA.t, hA.e] at a2
          rw [hA.l, hA.m, hA.e] at b2
          repeat' ((conv => whnf); first | with_reducible refine Dec.t (show true = true from rfl) ?_ | with_reducible refine Dec.t (show false = false from rfl) ?_ | with_reducible refine Dec.f (show ¬ (true = false) by decide) ?_ | with_reducible refine Dec.f (show ¬ (false = true) by decide) ?_ | refine Dec.t (by omega) ?_ | refine Dec.f (by omega) ?_ | refine Dec.split (fun _ => ?_) (fun _ => ?_) | refine Wr.id (by omega) ?_ | refine Chk.mk (by first | omega | exact rfl | (simp only [List.length_map]; omega) | (simp [room]; done) | (simp [room]; omega) | (simp [dropL, room]; done) | (simp [dropL, room]; omega)) ?_ | refine Nam.mk (List.length_map _) ?_ | refine Prep.skip ?_ | refine Eith.l ?_ | refine chk_t (x := D.flat _) (by assumption) ?_ | refine br_mk (fun _ => ?_) (fun _ => ?_) | refine nthK_mk hzj ?_ | refine ACall.of (a2) ?_ | refine APCall.of (a2) ?_ | refine ACall.of (b2) ?_ | refine APCall.of (b2) ?_ | refine ACall.of (s1) ?_ | refine APCall.of (s1) ?_ | refine ACall.of (s2) ?_ | refine APCall.of (s2) ?_ | refine ACall.of (s3) ?_ | refine APCall.of (s3) ?_ | fail)
          all_goals first | (exfalso; omega) | skip
          all_goals (conv => whnf)
          all_goals first | exact ⟨j + 1, Wm.end (by repeat (first | exact trivial | refine And.intro rfl ?_ | refine And.intro (congrArg (fun n => V.d (I n)) (wrap_nat _ (by omega))) ?_)) rfl rfl rfl, hlt2, by omega⟩
        · repeat' ((conv => whnf); first | with_reducible refine Dec.t (show true = true from rfl) ?_ | with_reducible refine Dec.t (show false = false from rfl) ?_ | with_reducible refine Dec.f (show ¬ (true = false) by decide) ?_ | with_reducible refine Dec.f (show ¬ (false = true) by decide) ?_ | refine Dec.t (by omega) ?_ | refine Dec.f (by omega) ?_ | refine Dec.split (fun _ => ?_) (fun _ => ?_) | refine Wr.id (by omega) ?_ | refine Chk.mk (by first | omega | exact rfl | (simp only [List.length_map]; omega) | (simp [room]; done) | (simp [room]; omega) | (simp [dropL, room]; done) | (simp [dropL, room]; omega)) ?_ | refine Nam.mk (List.length_map _) ?_ | refine Prep.skip ?_ | refine Eith.l ?_ | refine chk_t (x := D.flat _) (by assumption) ?_ | refine br_mk (fun _ => ?_) (fun _ => ?_) | fail)
          all_goals first | (exfalso; omega) | skip
          all_goals (conv => whnf)
          all_goals first | exact DLe.refl _
    · repeat' ((conv => whnf); first | with_reducible refine Dec.t (show true = true from rfl) ?_ | with_reducible refine Dec.t (show false = false from rfl) ?_ | with_reducible refine Dec.f (show ¬ (true = false) by decide) ?_ | with_reducible refine Dec.f (show ¬ (false = true) by decide) ?_ | refine Dec.t (by omega) ?_ | refine Dec.f (by omega) ?_ | refine Dec.split (fun _ => ?_) (fun _ => ?_) | refine Wr.id (by omega) ?_ | refine Chk.mk (by first | omega | exact rfl | (simp only [List.length_map]; omega) | (simp [room]; done) | (simp [room]; omega) | (simp [dropL, room]; done) | (simp [dropL, room]; omega)) ?_ | refine Nam.mk (List.length_map _) ?_ | refine Prep.skip ?_ | refine Eith.l ?_ | refine chk_t (x := D.flat _) (by assumption) ?_ | refine br_mk (fun _ => ?_) (fun _ => ?_) | refine ACall.of (law34_sane) ?_ | refine APCall.of (law34_sane) ?_ | refine ACall.of (hF) ?_ | refine APCall.of (hF) ?_ | fail)
      all_goals first | (exfalso; omega) | skip
      all_goals (conv => whnf)
      all_goals first | exact DLe.refl _
  · rw [decide_eq_false hf] at hF
    repeat' ((conv => whnf); first | with_reducible refine Dec.t (show true = true from rfl) ?_ | with_reducible refine Dec.t (show false = false from rfl) ?_ | with_reducible refine Dec.f (show ¬ (true = false) by decide) ?_ | with_reducible refine Dec.f (show ¬ (false = true) by decide) ?_ | refine Dec.t (by omega) ?_ | refine Dec.f (by omega) ?_ | refine Dec.split (fun _ => ?_) (fun _ => ?_) | refine Wr.id (by omega) ?_ | refine Chk.mk (by first | omega | exact rfl | (simp only [List.length_map]; omega) | (simp [room]; done) | (simp [room]; omega) | (simp [dropL, room]; done) | (simp [dropL, room]; omega)) ?_ | refine Nam.mk (List.length_map _) ?_ | refine Prep.skip ?_ | refine Eith.l ?_ | refine chk_t (x := D.flat _) (by assumption) ?_ | refine br_mk (fun _ => ?_) (fun _ => ?_) | refine ACall.of (law34_sane) ?_ | refine APCall.of (law34_sane) ?_ | refine ACall.of (hF) ?_ | refine APCall.of (hF) ?_ | fail)
    all_goals first | (exfalso; omega) | skip
    all_goals (conv => whnf)
    all_goals first | exact DLe.refl _
end Go.PM

