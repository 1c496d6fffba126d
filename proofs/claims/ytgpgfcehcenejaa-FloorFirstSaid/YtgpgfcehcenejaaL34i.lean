/- The statements of floors: First. -/
import Derived.Test.YtgpgfcehcenejaaL34h
namespace Go.PM
open Go.Proofs
set_option maxRecDepth 10000
set_option maxHeartbeats 8000000

theorem pick {x : Int} (hx : 0 ≤ x) {k : Int} (hk : 0 < k) : ∃ i : Nat, x.tmod k = i ∧ (i : Int) < k := by
  refine ⟨(x.tmod k).toNat, ?_, ?_⟩
  · have := Int.tmod_nonneg (a := x) (b := k) hx; omega
  · have := Int.tmod_lt_of_pos x (b := k) hk
    have := Int.tmod_nonneg (a := x) (b := k) hx; omega
theorem runM_pos {fl : List Flow} : ∀ {n : Nat} {p : Int} {now : List Int} {t : List (List Int)}, runM fl n p now = some t → ∀ r ∈ t, ∀ x ∈ r, 0 ≤ x
  | 0, p, now, t, h => by simp [runM] at h; subst h; simp
  | n + 1, p, now, t, h => by
    obtain ⟨hc, t', rfl, h1⟩ := runM_step' h
    intro r hr
    cases hr with
    | head => exact hc.1
    | tail _ hr => exact runM_pos h1 r hr
/-- What is there at the beginning of the rest. -/
theorem parts' {h : Hist} (hok : h.ok) {t : List (List Int)} (ho : amtsO h = some t) {n : Nat} (hn : (n : Int) ≤ h.per) : amtsT ⟨h.op, n, firstF n h.fl⟩ = t.take n ∧ amtsE ⟨h.op, n, firstF n h.fl⟩ = 0 ∧
    ∃ b, (if n = 0 then some h.op else t[n - 1]?) = some b ∧ b.length = h.op.length ∧ ((∀ x ∈ b, x ≤ 1048576) → amtsT ⟨b, h.per - n, restF n h.fl⟩ = t.drop n ∧ amtsE ⟨b, h.per - n, restF n h.fl⟩ = 0) := by
  obtain ⟨p1, b, p2, p3, p4⟩ := parts hok ho hn
  have h1 : (⟨h.op, n, firstF n h.fl⟩ : Hist).ok := first_ok hok ⟨by omega, hn⟩
  refine ⟨by unfold amtsT; rw [if_pos h1, p1]; rfl, by unfold amtsE; rw [if_pos h1, p1]; rfl, b, p2, p3, fun hb => ?_⟩
  have hb : ∀ x ∈ b, 0 ≤ x ∧ x ≤ 1048576 := fun x hx => ⟨by
    by_cases h0 : n = 0
    · rw [if_pos h0] at p2; cases p2; exact (hok.op x hx).1
    · rw [if_neg h0] at p2; exact runM_pos ho b (List.mem_of_getElem? p2) x hx, hb x hx⟩
  have h2 := rest_ok hok (n := n) ⟨by omega, hn⟩ p3 hb
  have h3 := p4 hb
  exact ⟨by unfold amtsT; rw [if_pos h2, h3]; rfl, by unfold amtsE; rw [if_pos h2, h3]; rfl⟩
theorem fil_snoc {α : Type} {l : List α} {i : Nat} {f : α} (c : α → Bool) (h : l[i]? = some f) : (l.take (i + 1)).filter c = (l.take i).filter c ++ (if c f = true then [f] else []) := by
  rw [List.take_add_one, h, List.filter_append]
  by_cases hc : c f = true <;> simp [hc]
structure XF where
  i : Nat
  v : Nat
  n : Nat
  d : List D
  v2 : Nat
  n2 : Nat
  d2 : List D
theorem law34_First (h : Hist) (per : Int) (hw : WidH h) (hper : 0 ≤ per ∧ per < 256) : CallP Try.prog 8 [.d h.d, .d (.i .u8 per)] (retD [.b true]) := by
  have hwo := hw.o
  have hwf := hw.f
  have hF := ref34_Few h hw
  have a1 := floor_Amounts h hw
  refine exPure_sound (E := envOf Try.prog tt Try.f8.ntmps) (envOf_ok ttok mixed) Try.func8 (by rfl) rfl rfl (Nat.le_of_ble_eq_true rfl) ?_
  by_cases hf : h.op.length ≤ 20 ∧ h.fl.length ≤ 70
  · rw [decide_eq_true hf] at hF
    by_cases he : amtsE h = 0
    · obtain ⟨t, ho, ht⟩ := amtsE_some he
      have hok := amtsE_ok he
      have hnf := hok.nf
      have hnv := hok.nv
      have hnp := hok.np
      obtain ⟨hrl, hrr⟩ := runM_rows ho
      rw [he, ht] at a1
      obtain ⟨n, hn, hnl⟩ := pick hper.1 (k := h.per + 1) (by omega)
      obtain ⟨p1, q1, b, p2, p3, p4⟩ := parts' hok ho (n := n) (by omega)
      have f1 := floor_Amounts ⟨h.op, n, firstF n h.fl⟩ ⟨hwo, Nat.lt_of_le_of_lt (List.length_filter_le _ _) hwf⟩
      rw [p1, q1] at f1
      have f2 := floor_Amounts ⟨b, h.per - n, restF n h.fl⟩ ⟨by simp only [p3]; exact hwo, by simp only [restF, List.length_map]; exact Nat.lt_of_le_of_lt (List.length_filter_le _ _) hwf⟩
      have hml : ∀ r ∈ t, r.length < 2 ^ 63 := fun r hr => by rw [hrr r hr]; exact hwo
      have s1 := ref34_SameAmounts (t.take n) (t.take n) (by rw [List.length_take]; omega) (by rw [List.length_take]; omega) (fun x hx => hml x (List.mem_of_mem_take hx)) (fun x hx => hml x (List.mem_of_mem_take hx))
      rw [decide_eq_true rfl] at s1
      have s2 := ref34_SameAmounts (t.drop n) (t.drop n) (by rw [List.length_drop]; omega) (by rw [List.length_drop]; omega) (fun x hx => hml x (List.mem_of_mem_drop hx)) (fun x hx => hml x (List.mem_of_mem_drop hx))
      rw [decide_eq_true rfl] at s2
      have s1' : CallP Try.prog 17 [.d (tabD (t.take n)), .d (SL 1 ((t.map rowD).take n))] (retD [.b true]) := by rw [← List.map_take]; exact s1
      have s2' : CallP Try.prog 17 [.d (tabD (t.drop n)), .d (SL 1 ((t.map rowD).drop n))] (retD [.b true]) := by rw [← List.map_drop]; exact s2
      by_cases hn0 : n = 0
      · rw [if_pos hn0] at p2
        cases p2
        repeat' ((conv => whnf); first | with_reducible refine Dec.t (show true = true from rfl) ?_ | with_reducible refine Dec.t (show false = false from rfl) ?_ | with_reducible refine Dec.f (show ¬ (true = false) by decide) ?_ | with_reducible refine Dec.f (show ¬ (false = true) by decide) ?_ | refine Dec.t (by omega) ?_ | refine Dec.f (by omega) ?_ | refine Dec.split (fun _ => ?_) (fun _ => ?_) | refine Wr.id (by omega) ?_ | refine Chk.mk (by first | omega | exact rfl | (simp only [List.length_map]; omega) | (simp [room]; done) | (simp [room]; omega) | (simp [dropL, room]; done) | (simp [dropL, room]; omega)) ?_ | refine Nam.mk (List.length_map _) ?_ | refine Prep.skip ?_ | refine Eith.l ?_ | refine chk_t (x := D.flat _) (by assumption) ?_ | refine br_mk (fun _ => ?_) (fun _ => ?_) | refine ACall.of (law34_sane) ?_ | refine APCall.of (law34_sane) ?_ | refine ACall.of (hF) ?_ | refine APCall.of (hF) ?_ | refine ACall.of (a1) ?_ | refine APCall.of (a1) ?_ | (rw [hn]) | fail)
        all_goals first | (exfalso; omega) | skip
        all_goals (conv => whnf)
        refine ALoop.virtC 1 2 0 6 false (by decide) rfl rfl ?_
        conv => whnf
        refine ALoop.virtC 2 2 0 6 false (by decide) rfl rfl ?_
        conv => whnf
        refine ALoop.at (E := envOf Try.prog tt Try.f8.ntmps) (envOf_ok ttok mixed) (X := XF) (fun x => [(67, .d (I x.i))])
          (fun x => [(1, .var [.d (SL 1 (h.op.map I)), .d (I n), .sref 3 x.v 0 x.n false]), (2, .var [.d (rowD h.op), .d (I (h.per - n)), .sref 4 x.v2 0 x.n2 false]), (3, .row x.v 6 false x.d), (4, .row x.v2 6 false x.d2)])
          (fun x => x.i ≤ h.fl.length ∧ x.n = x.d.length ∧ x.n2 = x.d2.length ∧ x.d = ((h.fl.take x.i).filter (early n)).map Flow.d ∧ x.d2 = (((h.fl.take x.i).filter fun f => !early n f).map (Flow.back n)).map Flow.d)
          (fun x => h.fl.length - x.i) ⟨0, 0, 0, [], 0, 0, []⟩ (by repeat (first | exact trivial | refine And.intro rfl ?_ | refine And.intro (congrArg (fun n => V.d (I n)) (wrap_nat _ (by omega))) ?_)) rfl
          ⟨Nat.zero_le _, rfl, rfl, rfl, rfl⟩ ?_
        rintro ⟨i, v, c, d, v2, c2, d2⟩ ⟨hi, hc, hc2, hd, hd2⟩
        simp only at hi hc hc2 hd hd2
        dsimp only
        by_cases hlt : i < h.fl.length
        · obtain ⟨f, hx, _⟩ := drop_get hlt
          have hx0 : (h.fl.map Flow.d)[((i : Nat) : Int).toNat]? = some f.d := map_get hx
          have hdl : d.length ≤ i := by rw [hd, List.length_map]; exact Nat.le_trans (List.length_filter_le _ _) (List.length_take_le _ _)
          have hdl2 : d2.length ≤ i := by rw [hd2, List.length_map, List.length_map]; exact Nat.le_trans (List.length_filter_le _ _) (List.length_take_le _ _)
          have hfo := hok.fl f (List.mem_of_getElem? hx)
          unfold Flow.ok at hfo
          have e1 := fil_snoc (early n) hx
          have e2 := fil_snoc (fun f => !early n f) hx
          by_cases hlt2 : f.per < n
          · have hb : early n f = true := decide_eq_true hlt2
            rw [if_pos hb] at e1
            simp only [hb, Bool.not_true, Bool.false_eq_true, if_false, List.append_nil] at e2
            have n1 : d ++ [f.d] = ((h.fl.take (i + 1)).filter (early n)).map Flow.d := by rw [e1, List.map_append, hd]; rfl
            have n2 : d2 = (((h.fl.take (i + 1)).filter fun f => !early n f).map (Flow.back n)).map Flow.d := by rw [e2, hd2]
            clear e1 e2 hd hd2
            repeat' ((conv => whnf); first | with_reducible refine Dec.t (show true = true from rfl) ?_ | with_reducible refine Dec.t (show false = false from rfl) ?_ | with_reducible refine Dec.f (show ¬ (true = false) by decide) ?_ | with_reducible refine Dec.f (show ¬ (false = true) by decide) ?_ | refine Dec.t (by omega) ?_ | refine Dec.f (by omega) ?_ | refine Dec.split (fun _ => ?_) (fun _ => ?_) | refine Wr.id (by omega) ?_ | refine Chk.mk (by first | omega | exact rfl | (simp only [List.length_map]; omega) | (simp [room]; done) | (simp [room]; omega) | (simp [dropL, room]; done) | (simp [dropL, room]; omega)) ?_ | refine Nam.mk (List.length_map _) ?_ | refine Prep.skip ?_ | refine Eith.l ?_ | refine chk_t (x := D.flat _) (by assumption) ?_ | refine br_mk (fun _ => ?_) (fun _ => ?_) | refine nthK_mk hx0 ?_ | refine Chk.mk ⟨rfl, by simp [hc], by simp [room]; omega⟩ ?_ | fail)
            all_goals first | (exfalso; omega) | skip
            all_goals (conv => whnf)
            all_goals first
              | exact ⟨⟨i + 1, v + 1, c + 1, d ++ [f.d], v2, c2, d2⟩, Wm.end (by repeat (first | exact trivial | refine And.intro rfl ?_ | refine And.intro (congrArg (fun n => V.d (I n)) (wrap_nat _ (by omega))) ?_)) rfl rfl rfl, ⟨hlt, by simp [hc], hc2, n1, n2⟩, by show h.fl.length - (i + 1) < h.fl.length - i; omega⟩
          · have hb : early n f = false := decide_eq_false hlt2
            simp only [hb, Bool.false_eq_true, if_false, List.append_nil] at e1
            simp only [hb, Bool.not_false, if_true] at e2
            have n1 : d = ((h.fl.take (i + 1)).filter (early n)).map Flow.d := by rw [e1, hd]
            have n2 : d2 ++ [(f.back n).d] = (((h.fl.take (i + 1)).filter fun f => !early n f).map (Flow.back n)).map Flow.d := by rw [e2, List.map_append, List.map_append, hd2]; rfl
            clear e1 e2 hd hd2
            repeat' ((conv => whnf); first | with_reducible refine Dec.t (show true = true from rfl) ?_ | with_reducible refine Dec.t (show false = false from rfl) ?_ | with_reducible refine Dec.f (show ¬ (true = false) by decide) ?_ | with_reducible refine Dec.f (show ¬ (false = true) by decide) ?_ | refine Dec.t (by omega) ?_ | refine Dec.f (by omega) ?_ | refine Dec.split (fun _ => ?_) (fun _ => ?_) | refine Wr.id (by omega) ?_ | refine Chk.mk (by first | omega | exact rfl | (simp only [List.length_map]; omega) | (simp [room]; done) | (simp [room]; omega) | (simp [dropL, room]; done) | (simp [dropL, room]; omega)) ?_ | refine Nam.mk (List.length_map _) ?_ | refine Prep.skip ?_ | refine Eith.l ?_ | refine chk_t (x := D.flat _) (by assumption) ?_ | refine br_mk (fun _ => ?_) (fun _ => ?_) | refine nthK_mk hx0 ?_ | refine Chk.mk ⟨rfl, by simp [hc2], by simp [room]; omega⟩ ?_ | fail)
            all_goals first | (exfalso; omega) | skip
            all_goals (conv => whnf)
            all_goals first
              | exact ⟨⟨i + 1, v, c, d, v2 + 1, c2 + 1, d2 ++ [(f.back n).d]⟩, Wm.end (by repeat (first | exact trivial | refine And.intro rfl ?_ | refine And.intro (congrArg (fun n => V.d (I n)) (wrap_nat _ (by omega))) ?_)) rfl rfl rfl, ⟨hlt, hc, by simp [hc2], n1, n2⟩, by show h.fl.length - (i + 1) < h.fl.length - i; omega⟩
        · have : i = h.fl.length := by omega
          subst this
          rw [List.take_of_length_le (Nat.le_refl _)] at hd hd2
          have hd : d = (firstF n h.fl).map Flow.d := hd
          have hd2 : d2 = (restF n h.fl).map Flow.d := hd2
          subst hd hd2
          clear hi hlt
          repeat' ((conv => whnf); first | with_reducible refine Dec.t (show true = true from rfl) ?_ | with_reducible refine Dec.t (show false = false from rfl) ?_ | with_reducible refine Dec.f (show ¬ (true = false) by decide) ?_ | with_reducible refine Dec.f (show ¬ (false = true) by decide) ?_ | refine Dec.t (by omega) ?_ | refine Dec.f (by omega) ?_ | refine Dec.split (fun _ => ?_) (fun _ => ?_) | refine Wr.id (by omega) ?_ | refine Chk.mk (by first | omega | exact rfl | (simp only [List.length_map]; omega) | (simp [room]; done) | (simp [room]; omega) | (simp [dropL, room]; done) | (simp [dropL, room]; omega)) ?_ | refine Nam.mk (List.length_map _) ?_ | refine Prep.skip ?_ | refine Eith.l ?_ | refine chk_t (x := D.flat _) (by assumption) ?_ | refine br_mk (fun _ => ?_) (fun _ => ?_) | fail)
          all_goals first | (exfalso; omega) | skip
          all_goals (conv => whnf)
          refine ALoop.at (E := envOf Try.prog tt Try.f8.ntmps) (envOf_ok ttok mixed) (X := Nat) (fun j => [(96, .d (I j))]) (fun _ => []) (fun j => j ≤ h.op.length ∧ ∀ x ∈ h.op.take j, x ≤ 1048576) (fun j => h.op.length - j) 0 (by repeat (first | exact trivial | refine And.intro rfl ?_ | refine And.intro (congrArg (fun n => V.d (I n)) (wrap_nat _ (by omega))) ?_)) rfl ⟨Nat.zero_le _, by simp⟩ ?_
          rintro j ⟨hj, hjx⟩
          dsimp only
          by_cases hlj : j < h.op.length
          · obtain ⟨x, hx, _⟩ := drop_get hlj
            have hx0 : (h.op.map I)[((j : Nat) : Int).toNat]? = some (I x) := map_get hx
            by_cases hxm : x ≤ 1048576
            · repeat' ((conv => whnf); first | with_reducible refine Dec.t (show true = true from rfl) ?_ | with_reducible refine Dec.t (show false = false from rfl) ?_ | with_reducible refine Dec.f (show ¬ (true = false) by decide) ?_ | with_reducible refine Dec.f (show ¬ (false = true) by decide) ?_ | refine Dec.t (by omega) ?_ | refine Dec.f (by omega) ?_ | refine Dec.split (fun _ => ?_) (fun _ => ?_) | refine Wr.id (by omega) ?_ | refine Chk.mk (by first | omega | exact rfl | (simp only [List.length_map]; omega) | (simp [room]; done) | (simp [room]; omega) | (simp [dropL, room]; done) | (simp [dropL, room]; omega)) ?_ | refine Nam.mk (List.length_map _) ?_ | refine Prep.skip ?_ | refine Eith.l ?_ | refine chk_t (x := D.flat _) (by assumption) ?_ | refine br_mk (fun _ => ?_) (fun _ => ?_) | refine nthK_mk hx0 ?_ | fail)
              all_goals first | (exfalso; omega) | skip
              all_goals (conv => whnf)
              all_goals first
                | exact ⟨j + 1, Wm.end (by repeat (first | exact trivial | refine And.intro rfl ?_ | refine And.intro (congrArg (fun n => V.d (I n)) (wrap_nat _ (by omega))) ?_)) rfl rfl rfl, ⟨hlj, fun y hy => by
                    rw [List.take_add_one, hx] at hy
                    simp only [Option.toList_some, List.mem_append, List.mem_cons, List.not_mem_nil, or_false] at hy
                    rcases hy with hy | rfl
                    · exact hjx y hy
                    · exact hxm⟩, by show h.op.length - (j + 1) < h.op.length - j; omega⟩
            · repeat' ((conv => whnf); first | with_reducible refine Dec.t (show true = true from rfl) ?_ | with_reducible refine Dec.t (show false = false from rfl) ?_ | with_reducible refine Dec.f (show ¬ (true = false) by decide) ?_ | with_reducible refine Dec.f (show ¬ (false = true) by decide) ?_ | refine Dec.t (by omega) ?_ | refine Dec.f (by omega) ?_ | refine Dec.split (fun _ => ?_) (fun _ => ?_) | refine Wr.id (by omega) ?_ | refine Chk.mk (by first | omega | exact rfl | (simp only [List.length_map]; omega) | (simp [room]; done) | (simp [room]; omega) | (simp [dropL, room]; done) | (simp [dropL, room]; omega)) ?_ | refine Nam.mk (List.length_map _) ?_ | refine Prep.skip ?_ | refine Eith.l ?_ | refine chk_t (x := D.flat _) (by assumption) ?_ | refine br_mk (fun _ => ?_) (fun _ => ?_) | refine nthK_mk hx0 ?_ | fail)
              all_goals first | (exfalso; omega) | skip
              refine ACall.lift ?_
              repeat' ((conv => whnf); first | with_reducible refine Dec.t (show true = true from rfl) ?_ | with_reducible refine Dec.t (show false = false from rfl) ?_ | with_reducible refine Dec.f (show ¬ (true = false) by decide) ?_ | with_reducible refine Dec.f (show ¬ (false = true) by decide) ?_ | refine Dec.t (by omega) ?_ | refine Dec.f (by omega) ?_ | refine Dec.split (fun _ => ?_) (fun _ => ?_) | refine Wr.id (by omega) ?_ | refine Chk.mk (by first | omega | exact rfl | (simp only [List.length_map]; omega) | (simp [room]; done) | (simp [room]; omega) | (simp [dropL, room]; done) | (simp [dropL, room]; omega)) ?_ | refine Nam.mk (List.length_map _) ?_ | refine Prep.skip ?_ | refine Eith.l ?_ | refine chk_t (x := D.flat _) (by assumption) ?_ | refine br_mk (fun _ => ?_) (fun _ => ?_) | refine ACall.of (f1) ?_ | refine APCall.of (f1) ?_ | refine ACall.of (s1') ?_ | refine APCall.of (s1') ?_ | refine Nam.mk (y := 0) rfl ?_ | refine Nam.mk (whole hc) ?_ | refine Nam.mk (whole hc2) ?_ | fail)
              all_goals first | (exfalso; omega) | skip
              all_goals (conv => whnf)
              all_goals first | exact DLe.refl _
          · have hall : ∀ x ∈ h.op, x ≤ 1048576 := fun x hx => hjx x (by rw [List.take_of_length_le (by omega)]; exact hx)
            obtain ⟨p5, q5⟩ := p4 hall
            rw [p5, q5] at f2
            repeat' ((conv => whnf); first | with_reducible refine Dec.t (show true = true from rfl) ?_ | with_reducible refine Dec.t (show false = false from rfl) ?_ | with_reducible refine Dec.f (show ¬ (true = false) by decide) ?_ | with_reducible refine Dec.f (show ¬ (false = true) by decide) ?_ | refine Dec.t (by omega) ?_ | refine Dec.f (by omega) ?_ | refine Dec.split (fun _ => ?_) (fun _ => ?_) | refine Wr.id (by omega) ?_ | refine Chk.mk (by first | omega | exact rfl | (simp only [List.length_map]; omega) | (simp [room]; done) | (simp [room]; omega) | (simp [dropL, room]; done) | (simp [dropL, room]; omega)) ?_ | refine Nam.mk (List.length_map _) ?_ | refine Prep.skip ?_ | refine Eith.l ?_ | refine chk_t (x := D.flat _) (by assumption) ?_ | refine br_mk (fun _ => ?_) (fun _ => ?_) | fail)
            all_goals first | (exfalso; omega) | skip
            refine ACall.lift ?_
            repeat' ((conv => whnf); first | with_reducible refine Dec.t (show true = true from rfl) ?_ | with_reducible refine Dec.t (show false = false from rfl) ?_ | with_reducible refine Dec.f (show ¬ (true = false) by decide) ?_ | with_reducible refine Dec.f (show ¬ (false = true) by decide) ?_ | refine Dec.t (by omega) ?_ | refine Dec.f (by omega) ?_ | refine Dec.split (fun _ => ?_) (fun _ => ?_) | refine Wr.id (by omega) ?_ | refine Chk.mk (by first | omega | exact rfl | (simp only [List.length_map]; omega) | (simp [room]; done) | (simp [room]; omega) | (simp [dropL, room]; done) | (simp [dropL, room]; omega)) ?_ | refine Nam.mk (List.length_map _) ?_ | refine Prep.skip ?_ | refine Eith.l ?_ | refine chk_t (x := D.flat _) (by assumption) ?_ | refine br_mk (fun _ => ?_) (fun _ => ?_) | refine ACall.of (f1) ?_ | refine APCall.of (f1) ?_ | refine ACall.of (s1') ?_ | refine APCall.of (s1') ?_ | refine Nam.mk (whole hc) ?_ | refine Nam.mk (whole hc2) ?_ | fail)
            all_goals first | (exfalso; omega) | skip
            refine ACall.lift ?_
            repeat' ((conv => whnf); first | with_reducible refine Dec.t (show true = true from rfl) ?_ | with_reducible refine Dec.t (show false = false from rfl) ?_ | with_reducible refine Dec.f (show ¬ (true = false) by decide) ?_ | with_reducible refine Dec.f (show ¬ (false = true) by decide) ?_ | refine Dec.t (by omega) ?_ | refine Dec.f (by omega) ?_ | refine Dec.split (fun _ => ?_) (fun _ => ?_) | refine Wr.id (by omega) ?_ | refine Chk.mk (by first | omega | exact rfl | (simp only [List.length_map]; omega) | (simp [room]; done) | (simp [room]; omega) | (simp [dropL, room]; done) | (simp [dropL, room]; omega)) ?_ | refine Nam.mk (List.length_map _) ?_ | refine Prep.skip ?_ | refine Eith.l ?_ | refine chk_t (x := D.flat _) (by assumption) ?_ | refine br_mk (fun _ => ?_) (fun _ => ?_) | refine ACall.of (f2) ?_ | refine APCall.of (f2) ?_ | refine ACall.of (s2') ?_ | refine APCall.of (s2') ?_ | refine Nam.mk (whole hc) ?_ | refine Nam.mk (whole hc2) ?_ | fail)
            all_goals first | (exfalso; omega) | skip
            all_goals (conv => whnf)
            all_goals first | exact DLe.refl _
      · rw [if_neg hn0] at p2
        have b1' : (t.map rowD)[((n : Int) - 1).toNat]? = some (rowD b) := by rw [show ((n : Int) - 1).toNat = n - 1 by omega, List.getElem?_map, p2]; rfl
        repeat' ((conv => whnf); first | with_reducible refine Dec.t (show true = true from rfl) ?_ | with_reducible refine Dec.t (show false = false from rfl) ?_ | with_reducible refine Dec.f (show ¬ (true = false) by decide) ?_ | with_reducible refine Dec.f (show ¬ (false = true) by decide) ?_ | refine Dec.t (by omega) ?_ | refine Dec.f (by omega) ?_ | refine Dec.split (fun _ => ?_) (fun _ => ?_) | refine Wr.id (by omega) ?_ | refine Chk.mk (by first | omega | exact rfl | (simp only [List.length_map]; omega) | (simp [room]; done) | (simp [room]; omega) | (simp [dropL, room]; done) | (simp [dropL, room]; omega)) ?_ | refine Nam.mk (List.length_map _) ?_ | refine Prep.skip ?_ | refine Eith.l ?_ | refine chk_t (x := D.flat _) (by assumption) ?_ | refine br_mk (fun _ => ?_) (fun _ => ?_) | refine ACall.of (law34_sane) ?_ | refine APCall.of (law34_sane) ?_ | refine ACall.of (hF) ?_ | refine APCall.of (hF) ?_ | refine ACall.of (a1) ?_ | refine APCall.of (a1) ?_ | (rw [hn]) | refine nthK_mk b1' ?_ | fail)
        all_goals first | (exfalso; omega) | skip
        all_goals (conv => whnf)
        refine ALoop.virtC 1 2 0 6 false (by decide) rfl rfl ?_
        conv => whnf
        refine ALoop.virtC 2 2 0 6 false (by decide) rfl rfl ?_
        conv => whnf
        refine ALoop.at (E := envOf Try.prog tt Try.f8.ntmps) (envOf_ok ttok mixed) (X := XF) (fun x => [(67, .d (I x.i))])
          (fun x => [(1, .var [.d (SL 1 (h.op.map I)), .d (I n), .sref 3 x.v 0 x.n false]), (2, .var [.d (rowD b), .d (I (h.per - n)), .sref 4 x.v2 0 x.n2 false]), (3, .row x.v 6 false x.d), (4, .row x.v2 6 false x.d2)])
          (fun x => x.i ≤ h.fl.length ∧ x.n = x.d.length ∧ x.n2 = x.d2.length ∧ x.d = ((h.fl.take x.i).filter (early n)).map Flow.d ∧ x.d2 = (((h.fl.take x.i).filter fun f => !early n f).map (Flow.back n)).map Flow.d)
          (fun x => h.fl.length - x.i) ⟨0, 0, 0, [], 0, 0, []⟩ (by repeat (first | exact trivial | refine And.intro rfl ?_ | refine And.intro (congrArg (fun n => V.d (I n)) (wrap_nat _ (by omega))) ?_)) rfl
          ⟨Nat.zero_le _, rfl, rfl, rfl, rfl⟩ ?_
        rintro ⟨i, v, c, d, v2, c2, d2⟩ ⟨hi, hc, hc2, hd, hd2⟩
        simp only at hi hc hc2 hd hd2
        dsimp only
        by_cases hlt : i < h.fl.length
        · obtain ⟨f, hx, _⟩ := drop_get hlt
          have hx0 : (h.fl.map Flow.d)[((i : Nat) : Int).toNat]? = some f.d := map_get hx
          have hdl : d.length ≤ i := by rw [hd, List.length_map]; exact Nat.le_trans (List.length_filter_le _ _) (List.length_take_le _ _)
          have hdl2 : d2.length ≤ i := by rw [hd2, List.length_map, List.length_map]; exact Nat.le_trans (List.length_filter_le _ _) (List.length_take_le _ _)
          have hfo := hok.fl f (List.mem_of_getElem? hx)
          unfold Flow.ok at hfo
          have e1 := fil_snoc (early n) hx
          have e2 := fil_snoc (fun f => !early n f) hx
          by_cases hlt2 : f.per < n
          · have hb : early n f = true := decide_eq_true hlt2
            rw [if_pos hb] at e1
            simp only [hb, Bool.not_true, Bool.false_eq_true, if_false, List.append_nil] at e2
            have n1 : d ++ [f.d] = ((h.fl.take (i + 1)).filter (early n)).map Flow.d := by rw [e1, List.map_append, hd]; rfl
            have n2 : d2 = (((h.fl.take (i + 1)).filter fun f => !early n f).map (Flow.back n)).map Flow.d := by rw [e2, hd2]
            clear e1 e2 hd hd2
            repeat' ((conv => whnf); first | with_reducible refine Dec.t (show true = true from rfl) ?_ | with_reducible refine Dec.t (show false = false from rfl) ?_ | with_reducible refine Dec.f (show ¬ (true = false) by decide) ?_ | with_reducible refine Dec.f (show ¬ (false = true) by decide) ?_ | refine Dec.t (by omega) ?_ | refine Dec.f (by omega) ?_ | refine Dec.split (fun _ => ?_) (fun _ => ?_) | refine Wr.id (by omega) ?_ | refine Chk.mk (by first | omega | exact rfl | (simp only [List.length_map]; omega) | (simp [room]; done) | (simp [room]; omega) | (simp [dropL, room]; done) | (simp [dropL, room]; omega)) ?_ | refine Nam.mk (List.length_map _) ?_ | refine Prep.skip ?_ | refine Eith.l ?_ | refine chk_t (x := D.flat _) (by assumption) ?_ | refine br_mk (fun _ => ?_) (fun _ => ?_) | refine nthK_mk hx0 ?_ | refine Chk.mk ⟨rfl, by simp [hc], by simp [room]; omega⟩ ?_ | fail)
            all_goals first | (exfalso; omega) | skip
            all_goals (conv => whnf)
            all_goals first
              | exact ⟨⟨i + 1, v + 1, c + 1, d ++ [f.d], v2, c2, d2⟩, Wm.end (by repeat (first | exact trivial | refine And.intro rfl ?_ | refine And.intro (congrArg (fun n => V.d (I n)) (wrap_nat _ (by omega))) ?_)) rfl rfl rfl, ⟨hlt, by simp [hc], hc2, n1, n2⟩, by show h.fl.length - (i + 1) < h.fl.length - i; omega⟩
          · have hb : early n f = false := decide_eq_false hlt2
            simp only [hb, Bool.false_eq_true, if_false, List.append_nil] at e1
            simp only [hb, Bool.not_false, if_true] at e2
            have n1 : d = ((h.fl.take (i + 1)).filter (early n)).map Flow.d := by rw [e1, hd]
            have n2 : d2 ++ [(f.back n).d] = (((h.fl.take (i + 1)).filter fun f => !early n f).map (Flow.back n)).map Flow.d := by rw [e2, List.map_append, List.map_append, hd2]; rfl
            clear e1 e2 hd hd2
            repeat' ((conv => whnf); first | with_reducible refine Dec.t (show true = true from rfl) ?_ | with_reducible refine Dec.t (show false = false from rfl) ?_ | with_reducible refine Dec.f (show ¬ (true = false) by decide) ?_ | with_reducible refine Dec.f (show ¬ (false = true) by decide) ?_ | refine Dec.t (by omega) ?_ | refine Dec.f (by omega) ?_ | refine Dec.split (fun _ => ?_) (fun _ => ?_) | refine Wr.id (by omega) ?_ | refine Chk.mk (by first | omega | exact rfl | (simp only [List.length_map]; omega) | (simp [room]; done) | (simp [room]; omega) | (simp [dropL, room]; done) | (simp [dropL, room]; omega)) ?_ | refine Nam.mk (List.length_map _) ?_ | refine Prep.skip ?_ | refine Eith.l ?_ | refine chk_t (x := D.flat _) (by assumption) ?_ | refine br_mk (fun _ => ?_) (fun _ => ?_) | refine nthK_mk hx0 ?_ | refine Chk.mk ⟨rfl, by simp [hc2], by simp [room]; omega⟩ ?_ | fail)
            all_goals first | (exfalso; omega) | skip
            all_goals (conv => whnf)
            all_goals first
              | exact ⟨⟨i + 1, v, c, d, v2 + 1, c2 + 1, d2 ++ [(f.back n).d]⟩, Wm.end (by repeat (first | exact trivial | refine And.intro rfl ?_ | refine And.intro (congrArg (fun n => V.d (I n)) (wrap_nat _ (by omega))) ?_)) rfl rfl rfl, ⟨hlt, hc, by simp [hc2], n1, n2⟩, by show h.fl.length - (i + 1) < h.fl.length - i; omega⟩
        · have : i = h.fl.length := by omega
          subst this
          rw [List.take_of_length_le (Nat.le_refl _)] at hd hd2
          have hd : d = (firstF n h.fl).map Flow.d := hd
          have hd2 : d2 = (restF n h.fl).map Flow.d := hd2
          subst hd hd2
          clear hi hlt
          repeat' ((conv => whnf); first | with_reducible refine Dec.t (show true = true from rfl) ?_ | with_reducible refine Dec.t (show false = false from rfl) ?_ | with_reducible refine Dec.f (show ¬ (true = false) by decide) ?_ | with_reducible refine Dec.f (show ¬ (false = true) by decide) ?_ | refine Dec.t (by omega) ?_ | refine Dec.f (by omega) ?_ | refine Dec.split (fun _ => ?_) (fun _ => ?_) | refine Wr.id (by omega) ?_ | refine Chk.mk (by first | omega | exact rfl | (simp only [List.length_map]; omega) | (simp [room]; done) | (simp [room]; omega) | (simp [dropL, room]; done) | (simp [dropL, room]; omega)) ?_ | refine Nam.mk (List.length_map _) ?_ | refine Prep.skip ?_ | refine Eith.l ?_ | refine chk_t (x := D.flat _) (by assumption) ?_ | refine br_mk (fun _ => ?_) (fun _ => ?_) | fail)
          all_goals first | (exfalso; omega) | skip
          all_goals (conv => whnf)
          refine ALoop.at (E := envOf Try.prog tt Try.f8.ntmps) (envOf_ok ttok mixed) (X := Nat) (fun j => [(96, .d (I j))]) (fun _ => []) (fun j => j ≤ b.length ∧ ∀ x ∈ b.take j, x ≤ 1048576) (fun j => b.length - j) 0 (by repeat (first | exact trivial | refine And.intro rfl ?_ | refine And.intro (congrArg (fun n => V.d (I n)) (wrap_nat _ (by omega))) ?_)) rfl ⟨Nat.zero_le _, by simp⟩ ?_
          rintro j ⟨hj, hjx⟩
          dsimp only
          by_cases hlj : j < b.length
          · obtain ⟨x, hx, _⟩ := drop_get hlj
            have hx0 : (b.map I)[((j : Nat) : Int).toNat]? = some (I x) := map_get hx
            by_cases hxm : x ≤ 1048576
            · repeat' ((conv => whnf); first | with_reducible refine Dec.t (show true = true from rfl) ?_ | with_reducible refine Dec.t (show false = false from rfl) ?_ | with_reducible refine Dec.f (show ¬ (true = false) by decide) ?_ | with_reducible refine Dec.f (show ¬ (false = true) by decide) ?_ | refine Dec.t (by omega) ?_ | refine Dec.f (by omega) ?_ | refine Dec.split (fun _ => ?_) (fun _ => ?_) | refine Wr.id (by omega) ?_ | refine Chk.mk (by first | omega | exact rfl | (simp only [List.length_map]; omega) | (simp [room]; done) | (simp [room]; omega) | (simp [dropL, room]; done) | (simp [dropL, room]; omega)) ?_ | refine Nam.mk (List.length_map _) ?_ | refine Prep.skip ?_ | refine Eith.l ?_ | refine chk_t (x := D.flat _) (by assumption) ?_ | refine br_mk (fun _ => ?_) (fun _ => ?_) | refine nthK_mk hx0 ?_ | fail)
              all_goals first | (exfalso; omega) | skip
              all_goals (conv => whnf)
              all_goals first
                | exact ⟨j + 1, Wm.end (by repeat (first | exact trivial | refine And.intro rfl ?_ | refine And.intro (congrArg (fun n => V.d (I n)) (wrap_nat _ (by omega))) ?_)) rfl rfl rfl, ⟨hlj, fun y hy => by
                    rw [List.take_add_one, hx] at hy
                    simp only [Option.toList_some, List.mem_append, List.mem_cons, List.not_mem_nil, or_false] at hy
                    rcases hy with hy | rfl
                    · exact hjx y hy
                    · exact hxm⟩, by show b.length - (j + 1) < b.length - j; omega⟩
            · repeat' ((conv => whnf); first | with_reducible refine Dec.t (show true = true from rfl) ?_ | with_reducible refine Dec.t (show false = false from rfl) ?_ | with_reducible refine Dec.f (show ¬ (true = false) by decide) ?_ | with_reducible refine Dec.f (show ¬ (false = true) by decide) ?_ | refine Dec.t (by omega) ?_ | refine Dec.f (by omega) ?_ | refine Dec.split (fun _ => ?_) (fun _ => ?_) | refine Wr.id (by omega) ?_ | refine Chk.mk (by first | omega | exact rfl | (simp only [List.length_map]; omega) | (simp [room]; done) | (simp [room]; omega) | (simp [dropL, room]; done) | (simp [dropL, room]; omega)) ?_ | refine Nam.mk (List.length_map _) ?_ | refine Prep.skip ?_ | refine Eith.l ?_ | refine chk_t (x := D.flat _) (by assumption) ?_ | refine br_mk (fun _ => ?_) (fun _ => ?_) | refine nthK_mk hx0 ?_ | fail)
              all_goals first | (exfalso; omega) | skip
              refine ACall.lift ?_
              repeat' ((conv => whnf); first | with_reducible refine Dec.t (show true = true from rfl) ?_ | with_reducible refine Dec.t (show false = false from rfl) ?_ | with_reducible refine Dec.f (show ¬ (true = false) by decide) ?_ | with_reducible refine Dec.f (show ¬ (false = true) by decide) ?_ | refine Dec.t (by omega) ?_ | refine Dec.f (by omega) ?_ | refine Dec.split (fun _ => ?_) (fun _ => ?_) | refine Wr.id (by omega) ?_ | refine Chk.mk (by first | omega | exact rfl | (simp only [List.length_map]; omega) | (simp [room]; done) | (simp [room]; omega) | (simp [dropL, room]; done) | (simp [dropL, room]; omega)) ?_ | refine Nam.mk (List.length_map _) ?_ | refine Prep.skip ?_ | refine Eith.l ?_ | refine chk_t (x := D.flat _) (by assumption) ?_ | refine br_mk (fun _ => ?_) (fun _ => ?_) | refine ACall.of (f1) ?_ | refine APCall.of (f1) ?_ | refine ACall.of (s1') ?_ | refine APCall.of (s1') ?_ | refine Nam.mk (y := 0) rfl ?_ | refine Nam.mk (whole hc) ?_ | refine Nam.mk (whole hc2) ?_ | fail)
              all_goals first | (exfalso; omega) | skip
              all_goals (conv => whnf)
              all_goals first | exact DLe.refl _
          · have hall : ∀ x ∈ b, x ≤ 1048576 := fun x hx => hjx x (by rw [List.take_of_length_le (by omega)]; exact hx)
            obtain ⟨p5, q5⟩ := p4 hall
            rw [p5, q5] at f2
            repeat' ((conv => whnf); first | with_reducible refine Dec.t (show true = true from rfl) ?_ | with_reducible refine Dec.t (show false = false from rfl) ?_ | with_reducible refine Dec.f (show ¬ (true = false) by decide) ?_ | with_reducible refine Dec.f (show ¬ (false = true) by decide) ?_ | refine Dec.t (by omega) ?_ | refine Dec.f (by omega) ?_ | refine Dec.split (fun _ => ?_) (fun _ => ?_) | refine Wr.id (by omega) ?_ | refine Chk.mk (by first | omega | exact rfl | (simp only [List.length_map]; omega) | (simp [room]; done) | (simp [room]; omega) | (simp [dropL, room]; done) | (simp [dropL, room]; omega)) ?_ | refine Nam.mk (List.length_map _) ?_ | refine Prep.skip ?_ | refine Eith.l ?_ | refine chk_t (x := D.flat _) (by assumption) ?_ | refine br_mk (fun _ => ?_) (fun _ => ?_) | fail)
            all_goals first | (exfalso; omega) | skip
            refine ACall.lift ?_
            repeat' ((conv => whnf); first | with_reducible refine Dec.t (show true = true from rfl) ?_ | with_reducible refine Dec.t (show false = false from rfl) ?_ | with_reducible refine Dec.f (show ¬ (true = false) by decide) ?_ | with_reducible refine Dec.f (show ¬ (false = true) by decide) ?_ | refine Dec.t (by omega) ?_ | refine Dec.f (by omega) ?_ | refine Dec.split (fun _ => ?_) (fun _ => ?_) | refine Wr.id (by omega) ?_ | refine Chk.mk (by first | omega | exact rfl | (simp only [List.length_map]; omega) | (simp [room]; done) | (simp [room]; omega) | (simp [dropL, room]; done) | (simp [dropL, room]; omega)) ?_ | refine Nam.mk (List.length_map _) ?_ | refine Prep.skip ?_ | refine Eith.l ?_ | refine chk_t (x := D.flat _) (by assumption) ?_ | refine br_mk (fun _ => ?_) (fun _ => ?_) | refine ACall.of (f1) ?_ | refine APCall.of (f1) ?_ | refine ACall.of (s1') ?_ | refine APCall.of (s1') ?_ | refine Nam.mk (whole hc) ?_ | refine Nam.mk (whole hc2) ?_ | fail)
            all_goals first | (exfalso; omega) | skip
            refine ACall.lift ?_
            repeat' ((conv => whnf); first | with_reducible refine Dec.t (show true = true from rfl) ?_ | with_reducible refine Dec.t (show false = false from rfl) ?_ | with_reducible refine Dec.f (show ¬ (true = false) by decide) ?_ | with_reducible refine Dec.f (show ¬ (false = true) by decide) ?_ | refine Dec.t (by omega) ?_ | refine Dec.f (by omega) ?_ | refine Dec.split (fun _ => ?_) (fun _ => ?_) | refine Wr.id (by omega) ?_ | refine Chk.mk (by first | omega | exact rfl | (simp only [List.length_map]; omega) | (simp [room]; done) | (simp [room]; omega) | (simp [dropL, room]; done) | (simp [dropL, room]; omega)) ?_ | refine Nam.mk (List.length_map _) ?_ | refine Prep.skip ?_ | refine Eith.l ?_ | refine chk_t (x := D.flat _) (by assumption) ?_ | refine br_mk (fun _ => ?_) (fun _ => ?_) | refine ACall.of (f2) ?_ | refine APCall.of (f2) ?_ | refine ACall.of (s2') ?_ | refine APCall.of (s2') ?_ | refine Nam.mk (whole hc) ?_ | refine Nam.mk (whole hc2) ?_ | fail)
            all_goals first | (exfalso; omega) | skip
            all_goals (conv => whnf)
            all_goals first | exact DLe.refl _
    · repeat' ((conv => whnf); first | with_reducible refine Dec.t (show true = true from rfl) ?_ | with_reducible refine Dec.t (show false = false from rfl) ?_ | with_reducible refine Dec.f (show ¬ (true = false) by decide) ?_ | with_reducible refine Dec.f (show ¬ (false = true) by decide) ?_ | refine Dec.t (by omega) ?_ | refine Dec.f (by omega) ?_ | refine Dec.split (fun _ => ?_) (fun _ => ?_) | refine Wr.id (by omega) ?_ | refine Chk.mk (by first | omega | exact rfl | (simp only [List.length_map]; omega) | (simp [room]; done) | (simp [room]; omega) | (simp [dropL, room]; done) | (simp [dropL, room]; omega)) ?_ | refine Nam.mk (List.length_map _) ?_ | refine Prep.skip ?_ | refine Eith.l ?_ | refine chk_t (x := D.flat _) (by assumption) ?_ | refine br_mk (fun _ => ?_) (fun _ => ?_) | refine ACall.of (law34_sane) ?_ | refine APCall.of (law34_sane) ?_ | refine ACall.of (hF) ?_ | refine APCall.of (hF) ?_ | refine ACall.of (a1) ?_ | refine APCall.of (a1) ?_ | fail)
      all_goals first | (exfalso; omega) | skip
      all_goals (conv => whnf)
      all_goals first | exact DLe.refl _
  · rw [decide_eq_false hf] at hF
    repeat' ((conv => whnf); first | with_reducible refine Dec.t (show true = true from rfl) ?_ | with_reducible refine Dec.t (show false = false from rfl) ?_ | with_reducible refine Dec.f (show ¬ (true = false) by decide) ?_ | with_reducible refine Dec.f (show ¬ (false = true) by decide) ?_ | refine Dec.t (by omega) ?_ | refine Dec.f (by omega) ?_ | refine Dec.split (fun _ => ?_) (fun _ => ?_) | refine Wr.id (by omega) ?_ | refine Chk.mk (by first | omega | exact rfl | (simp only [List.length_map]; omega) | (simp [room]; done) | (simp [room]; omega) | (simp [dropL, room]; done) | (simp [dropL, room]; omega)) ?_ | refine Nam.mk (List.length_map _) ?_ | refine Prep.skip ?_ | refine Eith.l ?_ | refine chk_t (x := D.flat _) (by assumption) ?_ | refine br_mk (fun _ => ?_) (fun _ => ?_) | refine ACall.of (law34_sane) ?_ | refine APCall.of (law34_sane) ?_ | refine ACall.of (hF) ?_ | refine APCall.of (hF) ?_ | fail)
    all_goals first | (exfalso; omega) | skip
    all_goals (conv => whnf)
    all_goals first | exact DLe.refl _
end Go.PM

