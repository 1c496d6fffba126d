/- The statements of floors: Mass. -/
import Derived.Test.YtgpgfcehcenejaaL34a
namespace Go.PM
open Go.Proofs
set_option maxRecDepth 10000
set_option maxHeartbeats 8000000

def totP (p : Int) (n : Int) (f : Flow) : Int := if f.per = p then (if f.kind = 1 then n + f.amt else if f.kind = 3 ∨ f.kind = 4 then n - f.amt else n) else n
theorem sum_set : ∀ (l : List Int) (i : Nat) (x : Int), i < l.length → (l.set i x).sum = l.sum - l.getD i 0 + x
  | [], i, x, h => by simp at h
  | y :: l, 0, x, h => by simp; omega
  | y :: l, i + 1, x, h => by
    have ih := sum_set l i x (by simpa using h)
    simp only [List.set_cons_succ, List.sum_cons, ih, List.getD_cons_succ]
    omega
theorem stepA_sum {p np : Int} {l : List Int} {f : Flow} (hf : f.ok l.length np) : (stepA p l f).sum = totP p l.sum f := by
  unfold Flow.ok at hf
  unfold stepA totP addAt subAt
  by_cases hp : f.per = p
  · rw [if_pos hp, if_pos hp]
    rcases hf.2.2 with h | h | h | h
    · rw [if_pos h.1, if_pos h.1, sum_set _ _ _ (by omega)]; omega
    · rw [if_neg (by omega), if_pos h.1, if_neg (by omega), if_neg (by omega), sum_set _ _ _ (by rw [List.length_set]; omega), sum_set _ _ _ (by omega)]; omega
    · rw [if_neg (by omega), if_neg (by omega), if_neg (by omega), if_pos (by omega), sum_set _ _ _ (by omega)]; omega
    · rw [if_neg (by omega), if_neg (by omega), if_neg (by omega), if_pos (by omega), sum_set _ _ _ (by omega)]; omega
  · rw [if_neg hp, if_neg hp]
theorem afterM_sum {p np : Int} : ∀ (fl : List Flow) {l : List Int}, (∀ f ∈ fl, f.ok l.length np) → (afterM fl p l).sum = fl.foldl (totP p) l.sum
  | [], l, _ => rfl
  | f :: fl, l, h => by
    show (afterM fl p (stepA p l f)).sum = fl.foldl (totP p) (totP p l.sum f)
    rw [← stepA_sum (h f (.head _))]
    exact afterM_sum fl fun g hg => by rw [stepA_len]; exact h g (.tail _ hg)
theorem sum_le {B : Int} : ∀ (l : List Int), (∀ n ∈ l, 0 ≤ n ∧ n ≤ B) → 0 ≤ l.sum ∧ l.sum ≤ B * l.length
  | [], _ => by simp
  | x :: l, h => by
    have ih := sum_le l fun n hn => h n (.tail _ hn)
    have := h x (.head _)
    simp only [List.sum_cons, List.length_cons]
    rw [show B * ((l.length + 1 : Nat) : Int) = B * l.length + B by rw [Int.natCast_succ, Int.mul_add, Int.mul_one]]
    omega
theorem take_sum {l : List Int} {i : Nat} {x : Int} (h : l[i]? = some x) : (l.take (i + 1)).sum = (l.take i).sum + x := by rw [List.take_add_one, h]; simp
structure XM where
  p : Nat
  now : List Int
  tot : Int
/-- A round of the run. -/
theorem runM_step {fl : List Flow} {n : Nat} {p : Int} {now : List Int} {t : List (List Int)} (h : runM fl (n + 1) p now = some t) : canP fl p now ∧ ∃ t', t = afterM fl p now :: t' ∧ runM fl n (p + 1) (afterM fl p now) = some t' := by
  by_cases hc : canP fl p now
  · rw [runM_some hc] at h
    obtain ⟨t', h1, h2⟩ := Option.map_eq_some_iff.1 h
    exact ⟨hc, t', h2.symm, h1⟩
  · rw [runM_none hc] at h; cases h
theorem bound16 {h : Hist} (hok : h.ok) {now : List Int} {p : Nat} (hc : canP h.fl p now) (hlo : ∀ n ∈ now, 0 ≤ n ∧ n ≤ 1048576 * (1 + 64 * (p : Int))) : ∀ n ∈ afterM h.fl p now, 0 ≤ n ∧ n ≤ 1048576 * (1 + 64 * ((p + 1 : Nat) : Int)) := fun n hn => by
  have hnf := hok.nf
  have h1 := hc.1 n hn
  have h2 := afterM_le h.fl (p := p) (l := now) (B := 1048576 * (1 + 64 * (p : Int))) (by omega) (fun n hn => (hlo n hn).2) (fun f hf => by have := hok.fl f hf; unfold Flow.ok at this; omega) n hn
  omega
theorem law34_Mass (h : Hist) (hw : WidH h) : CallP Try.prog 4 [.d h.d] (retD [.b true]) := by
  have hwo := hw.o
  have hwf := hw.f
  have a1 := floor_Amounts h hw
  have d1 := floor_Check h hw
  refine exPure_sound (E := envOf Try.prog tt Try.f4.ntmps) (envOf_ok ttok mixed) Try.func4 (by rfl) rfl rfl (Nat.le_of_ble_eq_true rfl) ?_
  by_cases hf : h.op.length ≤ 20 ∧ h.fl.length ≤ 70
  · by_cases he : amtsE h = 0
    · obtain ⟨t, ho, ht⟩ := amtsE_some he
      have hok := amtsE_ok he
      have hnf := hok.nf
      have hnv := hok.nv
      have hnp := hok.np
      obtain ⟨hrl, hrr⟩ := runM_rows ho
      rw [he, ht] at a1
      repeat' ((conv => whnf); first | with_reducible refine Dec.t (show true = true from rfl) ?_ | with_reducible refine Dec.t (show false = false from rfl) ?_ | with_reducible refine Dec.f (show ¬ (true = false) by decide) ?_ | with_reducible refine Dec.f (show ¬ (false = true) by decide) ?_ | refine Dec.t (by omega) ?_ | refine Dec.f (by omega) ?_ | refine Dec.split (fun _ => ?_) (fun _ => ?_) | refine Wr.id (by omega) ?_ | refine Chk.mk (by first | omega | exact rfl | (simp only [List.length_map]; omega) | (simp [room]; done) | (simp [room]; omega) | (simp [dropL, room]; done) | (simp [dropL, room]; omega)) ?_ | refine Nam.mk (List.length_map _) ?_ | refine Prep.skip ?_ | refine Eith.l ?_ | refine chk_t (x := D.flat _) (by assumption) ?_ | refine br_mk (fun _ => ?_) (fun _ => ?_) | refine ACall.of (law34_sane) ?_ | refine APCall.of (law34_sane) ?_ | refine ACall.of (a1) ?_ | refine APCall.of (a1) ?_ | fail)
      all_goals first | (exfalso; omega) | skip
      all_goals (conv => whnf)
      refine ALoop.at (E := envOf Try.prog tt Try.f4.ntmps) (envOf_ok ttok mixed) (X := Nat × Int) (fun x => [(55, .d (I x.1)), (5, .d (I x.2))]) (fun _ => []) (fun x => x.1 ≤ h.op.length ∧ x.2 = (h.op.take x.1).sum) (fun x => h.op.length - x.1) (0, 0) (by repeat (first | exact trivial | refine And.intro rfl ?_ | refine And.intro (congrArg (fun n => V.d (I n)) (wrap_nat _ (by omega))) ?_)) rfl ⟨Nat.zero_le _, by simp⟩ ?_
      rintro ⟨i, s⟩ ⟨hi, hs0⟩
      simp only at hi hs0
      dsimp only
      by_cases hlt : i < h.op.length
      · obtain ⟨n, hx, _⟩ := drop_get hlt
        have hs := take_sum hx
        have hb := sum_le (B := 1048576) (h.op.take i) (fun n hn => hok.op n (List.mem_of_mem_take hn))
        have hb2 : (1048576 : Int) * (h.op.take i).length ≤ 1048576 * 16 := by rw [List.length_take]; omega
        have hn := hok.op n (List.mem_of_getElem? hx)
        repeat' ((conv => whnf); first | with_reducible refine Dec.t (show true = true from rfl) ?_ | with_reducible refine Dec.t (show false = false from rfl) ?_ | with_reducible refine Dec.f (show ¬ (true = false) by decide) ?_ | with_reducible refine Dec.f (show ¬ (false = true) by decide) ?_ | refine Dec.t (by omega) ?_ | refine Dec.f (by omega) ?_ | refine Dec.split (fun _ => ?_) (fun _ => ?_) | refine Wr.id (by omega) ?_ | refine Chk.mk (by first | omega | exact rfl | (simp only [List.length_map]; omega) | (simp [room]; done) | (simp [room]; omega) | (simp [dropL, room]; done) | (simp [dropL, room]; omega)) ?_ | refine Nam.mk (List.length_map _) ?_ | refine Prep.skip ?_ | refine Eith.l ?_ | refine chk_t (x := D.flat _) (by assumption) ?_ | refine br_mk (fun _ => ?_) (fun _ => ?_) | refine nthK_mk (map_get hx) ?_ | fail)
        all_goals first | (exfalso; omega) | skip
        all_goals (conv => whnf)
        all_goals first | exact ⟨(i + 1, s + n), Wm.end (by repeat (first | exact trivial | refine And.intro rfl ?_ | refine And.intro (congrArg (fun n => V.d (I n)) (wrap_nat _ (by omega))) ?_)) rfl rfl rfl, ⟨hlt, by simp only; omega⟩, by simp only; omega⟩
      · have : i = h.op.length := by omega
        subst this
        rw [List.take_length] at hs0
        subst hs0
        clear hi hlt
        repeat' ((conv => whnf); first | with_reducible refine Dec.t (show true = true from rfl) ?_ | with_reducible refine Dec.t (show false = false from rfl) ?_ | with_reducible refine Dec.f (show ¬ (true = false) by decide) ?_ | with_reducible refine Dec.f (show ¬ (false = true) by decide) ?_ | refine Dec.t (by omega) ?_ | refine Dec.f (by omega) ?_ | refine Dec.split (fun _ => ?_) (fun _ => ?_) | refine Wr.id (by omega) ?_ | refine Chk.mk (by first | omega | exact rfl | (simp only [List.length_map]; omega) | (simp [room]; done) | (simp [room]; omega) | (simp [dropL, room]; done) | (simp [dropL, room]; omega)) ?_ | refine Nam.mk (List.length_map _) ?_ | refine Prep.skip ?_ | refine Eith.l ?_ | refine chk_t (x := D.flat _) (by assumption) ?_ | refine br_mk (fun _ => ?_) (fun _ => ?_) | fail)
        all_goals first | (exfalso; omega) | skip
        all_goals (conv => whnf)
        refine ALoop.at (E := envOf Try.prog tt Try.f4.ntmps) (envOf_ok ttok mixed) (X := XM) (fun x => [(67, .d (I x.p)), (8, .d (SL 1 (x.now.map I))), (5, .d (I x.tot))]) (fun _ => [])
          (fun x => x.p ≤ t.length ∧ x.now.length = h.op.length ∧ x.tot = x.now.sum ∧ (∀ n ∈ x.now, 0 ≤ n ∧ n ≤ 1048576 * (1 + 64 * (x.p : Int))) ∧ runM h.fl (t.length - x.p) x.p x.now = some (t.drop x.p)) (fun x => t.length - x.p) ⟨0, h.op, h.op.sum⟩ (by repeat (first | exact trivial | refine And.intro rfl ?_ | refine And.intro (congrArg (fun n => V.d (I n)) (wrap_nat _ (by omega))) ?_)) rfl
          ⟨Nat.zero_le _, rfl, rfl, fun n hn => by have := hok.op n hn; simp only; omega, by rw [hrl]; exact ho⟩ ?_
        rintro ⟨p, now, tot⟩ ⟨hp, hlen, ht0, hlo, hm⟩
        simp only at hp hlen ht0 hlo hm
        dsimp only
        by_cases hlt : p < t.length
        · rw [show t.length - p = (t.length - (p + 1)) + 1 by omega] at hm
          obtain ⟨hc, t', e1, e2⟩ := runM_step hm
          obtain ⟨e, hx, hxd⟩ := drop_get hlt
          rw [hxd] at e1
          cases e1
          have hfl : ∀ f ∈ h.fl, f.ok now.length h.per := by rw [hlen]; exact hok.fl
          have hnew := bound16 hok hc hlo
          have hel : (afterM h.fl p now).length = now.length := afterM_len _ _ _
          have hsum := afterM_sum (p := p) h.fl hfl
          have hat := fun (v : Nat) (n : Int) (hv : now[v]? = some n) => afterM_get (p := p) hfl hv
          repeat' ((conv => whnf); first | with_reducible refine Dec.t (show true = true from rfl) ?_ | with_reducible refine Dec.t (show false = false from rfl) ?_ | with_reducible refine Dec.f (show ¬ (true = false) by decide) ?_ | with_reducible refine Dec.f (show ¬ (false = true) by decide) ?_ | refine Dec.t (by omega) ?_ | refine Dec.f (by omega) ?_ | refine Dec.split (fun _ => ?_) (fun _ => ?_) | refine Wr.id (by omega) ?_ | refine Chk.mk (by first | omega | exact rfl | (simp only [List.length_map]; omega) | (simp [room]; done) | (simp [room]; omega) | (simp [dropL, room]; done) | (simp [dropL, room]; omega)) ?_ | refine Nam.mk (List.length_map _) ?_ | refine Prep.skip ?_ | refine Eith.l ?_ | refine chk_t (x := D.flat _) (by assumption) ?_ | refine br_mk (fun _ => ?_) (fun _ => ?_) | refine nthK_mk (map_get hx) ?_ | fail)
          all_goals first | (exfalso; omega) | skip
          all_goals (conv => whnf)
          generalize afterM h.fl p now = e at hx hxd e2 hnew hel hsum hat ⊢
          refine ALoop.at (E := envOf Try.prog tt Try.f4.ntmps) (envOf_ok ttok mixed) (X := Nat × Int) (fun x => [(80, .d (I x.1)), (11, .d (I x.2))]) (fun _ => []) (fun x => x.1 ≤ e.length ∧ x.2 = (e.take x.1).sum) (fun x => e.length - x.1) (0, 0) (by repeat (first | exact trivial | refine And.intro rfl ?_ | refine And.intro (congrArg (fun n => V.d (I n)) (wrap_nat _ (by omega))) ?_)) rfl ⟨Nat.zero_le _, by simp⟩ ?_
          rintro ⟨v, sm⟩ ⟨hv, hs0⟩
          simp only at hv hs0
          dsimp only
          by_cases hlt2 : v < e.length
          · obtain ⟨n, hy, _⟩ := drop_get hlt2
            obtain ⟨b, hb, _⟩ := drop_get (l := now) (i := v) (by omega)
            have hn := hnew n (List.mem_of_getElem? hy)
            have hbb := hlo b (List.mem_of_getElem? hb)
            have hnv := hat v b hb
            rw [hy] at hnv
            simp only [Option.some.injEq] at hnv
            have hs := take_sum hy
            have hsb := sum_le (B := 1048576 * (1 + 64 * ((p + 1 : Nat) : Int))) (e.take v) (fun n hn => hnew n (List.mem_of_mem_take hn))
            repeat' ((conv => whnf); first | with_reducible refine Dec.t (show true = true from rfl) ?_ | with_reducible refine Dec.t (show false = false from rfl) ?_ | with_reducible refine Dec.f (show ¬ (true = false) by decide) ?_ | with_reducible refine Dec.f (show ¬ (false = true) by decide) ?_ | refine Dec.t (by omega) ?_ | refine Dec.f (by omega) ?_ | refine Dec.split (fun _ => ?_) (fun _ => ?_) | refine Wr.id (by omega) ?_ | refine Chk.mk (by first | omega | exact rfl | (simp only [List.length_map]; omega) | (simp [room]; done) | (simp [room]; omega) | (simp [dropL, room]; done) | (simp [dropL, room]; omega)) ?_ | refine Nam.mk (List.length_map _) ?_ | refine Prep.skip ?_ | refine Eith.l ?_ | refine chk_t (x := D.flat _) (by assumption) ?_ | refine br_mk (fun _ => ?_) (fun _ => ?_) | refine nthK_mk (map_get hy) ?_ | refine nthK_mk (map_get hb) ?_ | fail)
            all_goals first | (exfalso; omega) | skip
            all_goals (conv => whnf)
            refine ALoop.at (E := envOf Try.prog tt Try.f4.ntmps) (envOf_ok ttok mixed) (X := Nat × Int) (fun x => [(92, .d (I x.1)), (14, .d (I x.2))]) (fun _ => []) (fun x => x.1 ≤ h.fl.length ∧ (h.fl.drop x.1).foldl (perV p v) x.2 = n ∧ (-1099511627776 - 2097152 * x.1 ≤ x.2 ∧ x.2 ≤ 1099511627776 + 2097152 * x.1)) (fun x => h.fl.length - x.1) (0, b) (by repeat (first | exact trivial | refine And.intro rfl ?_ | refine And.intro (congrArg (fun n => V.d (I n)) (wrap_nat _ (by omega))) ?_)) rfl
              ⟨Nat.zero_le _, hnv.symm, by simp only; omega⟩ ?_
            rintro ⟨i, w⟩ ⟨hi, hm4, hn4⟩
            simp only at hi hm4 hn4
            dsimp only
            by_cases hlt4 : i < h.fl.length
            · obtain ⟨f, hz, hd⟩ := drop_get hlt4
              have hfo := hfl f (List.mem_of_getElem? hz)
              unfold Flow.ok at hfo
              have hamt := hfo.2.1
              clear hfo
              rw [hd, List.foldl_cons] at hm4
              clear hnew hlo hat hfl hsb hs hs0 hsum hn hbb
              repeat' ((conv => whnf); first | with_reducible refine Dec.t (show true = true from rfl) ?_ | with_reducible refine Dec.t (show false = false from rfl) ?_ | with_reducible refine Dec.f (show ¬ (true = false) by decide) ?_ | with_reducible refine Dec.f (show ¬ (false = true) by decide) ?_ | refine Dec.t (by omega) ?_ | refine Dec.f (by omega) ?_ | refine Dec.split (fun _ => ?_) (fun _ => ?_) | refine Wr.id (by omega) ?_ | refine Chk.mk (by first | omega | exact rfl | (simp only [List.length_map]; omega) | (simp [room]; done) | (simp [room]; omega) | (simp [dropL, room]; done) | (simp [dropL, room]; omega)) ?_ | refine Nam.mk (List.length_map _) ?_ | refine Prep.skip ?_ | refine Eith.l ?_ | refine chk_t (x := D.flat _) (by assumption) ?_ | refine br_mk (fun _ => ?_) (fun _ => ?_) | refine nthK_mk (map_get hz) ?_ | fail)
              all_goals first | (exfalso; omega) | skip
              all_goals (conv => whnf)
              all_goals first
                | (have hs : perV p v w f = w := by unfold perV perI; rw [if_neg (by omega), if_neg (by omega)]
                   rw [hs] at hm4; exact ⟨(i + 1, w), Wm.end (by repeat (first | exact trivial | refine And.intro rfl ?_ | refine And.intro (congrArg (fun n => V.d (I n)) (wrap_nat _ (by omega))) ?_)) rfl rfl rfl, ⟨hlt4, hm4, by simp only; omega⟩, by simp only; omega⟩)
                | (have hs : perV p v w f = w + f.amt := by unfold perV perI; rw [if_neg (by omega), if_pos (by omega)]
                   rw [hs] at hm4; exact ⟨(i + 1, w + f.amt), Wm.end (by repeat (first | exact trivial | refine And.intro rfl ?_ | refine And.intro (congrArg (fun n => V.d (I n)) (wrap_nat _ (by omega))) ?_)) rfl rfl rfl, ⟨hlt4, hm4, by simp only; omega⟩, by simp only; omega⟩)
                | (have hs : perV p v w f = w - f.amt := by unfold perV perI; rw [if_pos (by omega), if_neg (by omega)]
                   rw [hs] at hm4; exact ⟨(i + 1, w - f.amt), Wm.end (by repeat (first | exact trivial | refine And.intro rfl ?_ | refine And.intro (congrArg (fun n => V.d (I n)) (wrap_nat _ (by omega))) ?_)) rfl rfl rfl, ⟨hlt4, hm4, by simp only; omega⟩, by simp only; omega⟩)
                | (have hs : perV p v w f = w + f.amt - f.amt := by unfold perV perI; rw [if_pos (by omega), if_pos (by omega)]
                   rw [hs] at hm4; exact ⟨(i + 1, w + f.amt - f.amt), Wm.end (by repeat (first | exact trivial | refine And.intro rfl ?_ | refine And.intro (congrArg (fun n => V.d (I n)) (wrap_nat _ (by omega))) ?_)) rfl rfl rfl, ⟨hlt4, hm4, by simp only; omega⟩, by simp only; omega⟩)
            · have : i = h.fl.length := by omega
              subst this
              rw [List.drop_length] at hm4
              have hm4 : w = n := hm4
              subst hm4
              have hbm : (1048576 * (1 + 64 * ((p + 1 : Nat) : Int))) * (e.take v).length ≤ 1099511627776 := by
                have h1 : ((e.take v).length : Int) ≤ 16 := by rw [List.length_take]; omega
                have h2 : 1048576 * (1 + 64 * ((p + 1 : Nat) : Int)) ≤ 1200000000 := by omega
                have h3 := Int.mul_le_mul h2 h1 (by omega) (by omega)
                omega
              clear hnew hlo hat hfl
              repeat' ((conv => whnf); first | with_reducible refine Dec.t (show true = true from rfl) ?_ | with_reducible refine Dec.t (show false = false from rfl) ?_ | with_reducible refine Dec.f (show ¬ (true = false) by decide) ?_ | with_reducible refine Dec.f (show ¬ (false = true) by decide) ?_ | refine Dec.t (by omega) ?_ | refine Dec.f (by omega) ?_ | refine Dec.split (fun _ => ?_) (fun _ => ?_) | refine Wr.id (by omega) ?_ | refine Chk.mk (by first | omega | exact rfl | (simp only [List.length_map]; omega) | (simp [room]; done) | (simp [room]; omega) | (simp [dropL, room]; done) | (simp [dropL, room]; omega)) ?_ | refine Nam.mk (List.length_map _) ?_ | refine Prep.skip ?_ | refine Eith.l ?_ | refine chk_t (x := D.flat _) (by assumption) ?_ | refine br_mk (fun _ => ?_) (fun _ => ?_) | fail)
              all_goals first | (exfalso; omega) | skip
              all_goals (conv => whnf)
              all_goals first
                | exact ⟨(v + 1, sm + w), Wm.end (by repeat (first | exact trivial | refine And.intro rfl ?_ | refine And.intro (congrArg (fun n => V.d (I n)) (wrap_nat _ (by omega))) ?_)) rfl rfl rfl, ⟨hlt2, by simp only; omega⟩, by simp only; omega⟩
          · have : v = e.length := by omega
            subst this
            rw [List.take_length] at hs0
            have hsb := sum_le (B := 1048576 * (1 + 64 * (p : Int))) now hlo
            have hbm : (1048576 * (1 + 64 * (p : Int))) * now.length ≤ 1099511627776 := by
              have h1 : (now.length : Int) ≤ 16 := by omega
              have h2 : 1048576 * (1 + 64 * (p : Int)) ≤ 1200000000 := by omega
              have h3 := Int.mul_le_mul h2 h1 (by omega) (by omega)
              omega
            repeat' ((conv => whnf); first | with_reducible refine Dec.t (show true = true from rfl) ?_ | with_reducible refine Dec.t (show false = false from rfl) ?_ | with_reducible refine Dec.f (show ¬ (true = false) by decide) ?_ | with_reducible refine Dec.f (show ¬ (false = true) by decide) ?_ | refine Dec.t (by omega) ?_ | refine Dec.f (by omega) ?_ | refine Dec.split (fun _ => ?_) (fun _ => ?_) | refine Wr.id (by omega) ?_ | refine Chk.mk (by first | omega | exact rfl | (simp only [List.length_map]; omega) | (simp [room]; done) | (simp [room]; omega) | (simp [dropL, room]; done) | (simp [dropL, room]; omega)) ?_ | refine Nam.mk (List.length_map _) ?_ | refine Prep.skip ?_ | refine Eith.l ?_ | refine chk_t (x := D.flat _) (by assumption) ?_ | refine br_mk (fun _ => ?_) (fun _ => ?_) | fail)
            all_goals first | (exfalso; omega) | skip
            all_goals (conv => whnf)
            refine ALoop.at (E := envOf Try.prog tt Try.f4.ntmps) (envOf_ok ttok mixed) (X := Nat × Int) (fun x => [(146, .d (I x.1)), (5, .d (I x.2))]) (fun _ => []) (fun x => x.1 ≤ h.fl.length ∧ (h.fl.drop x.1).foldl (totP p) x.2 = e.sum ∧ (-1099511627776 - 2097152 * x.1 ≤ x.2 ∧ x.2 ≤ 1099511627776 + 2097152 * x.1)) (fun x => h.fl.length - x.1) (0, tot) (by repeat (first | exact trivial | refine And.intro rfl ?_ | refine And.intro (congrArg (fun n => V.d (I n)) (wrap_nat _ (by omega))) ?_)) rfl
              ⟨Nat.zero_le _, by rw [ht0, hsum]; rfl, by simp only; omega⟩ ?_
            rintro ⟨i, w⟩ ⟨hi, hm4, hn4⟩
            simp only at hi hm4 hn4
            dsimp only
            by_cases hlt4 : i < h.fl.length
            · obtain ⟨f, hz, hd⟩ := drop_get hlt4
              have hfo := hfl f (List.mem_of_getElem? hz)
              unfold Flow.ok at hfo
              have hamt := hfo.2.1
              clear hfo
              rw [hd, List.foldl_cons] at hm4
              clear hnew hlo hat hfl hsb hs0 hsum hbm ht0 hm hxd e2 hrr hf hlt hrl hp hv hlt2 hel
              repeat' ((conv => whnf); first | with_reducible refine Dec.t (show true = true from rfl) ?_ | with_reducible refine Dec.t (show false = false from rfl) ?_ | with_reducible refine Dec.f (show ¬ (true = false) by decide) ?_ | with_reducible refine Dec.f (show ¬ (false = true) by decide) ?_ | refine Dec.t (by omega) ?_ | refine Dec.f (by omega) ?_ | refine Dec.split (fun _ => ?_) (fun _ => ?_) | refine Wr.id (by omega) ?_ | refine Chk.mk (by first | omega | exact rfl | (simp only [List.length_map]; omega) | (simp [room]; done) | (simp [room]; omega) | (simp [dropL, room]; done) | (simp [dropL, room]; omega)) ?_ | refine Nam.mk (List.length_map _) ?_ | refine Prep.skip ?_ | refine Eith.l ?_ | refine chk_t (x := D.flat _) (by assumption) ?_ | refine br_mk (fun _ => ?_) (fun _ => ?_) | refine nthK_mk (map_get hz) ?_ | fail)
              all_goals first | (exfalso; omega) | skip
              all_goals (conv => whnf)
              all_goals first
                | (have hs : totP p w f = w := by unfold totP; repeat' split
                                                  all_goals omega
                   rw [hs] at hm4; exact ⟨(i + 1, w), Wm.end (by repeat (first | exact trivial | refine And.intro rfl ?_ | refine And.intro (congrArg (fun n => V.d (I n)) (wrap_nat _ (by omega))) ?_)) rfl rfl rfl, ⟨hlt4, hm4, by simp only; omega⟩, by simp only; omega⟩)
                | (have hs : totP p w f = w + f.amt := by unfold totP; rw [if_pos (by omega), if_pos (by omega)]
                   rw [hs] at hm4; exact ⟨(i + 1, w + f.amt), Wm.end (by repeat (first | exact trivial | refine And.intro rfl ?_ | refine And.intro (congrArg (fun n => V.d (I n)) (wrap_nat _ (by omega))) ?_)) rfl rfl rfl, ⟨hlt4, hm4, by simp only; omega⟩, by simp only; omega⟩)
                | (have hs : totP p w f = w - f.amt := by unfold totP; rw [if_pos (by omega), if_neg (by omega), if_pos (by omega)]
                   rw [hs] at hm4; exact ⟨(i + 1, w - f.amt), Wm.end (by repeat (first | exact trivial | refine And.intro rfl ?_ | refine And.intro (congrArg (fun n => V.d (I n)) (wrap_nat _ (by omega))) ?_)) rfl rfl rfl, ⟨hlt4, hm4, by simp only; omega⟩, by simp only; omega⟩)
            · have : i = h.fl.length := by omega
              subst this
              rw [List.drop_length] at hm4
              have hm4 : w = e.sum := hm4
              subst hm4
              subst hs0
              clear hat hfl hsum hm hxd hrr
              repeat' ((conv => whnf); first | with_reducible refine Dec.t (show true = true from rfl) ?_ | with_reducible refine Dec.t (show false = false from rfl) ?_ | with_reducible refine Dec.f (show ¬ (true = false) by decide) ?_ | with_reducible refine Dec.f (show ¬ (false = true) by decide) ?_ | refine Dec.t (by omega) ?_ | refine Dec.f (by omega) ?_ | refine Dec.split (fun _ => ?_) (fun _ => ?_) | refine Wr.id (by omega) ?_ | refine Chk.mk (by first | omega | exact rfl | (simp only [List.length_map]; omega) | (simp [room]; done) | (simp [room]; omega) | (simp [dropL, room]; done) | (simp [dropL, room]; omega)) ?_ | refine Nam.mk (List.length_map _) ?_ | refine Prep.skip ?_ | refine Eith.l ?_ | refine chk_t (x := D.flat _) (by assumption) ?_ | refine br_mk (fun _ => ?_) (fun _ => ?_) | fail)
              all_goals first | (exfalso; omega) | skip
              all_goals (conv => whnf)
              all_goals first
                | exact ⟨⟨p + 1, e, e.sum⟩, Wm.end (by repeat (first | exact trivial | refine And.intro rfl ?_ | refine And.intro (congrArg (fun n => V.d (I n)) (wrap_nat _ (by omega))) ?_)) rfl rfl rfl, ⟨hlt, by simp only; omega, rfl, hnew, e2⟩, by simp only; omega⟩
        · repeat' ((conv => whnf); first | with_reducible refine Dec.t (show true = true from rfl) ?_ | with_reducible refine Dec.t (show false = false from rfl) ?_ | with_reducible refine Dec.f (show ¬ (true = false) by decide) ?_ | with_reducible refine Dec.f (show ¬ (false = true) by decide) ?_ | refine Dec.t (by omega) ?_ | refine Dec.f (by omega) ?_ | refine Dec.split (fun _ => ?_) (fun _ => ?_) | refine Wr.id (by omega) ?_ | refine Chk.mk (by first | omega | exact rfl | (simp only [List.length_map]; omega) | (simp [room]; done) | (simp [room]; omega) | (simp [dropL, room]; done) | (simp [dropL, room]; omega)) ?_ | refine Nam.mk (List.length_map _) ?_ | refine Prep.skip ?_ | refine Eith.l ?_ | refine chk_t (x := D.flat _) (by assumption) ?_ | refine br_mk (fun _ => ?_) (fun _ => ?_) | fail)
          all_goals first | (exfalso; omega) | skip
          all_goals (conv => whnf)
          all_goals first | exact DLe.refl _
    · have ht := amtsT_nil he
      rw [ht] at a1
      repeat' ((conv => whnf); first | with_reducible refine Dec.t (show true = true from rfl) ?_ | with_reducible refine Dec.t (show false = false from rfl) ?_ | with_reducible refine Dec.f (show ¬ (true = false) by decide) ?_ | with_reducible refine Dec.f (show ¬ (false = true) by decide) ?_ | refine Dec.t (by omega) ?_ | refine Dec.f (by omega) ?_ | refine Dec.split (fun _ => ?_) (fun _ => ?_) | refine Wr.id (by omega) ?_ | refine Chk.mk (by first | omega | exact rfl | (simp only [List.length_map]; omega) | (simp [room]; done) | (simp [room]; omega) | (simp [dropL, room]; done) | (simp [dropL, room]; omega)) ?_ | refine Nam.mk (List.length_map _) ?_ | refine Prep.skip ?_ | refine Eith.l ?_ | refine chk_t (x := D.flat _) (by assumption) ?_ | refine br_mk (fun _ => ?_) (fun _ => ?_) | refine ACall.of (law34_sane) ?_ | refine APCall.of (law34_sane) ?_ | refine ACall.of (a1) ?_ | refine APCall.of (a1) ?_ | refine ACall.of (d1) ?_ | refine APCall.of (d1) ?_ | fail)
      all_goals first | (exfalso; omega) | skip
      all_goals (conv => whnf)
      all_goals first | exact DLe.refl _ | exact absurd rfl (by assumption)
  · repeat' ((conv => whnf); first | with_reducible refine Dec.t (show true = true from rfl) ?_ | with_reducible refine Dec.t (show false = false from rfl) ?_ | with_reducible refine Dec.f (show ¬ (true = false) by decide) ?_ | with_reducible refine Dec.f (show ¬ (false = true) by decide) ?_ | refine Dec.t (by omega) ?_ | refine Dec.f (by omega) ?_ | refine Dec.split (fun _ => ?_) (fun _ => ?_) | refine Wr.id (by omega) ?_ | refine Chk.mk (by first | omega | exact rfl | (simp only [List.length_map]; omega) | (simp [room]; done) | (simp [room]; omega) | (simp [dropL, room]; done) | (simp [dropL, room]; omega)) ?_ | refine Nam.mk (List.length_map _) ?_ | refine Prep.skip ?_ | refine Eith.l ?_ | refine chk_t (x := D.flat _) (by assumption) ?_ | refine br_mk (fun _ => ?_) (fun _ => ?_) | refine ACall.of (law34_sane) ?_ | refine APCall.of (law34_sane) ?_ | fail)
    all_goals first | (exfalso; omega) | skip
    all_goals (conv => whnf)
    all_goals first | exact DLe.refl _ | exact absurd rfl (by assumption)
end Go.PM

