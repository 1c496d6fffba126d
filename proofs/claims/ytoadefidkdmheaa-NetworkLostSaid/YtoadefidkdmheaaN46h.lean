/- The reference of package network: Cut. -/
import Derived.Test.YtoadefidkdmheaaN46g
namespace Go.PM
open Go.Proofs
set_option maxRecDepth 10000
set_option maxHeartbeats 4000000

/-- The pairs before one, in order. -/
def rowK (x y : Nat) : List Pair := (List.range y).filterMap fun (k : Nat) => if x < k then some ⟨(x : Int), (k : Int)⟩ else none
def befP (x : Nat) : List Pair := (List.range x).flatMap rowP
theorem rowK_full (x : Nat) : rowK x 16 = rowP x := rfl
theorem befP_succ (x : Nat) : befP (x + 1) = befP x ++ rowP x := by unfold befP; rw [List.range_succ, List.flatMap_append]; simp
theorem rowK_start (x : Nat) : rowK x (x + 1) = [] := by
  unfold rowK
  rw [List.filterMap_eq_nil_iff]
  intro k hk
  rw [List.mem_range] at hk
  rw [if_neg (by omega)]
theorem rowK_succ {x y : Nat} (h : x < y) : rowK x (y + 1) = rowK x y ++ [⟨(x : Int), (y : Int)⟩] := by
  unfold rowK
  rw [List.range_succ, List.filterMap_append]
  simp [h]
theorem rowK_len (x y : Nat) : (rowK x y).length ≤ y := Nat.le_trans (List.length_filterMap_le _ _) (by simp)
theorem befP_len (x : Nat) : (befP x).length ≤ 16 * x := by
  induction x with
  | zero => simp [befP]
  | succ x ih => rw [befP_succ, List.length_append]; have := rowK_len x 16; rw [rowK_full] at this; omega
def keepP (l : List Pair) (q : Pair) (on : Bool) (x : Pair) : Bool := if x = q then on else decide (x ∈ l)
theorem link_lt {x y : Nat} (h : x < y) : linkM (x : Int) (y : Int) = ⟨(x : Int), (y : Int)⟩ := by
  unfold linkM
  rw [if_neg (by omega), if_pos (by omega)]
theorem ref46_Cut (n : Net) (a b : Int) (on : Bool) (hw : Wid n) : CallP Try.prog 21 [.d n.d, .d (I a), .d (I b), .d (.b on)] (retD [(cutM n a b on).1.d, I (cutM n a b on).2]) := by
  have hC := ref46_Check n hw
  unfold cutM
  by_cases hn : n.ok
  · rw [check_ok hn] at hC
    rw [if_pos hn]
    by_cases hs : site a ∧ site b ∧ ¬ a = b
    · rw [if_pos hs]
      obtain ⟨ha, hb, hab⟩ := hs
      refine exPure_sound (E := envOf Try.prog tt Try.f21.ntmps) (envOf_ok ttok mixed) Try.func21 (by rfl) rfl rfl (Nat.le_of_ble_eq_true rfl) ?_
      repeat' ((conv => whnf); first | with_reducible refine Dec.t (show true = true from rfl) ?_ | with_reducible refine Dec.t (show false = false from rfl) ?_ | with_reducible refine Dec.f (show ¬ (true = false) by decide) ?_ | with_reducible refine Dec.f (show ¬ (false = true) by decide) ?_ | refine Dec.t (by omega) ?_ | refine Dec.f (by omega) ?_ | refine Dec.split (fun _ => ?_) (fun _ => ?_) | refine Wr.id (by omega) ?_ | refine Chk.mk (by first | omega | exact rfl | (simp only [List.length_map]; omega) | (simp [room]; done) | (simp [room]; omega) | (simp [dropL, room]; done) | (simp [dropL, room]; omega)) ?_ | refine Nam.mk (List.length_map _) ?_ | refine Prep.skip ?_ | refine Eith.l ?_ | refine chk_t (x := D.flat _) (by assumption) ?_ | refine br_mk (fun _ => ?_) (fun _ => ?_) | refine ACall.of (hC) ?_ | refine APCall.of (hC) ?_ | refine ACall.ofB (ref46_Site a) (fun _ => ?_) (fun h => absurd ha (of_decide_eq_false h)) | refine ACall.ofB (ref46_Site b) (fun _ => ?_) (fun h => absurd hb (of_decide_eq_false h)) | fail)
      all_goals (conv => whnf)
      refine ALoop.virt 10 0 2 false (by decide) rfl ?_
      conv => whnf
      refine ALoop.at (E := envOf Try.prog tt Try.f21.ntmps) (envOf_ok ttok mixed) (X := XP) (fun x => [(11, .d (I x.i)), (10, .sref 2 x.vr 0 x.lr false)]) (fun x => [(2, .row x.vr 2 false x.dp)])
        (fun x => x.i ≤ 16 ∧ x.dp = ((befP x.i).filter (keepP n.apart (linkM a b) on)).map Pair.d ∧ x.lr = x.dp.length) (fun x => 16 - x.i) ⟨0, 0, 0, []⟩ (by repeat (first | exact trivial | refine And.intro rfl ?_ | refine And.intro (congrArg (fun n => V.d (I n)) (wrap_nat _ (by omega))) ?_)) rfl ⟨Nat.zero_le _, rfl, rfl⟩ ?_
      rintro ⟨x, vr, lr, dp⟩ ⟨hx, g1, g2⟩
      simp only at hx g1 g2
      dsimp only
      by_cases hlt : x < 16
      · repeat' ((conv => whnf); first | with_reducible refine Dec.t (show true = true from rfl) ?_ | with_reducible refine Dec.t (show false = false from rfl) ?_ | with_reducible refine Dec.f (show ¬ (true = false) by decide) ?_ | with_reducible refine Dec.f (show ¬ (false = true) by decide) ?_ | refine Dec.t (by omega) ?_ | refine Dec.f (by omega) ?_ | refine Dec.split (fun _ => ?_) (fun _ => ?_) | refine Wr.id (by omega) ?_ | refine Chk.mk (by first | omega | exact rfl | (simp only [List.length_map]; omega) | (simp [room]; done) | (simp [room]; omega) | (simp [dropL, room]; done) | (simp [dropL, room]; omega)) ?_ | refine Nam.mk (List.length_map _) ?_ | refine Prep.skip ?_ | refine Eith.l ?_ | refine chk_t (x := D.flat _) (by assumption) ?_ | refine br_mk (fun _ => ?_) (fun _ => ?_) | fail)
        all_goals first | (exfalso; omega) | skip
        all_goals (conv => whnf)
        have hbl := befP_len x
        refine ALoop.at (E := envOf Try.prog tt Try.f21.ntmps) (envOf_ok ttok mixed) (X := XP) (fun x => [(12, .d (I x.i)), (10, .sref 2 x.vr 0 x.lr false)]) (fun x => [(2, .row x.vr 2 false x.dp)])
          (fun z => (x + 1 ≤ z.i ∧ z.i ≤ 16) ∧ z.dp = ((befP x ++ rowK x z.i).filter (keepP n.apart (linkM a b) on)).map Pair.d ∧ z.lr = z.dp.length) (fun z => 16 - z.i) ⟨x + 1, vr, lr, dp⟩ (by repeat (first | exact trivial | refine And.intro rfl ?_ | refine And.intro (congrArg (fun n => V.d (I n)) (wrap_nat _ (by omega))) ?_)) rfl ⟨⟨Nat.le_refl _, hlt⟩, by simp only; rw [rowK_start, List.append_nil]; exact g1, g2⟩ ?_
        clear g1 g2
        rintro ⟨y, vr, lr, dp⟩ ⟨⟨hy0, hy⟩, g1, g2⟩
        simp only at hy0 hy g1 g2
        dsimp only
        have hdl : dp.length ≤ 1000 := by
          rw [g1, List.length_map]
          refine Nat.le_trans (List.length_filter_le _ _) ?_
          rw [List.length_append]
          have := rowK_len x y
          omega
        by_cases hly : y < 16
        · have hI := ref46_IsCut n (x : Int) (y : Int) hw
          rw [link_lt (by omega)] at hI
          have hst : (befP x ++ rowK x (y + 1)).filter (keepP n.apart (linkM a b) on) = (befP x ++ rowK x y).filter (keepP n.apart (linkM a b) on) ++ [(⟨(x : Int), (y : Int)⟩ : Pair)].filter (keepP n.apart (linkM a b) on) := by
            rw [rowK_succ (by omega), ← List.append_assoc, List.filter_append]
          repeat' ((conv => whnf); first | with_reducible refine Dec.t (show true = true from rfl) ?_ | with_reducible refine Dec.t (show false = false from rfl) ?_ | with_reducible refine Dec.f (show ¬ (true = false) by decide) ?_ | with_reducible refine Dec.f (show ¬ (false = true) by decide) ?_ | refine Dec.t (by omega) ?_ | refine Dec.f (by omega) ?_ | refine Dec.split (fun _ => ?_) (fun _ => ?_) | refine Wr.id (by omega) ?_ | refine Chk.mk (by first | omega | exact rfl | (simp only [List.length_map]; omega) | (simp [room]; done) | (simp [room]; omega) | (simp [dropL, room]; done) | (simp [dropL, room]; omega)) ?_ | refine Nam.mk (List.length_map _) ?_ | refine Prep.skip ?_ | refine Eith.l ?_ | refine chk_t (x := D.flat _) (by assumption) ?_ | refine br_mk (fun _ => ?_) (fun _ => ?_) | refine ACall.of (hI) ?_ | refine APCall.of (hI) ?_ | fail)
          all_goals first | (exfalso; omega) | skip
          all_goals (conv => whnf)
          all_goals first
            | (have hk : keepP n.apart (linkM a b) on ⟨(x : Int), (y : Int)⟩ = true := by
                 unfold keepP linkM
                 first
                   | (rw [if_pos (by simp only [Pair.mk.injEq]; exact ⟨by assumption, by assumption⟩)]; assumption)
                   | (rw [if_neg (by simp only [Pair.mk.injEq]; intro hh; first | exact absurd hh.1 (by assumption) | exact absurd hh.2 (by assumption))]; assumption)
               rw [show [(⟨(x : Int), (y : Int)⟩ : Pair)].filter (keepP n.apart (linkM a b) on) = [⟨(x : Int), (y : Int)⟩] by simp [hk]] at hst
               exact ⟨⟨y + 1, vr + 1, lr + 1, dp ++ [(⟨(x : Int), (y : Int)⟩ : Pair).d]⟩, Wm.end (by repeat (first | exact trivial | refine And.intro rfl ?_ | refine And.intro (congrArg (fun n => V.d (I n)) (wrap_nat _ (by omega))) ?_)) rfl rfl rfl, ⟨⟨by simp only; omega, hly⟩, by simp only; rw [hst, List.map_append, ← g1]; rfl, by simp only; rw [List.length_append, ← g2]; rfl⟩, by simp only; omega⟩)
            | (have hk : keepP n.apart (linkM a b) on ⟨(x : Int), (y : Int)⟩ = false := by
                 unfold keepP linkM
                 first
                   | (rw [if_pos (by simp only [Pair.mk.injEq]; exact ⟨by assumption, by assumption⟩)]; assumption)
                   | (rw [if_neg (by simp only [Pair.mk.injEq]; intro hh; first | exact absurd hh.1 (by assumption) | exact absurd hh.2 (by assumption))]; assumption)
               rw [show [(⟨(x : Int), (y : Int)⟩ : Pair)].filter (keepP n.apart (linkM a b) on) = [] by simp [hk], List.append_nil] at hst
               exact ⟨⟨y + 1, vr, lr, dp⟩, Wm.end (by repeat (first | exact trivial | refine And.intro rfl ?_ | refine And.intro (congrArg (fun n => V.d (I n)) (wrap_nat _ (by omega))) ?_)) rfl rfl rfl, ⟨⟨by simp only; omega, hly⟩, by simp only; rw [hst]; exact g1, g2⟩, by simp only; omega⟩)
        · have : y = 16 := by omega
          subst this
          rw [rowK_full, ← befP_succ] at g1
          repeat' ((conv => whnf); first | with_reducible refine Dec.t (show true = true from rfl) ?_ | with_reducible refine Dec.t (show false = false from rfl) ?_ | with_reducible refine Dec.f (show ¬ (true = false) by decide) ?_ | with_reducible refine Dec.f (show ¬ (false = true) by decide) ?_ | refine Dec.t (by omega) ?_ | refine Dec.f (by omega) ?_ | refine Dec.split (fun _ => ?_) (fun _ => ?_) | refine Wr.id (by omega) ?_ | refine Chk.mk (by first | omega | exact rfl | (simp only [List.length_map]; omega) | (simp [room]; done) | (simp [room]; omega) | (simp [dropL, room]; done) | (simp [dropL, room]; omega)) ?_ | refine Nam.mk (List.length_map _) ?_ | refine Prep.skip ?_ | refine Eith.l ?_ | refine chk_t (x := D.flat _) (by assumption) ?_ | refine br_mk (fun _ => ?_) (fun _ => ?_) | fail)
          all_goals first | (exfalso; omega) | skip
          all_goals (conv => whnf)
          all_goals first | exact ⟨⟨x + 1, vr, lr, dp⟩, Wm.end (by repeat (first | exact trivial | refine And.intro rfl ?_ | refine And.intro (congrArg (fun n => V.d (I n)) (wrap_nat _ (by omega))) ?_)) rfl rfl rfl, ⟨hlt, g1, g2⟩, by simp only; omega⟩
      · have : x = 16 := by omega
        subst this
        have hT : (befP 16).filter (keepP n.apart (linkM a b) on) = targ n.apart (linkM a b) on := rfl
        rw [hT] at g1
        repeat' ((conv => whnf); first | with_reducible refine Dec.t (show true = true from rfl) ?_ | with_reducible refine Dec.t (show false = false from rfl) ?_ | with_reducible refine Dec.f (show ¬ (true = false) by decide) ?_ | with_reducible refine Dec.f (show ¬ (false = true) by decide) ?_ | refine Dec.t (by omega) ?_ | refine Dec.f (by omega) ?_ | refine Dec.split (fun _ => ?_) (fun _ => ?_) | refine Wr.id (by omega) ?_ | refine Chk.mk (by first | omega | exact rfl | (simp only [List.length_map]; omega) | (simp [room]; done) | (simp [room]; omega) | (simp [dropL, room]; done) | (simp [dropL, room]; omega)) ?_ | refine Nam.mk (List.length_map _) ?_ | refine Prep.skip ?_ | refine Eith.l ?_ | refine chk_t (x := D.flat _) (by assumption) ?_ | refine br_mk (fun _ => ?_) (fun _ => ?_) | refine Nam.mk ((whole g2).trans g1) ?_ | fail)
        all_goals first | (exfalso; omega) | skip
        all_goals (conv => whnf)
        exact ⟨DLe.refl _, DLe.refl _, rfl⟩
    · rw [if_neg hs]
      refine exPure_sound (E := envOf Try.prog tt Try.f21.ntmps) (envOf_ok ttok mixed) Try.func21 (by rfl) rfl rfl (Nat.le_of_ble_eq_true rfl) ?_
      repeat' ((conv => whnf); first | with_reducible refine Dec.t (show true = true from rfl) ?_ | with_reducible refine Dec.t (show false = false from rfl) ?_ | with_reducible refine Dec.f (show ¬ (true = false) by decide) ?_ | with_reducible refine Dec.f (show ¬ (false = true) by decide) ?_ | refine Dec.t (by omega) ?_ | refine Dec.f (by omega) ?_ | refine Dec.split (fun _ => ?_) (fun _ => ?_) | refine Wr.id (by omega) ?_ | refine Chk.mk (by first | omega | exact rfl | (simp only [List.length_map]; omega) | (simp [room]; done) | (simp [room]; omega) | (simp [dropL, room]; done) | (simp [dropL, room]; omega)) ?_ | refine Nam.mk (List.length_map _) ?_ | refine Prep.skip ?_ | refine Eith.l ?_ | refine chk_t (x := D.flat _) (by assumption) ?_ | refine br_mk (fun _ => ?_) (fun _ => ?_) | refine ACall.of (hC) ?_ | refine APCall.of (hC) ?_ | refine ACall.ofB (ref46_Site _) (fun _ => ?_) (fun _ => ?_) | refine APCall.ofB (ref46_Site _) (fun _ => ?_) (fun _ => ?_) | fail)
      all_goals try simp only [decide_eq_true_eq, decide_eq_false_iff_not] at *
      all_goals first | (exfalso; exact hs ⟨by assumption, by assumption, by assumption⟩) | skip
      all_goals (conv => whnf)
      all_goals first | exact ⟨net0, DLe.refl _, rfl⟩ | trace_state
  · rw [check_bad hn] at hC
    rw [if_neg hn]
    refine exPure_sound (E := envOf Try.prog tt Try.f21.ntmps) (envOf_ok ttok mixed) Try.func21 (by rfl) rfl rfl (Nat.le_of_ble_eq_true rfl) ?_
    repeat' ((conv => whnf); first | with_reducible refine Dec.t (show true = true from rfl) ?_ | with_reducible refine Dec.t (show false = false from rfl) ?_ | with_reducible refine Dec.f (show ¬ (true = false) by decide) ?_ | with_reducible refine Dec.f (show ¬ (false = true) by decide) ?_ | refine Dec.t (by omega) ?_ | refine Dec.f (by omega) ?_ | refine Dec.split (fun _ => ?_) (fun _ => ?_) | refine Wr.id (by omega) ?_ | refine Chk.mk (by first | omega | exact rfl | (simp only [List.length_map]; omega) | (simp [room]; done) | (simp [room]; omega) | (simp [dropL, room]; done) | (simp [dropL, room]; omega)) ?_ | refine Nam.mk (List.length_map _) ?_ | refine Prep.skip ?_ | refine Eith.l ?_ | refine chk_t (x := D.flat _) (by assumption) ?_ | refine br_mk (fun _ => ?_) (fun _ => ?_) | refine ACall.of (hC) ?_ | refine APCall.of (hC) ?_ | fail)
    all_goals (conv => whnf)
    all_goals first | exact ⟨net0, DLe.refl _, rfl⟩ | trace_state
end Go.PM

