/- Package floor: what is possible. -/
import Derived.Test.YtgpgfcehcenejaaW34d
namespace Go.PM
open Go.Proofs
set_option maxRecDepth 10000
set_option maxHeartbeats 8000000

def possP (fl : List Flow) (p : Int) (e : List Int) (M : List Bool) : Prop := (∀ n ∈ e, 0 ≤ n) ∧ ∀ f ∈ fl, f.per = p → ¬ f.kind = 1 → M.getD f.src.toNat false = true
instance (fl : List Flow) (p : Int) (e : List Int) (M : List Bool) : Decidable (possP fl p e M) := by unfold possP; infer_instance
theorem floor_possible (h : Hist) (p : Int) (now e : List Int) (M : List Bool) (hok : h.ok) (hB : now.length = 16) (hE : e.length = 16) (hM : M.length = 16) (hR : ∀ v, v < 16 → (M.getD v false = true ↔ Rch h.fl p (posN h now) v)) :
    CallP Try.prog 23 [.d h.d, .d (I p), .d (.agg (now.map I)), .d (.agg (e.map I))] (retD [.b (decide (possP h.fl p e M))]) := by
  have hnf := hok.nf
  have hnv := hok.nv
  have hF := floor_fed h p now M hok hB hM hR
  obtain ⟨a0, a1, a2, a3, a4, a5, a6, a7, a8, a9, a10, a11, a12, a13, a14, a15, hMe⟩ := sixteenB hM
  obtain ⟨b0, b1, b2, b3, b4, b5, b6, b7, b8, b9, b10, b11, b12, b13, b14, b15, hEe⟩ := sixteen hE
  have hF : CallP Try.prog 37 [.d h.d, .d (I p), .d (.agg (now.map I))] (retD [.agg ([a0, a1, a2, a3, a4, a5, a6, a7, a8, a9, a10, a11, a12, a13, a14, a15].map B)]) := by rw [← hMe]; exact hF
  have hgB : ∀ {i : Int} {b : Bool}, M[i.toNat]? = some b → ([a0, a1, a2, a3, a4, a5, a6, a7, a8, a9, a10, a11, a12, a13, a14, a15].map B)[0 + i.toNat * 1]? = some (B b) := fun h => by rw [← hMe]; exact get_B h
  have hgI : ∀ {i : Nat} {n : Int}, e[i]? = some n → ([b0, b1, b2, b3, b4, b5, b6, b7, b8, b9, b10, b11, b12, b13, b14, b15].map I)[((i : Nat) : Int).toNat]? = some (I n) := fun h => by rw [← hEe, Int.toNat_natCast, List.getElem?_map, h]; rfl
  obtain ⟨c0, c1, c2, c3, c4, c5, c6, c7, c8, c9, c10, c11, c12, c13, c14, c15, hNe⟩ := sixteen hB
  rw [show now.map I = [c0, c1, c2, c3, c4, c5, c6, c7, c8, c9, c10, c11, c12, c13, c14, c15].map I by rw [hNe]] at hF ⊢
  rw [show e.map I = [b0, b1, b2, b3, b4, b5, b6, b7, b8, b9, b10, b11, b12, b13, b14, b15].map I by rw [hEe]]
  refine exPure_sound (E := envOf Try.prog tt Try.f23.ntmps) (envOf_ok ttok mixed) Try.func23 (by rfl) rfl rfl (Nat.le_of_ble_eq_true rfl) ?_
  repeat' ((conv => whnf); first | with_reducible refine Dec.t (show true = true from rfl) ?_ | with_reducible refine Dec.t (show false = false from rfl) ?_ | with_reducible refine Dec.f (show ¬ (true = false) by decide) ?_ | with_reducible refine Dec.f (show ¬ (false = true) by decide) ?_ | refine Dec.t (by omega) ?_ | refine Dec.f (by omega) ?_ | refine Dec.split (fun _ => ?_) (fun _ => ?_) | refine Wr.id (by omega) ?_ | refine Chk.mk (by first | omega | exact rfl | (simp only [List.length_map]; omega) | (simp [room]; done) | (simp [room]; omega) | (simp [dropL, room]; done) | (simp [dropL, room]; omega)) ?_ | refine Nam.mk (List.length_map _) ?_ | refine Prep.skip ?_ | refine Eith.l ?_ | refine chk_t (x := D.flat _) (by assumption) ?_ | refine br_mk (fun _ => ?_) (fun _ => ?_) | fail)
  all_goals (conv => whnf)
  refine ALoop.at (E := envOf Try.prog tt Try.f23.ntmps) (envOf_ok ttok mixed) (X := Nat) (fun i => [(14, .d (I i))]) (fun _ => []) (fun i => i ≤ 16 ∧ ∀ n ∈ e.take i, 0 ≤ n) (fun i => 16 - i) 0 (by repeat (first | exact trivial | refine And.intro rfl ?_ | refine And.intro (congrArg (fun n => V.d (I n)) (wrap_nat _ (by omega))) ?_)) rfl ⟨Nat.zero_le _, by simp⟩ ?_
  rintro i ⟨hi, hm⟩
  by_cases hlt : i < 16
  · obtain ⟨n, hx⟩ : ∃ n, e[i]? = some n := ⟨_, List.getElem?_eq_getElem (by omega)⟩
    repeat' ((conv => whnf); first | with_reducible refine Dec.t (show true = true from rfl) ?_ | with_reducible refine Dec.t (show false = false from rfl) ?_ | with_reducible refine Dec.f (show ¬ (true = false) by decide) ?_ | with_reducible refine Dec.f (show ¬ (false = true) by decide) ?_ | refine Dec.t (by omega) ?_ | refine Dec.f (by omega) ?_ | refine Dec.split (fun _ => ?_) (fun _ => ?_) | refine Wr.id (by omega) ?_ | refine Chk.mk (by first | omega | exact rfl | (simp only [List.length_map]; omega) | (simp [room]; done) | (simp [room]; omega) | (simp [dropL, room]; done) | (simp [dropL, room]; omega)) ?_ | refine Nam.mk (List.length_map _) ?_ | refine Prep.skip ?_ | refine Eith.l ?_ | refine chk_t (x := D.flat _) (by assumption) ?_ | refine br_mk (fun _ => ?_) (fun _ => ?_) | refine nthK_mk (hgI hx) ?_ | fail)
    all_goals first | (exfalso; omega) | skip
    all_goals (conv => whnf)
    all_goals first
      | (have hn : 0 ≤ n := by omega
         exact ⟨i + 1, Wm.end (by repeat (first | exact trivial | refine And.intro rfl ?_ | refine And.intro (congrArg (fun n => V.d (I n)) (wrap_nat _ (by omega))) ?_)) rfl rfl rfl, ⟨hlt, snoc_all hx hn hm⟩, by omega⟩)
      | (have hn : ¬ 0 ≤ n := by omega
         rw [decide_eq_false (fun hh : possP h.fl p e M => hn (hh.1 n (List.mem_of_getElem? hx)))]; exact DLe.refl _)
  · have : i = 16 := by omega
    subst this
    rw [List.take_of_length_le (by omega)] at hm
    repeat' ((conv => whnf); first | with_reducible refine Dec.t (show true = true from rfl) ?_ | with_reducible refine Dec.t (show false = false from rfl) ?_ | with_reducible refine Dec.f (show ¬ (true = false) by decide) ?_ | with_reducible refine Dec.f (show ¬ (false = true) by decide) ?_ | refine Dec.t (by omega) ?_ | refine Dec.f (by omega) ?_ | refine Dec.split (fun _ => ?_) (fun _ => ?_) | refine Wr.id (by omega) ?_ | refine Chk.mk (by first | omega | exact rfl | (simp only [List.length_map]; omega) | (simp [room]; done) | (simp [room]; omega) | (simp [dropL, room]; done) | (simp [dropL, room]; omega)) ?_ | refine Nam.mk (List.length_map _) ?_ | refine Prep.skip ?_ | refine Eith.l ?_ | refine chk_t (x := D.flat _) (by assumption) ?_ | refine br_mk (fun _ => ?_) (fun _ => ?_) | refine ACall.of (hF) ?_ | refine APCall.of (hF) ?_ | refine ACall.body (E := envOf Try.prog tt Try.f36.ntmps) (envOf_ok ttok mixed) Try.func36 (by rfl) rfl (Nat.le_of_ble_eq_true rfl) ?_ | refine ARange.body (E := envOf Try.prog tt Try.f23.ntmps) (envOf_ok ttok mixed) ttok mixed (by rfl) Try.func47 (by rfl) (Nat.le_of_ble_eq_true rfl) ?_ | fail)
    all_goals first | (exfalso; omega) | skip
    all_goals (conv => whnf)
    refine ALoop.at (E := envY Try.prog tt Try.f47.ntmps (yldIn (envOf Try.prog tt Try.f23.ntmps) 7)) (envY_ok (yldIn_ok (envOf_ok ttok mixed) 7) ttok mixed) (X := Nat) (fun i => [(9, .d (I i))]) (fun _ => []) (fun i => i ≤ h.fl.length ∧ ∀ f ∈ h.fl.take i, f.per = p → ¬ f.kind = 1 → M.getD f.src.toNat false = true) (fun i => h.fl.length - i) 0 (by repeat (first | exact trivial | refine And.intro rfl ?_ | refine And.intro (congrArg (fun n => V.d (I n)) (wrap_nat _ (by omega))) ?_)) rfl ⟨Nat.zero_le _, by simp⟩ ?_
    rintro i ⟨hi, hr⟩
    by_cases hlt2 : i < h.fl.length
    · obtain ⟨f, hx, _⟩ := drop_get hlt2
      have hfm := List.mem_of_getElem? hx
      have hfo := hok.fl f hfm
      unfold Flow.ok at hfo
      obtain ⟨b, z1, z2⟩ := at_B hM (i := f.src) (by omega)
      by_cases hp : f.per = p ∧ ¬ f.kind = 1
      · obtain ⟨hp, hk⟩ := hp
        cases b with
        | true =>
          repeat' ((conv => whnf); first | with_reducible refine Dec.t (show true = true from rfl) ?_ | with_reducible refine Dec.t (show false = false from rfl) ?_ | with_reducible refine Dec.f (show ¬ (true = false) by decide) ?_ | with_reducible refine Dec.f (show ¬ (false = true) by decide) ?_ | refine Dec.t (by omega) ?_ | refine Dec.f (by omega) ?_ | refine Dec.split (fun _ => ?_) (fun _ => ?_) | refine Wr.id (by omega) ?_ | refine Chk.mk (by first | omega | exact rfl | (simp only [List.length_map]; omega) | (simp [room]; done) | (simp [room]; omega) | (simp [dropL, room]; done) | (simp [dropL, room]; omega)) ?_ | refine Nam.mk (List.length_map _) ?_ | refine Prep.skip ?_ | refine Eith.l ?_ | refine chk_t (x := D.flat _) (by assumption) ?_ | refine br_mk (fun _ => ?_) (fun _ => ?_) | refine nthK_mk (map_get hx) ?_ | refine nthK_mk (hgB z1) ?_ | fail)
          all_goals first | (exfalso; omega) | skip
          all_goals (conv => whnf)
          all_goals first | exact ⟨i + 1, Wm.end (by repeat (first | exact trivial | refine And.intro rfl ?_ | refine And.intro (congrArg (fun n => V.d (I n)) (wrap_nat _ (by omega))) ?_)) rfl rfl rfl, ⟨hlt2, snoc_all hx (fun _ _ => z2) hr⟩, by omega⟩
        | false =>
          rw [decide_eq_false (fun hh : possP h.fl p e M => by have := hh.2 f hfm hp hk; rw [z2] at this; cases this)]
          repeat' ((conv => whnf); first | with_reducible refine Dec.t (show true = true from rfl) ?_ | with_reducible refine Dec.t (show false = false from rfl) ?_ | with_reducible refine Dec.f (show ¬ (true = false) by decide) ?_ | with_reducible refine Dec.f (show ¬ (false = true) by decide) ?_ | refine Dec.t (by omega) ?_ | refine Dec.f (by omega) ?_ | refine Dec.split (fun _ => ?_) (fun _ => ?_) | refine Wr.id (by omega) ?_ | refine Chk.mk (by first | omega | exact rfl | (simp only [List.length_map]; omega) | (simp [room]; done) | (simp [room]; omega) | (simp [dropL, room]; done) | (simp [dropL, room]; omega)) ?_ | refine Nam.mk (List.length_map _) ?_ | refine Prep.skip ?_ | refine Eith.l ?_ | refine chk_t (x := D.flat _) (by assumption) ?_ | refine br_mk (fun _ => ?_) (fun _ => ?_) | refine nthK_mk (map_get hx) ?_ | refine nthK_mk (hgB z1) ?_ | fail)
          all_goals first | (exfalso; omega) | skip
          all_goals (conv => whnf)
          all_goals first | exact DLe.refl _
      · repeat' ((conv => whnf); first | with_reducible refine Dec.t (show true = true from rfl) ?_ | with_reducible refine Dec.t (show false = false from rfl) ?_ | with_reducible refine Dec.f (show ¬ (true = false) by decide) ?_ | with_reducible refine Dec.f (show ¬ (false = true) by decide) ?_ | refine Dec.t (by omega) ?_ | refine Dec.f (by omega) ?_ | refine Dec.split (fun _ => ?_) (fun _ => ?_) | refine Wr.id (by omega) ?_ | refine Chk.mk (by first | omega | exact rfl | (simp only [List.length_map]; omega) | (simp [room]; done) | (simp [room]; omega) | (simp [dropL, room]; done) | (simp [dropL, room]; omega)) ?_ | refine Nam.mk (List.length_map _) ?_ | refine Prep.skip ?_ | refine Eith.l ?_ | refine chk_t (x := D.flat _) (by assumption) ?_ | refine br_mk (fun _ => ?_) (fun _ => ?_) | refine nthK_mk (map_get hx) ?_ | fail)
        all_goals first | (exfalso; exact hp ⟨by assumption, by assumption⟩) | skip
        all_goals (conv => whnf)
        all_goals first | exact ⟨i + 1, Wm.end (by repeat (first | exact trivial | refine And.intro rfl ?_ | refine And.intro (congrArg (fun n => V.d (I n)) (wrap_nat _ (by omega))) ?_)) rfl rfl rfl, ⟨hlt2, snoc_all hx (fun h1 h2 => absurd ⟨h1, h2⟩ hp) hr⟩, by omega⟩
    · have : i = h.fl.length := by omega
      subst this
      rw [List.take_length] at hr
      rw [decide_eq_true (show possP h.fl p e M from ⟨hm, hr⟩)]
      repeat' ((conv => whnf); first | with_reducible refine Dec.t (show true = true from rfl) ?_ | with_reducible refine Dec.t (show false = false from rfl) ?_ | with_reducible refine Dec.f (show ¬ (true = false) by decide) ?_ | with_reducible refine Dec.f (show ¬ (false = true) by decide) ?_ | refine Dec.t (by omega) ?_ | refine Dec.f (by omega) ?_ | refine Dec.split (fun _ => ?_) (fun _ => ?_) | refine Wr.id (by omega) ?_ | refine Chk.mk (by first | omega | exact rfl | (simp only [List.length_map]; omega) | (simp [room]; done) | (simp [room]; omega) | (simp [dropL, room]; done) | (simp [dropL, room]; omega)) ?_ | refine Nam.mk (List.length_map _) ?_ | refine Prep.skip ?_ | refine Eith.l ?_ | refine chk_t (x := D.flat _) (by assumption) ?_ | refine br_mk (fun _ => ?_) (fun _ => ?_) | fail)
      all_goals first | (exfalso; omega) | skip
      all_goals (conv => whnf)
      all_goals first | exact DLe.refl _
end Go.PM

