/- The reference of floors: possible. -/
import Derived.Test.YtgpgfcehcenejaaW34j
namespace Go.PM
open Go.Proofs
set_option maxRecDepth 10000
set_option maxHeartbeats 8000000

/-- One vessel is well in a period. -/
def vesOk (fl : List Flow) (p : Int) (now : List Int) (v : Nat) : Prop := 0 ≤ (afterM fl p now).getD v 0 ∧ ∀ f ∈ fl, ¬ (f.per = p ∧ ¬ f.kind = 1 ∧ f.src = v ∧ (fedL fl p now).getD v false = false)
theorem canP_iff {fl : List Flow} {p np : Int} {now : List Int} (hfl : ∀ f ∈ fl, f.ok now.length np) : canP fl p now ↔ ∀ v, v < now.length → vesOk fl p now v := by
  unfold canP possP
  constructor
  · rintro ⟨h1, h2⟩ v hv
    have hv2 : v < (afterM fl p now).length := by rw [afterM_len]; exact hv
    refine ⟨?_, fun f hf ⟨e1, e2, e3, e4⟩ => ?_⟩
    · rw [List.getD_eq_getElem?_getD, List.getElem?_eq_getElem hv2]
      exact h1 _ (List.getElem_mem hv2)
    · have := h2 f hf e1 e2
      rw [e3, Int.toNat_natCast, e4] at this
      cases this
  · intro h
    refine ⟨fun n hn => ?_, fun f hf e1 e2 => ?_⟩
    · obtain ⟨v, hv, rfl⟩ := List.getElem_of_mem hn
      have := (h v (by rw [afterM_len] at hv; exact hv)).1
      rwa [List.getD_eq_getElem?_getD, List.getElem?_eq_getElem hv] at this
    · have hfo := hfl f hf
      unfold Flow.ok at hfo
      have := (h f.src.toNat (by omega)).2 f hf
      cases hb : (fedL fl p now).getD f.src.toNat false with
      | true => rfl
      | false => exact absurd ⟨e1, e2, by omega, hb⟩ this
structure XPo where
  p : Nat
  now : List Int
theorem ref34_possible (h : Hist) (hok : h.ok) : CallP Try.prog 30 [.d h.d] (retD [.b (amtsO h).isSome]) := by
  have hnf := hok.nf
  have hnv := hok.nv
  have hnp := hok.np
  refine exPure_sound (E := envOf Try.prog tt Try.f30.ntmps) (envOf_ok ttok mixed) Try.func30 (by rfl) rfl rfl (Nat.le_of_ble_eq_true rfl) ?_
  repeat' ((conv => whnf); first | with_reducible refine Dec.t (show true = true from rfl) ?_ | with_reducible refine Dec.t (show false = false from rfl) ?_ | with_reducible refine Dec.f (show ¬ (true = false) by decide) ?_ | with_reducible refine Dec.f (show ¬ (false = true) by decide) ?_ | refine Dec.t (by omega) ?_ | refine Dec.f (by omega) ?_ | refine Dec.split (fun _ => ?_) (fun _ => ?_) | refine Wr.id (by omega) ?_ | refine Chk.mk (by first | omega | exact rfl | (simp only [List.length_map]; omega) | (simp [room]; done) | (simp [room]; omega) | (simp [dropL, room]; done) | (simp [dropL, room]; omega)) ?_ | refine Nam.mk (List.length_map _) ?_ | refine Prep.skip ?_ | refine Eith.l ?_ | refine chk_t (x := D.flat _) (by assumption) ?_ | refine br_mk (fun _ => ?_) (fun _ => ?_) | fail)
  all_goals (conv => whnf)
  refine ALoop.at (E := envOf Try.prog tt Try.f30.ntmps) (envOf_ok ttok mixed) (X := XPo) (fun x => [(4, .d (I x.p)), (3, .d (SL 1 (x.now.map I)))]) (fun _ => []) (fun x => (x.p : Int) ≤ h.per ∧ x.now.length = h.op.length ∧ (∀ n ∈ x.now, 0 ≤ n ∧ n ≤ 1048576 * (1 + 64 * x.p)) ∧ (runM h.fl (h.per.toNat - x.p) x.p x.now).isSome = (amtsO h).isSome)
    (fun x => h.per.toNat - x.p) ⟨0, h.op⟩ (by repeat (first | exact trivial | refine And.intro rfl ?_ | refine And.intro (congrArg (fun n => V.d (I n)) (wrap_nat _ (by omega))) ?_)) rfl ⟨by simp; omega, rfl, fun n hn => by have := hok.op n hn; simp only; omega, by simp [amtsO]⟩ ?_
  rintro ⟨i, now⟩ ⟨hi, hlen, hlo, hm⟩
  simp only at hi hlen hlo hm
  dsimp only
  have hfl : ∀ f ∈ h.fl, f.ok now.length h.per := by rw [hlen]; exact hok.fl
  by_cases hlt : (i : Int) < h.per
  · rw [show h.per.toNat - i = (h.per.toNat - (i + 1)) + 1 by omega] at hm
    have hF := ref34_Fed h now i hok hlen
    have hA := ref34_After h now i hok hlen (fun n hn => by have := hlo n hn; omega)
    have hal : (afterM h.fl i now).length = now.length := afterM_len _ _ _
    have hfdl : (fedL h.fl i now).length = now.length := fedL_len _ _ _
    repeat' ((conv => whnf); first | with_reducible refine Dec.t (show true = true from rfl) ?_ | with_reducible refine Dec.t (show false = false from rfl) ?_ | with_reducible refine Dec.f (show ¬ (true = false) by decide) ?_ | with_reducible refine Dec.f (show ¬ (false = true) by decide) ?_ | refine Dec.t (by omega) ?_ | refine Dec.f (by omega) ?_ | refine Dec.split (fun _ => ?_) (fun _ => ?_) | refine Wr.id (by omega) ?_ | refine Chk.mk (by first | omega | exact rfl | (simp only [List.length_map]; omega) | (simp [room]; done) | (simp [room]; omega) | (simp [dropL, room]; done) | (simp [dropL, room]; omega)) ?_ | refine Nam.mk (List.length_map _) ?_ | refine Prep.skip ?_ | refine Eith.l ?_ | refine chk_t (x := D.flat _) (by assumption) ?_ | refine br_mk (fun _ => ?_) (fun _ => ?_) | refine ACall.of (hF) ?_ | refine APCall.of (hF) ?_ | refine ACall.of (hA) ?_ | refine APCall.of (hA) ?_ | fail)
    all_goals first | (exfalso; omega) | skip
    all_goals (conv => whnf)
    have hnot : ¬ canP h.fl i now → (amtsO h).isSome = false := fun hc => by rw [← hm, runM_none hc]; rfl
    have hci := canP_iff (p := i) hfl
    refine ALoop.at (E := envOf Try.prog tt Try.f30.ntmps) (envOf_ok ttok mixed) (X := Nat) (fun v => [(7, .d (I v))]) (fun _ => []) (fun v => v ≤ now.length ∧ ∀ u, u < v → vesOk h.fl i now u) (fun v => now.length - v) 0 (by repeat (first | exact trivial | refine And.intro rfl ?_ | refine And.intro (congrArg (fun n => V.d (I n)) (wrap_nat _ (by omega))) ?_)) rfl ⟨Nat.zero_le _, fun u hu => absurd hu (Nat.not_lt_zero u)⟩ ?_
    rintro v ⟨hv, hvs⟩
    by_cases hlt2 : v < now.length
    · obtain ⟨n, hx, _⟩ := drop_get (l := afterM h.fl i now) (i := v) (by omega)
      have hxn : (afterM h.fl i now).getD v 0 = n := by rw [List.getD_eq_getElem?_getD, hx]; rfl
      by_cases hn : 0 ≤ n
      · repeat' ((conv => whnf); first | with_reducible refine Dec.t (show true = true from rfl) ?_ | with_reducible refine Dec.t (show false = false from rfl) ?_ | with_reducible refine Dec.f (show ¬ (true = false) by decide) ?_ | with_reducible refine Dec.f (show ¬ (false = true) by decide) ?_ | refine Dec.t (by omega) ?_ | refine Dec.f (by omega) ?_ | refine Dec.split (fun _ => ?_) (fun _ => ?_) | refine Wr.id (by omega) ?_ | refine Chk.mk (by first | omega | exact rfl | (simp only [List.length_map]; omega) | (simp [room]; done) | (simp [room]; omega) | (simp [dropL, room]; done) | (simp [dropL, room]; omega)) ?_ | refine Nam.mk (List.length_map _) ?_ | refine Prep.skip ?_ | refine Eith.l ?_ | refine chk_t (x := D.flat _) (by assumption) ?_ | refine br_mk (fun _ => ?_) (fun _ => ?_) | refine nthK_mk (map_get hx) ?_ | fail)
        all_goals first | (exfalso; omega) | skip
        all_goals (conv => whnf)
        refine ALoop.at (E := envOf Try.prog tt Try.f30.ntmps) (envOf_ok ttok mixed) (X := Nat) (fun k => [(8, .d (I k))]) (fun _ => []) (fun k => k ≤ h.fl.length ∧ ∀ f ∈ h.fl.take k, ¬ (f.per = i ∧ ¬ f.kind = 1 ∧ f.src = v ∧ (fedL h.fl i now).getD v false = false)) (fun k => h.fl.length - k) 0 (by repeat (first | exact trivial | refine And.intro rfl ?_ | refine And.intro (congrArg (fun n => V.d (I n)) (wrap_nat _ (by omega))) ?_)) rfl ⟨Nat.zero_le _, by simp⟩ ?_
        rintro k ⟨hk, hks⟩
        obtain ⟨b, z1, z2⟩ := in_B (m := fedL h.fl i now) (i := v) (by omega)
        rw [Int.toNat_natCast] at z1 z2
        by_cases hlt3 : k < h.fl.length
        · obtain ⟨f, hy, _⟩ := drop_get hlt3
          cases b with
          | true =>
            repeat' ((conv => whnf); first | with_reducible refine Dec.t (show true = true from rfl) ?_ | with_reducible refine Dec.t (show false = false from rfl) ?_ | with_reducible refine Dec.f (show ¬ (true = false) by decide) ?_ | with_reducible refine Dec.f (show ¬ (false = true) by decide) ?_ | refine Dec.t (by omega) ?_ | refine Dec.f (by omega) ?_ | refine Dec.split (fun _ => ?_) (fun _ => ?_) | refine Wr.id (by omega) ?_ | refine Chk.mk (by first | omega | exact rfl | (simp only [List.length_map]; omega) | (simp [room]; done) | (simp [room]; omega) | (simp [dropL, room]; done) | (simp [dropL, room]; omega)) ?_ | refine Nam.mk (List.length_map _) ?_ | refine Prep.skip ?_ | refine Eith.l ?_ | refine chk_t (x := D.flat _) (by assumption) ?_ | refine br_mk (fun _ => ?_) (fun _ => ?_) | refine nthK_mk (map_get hy) ?_ | refine nthK_mk (map_get z1) ?_ | refine ACall.ofB (ref34_Leaves _ _) (fun _ => ?_) (fun _ => ?_) | refine APCall.ofB (ref34_Leaves _ _) (fun _ => ?_) (fun _ => ?_) | fail)
            all_goals first | (exfalso; omega) | skip
            all_goals (conv => whnf)
            all_goals exact ⟨k + 1, Wm.end (by repeat (first | exact trivial | refine And.intro rfl ?_ | refine And.intro (congrArg (fun n => V.d (I n)) (wrap_nat _ (by omega))) ?_)) rfl rfl rfl, ⟨hlt3, snoc_all hy (fun hh => by have := hh.2.2.2; rw [z2] at this; cases this) hks⟩, by omega⟩
          | false =>
            repeat' ((conv => whnf); first | with_reducible refine Dec.t (show true = true from rfl) ?_ | with_reducible refine Dec.t (show false = false from rfl) ?_ | with_reducible refine Dec.f (show ¬ (true = false) by decide) ?_ | with_reducible refine Dec.f (show ¬ (false = true) by decide) ?_ | refine Dec.t (by omega) ?_ | refine Dec.f (by omega) ?_ | refine Dec.split (fun _ => ?_) (fun _ => ?_) | refine Wr.id (by omega) ?_ | refine Chk.mk (by first | omega | exact rfl | (simp only [List.length_map]; omega) | (simp [room]; done) | (simp [room]; omega) | (simp [dropL, room]; done) | (simp [dropL, room]; omega)) ?_ | refine Nam.mk (List.length_map _) ?_ | refine Prep.skip ?_ | refine Eith.l ?_ | refine chk_t (x := D.flat _) (by assumption) ?_ | refine br_mk (fun _ => ?_) (fun _ => ?_) | refine nthK_mk (map_get hy) ?_ | refine nthK_mk (map_get z1) ?_ | refine ACall.ofB (ref34_Leaves _ _) (fun _ => ?_) (fun _ => ?_) | refine APCall.ofB (ref34_Leaves _ _) (fun _ => ?_) (fun _ => ?_) | fail)
            all_goals first | (exfalso; omega) | skip
            all_goals (conv => whnf)
            all_goals try simp only [decide_eq_true_eq, decide_eq_false_iff_not] at *
            all_goals first
              | (have hbad : ¬ (f.per = i ∧ ¬ f.kind = 1 ∧ f.src = v) := by omega
                 exact ⟨k + 1, Wm.end (by repeat (first | exact trivial | refine And.intro rfl ?_ | refine And.intro (congrArg (fun n => V.d (I n)) (wrap_nat _ (by omega))) ?_)) rfl rfl rfl, ⟨hlt3, snoc_all hy (fun hh => hbad ⟨hh.1, hh.2.1, hh.2.2.1⟩) hks⟩, by omega⟩)
              | (have hbad : f.per = i ∧ ¬ f.kind = 1 ∧ f.src = v := by omega
                 rw [hnot (fun hc => ((hci.1 hc) v hlt2).2 f (List.mem_of_getElem? hy) ⟨hbad.1, hbad.2.1, hbad.2.2, z2⟩)]; exact DLe.refl _)
        · have : k = h.fl.length := by omega
          subst this
          rw [List.take_length] at hks
          repeat' ((conv => whnf); first | with_reducible refine Dec.t (show true = true from rfl) ?_ | with_reducible refine Dec.t (show false = false from rfl) ?_ | with_reducible refine Dec.f (show ¬ (true = false) by decide) ?_ | with_reducible refine Dec.f (show ¬ (false = true) by decide) ?_ | refine Dec.t (by omega) ?_ | refine Dec.f (by omega) ?_ | refine Dec.split (fun _ => ?_) (fun _ => ?_) | refine Wr.id (by omega) ?_ | refine Chk.mk (by first | omega | exact rfl | (simp only [List.length_map]; omega) | (simp [room]; done) | (simp [room]; omega) | (simp [dropL, room]; done) | (simp [dropL, room]; omega)) ?_ | refine Nam.mk (List.length_map _) ?_ | refine Prep.skip ?_ | refine Eith.l ?_ | refine chk_t (x := D.flat _) (by assumption) ?_ | refine br_mk (fun _ => ?_) (fun _ => ?_) | fail)
          all_goals first | (exfalso; omega) | skip
          all_goals (conv => whnf)
          all_goals first
            | exact ⟨v + 1, Wm.end (by repeat (first | exact trivial | refine And.intro rfl ?_ | refine And.intro (congrArg (fun n => V.d (I n)) (wrap_nat _ (by omega))) ?_)) rfl rfl rfl, ⟨hlt2, fun u hu => by
                rcases Nat.lt_or_ge u v with h1 | h1
                · exact hvs u h1
                · have : u = v := by omega
                  subst this
                  exact ⟨by rw [hxn]; exact hn, hks⟩⟩, by omega⟩
      · rw [hnot (fun hc => hn (by rw [← hxn]; exact ((hci.1 hc) v hlt2).1))]
        repeat' ((conv => whnf); first | with_reducible refine Dec.t (show true = true from rfl) ?_ | with_reducible refine Dec.t (show false = false from rfl) ?_ | with_reducible refine Dec.f (show ¬ (true = false) by decide) ?_ | with_reducible refine Dec.f (show ¬ (false = true) by decide) ?_ | refine Dec.t (by omega) ?_ | refine Dec.f (by omega) ?_ | refine Dec.split (fun _ => ?_) (fun _ => ?_) | refine Wr.id (by omega) ?_ | refine Chk.mk (by first | omega | exact rfl | (simp only [List.length_map]; omega) | (simp [room]; done) | (simp [room]; omega) | (simp [dropL, room]; done) | (simp [dropL, room]; omega)) ?_ | refine Nam.mk (List.length_map _) ?_ | refine Prep.skip ?_ | refine Eith.l ?_ | refine chk_t (x := D.flat _) (by assumption) ?_ | refine br_mk (fun _ => ?_) (fun _ => ?_) | refine nthK_mk (map_get hx) ?_ | fail)
        all_goals first | (exfalso; omega) | skip
        all_goals (conv => whnf)
        all_goals first | exact DLe.refl _
    · have : v = now.length := by omega
      subst this
      have hc : canP h.fl i now := hci.2 hvs
      rw [runM_some hc, Option.isSome_map] at hm
      repeat' ((conv => whnf); first | with_reducible refine Dec.t (show true = true from rfl) ?_ | with_reducible refine Dec.t (show false = false from rfl) ?_ | with_reducible refine Dec.f (show ¬ (true = false) by decide) ?_ | with_reducible refine Dec.f (show ¬ (false = true) by decide) ?_ | refine Dec.t (by omega) ?_ | refine Dec.f (by omega) ?_ | refine Dec.split (fun _ => ?_) (fun _ => ?_) | refine Wr.id (by omega) ?_ | refine Chk.mk (by first | omega | exact rfl | (simp only [List.length_map]; omega) | (simp [room]; done) | (simp [room]; omega) | (simp [dropL, room]; done) | (simp [dropL, room]; omega)) ?_ | refine Nam.mk (List.length_map _) ?_ | refine Prep.skip ?_ | refine Eith.l ?_ | refine chk_t (x := D.flat _) (by assumption) ?_ | refine br_mk (fun _ => ?_) (fun _ => ?_) | fail)
      all_goals first | (exfalso; omega) | skip
      all_goals (conv => whnf)
      all_goals first
        | exact ⟨⟨i + 1, afterM h.fl i now⟩, Wm.end (by repeat (first | exact trivial | refine And.intro rfl ?_ | refine And.intro (congrArg (fun n => V.d (I n)) (wrap_nat _ (by omega))) ?_)) rfl rfl rfl, ⟨by simp only; omega, by simp only; omega, fun n hn => by
            have h1 := hc.1 n hn
            have h2 := afterM_le h.fl (p := i) (l := now) (B := 1048576 * (1 + 64 * (i : Int))) (by omega) (fun n hn => (hlo n hn).2) (fun f hf => by have := hok.fl f hf; unfold Flow.ok at this; omega) n hn
            simp only; omega, hm⟩, by simp only; omega⟩
  · have : i = h.per.toNat := by omega
    subst this
    rw [Nat.sub_self] at hm
    have hm : (amtsO h).isSome = true := by rw [← hm]; rfl
    rw [hm]
    repeat' ((conv => whnf); first | with_reducible refine Dec.t (show true = true from rfl) ?_ | with_reducible refine Dec.t (show false = false from rfl) ?_ | with_reducible refine Dec.f (show ¬ (true = false) by decide) ?_ | with_reducible refine Dec.f (show ¬ (false = true) by decide) ?_ | refine Dec.t (by omega) ?_ | refine Dec.f (by omega) ?_ | refine Dec.split (fun _ => ?_) (fun _ => ?_) | refine Wr.id (by omega) ?_ | refine Chk.mk (by first | omega | exact rfl | (simp only [List.length_map]; omega) | (simp [room]; done) | (simp [room]; omega) | (simp [dropL, room]; done) | (simp [dropL, room]; omega)) ?_ | refine Nam.mk (List.length_map _) ?_ | refine Prep.skip ?_ | refine Eith.l ?_ | refine chk_t (x := D.flat _) (by assumption) ?_ | refine br_mk (fun _ => ?_) (fun _ => ?_) | fail)
    all_goals first | (exfalso; omega) | skip
    all_goals (conv => whnf)
    all_goals first | exact DLe.refl _
end Go.PM

