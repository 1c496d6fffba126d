/- The statements of floors: Fed. -/
import Derived.Test.YtgpgfcehcenejaaL34a
namespace Go.PM
open Go.Proofs
set_option maxRecDepth 10000
set_option maxHeartbeats 8000000

/-- Is a vessel in the set? -/
def hasP (set : Int) (v : Int) : Prop := bitsOp .and .u16 (set.fdiv (2 ^ min v.toNat IntKind.u16.bits)) 1 = 1
theorem Rch.outside {fl : List Flow} {p : Int} {now : List Int} {S : Int → Prop} {np : Int} (hok : ∀ f ∈ fl, f.ok now.length np) (h0 : ∀ v : Nat, S v → ¬ 0 < now.getD v 0)
    (h1 : ∀ f ∈ fl, f.per = p → ¬ (f.kind = 1 ∧ S f.dst ∨ f.kind = 2 ∧ S f.dst ∧ ¬ S f.src)) {v : Nat} (h : Rch fl p (posL now) v) : ¬ S v := by
  have rng : ∀ f ∈ fl, (f.kind = 1 ∨ f.kind = 2) → ((f.dst.toNat : Nat) : Int) = f.dst := fun f hf hk => by
    have := hok f hf; unfold Flow.ok at this; omega
  have rng2 : ∀ f ∈ fl, f.kind = 2 → ((f.src.toNat : Nat) : Int) = f.src := fun f hf hk => by
    have := hok f hf; unfold Flow.ok at this; omega
  induction h with
  | start v hv => exact fun hs => h0 v hs hv
  | into f hf hp hk => intro hs; rw [rng f hf (.inl hk)] at hs; exact h1 f hf hp (.inl ⟨hk, hs⟩)
  | move f hf hp hk _ ih => intro hs; rw [rng f hf (.inr hk)] at hs; rw [rng2 f hf hk] at ih; exact h1 f hf hp (.inr ⟨hk, hs, ih⟩)
theorem runM_at {fl : List Flow} : ∀ {n : Nat} {p : Nat} {now : List Int} {t : List (List Int)}, runM fl n p now = some t → ∀ i, i < n → ∃ b, (if i = 0 then some now else t[i - 1]?) = some b ∧ b.length = now.length ∧ canP fl ((p + i : Nat) : Int) b
  | 0, _, _, _, _, i, hi => by omega
  | n + 1, p, now, t, h, i, hi => by
    by_cases hc : canP fl p now
    · rw [runM_some hc] at h
      obtain ⟨t', h1, rfl⟩ := Option.map_eq_some_iff.1 h
      cases i with
      | zero => exact ⟨now, rfl, rfl, hc⟩
      | succ i =>
        obtain ⟨b, b1, b2, b3⟩ := runM_at (p := p + 1) h1 i (by omega)
        refine ⟨b, ?_, by rw [b2, afterM_len], by rw [show p + (i + 1) = p + 1 + i by omega]; exact b3⟩
        rw [if_neg (by omega)]
        cases i with
        | zero => simpa using b1
        | succ i => simpa using b1
    · rw [runM_none hc] at h; cases h
theorem pick {x : Int} (hx : 0 ≤ x) {k : Nat} (hk : 0 < k) : ∃ i : Nat, x.tmod (k : Int) = i ∧ i < k := by
  refine ⟨(x.tmod k).toNat, ?_, ?_⟩
  · have := Int.tmod_nonneg (a := x) (b := k) hx; omega
  · have := Int.tmod_lt_of_pos x (b := k) (by omega)
    have := Int.tmod_nonneg (a := x) (b := k) hx; omega
theorem stepH {set : Int} {b : List Int} {v : Nat} {n : Int} (hxn : b.getD v 0 = n) (h0 : ∀ u : Nat, u < v → hasP set u → ¬ 0 < b.getD u 0) (h : hasP set v → ¬ 0 < n) : ∀ u : Nat, u < v + 1 → hasP set u → ¬ 0 < b.getD u 0 := fun u hu hs => by
  by_cases e : u = v
  · subst e; rw [hxn]; exact h hs
  · exact h0 u (by omega) hs
theorem outs {fl : List Flow} {p np set : Int} {b : List Int} (hok : ∀ f ∈ fl, f.ok b.length np) (hc : canP fl p b) (h0 : ∀ u : Nat, u < b.length → hasP set u → ¬ 0 < b.getD u 0)
    (h1 : ∀ f ∈ fl, f.per = p → ¬ (f.kind = 1 ∧ hasP set f.dst ∨ f.kind = 2 ∧ hasP set f.dst ∧ ¬ hasP set f.src)) {f : Flow} (hf : f ∈ fl) (hp : f.per = p) (hk : ¬ f.kind = 1) : ¬ hasP set f.src := by
  have h2 := Rch.outside (S := hasP set) hok (fun v hv => by
    by_cases hlt : v < b.length
    · exact h0 v hlt hv
    · rw [List.getD_eq_getElem?_getD, List.getElem?_eq_none (by omega)]; simp) h1 ((fedL_iff hok f.src.toNat).1 (hc.2 f hf hp hk))
  have hfo := hok f hf
  unfold Flow.ok at hfo
  rwa [show ((f.src.toNat : Nat) : Int) = f.src by omega] at h2
theorem law34_Fed (h : Hist) (per set : Int) (hw : WidH h) (hper : 0 ≤ per ∧ per < 65536) : CallP Try.prog 5 [.d h.d, .d (.i .u16 per), .d (.i .u16 set)] (retD [.b true]) := by
  have hwo := hw.o
  have hwf := hw.f
  have a1 := floor_Amounts h hw
  refine exPure_sound (E := envOf Try.prog tt Try.f5.ntmps) (envOf_ok ttok mixed) Try.func5 (by rfl) rfl rfl (Nat.le_of_ble_eq_true rfl) ?_
  by_cases hf : h.op.length ≤ 16 ∧ h.fl.length ≤ 70
  · by_cases he : amtsE h = 0
    · obtain ⟨t, ho, ht⟩ := amtsE_some he
      have hok := amtsE_ok he
      have hnf := hok.nf
      have hnv := hok.nv
      have hnp := hok.np
      obtain ⟨hrl, hrr⟩ := runM_rows ho
      rw [he, ht] at a1
      by_cases hz : 0 < t.length
      · obtain ⟨i, hi, hil⟩ := pick hper.1 hz
        obtain ⟨b, b1, b2, b3⟩ := runM_at (p := 0) ho i (by omega)
        rw [Nat.zero_add] at b3
        by_cases hi0 : i = 0
        · rw [if_pos hi0] at b1
          repeat' ((conv => whnf); first | with_reducible refine Dec.t (show true = true from rfl) ?_ | with_reducible refine Dec.t (show false = false from rfl) ?_ | with_reducible refine Dec.f (show ¬ (true = false) by decide) ?_ | with_reducible refine Dec.f (show ¬ (false = true) by decide) ?_ | refine Dec.t (by omega) ?_ | refine Dec.f (by omega) ?_ | refine Dec.split (fun _ => ?_) (fun _ => ?_) | refine Wr.id (by omega) ?_ | refine Chk.mk (by first | omega | exact rfl | (simp only [List.length_map]; omega) | (simp [room]; done) | (simp [room]; omega) | (simp [dropL, room]; done) | (simp [dropL, room]; omega)) ?_ | refine Nam.mk (List.length_map _) ?_ | refine Prep.skip ?_ | refine Eith.l ?_ | refine chk_t (x := D.flat _) (by assumption) ?_ | refine br_mk (fun _ => ?_) (fun _ => ?_) | refine ACall.of (law34_sane) ?_ | refine APCall.of (law34_sane) ?_ | refine ACall.of (a1) ?_ | refine APCall.of (a1) ?_ | (rw [hi]) | fail)
          all_goals first | (exfalso; omega) | skip
          all_goals (conv => whnf)
          cases b1
          have hfl := hok.fl
          generalize h.op = b at *
          refine ALoop.at (E := envOf Try.prog tt Try.f5.ntmps) (envOf_ok ttok mixed) (X := Nat) (fun v => [(59, .d (I v))]) (fun _ => []) (fun v => v ≤ b.length ∧ ∀ u : Nat, u < v → hasP set u → ¬ 0 < b.getD u 0) (fun v => b.length - v) 0 (by repeat (first | exact trivial | refine And.intro rfl ?_ | refine And.intro (congrArg (fun n => V.d (I n)) (wrap_nat _ (by omega))) ?_)) rfl ⟨Nat.zero_le _, fun u hu => absurd hu (Nat.not_lt_zero u)⟩ ?_
          rintro v ⟨hv, h0⟩
          by_cases hlt : v < b.length
          · obtain ⟨n, hx, _⟩ := drop_get hlt
            have hxn : b.getD v 0 = n := by rw [List.getD_eq_getElem?_getD, hx]; rfl
            repeat' ((conv => whnf); first | with_reducible refine Dec.t (show true = true from rfl) ?_ | with_reducible refine Dec.t (show false = false from rfl) ?_ | with_reducible refine Dec.f (show ¬ (true = false) by decide) ?_ | with_reducible refine Dec.f (show ¬ (false = true) by decide) ?_ | refine Dec.t (by omega) ?_ | refine Dec.f (by omega) ?_ | refine Dec.split (fun _ => ?_) (fun _ => ?_) | refine Wr.id (by omega) ?_ | refine Chk.mk (by first | omega | exact rfl | (simp only [List.length_map]; omega) | (simp [room]; done) | (simp [room]; omega) | (simp [dropL, room]; done) | (simp [dropL, room]; omega)) ?_ | refine Nam.mk (List.length_map _) ?_ | refine Prep.skip ?_ | refine Eith.l ?_ | refine chk_t (x := D.flat _) (by assumption) ?_ | refine br_mk (fun _ => ?_) (fun _ => ?_) | refine nthK_mk (map_get hx) ?_ | refine ACall.body (E := envOf Try.prog tt Try.f19.ntmps) (envOf_ok ttok mixed) Try.func19 (by rfl) rfl (Nat.le_of_ble_eq_true rfl) ?_ | fail)
            all_goals first | (exfalso; omega) | skip
            all_goals (conv => whnf)
            all_goals first
              | exact DLe.refl _
              | exact ⟨v + 1, Wm.end (by repeat (first | exact trivial | refine And.intro rfl ?_ | refine And.intro (congrArg (fun n => V.d (I n)) (wrap_nat _ (by omega))) ?_)) rfl rfl rfl, ⟨hlt, stepH hxn h0 (fun _ => by assumption)⟩, by omega⟩
              | exact ⟨v + 1, Wm.end (by repeat (first | exact trivial | refine And.intro rfl ?_ | refine And.intro (congrArg (fun n => V.d (I n)) (wrap_nat _ (by omega))) ?_)) rfl rfl rfl, ⟨hlt, stepH hxn h0 (fun hs => absurd (show bitsOp .and .u16 (set.fdiv (2 ^ min (v : Int).toNat IntKind.u16.bits)) 1 = 1 from hs) (by assumption))⟩, by omega⟩
          · have : v = b.length := by omega
            subst this
            repeat' ((conv => whnf); first | with_reducible refine Dec.t (show true = true from rfl) ?_ | with_reducible refine Dec.t (show false = false from rfl) ?_ | with_reducible refine Dec.f (show ¬ (true = false) by decide) ?_ | with_reducible refine Dec.f (show ¬ (false = true) by decide) ?_ | refine Dec.t (by omega) ?_ | refine Dec.f (by omega) ?_ | refine Dec.split (fun _ => ?_) (fun _ => ?_) | refine Wr.id (by omega) ?_ | refine Chk.mk (by first | omega | exact rfl | (simp only [List.length_map]; omega) | (simp [room]; done) | (simp [room]; omega) | (simp [dropL, room]; done) | (simp [dropL, room]; omega)) ?_ | refine Nam.mk (List.length_map _) ?_ | refine Prep.skip ?_ | refine Eith.l ?_ | refine chk_t (x := D.flat _) (by assumption) ?_ | refine br_mk (fun _ => ?_) (fun _ => ?_) | fail)
            all_goals first | (exfalso; omega) | skip
            all_goals (conv => whnf)
            refine ALoop.at (E := envOf Try.prog tt Try.f5.ntmps) (envOf_ok ttok mixed) (X := Nat) (fun k => [(75, .d (I k))]) (fun _ => []) (fun k => k ≤ h.fl.length ∧ ∀ f ∈ h.fl.take k, f.per = i → ¬ (f.kind = 1 ∧ hasP set f.dst ∨ f.kind = 2 ∧ hasP set f.dst ∧ ¬ hasP set f.src)) (fun k => h.fl.length - k) 0 (by repeat (first | exact trivial | refine And.intro rfl ?_ | refine And.intro (congrArg (fun n => V.d (I n)) (wrap_nat _ (by omega))) ?_)) rfl ⟨Nat.zero_le _, by simp⟩ ?_
            rintro k ⟨hk, hb⟩
            by_cases hlt2 : k < h.fl.length
            · obtain ⟨f, hy, _⟩ := drop_get hlt2
              have hfo := hfl f (List.mem_of_getElem? hy)
              unfold Flow.ok at hfo
              clear hfl hrr b3 h0
              by_cases hpk : f.per = i ∧ (f.kind = 1 ∨ f.kind = 2)
              · obtain ⟨hp, hk1⟩ := hpk
                have hd0 : 0 ≤ f.dst := by omega
                have hs0 : f.kind = 2 → 0 ≤ f.src := by omega
                clear hfo
                repeat' ((conv => whnf); first | with_reducible refine Dec.t (show true = true from rfl) ?_ | with_reducible refine Dec.t (show false = false from rfl) ?_ | with_reducible refine Dec.f (show ¬ (true = false) by decide) ?_ | with_reducible refine Dec.f (show ¬ (false = true) by decide) ?_ | refine Dec.t (by omega) ?_ | refine Dec.f (by omega) ?_ | refine Dec.split (fun _ => ?_) (fun _ => ?_) | refine Wr.id (by omega) ?_ | refine Chk.mk (by first | omega | exact rfl | (simp only [List.length_map]; omega) | (simp [room]; done) | (simp [room]; omega) | (simp [dropL, room]; done) | (simp [dropL, room]; omega)) ?_ | refine Nam.mk (List.length_map _) ?_ | refine Prep.skip ?_ | refine Eith.l ?_ | refine chk_t (x := D.flat _) (by assumption) ?_ | refine br_mk (fun _ => ?_) (fun _ => ?_) | refine nthK_mk (map_get hy) ?_ | refine ACall.body (E := envOf Try.prog tt Try.f19.ntmps) (envOf_ok ttok mixed) Try.func19 (by rfl) rfl (Nat.le_of_ble_eq_true rfl) ?_ | fail)
                all_goals first | (exfalso; omega) | skip
                all_goals (conv => whnf)
                all_goals first
                  | exact DLe.refl _
                  | exact ⟨k + 1, Wm.end (by repeat (first | exact trivial | refine And.intro rfl ?_ | refine And.intro (congrArg (fun n => V.d (I n)) (wrap_nat _ (by omega))) ?_)) rfl rfl rfl, ⟨hlt2, snoc_all hy (fun hp hbad => by
                      unfold hasP at hbad
                      rcases hbad with ⟨k1, s1⟩ | ⟨k2, s1, s2⟩
                      all_goals first | omega | exact absurd s1 (by assumption) | exact absurd (by assumption) s2) hb⟩, by omega⟩
              · clear hfo
                repeat' ((conv => whnf); first | with_reducible refine Dec.t (show true = true from rfl) ?_ | with_reducible refine Dec.t (show false = false from rfl) ?_ | with_reducible refine Dec.f (show ¬ (true = false) by decide) ?_ | with_reducible refine Dec.f (show ¬ (false = true) by decide) ?_ | refine Dec.t (by omega) ?_ | refine Dec.f (by omega) ?_ | refine Dec.split (fun _ => ?_) (fun _ => ?_) | refine Wr.id (by omega) ?_ | refine Chk.mk (by first | omega | exact rfl | (simp only [List.length_map]; omega) | (simp [room]; done) | (simp [room]; omega) | (simp [dropL, room]; done) | (simp [dropL, room]; omega)) ?_ | refine Nam.mk (List.length_map _) ?_ | refine Prep.skip ?_ | refine Eith.l ?_ | refine chk_t (x := D.flat _) (by assumption) ?_ | refine br_mk (fun _ => ?_) (fun _ => ?_) | refine nthK_mk (map_get hy) ?_ | fail)
                all_goals first | (exfalso; omega) | skip
                all_goals (conv => whnf)
                all_goals first
                  | exact ⟨k + 1, Wm.end (by repeat (first | exact trivial | refine And.intro rfl ?_ | refine And.intro (congrArg (fun n => V.d (I n)) (wrap_nat _ (by omega))) ?_)) rfl rfl rfl, ⟨hlt2, snoc_all hy (fun hp hbad => hpk ⟨hp, hbad.elim (fun h => .inl h.1) (fun h => .inr h.1)⟩) hb⟩, by omega⟩
            · have : k = h.fl.length := by omega
              subst this
              rw [List.take_length] at hb
              have hno : ∀ f ∈ h.fl, f.per = i → ¬ f.kind = 1 → ¬ hasP set f.src := fun f hf hp hk => outs hfl b3 h0 hb hf hp hk
              repeat' ((conv => whnf); first | with_reducible refine Dec.t (show true = true from rfl) ?_ | with_reducible refine Dec.t (show false = false from rfl) ?_ | with_reducible refine Dec.f (show ¬ (true = false) by decide) ?_ | with_reducible refine Dec.f (show ¬ (false = true) by decide) ?_ | refine Dec.t (by omega) ?_ | refine Dec.f (by omega) ?_ | refine Dec.split (fun _ => ?_) (fun _ => ?_) | refine Wr.id (by omega) ?_ | refine Chk.mk (by first | omega | exact rfl | (simp only [List.length_map]; omega) | (simp [room]; done) | (simp [room]; omega) | (simp [dropL, room]; done) | (simp [dropL, room]; omega)) ?_ | refine Nam.mk (List.length_map _) ?_ | refine Prep.skip ?_ | refine Eith.l ?_ | refine chk_t (x := D.flat _) (by assumption) ?_ | refine br_mk (fun _ => ?_) (fun _ => ?_) | fail)
              all_goals first | (exfalso; omega) | skip
              all_goals (conv => whnf)
              refine ALoop.at (E := envOf Try.prog tt Try.f5.ntmps) (envOf_ok ttok mixed) (X := Nat) (fun k => [(116, .d (I k))]) (fun _ => []) (fun k => k ≤ h.fl.length) (fun k => h.fl.length - k) 0 (by repeat (first | exact trivial | refine And.intro rfl ?_ | refine And.intro (congrArg (fun n => V.d (I n)) (wrap_nat _ (by omega))) ?_)) rfl (Nat.zero_le _) ?_
              rintro k hk
              by_cases hlt3 : k < h.fl.length
              · obtain ⟨f, hy, _⟩ := drop_get hlt3
                have hno1 := hno f (List.mem_of_getElem? hy)
                have hfo := hfl f (List.mem_of_getElem? hy)
                unfold Flow.ok at hfo
                have hs0 : ¬ f.kind = 1 → 0 ≤ f.src := by omega
                clear hfo hfl hrr b3 h0 hb hno
                unfold hasP at hno1
                repeat' ((conv => whnf); first | with_reducible refine Dec.t (show true = true from rfl) ?_ | with_reducible refine Dec.t (show false = false from rfl) ?_ | with_reducible refine Dec.f (show ¬ (true = false) by decide) ?_ | with_reducible refine Dec.f (show ¬ (false = true) by decide) ?_ | refine Dec.t (by omega) ?_ | refine Dec.f (by omega) ?_ | refine Dec.split (fun _ => ?_) (fun _ => ?_) | refine Wr.id (by omega) ?_ | refine Chk.mk (by first | omega | exact rfl | (simp only [List.length_map]; omega) | (simp [room]; done) | (simp [room]; omega) | (simp [dropL, room]; done) | (simp [dropL, room]; omega)) ?_ | refine Nam.mk (List.length_map _) ?_ | refine Prep.skip ?_ | refine Eith.l ?_ | refine chk_t (x := D.flat _) (by assumption) ?_ | refine br_mk (fun _ => ?_) (fun _ => ?_) | refine nthK_mk (map_get hy) ?_ | refine ACall.body (E := envOf Try.prog tt Try.f19.ntmps) (envOf_ok ttok mixed) Try.func19 (by rfl) rfl (Nat.le_of_ble_eq_true rfl) ?_ | fail)
                all_goals first | (exfalso; omega) | skip
                all_goals (conv => whnf)
                all_goals first
                  | exact absurd (by assumption) (hno1 (by assumption) (by assumption))
                  | exact ⟨k + 1, Wm.end (by repeat (first | exact trivial | refine And.intro rfl ?_ | refine And.intro (congrArg (fun n => V.d (I n)) (wrap_nat _ (by omega))) ?_)) rfl rfl rfl, hlt3, by omega⟩
              · repeat' ((conv => whnf); first | with_reducible refine Dec.t (show true = true from rfl) ?_ | with_reducible refine Dec.t (show false = false from rfl) ?_ | with_reducible refine Dec.f (show ¬ (true = false) by decide) ?_ | with_reducible refine Dec.f (show ¬ (false = true) by decide) ?_ | refine Dec.t (by omega) ?_ | refine Dec.f (by omega) ?_ | refine Dec.split (fun _ => ?_) (fun _ => ?_) | refine Wr.id (by omega) ?_ | refine Chk.mk (by first | omega | exact rfl | (simp only [List.length_map]; omega) | (simp [room]; done) | (simp [room]; omega) | (simp [dropL, room]; done) | (simp [dropL, room]; omega)) ?_ | refine Nam.mk (List.length_map _) ?_ | refine Prep.skip ?_ | refine Eith.l ?_ | refine chk_t (x := D.flat _) (by assumption) ?_ | refine br_mk (fun _ => ?_) (fun _ => ?_) | fail)
                all_goals first | (exfalso; omega) | skip
                all_goals (conv => whnf)
                all_goals first | exact DLe.refl _
        · rw [if_neg hi0] at b1
          have b1' : (t.map rowD)[((i : Int) - 1).toNat]? = some (rowD b) := by rw [show ((i : Int) - 1).toNat = i - 1 by omega, List.getElem?_map, b1]; rfl
          have hfl : ∀ f ∈ h.fl, f.ok b.length h.per := by rw [b2]; exact hok.fl
          have hbn : b.length ≤ 16 := by omega
          repeat' ((conv => whnf); first | with_reducible refine Dec.t (show true = true from rfl) ?_ | with_reducible refine Dec.t (show false = false from rfl) ?_ | with_reducible refine Dec.f (show ¬ (true = false) by decide) ?_ | with_reducible refine Dec.f (show ¬ (false = true) by decide) ?_ | refine Dec.t (by omega) ?_ | refine Dec.f (by omega) ?_ | refine Dec.split (fun _ => ?_) (fun _ => ?_) | refine Wr.id (by omega) ?_ | refine Chk.mk (by first | omega | exact rfl | (simp only [List.length_map]; omega) | (simp [room]; done) | (simp [room]; omega) | (simp [dropL, room]; done) | (simp [dropL, room]; omega)) ?_ | refine Nam.mk (List.length_map _) ?_ | refine Prep.skip ?_ | refine Eith.l ?_ | refine chk_t (x := D.flat _) (by assumption) ?_ | refine br_mk (fun _ => ?_) (fun _ => ?_) | refine ACall.of (law34_sane) ?_ | refine APCall.of (law34_sane) ?_ | refine ACall.of (a1) ?_ | refine APCall.of (a1) ?_ | (rw [hi]) | refine nthK_mk b1' ?_ | fail)
          all_goals first | (exfalso; omega) | skip
          all_goals (conv => whnf)
          refine ALoop.at (E := envOf Try.prog tt Try.f5.ntmps) (envOf_ok ttok mixed) (X := Nat) (fun v => [(59, .d (I v)), (10, .d (rowD b))]) (fun _ => []) (fun v => v ≤ b.length ∧ ∀ u : Nat, u < v → hasP set u → ¬ 0 < b.getD u 0) (fun v => b.length - v) 0 (by repeat (first | exact trivial | refine And.intro rfl ?_ | refine And.intro (congrArg (fun n => V.d (I n)) (wrap_nat _ (by omega))) ?_)) rfl ⟨Nat.zero_le _, fun u hu => absurd hu (Nat.not_lt_zero u)⟩ ?_
          rintro v ⟨hv, h0⟩
          by_cases hlt : v < b.length
          · obtain ⟨n, hx, _⟩ := drop_get hlt
            have hxn : b.getD v 0 = n := by rw [List.getD_eq_getElem?_getD, hx]; rfl
            repeat' ((conv => whnf); first | with_reducible refine Dec.t (show true = true from rfl) ?_ | with_reducible refine Dec.t (show false = false from rfl) ?_ | with_reducible refine Dec.f (show ¬ (true = false) by decide) ?_ | with_reducible refine Dec.f (show ¬ (false = true) by decide) ?_ | refine Dec.t (by omega) ?_ | refine Dec.f (by omega) ?_ | refine Dec.split (fun _ => ?_) (fun _ => ?_) | refine Wr.id (by omega) ?_ | refine Chk.mk (by first | omega | exact rfl | (simp only [List.length_map]; omega) | (simp [room]; done) | (simp [room]; omega) | (simp [dropL, room]; done) | (simp [dropL, room]; omega)) ?_ | refine Nam.mk (List.length_map _) ?_ | refine Prep.skip ?_ | refine Eith.l ?_ | refine chk_t (x := D.flat _) (by assumption) ?_ | refine br_mk (fun _ => ?_) (fun _ => ?_) | refine nthK_mk (map_get hx) ?_ | refine ACall.body (E := envOf Try.prog tt Try.f19.ntmps) (envOf_ok ttok mixed) Try.func19 (by rfl) rfl (Nat.le_of_ble_eq_true rfl) ?_ | fail)
            all_goals first | (exfalso; omega) | skip
            all_goals (conv => whnf)
            all_goals first
              | exact DLe.refl _
              | exact ⟨v + 1, Wm.end (by repeat (first | exact trivial | refine And.intro rfl ?_ | refine And.intro (congrArg (fun n => V.d (I n)) (wrap_nat _ (by omega))) ?_)) rfl rfl rfl, ⟨hlt, stepH hxn h0 (fun _ => by assumption)⟩, by omega⟩
              | exact ⟨v + 1, Wm.end (by repeat (first | exact trivial | refine And.intro rfl ?_ | refine And.intro (congrArg (fun n => V.d (I n)) (wrap_nat _ (by omega))) ?_)) rfl rfl rfl, ⟨hlt, stepH hxn h0 (fun hs => absurd (show bitsOp .and .u16 (set.fdiv (2 ^ min (v : Int).toNat IntKind.u16.bits)) 1 = 1 from hs) (by assumption))⟩, by omega⟩
          · have : v = b.length := by omega
            subst this
            repeat' ((conv => whnf); first | with_reducible refine Dec.t (show true = true from rfl) ?_ | with_reducible refine Dec.t (show false = false from rfl) ?_ | with_reducible refine Dec.f (show ¬ (true = false) by decide) ?_ | with_reducible refine Dec.f (show ¬ (false = true) by decide) ?_ | refine Dec.t (by omega) ?_ | refine Dec.f (by omega) ?_ | refine Dec.split (fun _ => ?_) (fun _ => ?_) | refine Wr.id (by omega) ?_ | refine Chk.mk (by first | omega | exact rfl | (simp only [List.length_map]; omega) | (simp [room]; done) | (simp [room]; omega) | (simp [dropL, room]; done) | (simp [dropL, room]; omega)) ?_ | refine Nam.mk (List.length_map _) ?_ | refine Prep.skip ?_ | refine Eith.l ?_ | refine chk_t (x := D.flat _) (by assumption) ?_ | refine br_mk (fun _ => ?_) (fun _ => ?_) | fail)
            all_goals first | (exfalso; omega) | skip
            all_goals (conv => whnf)
            refine ALoop.at (E := envOf Try.prog tt Try.f5.ntmps) (envOf_ok ttok mixed) (X := Nat) (fun k => [(75, .d (I k))]) (fun _ => []) (fun k => k ≤ h.fl.length ∧ ∀ f ∈ h.fl.take k, f.per = i → ¬ (f.kind = 1 ∧ hasP set f.dst ∨ f.kind = 2 ∧ hasP set f.dst ∧ ¬ hasP set f.src)) (fun k => h.fl.length - k) 0 (by repeat (first | exact trivial | refine And.intro rfl ?_ | refine And.intro (congrArg (fun n => V.d (I n)) (wrap_nat _ (by omega))) ?_)) rfl ⟨Nat.zero_le _, by simp⟩ ?_
            rintro k ⟨hk, hb⟩
            by_cases hlt2 : k < h.fl.length
            · obtain ⟨f, hy, _⟩ := drop_get hlt2
              have hfo := hfl f (List.mem_of_getElem? hy)
              unfold Flow.ok at hfo
              clear hfl hrr b3 h0
              by_cases hpk : f.per = i ∧ (f.kind = 1 ∨ f.kind = 2)
              · obtain ⟨hp, hk1⟩ := hpk
                have hd0 : 0 ≤ f.dst := by omega
                have hs0 : f.kind = 2 → 0 ≤ f.src := by omega
                clear hfo
                repeat' ((conv => whnf); first | with_reducible refine Dec.t (show true = true from rfl) ?_ | with_reducible refine Dec.t (show false = false from rfl) ?_ | with_reducible refine Dec.f (show ¬ (true = false) by decide) ?_ | with_reducible refine Dec.f (show ¬ (false = true) by decide) ?_ | refine Dec.t (by omega) ?_ | refine Dec.f (by omega) ?_ | refine Dec.split (fun _ => ?_) (fun _ => ?_) | refine Wr.id (by omega) ?_ | refine Chk.mk (by first | omega | exact rfl | (simp only [List.length_map]; omega) | (simp [room]; done) | (simp [room]; omega) | (simp [dropL, room]; done) | (simp [dropL, room]; omega)) ?_ | refine Nam.mk (List.length_map _) ?_ | refine Prep.skip ?_ | refine Eith.l ?_ | refine chk_t (x := D.flat _) (by assumption) ?_ | refine br_mk (fun _ => ?_) (fun _ => ?_) | refine nthK_mk (map_get hy) ?_ | refine ACall.body (E := envOf Try.prog tt Try.f19.ntmps) (envOf_ok ttok mixed) Try.func19 (by rfl) rfl (Nat.le_of_ble_eq_true rfl) ?_ | fail)
                all_goals first | (exfalso; omega) | skip
                all_goals (conv => whnf)
                all_goals first
                  | exact DLe.refl _
                  | exact ⟨k + 1, Wm.end (by repeat (first | exact trivial | refine And.intro rfl ?_ | refine And.intro (congrArg (fun n => V.d (I n)) (wrap_nat _ (by omega))) ?_)) rfl rfl rfl, ⟨hlt2, snoc_all hy (fun hp hbad => by
                      unfold hasP at hbad
                      rcases hbad with ⟨k1, s1⟩ | ⟨k2, s1, s2⟩
                      all_goals first | omega | exact absurd s1 (by assumption) | exact absurd (by assumption) s2) hb⟩, by omega⟩
              · clear hfo
                repeat' ((conv => whnf); first | with_reducible refine Dec.t (show true = true from rfl) ?_ | with_reducible refine Dec.t (show false = false from rfl) ?_ | with_reducible refine Dec.f (show ¬ (true = false) by decide) ?_ | with_reducible refine Dec.f (show ¬ (false = true) by decide) ?_ | refine Dec.t (by omega) ?_ | refine Dec.f (by omega) ?_ | refine Dec.split (fun _ => ?_) (fun _ => ?_) | refine Wr.id (by omega) ?_ | refine Chk.mk (by first | omega | exact rfl | (simp only [List.length_map]; omega) | (simp [room]; done) | (simp [room]; omega) | (simp [dropL, room]; done) | (simp [dropL, room]; omega)) ?_ | refine Nam.mk (List.length_map _) ?_ | refine Prep.skip ?_ | refine Eith.l ?_ | refine chk_t (x := D.flat _) (by assumption) ?_ | refine br_mk (fun _ => ?_) (fun _ => ?_) | refine nthK_mk (map_get hy) ?_ | fail)
                all_goals first | (exfalso; omega) | skip
                all_goals (conv => whnf)
                all_goals first
                  | exact ⟨k + 1, Wm.end (by repeat (first | exact trivial | refine And.intro rfl ?_ | refine And.intro (congrArg (fun n => V.d (I n)) (wrap_nat _ (by omega))) ?_)) rfl rfl rfl, ⟨hlt2, snoc_all hy (fun hp hbad => hpk ⟨hp, hbad.elim (fun h => .inl h.1) (fun h => .inr h.1)⟩) hb⟩, by omega⟩
            · have : k = h.fl.length := by omega
              subst this
              rw [List.take_length] at hb
              have hno : ∀ f ∈ h.fl, f.per = i → ¬ f.kind = 1 → ¬ hasP set f.src := fun f hf hp hk => outs hfl b3 h0 hb hf hp hk
              repeat' ((conv => whnf); first | with_reducible refine Dec.t (show true = true from rfl) ?_ | with_reducible refine Dec.t (show false = false from rfl) ?_ | with_reducible refine Dec.f (show ¬ (true = false) by decide) ?_ | with_reducible refine Dec.f (show ¬ (false = true) by decide) ?_ | refine Dec.t (by omega) ?_ | refine Dec.f (by omega) ?_ | refine Dec.split (fun _ => ?_) (fun _ => ?_) | refine Wr.id (by omega) ?_ | refine Chk.mk (by first | omega | exact rfl | (simp only [List.length_map]; omega) | (simp [room]; done) | (simp [room]; omega) | (simp [dropL, room]; done) | (simp [dropL, room]; omega)) ?_ | refine Nam.mk (List.length_map _) ?_ | refine Prep.skip ?_ | refine Eith.l ?_ | refine chk_t (x := D.flat _) (by assumption) ?_ | refine br_mk (fun _ => ?_) (fun _ => ?_) | fail)
              all_goals first | (exfalso; omega) | skip
              all_goals (conv => whnf)
              refine ALoop.at (E := envOf Try.prog tt Try.f5.ntmps) (envOf_ok ttok mixed) (X := Nat) (fun k => [(116, .d (I k))]) (fun _ => []) (fun k => k ≤ h.fl.length) (fun k => h.fl.length - k) 0 (by repeat (first | exact trivial | refine And.intro rfl ?_ | refine And.intro (congrArg (fun n => V.d (I n)) (wrap_nat _ (by omega))) ?_)) rfl (Nat.zero_le _) ?_
              rintro k hk
              by_cases hlt3 : k < h.fl.length
              · obtain ⟨f, hy, _⟩ := drop_get hlt3
                have hno1 := hno f (List.mem_of_getElem? hy)
                have hfo := hfl f (List.mem_of_getElem? hy)
                unfold Flow.ok at hfo
                have hs0 : ¬ f.kind = 1 → 0 ≤ f.src := by omega
                clear hfo hfl hrr b3 h0 hb hno
                unfold hasP at hno1
                repeat' ((conv => whnf); first | with_reducible refine Dec.t (show true = true from rfl) ?_ | with_reducible refine Dec.t (show false = false from rfl) ?_ | with_reducible refine Dec.f (show ¬ (true = false) by decide) ?_ | with_reducible refine Dec.f (show ¬ (false = true) by decide) ?_ | refine Dec.t (by omega) ?_ | refine Dec.f (by omega) ?_ | refine Dec.split (fun _ => ?_) (fun _ => ?_) | refine Wr.id (by omega) ?_ | refine Chk.mk (by first | omega | exact rfl | (simp only [List.length_map]; omega) | (simp [room]; done) | (simp [room]; omega) | (simp [dropL, room]; done) | (simp [dropL, room]; omega)) ?_ | refine Nam.mk (List.length_map _) ?_ | refine Prep.skip ?_ | refine Eith.l ?_ | refine chk_t (x := D.flat _) (by assumption) ?_ | refine br_mk (fun _ => ?_) (fun _ => ?_) | refine nthK_mk (map_get hy) ?_ | refine ACall.body (E := envOf Try.prog tt Try.f19.ntmps) (envOf_ok ttok mixed) Try.func19 (by rfl) rfl (Nat.le_of_ble_eq_true rfl) ?_ | fail)
                all_goals first | (exfalso; omega) | skip
                all_goals (conv => whnf)
                all_goals first
                  | exact absurd (by assumption) (hno1 (by assumption) (by assumption))
                  | exact ⟨k + 1, Wm.end (by repeat (first | exact trivial | refine And.intro rfl ?_ | refine And.intro (congrArg (fun n => V.d (I n)) (wrap_nat _ (by omega))) ?_)) rfl rfl rfl, hlt3, by omega⟩
              · repeat' ((conv => whnf); first | with_reducible refine Dec.t (show true = true from rfl) ?_ | with_reducible refine Dec.t (show false = false from rfl) ?_ | with_reducible refine Dec.f (show ¬ (true = false) by decide) ?_ | with_reducible refine Dec.f (show ¬ (false = true) by decide) ?_ | refine Dec.t (by omega) ?_ | refine Dec.f (by omega) ?_ | refine Dec.split (fun _ => ?_) (fun _ => ?_) | refine Wr.id (by omega) ?_ | refine Chk.mk (by first | omega | exact rfl | (simp only [List.length_map]; omega) | (simp [room]; done) | (simp [room]; omega) | (simp [dropL, room]; done) | (simp [dropL, room]; omega)) ?_ | refine Nam.mk (List.length_map _) ?_ | refine Prep.skip ?_ | refine Eith.l ?_ | refine chk_t (x := D.flat _) (by assumption) ?_ | refine br_mk (fun _ => ?_) (fun _ => ?_) | fail)
                all_goals first | (exfalso; omega) | skip
                all_goals (conv => whnf)
                all_goals first | exact DLe.refl _
      · repeat' ((conv => whnf); first | with_reducible refine Dec.t (show true = true from rfl) ?_ | with_reducible refine Dec.t (show false = false from rfl) ?_ | with_reducible refine Dec.f (show ¬ (true = false) by decide) ?_ | with_reducible refine Dec.f (show ¬ (false = true) by decide) ?_ | refine Dec.t (by omega) ?_ | refine Dec.f (by omega) ?_ | refine Dec.split (fun _ => ?_) (fun _ => ?_) | refine Wr.id (by omega) ?_ | refine Chk.mk (by first | omega | exact rfl | (simp only [List.length_map]; omega) | (simp [room]; done) | (simp [room]; omega) | (simp [dropL, room]; done) | (simp [dropL, room]; omega)) ?_ | refine Nam.mk (List.length_map _) ?_ | refine Prep.skip ?_ | refine Eith.l ?_ | refine chk_t (x := D.flat _) (by assumption) ?_ | refine br_mk (fun _ => ?_) (fun _ => ?_) | refine ACall.of (law34_sane) ?_ | refine APCall.of (law34_sane) ?_ | refine ACall.of (a1) ?_ | refine APCall.of (a1) ?_ | fail)
        all_goals first | (exfalso; omega) | skip
        all_goals (conv => whnf)
        all_goals first | exact DLe.refl _
    · have ht := amtsT_nil he
      rw [ht] at a1
      repeat' ((conv => whnf); first | with_reducible refine Dec.t (show true = true from rfl) ?_ | with_reducible refine Dec.t (show false = false from rfl) ?_ | with_reducible refine Dec.f (show ¬ (true = false) by decide) ?_ | with_reducible refine Dec.f (show ¬ (false = true) by decide) ?_ | refine Dec.t (by omega) ?_ | refine Dec.f (by omega) ?_ | refine Dec.split (fun _ => ?_) (fun _ => ?_) | refine Wr.id (by omega) ?_ | refine Chk.mk (by first | omega | exact rfl | (simp only [List.length_map]; omega) | (simp [room]; done) | (simp [room]; omega) | (simp [dropL, room]; done) | (simp [dropL, room]; omega)) ?_ | refine Nam.mk (List.length_map _) ?_ | refine Prep.skip ?_ | refine Eith.l ?_ | refine chk_t (x := D.flat _) (by assumption) ?_ | refine br_mk (fun _ => ?_) (fun _ => ?_) | refine ACall.of (law34_sane) ?_ | refine APCall.of (law34_sane) ?_ | refine ACall.of (a1) ?_ | refine APCall.of (a1) ?_ | fail)
      all_goals first | (exfalso; omega) | skip
      all_goals (conv => whnf)
      all_goals first | exact DLe.refl _
  · repeat' ((conv => whnf); first | with_reducible refine Dec.t (show true = true from rfl) ?_ | with_reducible refine Dec.t (show false = false from rfl) ?_ | with_reducible refine Dec.f (show ¬ (true = false) by decide) ?_ | with_reducible refine Dec.f (show ¬ (false = true) by decide) ?_ | refine Dec.t (by omega) ?_ | refine Dec.f (by omega) ?_ | refine Dec.split (fun _ => ?_) (fun _ => ?_) | refine Wr.id (by omega) ?_ | refine Chk.mk (by first | omega | exact rfl | (simp only [List.length_map]; omega) | (simp [room]; done) | (simp [room]; omega) | (simp [dropL, room]; done) | (simp [dropL, room]; omega)) ?_ | refine Nam.mk (List.length_map _) ?_ | refine Prep.skip ?_ | refine Eith.l ?_ | refine chk_t (x := D.flat _) (by assumption) ?_ | refine br_mk (fun _ => ?_) (fun _ => ?_) | refine ACall.of (law34_sane) ?_ | refine APCall.of (law34_sane) ?_ | fail)
    all_goals first | (exfalso; omega) | skip
    all_goals (conv => whnf)
    all_goals first | exact DLe.refl _
end Go.PM

