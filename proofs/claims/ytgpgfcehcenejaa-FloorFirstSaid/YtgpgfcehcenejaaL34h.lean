/- Floors, plain: the first periods, and the rest. -/
import Derived.Test.YtgpgfcehcenejaaL34d
namespace Go.PM
open Go.Proofs
set_option maxRecDepth 10000
set_option maxHeartbeats 4000000

/-- Flows that come to the same, those of a period for those of another. -/
structure SameAt (a b : List Flow) (p q : Int) (nv : Nat) (npa npb : Int) : Prop where
  oka : ∀ f ∈ a, f.ok nv npa
  okb : ∀ f ∈ b, f.ok nv npb
  sum : ∀ v, (a.map (dlt p v)).sum = (b.map (dlt q v)).sum
  into : ∀ v, (∃ f ∈ a, f.per = p ∧ f.kind = 1 ∧ f.dst.toNat = v) ↔ ∃ f ∈ b, f.per = q ∧ f.kind = 1 ∧ f.dst.toNat = v
  move : ∀ u v, (∃ f ∈ a, f.per = p ∧ f.kind = 2 ∧ f.src.toNat = u ∧ f.dst.toNat = v) ↔ ∃ f ∈ b, f.per = q ∧ f.kind = 2 ∧ f.src.toNat = u ∧ f.dst.toNat = v
  out : ∀ u, (∃ f ∈ a, f.per = p ∧ ¬ f.kind = 1 ∧ f.src.toNat = u) ↔ ∃ f ∈ b, f.per = q ∧ ¬ f.kind = 1 ∧ f.src.toNat = u
theorem SameAt.symm {a b : List Flow} {p q : Int} {nv : Nat} {m n : Int} (h : SameAt a b p q nv m n) : SameAt b a q p nv n m :=
  ⟨h.okb, h.oka, fun v => (h.sum v).symm, fun v => (h.into v).symm, fun u v => (h.move u v).symm, fun u => (h.out u).symm⟩
theorem SameAt.after {a b : List Flow} {p q : Int} {nv : Nat} {m n : Int} (h : SameAt a b p q nv m n) {now : List Int} (hl : now.length = nv) : afterM a p now = afterM b q now := by
  subst hl
  refine ext_getD (by rw [afterM_len, afterM_len]) fun v _ => ?_
  rw [afterM_at v a h.oka, afterM_at v b h.okb, foldV, foldV, h.sum]
theorem SameAt.rch {a b : List Flow} {p q : Int} {nv : Nat} {m n : Int} (h : SameAt a b p q nv m n) {pos : Nat → Prop} {v : Nat} (hr : Rch a p pos v) : Rch b q pos v := by
  induction hr with
  | start v hv => exact .start v hv
  | into f hf hp hk =>
    obtain ⟨g, g1, g2, g3, g4⟩ := (h.into f.dst.toNat).1 ⟨f, hf, hp, hk, rfl⟩
    rw [← g4]; exact .into g g1 g2 g3
  | move f hf hp hk _ ih =>
    obtain ⟨g, g1, g2, g3, g4, g5⟩ := (h.move f.src.toNat f.dst.toNat).1 ⟨f, hf, hp, hk, rfl, rfl⟩
    rw [← g5]; exact .move g g1 g2 g3 (by rw [g4]; exact ih)
theorem SameAt.fed {a b : List Flow} {p q : Int} {nv : Nat} {m n : Int} (h : SameAt a b p q nv m n) {now : List Int} (hl : now.length = nv) : fedL a p now = fedL b q now := by
  subst hl
  refine ext_getDB (by rw [fedL_len, fedL_len]) fun v => ?_
  rw [fedL_iff h.oka, fedL_iff h.okb]
  exact ⟨h.rch, h.symm.rch⟩
theorem SameAt.can {a b : List Flow} {p q : Int} {nv : Nat} {m n : Int} (h : SameAt a b p q nv m n) {now : List Int} (hl : now.length = nv) (hc : canP a p now) : canP b q now := by
  unfold canP at hc ⊢
  rw [← h.after hl, ← h.fed hl]
  refine ⟨hc.1, fun f hf hp hk => ?_⟩
  obtain ⟨g, g1, g2, g3, g4⟩ := (h.out f.src.toNat).2 ⟨f, hf, hp, hk, rfl⟩
  rw [← g4]
  exact hc.2 g g1 g2 g3
theorem run_at {a b : List Flow} {nv : Nat} {m n : Int} : ∀ (c : Nat) (p q : Int) (now : List Int), now.length = nv → (∀ i : Nat, i < c → SameAt a b (p + i) (q + i) nv m n) → runM a c p now = runM b c q now
  | 0, _, _, _, _, _ => rfl
  | c + 1, p, q, now, hl, h => by
    have h0 := h 0 (by omega)
    rw [show p + ((0 : Nat) : Int) = p by simp, show q + ((0 : Nat) : Int) = q by simp] at h0
    have hr := run_at (a := a) (b := b) (nv := nv) (m := m) (n := n) c (p + 1) (q + 1) (afterM a p now) (by rw [afterM_len]; exact hl) fun i hi => by
      have := h (i + 1) (by omega)
      rw [show p + ((i + 1 : Nat) : Int) = p + 1 + i by omega, show q + ((i + 1 : Nat) : Int) = q + 1 + i by omega] at this
      exact this
    by_cases hc : canP a p now
    · rw [runM_some hc, runM_some (h0.can hl hc), hr, h0.after hl]
    · rw [runM_none hc, runM_none (fun hb => hc (h0.symm.can hl hb))]
theorem runM_step' {fl : List Flow} {n : Nat} {p : Int} {now : List Int} {t : List (List Int)} (h : runM fl (n + 1) p now = some t) : canP fl p now ∧ ∃ t', t = afterM fl p now :: t' ∧ runM fl n (p + 1) (afterM fl p now) = some t' := by
  by_cases hc : canP fl p now
  · rw [runM_some hc] at h
    obtain ⟨t', h1, h2⟩ := Option.map_eq_some_iff.1 h
    exact ⟨hc, t', h2.symm, h1⟩
  · rw [runM_none hc] at h; cases h
/-- The run in two parts. -/
theorem run_split {fl : List Flow} : ∀ (n m : Nat) (p : Int) (now : List Int) (t : List (List Int)), runM fl (n + m) p now = some t →
    runM fl n p now = some (t.take n) ∧ ∃ b, (if n = 0 then some now else t[n - 1]?) = some b ∧ runM fl m (p + n) b = some (t.drop n)
  | 0, m, p, now, t, h => ⟨rfl, now, rfl, by simpa using h⟩
  | n + 1, m, p, now, t, h => by
    rw [show n + 1 + m = (n + m) + 1 by omega] at h
    obtain ⟨hc, t', rfl, h1⟩ := runM_step' h
    obtain ⟨r1, b, r2, r3⟩ := run_split n m (p + 1) _ t' h1
    refine ⟨by rw [runM_some hc, r1]; rfl, b, ?_, by rw [show p + ((n + 1 : Nat) : Int) = p + 1 + n by omega]; exact r3⟩
    rw [if_neg (by omega)]
    cases n with
    | zero => simpa using r2
    | succ n => simpa using r2
theorem dlt_zero {p v : Int} {f : Flow} (h : ¬ f.per = p) : dlt p v f = 0 := by
  unfold dlt perV perI
  rw [if_neg (fun hh => h hh.1), if_neg (fun hh => h hh.1)]
theorem sum_filter {p v : Int} (c : Flow → Bool) : ∀ (l : List Flow), (∀ f ∈ l, f.per = p → c f = true) → ((l.filter c).map (dlt p v)).sum = (l.map (dlt p v)).sum
  | [], _ => rfl
  | f :: l, h => by
    have ih := sum_filter (v := v) c l fun g hg => h g (.tail _ hg)
    by_cases hc : c f = true
    · rw [List.filter_cons_of_pos hc]; simp only [List.map_cons, List.sum_cons, ih]
    · rw [List.filter_cons_of_neg hc, ih, List.map_cons, List.sum_cons, dlt_zero (fun hp => hc (h f (.head _) hp))]; omega
theorem ex_filter {p : Int} {q : Flow → Prop} {l : List Flow} (c : Flow → Bool) (h : ∀ f ∈ l, f.per = p → c f = true) : (∃ f ∈ l, f.per = p ∧ q f) ↔ ∃ f ∈ l.filter c, f.per = p ∧ q f :=
  ⟨fun ⟨f, hf, hp, hq⟩ => ⟨f, List.mem_filter.2 ⟨hf, h f hf hp⟩, hp, hq⟩, fun ⟨f, hf, hp, hq⟩ => ⟨f, (List.mem_filter.1 hf).1, hp, hq⟩⟩
def Flow.back (n : Int) (f : Flow) : Flow := ⟨f.kind, f.per - n, f.src, f.dst, f.amt, f.label⟩
theorem dlt_back (p v n : Int) (f : Flow) : dlt p v (f.back n) = dlt (p + n) v f := by
  have h : (f.back n).per = p ↔ f.per = p + n := by show f.per - n = p ↔ f.per = p + n; omega
  unfold dlt perV perI
  simp only [h]
  rfl
theorem ex_back {p n : Int} {q : Flow → Prop} (hq : ∀ f, q f ↔ q (f.back n)) {l : List Flow} : (∃ f ∈ l, f.per = p + n ∧ q f) ↔ ∃ f ∈ l.map (Flow.back n), f.per = p ∧ q f := by
  constructor
  · rintro ⟨f, hf, hp, h⟩
    exact ⟨f.back n, List.mem_map.2 ⟨f, hf, rfl⟩, by show f.per - n = p; omega, (hq f).1 h⟩
  · rintro ⟨g, hg, hp, h⟩
    obtain ⟨f, hf, rfl⟩ := List.mem_map.1 hg
    exact ⟨f, hf, by have : f.per - n = p := hp; omega, (hq f).2 h⟩
def early (n : Int) (f : Flow) : Bool := decide (f.per < n)
def firstF (n : Int) (l : List Flow) : List Flow := l.filter (early n)
def restF (n : Int) (l : List Flow) : List Flow := (l.filter fun f => !early n f).map (Flow.back n)
theorem first_ok {h : Hist} (hok : h.ok) {n : Int} (hn : 0 ≤ n ∧ n ≤ h.per) : (⟨h.op, n, firstF n h.fl⟩ : Hist).ok := by
  have hnp := hok.np
  refine ⟨hok.nv, by simp only; omega, ?_, hok.op, fun f hf => ?_, hok.lab.filter _⟩
  · have h1 := List.length_filter_le (early n) h.fl
    have h2 := hok.nf
    simp only [firstF]; omega
  · obtain ⟨h1, h2⟩ := List.mem_filter.1 hf
    have h3 := hok.fl f h1
    have h4 : f.per < n := of_decide_eq_true h2
    unfold Flow.ok at h3 ⊢
    simp only
    omega
theorem rest_ok {h : Hist} (hok : h.ok) {n : Int} (hn : 0 ≤ n ∧ n ≤ h.per) {b : List Int} (hb : b.length = h.op.length) (hr : ∀ x ∈ b, 0 ≤ x ∧ x ≤ 1048576) : (⟨b, h.per - n, restF n h.fl⟩ : Hist).ok := by
  have hnp := hok.np
  refine ⟨by have := hok.nv; simp only; omega, by simp only; omega, ?_, hr, fun f hf => ?_, ?_⟩
  · have h1 := List.length_filter_le (fun f => !early n f) h.fl
    have h2 := hok.nf
    simp only [restF, List.length_map]; omega
  · obtain ⟨g, hg, rfl⟩ := List.mem_map.1 hf
    obtain ⟨h1, h2⟩ := List.mem_filter.1 hg
    have h3 := hok.fl g h1
    have h4 : ¬ g.per < n := by simpa [early] using h2
    unfold Flow.ok at h3 ⊢
    simp only [Flow.back, hb]
    omega
  · show (restF n h.fl).Pairwise _
    unfold restF
    rw [List.pairwise_map]
    exact (hok.lab.filter _).imp fun hn ht => hn ht
theorem first_at {h : Hist} (hok : h.ok) {n : Int} (hn : 0 ≤ n ∧ n ≤ h.per) {p : Int} (hp : p < n) : SameAt h.fl (firstF n h.fl) p p h.op.length h.per n := by
  have hc : ∀ f ∈ h.fl, f.per = p → early n f = true := fun f _ hf => decide_eq_true (by omega)
  exact ⟨hok.fl, (first_ok hok hn).fl, fun v => (sum_filter _ _ hc).symm, fun v => ex_filter _ hc, fun u v => ex_filter _ hc, fun u => ex_filter _ hc⟩
theorem rest_at {h : Hist} (hok : h.ok) {n : Int} (hn : 0 ≤ n ∧ n ≤ h.per) {b : List Int} (hb : b.length = h.op.length) (hr : ∀ x ∈ b, 0 ≤ x ∧ x ≤ 1048576) {p : Int} (hp : 0 ≤ p) : SameAt h.fl (restF n h.fl) (n + p) p h.op.length h.per (h.per - n) := by
  have hc : ∀ f ∈ h.fl, f.per = n + p → (!early n f) = true := fun f _ hf => by simp [early]; omega
  have hbk := (rest_ok hok hn hb hr).fl
  simp only [hb] at hbk
  refine ⟨hok.fl, hbk, fun v => ?_, fun v => ?_, fun u v => ?_, fun u => ?_⟩
  · unfold restF
    rw [List.map_map, ← sum_filter _ _ hc]
    congr 1
    refine List.map_congr_left fun f _ => ?_
    show dlt (n + p) v f = dlt p v (f.back n)
    rw [dlt_back, Int.add_comm]
  all_goals
    refine (ex_filter _ hc).trans ?_
    rw [Int.add_comm n p]
    exact ex_back fun f => Iff.rfl
/-- The first periods, and the rest. -/
theorem parts {h : Hist} (hok : h.ok) {t : List (List Int)} (ho : amtsO h = some t) {n : Nat} (hn : (n : Int) ≤ h.per) : amtsO ⟨h.op, n, firstF n h.fl⟩ = some (t.take n) ∧
    ∃ b, (if n = 0 then some h.op else t[n - 1]?) = some b ∧ b.length = h.op.length ∧ ((∀ x ∈ b, 0 ≤ x ∧ x ≤ 1048576) → amtsO ⟨b, h.per - n, restF n h.fl⟩ = some (t.drop n)) := by
  have ho : runM h.fl h.per.toNat 0 h.op = some t := ho
  have hnp := hok.np
  rw [show h.per.toNat = n + (h.per - n).toNat by omega] at ho
  obtain ⟨r1, b, r2, r3⟩ := run_split n _ 0 h.op t ho
  obtain ⟨_, hrr⟩ := runM_rows ho
  have hb : b.length = h.op.length := by
    by_cases h0 : n = 0
    · rw [if_pos h0] at r2; cases r2; rfl
    · rw [if_neg h0] at r2; exact hrr b (List.mem_of_getElem? r2)
  refine ⟨?_, b, r2, hb, fun hr => ?_⟩
  · show runM (firstF n h.fl) ((n : Int)).toNat 0 h.op = some (t.take n)
    rw [Int.toNat_natCast, ← r1]
    exact (run_at (nv := h.op.length) (m := h.per) (n := n) n 0 0 h.op rfl fun i hi => first_at hok (by omega) (by omega)).symm
  · show runM (restF n h.fl) (h.per - n).toNat 0 b = some (t.drop n)
    rw [← r3]
    refine (run_at (nv := h.op.length) (m := h.per) (n := h.per - n) _ _ 0 b hb fun i hi => ?_).symm
    have := rest_at hok (n := n) (by omega) hb hr (p := 0 + i) (by omega)
    rwa [show (n : Int) + (0 + (i : Int)) = 0 + n + i by omega] at this
end Go.PM

