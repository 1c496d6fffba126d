/- Package floor: Amounts. -/
import Derived.Test.YtgpgfcehcenejaaW34f
namespace Go.PM
open Go.Proofs
set_option maxRecDepth 10000
set_option maxHeartbeats 8000000

theorem Rch.mono {fl : List Flow} {p : Int} {a b : Nat → Prop} (h : ∀ v, a v → b v) {v : Nat} (hr : Rch fl p a v) : Rch fl p b v := by
  induction hr with
  | start v hv => exact .start v (h v hv)
  | into f hf hp hk => exact .into f hf hp hk
  | move f hf hp hk _ ih => exact .move f hf hp hk ih
def padB (l : List Bool) : List Bool := l ++ List.replicate (16 - l.length) false
theorem padB_getD (l : List Bool) (v : Nat) : (padB l).getD v false = l.getD v false := by
  unfold padB
  simp only [List.getD_eq_getElem?_getD, List.getElem?_append]
  split
  · rfl
  · rw [List.getElem?_eq_none (l := l) (by omega), List.getElem?_replicate]
    split <;> rfl
theorem padN_getD (l : List Int) (v : Nat) : (padN l).getD v 0 = l.getD v 0 := by
  unfold padN
  simp only [List.getD_eq_getElem?_getD, List.getElem?_append]
  split
  · rfl
  · rw [List.getElem?_eq_none (l := l) (by omega), List.getElem?_replicate]
    split <;> rfl
theorem possible_pad (h : Hist) (p : Int) (now : List Int) (hok : h.ok) (hl : now.length = h.op.length) :
    CallP Try.prog 23 [.d h.d, .d (I p), .d (.agg ((padN now).map I)), .d (.agg ((padN (afterM h.fl p now)).map I))] (retD [.b (decide (canP h.fl p now))]) := by
  have hnv := hok.nv
  have hfl : ∀ f ∈ h.fl, f.ok now.length h.per := by rw [hl]; exact hok.fl
  have hM : (padB (fedL h.fl p now)).length = 16 := by unfold padB; simp [fedL_len]; omega
  have h1 := floor_possible h p (padN now) (padN (afterM h.fl p now)) (padB (fedL h.fl p now)) hok (padN_len (by omega)) (padN_len (by rw [afterM_len]; omega)) hM (fun v _ => by
    rw [padB_getD, fedL_iff hfl]
    constructor
    · refine Rch.mono fun v hv => ⟨?_, by rw [padN_getD]; exact hv⟩
      unfold posL at hv
      rw [← hl]
      by_cases hlt : v < now.length
      · exact hlt
      · rw [List.getD_eq_getElem?_getD, List.getElem?_eq_none (by omega)] at hv
        simp at hv
    · exact Rch.mono fun v hv => by have := hv.2; rw [padN_getD] at this; exact this)
  have e : possP h.fl p (padN (afterM h.fl p now)) (padB (fedL h.fl p now)) ↔ canP h.fl p now := by
    unfold canP possP
    simp only [padB_getD]
    refine and_congr_left fun _ => ⟨fun a n hn => a n (List.mem_append_left _ hn), fun a n hn => ?_⟩
    rcases List.mem_append.1 hn with hn | hn
    · exact a n hn
    · rw [List.eq_of_mem_replicate hn]; exact Int.le_refl _
  rw [decide_eq_decide.2 e] at h1
  exact h1
theorem runM_none {fl : List Flow} {n : Nat} {p : Int} {now : List Int} (h : ¬ canP fl p now) : runM fl (n + 1) p now = none := by rw [runM, if_neg h]
theorem runM_some {fl : List Flow} {n : Nat} {p : Int} {now : List Int} (h : canP fl p now) : runM fl (n + 1) p now = (runM fl n (p + 1) (afterM fl p now)).map (afterM fl p now :: ·) := by rw [runM, if_pos h]

theorem flat_I (l : List Int) : (l.map I).flatMap D.cells = l.map I := by
  induction l with
  | nil => rfl
  | cons x l ih => rw [List.map_cons, List.flatMap_cons, ih]; rfl
theorem copy_pad {l : List Int} (h : l.length ≤ 16) : List.take 0 (List.replicate 16 (I 0)) ++ (l.map I).flatMap D.cells ++ List.drop (0 + (l.map I).length) (List.replicate 16 (I 0)) = (padN l).map I := by
  rw [flat_I, List.take_zero, List.nil_append, Nat.zero_add, List.length_map, List.drop_replicate, padN, List.map_append, List.map_replicate]

theorem stepA_le {p : Int} {l : List Int} {f : Flow} {B : Int} (h0 : 0 ≤ B) (hl : ∀ n ∈ l, n ≤ B) (hf : 0 ≤ f.amt ∧ f.amt ≤ 1048576) : ∀ n ∈ stepA p l f, n ≤ B + 1048576 := by
  have hg : ∀ i, l.getD i 0 ≤ B := fun i => by
    rw [List.getD_eq_getElem?_getD]
    cases hh : l[i]? with
    | none => exact h0
    | some n => exact hl n (List.mem_of_getElem? hh)
  have hg2 : ∀ i j x, x ≤ B + f.amt → (l.set j x).getD i 0 ≤ B + f.amt := fun i j x hx => by
    rw [List.getD_eq_getElem?_getD]
    cases hh : (l.set j x)[i]? with
    | none => simp only [Option.getD_none]; omega
    | some n =>
      rcases List.mem_or_eq_of_mem_set (List.mem_of_getElem? hh) with h | h
      · have := hl n h; simp only [Option.getD_some]; omega
      · simp only [Option.getD_some]; omega
  intro n hn
  unfold stepA at hn
  split at hn
  · split at hn
    · unfold addAt at hn
      rcases List.mem_or_eq_of_mem_set hn with h | h
      · have := hl n h; omega
      · have := hg f.dst.toNat; omega
    · split at hn
      · unfold subAt addAt at hn
        rcases List.mem_or_eq_of_mem_set hn with h | h
        · rcases List.mem_or_eq_of_mem_set h with h | h
          · have := hl n h; omega
          · have := hg f.dst.toNat; omega
        · have := hg2 f.src.toNat f.dst.toNat (l.getD f.dst.toNat 0 + f.amt) (by have := hg f.dst.toNat; omega)
          omega
      · unfold subAt at hn
        rcases List.mem_or_eq_of_mem_set hn with h | h
        · have := hl n h; omega
        · have := hg f.src.toNat; omega
  · have := hl n hn; omega
theorem afterM_le {p : Int} : ∀ (fl : List Flow) {l : List Int} {B : Int}, 0 ≤ B → (∀ n ∈ l, n ≤ B) → (∀ f ∈ fl, 0 ≤ f.amt ∧ f.amt ≤ 1048576) → ∀ n ∈ afterM fl p l, n ≤ B + 1048576 * fl.length
  | [], l, B, _, hl, _, n, hn => by have := hl n hn; simp; omega
  | f :: fl, l, B, h0, hl, hf, n, hn => by
    have := afterM_le fl (l := stepA p l f) (B := B + 1048576) (by omega) (stepA_le h0 hl (hf f (.head _))) (fun g hg => hf g (.tail _ hg)) n hn
    simp only [List.length_cons]; omega
structure XA where
  i : Nat
  v : Nat
  n : Nat
  dr : List D
  now : List Int
/-- Rows of slices that tell the rows of a table. -/
structure RowsLe (dr : List D) (acc : List (List Int)) : Prop where
  len : dr.length = acc.length
  le : ∀ (j : Nat) (x : D) (r : List Int), dr[j]? = some x → acc[j]? = some r → x.cells = [x] ∧ DLe x (rowD r)
theorem RowsLe.nil : RowsLe [] [] := ⟨rfl, by simp⟩
theorem RowsLe.snoc {dr : List D} {acc : List (List Int)} (h : RowsLe dr acc) {x : D} {r : List Int} (hx : x.cells = [x]) (hl : DLe x (rowD r)) : RowsLe (dr ++ [x]) (acc ++ [r]) := by
  refine ⟨by simp [h.len], fun j y q hy hq => ?_⟩
  have := h.len
  by_cases hj : j < dr.length
  · rw [List.getElem?_append_left hj] at hy
    rw [List.getElem?_append_left (by omega)] at hq
    exact h.le j y q hy hq
  · rw [List.getElem?_append_right (by omega)] at hy hq
    rw [← this] at hq
    cases hk : j - dr.length with
    | zero => rw [hk] at hy hq; simp at hy hq; subst hy; subst hq; exact ⟨hx, hl⟩
    | succ k => rw [hk] at hy; simp at hy
theorem RowsLe.tab {dr : List D} {acc : List (List Int)} (h : RowsLe dr acc) (full : Bool) : DLe (.sl 1 full dr) (tabD acc) := by
  refine DLe.trans (DLe.full 1 full dr) (DLe.sl ⟨by simp [h.len], fun j x y hx hy => ?_⟩)
  simp only [List.getElem?_map, Option.map_eq_some_iff] at hy
  obtain ⟨r, hr, rfl⟩ := hy
  obtain ⟨h1, h2⟩ := h.le j x r hx hr
  rw [h1]
  exact ⟨h2, rfl⟩
structure InvA (h : Hist) (x : XA) : Prop where
  i : (x.i : Int) ≤ h.per
  len : x.now.length = h.op.length
  lo : ∀ n ∈ x.now, 0 ≤ n ∧ n ≤ 1048576 * (1 + 64 * x.i)
  row : ∃ acc : List (List Int), RowsLe x.dr acc ∧ x.n = x.dr.length ∧ x.n = x.i ∧ (runM h.fl (h.per.toNat - x.i) x.i x.now).map (acc ++ ·) = amtsO h
theorem floor_Amounts (h : Hist) (hw : WidH h) : CallP Try.prog 11 [.d h.d] (retD [tabD (amtsT h), I (amtsE h)]) := by
  have hwo := hw.o
  have hwf := hw.f
  have hF := floor_formed h hw
  by_cases hok : h.ok
  · rw [decide_eq_true hok] at hF
    have hnf := hok.nf
    have hnv := hok.nv
    have hnp := hok.np
    refine exPure_sound (E := envOf Try.prog tt Try.f11.ntmps) (envOf_ok ttok mixed) Try.func11 (by rfl) rfl rfl (Nat.le_of_ble_eq_true rfl) ?_
    have hcopy := copy_pad hnv
    obtain ⟨a0, a1, a2, a3, a4, a5, a6, a7, a8, a9, a10, a11, a12, a13, a14, a15, hPe⟩ := sixteen (padN_len hnv)
    rw [hPe] at hcopy
    repeat' ((conv => whnf); first | with_reducible refine Dec.t (show true = true from rfl) ?_ | with_reducible refine Dec.t (show false = false from rfl) ?_ | with_reducible refine Dec.f (show ¬ (true = false) by decide) ?_ | with_reducible refine Dec.f (show ¬ (false = true) by decide) ?_ | refine Dec.t (by omega) ?_ | refine Dec.f (by omega) ?_ | refine Dec.split (fun _ => ?_) (fun _ => ?_) | refine Wr.id (by omega) ?_ | refine Chk.mk (by first | omega | exact rfl | (simp only [List.length_map]; omega) | (simp [room]; done) | (simp [room]; omega) | (simp [dropL, room]; done) | (simp [dropL, room]; omega)) ?_ | refine Nam.mk (List.length_map _) ?_ | refine Prep.skip ?_ | refine Eith.l ?_ | refine chk_t (x := D.flat _) (by assumption) ?_ | refine br_mk (fun _ => ?_) (fun _ => ?_) | refine ACall.of (hF) ?_ | refine APCall.of (hF) ?_ | refine Nam.mk hcopy ?_ | fail)
    all_goals (conv => whnf)
    refine ALoop.virt 2 0 1 true (by decide) rfl ?_
    conv => whnf
    rw [← hPe]
    refine ALoop.at (E := envOf Try.prog tt Try.f11.ntmps) (envOf_ok ttok mixed) (X := XA) (fun x => [(16, .d (I x.i)), (2, .sref 2 x.v 0 x.n false)]) (fun x => [(1, .vard ((padN x.now).map I)), (2, .row x.v 1 true x.dr)]) (InvA h) (fun x => h.per.toNat - x.i) ⟨0, 0, 0, [], h.op⟩ (by repeat (first | exact trivial | refine And.intro rfl ?_ | refine And.intro (congrArg (fun n => V.d (I n)) (wrap_nat _ (by omega))) ?_)) rfl
      ⟨by simp; omega, rfl, fun n hn => by have := hok.op n hn; simp only; omega, [], .nil, rfl, rfl, by simp [amtsO]⟩ ?_
    clear hcopy hPe a0 a1 a2 a3 a4 a5 a6 a7 a8 a9 a10 a11 a12 a13 a14 a15
    rintro ⟨i, v, n, dr, now⟩ ⟨hi, hlen, hlo, acc, hr, e2, e3, hm⟩
    simp only at hi hlen hlo hr e2 e3 hm
    subst e2
    dsimp only
    have hfl : ∀ f ∈ h.fl, f.ok now.length h.per := by rw [hlen]; exact hok.fl
    by_cases hlt : (i : Int) < h.per
    · have hsub : h.per.toNat - i = (h.per.toNat - (i + 1)) + 1 := by omega
      rw [hsub] at hm
      have hbn : Bnd 1099511627776 (padN now) := ⟨padN_len (by omega), fun n hn => by
        rcases List.mem_append.1 hn with hn | hn
        · have := hlo n hn; omega
        · rw [List.eq_of_mem_replicate hn]; omega⟩
      have hA := floor_after h i (padN now) hok hbn
      rw [afterM_pad hfl] at hA
      have hPo := possible_pad h i now hok hlen
      have hle : (padN (afterM h.fl i now)).length = 16 := padN_len (by rw [afterM_len]; omega)
      obtain ⟨b0, b1, b2, b3, b4, b5, b6, b7, b8, b9, b10, b11, b12, b13, b14, b15, hNe⟩ := sixteen hbn.len
      obtain ⟨c0, c1, c2, c3, c4, c5, c6, c7, c8, c9, c10, c11, c12, c13, c14, c15, hEe⟩ := sixteen hle
      have hal : (afterM h.fl i now).length = h.op.length := by rw [afterM_len]; exact hlen
      have hnew : canP h.fl i now → ∀ n ∈ afterM h.fl i now, 0 ≤ n ∧ n ≤ 1048576 * (1 + 64 * ((i + 1 : Nat) : Int)) := fun hc n hn => by
        have h1 := hc.1 n hn
        have h2 := afterM_le h.fl (p := i) (l := now) (B := 1048576 * (1 + 64 * (i : Int))) (by omega) (fun n hn => (hlo n hn).2) (fun f hf => by have := hok.fl f hf; unfold Flow.ok at this; omega) n hn
        omega
      have hTake : List.take (h.op.length : Int).toNat (List.drop 0 ([c0, c1, c2, c3, c4, c5, c6, c7, c8, c9, c10, c11, c12, c13, c14, c15].map I)) = (afterM h.fl i now).map I := by
        rw [← hEe, List.drop_zero, padN, List.map_append, Int.toNat_natCast, ← hal, ← List.length_map (f := I), List.take_left]
      have hTake2 : List.take ([c0, c1, c2, c3, c4, c5, c6, c7, c8, c9, c10, c11, c12, c13, c14, c15].map I).length (List.drop 0 ([c0, c1, c2, c3, c4, c5, c6, c7, c8, c9, c10, c11, c12, c13, c14, c15].map I)) = [c0, c1, c2, c3, c4, c5, c6, c7, c8, c9, c10, c11, c12, c13, c14, c15].map I := rfl
      rw [hNe, hEe] at hA hPo
      rw [hNe]
      repeat' ((conv => whnf); first | with_reducible refine Dec.t (show true = true from rfl) ?_ | with_reducible refine Dec.t (show false = false from rfl) ?_ | with_reducible refine Dec.f (show ¬ (true = false) by decide) ?_ | with_reducible refine Dec.f (show ¬ (false = true) by decide) ?_ | refine Dec.t (by omega) ?_ | refine Dec.f (by omega) ?_ | refine Dec.split (fun _ => ?_) (fun _ => ?_) | refine Wr.id (by omega) ?_ | refine Chk.mk (by first | omega | exact rfl | (simp only [List.length_map]; omega) | (simp [room]; done) | (simp [room]; omega) | (simp [dropL, room]; done) | (simp [dropL, room]; omega)) ?_ | refine Nam.mk (List.length_map _) ?_ | refine Prep.skip ?_ | refine Eith.l ?_ | refine chk_t (x := D.flat _) (by assumption) ?_ | refine br_mk (fun _ => ?_) (fun _ => ?_) | refine ACall.of (hA) ?_ | refine APCall.of (hA) ?_ | refine ACall.ofB (hPo) (fun _ => ?_) (fun _ => ?_) | refine APCall.ofB (hPo) (fun _ => ?_) (fun _ => ?_) | refine ACall.body (E := envOf Try.prog tt Try.f24.ntmps) (envOf_ok ttok mixed) Try.func24 (by rfl) rfl (Nat.le_of_ble_eq_true rfl) ?_ | refine NilQ.both (fun hz => ?_) ?_ | refine Nam.mk hTake ?_ | refine Nam.mk (y := (afterM h.fl i now).map I) (by rw [List.drop_zero]; exact List.take_of_length_le (by simp)) ?_ | fail)
      all_goals (conv => whnf)
      · have hc : canP h.fl i now := of_decide_eq_true (by assumption)
        have he : afterM h.fl i now = [] := List.eq_nil_of_length_eq_zero (by omega)
        rw [runM_some hc, Option.map_map] at hm
        refine ⟨⟨i + 1, v + 1, dr.length + 1, dr ++ [D.sl 0 true []], afterM h.fl i now⟩, Wm.end (by repeat (first | exact trivial | refine And.intro rfl ?_ | refine And.intro (congrArg (fun n => V.d (I n)) (wrap_nat _ (by omega))) ?_)) (congrArg (fun l : List Int => [Blk.vard h.d.cells, Blk.vard (l.map I), Blk.row (v + 1) 1 true (dr ++ [D.sl 0 true []])]) hEe.symm) rfl rfl, ⟨?_, ?_, ?_, acc ++ [afterM h.fl i now], ?_, ?_, ?_, ?_⟩, ?_⟩
        · simp only; omega
        · simp only; rw [afterM_len]; exact hlen
        · exact hnew hc
        · exact hr.snoc rfl (by rw [he]; exact DLe.nil 0 1 true)
        · simp
        · simp only; omega
        · have hcast : ((i + 1 : Nat) : Int) = (i : Int) + 1 := rfl
          simp only [hcast]
          rw [← hm]
          congr 1
          funext t; simp
        · simp only; omega
      · have hc : canP h.fl i now := of_decide_eq_true (by assumption)
        rw [runM_some hc, Option.map_map] at hm
        refine ⟨⟨i + 1, v + 1, dr.length + 1, dr ++ [rowD (afterM h.fl i now)], afterM h.fl i now⟩, Wm.end (by repeat (first | exact trivial | refine And.intro rfl ?_ | refine And.intro (congrArg (fun n => V.d (I n)) (wrap_nat _ (by omega))) ?_)) (congrArg (fun l : List Int => [Blk.vard h.d.cells, Blk.vard (l.map I), Blk.row (v + 1) 1 true (dr ++ [rowD (afterM h.fl i now)])]) hEe.symm) rfl rfl, ⟨?_, ?_, ?_, acc ++ [afterM h.fl i now], ?_, ?_, ?_, ?_⟩, ?_⟩
        · simp only; omega
        · simp only; rw [afterM_len]; exact hlen
        · exact hnew hc
        · exact hr.snoc rfl (DLe.refl _)
        · simp
        · simp only; omega
        · have hcast : ((i + 1 : Nat) : Int) = (i : Int) + 1 := rfl
          simp only [hcast]
          rw [← hm]
          congr 1
          funext t; simp
        · simp only; omega
      · have hc : ¬ canP h.fl i now := of_decide_eq_false (by assumption)
        rw [runM_none hc] at hm
        have hm : amtsO h = none := hm.symm
        have e1 : amtsT h = [] := by unfold amtsT; rw [if_pos hok, hm]; rfl
        have e2 : amtsE h = 341 := by unfold amtsE; rw [if_pos hok, hm]; rfl
        rw [e1, e2]
        exact ⟨DLe.nil 0 1 true, DLe.refl _, rfl⟩
    · have : i = h.per.toNat := by omega
      subst this
      rw [Nat.sub_self] at hm
      have hm : amtsO h = some acc := by rw [← hm]; simp [runM]
      have q1 : amtsT h = acc := by unfold amtsT; rw [if_pos hok, hm]; rfl
      have q2 : amtsE h = 0 := by unfold amtsE; rw [if_pos hok, hm]; rfl
      repeat' ((conv => whnf); first | with_reducible refine Dec.t (show true = true from rfl) ?_ | with_reducible refine Dec.t (show false = false from rfl) ?_ | with_reducible refine Dec.f (show ¬ (true = false) by decide) ?_ | with_reducible refine Dec.f (show ¬ (false = true) by decide) ?_ | refine Dec.t (by omega) ?_ | refine Dec.f (by omega) ?_ | refine Dec.split (fun _ => ?_) (fun _ => ?_) | refine Wr.id (by omega) ?_ | refine Chk.mk (by first | omega | exact rfl | (simp only [List.length_map]; omega) | (simp [room]; done) | (simp [room]; omega) | (simp [dropL, room]; done) | (simp [dropL, room]; omega)) ?_ | refine Nam.mk (List.length_map _) ?_ | refine Prep.skip ?_ | refine Eith.l ?_ | refine chk_t (x := D.flat _) (by assumption) ?_ | refine br_mk (fun _ => ?_) (fun _ => ?_) | refine Nam.mk (y := dr) (by rw [List.drop_zero]; exact List.take_of_length_le (by simp)) ?_ | fail)
      all_goals (conv => whnf)
      rw [q1, q2]
      exact ⟨hr.tab _, DLe.refl _, rfl⟩
  · rw [decide_eq_false hok] at hF
    have e1 : amtsT h = [] := by unfold amtsT; rw [if_neg hok]
    have e2 : amtsE h = 340 := by unfold amtsE; rw [if_neg hok]
    rw [e1, e2]
    refine exPure_sound (E := envOf Try.prog tt Try.f11.ntmps) (envOf_ok ttok mixed) Try.func11 (by rfl) rfl rfl (Nat.le_of_ble_eq_true rfl) ?_
    repeat' ((conv => whnf); first | with_reducible refine Dec.t (show true = true from rfl) ?_ | with_reducible refine Dec.t (show false = false from rfl) ?_ | with_reducible refine Dec.f (show ¬ (true = false) by decide) ?_ | with_reducible refine Dec.f (show ¬ (false = true) by decide) ?_ | refine Dec.t (by omega) ?_ | refine Dec.f (by omega) ?_ | refine Dec.split (fun _ => ?_) (fun _ => ?_) | refine Wr.id (by omega) ?_ | refine Chk.mk (by first | omega | exact rfl | (simp only [List.length_map]; omega) | (simp [room]; done) | (simp [room]; omega) | (simp [dropL, room]; done) | (simp [dropL, room]; omega)) ?_ | refine Nam.mk (List.length_map _) ?_ | refine Prep.skip ?_ | refine Eith.l ?_ | refine chk_t (x := D.flat _) (by assumption) ?_ | refine br_mk (fun _ => ?_) (fun _ => ?_) | refine ACall.of (hF) ?_ | refine APCall.of (hF) ?_ | fail)
    all_goals (conv => whnf)
    exact ⟨DLe.nil 0 1 true, DLe.refl _, rfl⟩
end Go.PM

