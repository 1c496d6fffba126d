/- Package floor: what is fed. -/
import Derived.Test.YtgpgfcehcenejaaW34c
namespace Go.PM
open Go.Proofs
set_option maxRecDepth 10000
set_option maxHeartbeats 8000000

/-- What is fed in a period: pos says which vessels have something before it. -/
inductive Rch (fl : List Flow) (p : Int) (pos : Nat → Prop) : Nat → Prop where
  | start (v : Nat) : pos v → Rch fl p pos v
  | into (f : Flow) : f ∈ fl → f.per = p → f.kind = 1 → Rch fl p pos f.dst.toNat
  | move (f : Flow) : f ∈ fl → f.per = p → f.kind = 2 → Rch fl p pos f.src.toNat → Rch fl p pos f.dst.toNat
def posN (h : Hist) (now : List Int) (v : Nat) : Prop := v < h.op.length ∧ 0 < now.getD v 0
def unm (m : List Bool) : Nat := (m.filter fun b => !b).length
theorem set_unm : ∀ (m : List Bool) (i : Nat), m[i]? = some false → unm (m.set i true) + 1 = unm m
  | [], i, h => by simp at h
  | b :: m, 0, h => by simp at h; subst h; simp [unm]
  | b :: m, i + 1, h => by
    have ih := set_unm m i (by simpa using h)
    cases b <;> simp [unm] at ih ⊢ <;> omega
theorem getD_set {m : List Bool} {i : Nat} (hi : i < m.length) (v : Nat) : (m.set i true).getD v false = if v = i then true else m.getD v false := by
  simp only [List.getD_eq_getElem?_getD, List.getElem?_set]
  by_cases h : i = v
  · subst h; simp [hi]
  · rw [if_neg h, if_neg (fun e => h e.symm)]
/-- The marks and all that was ever in the queue. -/
structure Qok (fl : List Flow) (p : Int) (pos : Nat → Prop) (m : List Bool) (dp : List Int) : Prop where
  len : m.length = 16
  cnt : dp.length + unm m = 16
  rng : ∀ v ∈ dp, 0 ≤ v ∧ v ≤ 15
  mem : ∀ v, v < 16 → (m.getD v false = true ↔ (v : Int) ∈ dp)
  snd : ∀ v, v < 16 → m.getD v false = true → Rch fl p pos v
theorem Qok.len_le {fl : List Flow} {p : Int} {pos : Nat → Prop} {m : List Bool} {dp : List Int} (h : Qok fl p pos m dp) : dp.length ≤ 16 := by have := h.cnt; omega
theorem Qok.push {fl : List Flow} {p : Int} {pos : Nat → Prop} {m : List Bool} {dp : List Int} (h : Qok fl p pos m dp) {v : Int} (hv : 0 ≤ v ∧ v ≤ 15) (hm : m[v.toNat]? = some false) (hr : Rch fl p pos v.toNat) : Qok fl p pos (m.set v.toNat true) (dp ++ [v]) := by
  have hl : v.toNat < m.length := by rw [h.len]; omega
  refine ⟨by rw [List.length_set]; exact h.len, ?_, ?_, fun u hu => ?_, fun u hu => ?_⟩
  · have := set_unm m v.toNat hm
    have := h.cnt
    simp; omega
  · intro u hu
    rcases List.mem_append.1 hu with hu | hu
    · exact h.rng u hu
    · rw [List.mem_singleton.1 hu]; exact hv
  · rw [getD_set hl, List.mem_append, List.mem_singleton]
    by_cases e : u = v.toNat
    · rw [if_pos e]; exact ⟨fun _ => .inr (by omega), fun _ => rfl⟩
    · rw [if_neg e, h.mem u hu]
      exact ⟨.inl, fun h => h.resolve_right (by omega)⟩
  · rw [getD_set hl]
    by_cases e : u = v.toNat
    · rw [if_pos e]; intro _; rw [e]; exact hr
    · rw [if_neg e]; exact h.snd u hu
structure XQ where
  i : Nat
  m : List Bool
  vr : Nat
  lo : Nat
  ln : Nat
  dr : List D
  pre : List Int
  q : List Int
/-- The queue as it lies in its row. -/
structure Lies (lo ln : Nat) (dr : List D) (q : List Int) : Prop where
  dr : dr.drop lo = q.map I
  ln : ln = q.length
theorem Lies.room {lo ln : Nat} {dr : List D} {q : List Int} (h : Lies lo ln dr q) (hl : lo ≤ dr.length) : lo + ln = dr.length := by
  have := congrArg List.length h.dr
  rw [List.length_drop, List.length_map] at this
  rw [h.ln]; omega
theorem Lies.push {lo ln : Nat} {dr : List D} {q : List Int} (h : Lies lo ln dr q) (v : Int) : Lies 0 (ln + 1) (dropL dr lo ++ [I v]) (q ++ [v]) := by
  refine ⟨?_, by rw [h.ln]; simp⟩
  have : dropL dr lo = q.map I := by
    rw [← h.dr]
    cases lo with
    | zero => simp [dropL]
    | succ lo => rfl
  rw [List.drop_zero, this, List.map_append]; rfl
theorem get_B {m : List Bool} {i : Int} {b : Bool} (h : m[i.toNat]? = some b) : (m.map B)[0 + i.toNat * 1]? = some (B b) := by rw [Nat.zero_add, Nat.mul_one, List.getElem?_map, h]; rfl
theorem set_B (m : List Bool) (i : Int) (b : Bool) : (m.map B).set (0 + i.toNat * 1) (B b) = (m.set i.toNat b).map B := by rw [Nat.zero_add, Nat.mul_one, List.map_set]
theorem lt_B {m : List Bool} {i : Int} {b : Bool} (h : m[i.toNat]? = some b) : 0 + i.toNat * 1 < (m.map B).length := by rw [Nat.zero_add, Nat.mul_one, List.length_map]; exact (List.getElem?_eq_some_iff.1 h).1
theorem at_B {m : List Bool} (hl : m.length = 16) {i : Int} (hi : 0 ≤ i ∧ i ≤ 15) : ∃ b, m[i.toNat]? = some b ∧ m.getD i.toNat false = b := by
  have h : i.toNat < m.length := by omega
  exact ⟨m[i.toNat], List.getElem?_eq_getElem h, by rw [List.getD_eq_getElem?_getD, List.getElem?_eq_getElem h]; rfl⟩
theorem at_I {l : List Int} (hl : l.length = 16) {i : Int} (hi : 0 ≤ i ∧ i ≤ 15) : ∃ n, l[i.toNat]? = some n ∧ l.getD i.toNat 0 = n := by
  have h : i.toNat < l.length := by omega
  exact ⟨l[i.toNat], List.getElem?_eq_getElem h, by rw [List.getD_eq_getElem?_getD, List.getElem?_eq_getElem h]; rfl⟩
theorem rep_f (n v : Nat) : (List.replicate n false).getD v false = false := by
  rw [List.getD_eq_getElem?_getD, List.getElem?_replicate]
  split <;> rfl
theorem q0 (fl : List Flow) (p : Int) (pos : Nat → Prop) : Qok fl p pos (List.replicate 16 false) ([] ++ []) :=
  ⟨rfl, rfl, by simp, fun v hv => by rw [rep_f]; simp, fun v hv h => by rw [rep_f] at h; cases h⟩
theorem keep_set {m : List Bool} (hm : m.length = 16) {i : Nat} (hi : i < 16) {v : Nat} (h : m.getD v false = true) : (m.set i true).getD v false = true := by
  rw [getD_set (by omega)]
  by_cases e : v = i
  · rw [if_pos e]
  · rw [if_neg e]; exact h
theorem new_set {m : List Bool} (hm : m.length = 16) {i : Nat} (hi : i < 16) : (m.set i true).getD i false = true := by
  rw [getD_set (by omega), if_pos rfl]
theorem sixteenB {l : List Bool} (h : l.length = 16) : ∃ a0 a1 a2 a3 a4 a5 a6 a7 a8 a9 a10 a11 a12 a13 a14 a15 : Bool, l = [a0, a1, a2, a3, a4, a5, a6, a7, a8, a9, a10, a11, a12, a13, a14, a15] := by
  match l, h with
  | [a0, a1, a2, a3, a4, a5, a6, a7, a8, a9, a10, a11, a12, a13, a14, a15], _ => exact ⟨a0, a1, a2, a3, a4, a5, a6, a7, a8, a9, a10, a11, a12, a13, a14, a15, rfl⟩
theorem bools_eq {a b : List Bool} (ha : a.length = 16) (hb : b.length = 16) (h : ∀ v, v < 16 → (a.getD v false = true ↔ b.getD v false = true)) : a = b := by
  refine List.ext_getElem (by omega) fun i h1 h2 => ?_
  have := h i (by omega)
  rw [List.getD_eq_getElem?_getD, List.getD_eq_getElem?_getD, List.getElem?_eq_getElem h1, List.getElem?_eq_getElem h2] at this
  simp only [Option.getD_some] at this
  exact Bool.eq_iff_iff.2 this
theorem Rch.marked {fl : List Flow} {p : Int} {pos : Nat → Prop} {m : List Bool} {dp : List Int} {nv : Nat} {np : Int} (hq : Qok fl p pos m dp) (hnv : nv ≤ 16) (hok : ∀ f ∈ fl, f.ok nv np)
    (h1 : ∀ j, pos j → m.getD j false = true) (h2 : ∀ f ∈ fl, f.per = p → f.kind = 1 → m.getD f.dst.toNat false = true) (h3 : ∀ f ∈ fl, f.per = p → f.kind = 2 → f.src ∈ dp → m.getD f.dst.toNat false = true) {v : Nat} (h : Rch fl p pos v) : m.getD v false = true := by
  induction h with
  | start v hv => exact h1 v hv
  | into f hf hp hk => exact h2 f hf hp hk
  | move f hf hp hk _ ih =>
    have hfo := hok f hf
    unfold Flow.ok at hfo
    refine h3 f hf hp hk ?_
    have := (hq.mem f.src.toNat (by omega)).1 ih
    rwa [Int.toNat_of_nonneg (by omega)] at this
theorem floor_fed (h : Hist) (p : Int) (now : List Int) (M : List Bool) (hok : h.ok) (hB : now.length = 16) (hM : M.length = 16) (hR : ∀ v, v < 16 → (M.getD v false = true ↔ Rch h.fl p (posN h now) v)) :
    CallP Try.prog 37 [.d h.d, .d (I p), .d (.agg (now.map I))] (retD [.agg (M.map B)]) := by
  have hnf := hok.nf
  have hnv := hok.nv
  refine exPure_sound (E := envOf Try.prog tt Try.f37.ntmps) (envOf_ok ttok mixed) Try.func37 (by rfl) rfl rfl (Nat.le_of_ble_eq_true rfl) ?_
  repeat' ((conv => whnf); first | with_reducible refine Dec.t (show true = true from rfl) ?_ | with_reducible refine Dec.t (show false = false from rfl) ?_ | with_reducible refine Dec.f (show ¬ (true = false) by decide) ?_ | with_reducible refine Dec.f (show ¬ (false = true) by decide) ?_ | refine Dec.t (by omega) ?_ | refine Dec.f (by omega) ?_ | refine Dec.split (fun _ => ?_) (fun _ => ?_) | refine Wr.id (by omega) ?_ | refine Chk.mk (by first | omega | exact rfl | (simp only [List.length_map]; omega) | (simp [room]; done) | (simp [room]; omega) | (simp [dropL, room]; done) | (simp [dropL, room]; omega)) ?_ | refine Nam.mk (List.length_map _) ?_ | refine Prep.skip ?_ | refine Eith.l ?_ | refine chk_t (x := D.flat _) (by assumption) ?_ | refine br_mk (fun _ => ?_) (fun _ => ?_) | fail)
  all_goals (conv => whnf)
  have hnf := hok.nf
  refine ALoop.virtC 3 0 0 1 false (by decide) rfl rfl ?_
  conv => whnf
  refine ALoop.at (E := envOf Try.prog tt Try.f37.ntmps) (envOf_ok ttok mixed) (X := XQ) (fun x => [(17, .d (I x.i))]) (fun x => [(2, .vard (x.m.map B)), (3, .var [.sref 5 x.vr x.lo x.ln false]), (5, .row x.vr 1 false x.dr)])
    (fun x => (x.i ≤ h.op.length ∧ x.lo ≤ x.dr.length) ∧ Lies x.lo x.ln x.dr x.q ∧ Qok h.fl p (posN h now) x.m (x.pre ++ x.q) ∧ x.pre = [] ∧ ∀ j, j < x.i → 0 < now.getD j 0 → x.m.getD j false = true) (fun x => h.op.length - x.i) ⟨0, List.replicate 16 false, 0, 0, 0, [], [], []⟩ (by repeat (first | exact trivial | refine And.intro rfl ?_ | refine And.intro (congrArg (fun n => V.d (I n)) (wrap_nat _ (by omega))) ?_)) rfl ⟨⟨Nat.zero_le _, Nat.le_refl _⟩, ⟨rfl, rfl⟩, q0 _ _ _, rfl, fun j hj => absurd hj (Nat.not_lt_zero _)⟩ ?_
  rintro ⟨i, m, vr, lo, ln, dr, pre, q⟩ ⟨⟨hi, hlo⟩, hL, hq, hpre, hst⟩
  simp only at hi hlo hL hq hpre hst
  dsimp only
  have hql := hq.len_le
  rw [List.length_append] at hql
  have hroom := hL.room hlo
  have hln := hL.ln
  by_cases hlt : i < h.op.length
  · obtain ⟨n, n1, n2⟩ := at_I hB (i := (i : Int)) (by omega)
    obtain ⟨b, b1, b2⟩ := at_B hq.len (i := (i : Int)) (by omega)
    have hin : (now.map I)[0 + (i : Int).toNat * 1]? = some (I n) := get_I n1
    rw [Int.toNat_natCast] at n2 b2
    by_cases hpos : 0 < n
    · have hr : Rch h.fl p (posN h now) (i : Int).toNat := .start _ ⟨by omega, by rw [Int.toNat_natCast, n2]; exact hpos⟩
      cases b with
      | true =>
        repeat' ((conv => whnf); first | with_reducible refine Dec.t (show true = true from rfl) ?_ | with_reducible refine Dec.t (show false = false from rfl) ?_ | with_reducible refine Dec.f (show ¬ (true = false) by decide) ?_ | with_reducible refine Dec.f (show ¬ (false = true) by decide) ?_ | refine Dec.t (by omega) ?_ | refine Dec.f (by omega) ?_ | refine Dec.split (fun _ => ?_) (fun _ => ?_) | refine Wr.id (by omega) ?_ | refine Chk.mk (by first | omega | exact rfl | (simp only [List.length_map]; omega) | (simp [room]; done) | (simp [room]; omega) | (simp [dropL, room]; done) | (simp [dropL, room]; omega)) ?_ | refine Nam.mk (List.length_map _) ?_ | refine Prep.skip ?_ | refine Eith.l ?_ | refine chk_t (x := D.flat _) (by assumption) ?_ | refine br_mk (fun _ => ?_) (fun _ => ?_) | refine nthK_mk hin ?_ | refine ACall.body (E := envOf Try.prog tt Try.f48.ntmps) (envOf_ok ttok mixed) Try.func48 (by rfl) rfl (Nat.le_of_ble_eq_true rfl) ?_ | refine nthK_mk (get_B b1) ?_ | fail)
        all_goals first | (exfalso; omega) | skip
        all_goals (conv => whnf)
        all_goals first
          | exact ⟨⟨i + 1, m, vr, lo, ln, dr, pre, q⟩, Wm.end (by repeat (first | exact trivial | refine And.intro rfl ?_ | refine And.intro (congrArg (fun n => V.d (I n)) (wrap_nat _ (by omega))) ?_)) rfl rfl rfl, ⟨⟨hlt, hlo⟩, hL, hq, hpre, fun j hj hp => by
              by_cases e : j = i
              · subst e; exact b2
              · exact hst j (by dsimp only at hj; omega) hp⟩, by dsimp only; omega⟩
      | false =>
        have hq' := hq.push (v := (i : Int)) (by omega) b1 hr
        rw [List.append_assoc] at hq'
        repeat' ((conv => whnf); first | with_reducible refine Dec.t (show true = true from rfl) ?_ | with_reducible refine Dec.t (show false = false from rfl) ?_ | with_reducible refine Dec.f (show ¬ (true = false) by decide) ?_ | with_reducible refine Dec.f (show ¬ (false = true) by decide) ?_ | refine Dec.t (by omega) ?_ | refine Dec.f (by omega) ?_ | refine Dec.split (fun _ => ?_) (fun _ => ?_) | refine Wr.id (by omega) ?_ | refine Chk.mk (by first | omega | exact rfl | (simp only [List.length_map]; omega) | (simp [room]; done) | (simp [room]; omega) | (simp [dropL, room]; done) | (simp [dropL, room]; omega)) ?_ | refine Nam.mk (List.length_map _) ?_ | refine Prep.skip ?_ | refine Eith.l ?_ | refine chk_t (x := D.flat _) (by assumption) ?_ | refine br_mk (fun _ => ?_) (fun _ => ?_) | refine nthK_mk hin ?_ | refine ACall.body (E := envOf Try.prog tt Try.f48.ntmps) (envOf_ok ttok mixed) Try.func48 (by rfl) rfl (Nat.le_of_ble_eq_true rfl) ?_ | refine nthK_mk (get_B b1) ?_ | refine setK_to (lt_B b1) (set_B m (i : Int) true) ?_ | refine Chk.mk ⟨rfl, by omega, by simp only [room, List.length_singleton]; omega⟩ ?_ | fail)
        all_goals first | (exfalso; omega) | skip
        all_goals (conv => whnf)
        all_goals first
          | exact ⟨⟨i + 1, m.set (i : Int).toNat true, vr + 1, 0, ln + 1, dropL dr lo ++ [I (i : Int)], pre, q ++ [(i : Int)]⟩, Wm.end (by repeat (first | exact trivial | refine And.intro rfl ?_ | refine And.intro (congrArg (fun n => V.d (I n)) (wrap_nat _ (by omega))) ?_)) rfl rfl rfl, ⟨⟨hlt, Nat.zero_le _⟩, hL.push _, hq', hpre, fun j hj hp => by
              dsimp only at hj ⊢
              rw [getD_set (by rw [hq.len]; omega)]
              by_cases e : j = (i : Int).toNat
              · rw [if_pos e]
              · rw [if_neg e]; exact hst j (by omega) hp⟩, by dsimp only; omega⟩
    · repeat' ((conv => whnf); first | with_reducible refine Dec.t (show true = true from rfl) ?_ | with_reducible refine Dec.t (show false = false from rfl) ?_ | with_reducible refine Dec.f (show ¬ (true = false) by decide) ?_ | with_reducible refine Dec.f (show ¬ (false = true) by decide) ?_ | refine Dec.t (by omega) ?_ | refine Dec.f (by omega) ?_ | refine Dec.split (fun _ => ?_) (fun _ => ?_) | refine Wr.id (by omega) ?_ | refine Chk.mk (by first | omega | exact rfl | (simp only [List.length_map]; omega) | (simp [room]; done) | (simp [room]; omega) | (simp [dropL, room]; done) | (simp [dropL, room]; omega)) ?_ | refine Nam.mk (List.length_map _) ?_ | refine Prep.skip ?_ | refine Eith.l ?_ | refine chk_t (x := D.flat _) (by assumption) ?_ | refine br_mk (fun _ => ?_) (fun _ => ?_) | refine nthK_mk hin ?_ | fail)
      all_goals first | (exfalso; omega) | skip
      all_goals (conv => whnf)
      all_goals first
        | exact ⟨⟨i + 1, m, vr, lo, ln, dr, pre, q⟩, Wm.end (by repeat (first | exact trivial | refine And.intro rfl ?_ | refine And.intro (congrArg (fun n => V.d (I n)) (wrap_nat _ (by omega))) ?_)) rfl rfl rfl, ⟨⟨hlt, hlo⟩, hL, hq, hpre, fun j hj hp => by
            by_cases e : j = i
            · subst e; omega
            · exact hst j (by dsimp only at hj; omega) hp⟩, by dsimp only; omega⟩
  · have : i = h.op.length := by omega
    subst this
    clear hlt hi
    repeat' ((conv => whnf); first | with_reducible refine Dec.t (show true = true from rfl) ?_ | with_reducible refine Dec.t (show false = false from rfl) ?_ | with_reducible refine Dec.f (show ¬ (true = false) by decide) ?_ | with_reducible refine Dec.f (show ¬ (false = true) by decide) ?_ | refine Dec.t (by omega) ?_ | refine Dec.f (by omega) ?_ | refine Dec.split (fun _ => ?_) (fun _ => ?_) | refine Wr.id (by omega) ?_ | refine Chk.mk (by first | omega | exact rfl | (simp only [List.length_map]; omega) | (simp [room]; done) | (simp [room]; omega) | (simp [dropL, room]; done) | (simp [dropL, room]; omega)) ?_ | refine Nam.mk (List.length_map _) ?_ | refine Prep.skip ?_ | refine Eith.l ?_ | refine chk_t (x := D.flat _) (by assumption) ?_ | refine br_mk (fun _ => ?_) (fun _ => ?_) | refine ACall.body (E := envOf Try.prog tt Try.f36.ntmps) (envOf_ok ttok mixed) Try.func36 (by rfl) rfl (Nat.le_of_ble_eq_true rfl) ?_ | refine ARange.body (E := envOf Try.prog tt Try.f37.ntmps) (envOf_ok ttok mixed) ttok mixed (by rfl) Try.func47 (by rfl) (Nat.le_of_ble_eq_true rfl) ?_ | fail)
    all_goals first | (exfalso; omega) | skip
    all_goals (conv => whnf)
    refine ALoop.at (E := envY Try.prog tt Try.f47.ntmps (yldIn (envOf Try.prog tt Try.f37.ntmps) 8)) (envY_ok (yldIn_ok (envOf_ok ttok mixed) 8) ttok mixed) (X := XQ) (fun x => [(9, .d (I x.i))]) (fun x => [(2, .vard (x.m.map B)), (3, .var [.sref 5 x.vr x.lo x.ln false]), (5, .row x.vr 1 false x.dr)])
      (fun x => (x.i ≤ h.fl.length ∧ x.lo ≤ x.dr.length) ∧ Lies x.lo x.ln x.dr x.q ∧ Qok h.fl p (posN h now) x.m (x.pre ++ x.q) ∧ x.pre = [] ∧ (∀ j, j < h.op.length → 0 < now.getD j 0 → x.m.getD j false = true) ∧ ∀ f ∈ h.fl.take x.i, f.per = p → f.kind = 1 → x.m.getD f.dst.toNat false = true) (fun x => h.fl.length - x.i) ⟨0, m, vr, lo, ln, dr, pre, q⟩ (by repeat (first | exact trivial | refine And.intro rfl ?_ | refine And.intro (congrArg (fun n => V.d (I n)) (wrap_nat _ (by omega))) ?_)) rfl ⟨⟨Nat.zero_le _, hlo⟩, hL, hq, hpre, hst, by simp⟩ ?_
    clear hL hq hst hql hroom hln hlo hpre
    rintro ⟨i, m, vr, lo, ln, dr, pre, q⟩ ⟨⟨hi, hlo⟩, hL, hq, hpre, hst, hin⟩
    simp only at hi hlo hL hq hpre hst hin
    dsimp only
    have hql := hq.len_le
    rw [List.length_append] at hql
    have hroom := hL.room hlo
    have hln := hL.ln
    by_cases hlt : i < h.fl.length
    · obtain ⟨f, hx, _⟩ := drop_get hlt
      have hfm := List.mem_of_getElem? hx
      have hfo := hok.fl f hfm
      unfold Flow.ok at hfo
      by_cases hp : f.per = p ∧ f.kind = 1
      · obtain ⟨hp, hk⟩ := hp
        obtain ⟨b, b1, b2⟩ := at_B hq.len (i := f.dst) (by omega)
        have hr : Rch h.fl p (posN h now) f.dst.toNat := .into f hfm hp hk
        cases b with
        | true =>
          repeat' ((conv => whnf); first | with_reducible refine Dec.t (show true = true from rfl) ?_ | with_reducible refine Dec.t (show false = false from rfl) ?_ | with_reducible refine Dec.f (show ¬ (true = false) by decide) ?_ | with_reducible refine Dec.f (show ¬ (false = true) by decide) ?_ | refine Dec.t (by omega) ?_ | refine Dec.f (by omega) ?_ | refine Dec.split (fun _ => ?_) (fun _ => ?_) | refine Wr.id (by omega) ?_ | refine Chk.mk (by first | omega | exact rfl | (simp only [List.length_map]; omega) | (simp [room]; done) | (simp [room]; omega) | (simp [dropL, room]; done) | (simp [dropL, room]; omega)) ?_ | refine Nam.mk (List.length_map _) ?_ | refine Prep.skip ?_ | refine Eith.l ?_ | refine chk_t (x := D.flat _) (by assumption) ?_ | refine br_mk (fun _ => ?_) (fun _ => ?_) | refine nthK_mk (map_get hx) ?_ | refine ACall.body (E := envOf Try.prog tt Try.f48.ntmps) (envOf_ok ttok mixed) Try.func48 (by rfl) rfl (Nat.le_of_ble_eq_true rfl) ?_ | refine nthK_mk (get_B b1) ?_ | fail)
          all_goals first | (exfalso; omega) | skip
          all_goals (conv => whnf)
          all_goals first
            | exact ⟨⟨i + 1, m, vr, lo, ln, dr, pre, q⟩, Wm.end (by repeat (first | exact trivial | refine And.intro rfl ?_ | refine And.intro (congrArg (fun n => V.d (I n)) (wrap_nat _ (by omega))) ?_)) rfl rfl rfl, ⟨⟨hlt, hlo⟩, hL, hq, hpre, hst, snoc_all hx (fun _ _ => b2) hin⟩, by dsimp only; omega⟩
        | false =>
          have hq' := hq.push (v := f.dst) (by omega) b1 hr
          rw [List.append_assoc] at hq'
          repeat' ((conv => whnf); first | with_reducible refine Dec.t (show true = true from rfl) ?_ | with_reducible refine Dec.t (show false = false from rfl) ?_ | with_reducible refine Dec.f (show ¬ (true = false) by decide) ?_ | with_reducible refine Dec.f (show ¬ (false = true) by decide) ?_ | refine Dec.t (by omega) ?_ | refine Dec.f (by omega) ?_ | refine Dec.split (fun _ => ?_) (fun _ => ?_) | refine Wr.id (by omega) ?_ | refine Chk.mk (by first | omega | exact rfl | (simp only [List.length_map]; omega) | (simp [room]; done) | (simp [room]; omega) | (simp [dropL, room]; done) | (simp [dropL, room]; omega)) ?_ | refine Nam.mk (List.length_map _) ?_ | refine Prep.skip ?_ | refine Eith.l ?_ | refine chk_t (x := D.flat _) (by assumption) ?_ | refine br_mk (fun _ => ?_) (fun _ => ?_) | refine nthK_mk (map_get hx) ?_ | refine ACall.body (E := envOf Try.prog tt Try.f48.ntmps) (envOf_ok ttok mixed) Try.func48 (by rfl) rfl (Nat.le_of_ble_eq_true rfl) ?_ | refine nthK_mk (get_B b1) ?_ | refine setK_to (lt_B b1) (set_B m f.dst true) ?_ | refine Chk.mk ⟨rfl, by omega, by simp only [room, List.length_singleton]; omega⟩ ?_ | fail)
          all_goals first | (exfalso; omega) | skip
          all_goals (conv => whnf)
          all_goals first
            | exact ⟨⟨i + 1, m.set f.dst.toNat true, vr + 1, 0, ln + 1, dropL dr lo ++ [I f.dst], pre, q ++ [f.dst]⟩, Wm.end (by repeat (first | exact trivial | refine And.intro rfl ?_ | refine And.intro (congrArg (fun n => V.d (I n)) (wrap_nat _ (by omega))) ?_)) rfl rfl rfl, ⟨⟨hlt, Nat.zero_le _⟩, hL.push _, hq', hpre, fun j hj hp => keep_set hq.len (by omega) (hst j hj hp), snoc_all hx (fun _ _ => new_set hq.len (by omega)) (fun g hg h1 h2 => keep_set hq.len (by omega) (hin g hg h1 h2))⟩, by dsimp only; omega⟩
      · repeat' ((conv => whnf); first | with_reducible refine Dec.t (show true = true from rfl) ?_ | with_reducible refine Dec.t (show false = false from rfl) ?_ | with_reducible refine Dec.f (show ¬ (true = false) by decide) ?_ | with_reducible refine Dec.f (show ¬ (false = true) by decide) ?_ | refine Dec.t (by omega) ?_ | refine Dec.f (by omega) ?_ | refine Dec.split (fun _ => ?_) (fun _ => ?_) | refine Wr.id (by omega) ?_ | refine Chk.mk (by first | omega | exact rfl | (simp only [List.length_map]; omega) | (simp [room]; done) | (simp [room]; omega) | (simp [dropL, room]; done) | (simp [dropL, room]; omega)) ?_ | refine Nam.mk (List.length_map _) ?_ | refine Prep.skip ?_ | refine Eith.l ?_ | refine chk_t (x := D.flat _) (by assumption) ?_ | refine br_mk (fun _ => ?_) (fun _ => ?_) | refine nthK_mk (map_get hx) ?_ | fail)
        all_goals first | (exfalso; exact hp ⟨by assumption, by assumption⟩) | skip
        all_goals (conv => whnf)
        all_goals first
          | exact ⟨⟨i + 1, m, vr, lo, ln, dr, pre, q⟩, Wm.end (by repeat (first | exact trivial | refine And.intro rfl ?_ | refine And.intro (congrArg (fun n => V.d (I n)) (wrap_nat _ (by omega))) ?_)) rfl rfl rfl, ⟨⟨hlt, hlo⟩, hL, hq, hpre, hst, snoc_all hx (fun h1 h2 => absurd ⟨h1, h2⟩ hp) hin⟩, by dsimp only; omega⟩
    · have : i = h.fl.length := by omega
      subst this
      rw [List.take_length] at hin
      clear hlt hi
      repeat' ((conv => whnf); first | with_reducible refine Dec.t (show true = true from rfl) ?_ | with_reducible refine Dec.t (show false = false from rfl) ?_ | with_reducible refine Dec.f (show ¬ (true = false) by decide) ?_ | with_reducible refine Dec.f (show ¬ (false = true) by decide) ?_ | refine Dec.t (by omega) ?_ | refine Dec.f (by omega) ?_ | refine Dec.split (fun _ => ?_) (fun _ => ?_) | refine Wr.id (by omega) ?_ | refine Chk.mk (by first | omega | exact rfl | (simp only [List.length_map]; omega) | (simp [room]; done) | (simp [room]; omega) | (simp [dropL, room]; done) | (simp [dropL, room]; omega)) ?_ | refine Nam.mk (List.length_map _) ?_ | refine Prep.skip ?_ | refine Eith.l ?_ | refine chk_t (x := D.flat _) (by assumption) ?_ | refine br_mk (fun _ => ?_) (fun _ => ?_) | fail)
      all_goals first | (exfalso; omega) | skip
      all_goals (conv => whnf)
      refine ALoop.at (E := envOf Try.prog tt Try.f37.ntmps) (envOf_ok ttok mixed) (X := XQ) (fun _ => []) (fun x => [(2, .vard (x.m.map B)), (3, .var [.sref 5 x.vr x.lo x.ln false]), (5, .row x.vr 1 false x.dr)])
        (fun x => x.lo ≤ x.dr.length ∧ Lies x.lo x.ln x.dr x.q ∧ Qok h.fl p (posN h now) x.m (x.pre ++ x.q) ∧ ((∀ j, j < h.op.length → 0 < now.getD j 0 → x.m.getD j false = true) ∧ ∀ f ∈ h.fl, f.per = p → f.kind = 1 → x.m.getD f.dst.toNat false = true) ∧ ∀ f ∈ h.fl, f.per = p → f.kind = 2 → f.src ∈ x.pre → x.m.getD f.dst.toNat false = true) (fun x => 16 - x.pre.length) ⟨0, m, vr, lo, ln, dr, pre, q⟩ (by repeat (first | exact trivial | refine And.intro rfl ?_ | refine And.intro (congrArg (fun n => V.d (I n)) (wrap_nat _ (by omega))) ?_)) rfl ⟨hlo, hL, hq, ⟨hst, hin⟩, by rw [hpre]; simp⟩ ?_
      clear hL hq hst hql hroom hln hlo hpre hin
      rintro ⟨_, m, vr, lo, ln, dr, pre, q⟩ ⟨hlo, hL, hq, hs, hc⟩
      simp only at hlo hL hq hs hc
      dsimp only
      have hql := hq.len_le
      rw [List.length_append] at hql
      have hroom := hL.room hlo
      have hln := hL.ln
      cases q with
      | nil =>
        simp only [List.length_nil] at hln
        subst hln
        repeat' ((conv => whnf); first | with_reducible refine Dec.t (show true = true from rfl) ?_ | with_reducible refine Dec.t (show false = false from rfl) ?_ | with_reducible refine Dec.f (show ¬ (true = false) by decide) ?_ | with_reducible refine Dec.f (show ¬ (false = true) by decide) ?_ | refine Dec.t (by omega) ?_ | refine Dec.f (by omega) ?_ | refine Dec.split (fun _ => ?_) (fun _ => ?_) | refine Wr.id (by omega) ?_ | refine Chk.mk (by first | omega | exact rfl | (simp only [List.length_map]; omega) | (simp [room]; done) | (simp [room]; omega) | (simp [dropL, room]; done) | (simp [dropL, room]; omega)) ?_ | refine Nam.mk (List.length_map _) ?_ | refine Prep.skip ?_ | refine Eith.l ?_ | refine chk_t (x := D.flat _) (by assumption) ?_ | refine br_mk (fun _ => ?_) (fun _ => ?_) | fail)
        all_goals first | (exfalso; omega) | skip
        all_goals (conv => whnf)
        rw [List.append_nil] at hq
        have hMm : M = m := bools_eq hM hq.len fun v hv => by
          rw [hR v hv]
          exact ⟨fun hr => hr.marked hq hnv hok.fl (fun j hj => hs.1 j hj.1 hj.2) hs.2 hc, hq.snd v hv⟩
        rw [hMm]
        obtain ⟨a0, a1, a2, a3, a4, a5, a6, a7, a8, a9, a10, a11, a12, a13, a14, a15, rfl⟩ := sixteenB hq.len
        repeat' ((conv => whnf); first | with_reducible refine Dec.t (show true = true from rfl) ?_ | with_reducible refine Dec.t (show false = false from rfl) ?_ | with_reducible refine Dec.f (show ¬ (true = false) by decide) ?_ | with_reducible refine Dec.f (show ¬ (false = true) by decide) ?_ | refine Dec.t (by omega) ?_ | refine Dec.f (by omega) ?_ | refine Dec.split (fun _ => ?_) (fun _ => ?_) | refine Wr.id (by omega) ?_ | refine Chk.mk (by first | omega | exact rfl | (simp only [List.length_map]; omega) | (simp [room]; done) | (simp [room]; omega) | (simp [dropL, room]; done) | (simp [dropL, room]; omega)) ?_ | refine Nam.mk (List.length_map _) ?_ | refine Prep.skip ?_ | refine Eith.l ?_ | refine chk_t (x := D.flat _) (by assumption) ?_ | refine br_mk (fun _ => ?_) (fun _ => ?_) | fail)
        all_goals first | (exfalso; omega) | skip
        all_goals (conv => whnf)
        all_goals first | exact DLe.refl _
      | cons v q =>
        have hv := hq.rng v (by simp)
        have hd0 : dr[lo]? = some (I v) := by
          have := congrArg (fun l => l[0]?) hL.dr
          simpa [List.getElem?_drop] using this
        have hd1 : dr.drop (lo + 1) = q.map I := by
          have := congrArg (fun l => l.drop 1) hL.dr
          simpa [List.drop_drop, Nat.add_comm] using this
        have hln1 : ln = q.length + 1 := by rw [hln]; rfl
        have hmv : m.getD v.toNat false = true := (hq.mem v.toNat (by omega)).2 (by rw [Int.toNat_of_nonneg hv.1]; simp)
        repeat' ((conv => whnf); first | with_reducible refine Dec.t (show true = true from rfl) ?_ | with_reducible refine Dec.t (show false = false from rfl) ?_ | with_reducible refine Dec.f (show ¬ (true = false) by decide) ?_ | with_reducible refine Dec.f (show ¬ (false = true) by decide) ?_ | refine Dec.t (by omega) ?_ | refine Dec.f (by omega) ?_ | refine Dec.split (fun _ => ?_) (fun _ => ?_) | refine Wr.id (by omega) ?_ | refine Chk.mk (by first | omega | exact rfl | (simp only [List.length_map]; omega) | (simp [room]; done) | (simp [room]; omega) | (simp [dropL, room]; done) | (simp [dropL, room]; omega)) ?_ | refine Nam.mk (List.length_map _) ?_ | refine Prep.skip ?_ | refine Eith.l ?_ | refine chk_t (x := D.flat _) (by assumption) ?_ | refine br_mk (fun _ => ?_) (fun _ => ?_) | refine nthK_mk hd0 ?_ | refine ACall.body (E := envOf Try.prog tt Try.f36.ntmps) (envOf_ok ttok mixed) Try.func36 (by rfl) rfl (Nat.le_of_ble_eq_true rfl) ?_ | refine ARange.body (E := envOf Try.prog tt Try.f37.ntmps) (envOf_ok ttok mixed) ttok mixed (by rfl) Try.func47 (by rfl) (Nat.le_of_ble_eq_true rfl) ?_ | fail)
        all_goals first | (exfalso; omega) | skip
        all_goals (conv => whnf)
        rw [show pre ++ v :: q = (pre ++ [v]) ++ q by simp] at hq
        refine ALoop.at (E := envY Try.prog tt Try.f47.ntmps (yldIn (envOf Try.prog tt Try.f37.ntmps) 12)) (envY_ok (yldIn_ok (envOf_ok ttok mixed) 12) ttok mixed) (X := XQ) (fun x => [(9, .d (I x.i))]) (fun x => [(2, .vard (x.m.map B)), (3, .var [.sref 5 x.vr x.lo x.ln false]), (5, .row x.vr 1 false x.dr)])
          (fun x => (x.i ≤ h.fl.length ∧ x.lo ≤ x.dr.length) ∧ Lies x.lo x.ln x.dr x.q ∧ Qok h.fl p (posN h now) x.m (x.pre ++ x.q) ∧ x.pre = pre ++ [v] ∧ (∀ u, m.getD u false = true → x.m.getD u false = true) ∧ ∀ f ∈ h.fl.take x.i, f.per = p → f.kind = 2 → f.src = v → x.m.getD f.dst.toNat false = true) (fun x => h.fl.length - x.i) ⟨0, m, vr, lo + 1, ln - 1, dr, pre ++ [v], q⟩ (by repeat (first | exact trivial | refine And.intro rfl ?_ | refine And.intro (congrArg (fun n => V.d (I n)) (wrap_nat _ (by omega))) ?_)) rfl ⟨⟨Nat.zero_le _, by dsimp only; omega⟩, ⟨hd1, by dsimp only; omega⟩, hq, rfl, fun _ h => h, by simp⟩ ?_
        clear hL hroom hln hlo hd0 hd1 hln1 hql
        rintro ⟨i, m2, vr, lo, ln, dr, pre2, q⟩ ⟨⟨hi, hlo⟩, hL, hq2, hpre, hkeep, hin⟩
        simp only at hi hlo hL hq2 hpre hkeep hin
        dsimp only
        have hql := hq2.len_le
        rw [List.length_append] at hql
        have hroom := hL.room hlo
        have hln := hL.ln
        by_cases hlt : i < h.fl.length
        · obtain ⟨f, hx, _⟩ := drop_get hlt
          have hfm := List.mem_of_getElem? hx
          have hfo := hok.fl f hfm
          unfold Flow.ok at hfo
          by_cases hp : f.per = p ∧ f.kind = 2 ∧ f.src = v
          · obtain ⟨hp, hk, hsv⟩ := hp
            obtain ⟨b, b1, b2⟩ := at_B hq2.len (i := f.dst) (by omega)
            have hr : Rch h.fl p (posN h now) f.dst.toNat := .move f hfm hp hk (by rw [hsv]; exact hq.snd _ (by omega) hmv)
            cases b with
            | true =>
              repeat' ((conv => whnf); first | with_reducible refine Dec.t (show true = true from rfl) ?_ | with_reducible refine Dec.t (show false = false from rfl) ?_ | with_reducible refine Dec.f (show ¬ (true = false) by decide) ?_ | with_reducible refine Dec.f (show ¬ (false = true) by decide) ?_ | refine Dec.t (by omega) ?_ | refine Dec.f (by omega) ?_ | refine Dec.split (fun _ => ?_) (fun _ => ?_) | refine Wr.id (by omega) ?_ | refine Chk.mk (by first | omega | exact rfl | (simp only [List.length_map]; omega) | (simp [room]; done) | (simp [room]; omega) | (simp [dropL, room]; done) | (simp [dropL, room]; omega)) ?_ | refine Nam.mk (List.length_map _) ?_ | refine Prep.skip ?_ | refine Eith.l ?_ | refine chk_t (x := D.flat _) (by assumption) ?_ | refine br_mk (fun _ => ?_) (fun _ => ?_) | refine nthK_mk (map_get hx) ?_ | refine ACall.body (E := envOf Try.prog tt Try.f48.ntmps) (envOf_ok ttok mixed) Try.func48 (by rfl) rfl (Nat.le_of_ble_eq_true rfl) ?_ | refine nthK_mk (get_B b1) ?_ | fail)
              all_goals first | (exfalso; omega) | skip
              all_goals (conv => whnf)
              all_goals first
                | exact ⟨⟨i + 1, m2, vr, lo, ln, dr, pre2, q⟩, Wm.end (by repeat (first | exact trivial | refine And.intro rfl ?_ | refine And.intro (congrArg (fun n => V.d (I n)) (wrap_nat _ (by omega))) ?_)) rfl rfl rfl, ⟨⟨hlt, hlo⟩, hL, hq2, hpre, hkeep, snoc_all hx (fun _ _ _ => b2) hin⟩, by dsimp only; omega⟩
            | false =>
              have hq' := hq2.push (v := f.dst) (by omega) b1 hr
              rw [List.append_assoc] at hq'
              repeat' ((conv => whnf); first | with_reducible refine Dec.t (show true = true from rfl) ?_ | with_reducible refine Dec.t (show false = false from rfl) ?_ | with_reducible refine Dec.f (show ¬ (true = false) by decide) ?_ | with_reducible refine Dec.f (show ¬ (false = true) by decide) ?_ | refine Dec.t (by omega) ?_ | refine Dec.f (by omega) ?_ | refine Dec.split (fun _ => ?_) (fun _ => ?_) | refine Wr.id (by omega) ?_ | refine Chk.mk (by first | omega | exact rfl | (simp only [List.length_map]; omega) | (simp [room]; done) | (simp [room]; omega) | (simp [dropL, room]; done) | (simp [dropL, room]; omega)) ?_ | refine Nam.mk (List.length_map _) ?_ | refine Prep.skip ?_ | refine Eith.l ?_ | refine chk_t (x := D.flat _) (by assumption) ?_ | refine br_mk (fun _ => ?_) (fun _ => ?_) | refine nthK_mk (map_get hx) ?_ | refine ACall.body (E := envOf Try.prog tt Try.f48.ntmps) (envOf_ok ttok mixed) Try.func48 (by rfl) rfl (Nat.le_of_ble_eq_true rfl) ?_ | refine nthK_mk (get_B b1) ?_ | refine setK_to (lt_B b1) (set_B m2 f.dst true) ?_ | refine Chk.mk ⟨rfl, by omega, by simp only [room, List.length_singleton]; omega⟩ ?_ | fail)
              all_goals first | (exfalso; omega) | skip
              all_goals (conv => whnf)
              all_goals first
                | exact ⟨⟨i + 1, m2.set f.dst.toNat true, vr + 1, 0, ln + 1, dropL dr lo ++ [I f.dst], pre2, q ++ [f.dst]⟩, Wm.end (by repeat (first | exact trivial | refine And.intro rfl ?_ | refine And.intro (congrArg (fun n => V.d (I n)) (wrap_nat _ (by omega))) ?_)) rfl rfl rfl, ⟨⟨hlt, Nat.zero_le _⟩, hL.push _, hq', hpre, fun u hu => keep_set hq2.len (by omega) (hkeep u hu), snoc_all hx (fun _ _ _ => new_set hq2.len (by omega)) (fun g hg h1 h2 h3 => keep_set hq2.len (by omega) (hin g hg h1 h2 h3))⟩, by dsimp only; omega⟩
          · repeat' ((conv => whnf); first | with_reducible refine Dec.t (show true = true from rfl) ?_ | with_reducible refine Dec.t (show false = false from rfl) ?_ | with_reducible refine Dec.f (show ¬ (true = false) by decide) ?_ | with_reducible refine Dec.f (show ¬ (false = true) by decide) ?_ | refine Dec.t (by omega) ?_ | refine Dec.f (by omega) ?_ | refine Dec.split (fun _ => ?_) (fun _ => ?_) | refine Wr.id (by omega) ?_ | refine Chk.mk (by first | omega | exact rfl | (simp only [List.length_map]; omega) | (simp [room]; done) | (simp [room]; omega) | (simp [dropL, room]; done) | (simp [dropL, room]; omega)) ?_ | refine Nam.mk (List.length_map _) ?_ | refine Prep.skip ?_ | refine Eith.l ?_ | refine chk_t (x := D.flat _) (by assumption) ?_ | refine br_mk (fun _ => ?_) (fun _ => ?_) | refine nthK_mk (map_get hx) ?_ | fail)
            all_goals first | (exfalso; exact hp ⟨by assumption, by assumption, by assumption⟩) | skip
            all_goals (conv => whnf)
            all_goals first
              | exact ⟨⟨i + 1, m2, vr, lo, ln, dr, pre2, q⟩, Wm.end (by repeat (first | exact trivial | refine And.intro rfl ?_ | refine And.intro (congrArg (fun n => V.d (I n)) (wrap_nat _ (by omega))) ?_)) rfl rfl rfl, ⟨⟨hlt, hlo⟩, hL, hq2, hpre, hkeep, snoc_all hx (fun h1 h2 h3 => absurd ⟨h1, h2, h3⟩ hp) hin⟩, by dsimp only; omega⟩
        · have : i = h.fl.length := by omega
          subst this
          rw [List.take_length] at hin
          clear hlt hi
          repeat' ((conv => whnf); first | with_reducible refine Dec.t (show true = true from rfl) ?_ | with_reducible refine Dec.t (show false = false from rfl) ?_ | with_reducible refine Dec.f (show ¬ (true = false) by decide) ?_ | with_reducible refine Dec.f (show ¬ (false = true) by decide) ?_ | refine Dec.t (by omega) ?_ | refine Dec.f (by omega) ?_ | refine Dec.split (fun _ => ?_) (fun _ => ?_) | refine Wr.id (by omega) ?_ | refine Chk.mk (by first | omega | exact rfl | (simp only [List.length_map]; omega) | (simp [room]; done) | (simp [room]; omega) | (simp [dropL, room]; done) | (simp [dropL, room]; omega)) ?_ | refine Nam.mk (List.length_map _) ?_ | refine Prep.skip ?_ | refine Eith.l ?_ | refine chk_t (x := D.flat _) (by assumption) ?_ | refine br_mk (fun _ => ?_) (fun _ => ?_) | fail)
          all_goals first | (exfalso; omega) | skip
          all_goals (conv => whnf)
          all_goals first
            | exact ⟨⟨0, m2, vr, lo, ln, dr, pre2, q⟩, Wm.end (by repeat (first | exact trivial | refine And.intro rfl ?_ | refine And.intro (congrArg (fun n => V.d (I n)) (wrap_nat _ (by omega))) ?_)) rfl rfl rfl, ⟨hlo, hL, hq2, ⟨fun j h1 h2 => hkeep _ (hs.1 j h1 h2), fun f hf h1 h2 => hkeep _ (hs.2 f hf h1 h2)⟩, fun f hf h1 h2 h3 => by
                dsimp only at h3
                rw [hpre] at h3
                rcases List.mem_append.1 h3 with h3 | h3
                · exact hkeep _ (hc f hf h1 h2 h3)
                · exact hin f hf h1 h2 (List.mem_singleton.1 h3)⟩, by
                have := hq2.len_le
                rw [hpre] at this ⊢
                simp only [List.length_append, List.length_singleton] at this ⊢
                omega⟩
end Go.PM

