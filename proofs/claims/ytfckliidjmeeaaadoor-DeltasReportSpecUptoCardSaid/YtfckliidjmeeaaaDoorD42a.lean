/- Deltas: entries, what compares them. -/
import Derived.Test.YtfckliidjmeeaaaDoorPure42
namespace Go.PM
open Go.Proofs
set_option maxRecDepth 10000
set_option maxHeartbeats 1000000
def Ent.d (e : Ent) : D := .agg [.s e.name, .s e.text]
structure Spn where
  a : Int
  b : Int
deriving DecidableEq
def Spn.d (w : Spn) : D := .agg [I w.a, I w.b]
structure Why where
  kind : Int
  subj : Int
  obj : Int
  days : List Spn
deriving DecidableEq
def Why.d (w : Why) : D := .agg [I w.kind, I w.subj, I w.obj, SL 2 (w.days.map Spn.d)]
abbrev Dl := Dlt Why
def Dlt.d (d : Dl) : D := .agg [SL 2 (d.gone.map Ent.d), SL 2 (d.new.map Ent.d), SL 4 (d.why.map Why.d)]
theorem eqEnt (k k' : Ent) : eqD tt 4 52 k.d.cells k'.d.cells = decide (k = k') := by
  rw [show eqD tt 4 52 k.d.cells k'.d.cells = (k.name.toList == k'.name.toList && (k.text.toList == k'.text.toList && true)) from rfl]
  rw [Bool.eq_iff_iff]
  cases k; cases k'
  simp [ba_eq]
theorem eqKey (a b c x y z : Int) : eqD tt 4 103 [I a, I b, I c] [I x, I y, I z] = decide (a = x ∧ b = y ∧ c = z) := by
  rw [show eqD tt 4 103 [I a, I b, I c] [I x, I y, I z] = (a == x && (b == y && (c == z && true))) from rfl]
  rw [Bool.eq_iff_iff]
  simp
theorem eqSpan (k k' : Spn) : eqD tt 4 116 k.d.cells k'.d.cells = decide (k = k') := by
  rw [show eqD tt 4 116 k.d.cells k'.d.cells = (k.a == k'.a && (k.b == k'.b && true)) from rfl]
  rw [Bool.eq_iff_iff]
  cases k; cases k'
  simp
theorem ref42_SameEntries (a b : List (Ent)) (hl : a.length < 2 ^ 40)  : CallP Tryd.prog 11 [.d (SL 2 (a.map Ent.d)), .d (SL 2 (b.map Ent.d))] (retD [.b (decide (a = b))]) := by
  refine exPure_sound (E := envOf Tryd.prog tt Tryd.f11.ntmps) (envOf_ok ttok mixed) Tryd.func11 (by rfl) rfl rfl (Nat.le_of_ble_eq_true rfl) ?_
  by_cases he : a.length = b.length
  · repeat' ((conv => whnf); first | (with_reducible first | refine dT ?_ | refine dU ?_ | refine dF ?_ | refine dG ?_) | refine aT ?_ | refine aF ?_ | refine dS (fun _ => ?_) fun _ => ?_ | refine aW ?_ | refine aC ?_ | refine aL ?_ | refine Prep.skip ?_ | refine Eith.l ?_ | refine aD ?_ | refine aB (fun _ => ?_) fun _ => ?_)
    conv => whnf
    refine ALoop.at (E := envOf Tryd.prog tt Tryd.f11.ntmps) (envOf_ok ttok mixed) (X := Nat) (fun i => [(5, .d (I i))]) (fun _ => []) (fun i => i ≤ a.length ∧ a.take i = b.take i) (fun i => a.length - i) 0 sam rfl ⟨Nat.zero_le _, rfl⟩ ?_
    rintro i ⟨hi, hm⟩
    by_cases hlt : i < a.length
    · obtain ⟨x, hx, _⟩ := drop_get hlt
      obtain ⟨y, hy, _⟩ := drop_get (l := b) (i := i) (by omega)
      repeat' ((conv => whnf); first | (with_reducible first | refine dT ?_ | refine dU ?_ | refine dF ?_ | refine dG ?_) | refine aT ?_ | refine aF ?_ | refine dS (fun _ => ?_) fun _ => ?_ | refine aW ?_ | refine aC ?_ | refine aL ?_ | refine Prep.skip ?_ | refine Eith.l ?_ | refine aD ?_ | refine aB (fun _ => ?_) fun _ => ?_ | refine nthK_mk (map_get hx) ?_ | refine nthK_mk (map_get hy) ?_ | refine Nam.dec (eqEnt x y) (fun _ => ?_) (fun _ => ?_))
      all_goals (conv => whnf)
      all_goals try simp only [decide_eq_true_eq, decide_eq_false_iff_not] at *
      all_goals first
        | (have e : x = y := by first | assumption | (simp_all; done)
           subst e
           refine ⟨i + 1, Wm.end sam rfl rfl rfl, ⟨hlt, ?_⟩, by omega⟩
           rw [List.take_add_one, List.take_add_one, hm, hx, hy])
        | (have e : ¬ x = y := by first | assumption | (simp_all; done)
           rw [decide_eq_false (fun h => e (by subst h; rw [hx] at hy; exact Option.some.inj hy))]; exact DLe.refl _)
    · have : i = a.length := by omega
      subst this
      rw [List.take_length, he, List.take_length] at hm
      repeat' ((conv => whnf); first | (with_reducible first | refine dT ?_ | refine dU ?_ | refine dF ?_ | refine dG ?_) | refine aT ?_ | refine aF ?_ | refine dS (fun _ => ?_) fun _ => ?_ | refine aW ?_ | refine aC ?_ | refine aL ?_ | refine Prep.skip ?_ | refine Eith.l ?_ | refine aD ?_ | refine aB (fun _ => ?_) fun _ => ?_)
      all_goals (conv => whnf)
      rw [decide_eq_true hm]; exact DLe.refl _
  · repeat' ((conv => whnf); first | (with_reducible first | refine dT ?_ | refine dU ?_ | refine dF ?_ | refine dG ?_) | refine aT ?_ | refine aF ?_ | refine dS (fun _ => ?_) fun _ => ?_ | refine aW ?_ | refine aC ?_ | refine aL ?_ | refine Prep.skip ?_ | refine Eith.l ?_ | refine aD ?_ | refine aB (fun _ => ?_) fun _ => ?_)
    all_goals (conv => whnf)
    rw [decide_eq_false (fun h => he (by rw [h]))]; exact DLe.refl _
theorem vE_take1 (l : List Ent) : vE (l.take (0 + 1)) := by
  cases l with
  | nil => exact .nil
  | cons a l => exact List.pairwise_singleton _ _
theorem vE_get {l : List Ent} (h : vE l) {i j : Nat} {x y : Ent} (hij : i < j) (hx : l[i]? = some x) (hy : l[j]? = some y) : ltE x y := by
  obtain ⟨h1, rfl⟩ := List.getElem?_eq_some_iff.1 hx
  obtain ⟨h2, rfl⟩ := List.getElem?_eq_some_iff.1 hy
  exact List.pairwise_iff_getElem.1 h i j h1 h2 hij
theorem vE_snoc {l : List Ent} (h : vE l) {y : Ent} (hy : ∀ x, l.getLast? = some x → ltE x y) : vE (l ++ [y]) := by
  refine List.pairwise_append.2 ⟨h, List.pairwise_singleton _ _, fun a ha b hb => ?_⟩
  rw [List.mem_singleton] at hb
  subst hb
  obtain ⟨i, hi⟩ := List.mem_iff_getElem?.1 ha
  have hil := (List.getElem?_eq_some_iff.1 hi).1
  have hlast : l.getLast? = some l[l.length - 1] := by rw [List.getLast?_eq_getElem?, List.getElem?_eq_getElem]
  have h1 := hy _ hlast
  by_cases he : i = l.length - 1
  · subst he
    rw [List.getElem?_eq_getElem hil] at hi; cases hi; exact h1
  · exact ltE_trans (vE_get h (show i < l.length - 1 by omega) hi (List.getElem?_eq_getElem (by omega))) h1
theorem take_last {α : Type} {l : List α} {i : Nat} {x : α} (h : l[i]? = some x) : (l.take (i + 1)).getLast? = some x := by
  rw [List.take_add_one, h]; simp
theorem ref42_valid (l : List Ent) (hl : l.length < 2 ^ 40) : CallP Tryd.prog 45 [.d (SL 2 (l.map Ent.d))] (retD [.b (decide (vE l))]) := by
  refine exPure_sound (E := envOf Tryd.prog tt Tryd.f45.ntmps) (envOf_ok ttok mixed) Tryd.func45 (by rfl) rfl rfl (Nat.le_of_ble_eq_true rfl) ?_
  repeat' ((conv => whnf); first | (with_reducible first | refine dT ?_ | refine dU ?_ | refine dF ?_ | refine dG ?_) | refine aT ?_ | refine aF ?_ | refine dS (fun _ => ?_) fun _ => ?_ | refine aW ?_ | refine aC ?_ | refine aL ?_ | refine Prep.skip ?_ | refine Eith.l ?_ | refine aD ?_ | refine aB (fun _ => ?_) fun _ => ?_)
  all_goals (conv => whnf)
  refine ALoop.at (E := envOf Tryd.prog tt Tryd.f45.ntmps) (envOf_ok ttok mixed) (X := Nat) (fun x => [(3, .d (I ((x + 1 : Nat) : Int)))]) (fun _ => []) (fun x => (x < l.length ∨ x = 0) ∧ vE (l.take (x + 1))) (fun x => l.length - x) 0 sam rfl ⟨.inr rfl, vE_take1 l⟩ ?_
  rintro i ⟨hi, hm⟩
  by_cases hlt : i + 1 < l.length
  · obtain ⟨x, hx, _⟩ := drop_get (l := l) (i := i) (by omega)
    obtain ⟨y, hy, _⟩ := drop_get hlt
    have hx0 : (l.map Ent.d)[(((i + 1 : Nat) : Int) - 1).toNat]? = some x.d := by rw [show (((i + 1 : Nat) : Int) - 1).toNat = i by omega, List.getElem?_map, hx]; rfl
    repeat' ((conv => whnf); first | (with_reducible first | refine dT ?_ | refine dU ?_ | refine dF ?_ | refine dG ?_) | refine aT ?_ | refine aF ?_ | refine dS (fun _ => ?_) fun _ => ?_ | refine aW ?_ | refine aC ?_ | refine aL ?_ | refine Prep.skip ?_ | refine Eith.l ?_ | refine aD ?_ | refine aB (fun _ => ?_) fun _ => ?_ | refine nthK_mk hx0 ?_ | refine nthK_mk (map_get hy) ?_ | fail)
    all_goals (conv => whnf)
    all_goals first
      | (rename_i h
         have h1 : ¬ ltE x y := fun h2 => by
           have h3 := bytesLess_iff.2 h2
           unfold Ent.nm at h3
           rw [h3] at h; cases h
         rw [decide_eq_false fun hv => h1 (vE_get hv (Nat.lt_succ_self i) hx hy)]; exact DLe.refl _)
      | (rename_i h
         have h1 : ltE x y := bytesLess_iff.1 (by unfold Ent.nm; simpa using h)
         exact ⟨i + 1, Wm.end sam rfl rfl rfl, ⟨.inl hlt, by rw [List.take_add_one, hy]; exact vE_snoc hm (fun z hz => by rw [take_last hx] at hz; cases hz; exact h1)⟩, by omega⟩)
  · have hv : vE l := by rw [List.take_of_length_le (by omega)] at hm; exact hm
    repeat' ((conv => whnf); first | (with_reducible first | refine dT ?_ | refine dU ?_ | refine dF ?_ | refine dG ?_) | refine aT ?_ | refine aF ?_ | refine dS (fun _ => ?_) fun _ => ?_ | refine aW ?_ | refine aC ?_ | refine aL ?_ | refine Prep.skip ?_ | refine Eith.l ?_ | refine aD ?_ | refine aB (fun _ => ?_) fun _ => ?_ | fail)
    all_goals (conv => whnf)
    all_goals first
      | (exfalso; omega)
      | (rw [decide_eq_true hv]; exact DLe.refl _)
theorem deltas_validList (l : List Ent) (hl : l.length < 2 ^ 40) : CallP Tryd.prog 41 [.d (SL 2 (l.map Ent.d))] (retD [.b (decide (vE l))]) := by
  refine exPure_sound (E := envOf Tryd.prog tt Tryd.f41.ntmps) (envOf_ok ttok mixed) Tryd.func41 (by rfl) rfl rfl (Nat.le_of_ble_eq_true rfl) ?_
  repeat' ((conv => whnf); first | (with_reducible first | refine dT ?_ | refine dU ?_ | refine dF ?_ | refine dG ?_) | refine aT ?_ | refine aF ?_ | refine dS (fun _ => ?_) fun _ => ?_ | refine aW ?_ | refine aC ?_ | refine aL ?_ | refine Prep.skip ?_ | refine Eith.l ?_ | refine aD ?_ | refine aB (fun _ => ?_) fun _ => ?_)
  all_goals (conv => whnf)
  refine ALoop.at (E := envOf Tryd.prog tt Tryd.f41.ntmps) (envOf_ok ttok mixed) (X := Nat) (fun x => [(3, .d (I ((x + 1 : Nat) : Int)))]) (fun _ => []) (fun x => (x < l.length ∨ x = 0) ∧ vE (l.take (x + 1))) (fun x => l.length - x) 0 sam rfl ⟨.inr rfl, vE_take1 l⟩ ?_
  rintro i ⟨hi, hm⟩
  by_cases hlt : i + 1 < l.length
  · obtain ⟨x, hx, _⟩ := drop_get (l := l) (i := i) (by omega)
    obtain ⟨y, hy, _⟩ := drop_get hlt
    have hx0 : (l.map Ent.d)[(((i + 1 : Nat) : Int) - 1).toNat]? = some x.d := by rw [show (((i + 1 : Nat) : Int) - 1).toNat = i by omega, List.getElem?_map, hx]; rfl
    repeat' ((conv => whnf); first | (with_reducible first | refine dT ?_ | refine dU ?_ | refine dF ?_ | refine dG ?_) | refine aT ?_ | refine aF ?_ | refine dS (fun _ => ?_) fun _ => ?_ | refine aW ?_ | refine aC ?_ | refine aL ?_ | refine Prep.skip ?_ | refine Eith.l ?_ | refine aD ?_ | refine aB (fun _ => ?_) fun _ => ?_ | refine nthK_mk hx0 ?_ | refine nthK_mk (map_get hy) ?_ | fail)
    all_goals (conv => whnf)
    all_goals first
      | (rename_i h
         have h1 : ¬ ltE x y := fun h2 => by
           have h3 := bytesLess_iff.2 h2
           unfold Ent.nm at h3
           rw [h3] at h; cases h
         rw [decide_eq_false fun hv => h1 (vE_get hv (Nat.lt_succ_self i) hx hy)]; exact DLe.refl _)
      | (rename_i h
         have h1 : ltE x y := bytesLess_iff.1 (by unfold Ent.nm; simpa using h)
         exact ⟨i + 1, Wm.end sam rfl rfl rfl, ⟨.inl hlt, by rw [List.take_add_one, hy]; exact vE_snoc hm (fun z hz => by rw [take_last hx] at hz; cases hz; exact h1)⟩, by omega⟩)
  · have hv : vE l := by rw [List.take_of_length_le (by omega)] at hm; exact hm
    repeat' ((conv => whnf); first | (with_reducible first | refine dT ?_ | refine dU ?_ | refine dF ?_ | refine dG ?_) | refine aT ?_ | refine aF ?_ | refine dS (fun _ => ?_) fun _ => ?_ | refine aW ?_ | refine aC ?_ | refine aL ?_ | refine Prep.skip ?_ | refine Eith.l ?_ | refine aD ?_ | refine aB (fun _ => ?_) fun _ => ?_ | fail)
    all_goals (conv => whnf)
    all_goals first
      | (exfalso; omega)
      | (rw [decide_eq_true hv]; exact DLe.refl _)
theorem ref42_SameReasons (a b : List Why) (ha : a.length < 2 ^ 40) (hd : ∀ w ∈ a, w.days.length < 2 ^ 40) : CallP Tryd.prog 22 [.d (SL 4 (a.map Why.d)), .d (SL 4 (b.map Why.d))] (retD [.b (decide (a = b))]) := by
  refine exPure_sound (E := envOf Tryd.prog tt Tryd.f22.ntmps) (envOf_ok ttok mixed) Tryd.func22 (by rfl) rfl rfl (Nat.le_of_ble_eq_true rfl) ?_
  by_cases he : a.length = b.length
  · repeat' ((conv => whnf); first | (with_reducible first | refine dT ?_ | refine dU ?_ | refine dF ?_ | refine dG ?_) | refine aT ?_ | refine aF ?_ | refine dS (fun _ => ?_) fun _ => ?_ | refine aW ?_ | refine aC ?_ | refine aL ?_ | refine Prep.skip ?_ | refine Eith.l ?_ | refine aD ?_ | refine aB (fun _ => ?_) fun _ => ?_)
    all_goals (conv => whnf)
    refine ALoop.at (E := envOf Tryd.prog tt Tryd.f22.ntmps) (envOf_ok ttok mixed) (X := Nat) (fun i => [(5, .d (I i))]) (fun _ => []) (fun i => i ≤ a.length ∧ a.take i = b.take i) (fun i => a.length - i) 0 sam rfl ⟨Nat.zero_le _, rfl⟩ ?_
    rintro i ⟨hi, hm⟩
    by_cases hlt : i < a.length
    · obtain ⟨x, hx, _⟩ := drop_get hlt
      obtain ⟨y, hy, _⟩ := drop_get (l := b) (i := i) (by omega)
      repeat' ((conv => whnf); first | (with_reducible first | refine dT ?_ | refine dU ?_ | refine dF ?_ | refine dG ?_) | refine aT ?_ | refine aF ?_ | refine dS (fun _ => ?_) fun _ => ?_ | refine aW ?_ | refine aC ?_ | refine aL ?_ | refine Prep.skip ?_ | refine Eith.l ?_ | refine aD ?_ | refine aB (fun _ => ?_) fun _ => ?_ | refine nthK_mk (map_get hx) ?_ | refine nthK_mk (map_get hy) ?_ | refine Nam.dec (eqKey _ _ _ _ _ _) (fun _ => ?_) (fun _ => ?_) | fail)
      all_goals (conv => whnf)
      all_goals first
        | (exact DLe.refl _)
        | (have hne : ¬ a = b := fun e => by
             subst e
             rw [hx] at hy
             cases hy
             simp_all
           rw [decide_eq_false hne]; exact DLe.refl _)
        | skip
      rename_i hk hlen
      have hlen : x.days.length = y.days.length := by omega
      have hxd := hd x (List.mem_of_getElem? hx)
      refine ALoop.at (E := envOf Tryd.prog tt Tryd.f22.ntmps) (envOf_ok ttok mixed) (X := Nat) (fun k => [(6, .d (I k))]) (fun _ => []) (fun k => k ≤ x.days.length ∧ x.days.take k = y.days.take k) (fun k => x.days.length - k) 0 sam rfl ⟨Nat.zero_le _, rfl⟩ ?_
      rintro k ⟨hki, hkm⟩
      by_cases hkl : k < x.days.length
      · obtain ⟨u, hu, _⟩ := drop_get hkl
        obtain ⟨v, hv, _⟩ := drop_get (l := y.days) (i := k) (by omega)
        repeat' ((conv => whnf); first | (with_reducible first | refine dT ?_ | refine dU ?_ | refine dF ?_ | refine dG ?_) | refine aT ?_ | refine aF ?_ | refine dS (fun _ => ?_) fun _ => ?_ | refine aW ?_ | refine aC ?_ | refine aL ?_ | refine Prep.skip ?_ | refine Eith.l ?_ | refine aD ?_ | refine aB (fun _ => ?_) fun _ => ?_ | refine nthK_mk (map_get hx) ?_ | refine nthK_mk (map_get hy) ?_ | refine nthK_mk (map_get hu) ?_ | refine nthK_mk (map_get hv) ?_ | refine Nam.dec (eqSpan u v) (fun _ => ?_) (fun _ => ?_) | fail)
        all_goals (conv => whnf)
        all_goals first
          | (have e : u = v := by first | assumption | (simp_all; done)
             subst e
             refine ⟨k + 1, Wm.end sam rfl rfl rfl, ⟨hkl, ?_⟩, by omega⟩
             rw [List.take_add_one, List.take_add_one, hkm, hu, hv])
          | (have e : ¬ u = v := by first | assumption | (simp_all; done)
             have hne : ¬ a = b := fun e2 => by
               subst e2
               rw [hx] at hy
               cases hy
               rw [hu] at hv
               cases hv
               exact e rfl
             rw [decide_eq_false hne]; exact DLe.refl _)
      · have hkk : k = x.days.length := by omega
        subst hkk
        rw [List.take_length, hlen, List.take_length] at hkm
        have hxy : x = y := by
          obtain ⟨h1, h2, h3⟩ := hk
          cases x; cases y
          simp only at h1 h2 h3 hkm
          subst h1; subst h2; subst h3; subst hkm; rfl
        repeat' ((conv => whnf); first | (with_reducible first | refine dT ?_ | refine dU ?_ | refine dF ?_ | refine dG ?_) | refine aT ?_ | refine aF ?_ | refine dS (fun _ => ?_) fun _ => ?_ | refine aW ?_ | refine aC ?_ | refine aL ?_ | refine Prep.skip ?_ | refine Eith.l ?_ | refine aD ?_ | refine aB (fun _ => ?_) fun _ => ?_ | refine nthK_mk (map_get hx) ?_ | refine nthK_mk (map_get hy) ?_ | fail)
        all_goals (conv => whnf)
        all_goals first
          | (exfalso; omega)
          | exact ⟨i + 1, Wm.end sam rfl rfl rfl, ⟨hlt, by rw [List.take_add_one, List.take_add_one, hm, hx, hy, hxy]⟩, by omega⟩
    · have : i = a.length := by omega
      subst this
      rw [List.take_length, he, List.take_length] at hm
      repeat' ((conv => whnf); first | (with_reducible first | refine dT ?_ | refine dU ?_ | refine dF ?_ | refine dG ?_) | refine aT ?_ | refine aF ?_ | refine dS (fun _ => ?_) fun _ => ?_ | refine aW ?_ | refine aC ?_ | refine aL ?_ | refine Prep.skip ?_ | refine Eith.l ?_ | refine aD ?_ | refine aB (fun _ => ?_) fun _ => ?_)
      all_goals (conv => whnf)
      rw [decide_eq_true hm]; exact DLe.refl _
  · repeat' ((conv => whnf); first | (with_reducible first | refine dT ?_ | refine dU ?_ | refine dF ?_ | refine dG ?_) | refine aT ?_ | refine aF ?_ | refine dS (fun _ => ?_) fun _ => ?_ | refine aW ?_ | refine aC ?_ | refine aL ?_ | refine Prep.skip ?_ | refine Eith.l ?_ | refine aD ?_ | refine aB (fun _ => ?_) fun _ => ?_)
    all_goals (conv => whnf)
    rw [decide_eq_false (fun h => he (by rw [h]))]; exact DLe.refl _
theorem ref42_Same (a b : Dl) (h1 : a.gone.length < 2 ^ 40) (h2 : a.new.length < 2 ^ 40) (h3 : a.why.length < 2 ^ 40) (hd : ∀ w ∈ a.why, w.days.length < 2 ^ 40) : CallP Tryd.prog 21 [.d a.d, .d b.d] (retD [.b (decide (a = b))]) := by
  refine exPure_sound (E := envOf Tryd.prog tt Tryd.f21.ntmps) (envOf_ok ttok mixed) Tryd.func21 (by rfl) rfl rfl (Nat.le_of_ble_eq_true rfl) ?_
  repeat' ((conv => whnf); first | (with_reducible first | refine dT ?_ | refine dU ?_ | refine dF ?_ | refine dG ?_) | refine aT ?_ | refine aF ?_ | refine dS (fun _ => ?_) fun _ => ?_ | refine aW ?_ | refine aC ?_ | refine aL ?_ | refine Prep.skip ?_ | refine Eith.l ?_ | refine aD ?_ | refine aB (fun _ => ?_) fun _ => ?_ | refine ACall.ofB (ref42_SameEntries _ _ h1) (fun _ => ?_) (fun _ => ?_) | refine ACall.ofB (ref42_SameEntries _ _ h2) (fun _ => ?_) (fun _ => ?_) | refine ACall.ofB (ref42_SameReasons _ _ h3 hd) (fun _ => ?_) (fun _ => ?_) | fail)
  all_goals (conv => whnf)
  all_goals try simp only [decide_eq_true_eq, decide_eq_false_iff_not] at *
  all_goals first
    | (have e : a = b := by cases a; cases b; simp_all
       rw [decide_eq_true e]; exact DLe.refl _)
    | (have e : ¬ a = b := fun e => by subst e; simp_all
       rw [decide_eq_false e]; exact DLe.refl _)
def hasN (l : List Ent) (n : ByteArray) : Prop := ∃ y ∈ l, y.name = n
instance (l : List Ent) (n : ByteArray) : Decidable (hasN l n) := by unfold hasN; infer_instance
end Go.PM
