/- Deltas, law 42: few, equal. -/
import Derived.Test.YtfckliidjmeeaaaDoorP42atoL42a
namespace Go.PM
open Go.Proofs
set_option maxRecDepth 10000
set_option maxHeartbeats 2000000

instance : DecidableEq Rat := fun a b => decidable_of_iff (a.neg = b.neg ∧ a.n = b.n ∧ a.d = b.d) (by cases a; cases b; simp)
instance : DecidableEq Nee := fun a b => decidable_of_iff (a.l = b.l ∧ a.day = b.day ∧ a.amt = b.amt ∧ a.kind = b.kind ∧ a.no = b.no) (by cases a; cases b; simp)
instance : DecidableEq Pe := fun a b => decidable_of_iff (a.kind = b.kind ∧ a.no = b.no ∧ a.need = b.need ∧ a.amt = b.amt) (by cases a; cases b; simp)
theorem eqLin (x y : Lin) : eqD tt 4 65 x.d.cells y.d.cells = decide (x = y) := by
  rw [show eqD tt 4 65 x.d.cells y.d.cells = (x.a == y.a && (x.b == y.b && (x.c == y.c && true))) from rfl]
  rw [Bool.eq_iff_iff]
  cases x; cases y
  simp
theorem eqRat (x y : Rat) : eqD tt 4 60 x.cells.cells y.cells.cells = decide (x = y) := by
  rw [show eqD tt 4 60 x.cells.cells y.cells.cells = (x.neg == y.neg && (x.n.toList == y.n.toList && (x.d.toList == y.d.toList && true))) from rfl]
  rw [Bool.eq_iff_iff]
  cases x; cases y
  simp [ba_eq]
theorem eqNee (x y : Nee) : eqD tt 4 67 x.d.cells y.d.cells = decide (x = y) := by
  rw [show eqD tt 4 67 x.d.cells y.d.cells = ((x.l.a == y.l.a && (x.l.b == y.l.b && (x.l.c == y.l.c && true))) && (x.day == y.day && ((x.amt.neg == y.amt.neg && (x.amt.n.toList == y.amt.n.toList && (x.amt.d.toList == y.amt.d.toList && true))) && (x.kind == y.kind && (x.no == y.no && true))))) from rfl]
  rw [Bool.eq_iff_iff]
  obtain ⟨⟨a, b, c⟩, d, ⟨e, f, g⟩, h, i⟩ := x
  obtain ⟨⟨a', b', c'⟩, d', ⟨e', f', g'⟩, h', i'⟩ := y
  simp [ba_eq, and_assoc]
theorem eqLo (x y : Lo) : eqD tt 4 91 x.d.cells y.d.cells = decide (x = y) := by
  rw [show eqD tt 4 91 x.d.cells y.d.cells = ((x.l.a == y.l.a && (x.l.b == y.l.b && (x.l.c == y.l.c && true))) && (x.day == y.day && (x.amt == y.amt && true))) from rfl]
  rw [Bool.eq_iff_iff]
  obtain ⟨⟨a, b, c⟩, d, e⟩ := x
  obtain ⟨⟨a', b', c'⟩, d', e'⟩ := y
  simp [and_assoc]
theorem eqJo (x y : Jo) : eqD tt 4 94 x.d.cells y.d.cells = decide (x = y) := by
  rw [show eqD tt 4 94 x.d.cells y.d.cells = (x.a == y.a && (x.b == y.b && (x.c == y.c && (x.s == y.s && (x.e == y.e && (x.f == y.f && true)))))) from rfl]
  rw [Bool.eq_iff_iff]
  cases x; cases y
  simp
theorem eqPe (x y : Pe) : eqD tt 4 78 x.d.cells y.d.cells = decide (x = y) := by
  rw [show eqD tt 4 78 x.d.cells y.d.cells = (x.kind == y.kind && (x.no == y.no && (x.need == y.need && ((x.amt.neg == y.amt.neg && (x.amt.n.toList == y.amt.n.toList && (x.amt.d.toList == y.amt.d.toList && true))) && true)))) from rfl]
  rw [Bool.eq_iff_iff]
  obtain ⟨d, h, i, ⟨e, f, g⟩⟩ := x
  obtain ⟨d', h', i', ⟨e', f', g'⟩⟩ := y
  simp [ba_eq]
theorem eqRd (x y : Rd) : eqD tt 4 125 x.d.cells y.d.cells = decide (x = y) := by
  rw [show eqD tt 4 125 x.d.cells y.d.cells = ((x.a == y.a && (x.b == y.b && (x.c == y.c && true))) && (x.s == y.s && (x.e == y.e && true))) from rfl]
  rw [Bool.eq_iff_iff]
  cases x; cases y
  simp [and_assoc]

theorem equal_int (a b : List (Int)) (hl : a.length < 2 ^ 40)  : CallP Tryd.prog 60 [.d (SL 1 (a.map I)), .d (SL 1 (b.map I))] (retD [.b (decide (a = b))]) := by
  refine exPure_sound (E := envOf Tryd.prog tt Tryd.f60.ntmps) (envOf_ok ttok mixed) Tryd.func60 (by rfl) rfl rfl (Nat.le_of_ble_eq_true rfl) ?_
  by_cases he : a.length = b.length
  · repeat' ((conv => whnf); first | (with_reducible first | refine dT ?_ | refine dU ?_ | refine dF ?_ | refine dG ?_) | refine aT ?_ | refine aF ?_ | refine dS (fun _ => ?_) fun _ => ?_ | refine aW ?_ | refine aC ?_ | refine aL ?_ | refine Prep.skip ?_ | refine Eith.l ?_ | refine aD ?_ | refine aB (fun _ => ?_) fun _ => ?_)
    conv => whnf
    refine ALoop.at (E := envOf Tryd.prog tt Tryd.f60.ntmps) (envOf_ok ttok mixed) (X := Nat) (fun i => [(13, .d (I i))]) (fun _ => []) (fun i => i ≤ a.length ∧ a.take i = b.take i) (fun i => a.length - i) 0 sam rfl ⟨Nat.zero_le _, rfl⟩ ?_
    rintro i ⟨hi, hm⟩
    by_cases hlt : i < a.length
    · obtain ⟨x, hx, _⟩ := drop_get hlt
      obtain ⟨y, hy, _⟩ := drop_get (l := b) (i := i) (by omega)
      repeat' ((conv => whnf); first | (with_reducible first | refine dT ?_ | refine dU ?_ | refine dF ?_ | refine dG ?_) | refine aT ?_ | refine aF ?_ | refine dS (fun _ => ?_) fun _ => ?_ | refine aW ?_ | refine aC ?_ | refine aL ?_ | refine Prep.skip ?_ | refine Eith.l ?_ | refine aD ?_ | refine aB (fun _ => ?_) fun _ => ?_ | refine nthK_mk (map_get hx) ?_ | refine nthK_mk (map_get hy) ?_ | fail)
      all_goals (conv => whnf)
      all_goals try simp only [decide_eq_true_eq, decide_eq_false_iff_not] at *
      all_goals first
        | (have e : x = y := by first | assumption | (simp_all; done)
           subst e
           refine ⟨i + 1, Wm.end sam rfl rfl rfl, ⟨hlt, ?_⟩, by omega⟩
           rw [List.take_add_one, List.take_add_one, hm, hx, hy])
        | (have e : ¬ x = y := by first | assumption | (simp_all; done)
           rw [decide_eq_false (fun h => e (by subst h; rw [hx] at hy; exact Option.some.inj hy))]; exact DLe.refl _)
    · have : i = a.length := by omega
      subst this
      rw [List.take_length, he, List.take_length] at hm
      repeat' ((conv => whnf); first | (with_reducible first | refine dT ?_ | refine dU ?_ | refine dF ?_ | refine dG ?_) | refine aT ?_ | refine aF ?_ | refine dS (fun _ => ?_) fun _ => ?_ | refine aW ?_ | refine aC ?_ | refine aL ?_ | refine Prep.skip ?_ | refine Eith.l ?_ | refine aD ?_ | refine aB (fun _ => ?_) fun _ => ?_)
      all_goals (conv => whnf)
      rw [decide_eq_true hm]; exact DLe.refl _
  · repeat' ((conv => whnf); first | (with_reducible first | refine dT ?_ | refine dU ?_ | refine dF ?_ | refine dG ?_) | refine aT ?_ | refine aF ?_ | refine dS (fun _ => ?_) fun _ => ?_ | refine aW ?_ | refine aC ?_ | refine aL ?_ | refine Prep.skip ?_ | refine Eith.l ?_ | refine aD ?_ | refine aB (fun _ => ?_) fun _ => ?_)
    all_goals (conv => whnf)
    rw [decide_eq_false (fun h => he (by rw [h]))]; exact DLe.refl _


theorem equal_Lin (a b : List (Lin)) (hl : a.length < 2 ^ 40)  : CallP Tryd.prog 57 [.d (SL 3 (a.map Lin.d)), .d (SL 3 (b.map Lin.d))] (retD [.b (decide (a = b))]) := by
  refine exPure_sound (E := envOf Tryd.prog tt Tryd.f57.ntmps) (envOf_ok ttok mixed) Tryd.func57 (by rfl) rfl rfl (Nat.le_of_ble_eq_true rfl) ?_
  by_cases he : a.length = b.length
  · repeat' ((conv => whnf); first | (with_reducible first | refine dT ?_ | refine dU ?_ | refine dF ?_ | refine dG ?_) | refine aT ?_ | refine aF ?_ | refine dS (fun _ => ?_) fun _ => ?_ | refine aW ?_ | refine aC ?_ | refine aL ?_ | refine Prep.skip ?_ | refine Eith.l ?_ | refine aD ?_ | refine aB (fun _ => ?_) fun _ => ?_)
    conv => whnf
    refine ALoop.at (E := envOf Tryd.prog tt Tryd.f57.ntmps) (envOf_ok ttok mixed) (X := Nat) (fun i => [(13, .d (I i))]) (fun _ => []) (fun i => i ≤ a.length ∧ a.take i = b.take i) (fun i => a.length - i) 0 sam rfl ⟨Nat.zero_le _, rfl⟩ ?_
    rintro i ⟨hi, hm⟩
    by_cases hlt : i < a.length
    · obtain ⟨x, hx, _⟩ := drop_get hlt
      obtain ⟨y, hy, _⟩ := drop_get (l := b) (i := i) (by omega)
      repeat' ((conv => whnf); first | (with_reducible first | refine dT ?_ | refine dU ?_ | refine dF ?_ | refine dG ?_) | refine aT ?_ | refine aF ?_ | refine dS (fun _ => ?_) fun _ => ?_ | refine aW ?_ | refine aC ?_ | refine aL ?_ | refine Prep.skip ?_ | refine Eith.l ?_ | refine aD ?_ | refine aB (fun _ => ?_) fun _ => ?_ | refine nthK_mk (map_get hx) ?_ | refine nthK_mk (map_get hy) ?_ | refine Nam.dec (eqLin x y) (fun _ => ?_) (fun _ => ?_))
      all_goals (conv => whnf)
      all_goals try simp only [decide_eq_true_eq, decide_eq_false_iff_not] at *
      all_goals first
        | (have e : x = y := by first | assumption | (simp_all; done)
           subst e
           refine ⟨i + 1, Wm.end sam rfl rfl rfl, ⟨hlt, ?_⟩, by omega⟩
           rw [List.take_add_one, List.take_add_one, hm, hx, hy])
        | (have e : ¬ x = y := by first | assumption | (simp_all; done)
           rw [decide_eq_false (fun h => e (by subst h; rw [hx] at hy; exact Option.some.inj hy))]; exact DLe.refl _)
    · have : i = a.length := by omega
      subst this
      rw [List.take_length, he, List.take_length] at hm
      repeat' ((conv => whnf); first | (with_reducible first | refine dT ?_ | refine dU ?_ | refine dF ?_ | refine dG ?_) | refine aT ?_ | refine aF ?_ | refine dS (fun _ => ?_) fun _ => ?_ | refine aW ?_ | refine aC ?_ | refine aL ?_ | refine Prep.skip ?_ | refine Eith.l ?_ | refine aD ?_ | refine aB (fun _ => ?_) fun _ => ?_)
      all_goals (conv => whnf)
      rw [decide_eq_true hm]; exact DLe.refl _
  · repeat' ((conv => whnf); first | (with_reducible first | refine dT ?_ | refine dU ?_ | refine dF ?_ | refine dG ?_) | refine aT ?_ | refine aF ?_ | refine dS (fun _ => ?_) fun _ => ?_ | refine aW ?_ | refine aC ?_ | refine aL ?_ | refine Prep.skip ?_ | refine Eith.l ?_ | refine aD ?_ | refine aB (fun _ => ?_) fun _ => ?_)
    all_goals (conv => whnf)
    rw [decide_eq_false (fun h => he (by rw [h]))]; exact DLe.refl _


theorem equal_Nee (a b : List (Nee)) (hl : a.length < 2 ^ 40)  : CallP Tryd.prog 58 [.d (SL 9 (a.map Nee.d)), .d (SL 9 (b.map Nee.d))] (retD [.b (decide (a = b))]) := by
  refine exPure_sound (E := envOf Tryd.prog tt Tryd.f58.ntmps) (envOf_ok ttok mixed) Tryd.func58 (by rfl) rfl rfl (Nat.le_of_ble_eq_true rfl) ?_
  by_cases he : a.length = b.length
  · repeat' ((conv => whnf); first | (with_reducible first | refine dT ?_ | refine dU ?_ | refine dF ?_ | refine dG ?_) | refine aT ?_ | refine aF ?_ | refine dS (fun _ => ?_) fun _ => ?_ | refine aW ?_ | refine aC ?_ | refine aL ?_ | refine Prep.skip ?_ | refine Eith.l ?_ | refine aD ?_ | refine aB (fun _ => ?_) fun _ => ?_)
    conv => whnf
    refine ALoop.at (E := envOf Tryd.prog tt Tryd.f58.ntmps) (envOf_ok ttok mixed) (X := Nat) (fun i => [(13, .d (I i))]) (fun _ => []) (fun i => i ≤ a.length ∧ a.take i = b.take i) (fun i => a.length - i) 0 sam rfl ⟨Nat.zero_le _, rfl⟩ ?_
    rintro i ⟨hi, hm⟩
    by_cases hlt : i < a.length
    · obtain ⟨x, hx, _⟩ := drop_get hlt
      obtain ⟨y, hy, _⟩ := drop_get (l := b) (i := i) (by omega)
      repeat' ((conv => whnf); first | (with_reducible first | refine dT ?_ | refine dU ?_ | refine dF ?_ | refine dG ?_) | refine aT ?_ | refine aF ?_ | refine dS (fun _ => ?_) fun _ => ?_ | refine aW ?_ | refine aC ?_ | refine aL ?_ | refine Prep.skip ?_ | refine Eith.l ?_ | refine aD ?_ | refine aB (fun _ => ?_) fun _ => ?_ | refine nthK_mk (map_get hx) ?_ | refine nthK_mk (map_get hy) ?_ | refine Nam.dec (eqNee x y) (fun _ => ?_) (fun _ => ?_))
      all_goals (conv => whnf)
      all_goals try simp only [decide_eq_true_eq, decide_eq_false_iff_not] at *
      all_goals first
        | (have e : x = y := by first | assumption | (simp_all; done)
           subst e
           refine ⟨i + 1, Wm.end sam rfl rfl rfl, ⟨hlt, ?_⟩, by omega⟩
           rw [List.take_add_one, List.take_add_one, hm, hx, hy])
        | (have e : ¬ x = y := by first | assumption | (simp_all; done)
           rw [decide_eq_false (fun h => e (by subst h; rw [hx] at hy; exact Option.some.inj hy))]; exact DLe.refl _)
    · have : i = a.length := by omega
      subst this
      rw [List.take_length, he, List.take_length] at hm
      repeat' ((conv => whnf); first | (with_reducible first | refine dT ?_ | refine dU ?_ | refine dF ?_ | refine dG ?_) | refine aT ?_ | refine aF ?_ | refine dS (fun _ => ?_) fun _ => ?_ | refine aW ?_ | refine aC ?_ | refine aL ?_ | refine Prep.skip ?_ | refine Eith.l ?_ | refine aD ?_ | refine aB (fun _ => ?_) fun _ => ?_)
      all_goals (conv => whnf)
      rw [decide_eq_true hm]; exact DLe.refl _
  · repeat' ((conv => whnf); first | (with_reducible first | refine dT ?_ | refine dU ?_ | refine dF ?_ | refine dG ?_) | refine aT ?_ | refine aF ?_ | refine dS (fun _ => ?_) fun _ => ?_ | refine aW ?_ | refine aC ?_ | refine aL ?_ | refine Prep.skip ?_ | refine Eith.l ?_ | refine aD ?_ | refine aB (fun _ => ?_) fun _ => ?_)
    all_goals (conv => whnf)
    rw [decide_eq_false (fun h => he (by rw [h]))]; exact DLe.refl _


theorem equal_Lo (a b : List (Lo)) (hl : a.length < 2 ^ 40)  : CallP Tryd.prog 59 [.d (SL 5 (a.map Lo.d)), .d (SL 5 (b.map Lo.d))] (retD [.b (decide (a = b))]) := by
  refine exPure_sound (E := envOf Tryd.prog tt Tryd.f59.ntmps) (envOf_ok ttok mixed) Tryd.func59 (by rfl) rfl rfl (Nat.le_of_ble_eq_true rfl) ?_
  by_cases he : a.length = b.length
  · repeat' ((conv => whnf); first | (with_reducible first | refine dT ?_ | refine dU ?_ | refine dF ?_ | refine dG ?_) | refine aT ?_ | refine aF ?_ | refine dS (fun _ => ?_) fun _ => ?_ | refine aW ?_ | refine aC ?_ | refine aL ?_ | refine Prep.skip ?_ | refine Eith.l ?_ | refine aD ?_ | refine aB (fun _ => ?_) fun _ => ?_)
    conv => whnf
    refine ALoop.at (E := envOf Tryd.prog tt Tryd.f59.ntmps) (envOf_ok ttok mixed) (X := Nat) (fun i => [(13, .d (I i))]) (fun _ => []) (fun i => i ≤ a.length ∧ a.take i = b.take i) (fun i => a.length - i) 0 sam rfl ⟨Nat.zero_le _, rfl⟩ ?_
    rintro i ⟨hi, hm⟩
    by_cases hlt : i < a.length
    · obtain ⟨x, hx, _⟩ := drop_get hlt
      obtain ⟨y, hy, _⟩ := drop_get (l := b) (i := i) (by omega)
      repeat' ((conv => whnf); first | (with_reducible first | refine dT ?_ | refine dU ?_ | refine dF ?_ | refine dG ?_) | refine aT ?_ | refine aF ?_ | refine dS (fun _ => ?_) fun _ => ?_ | refine aW ?_ | refine aC ?_ | refine aL ?_ | refine Prep.skip ?_ | refine Eith.l ?_ | refine aD ?_ | refine aB (fun _ => ?_) fun _ => ?_ | refine nthK_mk (map_get hx) ?_ | refine nthK_mk (map_get hy) ?_ | refine Nam.dec (eqLo x y) (fun _ => ?_) (fun _ => ?_))
      all_goals (conv => whnf)
      all_goals try simp only [decide_eq_true_eq, decide_eq_false_iff_not] at *
      all_goals first
        | (have e : x = y := by first | assumption | (simp_all; done)
           subst e
           refine ⟨i + 1, Wm.end sam rfl rfl rfl, ⟨hlt, ?_⟩, by omega⟩
           rw [List.take_add_one, List.take_add_one, hm, hx, hy])
        | (have e : ¬ x = y := by first | assumption | (simp_all; done)
           rw [decide_eq_false (fun h => e (by subst h; rw [hx] at hy; exact Option.some.inj hy))]; exact DLe.refl _)
    · have : i = a.length := by omega
      subst this
      rw [List.take_length, he, List.take_length] at hm
      repeat' ((conv => whnf); first | (with_reducible first | refine dT ?_ | refine dU ?_ | refine dF ?_ | refine dG ?_) | refine aT ?_ | refine aF ?_ | refine dS (fun _ => ?_) fun _ => ?_ | refine aW ?_ | refine aC ?_ | refine aL ?_ | refine Prep.skip ?_ | refine Eith.l ?_ | refine aD ?_ | refine aB (fun _ => ?_) fun _ => ?_)
      all_goals (conv => whnf)
      rw [decide_eq_true hm]; exact DLe.refl _
  · repeat' ((conv => whnf); first | (with_reducible first | refine dT ?_ | refine dU ?_ | refine dF ?_ | refine dG ?_) | refine aT ?_ | refine aF ?_ | refine dS (fun _ => ?_) fun _ => ?_ | refine aW ?_ | refine aC ?_ | refine aL ?_ | refine Prep.skip ?_ | refine Eith.l ?_ | refine aD ?_ | refine aB (fun _ => ?_) fun _ => ?_)
    all_goals (conv => whnf)
    rw [decide_eq_false (fun h => he (by rw [h]))]; exact DLe.refl _


theorem equal_Jo (a b : List (Jo)) (hl : a.length < 2 ^ 40)  : CallP Tryd.prog 61 [.d (SL 6 (a.map Jo.d)), .d (SL 6 (b.map Jo.d))] (retD [.b (decide (a = b))]) := by
  refine exPure_sound (E := envOf Tryd.prog tt Tryd.f61.ntmps) (envOf_ok ttok mixed) Tryd.func61 (by rfl) rfl rfl (Nat.le_of_ble_eq_true rfl) ?_
  by_cases he : a.length = b.length
  · repeat' ((conv => whnf); first | (with_reducible first | refine dT ?_ | refine dU ?_ | refine dF ?_ | refine dG ?_) | refine aT ?_ | refine aF ?_ | refine dS (fun _ => ?_) fun _ => ?_ | refine aW ?_ | refine aC ?_ | refine aL ?_ | refine Prep.skip ?_ | refine Eith.l ?_ | refine aD ?_ | refine aB (fun _ => ?_) fun _ => ?_)
    conv => whnf
    refine ALoop.at (E := envOf Tryd.prog tt Tryd.f61.ntmps) (envOf_ok ttok mixed) (X := Nat) (fun i => [(13, .d (I i))]) (fun _ => []) (fun i => i ≤ a.length ∧ a.take i = b.take i) (fun i => a.length - i) 0 sam rfl ⟨Nat.zero_le _, rfl⟩ ?_
    rintro i ⟨hi, hm⟩
    by_cases hlt : i < a.length
    · obtain ⟨x, hx, _⟩ := drop_get hlt
      obtain ⟨y, hy, _⟩ := drop_get (l := b) (i := i) (by omega)
      repeat' ((conv => whnf); first | (with_reducible first | refine dT ?_ | refine dU ?_ | refine dF ?_ | refine dG ?_) | refine aT ?_ | refine aF ?_ | refine dS (fun _ => ?_) fun _ => ?_ | refine aW ?_ | refine aC ?_ | refine aL ?_ | refine Prep.skip ?_ | refine Eith.l ?_ | refine aD ?_ | refine aB (fun _ => ?_) fun _ => ?_ | refine nthK_mk (map_get hx) ?_ | refine nthK_mk (map_get hy) ?_ | refine Nam.dec (eqJo x y) (fun _ => ?_) (fun _ => ?_))
      all_goals (conv => whnf)
      all_goals try simp only [decide_eq_true_eq, decide_eq_false_iff_not] at *
      all_goals first
        | (have e : x = y := by first | assumption | (simp_all; done)
           subst e
           refine ⟨i + 1, Wm.end sam rfl rfl rfl, ⟨hlt, ?_⟩, by omega⟩
           rw [List.take_add_one, List.take_add_one, hm, hx, hy])
        | (have e : ¬ x = y := by first | assumption | (simp_all; done)
           rw [decide_eq_false (fun h => e (by subst h; rw [hx] at hy; exact Option.some.inj hy))]; exact DLe.refl _)
    · have : i = a.length := by omega
      subst this
      rw [List.take_length, he, List.take_length] at hm
      repeat' ((conv => whnf); first | (with_reducible first | refine dT ?_ | refine dU ?_ | refine dF ?_ | refine dG ?_) | refine aT ?_ | refine aF ?_ | refine dS (fun _ => ?_) fun _ => ?_ | refine aW ?_ | refine aC ?_ | refine aL ?_ | refine Prep.skip ?_ | refine Eith.l ?_ | refine aD ?_ | refine aB (fun _ => ?_) fun _ => ?_)
      all_goals (conv => whnf)
      rw [decide_eq_true hm]; exact DLe.refl _
  · repeat' ((conv => whnf); first | (with_reducible first | refine dT ?_ | refine dU ?_ | refine dF ?_ | refine dG ?_) | refine aT ?_ | refine aF ?_ | refine dS (fun _ => ?_) fun _ => ?_ | refine aW ?_ | refine aC ?_ | refine aL ?_ | refine Prep.skip ?_ | refine Eith.l ?_ | refine aD ?_ | refine aB (fun _ => ?_) fun _ => ?_)
    all_goals (conv => whnf)
    rw [decide_eq_false (fun h => he (by rw [h]))]; exact DLe.refl _


theorem equal_Pe (a b : List (Pe)) (hl : a.length < 2 ^ 40)  : CallP Tryd.prog 62 [.d (SL 6 (a.map Pe.d)), .d (SL 6 (b.map Pe.d))] (retD [.b (decide (a = b))]) := by
  refine exPure_sound (E := envOf Tryd.prog tt Tryd.f62.ntmps) (envOf_ok ttok mixed) Tryd.func62 (by rfl) rfl rfl (Nat.le_of_ble_eq_true rfl) ?_
  by_cases he : a.length = b.length
  · repeat' ((conv => whnf); first | (with_reducible first | refine dT ?_ | refine dU ?_ | refine dF ?_ | refine dG ?_) | refine aT ?_ | refine aF ?_ | refine dS (fun _ => ?_) fun _ => ?_ | refine aW ?_ | refine aC ?_ | refine aL ?_ | refine Prep.skip ?_ | refine Eith.l ?_ | refine aD ?_ | refine aB (fun _ => ?_) fun _ => ?_)
    conv => whnf
    refine ALoop.at (E := envOf Tryd.prog tt Tryd.f62.ntmps) (envOf_ok ttok mixed) (X := Nat) (fun i => [(13, .d (I i))]) (fun _ => []) (fun i => i ≤ a.length ∧ a.take i = b.take i) (fun i => a.length - i) 0 sam rfl ⟨Nat.zero_le _, rfl⟩ ?_
    rintro i ⟨hi, hm⟩
    by_cases hlt : i < a.length
    · obtain ⟨x, hx, _⟩ := drop_get hlt
      obtain ⟨y, hy, _⟩ := drop_get (l := b) (i := i) (by omega)
      repeat' ((conv => whnf); first | (with_reducible first | refine dT ?_ | refine dU ?_ | refine dF ?_ | refine dG ?_) | refine aT ?_ | refine aF ?_ | refine dS (fun _ => ?_) fun _ => ?_ | refine aW ?_ | refine aC ?_ | refine aL ?_ | refine Prep.skip ?_ | refine Eith.l ?_ | refine aD ?_ | refine aB (fun _ => ?_) fun _ => ?_ | refine nthK_mk (map_get hx) ?_ | refine nthK_mk (map_get hy) ?_ | refine Nam.dec (eqPe x y) (fun _ => ?_) (fun _ => ?_))
      all_goals (conv => whnf)
      all_goals try simp only [decide_eq_true_eq, decide_eq_false_iff_not] at *
      all_goals first
        | (have e : x = y := by first | assumption | (simp_all; done)
           subst e
           refine ⟨i + 1, Wm.end sam rfl rfl rfl, ⟨hlt, ?_⟩, by omega⟩
           rw [List.take_add_one, List.take_add_one, hm, hx, hy])
        | (have e : ¬ x = y := by first | assumption | (simp_all; done)
           rw [decide_eq_false (fun h => e (by subst h; rw [hx] at hy; exact Option.some.inj hy))]; exact DLe.refl _)
    · have : i = a.length := by omega
      subst this
      rw [List.take_length, he, List.take_length] at hm
      repeat' ((conv => whnf); first | (with_reducible first | refine dT ?_ | refine dU ?_ | refine dF ?_ | refine dG ?_) | refine aT ?_ | refine aF ?_ | refine dS (fun _ => ?_) fun _ => ?_ | refine aW ?_ | refine aC ?_ | refine aL ?_ | refine Prep.skip ?_ | refine Eith.l ?_ | refine aD ?_ | refine aB (fun _ => ?_) fun _ => ?_)
      all_goals (conv => whnf)
      rw [decide_eq_true hm]; exact DLe.refl _
  · repeat' ((conv => whnf); first | (with_reducible first | refine dT ?_ | refine dU ?_ | refine dF ?_ | refine dG ?_) | refine aT ?_ | refine aF ?_ | refine dS (fun _ => ?_) fun _ => ?_ | refine aW ?_ | refine aC ?_ | refine aL ?_ | refine Prep.skip ?_ | refine Eith.l ?_ | refine aD ?_ | refine aB (fun _ => ?_) fun _ => ?_)
    all_goals (conv => whnf)
    rw [decide_eq_false (fun h => he (by rw [h]))]; exact DLe.refl _


theorem equal_Rat (a b : List (Rat)) (hl : a.length < 2 ^ 40)  : CallP Tryd.prog 25 [.d (SL 3 (a.map Rat.cells)), .d (SL 3 (b.map Rat.cells))] (retD [.b (decide (a = b))]) := by
  refine exPure_sound (E := envOf Tryd.prog tt Tryd.f25.ntmps) (envOf_ok ttok mixed) Tryd.func25 (by rfl) rfl rfl (Nat.le_of_ble_eq_true rfl) ?_
  by_cases he : a.length = b.length
  · repeat' ((conv => whnf); first | (with_reducible first | refine dT ?_ | refine dU ?_ | refine dF ?_ | refine dG ?_) | refine aT ?_ | refine aF ?_ | refine dS (fun _ => ?_) fun _ => ?_ | refine aW ?_ | refine aC ?_ | refine aL ?_ | refine Prep.skip ?_ | refine Eith.l ?_ | refine aD ?_ | refine aB (fun _ => ?_) fun _ => ?_)
    conv => whnf
    refine ALoop.at (E := envOf Tryd.prog tt Tryd.f25.ntmps) (envOf_ok ttok mixed) (X := Nat) (fun i => [(13, .d (I i))]) (fun _ => []) (fun i => i ≤ a.length ∧ a.take i = b.take i) (fun i => a.length - i) 0 sam rfl ⟨Nat.zero_le _, rfl⟩ ?_
    rintro i ⟨hi, hm⟩
    by_cases hlt : i < a.length
    · obtain ⟨x, hx, _⟩ := drop_get hlt
      obtain ⟨y, hy, _⟩ := drop_get (l := b) (i := i) (by omega)
      repeat' ((conv => whnf); first | (with_reducible first | refine dT ?_ | refine dU ?_ | refine dF ?_ | refine dG ?_) | refine aT ?_ | refine aF ?_ | refine dS (fun _ => ?_) fun _ => ?_ | refine aW ?_ | refine aC ?_ | refine aL ?_ | refine Prep.skip ?_ | refine Eith.l ?_ | refine aD ?_ | refine aB (fun _ => ?_) fun _ => ?_ | refine nthK_mk (map_get hx) ?_ | refine nthK_mk (map_get hy) ?_ | refine Nam.dec (eqRat x y) (fun _ => ?_) (fun _ => ?_))
      all_goals (conv => whnf)
      all_goals try simp only [decide_eq_true_eq, decide_eq_false_iff_not] at *
      all_goals first
        | (have e : x = y := by first | assumption | (simp_all; done)
           subst e
           refine ⟨i + 1, Wm.end sam rfl rfl rfl, ⟨hlt, ?_⟩, by omega⟩
           rw [List.take_add_one, List.take_add_one, hm, hx, hy])
        | (have e : ¬ x = y := by first | assumption | (simp_all; done)
           rw [decide_eq_false (fun h => e (by subst h; rw [hx] at hy; exact Option.some.inj hy))]; exact DLe.refl _)
    · have : i = a.length := by omega
      subst this
      rw [List.take_length, he, List.take_length] at hm
      repeat' ((conv => whnf); first | (with_reducible first | refine dT ?_ | refine dU ?_ | refine dF ?_ | refine dG ?_) | refine aT ?_ | refine aF ?_ | refine dS (fun _ => ?_) fun _ => ?_ | refine aW ?_ | refine aC ?_ | refine aL ?_ | refine Prep.skip ?_ | refine Eith.l ?_ | refine aD ?_ | refine aB (fun _ => ?_) fun _ => ?_)
      all_goals (conv => whnf)
      rw [decide_eq_true hm]; exact DLe.refl _
  · repeat' ((conv => whnf); first | (with_reducible first | refine dT ?_ | refine dU ?_ | refine dF ?_ | refine dG ?_) | refine aT ?_ | refine aF ?_ | refine dS (fun _ => ?_) fun _ => ?_ | refine aW ?_ | refine aC ?_ | refine aL ?_ | refine Prep.skip ?_ | refine Eith.l ?_ | refine aD ?_ | refine aB (fun _ => ?_) fun _ => ?_)
    all_goals (conv => whnf)
    rw [decide_eq_false (fun h => he (by rw [h]))]; exact DLe.refl _


theorem equal_Rd (a b : List (Rd)) (hl : a.length < 2 ^ 40)  : CallP Tryd.prog 63 [.d (SL 5 (a.map Rd.d)), .d (SL 5 (b.map Rd.d))] (retD [.b (decide (a = b))]) := by
  refine exPure_sound (E := envOf Tryd.prog tt Tryd.f63.ntmps) (envOf_ok ttok mixed) Tryd.func63 (by rfl) rfl rfl (Nat.le_of_ble_eq_true rfl) ?_
  by_cases he : a.length = b.length
  · repeat' ((conv => whnf); first | (with_reducible first | refine dT ?_ | refine dU ?_ | refine dF ?_ | refine dG ?_) | refine aT ?_ | refine aF ?_ | refine dS (fun _ => ?_) fun _ => ?_ | refine aW ?_ | refine aC ?_ | refine aL ?_ | refine Prep.skip ?_ | refine Eith.l ?_ | refine aD ?_ | refine aB (fun _ => ?_) fun _ => ?_)
    conv => whnf
    refine ALoop.at (E := envOf Tryd.prog tt Tryd.f63.ntmps) (envOf_ok ttok mixed) (X := Nat) (fun i => [(13, .d (I i))]) (fun _ => []) (fun i => i ≤ a.length ∧ a.take i = b.take i) (fun i => a.length - i) 0 sam rfl ⟨Nat.zero_le _, rfl⟩ ?_
    rintro i ⟨hi, hm⟩
    by_cases hlt : i < a.length
    · obtain ⟨x, hx, _⟩ := drop_get hlt
      obtain ⟨y, hy, _⟩ := drop_get (l := b) (i := i) (by omega)
      repeat' ((conv => whnf); first | (with_reducible first | refine dT ?_ | refine dU ?_ | refine dF ?_ | refine dG ?_) | refine aT ?_ | refine aF ?_ | refine dS (fun _ => ?_) fun _ => ?_ | refine aW ?_ | refine aC ?_ | refine aL ?_ | refine Prep.skip ?_ | refine Eith.l ?_ | refine aD ?_ | refine aB (fun _ => ?_) fun _ => ?_ | refine nthK_mk (map_get hx) ?_ | refine nthK_mk (map_get hy) ?_ | refine Nam.dec (eqRd x y) (fun _ => ?_) (fun _ => ?_))
      all_goals (conv => whnf)
      all_goals try simp only [decide_eq_true_eq, decide_eq_false_iff_not] at *
      all_goals first
        | (have e : x = y := by first | assumption | (simp_all; done)
           subst e
           refine ⟨i + 1, Wm.end sam rfl rfl rfl, ⟨hlt, ?_⟩, by omega⟩
           rw [List.take_add_one, List.take_add_one, hm, hx, hy])
        | (have e : ¬ x = y := by first | assumption | (simp_all; done)
           rw [decide_eq_false (fun h => e (by subst h; rw [hx] at hy; exact Option.some.inj hy))]; exact DLe.refl _)
    · have : i = a.length := by omega
      subst this
      rw [List.take_length, he, List.take_length] at hm
      repeat' ((conv => whnf); first | (with_reducible first | refine dT ?_ | refine dU ?_ | refine dF ?_ | refine dG ?_) | refine aT ?_ | refine aF ?_ | refine dS (fun _ => ?_) fun _ => ?_ | refine aW ?_ | refine aC ?_ | refine aL ?_ | refine Prep.skip ?_ | refine Eith.l ?_ | refine aD ?_ | refine aB (fun _ => ?_) fun _ => ?_)
      all_goals (conv => whnf)
      rw [decide_eq_true hm]; exact DLe.refl _
  · repeat' ((conv => whnf); first | (with_reducible first | refine dT ?_ | refine dU ?_ | refine dF ?_ | refine dG ?_) | refine aT ?_ | refine aF ?_ | refine dS (fun _ => ?_) fun _ => ?_ | refine aW ?_ | refine aC ?_ | refine aL ?_ | refine Prep.skip ?_ | refine Eith.l ?_ | refine aD ?_ | refine aB (fun _ => ?_) fun _ => ?_)
    all_goals (conv => whnf)
    rw [decide_eq_false (fun h => he (by rw [h]))]; exact DLe.refl _

end Go.PM

