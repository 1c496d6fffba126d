/- The type table of the program, the data of links, package cmp; package network and its reference: what they lean on. -/
import Derived.Test.YtoadefidkdmheaaPmKit
import Derived.KernelRfl
import Derived.Test.YtoadefidkdmheaaProg
namespace Go.PM
open Go.Proofs
set_option maxRecDepth 10000

instance : Glob := ⟨[]⟩
def tt : TT := [
  (3, ⟨.int .i64, 1, 8, [.i .i64 0]⟩),
  (4, ⟨.bool, 1, 1, [.b false]⟩),
  (5, ⟨.int .u8, 1, 1, [.i .u8 0]⟩),
  (9, ⟨.string, 1, 16, [.s ⟨#[]⟩]⟩),
  (22, ⟨.slice 28, 1, 24, [.sl 0 true []]⟩),
  (23, ⟨.slice 55, 1, 24, [.sl 0 true []]⟩),
  (24, ⟨.str [(0, 22), (1, 23)], 2, 48, [.sl 0 true [], .sl 0 true []]⟩),
  (25, ⟨.str [(0, 22), (1, 23)], 2, 48, [.sl 0 true [], .sl 0 true []]⟩),
  (26, ⟨.slice 5, 1, 24, [.sl 0 true []]⟩),
  (27, ⟨.str [(0, 3), (1, 3), (2, 26)], 3, 40, [.i .i64 0, .i .i64 0, .sl 0 true []]⟩),
  (28, ⟨.str [(0, 3), (1, 3), (2, 26)], 3, 40, [.i .i64 0, .i .i64 0, .sl 0 true []]⟩),
  (31, ⟨.int .i64, 1, 8, [.i .i64 0]⟩),
  (42, ⟨.int .u64, 1, 8, [.i .u64 0]⟩),
  (45, ⟨.slice 3, 1, 24, [.sl 0 true []]⟩),
  (48, ⟨.slice 52, 1, 24, [.sl 0 true []]⟩),
  (51, ⟨.str [(0, 5), (1, 5), (2, 5), (3, 5), (4, 5)], 5, 5, [.i .u8 0, .i .u8 0, .i .u8 0, .i .u8 0, .i .u8 0]⟩),
  (52, ⟨.str [(0, 5), (1, 5), (2, 5), (3, 5), (4, 5)], 5, 5, [.i .u8 0, .i .u8 0, .i .u8 0, .i .u8 0, .i .u8 0]⟩),
  (55, ⟨.arr 2 3, 2, 16, [.i .i64 0, .i .i64 0]⟩),
  (58, ⟨.other, 1, 8, [.k .nilFunc]⟩),
  (64, ⟨.other, 1, 8, [.k .nilFunc]⟩),
  (65, ⟨.other, 1, 8, [.k .nilFunc]⟩),
  (74, ⟨.other, 1, 8, [.k .nilFunc]⟩),
  (78, ⟨.int .i64, 1, 8, [.i .i64 0]⟩),
  (86, ⟨.int .u32, 1, 4, [.i .u32 0]⟩),
  (88, ⟨.int .u64, 1, 8, [.i .u64 0]⟩),
  (89, ⟨.int .u64, 1, 8, [.i .u64 0]⟩),
  (93, ⟨.other, 1, 8, [.k (.pointer none)]⟩),
  (95, ⟨.other, 1, 8, [.k (.pointer none)]⟩)]
theorem ttok : tokB Try.prog tt = true := by kernel_rfl
theorem mixed : Try.prog.follows .mixedOrders = true := by kernel_rfl

def U8 (b : UInt8) : D := .i .u8 (b.toNat : Int)
structure Pkt where
  src : Int
  dst : Int
  data : List UInt8
  deriving DecidableEq
def Pkt.d (p : Pkt) : D := .agg [I p.src, I p.dst, SL 1 (p.data.map U8)]
structure Pair where
  a : Int
  b : Int
  deriving DecidableEq
def Pair.d (p : Pair) : D := .agg [I p.a, I p.b]
structure Net where
  queue : List Pkt
  apart : List Pair
  deriving DecidableEq
def Net.d (n : Net) : D := .agg [SL 3 (n.queue.map Pkt.d), SL 2 (n.apart.map Pair.d)]

/-! ### package cmp -/

theorem cmp_isNaN (x : Int) : CallP Try.prog 52 [.d (I x)] (retD [.b false]) := by
  refine exPure_sound (E := envOf Try.prog tt Try.f52.ntmps) (envOf_ok ttok mixed) Try.func52 (by rfl) rfl rfl (Nat.le_of_ble_eq_true rfl) ?_
  repeat' ((conv => whnf); first | with_reducible refine Dec.t (show true = true from rfl) ?_ | with_reducible refine Dec.t (show false = false from rfl) ?_ | with_reducible refine Dec.f (show ¬ (true = false) by decide) ?_ | with_reducible refine Dec.f (show ¬ (false = true) by decide) ?_ | refine Dec.t (by omega) ?_ | refine Dec.f (by omega) ?_ | refine Dec.split (fun _ => ?_) (fun _ => ?_) | refine Wr.id (by omega) ?_ | refine Chk.mk (by first | omega | exact rfl | (simp only [List.length_map]; omega) | (simp [room]; done) | (simp [room]; omega) | (simp [dropL, room]; done) | (simp [dropL, room]; omega)) ?_ | refine Nam.mk (List.length_map _) ?_ | refine Prep.skip ?_ | refine Eith.l ?_ | refine chk_t (x := D.flat _) (by assumption) ?_ | refine br_mk (fun _ => ?_) (fun _ => ?_))
  all_goals (conv => whnf)
  exact DLe.refl _

def cmpI (x y : Int) : Int := if x < y then -1 else if y < x then 1 else 0

theorem cmp_Compare (x y : Int) : CallP Try.prog 46 [.d (I x), .d (I y)] (retD [I (cmpI x y)]) := by
  refine exPure_sound (E := envOf Try.prog tt Try.f46.ntmps) (envOf_ok ttok mixed) Try.func46 (by rfl) rfl rfl (Nat.le_of_ble_eq_true rfl) ?_
  repeat' ((conv => whnf); first | with_reducible refine Dec.t (show true = true from rfl) ?_ | with_reducible refine Dec.t (show false = false from rfl) ?_ | with_reducible refine Dec.f (show ¬ (true = false) by decide) ?_ | with_reducible refine Dec.f (show ¬ (false = true) by decide) ?_ | refine Dec.t (by omega) ?_ | refine Dec.f (by omega) ?_ | refine Dec.split (fun _ => ?_) (fun _ => ?_) | refine Wr.id (by omega) ?_ | refine Chk.mk (by first | omega | exact rfl | (simp only [List.length_map]; omega) | (simp [room]; done) | (simp [room]; omega) | (simp [dropL, room]; done) | (simp [dropL, room]; omega)) ?_ | refine Nam.mk (List.length_map _) ?_ | refine Prep.skip ?_ | refine Eith.l ?_ | refine chk_t (x := D.flat _) (by assumption) ?_ | refine br_mk (fun _ => ?_) (fun _ => ?_) | refine ACall.of (cmp_isNaN _) ?_)
  all_goals (conv => whnf)
  all_goals (simp only [cmpI]; simp only [*, if_true, if_false]; exact DLe.refl _)

def orL : List Int → Int
  | [] => 0
  | x :: r => if x = 0 then orL r else x

theorem cmp_Or (l : List Int) (hl : l.length < 2 ^ 62) : CallP Try.prog 45 [.d (SL 1 (l.map I))] (retD [I (orL l)]) := by
  refine exPure_sound (E := envOf Try.prog tt Try.f45.ntmps) (envOf_ok ttok mixed) Try.func45 (by rfl) rfl rfl (Nat.le_of_ble_eq_true rfl) ?_
  repeat' ((conv => whnf); first | with_reducible refine Dec.t (show true = true from rfl) ?_ | with_reducible refine Dec.t (show false = false from rfl) ?_ | with_reducible refine Dec.f (show ¬ (true = false) by decide) ?_ | with_reducible refine Dec.f (show ¬ (false = true) by decide) ?_ | refine Dec.t (by omega) ?_ | refine Dec.f (by omega) ?_ | refine Dec.split (fun _ => ?_) (fun _ => ?_) | refine Wr.id (by omega) ?_ | refine Chk.mk (by first | omega | exact rfl | (simp only [List.length_map]; omega) | (simp [room]; done) | (simp [room]; omega) | (simp [dropL, room]; done) | (simp [dropL, room]; omega)) ?_ | refine Nam.mk (List.length_map _) ?_ | refine Prep.skip ?_ | refine Eith.l ?_ | refine chk_t (x := D.flat _) (by assumption) ?_ | refine br_mk (fun _ => ?_) (fun _ => ?_))
  conv => whnf
  refine ALoop.at (E := envOf Try.prog tt Try.f45.ntmps) (envOf_ok ttok mixed) (X := Nat) (fun i => [(8, .d (I i))]) (fun _ => [])
    (fun i => i ≤ l.length ∧ orL (l.drop i) = orL l) (fun i => l.length - i) 0 ((by repeat (first | exact trivial | refine And.intro rfl ?_ | refine And.intro (congrArg (fun n => V.d (I n)) (wrap_nat _ (by omega))) ?_))) rfl ⟨Nat.zero_le _, rfl⟩ ?_
  rintro i ⟨hi, hm⟩
  by_cases hlt : i < l.length
  · obtain ⟨x, hx, hd⟩ := drop_get hlt
    rw [hd, orL] at hm
    repeat' ((conv => whnf); first | with_reducible refine Dec.t (show true = true from rfl) ?_ | with_reducible refine Dec.t (show false = false from rfl) ?_ | with_reducible refine Dec.f (show ¬ (true = false) by decide) ?_ | with_reducible refine Dec.f (show ¬ (false = true) by decide) ?_ | refine Dec.t (by omega) ?_ | refine Dec.f (by omega) ?_ | refine Dec.split (fun _ => ?_) (fun _ => ?_) | refine Wr.id (by omega) ?_ | refine Chk.mk (by first | omega | exact rfl | (simp only [List.length_map]; omega) | (simp [room]; done) | (simp [room]; omega) | (simp [dropL, room]; done) | (simp [dropL, room]; omega)) ?_ | refine Nam.mk (List.length_map _) ?_ | refine Prep.skip ?_ | refine Eith.l ?_ | refine chk_t (x := D.flat _) (by assumption) ?_ | refine br_mk (fun _ => ?_) (fun _ => ?_) | refine nthK_mk (map_get hx) ?_)
    all_goals (conv => whnf)
    · rename_i h
      rw [if_pos h] at hm
      refine ⟨i + 1, Wm.end ((by repeat (first | exact trivial | refine And.intro rfl ?_ | refine And.intro (congrArg (fun n => V.d (I n)) (wrap_nat _ (by omega))) ?_))) rfl rfl rfl, ⟨hlt, hm⟩, by omega⟩
    · rename_i h
      rw [if_neg h] at hm
      rw [← hm]; exact DLe.refl _
  · have : i = l.length := by omega
    subst this
    rw [List.drop_length] at hm
    rw [← hm]
    repeat' ((conv => whnf); first | with_reducible refine Dec.t (show true = true from rfl) ?_ | with_reducible refine Dec.t (show false = false from rfl) ?_ | with_reducible refine Dec.f (show ¬ (true = false) by decide) ?_ | with_reducible refine Dec.f (show ¬ (false = true) by decide) ?_ | refine Dec.t (by omega) ?_ | refine Dec.f (by omega) ?_ | refine Dec.split (fun _ => ?_) (fun _ => ?_) | refine Wr.id (by omega) ?_ | refine Chk.mk (by first | omega | exact rfl | (simp only [List.length_map]; omega) | (simp [room]; done) | (simp [room]; omega) | (simp [dropL, room]; done) | (simp [dropL, room]; omega)) ?_ | refine Nam.mk (List.length_map _) ?_ | refine Prep.skip ?_ | refine Eith.l ?_ | refine chk_t (x := D.flat _) (by assumption) ?_ | refine br_mk (fun _ => ?_) (fun _ => ?_))
    conv => whnf
    exact DLe.refl _


def site (n : Int) : Prop := 0 ≤ n ∧ n < 16
instance (n : Int) : Decidable (site n) := by unfold site; infer_instance
def Pkt.ok (p : Pkt) : Prop := site p.src ∧ site p.dst ∧ p.src ≠ p.dst ∧ p.data.length ≤ 1048576
instance (p : Pkt) : Decidable p.ok := by unfold Pkt.ok; infer_instance
theorem net_party (n : Int) : CallP Try.prog 31 [.d (I n)] (retD [.b (decide (site n))]) := by
  refine exPure_sound (E := envOf Try.prog tt Try.f31.ntmps) (envOf_ok ttok mixed) Try.func31 (by rfl) rfl rfl (Nat.le_of_ble_eq_true rfl) ?_
  repeat' ((conv => whnf); first | with_reducible refine Dec.t (show true = true from rfl) ?_ | with_reducible refine Dec.t (show false = false from rfl) ?_ | with_reducible refine Dec.f (show ¬ (true = false) by decide) ?_ | with_reducible refine Dec.f (show ¬ (false = true) by decide) ?_ | refine Dec.t (by omega) ?_ | refine Dec.f (by omega) ?_ | refine Dec.split (fun _ => ?_) (fun _ => ?_) | refine Wr.id (by omega) ?_ | refine Chk.mk (by first | omega | exact rfl | (simp only [List.length_map]; omega) | (simp [room]; done) | (simp [room]; omega) | (simp [dropL, room]; done) | (simp [dropL, room]; omega)) ?_ | refine Nam.mk (List.length_map _) ?_ | refine Prep.skip ?_ | refine Eith.l ?_ | refine chk_t (x := D.flat _) (by assumption) ?_ | refine br_mk (fun _ => ?_) (fun _ => ?_) | fail)
  all_goals (conv => whnf)
  all_goals first | (rw [decide_eq_true (by unfold site; omega)]; exact DLe.refl _) | (rw [decide_eq_false (by unfold site; omega)]; exact DLe.refl _)
theorem ref46_Site (n : Int) : CallP Try.prog 33 [.d (I n)] (retD [.b (decide (site n))]) := by
  refine exPure_sound (E := envOf Try.prog tt Try.f33.ntmps) (envOf_ok ttok mixed) Try.func33 (by rfl) rfl rfl (Nat.le_of_ble_eq_true rfl) ?_
  repeat' ((conv => whnf); first | with_reducible refine Dec.t (show true = true from rfl) ?_ | with_reducible refine Dec.t (show false = false from rfl) ?_ | with_reducible refine Dec.f (show ¬ (true = false) by decide) ?_ | with_reducible refine Dec.f (show ¬ (false = true) by decide) ?_ | refine Dec.t (by omega) ?_ | refine Dec.f (by omega) ?_ | refine Dec.split (fun _ => ?_) (fun _ => ?_) | refine Wr.id (by omega) ?_ | refine Chk.mk (by first | omega | exact rfl | (simp only [List.length_map]; omega) | (simp [room]; done) | (simp [room]; omega) | (simp [dropL, room]; done) | (simp [dropL, room]; omega)) ?_ | refine Nam.mk (List.length_map _) ?_ | refine Prep.skip ?_ | refine Eith.l ?_ | refine chk_t (x := D.flat _) (by assumption) ?_ | refine br_mk (fun _ => ?_) (fun _ => ?_) | fail)
  all_goals (conv => whnf)
  all_goals first | (rw [decide_eq_true (by unfold site; omega)]; exact DLe.refl _) | (rw [decide_eq_false (by unfold site; omega)]; exact DLe.refl _)
theorem net_right (p : Pkt) : CallP Try.prog 28 [.d p.d] (retD [.b (decide p.ok)]) := by
  refine exPure_sound (E := envOf Try.prog tt Try.f28.ntmps) (envOf_ok ttok mixed) Try.func28 (by rfl) rfl rfl (Nat.le_of_ble_eq_true rfl) ?_
  repeat' ((conv => whnf); first | with_reducible refine Dec.t (show true = true from rfl) ?_ | with_reducible refine Dec.t (show false = false from rfl) ?_ | with_reducible refine Dec.f (show ¬ (true = false) by decide) ?_ | with_reducible refine Dec.f (show ¬ (false = true) by decide) ?_ | refine Dec.t (by omega) ?_ | refine Dec.f (by omega) ?_ | refine Dec.split (fun _ => ?_) (fun _ => ?_) | refine Wr.id (by omega) ?_ | refine Chk.mk (by first | omega | exact rfl | (simp only [List.length_map]; omega) | (simp [room]; done) | (simp [room]; omega) | (simp [dropL, room]; done) | (simp [dropL, room]; omega)) ?_ | refine Nam.mk (List.length_map _) ?_ | refine Prep.skip ?_ | refine Eith.l ?_ | refine chk_t (x := D.flat _) (by assumption) ?_ | refine br_mk (fun _ => ?_) (fun _ => ?_) | refine ACall.ofB (net_party _) (fun _ => ?_) (fun _ => ?_) | refine APCall.ofB (net_party _) (fun _ => ?_) (fun _ => ?_) | fail)
  all_goals (conv => whnf)
  all_goals try simp only [decide_eq_true_eq, decide_eq_false_iff_not] at *
  all_goals first | (rw [decide_eq_true (by unfold Pkt.ok; unfold site at *; omega)]; exact DLe.refl _) | (rw [decide_eq_false (by unfold Pkt.ok; unfold site at *; omega)]; exact DLe.refl _)
theorem ref46_Packet (p : Pkt) : CallP Try.prog 30 [.d p.d] (retD [.b (decide p.ok)]) := by
  refine exPure_sound (E := envOf Try.prog tt Try.f30.ntmps) (envOf_ok ttok mixed) Try.func30 (by rfl) rfl rfl (Nat.le_of_ble_eq_true rfl) ?_
  repeat' ((conv => whnf); first | with_reducible refine Dec.t (show true = true from rfl) ?_ | with_reducible refine Dec.t (show false = false from rfl) ?_ | with_reducible refine Dec.f (show ¬ (true = false) by decide) ?_ | with_reducible refine Dec.f (show ¬ (false = true) by decide) ?_ | refine Dec.t (by omega) ?_ | refine Dec.f (by omega) ?_ | refine Dec.split (fun _ => ?_) (fun _ => ?_) | refine Wr.id (by omega) ?_ | refine Chk.mk (by first | omega | exact rfl | (simp only [List.length_map]; omega) | (simp [room]; done) | (simp [room]; omega) | (simp [dropL, room]; done) | (simp [dropL, room]; omega)) ?_ | refine Nam.mk (List.length_map _) ?_ | refine Prep.skip ?_ | refine Eith.l ?_ | refine chk_t (x := D.flat _) (by assumption) ?_ | refine br_mk (fun _ => ?_) (fun _ => ?_) | refine ACall.ofB (ref46_Site _) (fun _ => ?_) (fun _ => ?_) | refine APCall.ofB (ref46_Site _) (fun _ => ?_) (fun _ => ?_) | fail)
  all_goals (conv => whnf)
  all_goals try simp only [decide_eq_true_eq, decide_eq_false_iff_not] at *
  all_goals first | (rw [decide_eq_true (by unfold Pkt.ok; unfold site at *; omega)]; exact DLe.refl _) | (rw [decide_eq_false (by unfold Pkt.ok; unfold site at *; omega)]; exact DLe.refl _)
def cfPair (x y : Pair) : Int := orL [cmpI x.a y.a, cmpI x.b y.b]
theorem net_compare (x y : Pair) : CallP Try.prog 32 [.d x.d, .d y.d] (retD [I (cfPair x y)]) := by
  refine exPure_sound (E := envOf Try.prog tt Try.f32.ntmps) (envOf_ok ttok mixed) Try.func32 (by rfl) rfl rfl (Nat.le_of_ble_eq_true rfl) ?_
  repeat' ((conv => whnf); first | with_reducible refine Dec.t (show true = true from rfl) ?_ | with_reducible refine Dec.t (show false = false from rfl) ?_ | with_reducible refine Dec.f (show ¬ (true = false) by decide) ?_ | with_reducible refine Dec.f (show ¬ (false = true) by decide) ?_ | refine Dec.t (by omega) ?_ | refine Dec.f (by omega) ?_ | refine Dec.split (fun _ => ?_) (fun _ => ?_) | refine Wr.id (by omega) ?_ | refine Chk.mk (by first | omega | exact rfl | (simp only [List.length_map]; omega) | (simp [room]; done) | (simp [room]; omega) | (simp [dropL, room]; done) | (simp [dropL, room]; omega)) ?_ | refine Nam.mk (List.length_map _) ?_ | refine Prep.skip ?_ | refine Eith.l ?_ | refine chk_t (x := D.flat _) (by assumption) ?_ | refine br_mk (fun _ => ?_) (fun _ => ?_) | refine APCall.of (cmp_Compare _ _) ?_ | refine APCall.le (by repeat (first | exact trivial | exact rfl | exact DLe.refl _ | exact DLe.full _ _ _ | exact DLe.nil _ _ _ | exact VLe.refl _ | refine And.intro ?_ ?_ | refine VLe.d ?_ | refine DLe.agg ?_)) (cmp_Or [_, _] (by simp)) ?_ | fail)
  all_goals (conv => whnf)
  exact DLe.refl _
def linkM (a b : Int) : Pair := ⟨if b < a then b else a, if b > a then b else a⟩
theorem net_link (a b : Int) : CallP Try.prog 36 [.d (I a), .d (I b)] (retD [(linkM a b).d]) := by
  refine exPure_sound (E := envOf Try.prog tt Try.f36.ntmps) (envOf_ok ttok mixed) Try.func36 (by rfl) rfl rfl (Nat.le_of_ble_eq_true rfl) ?_
  repeat' ((conv => whnf); first | with_reducible refine Dec.t (show true = true from rfl) ?_ | with_reducible refine Dec.t (show false = false from rfl) ?_ | with_reducible refine Dec.f (show ¬ (true = false) by decide) ?_ | with_reducible refine Dec.f (show ¬ (false = true) by decide) ?_ | refine Dec.t (by omega) ?_ | refine Dec.f (by omega) ?_ | refine Dec.split (fun _ => ?_) (fun _ => ?_) | refine Wr.id (by omega) ?_ | refine Chk.mk (by first | omega | exact rfl | (simp only [List.length_map]; omega) | (simp [room]; done) | (simp [room]; omega) | (simp [dropL, room]; done) | (simp [dropL, room]; omega)) ?_ | refine Nam.mk (List.length_map _) ?_ | refine Prep.skip ?_ | refine Eith.l ?_ | refine chk_t (x := D.flat _) (by assumption) ?_ | refine br_mk (fun _ => ?_) (fun _ => ?_) | fail)
  all_goals (conv => whnf)
  exact DLe.refl _
end Go.PM

