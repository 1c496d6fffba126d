/- The type table of the program, and the data of package api. -/
import Derived.Test.YtbgdpjhgdboigaaPmKit
import Derived.KernelRfl
import Derived.Test.YtbgdpjhgdboigaaProg
namespace Go.PM
open Go.Proofs

instance : Glob := ⟨[]⟩
def tt : TT := [
  (3, ⟨.int .i64, 1, 8, [.i .i64 0]⟩),
  (4, ⟨.bool, 1, 1, [.b false]⟩),
  (5, ⟨.int .u8, 1, 1, [.i .u8 0]⟩),
  (22, ⟨.slice 64, 1, 24, [.sl 0 true []]⟩),
  (23, ⟨.slice 59, 1, 24, [.sl 0 true []]⟩),
  (24, ⟨.slice 3, 1, 24, [.sl 0 true []]⟩),
  (25, ⟨.slice 4, 1, 24, [.sl 0 true []]⟩),
  (26, ⟨.str [(0, 22), (1, 23), (2, 24), (3, 24), (4, 25)], 5, 120, [.sl 0 true [], .sl 0 true [], .sl 0 true [], .sl 0 true [], .sl 0 true []]⟩),
  (27, ⟨.str [(0, 22), (1, 23), (2, 24), (3, 24), (4, 25)], 5, 120, [.sl 0 true [], .sl 0 true [], .sl 0 true [], .sl 0 true [], .sl 0 true []]⟩),
  (30, ⟨.int .i64, 1, 8, [.i .i64 0]⟩),
  (37, ⟨.str [(0, 3), (1, 3), (2, 3)], 3, 24, [.i .i64 0, .i .i64 0, .i .i64 0]⟩),
  (38, ⟨.str [(0, 3), (1, 3), (2, 3)], 3, 24, [.i .i64 0, .i .i64 0, .i .i64 0]⟩),
  (39, ⟨.str [(0, 3), (1, 3)], 2, 16, [.i .i64 0, .i .i64 0]⟩),
  (40, ⟨.str [(0, 3), (1, 3)], 2, 16, [.i .i64 0, .i .i64 0]⟩),
  (41, ⟨.str [(0, 38), (3, 3), (4, 40)], 6, 48, [.i .i64 0, .i .i64 0, .i .i64 0, .i .i64 0, .i .i64 0, .i .i64 0]⟩),
  (42, ⟨.str [(0, 38), (3, 3), (4, 40)], 6, 48, [.i .i64 0, .i .i64 0, .i .i64 0, .i .i64 0, .i .i64 0, .i .i64 0]⟩),
  (48, ⟨.slice 38, 1, 24, [.sl 0 true []]⟩),
  (54, ⟨.slice 56, 1, 24, [.sl 0 true []]⟩),
  (55, ⟨.str [(0, 5), (1, 3), (2, 42)], 8, 64, [.i .u8 0, .i .i64 0, .i .i64 0, .i .i64 0, .i .i64 0, .i .i64 0, .i .i64 0, .i .i64 0]⟩),
  (56, ⟨.str [(0, 5), (1, 3), (2, 42)], 8, 64, [.i .u8 0, .i .i64 0, .i .i64 0, .i .i64 0, .i .i64 0, .i .i64 0, .i .i64 0, .i .i64 0]⟩),
  (59, ⟨.slice 42, 1, 24, [.sl 0 true []]⟩),
  (61, ⟨.map 38 4, 1, 8, [.k (.map none)]⟩),
  (63, ⟨.str [(0, 38), (3, 3), (4, 40), (6, 3), (7, 3)], 8, 64, [.i .i64 0, .i .i64 0, .i .i64 0, .i .i64 0, .i .i64 0, .i .i64 0, .i .i64 0, .i .i64 0]⟩),
  (64, ⟨.str [(0, 38), (3, 3), (4, 40), (6, 3), (7, 3)], 8, 64, [.i .i64 0, .i .i64 0, .i .i64 0, .i .i64 0, .i .i64 0, .i .i64 0, .i .i64 0, .i .i64 0]⟩),
  (87, ⟨.other, 1, 8, [.k .nilFunc]⟩),
  (90, ⟨.slice 107, 1, 24, [.sl 0 true []]⟩),
  (95, ⟨.other, 1, 8, [.k .nilFunc]⟩),
  (98, ⟨.other, 1, 8, [.k .nilFunc]⟩),
  (99, ⟨.other, 1, 8, [.k .nilFunc]⟩),
  (101, ⟨.other, 1, 8, [.k .nilFunc]⟩),
  (106, ⟨.str [(0, 3), (1, 3)], 2, 16, [.i .i64 0, .i .i64 0]⟩),
  (107, ⟨.str [(0, 3), (1, 3)], 2, 16, [.i .i64 0, .i .i64 0]⟩),
  (110, ⟨.other, 1, 8, [.k .nilFunc]⟩),
  (111, ⟨.other, 1, 8, [.k .nilFunc]⟩),
  (115, ⟨.other, 1, 8, [.k .nilFunc]⟩),
  (120, ⟨.int .u64, 1, 8, [.i .u64 0]⟩),
  (122, ⟨.int .i64, 1, 8, [.i .i64 0]⟩),
  (129, ⟨.int .u32, 1, 4, [.i .u32 0]⟩),
  (131, ⟨.int .u64, 1, 8, [.i .u64 0]⟩),
  (132, ⟨.int .u64, 1, 8, [.i .u64 0]⟩),
  (136, ⟨.other, 1, 8, [.k (.pointer none)]⟩),
  (138, ⟨.other, 1, 8, [.k (.pointer none)]⟩)]
theorem ttok : tokB Try.prog tt = true := by kernel_rfl
theorem mixed : Try.prog.follows .mixedOrders = true := by kernel_rfl

structure Key where
  kind : Int
  subj : Int
  obj : Int
  deriving DecidableEq
def Key.d (k : Key) : D := .agg [I k.kind, I k.subj, I k.obj]

structure Fact where
  kind : Int
  subj : Int
  obj : Int
  value : Int
  from_ : Int
  to_ : Int
  known : Int
  no : Int
  deriving DecidableEq
def Fact.d (f : Fact) : D := .agg [I f.kind, I f.subj, I f.obj, I f.value, I f.from_, I f.to_, I f.known, I f.no]
def Fact.key (f : Fact) : Key := ⟨f.kind, f.subj, f.obj⟩
def Fact.zero : Fact := ⟨0, 0, 0, 0, 0, 0, 0, 0⟩

structure Read where
  kind : Int
  subj : Int
  obj : Int
  from_ : Int
  to_ : Int
  deriving DecidableEq
def Read.d (r : Read) : D := .agg [I r.kind, I r.subj, I r.obj, I r.from_, I r.to_]
def Read.key (r : Read) : Key := ⟨r.kind, r.subj, r.obj⟩

structure Swap where
  a : ByteArray
  b : ByteArray
  ano : Int
  bno : Int
def Swap.d (s : Swap) : D := .agg [.s s.a, .s s.b, I s.ano, I s.bno]

structure AWorld where
  u1 : D
  u2 : D
  u3 : D
  u4 : D
  u5 : D
  u6 : D
  u7 : D
  swaps : List Swap
  u9 : D
  u10 : D
  facts : List Fact
def AWorld.src (w : AWorld) : D := .agg [w.u1, w.u2, w.u3, w.u4, w.u5, w.u6, w.u7, SL 4 (w.swaps.map Swap.d)]
def AWorld.d (w : AWorld) : D := .agg [w.u1, w.u2, w.u3, w.u4, w.u5, w.u6, w.u7, SL 4 (w.swaps.map Swap.d), w.u9, w.u10, SL 8 (w.facts.map Fact.d)]

theorem eqKey (k k' : Key) : eqD tt 4 38 k.d.cells k'.d.cells = decide (k = k') := by
  rw [show eqD tt 4 38 k.d.cells k'.d.cells = (k.kind == k'.kind && (k.subj == k'.subj && (k.obj == k'.obj && true))) from rfl]
  rw [Bool.eq_iff_iff]
  cases k; cases k'
  simp
theorem eqFact (k k' : Fact) : eqD tt 4 64 k.d.cells k'.d.cells = decide (k = k') := by
  rw [show eqD tt 4 64 k.d.cells k'.d.cells = ((k.kind == k'.kind && (k.subj == k'.subj && (k.obj == k'.obj && true))) && (k.value == k'.value && ((k.from_ == k'.from_ && (k.to_ == k'.to_ && true)) && (k.known == k'.known && (k.no == k'.no && true))))) from rfl]
  rw [Bool.eq_iff_iff]
  cases k; cases k'
  simp [and_assoc]

/-! ### package cmp -/

theorem cmp_isNaN (x : Int) : CallP Try.prog 81 [.d (I x)] (retD [.b false]) := by
  refine exPure_sound (E := envOf Try.prog tt Try.f81.ntmps) (envOf_ok ttok mixed) Try.func81 (by rfl) rfl rfl (Nat.le_of_ble_eq_true rfl) ?_
  repeat' ((conv => whnf); first | with_reducible refine Dec.t (show true = true from rfl) ?_ | with_reducible refine Dec.t (show false = false from rfl) ?_ | with_reducible refine Dec.f (show ¬ (true = false) by decide) ?_ | with_reducible refine Dec.f (show ¬ (false = true) by decide) ?_ | refine Dec.t (by omega) ?_ | refine Dec.f (by omega) ?_ | refine Dec.split (fun _ => ?_) (fun _ => ?_) | refine Wr.id (by omega) ?_ | refine Chk.mk (by first | omega | exact rfl | (simp only [List.length_map]; omega) | (simp [room]; done) | (simp [room]; omega) | (simp [dropL, room]; done) | (simp [dropL, room]; omega)) ?_ | refine Nam.mk (List.length_map _) ?_ | refine Prep.skip ?_ | refine Eith.l ?_ | refine chk_t (x := D.flat _) (by assumption) ?_ | refine br_mk (fun _ => ?_) (fun _ => ?_))
  all_goals (conv => whnf)
  exact DLe.refl _

def cmpI (x y : Int) : Int := if x < y then -1 else if y < x then 1 else 0

theorem cmp_Compare (x y : Int) : CallP Try.prog 74 [.d (I x), .d (I y)] (retD [I (cmpI x y)]) := by
  refine exPure_sound (E := envOf Try.prog tt Try.f74.ntmps) (envOf_ok ttok mixed) Try.func74 (by rfl) rfl rfl (Nat.le_of_ble_eq_true rfl) ?_
  repeat' ((conv => whnf); first | with_reducible refine Dec.t (show true = true from rfl) ?_ | with_reducible refine Dec.t (show false = false from rfl) ?_ | with_reducible refine Dec.f (show ¬ (true = false) by decide) ?_ | with_reducible refine Dec.f (show ¬ (false = true) by decide) ?_ | refine Dec.t (by omega) ?_ | refine Dec.f (by omega) ?_ | refine Dec.split (fun _ => ?_) (fun _ => ?_) | refine Wr.id (by omega) ?_ | refine Chk.mk (by first | omega | exact rfl | (simp only [List.length_map]; omega) | (simp [room]; done) | (simp [room]; omega) | (simp [dropL, room]; done) | (simp [dropL, room]; omega)) ?_ | refine Nam.mk (List.length_map _) ?_ | refine Prep.skip ?_ | refine Eith.l ?_ | refine chk_t (x := D.flat _) (by assumption) ?_ | refine br_mk (fun _ => ?_) (fun _ => ?_) | refine ACall.of (cmp_isNaN _) ?_)
  all_goals (conv => whnf)
  all_goals (simp only [cmpI]; simp only [*, if_true, if_false]; exact DLe.refl _)

def orL : List Int → Int
  | [] => 0
  | x :: r => if x = 0 then orL r else x

theorem cmp_Or (l : List Int) (hl : l.length < 2 ^ 62) : CallP Try.prog 73 [.d (SL 1 (l.map I))] (retD [I (orL l)]) := by
  refine exPure_sound (E := envOf Try.prog tt Try.f73.ntmps) (envOf_ok ttok mixed) Try.func73 (by rfl) rfl rfl (Nat.le_of_ble_eq_true rfl) ?_
  repeat' ((conv => whnf); first | with_reducible refine Dec.t (show true = true from rfl) ?_ | with_reducible refine Dec.t (show false = false from rfl) ?_ | with_reducible refine Dec.f (show ¬ (true = false) by decide) ?_ | with_reducible refine Dec.f (show ¬ (false = true) by decide) ?_ | refine Dec.t (by omega) ?_ | refine Dec.f (by omega) ?_ | refine Dec.split (fun _ => ?_) (fun _ => ?_) | refine Wr.id (by omega) ?_ | refine Chk.mk (by first | omega | exact rfl | (simp only [List.length_map]; omega) | (simp [room]; done) | (simp [room]; omega) | (simp [dropL, room]; done) | (simp [dropL, room]; omega)) ?_ | refine Nam.mk (List.length_map _) ?_ | refine Prep.skip ?_ | refine Eith.l ?_ | refine chk_t (x := D.flat _) (by assumption) ?_ | refine br_mk (fun _ => ?_) (fun _ => ?_))
  conv => whnf
  refine ALoop.at (E := envOf Try.prog tt Try.f73.ntmps) (envOf_ok ttok mixed) (X := Nat) (fun i => [(8, .d (I i))]) (fun _ => [])
    (fun i => i ≤ l.length ∧ orL (l.drop i) = orL l) (fun i => l.length - i) 0 ((by repeat (first | exact trivial | refine And.intro rfl ?_ | refine And.intro (congrArg (fun n => V.d (I n)) (wrap_nat _ (by omega))) ?_))) rfl ⟨Nat.zero_le _, rfl⟩ ?_
  rintro i ⟨hi, hm⟩
  by_cases hlt : i < l.length
  · obtain ⟨x, hx, hd⟩ := drop_get hlt
    rw [hd, orL] at hm
    repeat' ((conv => whnf); first | with_reducible refine Dec.t (show true = true from rfl) ?_ | with_reducible refine Dec.t (show false = false from rfl) ?_ | with_reducible refine Dec.f (show ¬ (true = false) by decide) ?_ | with_reducible refine Dec.f (show ¬ (false = true) by decide) ?_ | refine Dec.t (by omega) ?_ | refine Dec.f (by omega) ?_ | refine Dec.split (fun _ => ?_) (fun _ => ?_) | refine Wr.id (by omega) ?_ | refine Chk.mk (by first | omega | exact rfl | (simp only [List.length_map]; omega) | (simp [room]; done) | (simp [room]; omega) | (simp [dropL, room]; done) | (simp [dropL, room]; omega)) ?_ | refine Nam.mk (List.length_map _) ?_ | refine Prep.skip ?_ | refine Eith.l ?_ | refine chk_t (x := D.flat _) (by assumption) ?_ | refine br_mk (fun _ => ?_) (fun _ => ?_) | refine nthK_mk (map_get hx) ?_)
    all_goals (conv => whnf)
    · rename_i h
      rw [if_pos h] at hm
      refine ⟨i + 1, Wm.end ((by repeat (first | exact trivial | refine And.intro rfl ?_ | refine And.intro (congrArg (fun n => V.d (I n)) (wrap_nat _ (by omega))) ?_))) rfl rfl rfl, ⟨hlt, hm⟩, by omega⟩
    · rename_i h
      rw [if_neg h] at hm
      rw [← hm]; exact DLe.refl _
  · have : i = l.length := by omega
    subst this
    rw [List.drop_length] at hm
    rw [← hm]
    repeat' ((conv => whnf); first | with_reducible refine Dec.t (show true = true from rfl) ?_ | with_reducible refine Dec.t (show false = false from rfl) ?_ | with_reducible refine Dec.f (show ¬ (true = false) by decide) ?_ | with_reducible refine Dec.f (show ¬ (false = true) by decide) ?_ | refine Dec.t (by omega) ?_ | refine Dec.f (by omega) ?_ | refine Dec.split (fun _ => ?_) (fun _ => ?_) | refine Wr.id (by omega) ?_ | refine Chk.mk (by first | omega | exact rfl | (simp only [List.length_map]; omega) | (simp [room]; done) | (simp [room]; omega) | (simp [dropL, room]; done) | (simp [dropL, room]; omega)) ?_ | refine Nam.mk (List.length_map _) ?_ | refine Prep.skip ?_ | refine Eith.l ?_ | refine chk_t (x := D.flat _) (by assumption) ?_ | refine br_mk (fun _ => ?_) (fun _ => ?_))
    conv => whnf
    exact DLe.refl _
end Go.PM

