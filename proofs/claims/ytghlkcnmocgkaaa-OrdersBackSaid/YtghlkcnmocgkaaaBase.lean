/- The type table of the program, and the data of package api. -/
import Derived.Test.YtghlkcnmocgkaaaPmKit
import Derived.KernelRfl
import Derived.Test.YtghlkcnmocgkaaaProg
namespace Go.PM
open Go.Proofs

instance : Glob := ⟨[]⟩
def tt : TT := [
  (3, ⟨.int .i64, 1, 8, [.i .i64 0]⟩),
  (4, ⟨.bool, 1, 1, [.b false]⟩),
  (9, ⟨.string, 1, 16, [.s ⟨#[]⟩]⟩),
  (22, ⟨.slice 173, 1, 24, [.sl 0 true []]⟩),
  (23, ⟨.slice 175, 1, 24, [.sl 0 true []]⟩),
  (24, ⟨.slice 9, 1, 24, [.sl 0 true []]⟩),
  (25, ⟨.slice 177, 1, 24, [.sl 0 true []]⟩),
  (26, ⟨.slice 75, 1, 24, [.sl 0 true []]⟩),
  (27, ⟨.slice 76, 1, 24, [.sl 0 true []]⟩),
  (28, ⟨.slice 181, 1, 24, [.sl 0 true []]⟩),
  (29, ⟨.slice 183, 1, 24, [.sl 0 true []]⟩),
  (30, ⟨.str [(0, 22), (1, 23), (2, 24), (3, 25), (4, 26), (5, 27), (6, 28), (7, 29)], 8, 192, [.sl 0 true [], .sl 0 true [], .sl 0 true [], .sl 0 true [], .sl 0 true [], .sl 0 true [], .sl 0 true [], .sl 0 true []]⟩),
  (31, ⟨.str [(0, 22), (1, 23), (2, 24), (3, 25), (4, 26), (5, 27), (6, 28), (7, 29)], 8, 192, [.sl 0 true [], .sl 0 true [], .sl 0 true [], .sl 0 true [], .sl 0 true [], .sl 0 true [], .sl 0 true [], .sl 0 true []]⟩),
  (32, ⟨.slice 3, 1, 24, [.sl 0 true []]⟩),
  (33, ⟨.slice 184, 1, 24, [.sl 0 true []]⟩),
  (34, ⟨.str [(0, 31), (8, 32), (9, 33)], 10, 240, [.sl 0 true [], .sl 0 true [], .sl 0 true [], .sl 0 true [], .sl 0 true [], .sl 0 true [], .sl 0 true [], .sl 0 true [], .sl 0 true [], .sl 0 true []]⟩),
  (35, ⟨.str [(0, 31), (8, 32), (9, 33)], 10, 240, [.sl 0 true [], .sl 0 true [], .sl 0 true [], .sl 0 true [], .sl 0 true [], .sl 0 true [], .sl 0 true [], .sl 0 true [], .sl 0 true [], .sl 0 true []]⟩),
  (36, ⟨.slice 73, 1, 24, [.sl 0 true []]⟩),
  (37, ⟨.str [(0, 35), (10, 36)], 11, 264, [.sl 0 true [], .sl 0 true [], .sl 0 true [], .sl 0 true [], .sl 0 true [], .sl 0 true [], .sl 0 true [], .sl 0 true [], .sl 0 true [], .sl 0 true [], .sl 0 true []]⟩),
  (38, ⟨.str [(0, 35), (10, 36)], 11, 264, [.sl 0 true [], .sl 0 true [], .sl 0 true [], .sl 0 true [], .sl 0 true [], .sl 0 true [], .sl 0 true [], .sl 0 true [], .sl 0 true [], .sl 0 true [], .sl 0 true []]⟩),
  (41, ⟨.str [(0, 3), (1, 3), (2, 3), (3, 3), (4, 3), (5, 3), (6, 3), (7, 3)], 8, 64, [.i .i64 0, .i .i64 0, .i .i64 0, .i .i64 0, .i .i64 0, .i .i64 0, .i .i64 0, .i .i64 0]⟩),
  (42, ⟨.str [(0, 3), (1, 3), (2, 3), (3, 3), (4, 3), (5, 3), (6, 3), (7, 3)], 8, 64, [.i .i64 0, .i .i64 0, .i .i64 0, .i .i64 0, .i .i64 0, .i .i64 0, .i .i64 0, .i .i64 0]⟩),
  (43, ⟨.slice 95, 1, 24, [.sl 0 true []]⟩),
  (47, ⟨.slice 42, 1, 24, [.sl 0 true []]⟩),
  (50, ⟨.slice 100, 1, 24, [.sl 0 true []]⟩),
  (56, ⟨.str [(0, 3), (1, 3)], 2, 16, [.i .i64 0, .i .i64 0]⟩),
  (57, ⟨.str [(0, 3), (1, 3)], 2, 16, [.i .i64 0, .i .i64 0]⟩),
  (58, ⟨.int .i64, 1, 8, [.i .i64 0]⟩),
  (70, ⟨.str [(0, 3), (1, 3), (2, 3)], 3, 24, [.i .i64 0, .i .i64 0, .i .i64 0]⟩),
  (71, ⟨.str [(0, 3), (1, 3), (2, 3)], 3, 24, [.i .i64 0, .i .i64 0, .i .i64 0]⟩),
  (72, ⟨.str [(0, 71), (3, 3), (4, 57), (6, 3), (7, 3)], 8, 64, [.i .i64 0, .i .i64 0, .i .i64 0, .i .i64 0, .i .i64 0, .i .i64 0, .i .i64 0, .i .i64 0]⟩),
  (73, ⟨.str [(0, 71), (3, 3), (4, 57), (6, 3), (7, 3)], 8, 64, [.i .i64 0, .i .i64 0, .i .i64 0, .i .i64 0, .i .i64 0, .i .i64 0, .i .i64 0, .i .i64 0]⟩),
  (74, ⟨.str [(0, 9), (1, 24)], 2, 40, [.s ⟨#[]⟩, .sl 0 true []]⟩),
  (75, ⟨.str [(0, 9), (1, 24)], 2, 40, [.s ⟨#[]⟩, .sl 0 true []]⟩),
  (76, ⟨.slice 152, 1, 24, [.sl 0 true []]⟩),
  (78, ⟨.other, 1, 8, [.k .nilFunc]⟩),
  (79, ⟨.slice 78, 1, 24, [.sl 0 true []]⟩),
  (80, ⟨.other, 1, 8, [.k .nilFunc]⟩),
  (81, ⟨.str [(0, 71), (3, 3), (4, 78), (5, 79), (6, 80)], 7, 72, [.i .i64 0, .i .i64 0, .i .i64 0, .i .i64 0, .k .nilFunc, .sl 0 true [], .k .nilFunc]⟩),
  (82, ⟨.str [(0, 71), (3, 3), (4, 78), (5, 79), (6, 80)], 7, 72, [.i .i64 0, .i .i64 0, .i .i64 0, .i .i64 0, .k .nilFunc, .sl 0 true [], .k .nilFunc]⟩),
  (84, ⟨.other, 1, 8, [.k (.pointer none)]⟩),
  (85, ⟨.str [(0, 38), (11, 3), (12, 3), (13, 43)], 14, 304, [.sl 0 true [], .sl 0 true [], .sl 0 true [], .sl 0 true [], .sl 0 true [], .sl 0 true [], .sl 0 true [], .sl 0 true [], .sl 0 true [], .sl 0 true [], .sl 0 true [], .i .i64 0, .i .i64 0, .sl 0 true []]⟩),
  (86, ⟨.str [(0, 38), (11, 3), (12, 3), (13, 43)], 14, 304, [.sl 0 true [], .sl 0 true [], .sl 0 true [], .sl 0 true [], .sl 0 true [], .sl 0 true [], .sl 0 true [], .sl 0 true [], .sl 0 true [], .sl 0 true [], .sl 0 true [], .i .i64 0, .i .i64 0, .sl 0 true []]⟩),
  (87, ⟨.other, 1, 8, [.k .nilFunc]⟩),
  (88, ⟨.other, 1, 8, [.k .nilFunc]⟩),
  (92, ⟨.other, 1, 8, [.k .nilFunc]⟩),
  (94, ⟨.str [(0, 71), (3, 3), (4, 3)], 5, 40, [.i .i64 0, .i .i64 0, .i .i64 0, .i .i64 0, .i .i64 0]⟩),
  (95, ⟨.str [(0, 71), (3, 3), (4, 3)], 5, 40, [.i .i64 0, .i .i64 0, .i .i64 0, .i .i64 0, .i .i64 0]⟩),
  (99, ⟨.str [(0, 3), (1, 3), (2, 3), (3, 3), (4, 3), (5, 3)], 6, 48, [.i .i64 0, .i .i64 0, .i .i64 0, .i .i64 0, .i .i64 0, .i .i64 0]⟩),
  (100, ⟨.str [(0, 3), (1, 3), (2, 3), (3, 3), (4, 3), (5, 3)], 6, 48, [.i .i64 0, .i .i64 0, .i .i64 0, .i .i64 0, .i .i64 0, .i .i64 0]⟩),
  (101, ⟨.other, 1, 8, [.k .nilFunc]⟩),
  (102, ⟨.slice 101, 1, 24, [.sl 0 true []]⟩),
  (103, ⟨.other, 1, 8, [.k .nilFunc]⟩),
  (104, ⟨.str [(0, 71), (3, 3), (4, 101), (5, 102), (6, 103)], 7, 72, [.i .i64 0, .i .i64 0, .i .i64 0, .i .i64 0, .k .nilFunc, .sl 0 true [], .k .nilFunc]⟩),
  (105, ⟨.str [(0, 71), (3, 3), (4, 101), (5, 102), (6, 103)], 7, 72, [.i .i64 0, .i .i64 0, .i .i64 0, .i .i64 0, .k .nilFunc, .sl 0 true [], .k .nilFunc]⟩),
  (110, ⟨.other, 1, 8, [.k (.pointer none)]⟩),
  (111, ⟨.other, 1, 8, [.k (.pointer none)]⟩),
  (117, ⟨.other, 1, 8, [.k .nilFunc]⟩),
  (126, ⟨.other, 1, 8, [.k (.pointer none)]⟩),
  (130, ⟨.slice 133, 1, 24, [.sl 0 true []]⟩),
  (132, ⟨.str [(0, 3), (1, 3)], 2, 16, [.i .i64 0, .i .i64 0]⟩),
  (133, ⟨.str [(0, 3), (1, 3)], 2, 16, [.i .i64 0, .i .i64 0]⟩),
  (137, ⟨.slice 4, 1, 24, [.sl 0 true []]⟩),
  (138, ⟨.other, 1, 8, [.k .nilFunc]⟩),
  (139, ⟨.other, 1, 8, [.k .nilFunc]⟩),
  (141, ⟨.slice 32, 1, 24, [.sl 0 true []]⟩),
  (150, ⟨.other, 1, 8, [.k .nilFunc]⟩),
  (151, ⟨.str [(0, 9), (1, 9), (2, 3), (3, 3)], 4, 48, [.s ⟨#[]⟩, .s ⟨#[]⟩, .i .i64 0, .i .i64 0]⟩),
  (152, ⟨.str [(0, 9), (1, 9), (2, 3), (3, 3)], 4, 48, [.s ⟨#[]⟩, .s ⟨#[]⟩, .i .i64 0, .i .i64 0]⟩),
  (170, ⟨.str [(0, 4), (1, 9), (2, 9)], 3, 40, [.b false, .s ⟨#[]⟩, .s ⟨#[]⟩]⟩),
  (171, ⟨.str [(0, 4), (1, 9), (2, 9)], 3, 40, [.b false, .s ⟨#[]⟩, .s ⟨#[]⟩]⟩),
  (172, ⟨.str [(0, 9), (1, 9), (2, 3), (3, 3), (4, 3), (5, 171)], 8, 96, [.s ⟨#[]⟩, .s ⟨#[]⟩, .i .i64 0, .i .i64 0, .i .i64 0, .b false, .s ⟨#[]⟩, .s ⟨#[]⟩]⟩),
  (173, ⟨.str [(0, 9), (1, 9), (2, 3), (3, 3), (4, 3), (5, 171)], 8, 96, [.s ⟨#[]⟩, .s ⟨#[]⟩, .i .i64 0, .i .i64 0, .i .i64 0, .b false, .s ⟨#[]⟩, .s ⟨#[]⟩]⟩),
  (174, ⟨.str [(0, 9), (1, 9), (2, 3), (3, 3), (4, 3), (5, 3)], 6, 64, [.s ⟨#[]⟩, .s ⟨#[]⟩, .i .i64 0, .i .i64 0, .i .i64 0, .i .i64 0]⟩),
  (175, ⟨.str [(0, 9), (1, 9), (2, 3), (3, 3), (4, 3), (5, 3)], 6, 64, [.s ⟨#[]⟩, .s ⟨#[]⟩, .i .i64 0, .i .i64 0, .i .i64 0, .i .i64 0]⟩),
  (176, ⟨.str [(0, 9), (1, 9), (2, 3), (3, 3)], 4, 48, [.s ⟨#[]⟩, .s ⟨#[]⟩, .i .i64 0, .i .i64 0]⟩),
  (177, ⟨.str [(0, 9), (1, 9), (2, 3), (3, 3)], 4, 48, [.s ⟨#[]⟩, .s ⟨#[]⟩, .i .i64 0, .i .i64 0]⟩),
  (178, ⟨.slice 187, 1, 24, [.sl 0 true []]⟩),
  (179, ⟨.slice 189, 1, 24, [.sl 0 true []]⟩),
  (180, ⟨.str [(0, 9), (1, 9), (2, 3), (3, 3), (4, 76), (5, 178), (6, 178), (7, 3), (8, 3), (9, 3), (10, 3), (11, 3), (12, 3), (13, 3), (14, 179), (15, 3), (16, 3)], 17, 216, [.s ⟨#[]⟩, .s ⟨#[]⟩, .i .i64 0, .i .i64 0, .sl 0 true [], .sl 0 true [], .sl 0 true [], .i .i64 0, .i .i64 0, .i .i64 0, .i .i64 0, .i .i64 0, .i .i64 0, .i .i64 0, .sl 0 true [], .i .i64 0, .i .i64 0]⟩),
  (181, ⟨.str [(0, 9), (1, 9), (2, 3), (3, 3), (4, 76), (5, 178), (6, 178), (7, 3), (8, 3), (9, 3), (10, 3), (11, 3), (12, 3), (13, 3), (14, 179), (15, 3), (16, 3)], 17, 216, [.s ⟨#[]⟩, .s ⟨#[]⟩, .i .i64 0, .i .i64 0, .sl 0 true [], .sl 0 true [], .sl 0 true [], .i .i64 0, .i .i64 0, .i .i64 0, .i .i64 0, .i .i64 0, .i .i64 0, .i .i64 0, .sl 0 true [], .i .i64 0, .i .i64 0]⟩),
  (182, ⟨.str [(0, 9), (1, 9), (2, 3), (3, 3)], 4, 48, [.s ⟨#[]⟩, .s ⟨#[]⟩, .i .i64 0, .i .i64 0]⟩),
  (183, ⟨.str [(0, 9), (1, 9), (2, 3), (3, 3)], 4, 48, [.s ⟨#[]⟩, .s ⟨#[]⟩, .i .i64 0, .i .i64 0]⟩),
  (184, ⟨.slice 191, 1, 24, [.sl 0 true []]⟩),
  (186, ⟨.str [(0, 3), (1, 3), (2, 9), (3, 9), (4, 4), (5, 3), (6, 3)], 7, 72, [.i .i64 0, .i .i64 0, .s ⟨#[]⟩, .s ⟨#[]⟩, .b false, .i .i64 0, .i .i64 0]⟩),
  (187, ⟨.str [(0, 3), (1, 3), (2, 9), (3, 9), (4, 4), (5, 3), (6, 3)], 7, 72, [.i .i64 0, .i .i64 0, .s ⟨#[]⟩, .s ⟨#[]⟩, .b false, .i .i64 0, .i .i64 0]⟩),
  (188, ⟨.str [(0, 9), (1, 3), (2, 3)], 3, 32, [.s ⟨#[]⟩, .i .i64 0, .i .i64 0]⟩),
  (189, ⟨.str [(0, 9), (1, 3), (2, 3)], 3, 32, [.s ⟨#[]⟩, .i .i64 0, .i .i64 0]⟩),
  (190, ⟨.str [(0, 3), (1, 3), (2, 3), (3, 171)], 6, 64, [.i .i64 0, .i .i64 0, .i .i64 0, .b false, .s ⟨#[]⟩, .s ⟨#[]⟩]⟩),
  (191, ⟨.str [(0, 3), (1, 3), (2, 3), (3, 171)], 6, 64, [.i .i64 0, .i .i64 0, .i .i64 0, .b false, .s ⟨#[]⟩, .s ⟨#[]⟩]⟩)]
theorem ttok : tokB Try.prog tt = true := by kernel_rfl
theorem mixed : Try.prog.follows .mixedOrders = true := by kernel_rfl

structure Key where
  kind : Int
  subj : Int
  obj : Int
  deriving DecidableEq
def Key.d (k : Key) : D := .agg [I k.kind, I k.subj, I k.obj]

structure Fact where
  kind : Int
  subj : Int
  obj : Int
  value : Int
  from_ : Int
  to_ : Int
  known : Int
  no : Int
  deriving DecidableEq
def Fact.d (f : Fact) : D := .agg [I f.kind, I f.subj, I f.obj, I f.value, I f.from_, I f.to_, I f.known, I f.no]
def Fact.key (f : Fact) : Key := ⟨f.kind, f.subj, f.obj⟩
def Fact.zero : Fact := ⟨0, 0, 0, 0, 0, 0, 0, 0⟩

structure Read where
  kind : Int
  subj : Int
  obj : Int
  from_ : Int
  to_ : Int
  deriving DecidableEq
def Read.d (r : Read) : D := .agg [I r.kind, I r.subj, I r.obj, I r.from_, I r.to_]
def Read.key (r : Read) : Key := ⟨r.kind, r.subj, r.obj⟩

structure Swap where
  a : ByteArray
  b : ByteArray
  ano : Int
  bno : Int
def Swap.d (s : Swap) : D := .agg [.s s.a, .s s.b, I s.ano, I s.bno]

structure AWorld where
  u1 : D
  u2 : D
  u3 : D
  u4 : D
  u5 : D
  u6 : D
  u7 : D
  swaps : List Swap
  u9 : D
  u10 : D
  facts : List Fact
def AWorld.src (w : AWorld) : D := .agg [w.u1, w.u2, w.u3, w.u4, w.u5, w.u6, w.u7, SL 4 (w.swaps.map Swap.d)]
def AWorld.d (w : AWorld) : D := .agg [w.u1, w.u2, w.u3, w.u4, w.u5, w.u6, w.u7, SL 4 (w.swaps.map Swap.d), w.u9, w.u10, SL 8 (w.facts.map Fact.d)]

theorem eqKey (k k' : Key) : eqD tt 4 71 k.d.cells k'.d.cells = decide (k = k') := by
  rw [show eqD tt 4 71 k.d.cells k'.d.cells = (k.kind == k'.kind && (k.subj == k'.subj && (k.obj == k'.obj && true))) from rfl]
  rw [Bool.eq_iff_iff]
  cases k; cases k'
  simp
theorem eqFact (k k' : Fact) : eqD tt 4 73 k.d.cells k'.d.cells = decide (k = k') := by
  rw [show eqD tt 4 73 k.d.cells k'.d.cells = ((k.kind == k'.kind && (k.subj == k'.subj && (k.obj == k'.obj && true))) && (k.value == k'.value && ((k.from_ == k'.from_ && (k.to_ == k'.to_ && true)) && (k.known == k'.known && (k.no == k'.no && true))))) from rfl]
  rw [Bool.eq_iff_iff]
  cases k; cases k'
  simp [and_assoc]
theorem eqRead (k k' : Read) : eqD tt 4 95 k.d.cells k'.d.cells = decide (k = k') := by
  rw [show eqD tt 4 95 k.d.cells k'.d.cells = ((k.kind == k'.kind && (k.subj == k'.subj && (k.obj == k'.obj && true))) && (k.from_ == k'.from_ && (k.to_ == k'.to_ && true))) from rfl]
  rw [Bool.eq_iff_iff]
  cases k; cases k'
  simp [and_assoc]

/-! ### package cmp -/

theorem cmp_isNaN (x : Int) : CallP Try.prog 84 [.d (I x)] (retD [.b false]) := by
  refine exPure_sound (E := envOf Try.prog tt Try.f84.ntmps) (envOf_ok ttok mixed) Try.func84 (by rfl) rfl rfl (Nat.le_of_ble_eq_true rfl) ?_
  repeat' ((conv => whnf); first | with_reducible refine Dec.t (show true = true from rfl) ?_ | with_reducible refine Dec.t (show false = false from rfl) ?_ | with_reducible refine Dec.f (show ¬ (true = false) by decide) ?_ | with_reducible refine Dec.f (show ¬ (false = true) by decide) ?_ | refine Dec.t (by omega) ?_ | refine Dec.f (by omega) ?_ | refine Dec.split (fun _ => ?_) (fun _ => ?_) | refine Wr.id (by omega) ?_ | refine Chk.mk (by first | omega | exact rfl | (simp only [List.length_map]; omega) | (simp [room]; done) | (simp [room]; omega) | (simp [dropL, room]; done) | (simp [dropL, room]; omega)) ?_ | refine Nam.mk (List.length_map _) ?_ | refine Prep.skip ?_ | refine Eith.l ?_ | refine chk_t (x := D.flat _) (by assumption) ?_ | refine br_mk (fun _ => ?_) (fun _ => ?_))
  all_goals (conv => whnf)
  exact DLe.refl _

def cmpI (x y : Int) : Int := if x < y then -1 else if y < x then 1 else 0

theorem cmp_Compare (x y : Int) : CallP Try.prog 78 [.d (I x), .d (I y)] (retD [I (cmpI x y)]) := by
  refine exPure_sound (E := envOf Try.prog tt Try.f78.ntmps) (envOf_ok ttok mixed) Try.func78 (by rfl) rfl rfl (Nat.le_of_ble_eq_true rfl) ?_
  repeat' ((conv => whnf); first | with_reducible refine Dec.t (show true = true from rfl) ?_ | with_reducible refine Dec.t (show false = false from rfl) ?_ | with_reducible refine Dec.f (show ¬ (true = false) by decide) ?_ | with_reducible refine Dec.f (show ¬ (false = true) by decide) ?_ | refine Dec.t (by omega) ?_ | refine Dec.f (by omega) ?_ | refine Dec.split (fun _ => ?_) (fun _ => ?_) | refine Wr.id (by omega) ?_ | refine Chk.mk (by first | omega | exact rfl | (simp only [List.length_map]; omega) | (simp [room]; done) | (simp [room]; omega) | (simp [dropL, room]; done) | (simp [dropL, room]; omega)) ?_ | refine Nam.mk (List.length_map _) ?_ | refine Prep.skip ?_ | refine Eith.l ?_ | refine chk_t (x := D.flat _) (by assumption) ?_ | refine br_mk (fun _ => ?_) (fun _ => ?_) | refine ACall.of (cmp_isNaN _) ?_)
  all_goals (conv => whnf)
  all_goals (simp only [cmpI]; simp only [*, if_true, if_false]; exact DLe.refl _)

def orL : List Int → Int
  | [] => 0
  | x :: r => if x = 0 then orL r else x

theorem cmp_Or (l : List Int) (hl : l.length < 2 ^ 62) : CallP Try.prog 77 [.d (SL 1 (l.map I))] (retD [I (orL l)]) := by
  refine exPure_sound (E := envOf Try.prog tt Try.f77.ntmps) (envOf_ok ttok mixed) Try.func77 (by rfl) rfl rfl (Nat.le_of_ble_eq_true rfl) ?_
  repeat' ((conv => whnf); first | with_reducible refine Dec.t (show true = true from rfl) ?_ | with_reducible refine Dec.t (show false = false from rfl) ?_ | with_reducible refine Dec.f (show ¬ (true = false) by decide) ?_ | with_reducible refine Dec.f (show ¬ (false = true) by decide) ?_ | refine Dec.t (by omega) ?_ | refine Dec.f (by omega) ?_ | refine Dec.split (fun _ => ?_) (fun _ => ?_) | refine Wr.id (by omega) ?_ | refine Chk.mk (by first | omega | exact rfl | (simp only [List.length_map]; omega) | (simp [room]; done) | (simp [room]; omega) | (simp [dropL, room]; done) | (simp [dropL, room]; omega)) ?_ | refine Nam.mk (List.length_map _) ?_ | refine Prep.skip ?_ | refine Eith.l ?_ | refine chk_t (x := D.flat _) (by assumption) ?_ | refine br_mk (fun _ => ?_) (fun _ => ?_))
  conv => whnf
  refine ALoop.at (E := envOf Try.prog tt Try.f77.ntmps) (envOf_ok ttok mixed) (X := Nat) (fun i => [(8, .d (I i))]) (fun _ => [])
    (fun i => i ≤ l.length ∧ orL (l.drop i) = orL l) (fun i => l.length - i) 0 ((by repeat (first | exact trivial | refine And.intro rfl ?_ | refine And.intro (congrArg (fun n => V.d (I n)) (wrap_nat _ (by omega))) ?_))) rfl ⟨Nat.zero_le _, rfl⟩ ?_
  rintro i ⟨hi, hm⟩
  by_cases hlt : i < l.length
  · obtain ⟨x, hx, hd⟩ := drop_get hlt
    rw [hd, orL] at hm
    repeat' ((conv => whnf); first | with_reducible refine Dec.t (show true = true from rfl) ?_ | with_reducible refine Dec.t (show false = false from rfl) ?_ | with_reducible refine Dec.f (show ¬ (true = false) by decide) ?_ | with_reducible refine Dec.f (show ¬ (false = true) by decide) ?_ | refine Dec.t (by omega) ?_ | refine Dec.f (by omega) ?_ | refine Dec.split (fun _ => ?_) (fun _ => ?_) | refine Wr.id (by omega) ?_ | refine Chk.mk (by first | omega | exact rfl | (simp only [List.length_map]; omega) | (simp [room]; done) | (simp [room]; omega) | (simp [dropL, room]; done) | (simp [dropL, room]; omega)) ?_ | refine Nam.mk (List.length_map _) ?_ | refine Prep.skip ?_ | refine Eith.l ?_ | refine chk_t (x := D.flat _) (by assumption) ?_ | refine br_mk (fun _ => ?_) (fun _ => ?_) | refine nthK_mk (map_get hx) ?_)
    all_goals (conv => whnf)
    · rename_i h
      rw [if_pos h] at hm
      refine ⟨i + 1, Wm.end ((by repeat (first | exact trivial | refine And.intro rfl ?_ | refine And.intro (congrArg (fun n => V.d (I n)) (wrap_nat _ (by omega))) ?_))) rfl rfl rfl, ⟨hlt, hm⟩, by omega⟩
    · rename_i h
      rw [if_neg h] at hm
      rw [← hm]; exact DLe.refl _
  · have : i = l.length := by omega
    subst this
    rw [List.drop_length] at hm
    rw [← hm]
    repeat' ((conv => whnf); first | with_reducible refine Dec.t (show true = true from rfl) ?_ | with_reducible refine Dec.t (show false = false from rfl) ?_ | with_reducible refine Dec.f (show ¬ (true = false) by decide) ?_ | with_reducible refine Dec.f (show ¬ (false = true) by decide) ?_ | refine Dec.t (by omega) ?_ | refine Dec.f (by omega) ?_ | refine Dec.split (fun _ => ?_) (fun _ => ?_) | refine Wr.id (by omega) ?_ | refine Chk.mk (by first | omega | exact rfl | (simp only [List.length_map]; omega) | (simp [room]; done) | (simp [room]; omega) | (simp [dropL, room]; done) | (simp [dropL, room]; omega)) ?_ | refine Nam.mk (List.length_map _) ?_ | refine Prep.skip ?_ | refine Eith.l ?_ | refine chk_t (x := D.flat _) (by assumption) ?_ | refine br_mk (fun _ => ?_) (fun _ => ?_))
    conv => whnf
    exact DLe.refl _
end Go.PM

