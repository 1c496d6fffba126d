/- The type table of the program, and the data of package api. -/
import Derived.Test.YtbifaidepiejeaaPmKit
import Derived.KernelRfl
import Derived.Test.YtbifaidepiejeaaProg
namespace Go.PM
open Go.Proofs

instance : Glob := ⟨[]⟩
def tt : TT := [
  (3, ⟨.int .i64, 1, 8, [.i .i64 0]⟩),
  (4, ⟨.bool, 1, 1, [.b false]⟩),
  (5, ⟨.int .u8, 1, 1, [.i .u8 0]⟩),
  (9, ⟨.string, 1, 16, [.s ⟨#[]⟩]⟩),
  (22, ⟨.slice 136, 1, 24, [.sl 0 true []]⟩),
  (23, ⟨.slice 138, 1, 24, [.sl 0 true []]⟩),
  (24, ⟨.slice 9, 1, 24, [.sl 0 true []]⟩),
  (25, ⟨.slice 140, 1, 24, [.sl 0 true []]⟩),
  (26, ⟨.slice 142, 1, 24, [.sl 0 true []]⟩),
  (27, ⟨.slice 143, 1, 24, [.sl 0 true []]⟩),
  (28, ⟨.slice 147, 1, 24, [.sl 0 true []]⟩),
  (29, ⟨.slice 72, 1, 24, [.sl 0 true []]⟩),
  (30, ⟨.str [(0, 22), (1, 23), (2, 24), (3, 25), (4, 26), (5, 27), (6, 28), (7, 29)], 8, 192, [.sl 0 true [], .sl 0 true [], .sl 0 true [], .sl 0 true [], .sl 0 true [], .sl 0 true [], .sl 0 true [], .sl 0 true []]⟩),
  (31, ⟨.str [(0, 22), (1, 23), (2, 24), (3, 25), (4, 26), (5, 27), (6, 28), (7, 29)], 8, 192, [.sl 0 true [], .sl 0 true [], .sl 0 true [], .sl 0 true [], .sl 0 true [], .sl 0 true [], .sl 0 true [], .sl 0 true []]⟩),
  (32, ⟨.slice 3, 1, 24, [.sl 0 true []]⟩),
  (33, ⟨.slice 148, 1, 24, [.sl 0 true []]⟩),
  (34, ⟨.str [(0, 31), (8, 32), (9, 33)], 10, 240, [.sl 0 true [], .sl 0 true [], .sl 0 true [], .sl 0 true [], .sl 0 true [], .sl 0 true [], .sl 0 true [], .sl 0 true [], .sl 0 true [], .sl 0 true []]⟩),
  (35, ⟨.str [(0, 31), (8, 32), (9, 33)], 10, 240, [.sl 0 true [], .sl 0 true [], .sl 0 true [], .sl 0 true [], .sl 0 true [], .sl 0 true [], .sl 0 true [], .sl 0 true [], .sl 0 true [], .sl 0 true []]⟩),
  (36, ⟨.slice 98, 1, 24, [.sl 0 true []]⟩),
  (37, ⟨.str [(0, 35), (10, 36)], 11, 264, [.sl 0 true [], .sl 0 true [], .sl 0 true [], .sl 0 true [], .sl 0 true [], .sl 0 true [], .sl 0 true [], .sl 0 true [], .sl 0 true [], .sl 0 true [], .sl 0 true []]⟩),
  (38, ⟨.str [(0, 35), (10, 36)], 11, 264, [.sl 0 true [], .sl 0 true [], .sl 0 true [], .sl 0 true [], .sl 0 true [], .sl 0 true [], .sl 0 true [], .sl 0 true [], .sl 0 true [], .sl 0 true [], .sl 0 true []]⟩),
  (39, ⟨.slice 51, 1, 24, [.sl 0 true []]⟩),
  (40, ⟨.slice 53, 1, 24, [.sl 0 true []]⟩),
  (43, ⟨.slice 64, 1, 24, [.sl 0 true []]⟩),
  (44, ⟨.slice 68, 1, 24, [.sl 0 true []]⟩),
  (45, ⟨.int .i64, 1, 8, [.i .i64 0]⟩),
  (50, ⟨.str [(0, 3), (1, 3), (2, 3), (3, 3), (4, 3), (5, 3)], 6, 48, [.i .i64 0, .i .i64 0, .i .i64 0, .i .i64 0, .i .i64 0, .i .i64 0]⟩),
  (51, ⟨.str [(0, 3), (1, 3), (2, 3), (3, 3), (4, 3), (5, 3)], 6, 48, [.i .i64 0, .i .i64 0, .i .i64 0, .i .i64 0, .i .i64 0, .i .i64 0]⟩),
  (52, ⟨.str [(0, 3), (1, 3), (2, 3), (3, 3), (4, 3), (5, 3)], 6, 48, [.i .i64 0, .i .i64 0, .i .i64 0, .i .i64 0, .i .i64 0, .i .i64 0]⟩),
  (53, ⟨.str [(0, 3), (1, 3), (2, 3), (3, 3), (4, 3), (5, 3)], 6, 48, [.i .i64 0, .i .i64 0, .i .i64 0, .i .i64 0, .i .i64 0, .i .i64 0]⟩),
  (63, ⟨.map 68 4, 1, 8, [.k (.map none)]⟩),
  (64, ⟨.slice 4, 1, 24, [.sl 0 true []]⟩),
  (65, ⟨.str [(0, 3), (1, 3), (2, 3)], 3, 24, [.i .i64 0, .i .i64 0, .i .i64 0]⟩),
  (66, ⟨.str [(0, 3), (1, 3), (2, 3)], 3, 24, [.i .i64 0, .i .i64 0, .i .i64 0]⟩),
  (67, ⟨.str [(0, 66), (3, 3), (4, 3)], 5, 40, [.i .i64 0, .i .i64 0, .i .i64 0, .i .i64 0, .i .i64 0]⟩),
  (68, ⟨.str [(0, 66), (3, 3), (4, 3)], 5, 40, [.i .i64 0, .i .i64 0, .i .i64 0, .i .i64 0, .i .i64 0]⟩),
  (71, ⟨.str [(0, 9), (1, 9), (2, 3), (3, 3)], 4, 48, [.s ⟨#[]⟩, .s ⟨#[]⟩, .i .i64 0, .i .i64 0]⟩),
  (72, ⟨.str [(0, 9), (1, 9), (2, 3), (3, 3)], 4, 48, [.s ⟨#[]⟩, .s ⟨#[]⟩, .i .i64 0, .i .i64 0]⟩),
  (75, ⟨.slice 5, 1, 24, [.sl 0 true []]⟩),
  (76, ⟨.slice 32, 1, 24, [.sl 0 true []]⟩),
  (83, ⟨.other, 1, 8, [.k .nilFunc]⟩),
  (85, ⟨.other, 1, 8, [.k .nilFunc]⟩),
  (95, ⟨.str [(0, 3), (1, 3)], 2, 16, [.i .i64 0, .i .i64 0]⟩),
  (96, ⟨.str [(0, 3), (1, 3)], 2, 16, [.i .i64 0, .i .i64 0]⟩),
  (97, ⟨.str [(0, 66), (3, 3), (4, 96), (6, 3), (7, 3)], 8, 64, [.i .i64 0, .i .i64 0, .i .i64 0, .i .i64 0, .i .i64 0, .i .i64 0, .i .i64 0, .i .i64 0]⟩),
  (98, ⟨.str [(0, 66), (3, 3), (4, 96), (6, 3), (7, 3)], 8, 64, [.i .i64 0, .i .i64 0, .i .i64 0, .i .i64 0, .i .i64 0, .i .i64 0, .i .i64 0, .i .i64 0]⟩),
  (99, ⟨.other, 1, 8, [.k .nilFunc]⟩),
  (100, ⟨.other, 1, 8, [.k .nilFunc]⟩),
  (110, ⟨.other, 1, 8, [.k .nilFunc]⟩),
  (111, ⟨.other, 1, 8, [.k .nilFunc]⟩),
  (114, ⟨.str [(0, 3), (1, 3)], 2, 16, [.i .i64 0, .i .i64 0]⟩),
  (115, ⟨.str [(0, 3), (1, 3)], 2, 16, [.i .i64 0, .i .i64 0]⟩),
  (133, ⟨.str [(0, 4), (1, 9), (2, 9)], 3, 40, [.b false, .s ⟨#[]⟩, .s ⟨#[]⟩]⟩),
  (134, ⟨.str [(0, 4), (1, 9), (2, 9)], 3, 40, [.b false, .s ⟨#[]⟩, .s ⟨#[]⟩]⟩),
  (135, ⟨.str [(0, 9), (1, 9), (2, 3), (3, 3), (4, 3), (5, 134)], 8, 96, [.s ⟨#[]⟩, .s ⟨#[]⟩, .i .i64 0, .i .i64 0, .i .i64 0, .b false, .s ⟨#[]⟩, .s ⟨#[]⟩]⟩),
  (136, ⟨.str [(0, 9), (1, 9), (2, 3), (3, 3), (4, 3), (5, 134)], 8, 96, [.s ⟨#[]⟩, .s ⟨#[]⟩, .i .i64 0, .i .i64 0, .i .i64 0, .b false, .s ⟨#[]⟩, .s ⟨#[]⟩]⟩),
  (137, ⟨.str [(0, 9), (1, 9), (2, 3), (3, 3), (4, 3), (5, 3)], 6, 64, [.s ⟨#[]⟩, .s ⟨#[]⟩, .i .i64 0, .i .i64 0, .i .i64 0, .i .i64 0]⟩),
  (138, ⟨.str [(0, 9), (1, 9), (2, 3), (3, 3), (4, 3), (5, 3)], 6, 64, [.s ⟨#[]⟩, .s ⟨#[]⟩, .i .i64 0, .i .i64 0, .i .i64 0, .i .i64 0]⟩),
  (139, ⟨.str [(0, 9), (1, 9), (2, 3), (3, 3)], 4, 48, [.s ⟨#[]⟩, .s ⟨#[]⟩, .i .i64 0, .i .i64 0]⟩),
  (140, ⟨.str [(0, 9), (1, 9), (2, 3), (3, 3)], 4, 48, [.s ⟨#[]⟩, .s ⟨#[]⟩, .i .i64 0, .i .i64 0]⟩),
  (141, ⟨.str [(0, 9), (1, 24)], 2, 40, [.s ⟨#[]⟩, .sl 0 true []]⟩),
  (142, ⟨.str [(0, 9), (1, 24)], 2, 40, [.s ⟨#[]⟩, .sl 0 true []]⟩),
  (143, ⟨.slice 151, 1, 24, [.sl 0 true []]⟩),
  (144, ⟨.slice 153, 1, 24, [.sl 0 true []]⟩),
  (145, ⟨.slice 155, 1, 24, [.sl 0 true []]⟩),
  (146, ⟨.str [(0, 9), (1, 9), (2, 3), (3, 3), (4, 143), (5, 144), (6, 144), (7, 3), (8, 3), (9, 3), (10, 3), (11, 3), (12, 3), (13, 3), (14, 145), (15, 3), (16, 3)], 17, 216, [.s ⟨#[]⟩, .s ⟨#[]⟩, .i .i64 0, .i .i64 0, .sl 0 true [], .sl 0 true [], .sl 0 true [], .i .i64 0, .i .i64 0, .i .i64 0, .i .i64 0, .i .i64 0, .i .i64 0, .i .i64 0, .sl 0 true [], .i .i64 0, .i .i64 0]⟩),
  (147, ⟨.str [(0, 9), (1, 9), (2, 3), (3, 3), (4, 143), (5, 144), (6, 144), (7, 3), (8, 3), (9, 3), (10, 3), (11, 3), (12, 3), (13, 3), (14, 145), (15, 3), (16, 3)], 17, 216, [.s ⟨#[]⟩, .s ⟨#[]⟩, .i .i64 0, .i .i64 0, .sl 0 true [], .sl 0 true [], .sl 0 true [], .i .i64 0, .i .i64 0, .i .i64 0, .i .i64 0, .i .i64 0, .i .i64 0, .i .i64 0, .sl 0 true [], .i .i64 0, .i .i64 0]⟩),
  (148, ⟨.slice 157, 1, 24, [.sl 0 true []]⟩),
  (150, ⟨.str [(0, 9), (1, 9), (2, 3), (3, 3)], 4, 48, [.s ⟨#[]⟩, .s ⟨#[]⟩, .i .i64 0, .i .i64 0]⟩),
  (151, ⟨.str [(0, 9), (1, 9), (2, 3), (3, 3)], 4, 48, [.s ⟨#[]⟩, .s ⟨#[]⟩, .i .i64 0, .i .i64 0]⟩),
  (152, ⟨.str [(0, 3), (1, 3), (2, 9), (3, 9), (4, 4), (5, 3), (6, 3)], 7, 72, [.i .i64 0, .i .i64 0, .s ⟨#[]⟩, .s ⟨#[]⟩, .b false, .i .i64 0, .i .i64 0]⟩),
  (153, ⟨.str [(0, 3), (1, 3), (2, 9), (3, 9), (4, 4), (5, 3), (6, 3)], 7, 72, [.i .i64 0, .i .i64 0, .s ⟨#[]⟩, .s ⟨#[]⟩, .b false, .i .i64 0, .i .i64 0]⟩),
  (154, ⟨.str [(0, 9), (1, 3), (2, 3)], 3, 32, [.s ⟨#[]⟩, .i .i64 0, .i .i64 0]⟩),
  (155, ⟨.str [(0, 9), (1, 3), (2, 3)], 3, 32, [.s ⟨#[]⟩, .i .i64 0, .i .i64 0]⟩),
  (156, ⟨.str [(0, 3), (1, 3), (2, 3), (3, 134)], 6, 64, [.i .i64 0, .i .i64 0, .i .i64 0, .b false, .s ⟨#[]⟩, .s ⟨#[]⟩]⟩),
  (157, ⟨.str [(0, 3), (1, 3), (2, 3), (3, 134)], 6, 64, [.i .i64 0, .i .i64 0, .i .i64 0, .b false, .s ⟨#[]⟩, .s ⟨#[]⟩]⟩)]
theorem ttok : tokB Try.prog tt = true := by kernel_rfl
theorem mixed : Try.prog.follows .mixedOrders = true := by kernel_rfl

structure Key where
  kind : Int
  subj : Int
  obj : Int
  deriving DecidableEq
def Key.d (k : Key) : D := .agg [I k.kind, I k.subj, I k.obj]

structure Fact where
  kind : Int
  subj : Int
  obj : Int
  value : Int
  from_ : Int
  to_ : Int
  known : Int
  no : Int
  deriving DecidableEq
def Fact.d (f : Fact) : D := .agg [I f.kind, I f.subj, I f.obj, I f.value, I f.from_, I f.to_, I f.known, I f.no]
def Fact.key (f : Fact) : Key := ⟨f.kind, f.subj, f.obj⟩
def Fact.zero : Fact := ⟨0, 0, 0, 0, 0, 0, 0, 0⟩

structure Read where
  kind : Int
  subj : Int
  obj : Int
  from_ : Int
  to_ : Int
  deriving DecidableEq
def Read.d (r : Read) : D := .agg [I r.kind, I r.subj, I r.obj, I r.from_, I r.to_]
def Read.key (r : Read) : Key := ⟨r.kind, r.subj, r.obj⟩

structure Supply where
  no : Int
  item : Int
  plant : Int
  ready : Int
  expiry : Int
  amount : Int
  deriving DecidableEq
def Supply.d (s : Supply) : D := .agg [I s.no, I s.item, I s.plant, I s.ready, I s.expiry, I s.amount]

structure Request where
  no : Int
  item : Int
  cust : Int
  due : Int
  shelf : Int
  amount : Int
  deriving DecidableEq
def Request.d (r : Request) : D := .agg [I r.no, I r.item, I r.cust, I r.due, I r.shelf, I r.amount]

structure Swap where
  a : ByteArray
  b : ByteArray
  ano : Int
  bno : Int
def Swap.d (s : Swap) : D := .agg [.s s.a, .s s.b, I s.ano, I s.bno]

structure AWorld where
  u1 : D
  u2 : D
  u3 : D
  u4 : D
  u5 : D
  u6 : D
  u7 : D
  swaps : List Swap
  u9 : D
  u10 : D
  facts : List Fact
def AWorld.src (w : AWorld) : D := .agg [w.u1, w.u2, w.u3, w.u4, w.u5, w.u6, w.u7, SL 4 (w.swaps.map Swap.d)]
def AWorld.d (w : AWorld) : D := .agg [w.u1, w.u2, w.u3, w.u4, w.u5, w.u6, w.u7, SL 4 (w.swaps.map Swap.d), w.u9, w.u10, SL 8 (w.facts.map Fact.d)]

theorem eqKey (k k' : Key) : eqD tt 4 66 k.d.cells k'.d.cells = decide (k = k') := by
  rw [show eqD tt 4 66 k.d.cells k'.d.cells = (k.kind == k'.kind && (k.subj == k'.subj && (k.obj == k'.obj && true))) from rfl]
  rw [Bool.eq_iff_iff]
  cases k; cases k'
  simp
theorem eqRead (k k' : Read) : eqD tt 4 68 k.d.cells k'.d.cells = decide (k = k') := by
  rw [show eqD tt 4 68 k.d.cells k'.d.cells = ((k.kind == k'.kind && (k.subj == k'.subj && (k.obj == k'.obj && true))) && (k.from_ == k'.from_ && (k.to_ == k'.to_ && true))) from rfl]
  rw [Bool.eq_iff_iff]
  cases k; cases k'
  simp [and_assoc]
theorem eqSupply (k k' : Supply) : eqD tt 4 51 k.d.cells k'.d.cells = decide (k = k') := by
  rw [show eqD tt 4 51 k.d.cells k'.d.cells = (k.no == k'.no && (k.item == k'.item && (k.plant == k'.plant && (k.ready == k'.ready && (k.expiry == k'.expiry && (k.amount == k'.amount && true)))))) from rfl]
  rw [Bool.eq_iff_iff]
  cases k; cases k'
  simp

/-! ### package cmp -/

theorem cmp_isNaN (x : Int) : CallP Try.prog 61 [.d (I x)] (retD [.b false]) := by
  refine exPure_sound (E := envOf Try.prog tt Try.f61.ntmps) (envOf_ok ttok mixed) Try.func61 (by rfl) rfl rfl (Nat.le_of_ble_eq_true rfl) ?_
  repeat' ((conv => whnf); first | with_reducible refine Dec.t (show true = true from rfl) ?_ | with_reducible refine Dec.t (show false = false from rfl) ?_ | with_reducible refine Dec.f (show ¬ (true = false) by decide) ?_ | with_reducible refine Dec.f (show ¬ (false = true) by decide) ?_ | refine Dec.t (by omega) ?_ | refine Dec.f (by omega) ?_ | refine Dec.split (fun _ => ?_) (fun _ => ?_) | refine Wr.id (by omega) ?_ | refine Chk.mk (by first | omega | exact rfl | (simp only [List.length_map]; omega) | (simp [room]; done) | (simp [room]; omega) | (simp [dropL, room]; done) | (simp [dropL, room]; omega)) ?_ | refine Nam.mk (List.length_map _) ?_ | refine Prep.skip ?_ | refine Eith.l ?_ | refine chk_t (x := D.flat _) (by assumption) ?_ | refine br_mk (fun _ => ?_) (fun _ => ?_))
  all_goals (conv => whnf)
  exact DLe.refl _

def cmpI (x y : Int) : Int := if x < y then -1 else if y < x then 1 else 0

theorem cmp_Compare (x y : Int) : CallP Try.prog 60 [.d (I x), .d (I y)] (retD [I (cmpI x y)]) := by
  refine exPure_sound (E := envOf Try.prog tt Try.f60.ntmps) (envOf_ok ttok mixed) Try.func60 (by rfl) rfl rfl (Nat.le_of_ble_eq_true rfl) ?_
  repeat' ((conv => whnf); first | with_reducible refine Dec.t (show true = true from rfl) ?_ | with_reducible refine Dec.t (show false = false from rfl) ?_ | with_reducible refine Dec.f (show ¬ (true = false) by decide) ?_ | with_reducible refine Dec.f (show ¬ (false = true) by decide) ?_ | refine Dec.t (by omega) ?_ | refine Dec.f (by omega) ?_ | refine Dec.split (fun _ => ?_) (fun _ => ?_) | refine Wr.id (by omega) ?_ | refine Chk.mk (by first | omega | exact rfl | (simp only [List.length_map]; omega) | (simp [room]; done) | (simp [room]; omega) | (simp [dropL, room]; done) | (simp [dropL, room]; omega)) ?_ | refine Nam.mk (List.length_map _) ?_ | refine Prep.skip ?_ | refine Eith.l ?_ | refine chk_t (x := D.flat _) (by assumption) ?_ | refine br_mk (fun _ => ?_) (fun _ => ?_) | refine ACall.of (cmp_isNaN _) ?_)
  all_goals (conv => whnf)
  all_goals (simp only [cmpI]; simp only [*, if_true, if_false]; exact DLe.refl _)

def orL : List Int → Int
  | [] => 0
  | x :: r => if x = 0 then orL r else x

theorem cmp_Or (l : List Int) (hl : l.length < 2 ^ 62) : CallP Try.prog 59 [.d (SL 1 (l.map I))] (retD [I (orL l)]) := by
  refine exPure_sound (E := envOf Try.prog tt Try.f59.ntmps) (envOf_ok ttok mixed) Try.func59 (by rfl) rfl rfl (Nat.le_of_ble_eq_true rfl) ?_
  repeat' ((conv => whnf); first | with_reducible refine Dec.t (show true = true from rfl) ?_ | with_reducible refine Dec.t (show false = false from rfl) ?_ | with_reducible refine Dec.f (show ¬ (true = false) by decide) ?_ | with_reducible refine Dec.f (show ¬ (false = true) by decide) ?_ | refine Dec.t (by omega) ?_ | refine Dec.f (by omega) ?_ | refine Dec.split (fun _ => ?_) (fun _ => ?_) | refine Wr.id (by omega) ?_ | refine Chk.mk (by first | omega | exact rfl | (simp only [List.length_map]; omega) | (simp [room]; done) | (simp [room]; omega) | (simp [dropL, room]; done) | (simp [dropL, room]; omega)) ?_ | refine Nam.mk (List.length_map _) ?_ | refine Prep.skip ?_ | refine Eith.l ?_ | refine chk_t (x := D.flat _) (by assumption) ?_ | refine br_mk (fun _ => ?_) (fun _ => ?_))
  conv => whnf
  refine ALoop.at (E := envOf Try.prog tt Try.f59.ntmps) (envOf_ok ttok mixed) (X := Nat) (fun i => [(8, .d (I i))]) (fun _ => [])
    (fun i => i ≤ l.length ∧ orL (l.drop i) = orL l) (fun i => l.length - i) 0 ((by repeat (first | exact trivial | refine And.intro rfl ?_ | refine And.intro (congrArg (fun n => V.d (I n)) (wrap_nat _ (by omega))) ?_))) rfl ⟨Nat.zero_le _, rfl⟩ ?_
  rintro i ⟨hi, hm⟩
  by_cases hlt : i < l.length
  · obtain ⟨x, hx, hd⟩ := drop_get hlt
    rw [hd, orL] at hm
    repeat' ((conv => whnf); first | with_reducible refine Dec.t (show true = true from rfl) ?_ | with_reducible refine Dec.t (show false = false from rfl) ?_ | with_reducible refine Dec.f (show ¬ (true = false) by decide) ?_ | with_reducible refine Dec.f (show ¬ (false = true) by decide) ?_ | refine Dec.t (by omega) ?_ | refine Dec.f (by omega) ?_ | refine Dec.split (fun _ => ?_) (fun _ => ?_) | refine Wr.id (by omega) ?_ | refine Chk.mk (by first | omega | exact rfl | (simp only [List.length_map]; omega) | (simp [room]; done) | (simp [room]; omega) | (simp [dropL, room]; done) | (simp [dropL, room]; omega)) ?_ | refine Nam.mk (List.length_map _) ?_ | refine Prep.skip ?_ | refine Eith.l ?_ | refine chk_t (x := D.flat _) (by assumption) ?_ | refine br_mk (fun _ => ?_) (fun _ => ?_) | refine nthK_mk (map_get hx) ?_)
    all_goals (conv => whnf)
    · rename_i h
      rw [if_pos h] at hm
      refine ⟨i + 1, Wm.end ((by repeat (first | exact trivial | refine And.intro rfl ?_ | refine And.intro (congrArg (fun n => V.d (I n)) (wrap_nat _ (by omega))) ?_))) rfl rfl rfl, ⟨hlt, hm⟩, by omega⟩
    · rename_i h
      rw [if_neg h] at hm
      rw [← hm]; exact DLe.refl _
  · have : i = l.length := by omega
    subst this
    rw [List.drop_length] at hm
    rw [← hm]
    repeat' ((conv => whnf); first | with_reducible refine Dec.t (show true = true from rfl) ?_ | with_reducible refine Dec.t (show false = false from rfl) ?_ | with_reducible refine Dec.f (show ¬ (true = false) by decide) ?_ | with_reducible refine Dec.f (show ¬ (false = true) by decide) ?_ | refine Dec.t (by omega) ?_ | refine Dec.f (by omega) ?_ | refine Dec.split (fun _ => ?_) (fun _ => ?_) | refine Wr.id (by omega) ?_ | refine Chk.mk (by first | omega | exact rfl | (simp only [List.length_map]; omega) | (simp [room]; done) | (simp [room]; omega) | (simp [dropL, room]; done) | (simp [dropL, room]; omega)) ?_ | refine Nam.mk (List.length_map _) ?_ | refine Prep.skip ?_ | refine Eith.l ?_ | refine chk_t (x := D.flat _) (by assumption) ?_ | refine br_mk (fun _ => ?_) (fun _ => ?_))
    conv => whnf
    exact DLe.refl _
end Go.PM

