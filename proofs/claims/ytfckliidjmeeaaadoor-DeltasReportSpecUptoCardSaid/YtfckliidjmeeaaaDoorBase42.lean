/- Deltas: the type table, entries, strings. -/
import Derived.Test.YtfckliidjmeeaaaDoorPmRangetoPmKit
import Derived.KernelRfl
import Derived.Test.YtfckliidjmeeaaaDoorProg
namespace Go.PM
open Go.Proofs
set_option maxRecDepth 10000
instance : Glob := ⟨[(0, [.i .u64 1, .i .u64 10, .i .u64 100, .i .u64 1000, .i .u64 10000, .i .u64 100000, .i .u64 1000000, .i .u64 10000000, .i .u64 100000000, .i .u64 1000000000, .i .u64 10000000000, .i .u64 100000000000, .i .u64 1000000000000, .i .u64 10000000000000, .i .u64 100000000000000, .i .u64 1000000000000000, .i .u64 10000000000000000, .i .u64 100000000000000000, .i .u64 1000000000000000000, .i .u64 10000000000000000000]), (1, [.i .u8 0, .i .u8 1, .i .u8 28, .i .u8 2, .i .u8 29, .i .u8 14, .i .u8 24, .i .u8 3, .i .u8 30, .i .u8 22, .i .u8 20, .i .u8 15, .i .u8 25, .i .u8 17, .i .u8 4, .i .u8 8, .i .u8 31, .i .u8 27, .i .u8 13, .i .u8 23, .i .u8 21, .i .u8 19, .i .u8 16, .i .u8 7, .i .u8 26, .i .u8 12, .i .u8 18, .i .u8 6, .i .u8 11, .i .u8 5, .i .u8 10, .i .u8 9]), (2, [.i .u8 0, .i .u8 1, .i .u8 56, .i .u8 2, .i .u8 57, .i .u8 49, .i .u8 28, .i .u8 3, .i .u8 61, .i .u8 58, .i .u8 42, .i .u8 50, .i .u8 38, .i .u8 29, .i .u8 17, .i .u8 4, .i .u8 62, .i .u8 47, .i .u8 59, .i .u8 36, .i .u8 45, .i .u8 43, .i .u8 51, .i .u8 22, .i .u8 53, .i .u8 39, .i .u8 33, .i .u8 30, .i .u8 24, .i .u8 18, .i .u8 12, .i .u8 5, .i .u8 63, .i .u8 55, .i .u8 48, .i .u8 27, .i .u8 60, .i .u8 41, .i .u8 37, .i .u8 16, .i .u8 46, .i .u8 35, .i .u8 44, .i .u8 21, .i .u8 52, .i .u8 32, .i .u8 23, .i .u8 11, .i .u8 54, .i .u8 26, .i .u8 40, .i .u8 15, .i .u8 34, .i .u8 20, .i .u8 31, .i .u8 10, .i .u8 25, .i .u8 14, .i .u8 19, .i .u8 9, .i .u8 13, .i .u8 8, .i .u8 7, .i .u8 6])]⟩
def tt : TT := [
  (2, ⟨.int .i64, 1, 8, [.i .i64 0]⟩),
  (3, ⟨.int .i64, 1, 8, [.i .i64 0]⟩),
  (4, ⟨.bool, 1, 1, [.b false]⟩),
  (5, ⟨.int .u8, 1, 1, [.i .u8 0]⟩),
  (9, ⟨.string, 1, 16, [.s ⟨#[]⟩]⟩),
  (20, ⟨.other, 1, 16, [.k .nilIface]⟩),
  (22, ⟨.slice 65, 1, 24, [.sl 0 true []]⟩),
  (23, ⟨.slice 67, 1, 24, [.sl 0 true []]⟩),
  (24, ⟨.slice 91, 1, 24, [.sl 0 true []]⟩),
  (25, ⟨.slice 3, 1, 24, [.sl 0 true []]⟩),
  (26, ⟨.slice 94, 1, 24, [.sl 0 true []]⟩),
  (27, ⟨.slice 78, 1, 24, [.sl 0 true []]⟩),
  (28, ⟨.str [(0, 3), (1, 3), (2, 22), (3, 23), (4, 24), (5, 25), (6, 26), (7, 27), (8, 25)], 9, 184, [.i .i64 0, .i .i64 0, .sl 0 true [], .sl 0 true [], .sl 0 true [], .sl 0 true [], .sl 0 true [], .sl 0 true [], .sl 0 true []]⟩),
  (29, ⟨.str [(0, 3), (1, 3), (2, 22), (3, 23), (4, 24), (5, 25), (6, 26), (7, 27), (8, 25)], 9, 184, [.i .i64 0, .i .i64 0, .sl 0 true [], .sl 0 true [], .sl 0 true [], .sl 0 true [], .sl 0 true [], .sl 0 true [], .sl 0 true []]⟩),
  (30, ⟨.slice 60, 1, 24, [.sl 0 true []]⟩),
  (31, ⟨.slice 72, 1, 24, [.sl 0 true []]⟩),
  (32, ⟨.slice 76, 1, 24, [.sl 0 true []]⟩),
  (36, ⟨.slice 52, 1, 24, [.sl 0 true []]⟩),
  (38, ⟨.slice 106, 1, 24, [.sl 0 true []]⟩),
  (39, ⟨.str [(0, 36), (1, 36), (2, 38)], 3, 72, [.sl 0 true [], .sl 0 true [], .sl 0 true []]⟩),
  (40, ⟨.str [(0, 36), (1, 36), (2, 38)], 3, 72, [.sl 0 true [], .sl 0 true [], .sl 0 true []]⟩),
  (42, ⟨.int .i64, 1, 8, [.i .i64 0]⟩),
  (51, ⟨.str [(0, 9), (1, 9)], 2, 32, [.s ⟨#[]⟩, .s ⟨#[]⟩]⟩),
  (52, ⟨.str [(0, 9), (1, 9)], 2, 32, [.s ⟨#[]⟩, .s ⟨#[]⟩]⟩),
  (59, ⟨.str [(0, 4), (1, 9), (2, 9)], 3, 40, [.b false, .s ⟨#[]⟩, .s ⟨#[]⟩]⟩),
  (60, ⟨.str [(0, 4), (1, 9), (2, 9)], 3, 40, [.b false, .s ⟨#[]⟩, .s ⟨#[]⟩]⟩),
  (64, ⟨.str [(0, 3), (1, 3), (2, 3)], 3, 24, [.i .i64 0, .i .i64 0, .i .i64 0]⟩),
  (65, ⟨.str [(0, 3), (1, 3), (2, 3)], 3, 24, [.i .i64 0, .i .i64 0, .i .i64 0]⟩),
  (66, ⟨.str [(0, 65), (3, 3), (4, 60), (7, 3), (8, 3)], 9, 88, [.i .i64 0, .i .i64 0, .i .i64 0, .i .i64 0, .b false, .s ⟨#[]⟩, .s ⟨#[]⟩, .i .i64 0, .i .i64 0]⟩),
  (67, ⟨.str [(0, 65), (3, 3), (4, 60), (7, 3), (8, 3)], 9, 88, [.i .i64 0, .i .i64 0, .i .i64 0, .i .i64 0, .b false, .s ⟨#[]⟩, .s ⟨#[]⟩, .i .i64 0, .i .i64 0]⟩),
  (68, ⟨.str [(0, 25), (1, 3), (2, 3), (3, 3)], 4, 48, [.sl 0 true [], .i .i64 0, .i .i64 0, .i .i64 0]⟩),
  (69, ⟨.str [(0, 25), (1, 3), (2, 3), (3, 3)], 4, 48, [.sl 0 true [], .i .i64 0, .i .i64 0, .i .i64 0]⟩),
  (70, ⟨.slice 69, 1, 24, [.sl 0 true []]⟩),
  (71, ⟨.str [(0, 3), (1, 25), (2, 25), (3, 70)], 4, 80, [.i .i64 0, .sl 0 true [], .sl 0 true [], .sl 0 true []]⟩),
  (72, ⟨.str [(0, 3), (1, 25), (2, 25), (3, 70)], 4, 80, [.i .i64 0, .sl 0 true [], .sl 0 true [], .sl 0 true []]⟩),
  (73, ⟨.slice 25, 1, 24, [.sl 0 true []]⟩),
  (74, ⟨.slice 125, 1, 24, [.sl 0 true []]⟩),
  (75, ⟨.str [(0, 4), (1, 73), (2, 25), (3, 74)], 4, 80, [.b false, .sl 0 true [], .sl 0 true [], .sl 0 true []]⟩),
  (76, ⟨.str [(0, 4), (1, 73), (2, 25), (3, 74)], 4, 80, [.b false, .sl 0 true [], .sl 0 true [], .sl 0 true []]⟩),
  (77, ⟨.str [(0, 3), (1, 3), (2, 3), (3, 60)], 6, 64, [.i .i64 0, .i .i64 0, .i .i64 0, .b false, .s ⟨#[]⟩, .s ⟨#[]⟩]⟩),
  (78, ⟨.str [(0, 3), (1, 3), (2, 3), (3, 60)], 6, 64, [.i .i64 0, .i .i64 0, .i .i64 0, .b false, .s ⟨#[]⟩, .s ⟨#[]⟩]⟩),
  (79, ⟨.str [(0, 36)], 1, 24, [.sl 0 true []]⟩),
  (80, ⟨.str [(0, 36)], 1, 24, [.sl 0 true []]⟩),
  (86, ⟨.other, 1, 8, [.k .nilFunc]⟩),
  (90, ⟨.str [(0, 65), (3, 3), (4, 3)], 5, 40, [.i .i64 0, .i .i64 0, .i .i64 0, .i .i64 0, .i .i64 0]⟩),
  (91, ⟨.str [(0, 65), (3, 3), (4, 3)], 5, 40, [.i .i64 0, .i .i64 0, .i .i64 0, .i .i64 0, .i .i64 0]⟩),
  (93, ⟨.str [(0, 3), (1, 3), (2, 3), (3, 3), (4, 3), (5, 3)], 6, 48, [.i .i64 0, .i .i64 0, .i .i64 0, .i .i64 0, .i .i64 0, .i .i64 0]⟩),
  (94, ⟨.str [(0, 3), (1, 3), (2, 3), (3, 3), (4, 3), (5, 3)], 6, 48, [.i .i64 0, .i .i64 0, .i .i64 0, .i .i64 0, .i .i64 0, .i .i64 0]⟩),
  (99, ⟨.map 52 4, 1, 8, [.k (.map none)]⟩),
  (102, ⟨.str [(0, 3), (1, 3), (2, 3)], 3, 24, [.i .i64 0, .i .i64 0, .i .i64 0]⟩),
  (103, ⟨.str [(0, 3), (1, 3), (2, 3)], 3, 24, [.i .i64 0, .i .i64 0, .i .i64 0]⟩),
  (104, ⟨.slice 116, 1, 24, [.sl 0 true []]⟩),
  (105, ⟨.str [(0, 103), (3, 104)], 4, 48, [.i .i64 0, .i .i64 0, .i .i64 0, .sl 0 true []]⟩),
  (106, ⟨.str [(0, 103), (3, 104)], 4, 48, [.i .i64 0, .i .i64 0, .i .i64 0, .sl 0 true []]⟩),
  (109, ⟨.map 9 4, 1, 8, [.k (.map none)]⟩),
  (112, ⟨.other, 1, 8, [.k .nilFunc]⟩),
  (115, ⟨.str [(0, 3), (1, 3)], 2, 16, [.i .i64 0, .i .i64 0]⟩),
  (116, ⟨.str [(0, 3), (1, 3)], 2, 16, [.i .i64 0, .i .i64 0]⟩),
  (124, ⟨.str [(0, 103), (3, 3), (4, 3)], 5, 40, [.i .i64 0, .i .i64 0, .i .i64 0, .i .i64 0, .i .i64 0]⟩),
  (125, ⟨.str [(0, 103), (3, 3), (4, 3)], 5, 40, [.i .i64 0, .i .i64 0, .i .i64 0, .i .i64 0, .i .i64 0]⟩),
  (126, ⟨.other, 1, 8, [.k (.pointer none)]⟩),
  (127, ⟨.slice 5, 1, 24, [.sl 0 true []]⟩),
  (128, ⟨.str [(0, 127)], 1, 24, [.sl 0 true []]⟩),
  (129, ⟨.str [(0, 127)], 1, 24, [.sl 0 true []]⟩),
  (131, ⟨.slice 20, 1, 24, [.sl 0 true []]⟩),
  (137, ⟨.int .u64, 1, 8, [.i .u64 0]⟩),
  (146, ⟨.slice 38, 1, 24, [.sl 0 true []]⟩),
  (148, ⟨.other, 1, 8, [.k (.pointer none)]⟩),
  (153, ⟨.int .i64, 1, 8, [.i .i64 0]⟩),
  (161, ⟨.int .u32, 1, 4, [.i .u32 0]⟩),
  (163, ⟨.int .u64, 1, 8, [.i .u64 0]⟩),
  (165, ⟨.slice 36, 1, 24, [.sl 0 true []]⟩),
  (169, ⟨.int .u64, 1, 8, [.i .u64 0]⟩),
  (173, ⟨.other, 1, 8, [.k (.pointer none)]⟩),
  (176, ⟨.arr 24 5, 24, 24, [.i .u8 0, .i .u8 0, .i .u8 0, .i .u8 0, .i .u8 0, .i .u8 0, .i .u8 0, .i .u8 0, .i .u8 0, .i .u8 0, .i .u8 0, .i .u8 0, .i .u8 0, .i .u8 0, .i .u8 0, .i .u8 0, .i .u8 0, .i .u8 0, .i .u8 0, .i .u8 0, .i .u8 0, .i .u8 0, .i .u8 0, .i .u8 0]⟩),
  (180, ⟨.other, 1, 8, [.k (.pointer none)]⟩),
  (184, ⟨.arr 20 163, 20, 160, [.i .u64 0, .i .u64 0, .i .u64 0, .i .u64 0, .i .u64 0, .i .u64 0, .i .u64 0, .i .u64 0, .i .u64 0, .i .u64 0, .i .u64 0, .i .u64 0, .i .u64 0, .i .u64 0, .i .u64 0, .i .u64 0, .i .u64 0, .i .u64 0, .i .u64 0, .i .u64 0]⟩),
  (187, ⟨.arr 32 5, 32, 32, [.i .u8 0, .i .u8 0, .i .u8 0, .i .u8 0, .i .u8 0, .i .u8 0, .i .u8 0, .i .u8 0, .i .u8 0, .i .u8 0, .i .u8 0, .i .u8 0, .i .u8 0, .i .u8 0, .i .u8 0, .i .u8 0, .i .u8 0, .i .u8 0, .i .u8 0, .i .u8 0, .i .u8 0, .i .u8 0, .i .u8 0, .i .u8 0, .i .u8 0, .i .u8 0, .i .u8 0, .i .u8 0, .i .u8 0, .i .u8 0, .i .u8 0, .i .u8 0]⟩),
  (188, ⟨.arr 64 5, 64, 64, [.i .u8 0, .i .u8 0, .i .u8 0, .i .u8 0, .i .u8 0, .i .u8 0, .i .u8 0, .i .u8 0, .i .u8 0, .i .u8 0, .i .u8 0, .i .u8 0, .i .u8 0, .i .u8 0, .i .u8 0, .i .u8 0, .i .u8 0, .i .u8 0, .i .u8 0, .i .u8 0, .i .u8 0, .i .u8 0, .i .u8 0, .i .u8 0, .i .u8 0, .i .u8 0, .i .u8 0, .i .u8 0, .i .u8 0, .i .u8 0, .i .u8 0, .i .u8 0, .i .u8 0, .i .u8 0, .i .u8 0, .i .u8 0, .i .u8 0, .i .u8 0, .i .u8 0, .i .u8 0, .i .u8 0, .i .u8 0, .i .u8 0, .i .u8 0, .i .u8 0, .i .u8 0, .i .u8 0, .i .u8 0, .i .u8 0, .i .u8 0, .i .u8 0, .i .u8 0, .i .u8 0, .i .u8 0, .i .u8 0, .i .u8 0, .i .u8 0, .i .u8 0, .i .u8 0, .i .u8 0, .i .u8 0, .i .u8 0, .i .u8 0, .i .u8 0]⟩)]
theorem ttok : tokB Tryd.prog tt = true := by kernel_rfl
theorem mixed : Tryd.prog.follows .mixedOrders = true := by kernel_rfl
theorem ba_list (x : ByteArray) : x.toList = x.data.toList := by rw [ByteArray.toList_eq]
theorem ba_mk (l : List UInt8) : (⟨l.toArray⟩ : ByteArray).toList = l := by rw [ba_list]
theorem ba_inj {x y : ByteArray} (h : x.toList = y.toList) : x = y := by
  rw [ba_list, ba_list] at h
  cases x; cases y
  simp only at h
  congr 1
  exact Array.toList_inj.1 h
theorem ba_eq {x y : ByteArray} : x.toList = y.toList ↔ x = y := ⟨ba_inj, fun h => by rw [h]⟩
theorem bytesLess_iff : ∀ {a b : List UInt8}, Op.bytesLess a b = true ↔ a < b := by
  intro a
  induction a with
  | nil => intro b; cases b <;> simp [Op.bytesLess]
  | cons x a ih =>
    intro b
    cases b with
    | nil => simp [Op.bytesLess]
    | cons y b =>
      simp only [Op.bytesLess]
      rw [List.cons_lt_cons_iff, ← ih]
      simp
end Go.PM
