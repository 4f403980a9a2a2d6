/-
  A part of the symbolic machine, of its soundness, and of what functions compute. No condition.
-/
import Derived.Test.YtakbfbcfddcncaaProg
import Derived.KernelRfl
import Derived.Attr
import Derived.Test.YtakbfbcfddcncaaE2b
set_option linter.unusedSimpArgs false
set_option linter.unusedVariables false
/- The seat's tables. -/
section
namespace Go.Eng
open Go Go.Proofs
set_option maxRecDepth 100000
def tabL : List (Nat × TI) := [
  (1, ⟨.func, false, false, 1, 8, [.c .nilf], none, []⟩),
  (2, ⟨.int .i64, false, false, 1, 8, [.c (.int .i64 0)], none, []⟩),
  (3, ⟨.int .i64, false, false, 1, 8, [.c (.int .i64 0)], none, []⟩),
  (4, ⟨.bool, false, false, 1, 1, [.c (.bool false)], none, []⟩),
  (5, ⟨.int .u8, false, false, 1, 1, [.c (.int .u8 0)], none, []⟩),
  (6, ⟨.int .u8, false, false, 1, 1, [.c (.int .u8 0)], none, []⟩),
  (7, ⟨.struct [(0, 1), (1, 1), (2, 1), (3, 1)], true, false, 4, 24, [.c (.int .i64 0), .c (.int .i64 0), .c (.bool false), .c (.int .u8 0)], some [.i, .i, .b, .i], [false, false, false, false]⟩),
  (8, ⟨.struct [(0, 1), (1, 1), (2, 1), (3, 1)], true, false, 4, 24, [.c (.int .i64 0), .c (.int .i64 0), .c (.bool false), .c (.int .u8 0)], some [.i, .i, .b, .i], [false, false, false, false]⟩),
  (9, ⟨.other, false, false, 1, 16, [.c (.str ⟨#[]⟩)], none, []⟩),
  (10, ⟨.other, false, false, 1, 16, [.c (.str ⟨#[]⟩)], none, []⟩),
  (11, ⟨.other, false, false, 1, 16, [.c (.str ⟨#[]⟩)], none, []⟩),
  (12, ⟨.int .u64, false, false, 1, 8, [.c (.int .u64 0)], none, []⟩),
  (13, ⟨.struct [(0, 1), (1, 1)], true, false, 2, 24, [.c (.str ⟨#[]⟩), .c (.int .u64 0)], none, [false, false]⟩),
  (14, ⟨.struct [(0, 1), (1, 1)], true, false, 2, 24, [.c (.str ⟨#[]⟩), .c (.int .u64 0)], none, [false, false]⟩),
  (15, ⟨.other, false, false, 1, 8, [.c .nilp], none, []⟩),
  (16, ⟨.other, false, false, 1, 8, [.c .nilp], none, []⟩),
  (17, ⟨.other, false, false, 1, 8, [.c .nilp], none, []⟩),
  (18, ⟨.struct [(0, 1)], true, false, 1, 8, [.c .nilp], none, [false]⟩),
  (19, ⟨.struct [(0, 1)], true, false, 1, 8, [.c .nilp], none, [false]⟩),
  (20, ⟨.other, false, true, 1, 16, [.c .nili], none, []⟩),
  (21, ⟨.int .i32, false, false, 1, 4, [.c (.int .i32 0)], none, []⟩),
  (22, ⟨.struct [(0, 1), (1, 1)], true, false, 2, 16, [.c (.int .i64 0), .c (.int .i64 0)], some [.i, .i], [false, false]⟩),
  (23, ⟨.struct [(0, 1), (1, 1)], true, false, 2, 16, [.c (.int .i64 0), .c (.int .i64 0)], some [.i, .i], [false, false]⟩),
  (24, ⟨.slice 50, false, false, 1, 24, [.sl 50 2], none, []⟩),
  (25, ⟨.struct [(0, 2), (2, 1), (3, 1), (4, 1)], true, false, 5, 56, [.c (.int .i64 0), .c (.int .i64 0), .sl 50 2, .c (.int .i64 0), .c (.int .i64 0)], none, [true, false, false, false]⟩),
  (26, ⟨.struct [(0, 2), (2, 1), (3, 1), (4, 1)], true, false, 5, 56, [.c (.int .i64 0), .c (.int .i64 0), .sl 50 2, .c (.int .i64 0), .c (.int .i64 0)], none, [true, false, false, false]⟩),
  (27, ⟨.slice 39, false, false, 1, 24, [.sl 39 4], none, []⟩),
  (28, ⟨.func, false, false, 1, 8, [.c .nilf], none, []⟩),
  (29, ⟨.func, false, false, 1, 8, [.c .nilf], none, []⟩),
  (30, ⟨.struct [(0, 1), (1, 2), (3, 2), (5, 1), (6, 1), (7, 1), (8, 1)], true, false, 9, 72, [.c (.int .i64 0), .c (.int .i64 0), .c (.int .i64 0), .c (.int .i64 0), .c (.int .i64 0), .c (.int .i64 0), .c (.int .i64 0), .c (.int .i64 0), .c (.int .i64 0)], some [.i, .i, .i, .i, .i, .i, .i, .i, .i], [false, true, true, false, false, false, false]⟩),
  (31, ⟨.struct [(0, 1), (1, 2), (3, 2), (5, 1), (6, 1), (7, 1), (8, 1)], true, false, 9, 72, [.c (.int .i64 0), .c (.int .i64 0), .c (.int .i64 0), .c (.int .i64 0), .c (.int .i64 0), .c (.int .i64 0), .c (.int .i64 0), .c (.int .i64 0), .c (.int .i64 0)], some [.i, .i, .i, .i, .i, .i, .i, .i, .i], [false, true, true, false, false, false, false]⟩),
  (32, ⟨.int .i64, false, false, 1, 8, [.c (.int .i64 0)], none, []⟩),
  (34, ⟨.func, false, false, 1, 8, [.c .nilf], none, []⟩),
  (35, ⟨.func, false, false, 1, 8, [.c .nilf], none, []⟩),
  (36, ⟨.func, false, false, 1, 8, [.c .nilf], none, []⟩),
  (37, ⟨.func, false, false, 1, 8, [.c .nilf], none, []⟩),
  (38, ⟨.struct [(0, 1), (1, 1), (2, 1), (3, 1)], true, false, 4, 32, [.c (.int .i64 0), .c (.int .i64 0), .c (.int .i64 0), .c (.int .i64 0)], some [.i, .i, .i, .i], [false, false, false, false]⟩),
  (39, ⟨.struct [(0, 1), (1, 1), (2, 1), (3, 1)], true, false, 4, 32, [.c (.int .i64 0), .c (.int .i64 0), .c (.int .i64 0), .c (.int .i64 0)], some [.i, .i, .i, .i], [false, false, false, false]⟩),
  (40, ⟨.func, false, false, 1, 8, [.c .nilf], none, []⟩),
  (41, ⟨.func, false, false, 1, 8, [.c .nilf], none, []⟩),
  (42, ⟨.slice 3, false, false, 1, 24, [.sl 3 1], none, []⟩),
  (43, ⟨.slice 46, false, false, 1, 24, [.sl 46 1], none, []⟩),
  (45, ⟨.func, false, false, 1, 8, [.c .nilf], none, []⟩),
  (46, ⟨.int .u32, false, false, 1, 4, [.c (.int .u32 0)], none, []⟩),
  (47, ⟨.func, false, false, 1, 8, [.c .nilf], none, []⟩),
  (48, ⟨.slice 23, false, false, 1, 24, [.sl 23 2], none, []⟩),
  (49, ⟨.struct [(0, 1), (1, 1)], true, false, 2, 32, [.c (.int .i64 0), .sl 23 2], none, [false, false]⟩),
  (50, ⟨.struct [(0, 1), (1, 1)], true, false, 2, 32, [.c (.int .i64 0), .sl 23 2], none, [false, false]⟩),
  (52, ⟨.func, false, false, 1, 8, [.c .nilf], none, []⟩),
  (53, ⟨.func, false, false, 1, 8, [.c .nilf], none, []⟩),
  (55, ⟨.func, false, false, 1, 8, [.c .nilf], none, []⟩),
  (56, ⟨.func, false, false, 1, 8, [.c .nilf], none, []⟩),
  (57, ⟨.func, false, false, 1, 8, [.c .nilf], none, []⟩),
  (58, ⟨.func, false, false, 1, 8, [.c .nilf], none, []⟩),
  (59, ⟨.func, false, false, 1, 8, [.c .nilf], none, []⟩),
  (61, ⟨.func, false, false, 1, 8, [.c .nilf], none, []⟩),
  (62, ⟨.func, false, false, 1, 8, [.c .nilf], none, []⟩),
  (63, ⟨.struct [(0, 1)], true, false, 1, 8, [.c (.int .i64 0)], some [.i], [false]⟩),
  (64, ⟨.struct [(0, 1)], true, false, 1, 8, [.c (.int .i64 0)], some [.i], [false]⟩),
  (66, ⟨.other, false, false, 1, 8, [.c .nilp], none, []⟩),
  (67, ⟨.func, false, false, 1, 8, [.c .nilf], none, []⟩),
  (68, ⟨.func, false, false, 1, 8, [.c .nilf], none, []⟩),
  (69, ⟨.array 6 68, true, false, 6, 48, [.c .nilf, .c .nilf, .c .nilf, .c .nilf, .c .nilf, .c .nilf], none, []⟩),
  (70, ⟨.func, false, false, 1, 8, [.c .nilf], none, []⟩),
  (71, ⟨.func, false, false, 1, 8, [.c .nilf], none, []⟩),
  (72, ⟨.func, false, false, 1, 8, [.c .nilf], none, []⟩),
  (73, ⟨.struct [(0, 5), (5, 9)], true, false, 14, 128, [.c (.int .i64 0), .c (.int .i64 0), .sl 50 2, .c (.int .i64 0), .c (.int .i64 0), .c (.int .i64 0), .c (.int .i64 0), .c (.int .i64 0), .c (.int .i64 0), .c (.int .i64 0), .c (.int .i64 0), .c (.int .i64 0), .c (.int .i64 0), .c (.int .i64 0)], none, [true, true]⟩),
  (74, ⟨.struct [(0, 5), (5, 9)], true, false, 14, 128, [.c (.int .i64 0), .c (.int .i64 0), .sl 50 2, .c (.int .i64 0), .c (.int .i64 0), .c (.int .i64 0), .c (.int .i64 0), .c (.int .i64 0), .c (.int .i64 0), .c (.int .i64 0), .c (.int .i64 0), .c (.int .i64 0), .c (.int .i64 0), .c (.int .i64 0)], none, [true, true]⟩),
  (75, ⟨.func, false, false, 1, 8, [.c .nilf], none, []⟩),
  (77, ⟨.func, false, false, 1, 8, [.c .nilf], none, []⟩),
  (78, ⟨.struct [(0, 5), (5, 9)], true, false, 14, 128, [.c (.int .i64 0), .c (.int .i64 0), .sl 50 2, .c (.int .i64 0), .c (.int .i64 0), .c (.int .i64 0), .c (.int .i64 0), .c (.int .i64 0), .c (.int .i64 0), .c (.int .i64 0), .c (.int .i64 0), .c (.int .i64 0), .c (.int .i64 0), .c (.int .i64 0)], none, [true, true]⟩),
  (79, ⟨.struct [(0, 5), (5, 9)], true, false, 14, 128, [.c (.int .i64 0), .c (.int .i64 0), .sl 50 2, .c (.int .i64 0), .c (.int .i64 0), .c (.int .i64 0), .c (.int .i64 0), .c (.int .i64 0), .c (.int .i64 0), .c (.int .i64 0), .c (.int .i64 0), .c (.int .i64 0), .c (.int .i64 0), .c (.int .i64 0)], none, [true, true]⟩),
  (81, ⟨.func, false, false, 1, 8, [.c .nilf], none, []⟩),
  (82, ⟨.func, false, false, 1, 8, [.c .nilf], none, []⟩),
  (83, ⟨.func, false, false, 1, 8, [.c .nilf], none, []⟩),
  (84, ⟨.func, false, false, 1, 8, [.c .nilf], none, []⟩),
  (85, ⟨.func, false, false, 1, 8, [.c .nilf], none, []⟩),
  (86, ⟨.func, false, false, 1, 8, [.c .nilf], none, []⟩),
  (87, ⟨.func, false, false, 1, 8, [.c .nilf], none, []⟩),
  (88, ⟨.func, false, false, 1, 8, [.c .nilf], none, []⟩),
  (89, ⟨.func, false, false, 1, 8, [.c .nilf], none, []⟩),
  (91, ⟨.func, false, false, 1, 8, [.c .nilf], none, []⟩),
  (92, ⟨.func, false, false, 1, 8, [.c .nilf], none, []⟩),
  (93, ⟨.func, false, false, 1, 8, [.c .nilf], none, []⟩),
  (94, ⟨.func, false, false, 1, 8, [.c .nilf], none, []⟩),
  (96, ⟨.func, false, false, 1, 8, [.c .nilf], none, []⟩),
  (97, ⟨.int .u64, false, false, 1, 8, [.c (.int .u64 0)], none, []⟩),
  (98, ⟨.func, false, false, 1, 8, [.c .nilf], none, []⟩),
  (99, ⟨.func, false, false, 1, 8, [.c .nilf], none, []⟩),
  (100, ⟨.func, false, false, 1, 8, [.c .nilf], none, []⟩),
  (101, ⟨.func, false, false, 1, 8, [.c .nilf], none, []⟩),
  (102, ⟨.func, false, false, 1, 8, [.c .nilf], none, []⟩),
  (103, ⟨.other, false, false, 1, 8, [.c .nilp], none, []⟩),
  (104, ⟨.other, false, false, 1, 8, [.c .nilp], none, []⟩),
  (105, ⟨.func, false, false, 1, 8, [.c .nilf], none, []⟩),
  (106, ⟨.func, false, false, 1, 8, [.c .nilf], none, []⟩),
  (107, ⟨.func, false, false, 1, 8, [.c .nilf], none, []⟩),
  (108, ⟨.func, false, false, 1, 8, [.c .nilf], none, []⟩),
  (109, ⟨.func, false, false, 1, 8, [.c .nilf], none, []⟩),
  (110, ⟨.func, false, false, 1, 8, [.c .nilf], none, []⟩),
  (111, ⟨.func, false, false, 1, 8, [.c .nilf], none, []⟩),
  (112, ⟨.func, false, false, 1, 8, [.c .nilf], none, []⟩),
  (113, ⟨.func, false, false, 1, 8, [.c .nilf], none, []⟩),
  (114, ⟨.struct [(0, 1), (1, 1), (2, 1), (3, 1)], true, false, 4, 40, [.c .nilp, .c .nilp, .c .nilp, .c (.str ⟨#[]⟩)], none, [false, false, false, false]⟩),
  (115, ⟨.struct [(0, 1), (1, 1), (2, 1), (3, 1)], true, false, 4, 40, [.c .nilp, .c .nilp, .c .nilp, .c (.str ⟨#[]⟩)], none, [false, false, false, false]⟩),
  (116, ⟨.array 0 16, true, false, 0, 0, [], none, []⟩),
  (119, ⟨.func, false, false, 1, 8, [.c .nilf], none, []⟩),
  (120, ⟨.int .u8, false, false, 1, 1, [.c (.int .u8 0)], none, []⟩),
  (121, ⟨.int .u8, false, false, 1, 1, [.c (.int .u8 0)], none, []⟩),
  (122, ⟨.func, false, false, 1, 8, [.c .nilf], none, []⟩),
  (123, ⟨.other, false, false, 1, 8, [.c .nilp], none, []⟩),
  (124, ⟨.int .i32, false, false, 1, 4, [.c (.int .i32 0)], none, []⟩),
  (125, ⟨.int .i32, false, false, 1, 4, [.c (.int .i32 0)], none, []⟩),
  (126, ⟨.struct [(0, 1), (1, 1), (2, 1), (3, 1), (4, 1), (5, 1), (6, 1), (7, 1), (8, 1), (9, 1), (10, 1)], true, false, 11, 48, [.c (.int .u64 0), .c (.int .u64 0), .c (.int .u32 0), .c (.int .u8 0), .c (.int .u8 0), .c (.int .u8 0), .c (.int .u8 0), .c .nilf, .c .nilp, .c (.int .i32 0), .c (.int .i32 0)], none, [false, false, false, false, false, false, false, false, false, false, false]⟩),
  (127, ⟨.struct [(0, 1), (1, 1), (2, 1), (3, 1), (4, 1), (5, 1), (6, 1), (7, 1), (8, 1), (9, 1), (10, 1)], true, false, 11, 48, [.c (.int .u64 0), .c (.int .u64 0), .c (.int .u32 0), .c (.int .u8 0), .c (.int .u8 0), .c (.int .u8 0), .c (.int .u8 0), .c .nilf, .c .nilp, .c (.int .i32 0), .c (.int .i32 0)], none, [false, false, false, false, false, false, false, false, false, false, false]⟩),
  (128, ⟨.other, false, false, 1, 8, [.c .nilp], none, []⟩)]
def tab : Nat → Option TI := lookT tabL
theorem tab_chk : (tabL.all fun x => chk Try.prog x.1 x.2) = true := by kernel_rfl
theorem tab_1 : tab 1 = some ⟨.func, false, false, 1, 8, [.c .nilf], none, []⟩ := rfl
theorem tab_2 : tab 2 = some ⟨.int .i64, false, false, 1, 8, [.c (.int .i64 0)], none, []⟩ := rfl
theorem tab_3 : tab 3 = some ⟨.int .i64, false, false, 1, 8, [.c (.int .i64 0)], none, []⟩ := rfl
theorem tab_4 : tab 4 = some ⟨.bool, false, false, 1, 1, [.c (.bool false)], none, []⟩ := rfl
theorem tab_5 : tab 5 = some ⟨.int .u8, false, false, 1, 1, [.c (.int .u8 0)], none, []⟩ := rfl
theorem tab_6 : tab 6 = some ⟨.int .u8, false, false, 1, 1, [.c (.int .u8 0)], none, []⟩ := rfl
theorem tab_7 : tab 7 = some ⟨.struct [(0, 1), (1, 1), (2, 1), (3, 1)], true, false, 4, 24, [.c (.int .i64 0), .c (.int .i64 0), .c (.bool false), .c (.int .u8 0)], some [.i, .i, .b, .i], [false, false, false, false]⟩ := rfl
theorem tab_8 : tab 8 = some ⟨.struct [(0, 1), (1, 1), (2, 1), (3, 1)], true, false, 4, 24, [.c (.int .i64 0), .c (.int .i64 0), .c (.bool false), .c (.int .u8 0)], some [.i, .i, .b, .i], [false, false, false, false]⟩ := rfl
theorem tab_9 : tab 9 = some ⟨.other, false, false, 1, 16, [.c (.str ⟨#[]⟩)], none, []⟩ := rfl
theorem tab_10 : tab 10 = some ⟨.other, false, false, 1, 16, [.c (.str ⟨#[]⟩)], none, []⟩ := rfl
theorem tab_11 : tab 11 = some ⟨.other, false, false, 1, 16, [.c (.str ⟨#[]⟩)], none, []⟩ := rfl
theorem tab_12 : tab 12 = some ⟨.int .u64, false, false, 1, 8, [.c (.int .u64 0)], none, []⟩ := rfl
theorem tab_13 : tab 13 = some ⟨.struct [(0, 1), (1, 1)], true, false, 2, 24, [.c (.str ⟨#[]⟩), .c (.int .u64 0)], none, [false, false]⟩ := rfl
theorem tab_14 : tab 14 = some ⟨.struct [(0, 1), (1, 1)], true, false, 2, 24, [.c (.str ⟨#[]⟩), .c (.int .u64 0)], none, [false, false]⟩ := rfl
theorem tab_15 : tab 15 = some ⟨.other, false, false, 1, 8, [.c .nilp], none, []⟩ := rfl
theorem tab_16 : tab 16 = some ⟨.other, false, false, 1, 8, [.c .nilp], none, []⟩ := rfl
theorem tab_17 : tab 17 = some ⟨.other, false, false, 1, 8, [.c .nilp], none, []⟩ := rfl
theorem tab_18 : tab 18 = some ⟨.struct [(0, 1)], true, false, 1, 8, [.c .nilp], none, [false]⟩ := rfl
theorem tab_19 : tab 19 = some ⟨.struct [(0, 1)], true, false, 1, 8, [.c .nilp], none, [false]⟩ := rfl
theorem tab_20 : tab 20 = some ⟨.other, false, true, 1, 16, [.c .nili], none, []⟩ := rfl
theorem tab_21 : tab 21 = some ⟨.int .i32, false, false, 1, 4, [.c (.int .i32 0)], none, []⟩ := rfl
theorem tab_22 : tab 22 = some ⟨.struct [(0, 1), (1, 1)], true, false, 2, 16, [.c (.int .i64 0), .c (.int .i64 0)], some [.i, .i], [false, false]⟩ := rfl
theorem tab_23 : tab 23 = some ⟨.struct [(0, 1), (1, 1)], true, false, 2, 16, [.c (.int .i64 0), .c (.int .i64 0)], some [.i, .i], [false, false]⟩ := rfl
theorem tab_24 : tab 24 = some ⟨.slice 50, false, false, 1, 24, [.sl 50 2], none, []⟩ := rfl
theorem tab_25 : tab 25 = some ⟨.struct [(0, 2), (2, 1), (3, 1), (4, 1)], true, false, 5, 56, [.c (.int .i64 0), .c (.int .i64 0), .sl 50 2, .c (.int .i64 0), .c (.int .i64 0)], none, [true, false, false, false]⟩ := rfl
theorem tab_26 : tab 26 = some ⟨.struct [(0, 2), (2, 1), (3, 1), (4, 1)], true, false, 5, 56, [.c (.int .i64 0), .c (.int .i64 0), .sl 50 2, .c (.int .i64 0), .c (.int .i64 0)], none, [true, false, false, false]⟩ := rfl
theorem tab_27 : tab 27 = some ⟨.slice 39, false, false, 1, 24, [.sl 39 4], none, []⟩ := rfl
theorem tab_28 : tab 28 = some ⟨.func, false, false, 1, 8, [.c .nilf], none, []⟩ := rfl
theorem tab_29 : tab 29 = some ⟨.func, false, false, 1, 8, [.c .nilf], none, []⟩ := rfl
theorem tab_30 : tab 30 = some ⟨.struct [(0, 1), (1, 2), (3, 2), (5, 1), (6, 1), (7, 1), (8, 1)], true, false, 9, 72, [.c (.int .i64 0), .c (.int .i64 0), .c (.int .i64 0), .c (.int .i64 0), .c (.int .i64 0), .c (.int .i64 0), .c (.int .i64 0), .c (.int .i64 0), .c (.int .i64 0)], some [.i, .i, .i, .i, .i, .i, .i, .i, .i], [false, true, true, false, false, false, false]⟩ := rfl
theorem tab_31 : tab 31 = some ⟨.struct [(0, 1), (1, 2), (3, 2), (5, 1), (6, 1), (7, 1), (8, 1)], true, false, 9, 72, [.c (.int .i64 0), .c (.int .i64 0), .c (.int .i64 0), .c (.int .i64 0), .c (.int .i64 0), .c (.int .i64 0), .c (.int .i64 0), .c (.int .i64 0), .c (.int .i64 0)], some [.i, .i, .i, .i, .i, .i, .i, .i, .i], [false, true, true, false, false, false, false]⟩ := rfl
theorem tab_32 : tab 32 = some ⟨.int .i64, false, false, 1, 8, [.c (.int .i64 0)], none, []⟩ := rfl
theorem tab_34 : tab 34 = some ⟨.func, false, false, 1, 8, [.c .nilf], none, []⟩ := rfl
theorem tab_35 : tab 35 = some ⟨.func, false, false, 1, 8, [.c .nilf], none, []⟩ := rfl
theorem tab_36 : tab 36 = some ⟨.func, false, false, 1, 8, [.c .nilf], none, []⟩ := rfl
theorem tab_37 : tab 37 = some ⟨.func, false, false, 1, 8, [.c .nilf], none, []⟩ := rfl
theorem tab_38 : tab 38 = some ⟨.struct [(0, 1), (1, 1), (2, 1), (3, 1)], true, false, 4, 32, [.c (.int .i64 0), .c (.int .i64 0), .c (.int .i64 0), .c (.int .i64 0)], some [.i, .i, .i, .i], [false, false, false, false]⟩ := rfl
theorem tab_39 : tab 39 = some ⟨.struct [(0, 1), (1, 1), (2, 1), (3, 1)], true, false, 4, 32, [.c (.int .i64 0), .c (.int .i64 0), .c (.int .i64 0), .c (.int .i64 0)], some [.i, .i, .i, .i], [false, false, false, false]⟩ := rfl
theorem tab_40 : tab 40 = some ⟨.func, false, false, 1, 8, [.c .nilf], none, []⟩ := rfl
theorem tab_41 : tab 41 = some ⟨.func, false, false, 1, 8, [.c .nilf], none, []⟩ := rfl
theorem tab_42 : tab 42 = some ⟨.slice 3, false, false, 1, 24, [.sl 3 1], none, []⟩ := rfl
theorem tab_43 : tab 43 = some ⟨.slice 46, false, false, 1, 24, [.sl 46 1], none, []⟩ := rfl
theorem tab_45 : tab 45 = some ⟨.func, false, false, 1, 8, [.c .nilf], none, []⟩ := rfl
theorem tab_46 : tab 46 = some ⟨.int .u32, false, false, 1, 4, [.c (.int .u32 0)], none, []⟩ := rfl
theorem tab_47 : tab 47 = some ⟨.func, false, false, 1, 8, [.c .nilf], none, []⟩ := rfl
theorem tab_48 : tab 48 = some ⟨.slice 23, false, false, 1, 24, [.sl 23 2], none, []⟩ := rfl
theorem tab_49 : tab 49 = some ⟨.struct [(0, 1), (1, 1)], true, false, 2, 32, [.c (.int .i64 0), .sl 23 2], none, [false, false]⟩ := rfl
theorem tab_50 : tab 50 = some ⟨.struct [(0, 1), (1, 1)], true, false, 2, 32, [.c (.int .i64 0), .sl 23 2], none, [false, false]⟩ := rfl
theorem tab_52 : tab 52 = some ⟨.func, false, false, 1, 8, [.c .nilf], none, []⟩ := rfl
theorem tab_53 : tab 53 = some ⟨.func, false, false, 1, 8, [.c .nilf], none, []⟩ := rfl
theorem tab_55 : tab 55 = some ⟨.func, false, false, 1, 8, [.c .nilf], none, []⟩ := rfl
theorem tab_56 : tab 56 = some ⟨.func, false, false, 1, 8, [.c .nilf], none, []⟩ := rfl
theorem tab_57 : tab 57 = some ⟨.func, false, false, 1, 8, [.c .nilf], none, []⟩ := rfl
theorem tab_58 : tab 58 = some ⟨.func, false, false, 1, 8, [.c .nilf], none, []⟩ := rfl
theorem tab_59 : tab 59 = some ⟨.func, false, false, 1, 8, [.c .nilf], none, []⟩ := rfl
theorem tab_61 : tab 61 = some ⟨.func, false, false, 1, 8, [.c .nilf], none, []⟩ := rfl
theorem tab_62 : tab 62 = some ⟨.func, false, false, 1, 8, [.c .nilf], none, []⟩ := rfl
theorem tab_63 : tab 63 = some ⟨.struct [(0, 1)], true, false, 1, 8, [.c (.int .i64 0)], some [.i], [false]⟩ := rfl
theorem tab_64 : tab 64 = some ⟨.struct [(0, 1)], true, false, 1, 8, [.c (.int .i64 0)], some [.i], [false]⟩ := rfl
theorem tab_66 : tab 66 = some ⟨.other, false, false, 1, 8, [.c .nilp], none, []⟩ := rfl
theorem tab_67 : tab 67 = some ⟨.func, false, false, 1, 8, [.c .nilf], none, []⟩ := rfl
theorem tab_68 : tab 68 = some ⟨.func, false, false, 1, 8, [.c .nilf], none, []⟩ := rfl
theorem tab_69 : tab 69 = some ⟨.array 6 68, true, false, 6, 48, [.c .nilf, .c .nilf, .c .nilf, .c .nilf, .c .nilf, .c .nilf], none, []⟩ := rfl
theorem tab_70 : tab 70 = some ⟨.func, false, false, 1, 8, [.c .nilf], none, []⟩ := rfl
theorem tab_71 : tab 71 = some ⟨.func, false, false, 1, 8, [.c .nilf], none, []⟩ := rfl
theorem tab_72 : tab 72 = some ⟨.func, false, false, 1, 8, [.c .nilf], none, []⟩ := rfl
theorem tab_73 : tab 73 = some ⟨.struct [(0, 5), (5, 9)], true, false, 14, 128, [.c (.int .i64 0), .c (.int .i64 0), .sl 50 2, .c (.int .i64 0), .c (.int .i64 0), .c (.int .i64 0), .c (.int .i64 0), .c (.int .i64 0), .c (.int .i64 0), .c (.int .i64 0), .c (.int .i64 0), .c (.int .i64 0), .c (.int .i64 0), .c (.int .i64 0)], none, [true, true]⟩ := rfl
theorem tab_74 : tab 74 = some ⟨.struct [(0, 5), (5, 9)], true, false, 14, 128, [.c (.int .i64 0), .c (.int .i64 0), .sl 50 2, .c (.int .i64 0), .c (.int .i64 0), .c (.int .i64 0), .c (.int .i64 0), .c (.int .i64 0), .c (.int .i64 0), .c (.int .i64 0), .c (.int .i64 0), .c (.int .i64 0), .c (.int .i64 0), .c (.int .i64 0)], none, [true, true]⟩ := rfl
theorem tab_75 : tab 75 = some ⟨.func, false, false, 1, 8, [.c .nilf], none, []⟩ := rfl
theorem tab_77 : tab 77 = some ⟨.func, false, false, 1, 8, [.c .nilf], none, []⟩ := rfl
theorem tab_78 : tab 78 = some ⟨.struct [(0, 5), (5, 9)], true, false, 14, 128, [.c (.int .i64 0), .c (.int .i64 0), .sl 50 2, .c (.int .i64 0), .c (.int .i64 0), .c (.int .i64 0), .c (.int .i64 0), .c (.int .i64 0), .c (.int .i64 0), .c (.int .i64 0), .c (.int .i64 0), .c (.int .i64 0), .c (.int .i64 0), .c (.int .i64 0)], none, [true, true]⟩ := rfl
theorem tab_79 : tab 79 = some ⟨.struct [(0, 5), (5, 9)], true, false, 14, 128, [.c (.int .i64 0), .c (.int .i64 0), .sl 50 2, .c (.int .i64 0), .c (.int .i64 0), .c (.int .i64 0), .c (.int .i64 0), .c (.int .i64 0), .c (.int .i64 0), .c (.int .i64 0), .c (.int .i64 0), .c (.int .i64 0), .c (.int .i64 0), .c (.int .i64 0)], none, [true, true]⟩ := rfl
theorem tab_81 : tab 81 = some ⟨.func, false, false, 1, 8, [.c .nilf], none, []⟩ := rfl
theorem tab_82 : tab 82 = some ⟨.func, false, false, 1, 8, [.c .nilf], none, []⟩ := rfl
theorem tab_83 : tab 83 = some ⟨.func, false, false, 1, 8, [.c .nilf], none, []⟩ := rfl
theorem tab_84 : tab 84 = some ⟨.func, false, false, 1, 8, [.c .nilf], none, []⟩ := rfl
theorem tab_85 : tab 85 = some ⟨.func, false, false, 1, 8, [.c .nilf], none, []⟩ := rfl
theorem tab_86 : tab 86 = some ⟨.func, false, false, 1, 8, [.c .nilf], none, []⟩ := rfl
theorem tab_87 : tab 87 = some ⟨.func, false, false, 1, 8, [.c .nilf], none, []⟩ := rfl
theorem tab_88 : tab 88 = some ⟨.func, false, false, 1, 8, [.c .nilf], none, []⟩ := rfl
theorem tab_89 : tab 89 = some ⟨.func, false, false, 1, 8, [.c .nilf], none, []⟩ := rfl
theorem tab_91 : tab 91 = some ⟨.func, false, false, 1, 8, [.c .nilf], none, []⟩ := rfl
theorem tab_92 : tab 92 = some ⟨.func, false, false, 1, 8, [.c .nilf], none, []⟩ := rfl
theorem tab_93 : tab 93 = some ⟨.func, false, false, 1, 8, [.c .nilf], none, []⟩ := rfl
theorem tab_94 : tab 94 = some ⟨.func, false, false, 1, 8, [.c .nilf], none, []⟩ := rfl
theorem tab_96 : tab 96 = some ⟨.func, false, false, 1, 8, [.c .nilf], none, []⟩ := rfl
theorem tab_97 : tab 97 = some ⟨.int .u64, false, false, 1, 8, [.c (.int .u64 0)], none, []⟩ := rfl
theorem tab_98 : tab 98 = some ⟨.func, false, false, 1, 8, [.c .nilf], none, []⟩ := rfl
theorem tab_99 : tab 99 = some ⟨.func, false, false, 1, 8, [.c .nilf], none, []⟩ := rfl
theorem tab_100 : tab 100 = some ⟨.func, false, false, 1, 8, [.c .nilf], none, []⟩ := rfl
theorem tab_101 : tab 101 = some ⟨.func, false, false, 1, 8, [.c .nilf], none, []⟩ := rfl
theorem tab_102 : tab 102 = some ⟨.func, false, false, 1, 8, [.c .nilf], none, []⟩ := rfl
theorem tab_103 : tab 103 = some ⟨.other, false, false, 1, 8, [.c .nilp], none, []⟩ := rfl
theorem tab_104 : tab 104 = some ⟨.other, false, false, 1, 8, [.c .nilp], none, []⟩ := rfl
theorem tab_105 : tab 105 = some ⟨.func, false, false, 1, 8, [.c .nilf], none, []⟩ := rfl
theorem tab_106 : tab 106 = some ⟨.func, false, false, 1, 8, [.c .nilf], none, []⟩ := rfl
theorem tab_107 : tab 107 = some ⟨.func, false, false, 1, 8, [.c .nilf], none, []⟩ := rfl
theorem tab_108 : tab 108 = some ⟨.func, false, false, 1, 8, [.c .nilf], none, []⟩ := rfl
theorem tab_109 : tab 109 = some ⟨.func, false, false, 1, 8, [.c .nilf], none, []⟩ := rfl
theorem tab_110 : tab 110 = some ⟨.func, false, false, 1, 8, [.c .nilf], none, []⟩ := rfl
theorem tab_111 : tab 111 = some ⟨.func, false, false, 1, 8, [.c .nilf], none, []⟩ := rfl
theorem tab_112 : tab 112 = some ⟨.func, false, false, 1, 8, [.c .nilf], none, []⟩ := rfl
theorem tab_113 : tab 113 = some ⟨.func, false, false, 1, 8, [.c .nilf], none, []⟩ := rfl
theorem tab_114 : tab 114 = some ⟨.struct [(0, 1), (1, 1), (2, 1), (3, 1)], true, false, 4, 40, [.c .nilp, .c .nilp, .c .nilp, .c (.str ⟨#[]⟩)], none, [false, false, false, false]⟩ := rfl
theorem tab_115 : tab 115 = some ⟨.struct [(0, 1), (1, 1), (2, 1), (3, 1)], true, false, 4, 40, [.c .nilp, .c .nilp, .c .nilp, .c (.str ⟨#[]⟩)], none, [false, false, false, false]⟩ := rfl
theorem tab_116 : tab 116 = some ⟨.array 0 16, true, false, 0, 0, [], none, []⟩ := rfl
theorem tab_119 : tab 119 = some ⟨.func, false, false, 1, 8, [.c .nilf], none, []⟩ := rfl
theorem tab_120 : tab 120 = some ⟨.int .u8, false, false, 1, 1, [.c (.int .u8 0)], none, []⟩ := rfl
theorem tab_121 : tab 121 = some ⟨.int .u8, false, false, 1, 1, [.c (.int .u8 0)], none, []⟩ := rfl
theorem tab_122 : tab 122 = some ⟨.func, false, false, 1, 8, [.c .nilf], none, []⟩ := rfl
theorem tab_123 : tab 123 = some ⟨.other, false, false, 1, 8, [.c .nilp], none, []⟩ := rfl
theorem tab_124 : tab 124 = some ⟨.int .i32, false, false, 1, 4, [.c (.int .i32 0)], none, []⟩ := rfl
theorem tab_125 : tab 125 = some ⟨.int .i32, false, false, 1, 4, [.c (.int .i32 0)], none, []⟩ := rfl
theorem tab_126 : tab 126 = some ⟨.struct [(0, 1), (1, 1), (2, 1), (3, 1), (4, 1), (5, 1), (6, 1), (7, 1), (8, 1), (9, 1), (10, 1)], true, false, 11, 48, [.c (.int .u64 0), .c (.int .u64 0), .c (.int .u32 0), .c (.int .u8 0), .c (.int .u8 0), .c (.int .u8 0), .c (.int .u8 0), .c .nilf, .c .nilp, .c (.int .i32 0), .c (.int .i32 0)], none, [false, false, false, false, false, false, false, false, false, false, false]⟩ := rfl
theorem tab_127 : tab 127 = some ⟨.struct [(0, 1), (1, 1), (2, 1), (3, 1), (4, 1), (5, 1), (6, 1), (7, 1), (8, 1), (9, 1), (10, 1)], true, false, 11, 48, [.c (.int .u64 0), .c (.int .u64 0), .c (.int .u32 0), .c (.int .u8 0), .c (.int .u8 0), .c (.int .u8 0), .c (.int .u8 0), .c .nilf, .c .nilp, .c (.int .i32 0), .c (.int .i32 0)], none, [false, false, false, false, false, false, false, false, false, false, false]⟩ := rfl
theorem tab_128 : tab 128 = some ⟨.other, false, false, 1, 8, [.c .nilp], none, []⟩ := rfl
theorem fn_3 : Try.prog.funcs[3]? = some Try.f3 := rfl
theorem fn_4 : Try.prog.funcs[4]? = some Try.f4 := rfl
theorem fn_5 : Try.prog.funcs[5]? = some Try.f5 := rfl
theorem fn_6 : Try.prog.funcs[6]? = some Try.f6 := rfl
theorem fn_7 : Try.prog.funcs[7]? = some Try.f7 := rfl
theorem fn_8 : Try.prog.funcs[8]? = some Try.f8 := rfl
theorem fn_9 : Try.prog.funcs[9]? = some Try.f9 := rfl
theorem fn_10 : Try.prog.funcs[10]? = some Try.f10 := rfl
theorem fn_11 : Try.prog.funcs[11]? = some Try.f11 := rfl
theorem fn_12 : Try.prog.funcs[12]? = some Try.f12 := rfl
theorem fn_13 : Try.prog.funcs[13]? = some Try.f13 := rfl
theorem fn_14 : Try.prog.funcs[14]? = some Try.f14 := rfl
theorem fn_15 : Try.prog.funcs[15]? = some Try.f15 := rfl
theorem fn_16 : Try.prog.funcs[16]? = some Try.f16 := rfl
theorem fn_17 : Try.prog.funcs[17]? = some Try.f17 := rfl
theorem fn_18 : Try.prog.funcs[18]? = some Try.f18 := rfl
theorem fn_19 : Try.prog.funcs[19]? = some Try.f19 := rfl
theorem fn_20 : Try.prog.funcs[20]? = some Try.f20 := rfl
theorem fn_21 : Try.prog.funcs[21]? = some Try.f21 := rfl
theorem fn_22 : Try.prog.funcs[22]? = some Try.f22 := rfl
theorem fn_23 : Try.prog.funcs[23]? = some Try.f23 := rfl
theorem fn_24 : Try.prog.funcs[24]? = some Try.f24 := rfl
theorem fn_25 : Try.prog.funcs[25]? = some Try.f25 := rfl
theorem fn_26 : Try.prog.funcs[26]? = some Try.f26 := rfl
theorem fn_27 : Try.prog.funcs[27]? = some Try.f27 := rfl
theorem fn_28 : Try.prog.funcs[28]? = some Try.f28 := rfl
theorem fn_29 : Try.prog.funcs[29]? = some Try.f29 := rfl
theorem fn_30 : Try.prog.funcs[30]? = some Try.f30 := rfl
theorem fn_31 : Try.prog.funcs[31]? = some Try.f31 := rfl
theorem fn_32 : Try.prog.funcs[32]? = some Try.f32 := rfl
theorem fn_33 : Try.prog.funcs[33]? = some Try.f33 := rfl
theorem fn_34 : Try.prog.funcs[34]? = some Try.f34 := rfl
theorem fn_35 : Try.prog.funcs[35]? = some Try.f35 := rfl
theorem fn_36 : Try.prog.funcs[36]? = some Try.f36 := rfl
theorem fn_37 : Try.prog.funcs[37]? = some Try.f37 := rfl
theorem fn_38 : Try.prog.funcs[38]? = some Try.f38 := rfl
theorem fn_39 : Try.prog.funcs[39]? = some Try.f39 := rfl
theorem fn_40 : Try.prog.funcs[40]? = some Try.f40 := rfl
theorem fn_41 : Try.prog.funcs[41]? = some Try.f41 := rfl
theorem fn_42 : Try.prog.funcs[42]? = some Try.f42 := rfl
theorem fn_43 : Try.prog.funcs[43]? = some Try.f43 := rfl
theorem fn_44 : Try.prog.funcs[44]? = some Try.f44 := rfl
theorem fn_45 : Try.prog.funcs[45]? = some Try.f45 := rfl
theorem fn_46 : Try.prog.funcs[46]? = some Try.f46 := rfl
theorem fn_47 : Try.prog.funcs[47]? = some Try.f47 := rfl
theorem fn_48 : Try.prog.funcs[48]? = some Try.f48 := rfl
theorem fn_49 : Try.prog.funcs[49]? = some Try.f49 := rfl
theorem fn_50 : Try.prog.funcs[50]? = some Try.f50 := rfl
theorem fn_51 : Try.prog.funcs[51]? = some Try.f51 := rfl
theorem fn_52 : Try.prog.funcs[52]? = some Try.f52 := rfl
theorem fn_53 : Try.prog.funcs[53]? = some Try.f53 := rfl
theorem fn_54 : Try.prog.funcs[54]? = some Try.f54 := rfl
theorem fn_55 : Try.prog.funcs[55]? = some Try.f55 := rfl
theorem fn_56 : Try.prog.funcs[56]? = some Try.f56 := rfl
theorem fn_57 : Try.prog.funcs[57]? = some Try.f57 := rfl
theorem fn_58 : Try.prog.funcs[58]? = some Try.f58 := rfl
theorem fn_59 : Try.prog.funcs[59]? = some Try.f59 := rfl
theorem fn_60 : Try.prog.funcs[60]? = some Try.f60 := rfl
theorem fn_61 : Try.prog.funcs[61]? = some Try.f61 := rfl
theorem fn_62 : Try.prog.funcs[62]? = some Try.f62 := rfl
theorem fn_63 : Try.prog.funcs[63]? = some Try.f63 := rfl
theorem fn_64 : Try.prog.funcs[64]? = some Try.f64 := rfl
theorem fn_65 : Try.prog.funcs[65]? = some Try.f65 := rfl
theorem fn_66 : Try.prog.funcs[66]? = some Try.f66 := rfl
theorem fn_67 : Try.prog.funcs[67]? = some Try.f67 := rfl
theorem fn_68 : Try.prog.funcs[68]? = some Try.f68 := rfl
theorem fn_69 : Try.prog.funcs[69]? = some Try.f69 := rfl
theorem fn_70 : Try.prog.funcs[70]? = some Try.f70 := rfl
theorem fn_71 : Try.prog.funcs[71]? = some Try.f71 := rfl
theorem fn_72 : Try.prog.funcs[72]? = some Try.f72 := rfl
theorem fn_73 : Try.prog.funcs[73]? = some Try.f73 := rfl
theorem fn_74 : Try.prog.funcs[74]? = some Try.f74 := rfl
theorem fn_75 : Try.prog.funcs[75]? = some Try.f75 := rfl
theorem fn_76 : Try.prog.funcs[76]? = some Try.f76 := rfl
theorem fn_77 : Try.prog.funcs[77]? = some Try.f77 := rfl
theorem fn_78 : Try.prog.funcs[78]? = some Try.f78 := rfl
theorem fn_79 : Try.prog.funcs[79]? = some Try.f79 := rfl
theorem ent_3 : entB Try.prog 3 = true := by kernel_rfl
theorem ent_4 : entB Try.prog 4 = true := by kernel_rfl
theorem ent_5 : entB Try.prog 5 = true := by kernel_rfl
theorem ent_6 : entB Try.prog 6 = true := by kernel_rfl
theorem ent_7 : entB Try.prog 7 = true := by kernel_rfl
theorem ent_8 : entB Try.prog 8 = true := by kernel_rfl
theorem ent_9 : entB Try.prog 9 = true := by kernel_rfl
theorem ent_10 : entB Try.prog 10 = true := by kernel_rfl
theorem ent_11 : entB Try.prog 11 = true := by kernel_rfl
theorem ent_12 : entB Try.prog 12 = true := by kernel_rfl
theorem ent_13 : entB Try.prog 13 = true := by kernel_rfl
theorem ent_14 : entB Try.prog 14 = true := by kernel_rfl
theorem ent_15 : entB Try.prog 15 = true := by kernel_rfl
theorem ent_16 : entB Try.prog 16 = true := by kernel_rfl
theorem ent_17 : entB Try.prog 17 = true := by kernel_rfl
theorem ent_18 : entB Try.prog 18 = true := by kernel_rfl
theorem ent_19 : entB Try.prog 19 = true := by kernel_rfl
theorem ent_20 : entB Try.prog 20 = true := by kernel_rfl
theorem ent_21 : entB Try.prog 21 = true := by kernel_rfl
theorem ent_22 : entB Try.prog 22 = true := by kernel_rfl
theorem ent_23 : entB Try.prog 23 = true := by kernel_rfl
theorem ent_24 : entB Try.prog 24 = true := by kernel_rfl
theorem ent_25 : entB Try.prog 25 = true := by kernel_rfl
theorem ent_26 : entB Try.prog 26 = true := by kernel_rfl
theorem ent_27 : entB Try.prog 27 = true := by kernel_rfl
theorem ent_28 : entB Try.prog 28 = true := by kernel_rfl
theorem ent_29 : entB Try.prog 29 = true := by kernel_rfl
theorem ent_30 : entB Try.prog 30 = true := by kernel_rfl
theorem ent_31 : entB Try.prog 31 = true := by kernel_rfl
theorem ent_32 : entB Try.prog 32 = true := by kernel_rfl
theorem ent_33 : entB Try.prog 33 = true := by kernel_rfl
theorem ent_34 : entB Try.prog 34 = true := by kernel_rfl
theorem ent_35 : entB Try.prog 35 = true := by kernel_rfl
theorem ent_36 : entB Try.prog 36 = true := by kernel_rfl
theorem ent_37 : entB Try.prog 37 = true := by kernel_rfl
theorem ent_38 : entB Try.prog 38 = true := by kernel_rfl
theorem ent_39 : entB Try.prog 39 = true := by kernel_rfl
theorem ent_40 : entB Try.prog 40 = true := by kernel_rfl
theorem ent_41 : entB Try.prog 41 = true := by kernel_rfl
theorem ent_42 : entB Try.prog 42 = true := by kernel_rfl
theorem ent_43 : entB Try.prog 43 = true := by kernel_rfl
theorem ent_44 : entB Try.prog 44 = true := by kernel_rfl
theorem ent_45 : entB Try.prog 45 = true := by kernel_rfl
theorem ent_46 : entB Try.prog 46 = true := by kernel_rfl
theorem ent_47 : entB Try.prog 47 = true := by kernel_rfl
theorem ent_48 : entB Try.prog 48 = true := by kernel_rfl
theorem ent_49 : entB Try.prog 49 = true := by kernel_rfl
theorem ent_50 : entB Try.prog 50 = true := by kernel_rfl
theorem ent_51 : entB Try.prog 51 = true := by kernel_rfl
theorem ent_52 : entB Try.prog 52 = true := by kernel_rfl
theorem ent_53 : entB Try.prog 53 = true := by kernel_rfl
theorem ent_54 : entB Try.prog 54 = true := by kernel_rfl
theorem ent_55 : entB Try.prog 55 = true := by kernel_rfl
theorem ent_56 : entB Try.prog 56 = true := by kernel_rfl
theorem ent_57 : entB Try.prog 57 = true := by kernel_rfl
theorem ent_58 : entB Try.prog 58 = true := by kernel_rfl
theorem ent_59 : entB Try.prog 59 = true := by kernel_rfl
theorem ent_60 : entB Try.prog 60 = true := by kernel_rfl
theorem ent_61 : entB Try.prog 61 = true := by kernel_rfl
theorem ent_62 : entB Try.prog 62 = true := by kernel_rfl
theorem ent_63 : entB Try.prog 63 = true := by kernel_rfl
theorem ent_64 : entB Try.prog 64 = true := by kernel_rfl
theorem ent_65 : entB Try.prog 65 = true := by kernel_rfl
theorem ent_66 : entB Try.prog 66 = true := by kernel_rfl
theorem ent_67 : entB Try.prog 67 = true := by kernel_rfl
theorem ent_68 : entB Try.prog 68 = true := by kernel_rfl
theorem ent_69 : entB Try.prog 69 = true := by kernel_rfl
theorem ent_70 : entB Try.prog 70 = true := by kernel_rfl
theorem ent_71 : entB Try.prog 71 = true := by kernel_rfl
theorem ent_72 : entB Try.prog 72 = true := by kernel_rfl
theorem ent_73 : entB Try.prog 73 = true := by kernel_rfl
theorem ent_74 : entB Try.prog 74 = true := by kernel_rfl
theorem ent_75 : entB Try.prog 75 = true := by kernel_rfl
theorem ent_76 : entB Try.prog 76 = true := by kernel_rfl
theorem ent_77 : entB Try.prog 77 = true := by kernel_rfl
theorem ent_78 : entB Try.prog 78 = true := by kernel_rfl
theorem ent_79 : entB Try.prog 79 = true := by kernel_rfl
attribute [go_sem] tab_1 tab_2 tab_3 tab_4 tab_5 tab_6 tab_7 tab_8 tab_9 tab_10 tab_11 tab_12 tab_13 tab_14 tab_15 tab_16 tab_17 tab_18 tab_19 tab_20 tab_21 tab_22 tab_23 tab_24 tab_25 tab_26 tab_27 tab_28 tab_29 tab_30 tab_31 tab_32 tab_34 tab_35 tab_36 tab_37 tab_38 tab_39 tab_40 tab_41 tab_42 tab_43 tab_45 tab_46 tab_47 tab_48 tab_49 tab_50 tab_52 tab_53 tab_55 tab_56 tab_57 tab_58 tab_59 tab_61 tab_62 tab_63 tab_64 tab_66 tab_67 tab_68 tab_69 tab_70 tab_71 tab_72 tab_73 tab_74 tab_75 tab_77 tab_78 tab_79 tab_81 tab_82 tab_83 tab_84 tab_85 tab_86 tab_87 tab_88 tab_89 tab_91 tab_92 tab_93 tab_94 tab_96 tab_97 tab_98 tab_99 tab_100 tab_101 tab_102 tab_103 tab_104 tab_105 tab_106 tab_107 tab_108 tab_109 tab_110 tab_111 tab_112 tab_113 tab_114 tab_115 tab_116 tab_119 tab_120 tab_121 tab_122 tab_123 tab_124 tab_125 tab_126 tab_127 tab_128 ent_3 ent_4 ent_5 ent_6 ent_7 ent_8 ent_9 ent_10 ent_11 ent_12 ent_13 ent_14 ent_15 ent_16 ent_17 ent_18 ent_19 ent_20 ent_21 ent_22 ent_23 ent_24 ent_25 ent_26 ent_27 ent_28 ent_29 ent_30 ent_31 ent_32 ent_33 ent_34 ent_35 ent_36 ent_37 ent_38 ent_39 ent_40 ent_41 ent_42 ent_43 ent_44 ent_45 ent_46 ent_47 ent_48 ent_49 ent_50 ent_51 ent_52 ent_53 ent_54 ent_55 ent_56 ent_57 ent_58 ent_59 ent_60 ent_61 ent_62 ent_63 ent_64 ent_65 ent_66 ent_67 ent_68 ent_69 ent_70 ent_71 ent_72 ent_73 ent_74 ent_75 ent_76 ent_77 ent_78 ent_79 fn_3 fn_4 fn_5 fn_6 fn_7 fn_8 fn_9 fn_10 fn_11 fn_12 fn_13 fn_14 fn_15 fn_16 fn_17 fn_18 fn_19 fn_20 fn_21 fn_22 fn_23 fn_24 fn_25 fn_26 fn_27 fn_28 fn_29 fn_30 fn_31 fn_32 fn_33 fn_34 fn_35 fn_36 fn_37 fn_38 fn_39 fn_40 fn_41 fn_42 fn_43 fn_44 fn_45 fn_46 fn_47 fn_48 fn_49 fn_50 fn_51 fn_52 fn_53 fn_54 fn_55 fn_56 fn_57 fn_58 fn_59 fn_60 fn_61 fn_62 fn_63 fn_64 fn_65 fn_66 fn_67 fn_68 fn_69 fn_70 fn_71 fn_72 fn_73 fn_74 fn_75 fn_76 fn_77 fn_78 fn_79
end Go.Eng
end

/- The seat's context. -/
section
namespace Go.Eng
open Go Go.RowKit Go.Proofs
theorem den_row_congr {E : Env} {w : World} {n sz : Nat} {f f' : Nat → Nat → SV} (h : ∀ i j, i < n → j < sz → f i j = f' i j) {v : Value} (hd : Den E w (.row n sz f) v) : Den E w (.row n sz f') v := by
  cases hd with
  | row A cap g hA ho hn hc h1 hd => exact .row A cap g hA ho hn hc h1 (fun i j hi hj => by rw [← h i j hi hj]; exact hd i j hi hj)
  | rowZ a cap => exact .rowZ a cap
theorem SameD.int {n sz : Nat} {f : Nat → Nat → SV} (h : IntR n sz f) : SameD (.row n sz f) (.row n sz fun i j => .int .i64 (iv (f i j))) := ⟨fun _ _ _ hd => den_row_congr h hd⟩
def rowF (k : IntKind) (a : Nat → Nat → Int) : Nat → Nat → SV := fun i j => .int k (a i j)
theorem rowF_eq (k : IntKind) (a : Nat → Nat → Int) : rowF k a = fun i j => .int k (a i j) := rfl
theorem SameD.intK {k : IntKind} {n sz : Nat} {f : Nat → Nat → SV} (h : IntK k n sz f) : SameD (.row n sz f) (.row n sz fun i j => .int k (iv (f i j))) := ⟨fun _ _ _ hd => den_row_congr h hd⟩
def SameL : List SV → List SV → Prop
  | [], [] => True
  | x :: l, y :: k => SameD x y ∧ SameL l k
  | _, _ => False
theorem SameL.den {E : Env} {w : World} : ∀ {l k : List SV}, SameL l k → l.length = k.length ∧ ∀ (i : Nat) (y : SV), k[i]? = some y → ∃ x, l[i]? = some x ∧ ∀ v, Den E w x v → Den E w y v
  | [], [], _ => ⟨rfl, fun i y h => by simp at h⟩
  | x :: l, y :: k, h => by
    obtain ⟨h1, h2⟩ := SameL.den (E := E) (w := w) h.2
    refine ⟨by simp [h1], fun i z hz => ?_⟩
    cases i with
    | zero => simp at hz; subst hz; exact ⟨x, rfl, fun v hv => h.1.out _ _ _ hv⟩
    | succ i => exact h2 i z (by simpa using hz)
  | [], _ :: _, h => h.elim
  | _ :: _, [], h => h.elim
theorem calls_congr {P : Program} {g : Nat} {args args' : List SV} {h : HS} {K : Out → HS → Prop} (hs : SameL args args') (hc : CallsS P g args' h K) : CallsS P g args h K := fun E w vals hr hd => by
  obtain ⟨h1, h2⟩ := hs.den (E := E) (w := w)
  exact hc E w vals hr ⟨by rw [hd.1, h1], fun i y u hy hu => by
    obtain ⟨x, hx, hv⟩ := h2 i y hy
    exact hv u (hd.2 i x u hx hu)⟩
abbrev BaseF : Type := List SV → Option (Prop × SV)
def lookP : List (Nat × Nat × Plan) → Nat → Nat → Option Plan
  | [], _, _ => none
  | (a, b, p) :: l, g, id => if g = a then if id = b then some p else lookP l g id else lookP l g id
def lookO : List (Nat × Nat × BaseF) → Nat → Option (Nat × BaseF)
  | [], _ => none
  | (k, x) :: l, g => if g = k then some x else lookO l g
def mapS : Option BaseF → Option (Nat × BaseF) → Option Spec
  | some f, _ => some (lendS f)
  | none, some (ty, f) => some (lendO ty f)
  | none, none => none
noncomputable def cx (hof : List Nat) (OL : List (Nat × Nat × BaseF)) (GL : List (Nat × BaseF)) (PL : List (Nat × Nat × Plan)) (D : Option (List Nat)) : Ctx :=
  ctx0 Try.prog tabL (memN hof) (fun g => mapS (lookG GL g) (lookO OL g)) (lookP PL) D
section
variable (hof : List Nat) (OL : List (Nat × Nat × BaseF)) (GL : List (Nat × BaseF)) (PL : List (Nat × Nat × Plan)) (D : Option (List Nat))
theorem cx_P : (cx hof OL GL PL D).P = Try.prog := rfl
theorem cx_T : (cx hof OL GL PL D).T = tab := rfl
theorem cx_F : (cx hof OL GL PL D).F = entB Try.prog := rfl
theorem cx_FN (g : Nat) : (cx hof OL GL PL D).FN g = Try.prog.funcs[g]? := rfl
theorem cx_inl (g : Nat) : (cx hof OL GL PL D).inl g = !memN hof g := rfl
theorem cx_G (g : Nat) : (cx hof OL GL PL D).G g = mapS (lookG GL g) (lookO OL g) := rfl
theorem cx_plan (g id : Nat) : (cx hof OL GL PL D).plan g id = lookP PL g id := rfl
theorem cx_D : (cx hof OL GL PL D).D = D := rfl
theorem cx_rs : (cx hof OL GL PL D).rs = false := rfl
theorem cx_off : (cx hof OL GL PL D).off = cx hof OL GL PL none := rfl
end
theorem lookG_mem : ∀ {l : List (Nat × BaseF)} {g : Nat} {f : BaseF}, lookG l g = some f → (g, f) ∈ l
  | [], g, f, h => by simp [lookG] at h
  | (k, x) :: l, g, f, h => by
    simp only [lookG] at h
    split at h
    · rename_i e; cases h; subst e; simp
    · exact List.mem_cons_of_mem _ (lookG_mem h)
theorem lookO_mem : ∀ {l : List (Nat × Nat × BaseF)} {g : Nat} {x : Nat × BaseF}, lookO l g = some x → (g, x) ∈ l
  | [], g, f, h => by simp [lookO] at h
  | (k, x) :: l, g, f, h => by
    simp only [lookO] at h
    split at h
    · rename_i e; cases h; subst e; simp
    · exact List.mem_cons_of_mem _ (lookO_mem h)
/-- Every contract of a list holds. -/
def AllB : List (Nat × BaseF) → Prop
  | [] => True
  | (g, b) :: l => Base Try.prog g b ∧ AllB l
def AllO : List (Nat × Nat × BaseF) → Prop
  | [] => True
  | (g, ty, b) :: l => BaseO Try.prog g ty b ∧ AllO l
theorem AllB_mem : ∀ {l : List (Nat × BaseF)}, AllB l → ∀ x ∈ l, Base Try.prog x.1 x.2
  | [], _, x, hx => by simp at hx
  | (g, b) :: l, h, x, hx => by
    rcases List.mem_cons.1 hx with rfl | hx
    · exact h.1
    · exact AllB_mem h.2 x hx
theorem AllO_mem : ∀ {l : List (Nat × Nat × BaseF)}, AllO l → ∀ x ∈ l, BaseO Try.prog x.1 x.2.1 x.2.2
  | [], _, x, hx => by simp at hx
  | (g, b) :: l, h, x, hx => by
    rcases List.mem_cons.1 hx with rfl | hx
    · exact h.1
    · exact AllO_mem h.2 x hx
theorem cx_ok {hof : List Nat} {OL : List (Nat × Nat × BaseF)} {GL : List (Nat × BaseF)} {PL : List (Nat × Nat × Plan)} {D : Option (List Nat)} (hO : AllO OL) (h : AllB GL) : CtxOk (cx hof OL GL PL D) :=
  ctx0_ok tab_chk _ _ _ _ (fun g f hf args h0 p v h1 hq hp => by
    cases hl : lookG GL g with
    | none =>
      cases hm : lookO OL g with
      | none => rw [hl, hm] at hf; cases hf
      | some x =>
        rw [hl, hm] at hf
        cases hf
        exact lendO_ok (AllO_mem hO _ (lookO_mem hm)) args h0 p v h1 hq hp
    | some b =>
      rw [hl] at hf
      cases hf
      exact lend_ok (AllB_mem h _ (lookG_mem hl)) args h0 p v h1 hq hp) (by kernel_rfl)
theorem calls_mono {P : Program} {g : Nat} {args : List SV} {h : HS} {K K' : Out → HS → Prop} (hk : ∀ o h', K o h' → K' o h') (hc : CallsS P g args h K) : CallsS P g args h K' := fun E w vals hr hd =>
  (hc E w vals hr hd).mono fun _ _ ⟨o, h', E', q, r⟩ => ⟨o, h', E', hk o h' q, r⟩
theorem SameD.row0 {sz sz' : Nat} {f f' : Nat → Nat → SV} : SameD (.row 0 sz f) (.row 0 sz' f') := ⟨fun _ _ _ hd => by cases hd <;> exact .rowZ _ _⟩
theorem SameD.tup {l k : List SV} (h : SameL l k) : SameD (.tup l) (.tup k) := ⟨fun E w v hd => by
  cases hd
  rename_i vs hs hd
  obtain ⟨h1, h2⟩ := h.den (E := E) (w := w)
  exact .tup vs (by rw [← h1]; exact hs) (fun i y u hy hu => by
    obtain ⟨x, hx, hv⟩ := h2 i y hy
    exact hv u (hd i x u hx hu))⟩
theorem SameD.agg {l k : List SV} (h : SameL l k) : SameD (.agg l) (.agg k) := ⟨fun E w v hd => by
  obtain ⟨h1, h2⟩ := h.den (E := E) (w := w)
  match v, hd with
  | _, .agg vs hs h1' hd => exact .agg vs (by rw [← h1]; exact hs) h1' (fun i y u hy hu => by
      obtain ⟨x, hx, hv⟩ := h2 i y hy
      exact hv u (hd i x u hx hu))⟩
theorem SameD.rptr {sz : Nat} {f g : Nat → SV} (h : ∀ j, j < sz → SameD (f j) (g j)) : SameD (.rptr sz f) (.rptr sz g) := ⟨fun E w v hd => by
  match v, hd with
  | _, .rptr A gg hA ho hc h1 hd => exact .rptr A gg hA ho hc h1 (fun j hj => (h j hj).1 E w _ (hd j hj))⟩
theorem SameD.intN {n s s' : Nat} {f : Nat → Nat → SV} (h : s' = s ∨ n = 0) (hi : IntR n s f) : SameD (.row n s' f) (.row n s (rowF .i64 (fun i j => iv (f i j)))) := by
  rcases h with rfl | rfl
  · exact SameD.int hi
  · exact SameD.row0
/-- A row of bools. -/
def bvf (f : Nat → Nat → SV) : Nat → Bool := fun i => match f i 0 with
  | .bool b => b
  | _ => false
theorem bvf_lit (p : Nat → Bool) : bvf (fun i _ => .bool (p i)) = p := rfl
def BoolR (n : Nat) (f : Nat → Nat → SV) : Prop := ∀ i j, i < n → j < 1 → f i j = .bool (bvf f i)
theorem boolR_lit (n : Nat) (p : Nat → Bool) : BoolR n (fun i _ => .bool (p i)) = True := eq_true fun _ _ _ _ => rfl
theorem SameD.boolR {n : Nat} {f : Nat → Nat → SV} (h : BoolR n f) : SameD (.row n 1 f) (.row n 1 fun i _ => .bool (bvf f i)) := ⟨fun _ _ _ hd => den_row_congr h hd⟩
/-- A contract out of a run over an empty heap. -/
theorem base_of {C : Ctx} (hC : CtxOk C) (hD : C.off = C) {g : Nat} {fn : Func} {c : Code} (hf : C.FN g = some fn) (hb : fn.body = some c) {args args' : List SV} {v : SV} (n : Nat) (h1 : BdL 0 0 args) (hs : SameL args args')
    (hrun : run C n g [.code c] (catS args' (anys (fn.ntmps - lenS args'))) [] ⟨[], []⟩ (fun o h' => ∃ u, o = .ret u ∧ Fl u ∧ u = v)) :
    BdL 0 0 args ∧ CallsS C.P g args ⟨[], []⟩ (fun o h' => ∃ u, o = .ret u ∧ ((Fl u ∧ SameD u v) ∨ FzT h' u v)) :=
  ⟨h1, calls_mono (fun _ _ ⟨u, e1, e2, e3⟩ => ⟨u, e1, .inl ⟨e2, by rw [e3]; exact SameD.rfl' _⟩⟩) (calls_congr hs (calls_of_run hC hD hf hb n hrun))⟩
theorem baseF_of {C : Ctx} (hC : CtxOk C) (hD : C.off = C) {g : Nat} {fn : Func} {c : Code} (hf : C.FN g = some fn) (hb : fn.body = some c) {args args' : List SV} {v : SV} (n : Nat) (h1 : BdL 0 0 args) (hs : SameL args args')
    (hrun : run C n g [.code c] (catS args' (anys (fn.ntmps - lenS args'))) [] ⟨[], []⟩ (fun o h' => ∃ u, o = .ret u ∧ FzT h' u v)) :
    BdL 0 0 args ∧ CallsS C.P g args ⟨[], []⟩ (fun o h' => ∃ u, o = .ret u ∧ ((Fl u ∧ SameD u v) ∨ FzT h' u v)) :=
  ⟨h1, calls_mono (fun _ _ ⟨u, e1, e2⟩ => ⟨u, e1, .inr e2⟩) (calls_congr hs (calls_of_run hC hD hf hb n hrun))⟩
theorem baseO_of {C : Ctx} (hC : CtxOk C) (hD : C.off = C) {g : Nat} {fn : Func} {c : Code} (hf : C.FN g = some fn) (hb : fn.body = some c) {ty : TypeId} {args args' : List SV} {v : SV} (n : Nat) (h1 : BdL 0 0 args) (hs : SameL args args')
    (hrun : run C n g [.code c] (catS args' (anys (fn.ntmps - lenS args'))) [] ⟨[], []⟩ (fun o h' => ∃ u, o = .ret u ∧ OwnT h' ty u v)) :
    BdL 0 0 args ∧ CallsS C.P g args ⟨[], []⟩ (fun o h' => ∃ u, o = .ret u ∧ OwnT h' ty u v) :=
  ⟨h1, calls_congr hs (calls_of_run hC hD hf hb n hrun)⟩
theorem retQ (x v : SV) : (∃ u, Out.ret x = Out.ret u ∧ Fl u ∧ u = v) = (Fl x ∧ x = v) :=
  propext ⟨fun ⟨u, e, h1, h2⟩ => by cases e; exact ⟨h1, h2⟩, fun ⟨h1, h2⟩ => ⟨x, rfl, h1, h2⟩⟩
theorem retF (h : HS) (x v : SV) : (∃ u, Out.ret x = Out.ret u ∧ FzT h u v) = FzT h x v :=
  propext ⟨fun ⟨u, e, h1⟩ => by cases e; exact h1, fun h1 => ⟨x, rfl, h1⟩⟩
theorem retP (x : SV) (P : SV → Prop) : (∃ u, Out.ret x = Out.ret u ∧ P u) = P x :=
  propext ⟨fun ⟨u, e, h1⟩ => by cases e; exact h1, fun h1 => ⟨x, rfl, h1⟩⟩
theorem retO (h : HS) (ty : TypeId) (x v : SV) : (∃ u, Out.ret x = Out.ret u ∧ OwnT h ty u v) = OwnT h ty x v :=
  propext ⟨fun ⟨u, e, h1⟩ => by cases e; exact h1, fun h1 => ⟨x, rfl, h1⟩⟩
theorem frzF_ite (k : Nat) (h : HS) (c : Prop) [Decidable c] (x y : SV) : frzF k h (if c then x else y) = if c then frzF k h x else frzF k h y := by split <;> rfl
end Go.Eng
end

/- Contracts of functions that are handed nothing of the caller's own, and whose results are foreign to all. -/
section
namespace Go.Eng
open Go Go.RowKit Go.Proofs
/-- A result all of whose own slices are given away. -/
def frzT (h : HS) : SV → SV
  | .tup l => .tup (frzA h l)
  | x => frzF 4 h x
theorem frzT_den {E : Env} {h : HS} {w : World} (hr : RelH E h w) {x : SV} {v : Value} (hd : Den E w x v) (hb : Bd 0 0 (frzT h x)) : Den E.lent w (frzT h x) v := by
  cases x with
  | tup l =>
    simp only [frzT, Bd] at hb ⊢
    cases hd with
    | tup vs hs hd =>
      obtain ⟨h1, h2⟩ := frzA_den hr (args := l) (vals := vs) ⟨hs, hd⟩ hb
      exact .tup vs h1 h2
  | _ => exact frzF_den hr 4 hd hb
theorem calls_frz {P : Program} {g : Nat} {args : List SV} {K : Out → HS → Prop} (hc : CallsS P g args ⟨[], []⟩ K) (K' : Out → HS → Prop)
    (hk : ∀ o h', K o h' → ∃ u, o = .ret u ∧ Bd 0 0 (frzT h' u) ∧ K' (.ret (frzT h' u)) ⟨[], []⟩) : CallsS P g args ⟨[], []⟩ K' := by
  intro E w vals hr hd
  refine (hc E w vals hr hd).mono ?_
  rintro e w' ⟨o, h', E', hk0, hr', hx, hout⟩
  obtain ⟨u, rfl, hb, hK⟩ := hk o h' hk0
  have e1 : E.nb = 0 := hr.nb
  have e2 : E.nv = 0 := hr.nv
  refine ⟨.ret (frzT h' u), ⟨[], []⟩, E'.lent, hK, lent_rel hr', ⟨hx.os, hx.tape, hx.output, hx.size, by simp [e1], by simp [e2], fun nm hn => by omega, fun id ver y hi => by omega, fun b hb ho => ?_, fun b ho => ?_⟩, ?_⟩
  · obtain ⟨k1, k2⟩ := hx.keep b hb ho
    exact ⟨by simp [Env.lent, k1], k2⟩
  · obtain ⟨k1, k2⟩ := hx.oth b ho
    exact ⟨by simp [Env.lent, k1], k2⟩
  · cases e with
    | returned val => exact frzT_den hr' hout hb
    | panicked _ => exact hout.elim
    | outgrown => exact hout.elim
def NB (P : Program) (g : Nat) (base : BaseF) : Prop :=
  ∀ args p v, base args = some (p, v) → p → BdL 0 0 args ∧ Bd 0 0 v ∧ CallsS P g args ⟨[], []⟩ (fun o _ => o = .ret v)
def bareR (r : Option (Prop × SV)) (h : HS) : Option (Prop × SV × HS) := match r with
  | some (p, v) => some (p, v, h)
  | none => none
def dnl1 (x : SV) : SV := match isN x with
  | some (_, sz) => .row 0 sz (fun _ _ => .any)
  | none => x
/-- Nil slices, said as rows. -/
def dnl : SV → SV
  | .agg l => .agg (mapF dnl1 l)
  | x => dnl1 x
theorem dnl1_same (x : SV) : SameD x (dnl1 x) := by
  unfold dnl1
  split
  · rename_i e sz hx
    obtain rfl : x = .nils e sz := by cases x <;> simp [isN] at hx; obtain ⟨rfl, rfl⟩ := hx; rfl
    exact ⟨fun E w v hd => by cases hd; exact .rowZ _ _⟩
  · exact SameD.rfl' _
theorem SameL.map {F : SV → SV} (hF : ∀ x, SameD x (F x)) : ∀ l, SameL l (mapF F l)
  | [] => trivial
  | x :: l => ⟨hF x, SameL.map hF l⟩
theorem dnl_same (x : SV) : SameD x (dnl x) := by
  unfold dnl
  split
  · exact SameD.agg (SameL.map dnl1_same _)
  · exact dnl1_same _
def bareS (base : BaseF) : Spec := fun args h => bareR (base (mapF dnl args)) h
theorem bareS_ok {P : Program} {g : Nat} {base : BaseF} (hb : NB P g base) : ∀ args h p v h1, bareS base args h = some (p, v, h1) → p → CallsS P g args h fun o h' => o = .ret v ∧ h' = h1 := by
  intro args h0 p v h1 hq hp
  unfold bareS bareR at hq
  split at hq
  rotate_left
  · cases hq
  rename_i p' v' hbase
  cases hq
  obtain ⟨b1, b2, b3⟩ := hb _ _ _ hbase hp
  refine calls_congr (SameL.map dnl_same args) ?_
  exact frame_calls b3 b1 (fun o => o = .ret v) (fun o h' e => by subst e; exact ⟨rfl, b2⟩) h0
theorem nb_of {C : Ctx} (hC : CtxOk C) (hD : C.off = C) {g : Nat} {fn : Func} {c : Code} (hf : C.FN g = some fn) (hb : fn.body = some c) {args args' : List SV} {v : SV} (n : Nat) (h1 : BdL 0 0 args) (hs : SameL args args') (hv : Bd 0 0 v)
    (hrun : run C n g [.code c] (catS args' (anys (fn.ntmps - lenS args'))) [] ⟨[], []⟩ (fun o h' => ∃ u, o = .ret u ∧ Bd 0 0 (frzT h' u) ∧ SameD (frzT h' u) v)) :
    BdL 0 0 args ∧ Bd 0 0 v ∧ CallsS C.P g args ⟨[], []⟩ (fun o _ => o = .ret v) := by
  refine ⟨h1, hv, ?_⟩
  have h2 := calls_frz (calls_congr hs (calls_of_run hC hD hf hb n hrun)) (fun o _ => ∃ u, o = .ret u ∧ SameD u v) (fun o h' ⟨u, e1, e2, e3⟩ => ⟨u, e1, e2, _, rfl, e3⟩)
  intro E w vals hr hd
  refine (h2 E w vals hr hd).mono ?_
  rintro e w' ⟨o, h', E', ⟨u, rfl, hs⟩, hr', hx, hout⟩
  refine ⟨.ret v, h', E', rfl, hr', hx, ?_⟩
  cases e with
  | returned val => exact hs.out _ _ _ hout
  | panicked _ => exact hout.elim
  | outgrown => exact hout.elim
def mapN : Option BaseF → Option Spec → Option Spec
  | some f, _ => some (bareS f)
  | none, s => s
noncomputable def cxn (hof : List Nat) (NL : List (Nat × BaseF)) (OL : List (Nat × Nat × BaseF)) (GL : List (Nat × BaseF)) (PL : List (Nat × Nat × Plan)) (D : Option (List Nat)) : Ctx :=
  ctx0 Try.prog tabL (memN hof) (fun g => mapN (lookG NL g) (mapS (lookG GL g) (lookO OL g))) (lookP PL) D
section
variable (hof : List Nat) (NL : List (Nat × BaseF)) (OL : List (Nat × Nat × BaseF)) (GL : List (Nat × BaseF)) (PL : List (Nat × Nat × Plan)) (D : Option (List Nat))
theorem cxn_P : (cxn hof NL OL GL PL D).P = Try.prog := rfl
theorem cxn_T : (cxn hof NL OL GL PL D).T = tab := rfl
theorem cxn_F : (cxn hof NL OL GL PL D).F = entB Try.prog := rfl
theorem cxn_FN (g : Nat) : (cxn hof NL OL GL PL D).FN g = Try.prog.funcs[g]? := rfl
theorem cxn_inl (g : Nat) : (cxn hof NL OL GL PL D).inl g = !memN hof g := rfl
theorem cxn_G (g : Nat) : (cxn hof NL OL GL PL D).G g = mapN (lookG NL g) (mapS (lookG GL g) (lookO OL g)) := rfl
theorem cxn_plan (g id : Nat) : (cxn hof NL OL GL PL D).plan g id = lookP PL g id := rfl
theorem cxn_D : (cxn hof NL OL GL PL D).D = D := rfl
theorem cxn_rs : (cxn hof NL OL GL PL D).rs = false := rfl
theorem cxn_off : (cxn hof NL OL GL PL D).off = cxn hof NL OL GL PL none := rfl
end
def AllN : List (Nat × BaseF) → Prop
  | [] => True
  | (g, b) :: l => NB Try.prog g b ∧ AllN l
theorem AllN_mem : ∀ {l : List (Nat × BaseF)}, AllN l → ∀ x ∈ l, NB Try.prog x.1 x.2
  | [], _, x, hx => by simp at hx
  | (g, b) :: l, h, x, hx => by
    rcases List.mem_cons.1 hx with rfl | hx
    · exact h.1
    · exact AllN_mem h.2 x hx
theorem cxn_ok {hof : List Nat} {NL : List (Nat × BaseF)} {OL : List (Nat × Nat × BaseF)} {GL : List (Nat × BaseF)} {PL : List (Nat × Nat × Plan)} {D : Option (List Nat)} (hN : AllN NL) (hO : AllO OL) (h : AllB GL) : CtxOk (cxn hof NL OL GL PL D) :=
  ctx0_ok tab_chk _ _ _ _ (fun g f hf args h0 p v h1 hq hp => by
    cases hn : lookG NL g with
    | some b =>
      rw [hn] at hf
      cases hf
      exact bareS_ok (AllN_mem hN _ (lookG_mem hn)) args h0 p v h1 hq hp
    | none =>
    rw [hn] at hf
    simp only [mapN] at hf
    cases hl : lookG GL g with
    | none =>
      cases hm : lookO OL g with
      | none => rw [hl, hm] at hf; cases hf
      | some x =>
        rw [hl, hm] at hf
        cases hf
        exact lendO_ok (AllO_mem hO _ (lookO_mem hm)) args h0 p v h1 hq hp
    | some b =>
      rw [hl] at hf
      cases hf
      exact lend_ok (AllB_mem h _ (lookG_mem hl)) args h0 p v h1 hq hp) (by kernel_rfl)
theorem SameD.rowD {n sz : Nat} {f f' : Nat → Nat → SV} (h : ∀ i j, i < n → j < sz → SameD (f i j) (f' i j)) : SameD (.row n sz f) (.row n sz f') := ⟨fun E w v hd => by
  cases hd with
  | row A cap g hA ho hn hc h1 hd => exact .row A cap g hA ho hn hc h1 (fun i j hi hj => (h i j hi hj).out _ _ _ (hd i j hi hj))
  | rowZ a cap => exact .rowZ a cap⟩
theorem retN (h : HS) (x v : SV) : (∃ u, Out.ret x = Out.ret u ∧ Bd 0 0 (frzT h u) ∧ SameD (frzT h u) v) = (Bd 0 0 (frzT h x) ∧ SameD (frzT h x) v) :=
  propext ⟨fun ⟨u, e, h1⟩ => by cases e; exact h1, fun h1 => ⟨x, rfl, h1⟩⟩
theorem frzT_tup (h : HS) (l : List SV) : frzT h (.tup l) = .tup (frzA h l) := rfl
theorem frzT_agg (h : HS) (l : List SV) : frzT h (.agg l) = frzF 4 h (.agg l) := rfl
theorem frzT_vec (h : HS) (a b : Nat) : frzT h (.vec a b) = frzF 4 h (.vec a b) := rfl
theorem frzT_row (h : HS) (n sz : Nat) (f : Nat → Nat → SV) : frzT h (.row n sz f) = .row n sz f := rfl
theorem frzT_int (h : HS) (k : IntKind) (n : Int) : frzT h (.int k n) = .int k n := rfl
theorem frzT_bool (h : HS) (b : Bool) : frzT h (.bool b) = .bool b := rfl
end Go.Eng
end

/- Facts for reckoning the machine out, one for each case. -/
section
namespace Go.Eng
open Go Go.RowKit

def oAlloc (o : Option TI) (e : TypeId) (h : HS) : Res := match o with | some ti => rAlloc ti e h | none => .bad
def oBuildA (o : Option TI) (ti : TI) (ps : List (Nat × SV)) (h : HS) : Res := match o with | some te => rBuild ti te.size ps h | none => .bad
def oBuild (T : Nat → Option TI) (ps : List (Nat × SV)) (h : HS) : Option TI → Res
  | some ti => match ti.kind with
    | .array _ e => oBuildA (T e) ti ps h
    | _ => rBuild ti 0 ps h
  | none => .bad
def oBuildSl2 (o : Option TI) (e len : Nat) (ps : List (Nat × SV)) (h : HS) : Res := match o with | some te => rBuildSlice e te len ps h | none => .bad
def oBuildSl (T : Nat → Option TI) (len : Nat) (ps : List (Nat × SV)) (h : HS) : Option TI → Res
  | some { kind := .slice e, .. } => oBuildSl2 (T e) e len ps h
  | _ => .bad
def oLoad (o : Option TI) (h : HS) (x : SV) : Res := match o with | some ti => rLoad ti h x | none => .bad
def oStore (T : Nat → Option TI) (o : Option TI) (h : HS) (x : SV) (b : Bool) (y : SV) : Res := match o with | some ti => rStoreN T h ti x b y | none => .bad
def oConv (o o' : Option TI) (x : SV) (h : HS) : Res := match o, o' with | some _, some td => rConv td x h | _, _ => .bad
def oIface (o : Option TI) (ty : TypeId) (x : SV) (h : HS) : Res := match o with | some ti => rIface ti ty x h | none => .bad
def oSlice2 (o : Option TI) (ti : TI) (g : Bool) (x : SV) (lo hi mx : Option SV) (h : HS) : Res := match o with | some te => rSl te ti g x lo hi mx h | none => .bad
def oSliceA (o : Option TI) (n : Nat) (x : SV) (lo hi mx : Option SV) (h : HS) : Res := match o with | some te => rSlA n te x lo hi mx h | none => .bad
def oSlice (T : Nat → Option TI) (g : Bool) (x : SV) (lo hi mx : Option SV) (h : HS) : Option TI → Res
  | some ti => match ti.kind with
    | .slice e => oSlice2 (T e) ti g x lo hi mx h
    | .array n e => oSliceA (T e) n x lo hi mx h
    | _ => .bad
  | none => .bad
def oIdxA (o : Option TI) (n : Nat) (x y : SV) (h : HS) : Res := match o with | some te => rIdx n te x y h | none => .bad
def oIdx (T : Nat → Option TI) (x y : SV) (h : HS) : Option TI → Res
  | some ti => match ti.kind with
    | .array n e => oIdxA (T e) n x y h
    | _ => .bad
  | none => .bad
def slA (nm off n : Nat) (te : TI) (h : HS) : Option Int → Res
  | some u => .val (te.size = 1 ∧ 0 ≤ u ∧ u ≤ (n : Int)) (.bsl nm off u.toNat) h
  | none => .bad
def oCopy2 (o : Option TI) (d s : SV) (h : HS) : Res := match o with | some te => rCopy te d s h | none => .bad
def oCopy (T : Nat → Option TI) (d s : SV) (h : HS) : Option TI → Res
  | some { kind := .slice e, .. } => oCopy2 (T e) d s h
  | _ => .bad
def oMake2 (o : Option TI) (e : Nat) (l c : SV) (h : HS) : Res := match o with | some te => rMake e te l c h | none => .bad
def oMake (T : Nat → Option TI) (l c : SV) (h : HS) : Option TI → Res
  | some { kind := .slice e, .. } => oMake2 (T e) e l c h
  | _ => .bad
def oField (o : Option TI) (h : HS) (x : SV) (k : Nat) : Res := match o with | some ti => rField ti h x k | none => .bad
def oIndex2 (o : Option TI) (ti : TI) (h : HS) (x y : SV) : Res := match o with | some te => rIndex ti te.size h x y | none => .bad
def oIndex (T : Nat → Option TI) (h : HS) (x y : SV) : Option TI → Res
  | some ti => match ti.kind with
    | .slice e => oIndex2 (T e) ti h x y
    | .array _ e => oIndex2 (T e) ti h x y
    | _ => .bad
  | none => .bad
def oAssert (o : Option TI) (ty : TypeId) (x : SV) (ok : Bool) (h : HS) : Res := match o with | some ti => rAssert ti ty x ok h | none => .bad
def bLoad (ti : TI) (h : HS) (off : Nat) : Blk → Res
  | .live _ cells => .val (off + ti.size ≤ lenS cells) (ofCells ti.agg ti.size cells off) h
  | _ => .bad
def vLoad (ti : TI) (h : HS) (ver sz i off : Nat) : Vc → Res
  | .live ver' _ sz' n f => .val (ver = ver' ∧ sz = sz' ∧ i < n ∧ off + ti.size ≤ sz) (if ti.agg then .agg (cellsF (fun j => f i (off + j)) ti.size 0) else f i off) h
  | .dead => .bad
theorem opRes_move (T : Nat → Option TI) (F : Nat → Bool) (t : List SV) (h : HS) (dst : Option Nat) (ty : TypeId) (pos : String) (aft : Array Edge) (g : Option (Nat × Bool)) (x : Operand) : opRes T F t h ⟨dst, .move x, ty, pos, aft, g⟩ = rMove T t h ty x := rfl
theorem opRes_assign (T : Nat → Option TI) (F : Nat → Bool) (t : List SV) (h : HS) (dst : Option Nat) (ty : TypeId) (pos : String) (aft : Array Edge) (g : Option (Nat × Bool)) (x : Operand) : opRes T F t h ⟨dst, .assign x, ty, pos, aft, g⟩ = rMove T t h ty x := rfl
theorem opRes_pick (T : Nat → Option TI) (F : Nat → Bool) (t : List SV) (h : HS) (dst : Option Nat) (ty : TypeId) (pos : String) (aft : Array Edge) (g : Option (Nat × Bool)) (c a b : Operand) : opRes T F t h ⟨dst, .pick c a b, ty, pos, aft, g⟩ = rPick h (ev t c) (ev t a) (ev t b) := rfl
theorem opRes_alloc (T : Nat → Option TI) (F : Nat → Bool) (t : List SV) (h : HS) (dst : Option Nat) (ty : TypeId) (pos : String) (aft : Array Edge) (g : Option (Nat × Bool)) (e : TypeId) : opRes T F t h ⟨dst, .alloc e, ty, pos, aft, g⟩ = oAlloc (T e) e h := rfl
theorem opRes_box (T : Nat → Option TI) (F : Nat → Bool) (t : List SV) (h : HS) (dst : Option Nat) (ty : TypeId) (pos : String) (aft : Array Edge) (g : Option (Nat × Bool)) (e : TypeId) (x : Operand) : opRes T F t h ⟨dst, .box e x, ty, pos, aft, g⟩ = rBoxO h (T e) e (ev t x) := rfl
theorem opRes_build (T : Nat → Option TI) (F : Nat → Bool) (t : List SV) (h : HS) (dst : Option Nat) (ty : TypeId) (pos : String) (aft : Array Edge) (g : Option (Nat × Bool)) (e : TypeId) (ps : Array (Nat × Operand)) : opRes T F t h ⟨dst, .build e ps, ty, pos, aft, g⟩ = oBuild T (evP t ps.toList) h (T e) := rfl
theorem opRes_buildSlice (T : Nat → Option TI) (F : Nat → Bool) (t : List SV) (h : HS) (dst : Option Nat) (ty : TypeId) (pos : String) (aft : Array Edge) (g : Option (Nat × Bool)) (e : TypeId) (len : Nat) (ps : Array (Nat × Operand)) : opRes T F t h ⟨dst, .buildSlice e len ps, ty, pos, aft, g⟩ = oBuildSl T len (evP t ps.toList) h (T e) := rfl
theorem opRes_load (T : Nat → Option TI) (F : Nat → Bool) (t : List SV) (h : HS) (dst : Option Nat) (ty : TypeId) (pos : String) (aft : Array Edge) (g : Option (Nat × Bool)) (e : TypeId) (x : Operand) : opRes T F t h ⟨dst, .load e x, ty, pos, aft, g⟩ = oLoad (T e) h (ev t x) := rfl
theorem opRes_store (T : Nat → Option TI) (F : Nat → Bool) (t : List SV) (h : HS) (dst : Option Nat) (ty : TypeId) (pos : String) (aft : Array Edge) (g : Option (Nat × Bool)) (e : TypeId) (x y : Operand) : opRes T F t h ⟨dst, .store e x y, ty, pos, aft, g⟩ = oStore T (T e) h (ev t x) (isNilSl y) (ev t y) := rfl
theorem opRes_nilCheck (T : Nat → Option TI) (F : Nat → Bool) (t : List SV) (h : HS) (dst : Option Nat) (ty : TypeId) (pos : String) (aft : Array Edge) (g : Option (Nat × Bool)) (x : Operand) : opRes T F t h ⟨dst, .nilCheck x, ty, pos, aft, g⟩ = rNil h (ev t x) := rfl
theorem opRes_binOp (T : Nat → Option TI) (F : Nat → Bool) (t : List SV) (h : HS) (dst : Option Nat) (ty : TypeId) (pos : String) (aft : Array Edge) (g : Option (Nat × Bool)) (o : BinOp) (e : TypeId) (x y : Operand) (e2 : TypeId) : opRes T F t h ⟨dst, .binOp o e x y e2, ty, pos, aft, g⟩ = rBin3 (T e) (isConst x || isConst y) o (isNilSl y) (ev t x) (ev t y) h := rfl
theorem opRes_unOp (T : Nat → Option TI) (F : Nat → Bool) (t : List SV) (h : HS) (dst : Option Nat) (ty : TypeId) (pos : String) (aft : Array Edge) (g : Option (Nat × Bool)) (o : UnOp) (e : TypeId) (x : Operand) : opRes T F t h ⟨dst, .unOp o e x, ty, pos, aft, g⟩ = rUn o (ev t x) h := rfl
theorem opRes_convert (T : Nat → Option TI) (F : Nat → Bool) (t : List SV) (h : HS) (dst : Option Nat) (ty : TypeId) (pos : String) (aft : Array Edge) (g : Option (Nat × Bool)) (s d : TypeId) (x : Operand) : opRes T F t h ⟨dst, .convert s d x, ty, pos, aft, g⟩ = oConv (T s) (T d) (ev t x) h := rfl
theorem opRes_makeInterface (T : Nat → Option TI) (F : Nat → Bool) (t : List SV) (h : HS) (dst : Option Nat) (ty : TypeId) (pos : String) (aft : Array Edge) (g : Option (Nat × Bool)) (e : TypeId) (x : Operand) : opRes T F t h ⟨dst, .makeInterface e x, ty, pos, aft, g⟩ = oIface (T e) e (ev t x) h := rfl
theorem opRes_makeFunc (T : Nat → Option TI) (F : Nat → Bool) (t : List SV) (h : HS) (dst : Option Nat) (ty : TypeId) (pos : String) (aft : Array Edge) (g : Option (Nat × Bool)) (fn : Fn) (first caps : Array Operand) : opRes T F t h ⟨dst, .makeFunc fn first caps, ty, pos, aft, g⟩ = rFunc h fn (evL t first.toList) (evL t caps.toList) := rfl
theorem opRes_slice (T : Nat → Option TI) (F : Nat → Bool) (t : List SV) (h : HS) (dst : Option Nat) (ty : TypeId) (pos : String) (aft : Array Edge) (g : Option (Nat × Bool)) (e : TypeId) (x : Operand) (lo hi mx : Option Operand) : opRes T F t h ⟨dst, .slice e x lo hi mx, ty, pos, aft, g⟩ = oSlice T (hiOk hi mx) (ev t x) (evO t lo) (evO t hi) (evO t mx) h (T e) := rfl
theorem opRes_makeSlice (T : Nat → Option TI) (F : Nat → Bool) (t : List SV) (h : HS) (dst : Option Nat) (ty : TypeId) (pos : String) (aft : Array Edge) (g : Option (Nat × Bool)) (e : TypeId) (l c : Operand) : opRes T F t h ⟨dst, .makeSlice e l c, ty, pos, aft, g⟩ = oMake T (ev t l) (ev t c) h (T e) := rfl
theorem opRes_fieldAddr (T : Nat → Option TI) (F : Nat → Bool) (t : List SV) (h : HS) (dst : Option Nat) (ty : TypeId) (pos : String) (aft : Array Edge) (g : Option (Nat × Bool)) (e : TypeId) (x : Operand) (k : Nat) : opRes T F t h ⟨dst, .fieldAddr e x k, ty, pos, aft, g⟩ = oField (T e) h (ev t x) k := rfl
theorem opRes_indexAddr (T : Nat → Option TI) (F : Nat → Bool) (t : List SV) (h : HS) (dst : Option Nat) (ty : TypeId) (pos : String) (aft : Array Edge) (g : Option (Nat × Bool)) (e : TypeId) (x y : Operand) : opRes T F t h ⟨dst, .indexAddr e x y, ty, pos, aft, g⟩ = oIndex T h (ev t x) (ev t y) (T e) := rfl
theorem opRes_typeAssert (T : Nat → Option TI) (F : Nat → Bool) (t : List SV) (h : HS) (dst : Option Nat) (ty : TypeId) (pos : String) (aft : Array Edge) (g : Option (Nat × Bool)) (x : Operand) (xt e : TypeId) (ok : Bool) : opRes T F t h ⟨dst, .typeAssert x xt e ok, ty, pos, aft, g⟩ = oAssert (T e) e (ev t x) ok h := rfl
theorem opRes_extract (T : Nat → Option TI) (F : Nat → Bool) (t : List SV) (h : HS) (dst : Option Nat) (ty : TypeId) (pos : String) (aft : Array Edge) (g : Option (Nat × Bool)) (x : Operand) (k : Nat) : opRes T F t h ⟨dst, .extract x k, ty, pos, aft, g⟩ = rExtract (ev t x) k h := rfl
theorem opRes_call (T : Nat → Option TI) (F : Nat → Bool) (t : List SV) (h : HS) (dst : Option Nat) (ty : TypeId) (pos : String) (aft : Array Edge) (g : Option (Nat × Bool)) (f : Operand) (args : Array Operand) (tys : Array TypeId) : opRes T F t h ⟨dst, .call ⟨.value f, args, tys⟩, ty, pos, aft, g⟩ = rCallN F h (lastN T args.toList tys.toList) (ev t f) (argsN T t (lastN T args.toList tys.toList) args.toList tys.toList) := rfl
theorem opRes_callB (T : Nat → Option TI) (F : Nat → Bool) (t : List SV) (h : HS) (dst : Option Nat) (ty : TypeId) (pos : String) (aft : Array Edge) (g : Option (Nat × Bool)) (f : Builtin) (args : Array Operand) (tys : Array TypeId) : opRes T F t h ⟨dst, .call ⟨.builtin f, args, tys⟩, ty, pos, aft, g⟩ = rBuiltin T h f tys.toList (evL t args.toList) := rfl
theorem opRes_panic (T : Nat → Option TI) (F : Nat → Bool) (t : List SV) (h : HS) (dst : Option Nat) (ty : TypeId) (pos : String) (aft : Array Edge) (g : Option (Nat × Bool)) (x : Operand) : opRes T F t h ⟨dst, .panic x, ty, pos, aft, g⟩ = rPanic (ev t x) := rfl
theorem opRes_defer (T : Nat → Option TI) (F : Nat → Bool) (t : List SV) (h : HS) (dst : Option Nat) (ty : TypeId) (pos : String) (aft : Array Edge) (g : Option (Nat × Bool)) (c : Call) : opRes T F t h ⟨dst, .defer c, ty, pos, aft, g⟩ = .bad := rfl
theorem opRes_makeMap (T : Nat → Option TI) (F : Nat → Bool) (t : List SV) (h : HS) (dst : Option Nat) (ty : TypeId) (pos : String) (aft : Array Edge) (g : Option (Nat × Bool)) (e : TypeId) : opRes T F t h ⟨dst, .makeMap e none, ty, pos, aft, g⟩ = mMk T h (T e) := rfl
theorem opRes_lookup (T : Nat → Option TI) (F : Nat → Bool) (t : List SV) (h : HS) (dst : Option Nat) (ty : TypeId) (pos : String) (aft : Array Edge) (g : Option (Nat × Bool)) (e : TypeId) (x y : Operand) (ok : Bool) : opRes T F t h ⟨dst, .lookup e x y ok, ty, pos, aft, g⟩ = mLk T ok (ev t x) (ev t y) h (T e) := rfl
theorem opRes_mapUpdate (T : Nat → Option TI) (F : Nat → Bool) (t : List SV) (h : HS) (dst : Option Nat) (ty : TypeId) (pos : String) (aft : Array Edge) (g : Option (Nat × Bool)) (e : TypeId) (x y z : Operand) : opRes T F t h ⟨dst, .mapUpdate e x y z, ty, pos, aft, g⟩ = mUp T (ev t x) (ev t y) (ev t z) h (T e) := rfl
theorem opRes_insert (T : Nat → Option TI) (F : Nat → Bool) (t : List SV) (h : HS) (dst : Option Nat) (ty : TypeId) (pos : String) (aft : Array Edge) (g : Option (Nat × Bool)) (e : TypeId) (x y z : Operand) : opRes T F t h ⟨dst, .insert e x y z, ty, pos, aft, g⟩ = mUp T (ev t x) (ev t y) (ev t z) h (T e) := rfl
theorem opRes_field (T : Nat → Option TI) (F : Nat → Bool) (t : List SV) (h : HS) (dst : Option Nat) (ty : TypeId) (pos : String) (aft : Array Edge) (g : Option (Nat × Bool)) (e : TypeId) (x : Operand) (k : Nat) : opRes T F t h ⟨dst, .field e x k, ty, pos, aft, g⟩ = mFd (ev t x) k h (T e) := rfl
theorem opRes_index (T : Nat → Option TI) (F : Nat → Bool) (t : List SV) (h : HS) (dst : Option Nat) (ty : TypeId) (pos : String) (aft : Array Edge) (g : Option (Nat × Bool)) (e : TypeId) (x y : Operand) : opRes T F t h ⟨dst, .index e x y, ty, pos, aft, g⟩ = oIdx T (ev t x) (ev t y) h (T e) := rfl
theorem mMk_m (T : Nat → Option TI) (h : HS) (k v : Nat) (agg ifc : Bool) (size bytes : Nat) (zero : List ZC) (eq : Option (List LK)) (fag : List Bool) : mMk T h (some ⟨.map k v, agg, ifc, size, bytes, zero, eq, fag⟩) = mMk2 k v h (T k) (T v) := rfl
theorem mLk_m (T : Nat → Option TI) (ok : Bool) (x y : SV) (h : HS) (k v : Nat) (agg ifc : Bool) (size bytes : Nat) (zero : List ZC) (eq : Option (List LK)) (fag : List Bool) : mLk T ok x y h (some ⟨.map k v, agg, ifc, size, bytes, zero, eq, fag⟩) = mLk2 ok x y h (T k) (T v) := rfl
theorem mUp_m (T : Nat → Option TI) (x y z : SV) (h : HS) (k v : Nat) (agg ifc : Bool) (size bytes : Nat) (zero : List ZC) (eq : Option (List LK)) (fag : List Bool) : mUp T x y z h (some ⟨.map k v, agg, ifc, size, bytes, zero, eq, fag⟩) = mUp2 x y z h (T k) := rfl
theorem rLookup_m (tk tv : TI) (ok : Bool) (nm : Nat) (y : SV) (h : HS) : rLookup tk tv ok (.mapp nm) y h = rLookB ok (keyKs tk) (valKs tv.zero) tv.agg y h (getB h.blks nm) := rfl
theorem rUpdate_m (tk : TI) (nm : Nat) (y z : SV) (h : HS) : rUpdate tk (.mapp nm) y z h = rUpdB nm (keyKs tk) y z h (getB h.blks nm) := rfl
theorem keyKs_i (ifc : Bool) (size bytes : Nat) (zero : List ZC) (eq : Option (List LK)) (fag : List Bool) : keyKs ⟨.int .i64, false, ifc, size, bytes, zero, eq, fag⟩ = some (false, [.i]) := rfl
theorem keyKs_a (kind : TK) (ifc : Bool) (size bytes : Nat) (zero : List ZC) (ks : List LK) (fag : List Bool) : keyKs ⟨kind, true, ifc, size, bytes, zero, some ks, fag⟩ = if isI ks then some (true, ks) else none := rfl
def fldO (fag : List Bool) (k : Nat) (x : SV) (h : HS) : Option (Nat × Nat) → Res
  | some (o, s) => match x with
    | .agg l => .val (o + s ≤ lenS l) (if gtB fag k then .agg (takeN s (dropN o l)) else nth l o) h
    | _ => .bad
  | none => .bad
theorem rFld_s (offs : List (Nat × Nat)) (agg ifc : Bool) (size bytes : Nat) (zero : List ZC) (eq : Option (List LK)) (fag : List Bool) (x : SV) (k : Nat) (h : HS) : rFld ⟨.struct offs, agg, ifc, size, bytes, zero, eq, fag⟩ x k h = fldO fag k x h (nthO offs k) := rfl
theorem fldO_s (fag : List Bool) (k : Nat) (l : List SV) (h : HS) (o s : Nat) : fldO fag k (.agg l) h (some (o, s)) = .val (o + s ≤ lenS l) (if gtB fag k then .agg (takeN s (dropN o l)) else nth l o) h := rfl
def mLen (h : HS) : Blk → Res
  | .mp m => lenI m.es h m.it
  | _ => .bad
theorem rLen_m (k v : Nat) (agg ifc : Bool) (size bytes : Nat) (zero : List ZC) (eq : Option (List LK)) (fag : List Bool) (h : HS) (nm : Nat) : rLen ⟨.map k v, agg, ifc, size, bytes, zero, eq, fag⟩ h (.mapp nm) = mLen h (getB h.blks nm) := rfl
theorem oBuild_a (T : Nat → Option TI) (ps : List (Nat × SV)) (h : HS) (n e : Nat) (agg ifc : Bool) (size bytes : Nat) (zero : List ZC) (eq : Option (List LK)) (fag : List Bool) : oBuild T ps h (some ⟨.array n e, agg, ifc, size, bytes, zero, eq, fag⟩) = oBuildA (T e) ⟨.array n e, agg, ifc, size, bytes, zero, eq, fag⟩ ps h := rfl
theorem oBuild_s (T : Nat → Option TI) (ps : List (Nat × SV)) (h : HS) (o : List (Nat × Nat)) (agg ifc : Bool) (size bytes : Nat) (zero : List ZC) (eq : Option (List LK)) (fag : List Bool) : oBuild T ps h (some ⟨.struct o, agg, ifc, size, bytes, zero, eq, fag⟩) = rBuild ⟨.struct o, agg, ifc, size, bytes, zero, eq, fag⟩ 0 ps h := rfl
theorem rBuild_a (se : Nat) (ps : List (Nat × SV)) (h : HS) (n e : Nat) (agg ifc : Bool) (size bytes : Nat) (zero : List ZC) (eq : Option (List LK)) (fag : List Bool) : rBuild ⟨.array n e, agg, ifc, size, bytes, zero, eq, fag⟩ se ps h = fin2 (fillS (placeA se) ps (zcs zero)) h := rfl
theorem rBuild_s (se : Nat) (ps : List (Nat × SV)) (h : HS) (o : List (Nat × Nat)) (agg ifc : Bool) (size bytes : Nat) (zero : List ZC) (eq : Option (List LK)) (fag : List Bool) : rBuild ⟨.struct o, agg, ifc, size, bytes, zero, eq, fag⟩ se ps h = fin2 (fillS (placeS o) ps (zcs zero)) h := rfl
theorem oSlice_s (T : Nat → Option TI) (g : Bool) (x : SV) (lo hi mx : Option SV) (h : HS) (e : Nat) (agg ifc : Bool) (size bytes : Nat) (zero : List ZC) (eq : Option (List LK)) (fag : List Bool) : oSlice T g x lo hi mx h (some ⟨.slice e, agg, ifc, size, bytes, zero, eq, fag⟩) = oSlice2 (T e) ⟨.slice e, agg, ifc, size, bytes, zero, eq, fag⟩ g x lo hi mx h := rfl
theorem oSlice_a (T : Nat → Option TI) (g : Bool) (x : SV) (lo hi mx : Option SV) (h : HS) (n e : Nat) (agg ifc : Bool) (size bytes : Nat) (zero : List ZC) (eq : Option (List LK)) (fag : List Bool) : oSlice T g x lo hi mx h (some ⟨.array n e, agg, ifc, size, bytes, zero, eq, fag⟩) = oSliceA (T e) n x lo hi mx h := rfl
theorem oIdx_a (T : Nat → Option TI) (x y : SV) (h : HS) (n e : Nat) (agg ifc : Bool) (size bytes : Nat) (zero : List ZC) (eq : Option (List LK)) (fag : List Bool) : oIdx T x y h (some ⟨.array n e, agg, ifc, size, bytes, zero, eq, fag⟩) = oIdxA (T e) n x y h := rfl
theorem rSlA_p (n : Nat) (te : TI) (nm off : Nat) (hi : Option SV) (h : HS) : rSlA n te (.ptr nm off) none hi none h = slA nm off n te h (intO (n : Int) hi) := rfl
theorem rIdx_a (n : Nat) (kind : TK) (ifc : Bool) (size bytes : Nat) (zero : List ZC) (eq : Option (List LK)) (fag : List Bool) (l : List SV) (k : IntKind) (i : Int) (h : HS) : rIdx n ⟨kind, false, ifc, size, bytes, zero, eq, fag⟩ (.agg l) (.int k i) h = .val (0 ≤ i ∧ i < (n : Int) ∧ i.toNat < lenS l ∧ size = 1) (nth l i.toNat) h := rfl
theorem rBuiltin_copy (T : Nat → Option TI) (h : HS) (ty ty2 : TypeId) (d s : SV) : rBuiltin T h .copy [ty, ty2] [d, s] = oCopy T d s h (T ty) := rfl
theorem oCopy_s (T : Nat → Option TI) (d s : SV) (h : HS) (e : Nat) (agg ifc : Bool) (size bytes : Nat) (zero : List ZC) (eq : Option (List LK)) (fag : List Bool) : oCopy T d s h (some ⟨.slice e, agg, ifc, size, bytes, zero, eq, fag⟩) = oCopy2 (T e) d s h := rfl
theorem rNil_be (h : HS) (e : Nat) (agg ifc : Bool) (size bytes : Nat) (zero : List ZC) (eq : Option (List LK)) (fag : List Bool) (a b c : Nat) : rEqNil (some ⟨.slice e, agg, ifc, size, bytes, zero, eq, fag⟩) .eql (.bsl a b c) h = .val True (.bool false) h := rfl
theorem rNil_bn (h : HS) (e : Nat) (agg ifc : Bool) (size bytes : Nat) (zero : List ZC) (eq : Option (List LK)) (fag : List Bool) (a b c : Nat) : rEqNil (some ⟨.slice e, agg, ifc, size, bytes, zero, eq, fag⟩) .neq (.bsl a b c) h = .val True (.bool true) h := rfl
def rBoxB (h : HS) (e : TypeId) (y : SV) : Bool → Res
  | true => rBox e (ownC y h).1 (ownC y h).2
  | false => rBox e y h
def ownM (x : SV) (l : List SV) (h : HS) : Option (Nat × Nat) → List SV × HS
  | some (e, sz) => (.vec (lenV h.vecs) 0 :: (ownN l { h with vecs := snocV h.vecs (.live 0 e sz 0 (fun _ _ => .any)) }).1, (ownN l { h with vecs := snocV h.vecs (.live 0 e sz 0 (fun _ _ => .any)) }).2)
  | none => (x :: (ownN l h).1, (ownN l h).2)
def dnlM (x : SV) : Option (Nat × Nat) → SV
  | some (_, sz) => .row 0 sz (fun _ _ => .any)
  | none => x
theorem rBoxO_s (h : HS) (ti : TI) (e : TypeId) (y : SV) : rBoxO h (some ti) e y = rBoxB h e y (hasSl ti.zero) := by simp only [rBoxO]; cases hasSl ti.zero <;> rfl
theorem rBoxO_n (h : HS) (e : TypeId) (y : SV) : rBoxO h none e y = rBox e y h := rfl
theorem ownN_c (x : SV) (l : List SV) (h : HS) : ownN (x :: l) h = ownM x l h (isN x) := by simp only [ownN]; cases isN x <;> rfl
theorem dnl1_c (x : SV) : dnl1 x = dnlM x (isN x) := by simp only [dnl1]; cases isN x <;> rfl
theorem isN_any  : isN SV.any = none := rfl
theorem ownC_any  (h : HS) : ownC SV.any h = (SV.any, h) := rfl
theorem ownS_any  (h : HS) : ownS SV.any h = ownC SV.any h := rfl
theorem dnl_any  : dnl SV.any = dnl1 SV.any := rfl
theorem isN_int  (k : IntKind) (n : Int) : isN (SV.int k n) = none := rfl
theorem ownC_int  (k : IntKind) (n : Int) (h : HS) : ownC (SV.int k n) h = ((SV.int k n), h) := rfl
theorem ownS_int  (k : IntKind) (n : Int) (h : HS) : ownS (SV.int k n) h = ownC (SV.int k n) h := rfl
theorem dnl_int  (k : IntKind) (n : Int) : dnl (SV.int k n) = dnl1 (SV.int k n) := rfl
theorem isN_bool  (b : Bool) : isN (SV.bool b) = none := rfl
theorem ownC_bool  (b : Bool) (h : HS) : ownC (SV.bool b) h = ((SV.bool b), h) := rfl
theorem ownS_bool  (b : Bool) (h : HS) : ownS (SV.bool b) h = ownC (SV.bool b) h := rfl
theorem dnl_bool  (b : Bool) : dnl (SV.bool b) = dnl1 (SV.bool b) := rfl
theorem isN_str  (s : ByteArray) : isN (SV.str s) = none := rfl
theorem ownC_str  (s : ByteArray) (h : HS) : ownC (SV.str s) h = ((SV.str s), h) := rfl
theorem ownS_str  (s : ByteArray) (h : HS) : ownS (SV.str s) h = ownC (SV.str s) h := rfl
theorem dnl_str  (s : ByteArray) : dnl (SV.str s) = dnl1 (SV.str s) := rfl
theorem isN_ptr  (nm : Nat) (off : Nat) : isN (SV.ptr nm off) = none := rfl
theorem ownC_ptr  (nm : Nat) (off : Nat) (h : HS) : ownC (SV.ptr nm off) h = ((SV.ptr nm off), h) := rfl
theorem ownS_ptr  (nm : Nat) (off : Nat) (h : HS) : ownS (SV.ptr nm off) h = ownC (SV.ptr nm off) h := rfl
theorem dnl_ptr  (nm : Nat) (off : Nat) : dnl (SV.ptr nm off) = dnl1 (SV.ptr nm off) := rfl
theorem isN_nilp  : isN SV.nilp = none := rfl
theorem ownC_nilp  (h : HS) : ownC SV.nilp h = (SV.nilp, h) := rfl
theorem ownS_nilp  (h : HS) : ownS SV.nilp h = ownC SV.nilp h := rfl
theorem dnl_nilp  : dnl SV.nilp = dnl1 SV.nilp := rfl
theorem isN_nils  (ety : Nat) (nsz : Nat) : isN (SV.nils ety nsz) = some (ety, nsz) := rfl
theorem ownS_nils  (ety : Nat) (nsz : Nat) (h : HS) : ownS (SV.nils ety nsz) h = ownC (SV.nils ety nsz) h := rfl
theorem dnl_nils  (ety : Nat) (nsz : Nat) : dnl (SV.nils ety nsz) = dnl1 (SV.nils ety nsz) := rfl
theorem isN_rptr  (sz : Nat) (f : Nat → SV) : isN (SV.rptr sz f) = none := rfl
theorem ownC_rptr  (sz : Nat) (f : Nat → SV) (h : HS) : ownC (SV.rptr sz f) h = ((SV.rptr sz f), h) := rfl
theorem ownS_rptr  (sz : Nat) (f : Nat → SV) (h : HS) : ownS (SV.rptr sz f) h = ownC (SV.rptr sz f) h := rfl
theorem dnl_rptr  (sz : Nat) (f : Nat → SV) : dnl (SV.rptr sz f) = dnl1 (SV.rptr sz f) := rfl
theorem isN_row  (n : Nat) (sz : Nat) (f : Nat → Nat → SV) : isN (SV.row n sz f) = none := rfl
theorem ownC_row  (n : Nat) (sz : Nat) (f : Nat → Nat → SV) (h : HS) : ownC (SV.row n sz f) h = ((SV.row n sz f), h) := rfl
theorem ownS_row  (n : Nat) (sz : Nat) (f : Nat → Nat → SV) (h : HS) : ownS (SV.row n sz f) h = ownC (SV.row n sz f) h := rfl
theorem dnl_row  (n : Nat) (sz : Nat) (f : Nat → Nat → SV) : dnl (SV.row n sz f) = dnl1 (SV.row n sz f) := rfl
theorem isN_vec  (id : Nat) (ver : Nat) : isN (SV.vec id ver) = none := rfl
theorem ownC_vec  (id : Nat) (ver : Nat) (h : HS) : ownC (SV.vec id ver) h = ((SV.vec id ver), h) := rfl
theorem ownS_vec  (id : Nat) (ver : Nat) (h : HS) : ownS (SV.vec id ver) h = ownC (SV.vec id ver) h := rfl
theorem dnl_vec  (id : Nat) (ver : Nat) : dnl (SV.vec id ver) = dnl1 (SV.vec id ver) := rfl
theorem isN_vptr  (id : Nat) (ver : Nat) (sz : Nat) (i : Nat) (off : Nat) : isN (SV.vptr id ver sz i off) = none := rfl
theorem ownC_vptr  (id : Nat) (ver : Nat) (sz : Nat) (i : Nat) (off : Nat) (h : HS) : ownC (SV.vptr id ver sz i off) h = ((SV.vptr id ver sz i off), h) := rfl
theorem ownS_vptr  (id : Nat) (ver : Nat) (sz : Nat) (i : Nat) (off : Nat) (h : HS) : ownS (SV.vptr id ver sz i off) h = ownC (SV.vptr id ver sz i off) h := rfl
theorem dnl_vptr  (id : Nat) (ver : Nat) (sz : Nat) (i : Nat) (off : Nat) : dnl (SV.vptr id ver sz i off) = dnl1 (SV.vptr id ver sz i off) := rfl
theorem isN_func  (g : Nat) (caps : List SV) : isN (SV.func g caps) = none := rfl
theorem ownC_func  (g : Nat) (caps : List SV) (h : HS) : ownC (SV.func g caps) h = ((SV.func g caps), h) := rfl
theorem ownS_func  (g : Nat) (caps : List SV) (h : HS) : ownS (SV.func g caps) h = ownC (SV.func g caps) h := rfl
theorem dnl_func  (g : Nat) (caps : List SV) : dnl (SV.func g caps) = dnl1 (SV.func g caps) := rfl
theorem isN_nilf  : isN SV.nilf = none := rfl
theorem ownC_nilf  (h : HS) : ownC SV.nilf h = (SV.nilf, h) := rfl
theorem ownS_nilf  (h : HS) : ownS SV.nilf h = ownC SV.nilf h := rfl
theorem dnl_nilf  : dnl SV.nilf = dnl1 SV.nilf := rfl
theorem isN_iface  (t : TypeId) (v : SV) : isN (SV.iface t v) = none := rfl
theorem ownC_iface  (t : TypeId) (v : SV) (h : HS) : ownC (SV.iface t v) h = ((SV.iface t v), h) := rfl
theorem ownS_iface  (t : TypeId) (v : SV) (h : HS) : ownS (SV.iface t v) h = ownC (SV.iface t v) h := rfl
theorem dnl_iface  (t : TypeId) (v : SV) : dnl (SV.iface t v) = dnl1 (SV.iface t v) := rfl
theorem isN_nili  : isN SV.nili = none := rfl
theorem ownC_nili  (h : HS) : ownC SV.nili h = (SV.nili, h) := rfl
theorem ownS_nili  (h : HS) : ownS SV.nili h = ownC SV.nili h := rfl
theorem dnl_nili  : dnl SV.nili = dnl1 SV.nili := rfl
theorem isN_agg  (l : List SV) : isN (SV.agg l) = none := rfl
theorem ownS_agg  (l : List SV) (h : HS) : ownS (SV.agg l) h = ownC (SV.agg l) h := rfl
theorem isN_tup  (l : List SV) : isN (SV.tup l) = none := rfl
theorem ownC_tup  (l : List SV) (h : HS) : ownC (SV.tup l) h = ((SV.tup l), h) := rfl
theorem ownS_tup  (l : List SV) (h : HS) : ownS (SV.tup l) h = ownC (SV.tup l) h := rfl
theorem dnl_tup  (l : List SV) : dnl (SV.tup l) = dnl1 (SV.tup l) := rfl
theorem isN_yield  (nm : Nat) : isN (SV.yield nm) = none := rfl
theorem ownC_yield  (nm : Nat) (h : HS) : ownC (SV.yield nm) h = ((SV.yield nm), h) := rfl
theorem ownS_yield  (nm : Nat) (h : HS) : ownS (SV.yield nm) h = ownC (SV.yield nm) h := rfl
theorem dnl_yield  (nm : Nat) : dnl (SV.yield nm) = dnl1 (SV.yield nm) := rfl
theorem isN_meth  (g : Nat) (first : List SV) : isN (SV.meth g first) = none := rfl
theorem ownC_meth  (g : Nat) (first : List SV) (h : HS) : ownC (SV.meth g first) h = ((SV.meth g first), h) := rfl
theorem ownS_meth  (g : Nat) (first : List SV) (h : HS) : ownS (SV.meth g first) h = ownC (SV.meth g first) h := rfl
theorem dnl_meth  (g : Nat) (first : List SV) : dnl (SV.meth g first) = dnl1 (SV.meth g first) := rfl
theorem isN_vcut  (id : Nat) (ver : Nat) (sz : Nat) (lo : Nat) (n : Nat) (x1 : Bool) : isN (SV.vcut id ver sz lo n x1) = none := rfl
theorem ownC_vcut  (id : Nat) (ver : Nat) (sz : Nat) (lo : Nat) (n : Nat) (x1 : Bool) (h : HS) : ownC (SV.vcut id ver sz lo n x1) h = ((SV.vcut id ver sz lo n x1), h) := rfl
theorem dnl_vcut  (id : Nat) (ver : Nat) (sz : Nat) (lo : Nat) (n : Nat) (x1 : Bool) : dnl (SV.vcut id ver sz lo n x1) = dnl1 (SV.vcut id ver sz lo n x1) := rfl
theorem isN_bsl  (nm : Nat) (off : Nat) (n : Nat) : isN (SV.bsl nm off n) = none := rfl
theorem ownC_bsl  (nm : Nat) (off : Nat) (n : Nat) (h : HS) : ownC (SV.bsl nm off n) h = ((SV.bsl nm off n), h) := rfl
theorem ownS_bsl  (nm : Nat) (off : Nat) (n : Nat) (h : HS) : ownS (SV.bsl nm off n) h = ownC (SV.bsl nm off n) h := rfl
theorem dnl_bsl  (nm : Nat) (off : Nat) (n : Nat) : dnl (SV.bsl nm off n) = dnl1 (SV.bsl nm off n) := rfl
theorem isN_mapp  (nm : Nat) : isN (SV.mapp nm) = none := rfl
theorem ownC_mapp  (nm : Nat) (h : HS) : ownC (SV.mapp nm) h = ((SV.mapp nm), h) := rfl
theorem ownS_mapp  (nm : Nat) (h : HS) : ownS (SV.mapp nm) h = ownC (SV.mapp nm) h := rfl
theorem dnl_mapp  (nm : Nat) : dnl (SV.mapp nm) = dnl1 (SV.mapp nm) := rfl
theorem ownS_vcut (id ver sz lo n : Nat) (x : Bool) (h : HS) : ownS (.vcut id ver sz lo n x) h = rebV id ver sz lo n x h (getV h.vecs id) := rfl
theorem ownC_agg (l : List SV) (h : HS) : ownC (.agg l) h = (.agg (ownN l h).1, (ownN l h).2) := rfl
theorem ownC_nils (ety nsz : Nat) (h : HS) : ownC (.nils ety nsz) h = (.vec (lenV h.vecs) 0, { h with vecs := snocV h.vecs (.live 0 ety nsz 0 (fun _ _ => .any)) }) := rfl
theorem dnl_agg (l : List SV) : dnl (.agg l) = .agg (mapF dnl1 l) := rfl
theorem frzF_nils (d : Nat) (h : HS) (ety nsz : Nat) : frzF (d + 1) h (.nils ety nsz) = .row 0 nsz (fun _ _ => .any) := rfl
theorem rLen_nils (e : Nat) (agg ifc : Bool) (size bytes : Nat) (zero : List ZC) (eq : Option (List LK)) (fag : List Bool) (h : HS) (a b : Nat) : rLen ⟨.slice e, agg, ifc, size, bytes, zero, eq, fag⟩ h (.nils a b) = .val True (.int .i64 0) h := rfl
theorem rNil_ne (h : HS) (e : Nat) (agg ifc : Bool) (size bytes : Nat) (zero : List ZC) (eq : Option (List LK)) (fag : List Bool) (a b : Nat) : rEqNil (some ⟨.slice e, agg, ifc, size, bytes, zero, eq, fag⟩) .eql (.nils a b) h = .val True (.bool true) h := rfl
theorem rNil_nn (h : HS) (e : Nat) (agg ifc : Bool) (size bytes : Nat) (zero : List ZC) (eq : Option (List LK)) (fag : List Bool) (a b : Nat) : rEqNil (some ⟨.slice e, agg, ifc, size, bytes, zero, eq, fag⟩) .neq (.nils a b) h = .val True (.bool false) h := rfl
theorem oMake_s (T : Nat → Option TI) (l c : SV) (h : HS) (e : Nat) (agg ifc : Bool) (size bytes : Nat) (zero : List ZC) (eq : Option (List LK)) (fag : List Bool) : oMake T l c h (some ⟨.slice e, agg, ifc, size, bytes, zero, eq, fag⟩) = oMake2 (T e) e l c h := rfl
theorem sliC_t (se id ver sz lo0 n : Nat) (lo hi : Option SV) (m : SV) (h : HS) : sliC se id ver sz lo0 n true lo hi (some m) h = cutR (se = sz) id ver sz lo0 n h (intO 0 lo) (intO (n : Int) hi) (some m) := rfl
theorem sliC_f (se id ver sz lo0 n : Nat) (lo hi mx : Option SV) (h : HS) : sliC se id ver sz lo0 n false lo hi mx h = cutR (se = sz) id ver sz lo0 n h (intO 0 lo) (intO (n : Int) hi) mx := rfl
def cIndex (se : Nat) (h : HS) (id ver sz lo n : Nat) (i : Int) : Vc → Res
  | .live ver' _ sz' _ _ => .val (ver = ver' ∧ sz = sz' ∧ se = sz ∧ 0 ≤ i ∧ i < (n : Int)) (.vptr id ver sz (lo + i.toNat) 0) h
  | .dead => .bad
theorem rIndex_c (e : Nat) (agg ifc : Bool) (size bytes : Nat) (zero : List ZC) (eq : Option (List LK)) (fag : List Bool) (se : Nat) (h : HS) (id ver sz lo n : Nat) (x : Bool) (k : IntKind) (i : Int) : rIndex ⟨.slice e, agg, ifc, size, bytes, zero, eq, fag⟩ se h (.vcut id ver sz lo n x) (.int k i) = cIndex se h id ver sz lo n i (getV h.vecs id) := rfl
theorem rIndex_b (e : Nat) (agg ifc : Bool) (size bytes : Nat) (zero : List ZC) (eq : Option (List LK)) (fag : List Bool) (se : Nat) (h : HS) (nm off n : Nat) (k : IntKind) (i : Int) : rIndex ⟨.slice e, agg, ifc, size, bytes, zero, eq, fag⟩ se h (.bsl nm off n) (.int k i) = .val (se = 1 ∧ 0 ≤ i ∧ i < (n : Int)) (.ptr nm (off + i.toNat)) h := rfl
theorem rLen_c (e : Nat) (agg ifc : Bool) (size bytes : Nat) (zero : List ZC) (eq : Option (List LK)) (fag : List Bool) (h : HS) (id ver sz lo n : Nat) (x : Bool) : rLen ⟨.slice e, agg, ifc, size, bytes, zero, eq, fag⟩ h (.vcut id ver sz lo n x) = .val True (.int .i64 (n : Int)) h := rfl
theorem rLen_b (e : Nat) (agg ifc : Bool) (size bytes : Nat) (zero : List ZC) (eq : Option (List LK)) (fag : List Bool) (h : HS) (nm off n : Nat) : rLen ⟨.slice e, agg, ifc, size, bytes, zero, eq, fag⟩ h (.bsl nm off n) = .val True (.int .i64 (n : Int)) h := rfl
theorem oIndex_s (T : Nat → Option TI) (h : HS) (x y : SV) (e : Nat) (agg ifc : Bool) (size bytes : Nat) (zero : List ZC) (eq : Option (List LK)) (fag : List Bool) : oIndex T h x y (some ⟨.slice e, agg, ifc, size, bytes, zero, eq, fag⟩) = oIndex2 (T e) ⟨.slice e, agg, ifc, size, bytes, zero, eq, fag⟩ h x y := rfl
theorem oIndex_a (T : Nat → Option TI) (h : HS) (x y : SV) (n e : Nat) (agg ifc : Bool) (size bytes : Nat) (zero : List ZC) (eq : Option (List LK)) (fag : List Bool) : oIndex T h x y (some ⟨.array n e, agg, ifc, size, bytes, zero, eq, fag⟩) = oIndex2 (T e) ⟨.array n e, agg, ifc, size, bytes, zero, eq, fag⟩ h x y := rfl
theorem rIndex_r (e : Nat) (agg ifc : Bool) (size bytes : Nat) (zero : List ZC) (eq : Option (List LK)) (fag : List Bool) (se : Nat) (h : HS) (n sz : Nat) (f : Nat → Nat → SV) (k : IntKind) (i : Int) : rIndex ⟨.slice e, agg, ifc, size, bytes, zero, eq, fag⟩ se h (.row n sz f) (.int k i) = .val (se = sz ∧ 0 ≤ i ∧ i < (n : Int)) (.rptr sz (f i.toNat)) h := rfl
def vIndex (se : Nat) (h : HS) (id ver : Nat) (i : Int) : Vc → Res
  | .live ver' _ sz n _ => .val (ver = ver' ∧ se = sz ∧ 0 ≤ i ∧ i < (n : Int)) (.vptr id ver sz i.toNat 0) h
  | .dead => .bad
theorem putB_c (b v : Nat → Nat) (k : Nat) (bs : List Nat) (h : List Blk) (x : Blk) (l : List Blk) : putB b v (k :: bs) h (x :: l) = putB b v bs (setB h k (renK b v x)) l := rfl
theorem putV_c (b v : Nat → Nat) (k : Nat) (vs : List Nat) (h : List Vc) (x : Vc) (l : List Vc) : putV b v (k :: vs) h (x :: l) = putV b v vs (setV h k (renC b v x)) l := rfl
theorem putB_n (b v : Nat → Nat) (h l : List Blk) : putB b v [] h l = h := rfl
theorem putV_n (b v : Nat → Nat) (h l : List Vc) : putV b v [] h l = h := rfl
theorem rIndex_v (e : Nat) (agg ifc : Bool) (size bytes : Nat) (zero : List ZC) (eq : Option (List LK)) (fag : List Bool) (se : Nat) (h : HS) (id ver : Nat) (k : IntKind) (i : Int) : rIndex ⟨.slice e, agg, ifc, size, bytes, zero, eq, fag⟩ se h (.vec id ver) (.int k i) = vIndex se h id ver i (getV h.vecs id) := rfl
theorem rIndex_a (n e : Nat) (agg ifc : Bool) (size bytes : Nat) (zero : List ZC) (eq : Option (List LK)) (fag : List Bool) (se : Nat) (h : HS) (nm off : Nat) (k : IntKind) (i : Int) : rIndex ⟨.array n e, agg, ifc, size, bytes, zero, eq, fag⟩ se h (.ptr nm off) (.int k i) = .val (0 ≤ i ∧ i < (n : Int)) (.ptr nm (off + i.toNat * se)) h := rfl
theorem rLen_r (e : Nat) (agg ifc : Bool) (size bytes : Nat) (zero : List ZC) (eq : Option (List LK)) (fag : List Bool) (h : HS) (n sz : Nat) (f : Nat → Nat → SV) : rLen ⟨.slice e, agg, ifc, size, bytes, zero, eq, fag⟩ h (.row n sz f) = .val True (.int .i64 (n : Int)) h := rfl
def vLen (h : HS) (ver : Nat) : Vc → Res
  | .live ver' _ _ n _ => .val (ver = ver') (.int .i64 (n : Int)) h
  | .dead => .bad
theorem rLen_v (e : Nat) (agg ifc : Bool) (size bytes : Nat) (zero : List ZC) (eq : Option (List LK)) (fag : List Bool) (h : HS) (id ver : Nat) : rLen ⟨.slice e, agg, ifc, size, bytes, zero, eq, fag⟩ h (.vec id ver) = vLen h ver (getV h.vecs id) := rfl
theorem rConv_i (kd : IntKind) (agg ifc : Bool) (size bytes : Nat) (zero : List ZC) (eq : Option (List LK)) (fag : List Bool) (k : IntKind) (n : Int) (h : HS) : rConv ⟨.int kd, agg, ifc, size, bytes, zero, eq, fag⟩ (.int k n) h = .val True (.int kd (kd.wrap n)) h := rfl
theorem rSlice_a (e : Nat) (agg ifc : Bool) (size bytes : Nat) (zero : List ZC) (eq : Option (List LK)) (fag : List Bool) (n sz : Nat) (f : Nat → Nat → SV) (k1 : IntKind) (l : Int) (k2 : IntKind) (u : Int) (h : HS) : rSlice ⟨.slice e, agg, ifc, size, bytes, zero, eq, fag⟩ (.row n sz f) (some (.int k1 l)) (some (.int k2 u)) h = .val (0 ≤ l ∧ l ≤ u ∧ u ≤ (n : Int)) (.row (u.toNat - l.toNat) sz (fun i j => f (l.toNat + i) j)) h := rfl
theorem rSlice_b (e : Nat) (agg ifc : Bool) (size bytes : Nat) (zero : List ZC) (eq : Option (List LK)) (fag : List Bool) (n sz : Nat) (f : Nat → Nat → SV) (k1 : IntKind) (l : Int)  (h : HS) : rSlice ⟨.slice e, agg, ifc, size, bytes, zero, eq, fag⟩ (.row n sz f) (some (.int k1 l)) (none) h = .val (0 ≤ l ∧ l ≤ (n : Int)) (.row (n - l.toNat) sz (fun i j => f (l.toNat + i) j)) h := rfl
theorem rSlice_c (e : Nat) (agg ifc : Bool) (size bytes : Nat) (zero : List ZC) (eq : Option (List LK)) (fag : List Bool) (n sz : Nat) (f : Nat → Nat → SV) (k2 : IntKind) (u : Int) (h : HS) : rSlice ⟨.slice e, agg, ifc, size, bytes, zero, eq, fag⟩ (.row n sz f) (none) (some (.int k2 u)) h = .val (0 ≤ u ∧ u ≤ (n : Int)) (.row u.toNat sz f) h := rfl
def bMv2 (o : Option TI) (e : Nat) (h : HS) : Res := match o with | some te => .val (0 < te.size) (.vec (lenV h.vecs) 0) { h with vecs := snocV h.vecs (.live 0 e te.size 0 (fun _ _ => .any)) } | none => .bad
def bMv (T : Nat → Option TI) (h : HS) : Option TI → Res
  | some { kind := .slice e, .. } => bMv2 (T e) e h
  | _ => .val True (.row 0 1 (fun _ _ => .any)) h
theorem rMove_nil (T : Nat → Option TI) (t : List SV) (h : HS) (ty : TypeId) : rMove T t h ty (.const (.slice none 0 0)) = bMv T h (T ty) := by
  rw [rMove.eq_1]; unfold bMv bMv2
  cases T ty with
  | none => rfl
  | some ti => cases ti; rename_i kk _ _ _ _ _ _; cases kk <;> rfl
theorem rMove_tmp (T : Nat → Option TI) (t : List SV) (h : HS) (ty : TypeId) (i : Nat) : rMove T t h ty (.tmp i) = .val True (nth t i) h := rfl
theorem rMove_func (T : Nat → Option TI) (t : List SV) (h : HS) (ty : TypeId) (i : Nat) : rMove T t h ty (.func i) = .val True (.func i []) h := rfl
theorem rMove_int (T : Nat → Option TI) (t : List SV) (h : HS) (ty : TypeId) (k : IntKind) (n : Int) : rMove T t h ty (.const (.int k n)) = .val True (.int k n) h := rfl
theorem svC_int (k : IntKind) (n : Int) : svC (.int k n) = .int k n := rfl
theorem rMove_bool (T : Nat → Option TI) (t : List SV) (h : HS) (ty : TypeId) (b : Bool) : rMove T t h ty (.const (.bool b)) = .val True (.bool b) h := rfl
theorem svC_bool (b : Bool) : svC (.bool b) = .bool b := rfl
theorem rMove_string (T : Nat → Option TI) (t : List SV) (h : HS) (ty : TypeId) (b : ByteArray) : rMove T t h ty (.const (.string b)) = .val True (.str b) h := rfl
theorem svC_string (b : ByteArray) : svC (.string b) = .str b := rfl
theorem rMove_nilf (T : Nat → Option TI) (t : List SV) (h : HS) (ty : TypeId) : rMove T t h ty (.const (.nilFunc)) = .val True .nilf h := rfl
theorem svC_nilf : svC (.nilFunc) = .nilf := rfl
theorem rMove_nili (T : Nat → Option TI) (t : List SV) (h : HS) (ty : TypeId) : rMove T t h ty (.const (.nilIface)) = .val True .nili h := rfl
theorem svC_nili : svC (.nilIface) = .nili := rfl
theorem rMove_nilp (T : Nat → Option TI) (t : List SV) (h : HS) (ty : TypeId) : rMove T t h ty (.const (.pointer none)) = .val True .nilp h := rfl
theorem svC_nilp : svC (.pointer none) = .nilp := rfl
theorem svC_nils : svC (.slice none 0 0) = .row 0 1 (fun _ _ => .any) := rfl
theorem rMove_agg (T : Nat → Option TI) (t : List SV) (h : HS) (ty : TypeId) (cs : Array Value) : rMove T t h ty (.const (.agg cs)) = .val True (svC (.agg cs)) h := rfl
theorem isConst_tmp (i : Nat) : isConst (.tmp i) = false := rfl
theorem isConst_func (i : Nat) : isConst (.func i) = false := rfl
theorem frzF_any (d : Nat) (h : HS) : frzF (d + 1) h SV.any = SV.any := rfl
theorem Fl1_any  : Fl1 SV.any = Sc SV.any := rfl
theorem Fl_any  : Fl SV.any = Fl1 SV.any := rfl
theorem OwnL_any (h : HS) (ty : TypeId) (x : SV) (us vs : List SV) : OwnL h ty (x :: us) (SV.any :: vs) = (x = SV.any ∧ Fl1 SV.any ∧ OwnL h ty us vs) := rfl
theorem takeL_any (M : Nat) (ty : TypeId) (vs : List SV) : takeL M ty (SV.any :: vs) = (SV.any :: (takeL M ty vs).1, (takeL M ty vs).2) := rfl
theorem OwnT_any (h : HS) (ty : TypeId) (n1 sz1 : Nat) (f1 : Nat → Nat → SV) : OwnT h ty SV.any (.row n1 sz1 f1) = IsVec h ty n1 sz1 f1 SV.any := rfl
theorem IsVec_any (h : HS) (ty : TypeId) (n1 sz1 : Nat) (f1 : Nat → Nat → SV) : IsVec h ty n1 sz1 f1 SV.any = False := rfl
theorem fz0_any (h : HS) (u : SV) : fz0 h u SV.any = (u = SV.any ∧ Sc SV.any) := rfl
theorem fz1_any (h : HS) (u : SV) : fz1 h u SV.any = fz0 h u SV.any := rfl
theorem FzT_any (h : HS) (u : SV) : FzT h u SV.any = fz1 h u SV.any := rfl
theorem cellsOf_int  (k : IntKind) (n : Int) : cellsOf (SV.int k n) = some [(SV.int k n)] := rfl
theorem frzF_int (d : Nat) (h : HS) (k : IntKind) (n : Int) : frzF (d + 1) h (SV.int k n) = (SV.int k n) := rfl
theorem Fl1_int  (k : IntKind) (n : Int) : Fl1 (SV.int k n) = Sc (SV.int k n) := rfl
theorem Fl_int  (k : IntKind) (n : Int) : Fl (SV.int k n) = Fl1 (SV.int k n) := rfl
theorem OwnL_int (h : HS) (ty : TypeId) (x : SV) (us vs : List SV) (k : IntKind) (n : Int) : OwnL h ty (x :: us) ((SV.int k n) :: vs) = (x = (SV.int k n) ∧ Fl1 (SV.int k n) ∧ OwnL h ty us vs) := rfl
theorem takeL_int (M : Nat) (ty : TypeId) (vs : List SV) (k : IntKind) (n : Int) : takeL M ty ((SV.int k n) :: vs) = ((SV.int k n) :: (takeL M ty vs).1, (takeL M ty vs).2) := rfl
theorem OwnT_int (h : HS) (ty : TypeId) (k : IntKind) (n : Int) (n1 sz1 : Nat) (f1 : Nat → Nat → SV) : OwnT h ty (SV.int k n) (.row n1 sz1 f1) = IsVec h ty n1 sz1 f1 (SV.int k n) := rfl
theorem IsVec_int (h : HS) (ty : TypeId) (k : IntKind) (n : Int) (n1 sz1 : Nat) (f1 : Nat → Nat → SV) : IsVec h ty n1 sz1 f1 (SV.int k n) = False := rfl
theorem fz0_int (h : HS) (u : SV) (k : IntKind) (n : Int) : fz0 h u (SV.int k n) = (u = (SV.int k n) ∧ Sc (SV.int k n)) := rfl
theorem fz1_int (h : HS) (u : SV) (k : IntKind) (n : Int) : fz1 h u (SV.int k n) = fz0 h u (SV.int k n) := rfl
theorem FzT_int (h : HS) (u : SV) (k : IntKind) (n : Int) : FzT h u (SV.int k n) = fz1 h u (SV.int k n) := rfl
theorem subX_int (x : SV) (k : IntKind) (n : Int) : subX x (SV.int k n) = (x = (SV.int k n)) := rfl
theorem cellsOf_bool  (b : Bool) : cellsOf (SV.bool b) = some [(SV.bool b)] := rfl
theorem frzF_bool (d : Nat) (h : HS) (b : Bool) : frzF (d + 1) h (SV.bool b) = (SV.bool b) := rfl
theorem Fl1_bool  (b : Bool) : Fl1 (SV.bool b) = Sc (SV.bool b) := rfl
theorem Fl_bool  (b : Bool) : Fl (SV.bool b) = Fl1 (SV.bool b) := rfl
theorem OwnL_bool (h : HS) (ty : TypeId) (x : SV) (us vs : List SV) (b : Bool) : OwnL h ty (x :: us) ((SV.bool b) :: vs) = (x = (SV.bool b) ∧ Fl1 (SV.bool b) ∧ OwnL h ty us vs) := rfl
theorem takeL_bool (M : Nat) (ty : TypeId) (vs : List SV) (b : Bool) : takeL M ty ((SV.bool b) :: vs) = ((SV.bool b) :: (takeL M ty vs).1, (takeL M ty vs).2) := rfl
theorem OwnT_bool (h : HS) (ty : TypeId) (b : Bool) (n1 sz1 : Nat) (f1 : Nat → Nat → SV) : OwnT h ty (SV.bool b) (.row n1 sz1 f1) = IsVec h ty n1 sz1 f1 (SV.bool b) := rfl
theorem IsVec_bool (h : HS) (ty : TypeId) (b : Bool) (n1 sz1 : Nat) (f1 : Nat → Nat → SV) : IsVec h ty n1 sz1 f1 (SV.bool b) = False := rfl
theorem fz0_bool (h : HS) (u : SV) (b : Bool) : fz0 h u (SV.bool b) = (u = (SV.bool b) ∧ Sc (SV.bool b)) := rfl
theorem fz1_bool (h : HS) (u : SV) (b : Bool) : fz1 h u (SV.bool b) = fz0 h u (SV.bool b) := rfl
theorem FzT_bool (h : HS) (u : SV) (b : Bool) : FzT h u (SV.bool b) = fz1 h u (SV.bool b) := rfl
theorem subX_bool (x : SV) (b : Bool) : subX x (SV.bool b) = (x = (SV.bool b)) := rfl
theorem cellsOf_str  (s : ByteArray) : cellsOf (SV.str s) = some [(SV.str s)] := rfl
theorem frzF_str (d : Nat) (h : HS) (s : ByteArray) : frzF (d + 1) h (SV.str s) = (SV.str s) := rfl
theorem Fl1_str  (s : ByteArray) : Fl1 (SV.str s) = Sc (SV.str s) := rfl
theorem Fl_str  (s : ByteArray) : Fl (SV.str s) = Fl1 (SV.str s) := rfl
theorem OwnL_str (h : HS) (ty : TypeId) (x : SV) (us vs : List SV) (s : ByteArray) : OwnL h ty (x :: us) ((SV.str s) :: vs) = (x = (SV.str s) ∧ Fl1 (SV.str s) ∧ OwnL h ty us vs) := rfl
theorem takeL_str (M : Nat) (ty : TypeId) (vs : List SV) (s : ByteArray) : takeL M ty ((SV.str s) :: vs) = ((SV.str s) :: (takeL M ty vs).1, (takeL M ty vs).2) := rfl
theorem OwnT_str (h : HS) (ty : TypeId) (s : ByteArray) (n1 sz1 : Nat) (f1 : Nat → Nat → SV) : OwnT h ty (SV.str s) (.row n1 sz1 f1) = IsVec h ty n1 sz1 f1 (SV.str s) := rfl
theorem IsVec_str (h : HS) (ty : TypeId) (s : ByteArray) (n1 sz1 : Nat) (f1 : Nat → Nat → SV) : IsVec h ty n1 sz1 f1 (SV.str s) = False := rfl
theorem fz0_str (h : HS) (u : SV) (s : ByteArray) : fz0 h u (SV.str s) = (u = (SV.str s) ∧ Sc (SV.str s)) := rfl
theorem fz1_str (h : HS) (u : SV) (s : ByteArray) : fz1 h u (SV.str s) = fz0 h u (SV.str s) := rfl
theorem FzT_str (h : HS) (u : SV) (s : ByteArray) : FzT h u (SV.str s) = fz1 h u (SV.str s) := rfl
theorem subX_str (x : SV) (s : ByteArray) : subX x (SV.str s) = (x = (SV.str s)) := rfl
theorem cellsOf_ptr  (nm : Nat) (off : Nat) : cellsOf (SV.ptr nm off) = some [(SV.ptr nm off)] := rfl
theorem Fl1_ptr  (nm : Nat) (off : Nat) : Fl1 (SV.ptr nm off) = Sc (SV.ptr nm off) := rfl
theorem Fl_ptr  (nm : Nat) (off : Nat) : Fl (SV.ptr nm off) = Fl1 (SV.ptr nm off) := rfl
theorem OwnL_ptr (h : HS) (ty : TypeId) (x : SV) (us vs : List SV) (nm : Nat) (off : Nat) : OwnL h ty (x :: us) ((SV.ptr nm off) :: vs) = (x = (SV.ptr nm off) ∧ Fl1 (SV.ptr nm off) ∧ OwnL h ty us vs) := rfl
theorem takeL_ptr (M : Nat) (ty : TypeId) (vs : List SV) (nm : Nat) (off : Nat) : takeL M ty ((SV.ptr nm off) :: vs) = ((SV.ptr nm off) :: (takeL M ty vs).1, (takeL M ty vs).2) := rfl
theorem OwnT_ptr (h : HS) (ty : TypeId) (nm : Nat) (off : Nat) (n1 sz1 : Nat) (f1 : Nat → Nat → SV) : OwnT h ty (SV.ptr nm off) (.row n1 sz1 f1) = IsVec h ty n1 sz1 f1 (SV.ptr nm off) := rfl
theorem IsVec_ptr (h : HS) (ty : TypeId) (nm : Nat) (off : Nat) (n1 sz1 : Nat) (f1 : Nat → Nat → SV) : IsVec h ty n1 sz1 f1 (SV.ptr nm off) = False := rfl
theorem fz0_ptr (h : HS) (u : SV) (nm : Nat) (off : Nat) : fz0 h u (SV.ptr nm off) = (u = (SV.ptr nm off) ∧ Sc (SV.ptr nm off)) := rfl
theorem fz1_ptr (h : HS) (u : SV) (nm : Nat) (off : Nat) : fz1 h u (SV.ptr nm off) = fz0 h u (SV.ptr nm off) := rfl
theorem FzT_ptr (h : HS) (u : SV) (nm : Nat) (off : Nat) : FzT h u (SV.ptr nm off) = fz1 h u (SV.ptr nm off) := rfl
theorem subX_ptr (x : SV) (nm : Nat) (off : Nat) : subX x (SV.ptr nm off) = (x = (SV.ptr nm off)) := rfl
theorem cellsOf_nilp  : cellsOf SV.nilp = some [SV.nilp] := rfl
theorem frzF_nilp (d : Nat) (h : HS) : frzF (d + 1) h SV.nilp = SV.nilp := rfl
theorem Fl1_nilp  : Fl1 SV.nilp = Sc SV.nilp := rfl
theorem Fl_nilp  : Fl SV.nilp = Fl1 SV.nilp := rfl
theorem OwnL_nilp (h : HS) (ty : TypeId) (x : SV) (us vs : List SV) : OwnL h ty (x :: us) (SV.nilp :: vs) = (x = SV.nilp ∧ Fl1 SV.nilp ∧ OwnL h ty us vs) := rfl
theorem takeL_nilp (M : Nat) (ty : TypeId) (vs : List SV) : takeL M ty (SV.nilp :: vs) = (SV.nilp :: (takeL M ty vs).1, (takeL M ty vs).2) := rfl
theorem OwnT_nilp (h : HS) (ty : TypeId) (n1 sz1 : Nat) (f1 : Nat → Nat → SV) : OwnT h ty SV.nilp (.row n1 sz1 f1) = IsVec h ty n1 sz1 f1 SV.nilp := rfl
theorem IsVec_nilp (h : HS) (ty : TypeId) (n1 sz1 : Nat) (f1 : Nat → Nat → SV) : IsVec h ty n1 sz1 f1 SV.nilp = False := rfl
theorem fz0_nilp (h : HS) (u : SV) : fz0 h u SV.nilp = (u = SV.nilp ∧ Sc SV.nilp) := rfl
theorem fz1_nilp (h : HS) (u : SV) : fz1 h u SV.nilp = fz0 h u SV.nilp := rfl
theorem FzT_nilp (h : HS) (u : SV) : FzT h u SV.nilp = fz1 h u SV.nilp := rfl
theorem subX_nilp (x : SV) : subX x SV.nilp = (x = SV.nilp) := rfl
theorem cellsOf_nils  (ety : Nat) (nsz : Nat) : cellsOf (SV.nils ety nsz) = some [(SV.nils ety nsz)] := rfl
theorem Fl1_nils  (ety : Nat) (nsz : Nat) : Fl1 (SV.nils ety nsz) = Sc (SV.nils ety nsz) := rfl
theorem Fl_nils  (ety : Nat) (nsz : Nat) : Fl (SV.nils ety nsz) = Fl1 (SV.nils ety nsz) := rfl
theorem OwnL_nils (h : HS) (ty : TypeId) (x : SV) (us vs : List SV) (ety : Nat) (nsz : Nat) : OwnL h ty (x :: us) ((SV.nils ety nsz) :: vs) = (x = (SV.nils ety nsz) ∧ Fl1 (SV.nils ety nsz) ∧ OwnL h ty us vs) := rfl
theorem takeL_nils (M : Nat) (ty : TypeId) (vs : List SV) (ety : Nat) (nsz : Nat) : takeL M ty ((SV.nils ety nsz) :: vs) = ((SV.nils ety nsz) :: (takeL M ty vs).1, (takeL M ty vs).2) := rfl
theorem OwnT_nils (h : HS) (ty : TypeId) (ety : Nat) (nsz : Nat) (n1 sz1 : Nat) (f1 : Nat → Nat → SV) : OwnT h ty (SV.nils ety nsz) (.row n1 sz1 f1) = IsVec h ty n1 sz1 f1 (SV.nils ety nsz) := rfl
theorem IsVec_nils (h : HS) (ty : TypeId) (ety : Nat) (nsz : Nat) (n1 sz1 : Nat) (f1 : Nat → Nat → SV) : IsVec h ty n1 sz1 f1 (SV.nils ety nsz) = False := rfl
theorem fz0_nils (h : HS) (u : SV) (ety : Nat) (nsz : Nat) : fz0 h u (SV.nils ety nsz) = (u = (SV.nils ety nsz) ∧ Sc (SV.nils ety nsz)) := rfl
theorem fz1_nils (h : HS) (u : SV) (ety : Nat) (nsz : Nat) : fz1 h u (SV.nils ety nsz) = fz0 h u (SV.nils ety nsz) := rfl
theorem FzT_nils (h : HS) (u : SV) (ety : Nat) (nsz : Nat) : FzT h u (SV.nils ety nsz) = fz1 h u (SV.nils ety nsz) := rfl
theorem subX_nils (x : SV) (ety : Nat) (nsz : Nat) : subX x (SV.nils ety nsz) = (x = (SV.nils ety nsz)) := rfl
theorem cellsOf_rptr  (sz : Nat) (f : Nat → SV) : cellsOf (SV.rptr sz f) = some [(SV.rptr sz f)] := rfl
theorem frzF_rptr (d : Nat) (h : HS) (sz : Nat) (f : Nat → SV) : frzF (d + 1) h (SV.rptr sz f) = (SV.rptr sz f) := rfl
theorem Fl1_rptr  (sz : Nat) (f : Nat → SV) : Fl1 (SV.rptr sz f) = Sc (SV.rptr sz f) := rfl
theorem Fl_rptr  (sz : Nat) (f : Nat → SV) : Fl (SV.rptr sz f) = Fl1 (SV.rptr sz f) := rfl
theorem OwnL_rptr (h : HS) (ty : TypeId) (x : SV) (us vs : List SV) (sz : Nat) (f : Nat → SV) : OwnL h ty (x :: us) ((SV.rptr sz f) :: vs) = (x = (SV.rptr sz f) ∧ Fl1 (SV.rptr sz f) ∧ OwnL h ty us vs) := rfl
theorem takeL_rptr (M : Nat) (ty : TypeId) (vs : List SV) (sz : Nat) (f : Nat → SV) : takeL M ty ((SV.rptr sz f) :: vs) = ((SV.rptr sz f) :: (takeL M ty vs).1, (takeL M ty vs).2) := rfl
theorem OwnT_rptr (h : HS) (ty : TypeId) (sz : Nat) (f : Nat → SV) (n1 sz1 : Nat) (f1 : Nat → Nat → SV) : OwnT h ty (SV.rptr sz f) (.row n1 sz1 f1) = IsVec h ty n1 sz1 f1 (SV.rptr sz f) := rfl
theorem IsVec_rptr (h : HS) (ty : TypeId) (sz : Nat) (f : Nat → SV) (n1 sz1 : Nat) (f1 : Nat → Nat → SV) : IsVec h ty n1 sz1 f1 (SV.rptr sz f) = False := rfl
theorem fz0_rptr (h : HS) (u : SV) (sz : Nat) (f : Nat → SV) : fz0 h u (SV.rptr sz f) = (u = (SV.rptr sz f) ∧ Sc (SV.rptr sz f)) := rfl
theorem fz1_rptr (h : HS) (u : SV) (sz : Nat) (f : Nat → SV) : fz1 h u (SV.rptr sz f) = fz0 h u (SV.rptr sz f) := rfl
theorem FzT_rptr (h : HS) (u : SV) (sz : Nat) (f : Nat → SV) : FzT h u (SV.rptr sz f) = fz1 h u (SV.rptr sz f) := rfl
theorem subX_rptr (x : SV) (sz : Nat) (f : Nat → SV) : subX x (SV.rptr sz f) = (x = (SV.rptr sz f)) := rfl
theorem cellsOf_row  (n : Nat) (sz : Nat) (f : Nat → Nat → SV) : cellsOf (SV.row n sz f) = some [(SV.row n sz f)] := rfl
theorem frzF_row (d : Nat) (h : HS) (n : Nat) (sz : Nat) (f : Nat → Nat → SV) : frzF (d + 1) h (SV.row n sz f) = (SV.row n sz f) := rfl
theorem Fl1_row  (n : Nat) (sz : Nat) (f : Nat → Nat → SV) : Fl1 (SV.row n sz f) = Sc (SV.row n sz f) := rfl
theorem Fl_row  (n : Nat) (sz : Nat) (f : Nat → Nat → SV) : Fl (SV.row n sz f) = Fl1 (SV.row n sz f) := rfl
theorem fz1_row (h : HS) (u : SV) (n : Nat) (sz : Nat) (f : Nat → Nat → SV) : fz1 h u (SV.row n sz f) = fz0 h u (SV.row n sz f) := rfl
theorem FzT_row (h : HS) (u : SV) (n : Nat) (sz : Nat) (f : Nat → Nat → SV) : FzT h u (SV.row n sz f) = fz1 h u (SV.row n sz f) := rfl
theorem cellsOf_vec  (id : Nat) (ver : Nat) : cellsOf (SV.vec id ver) = some [(SV.vec id ver)] := rfl
theorem Fl1_vec  (id : Nat) (ver : Nat) : Fl1 (SV.vec id ver) = Sc (SV.vec id ver) := rfl
theorem Fl_vec  (id : Nat) (ver : Nat) : Fl (SV.vec id ver) = Fl1 (SV.vec id ver) := rfl
theorem OwnL_vec (h : HS) (ty : TypeId) (x : SV) (us vs : List SV) (id : Nat) (ver : Nat) : OwnL h ty (x :: us) ((SV.vec id ver) :: vs) = (x = (SV.vec id ver) ∧ Fl1 (SV.vec id ver) ∧ OwnL h ty us vs) := rfl
theorem takeL_vec (M : Nat) (ty : TypeId) (vs : List SV) (id : Nat) (ver : Nat) : takeL M ty ((SV.vec id ver) :: vs) = ((SV.vec id ver) :: (takeL M ty vs).1, (takeL M ty vs).2) := rfl
theorem OwnT_vec (h : HS) (ty : TypeId) (id : Nat) (ver : Nat) (n1 sz1 : Nat) (f1 : Nat → Nat → SV) : OwnT h ty (SV.vec id ver) (.row n1 sz1 f1) = IsVec h ty n1 sz1 f1 (SV.vec id ver) := rfl
theorem fz0_vec (h : HS) (u : SV) (id : Nat) (ver : Nat) : fz0 h u (SV.vec id ver) = (u = (SV.vec id ver) ∧ Sc (SV.vec id ver)) := rfl
theorem fz1_vec (h : HS) (u : SV) (id : Nat) (ver : Nat) : fz1 h u (SV.vec id ver) = fz0 h u (SV.vec id ver) := rfl
theorem FzT_vec (h : HS) (u : SV) (id : Nat) (ver : Nat) : FzT h u (SV.vec id ver) = fz1 h u (SV.vec id ver) := rfl
theorem subX_vec (x : SV) (id : Nat) (ver : Nat) : subX x (SV.vec id ver) = (x = (SV.vec id ver)) := rfl
theorem cellsOf_vptr  (id : Nat) (ver : Nat) (sz : Nat) (i : Nat) (off : Nat) : cellsOf (SV.vptr id ver sz i off) = some [(SV.vptr id ver sz i off)] := rfl
theorem frzF_vptr (d : Nat) (h : HS) (id : Nat) (ver : Nat) (sz : Nat) (i : Nat) (off : Nat) : frzF (d + 1) h (SV.vptr id ver sz i off) = (SV.vptr id ver sz i off) := rfl
theorem Fl1_vptr  (id : Nat) (ver : Nat) (sz : Nat) (i : Nat) (off : Nat) : Fl1 (SV.vptr id ver sz i off) = Sc (SV.vptr id ver sz i off) := rfl
theorem Fl_vptr  (id : Nat) (ver : Nat) (sz : Nat) (i : Nat) (off : Nat) : Fl (SV.vptr id ver sz i off) = Fl1 (SV.vptr id ver sz i off) := rfl
theorem OwnL_vptr (h : HS) (ty : TypeId) (x : SV) (us vs : List SV) (id : Nat) (ver : Nat) (sz : Nat) (i : Nat) (off : Nat) : OwnL h ty (x :: us) ((SV.vptr id ver sz i off) :: vs) = (x = (SV.vptr id ver sz i off) ∧ Fl1 (SV.vptr id ver sz i off) ∧ OwnL h ty us vs) := rfl
theorem takeL_vptr (M : Nat) (ty : TypeId) (vs : List SV) (id : Nat) (ver : Nat) (sz : Nat) (i : Nat) (off : Nat) : takeL M ty ((SV.vptr id ver sz i off) :: vs) = ((SV.vptr id ver sz i off) :: (takeL M ty vs).1, (takeL M ty vs).2) := rfl
theorem OwnT_vptr (h : HS) (ty : TypeId) (id : Nat) (ver : Nat) (sz : Nat) (i : Nat) (off : Nat) (n1 sz1 : Nat) (f1 : Nat → Nat → SV) : OwnT h ty (SV.vptr id ver sz i off) (.row n1 sz1 f1) = IsVec h ty n1 sz1 f1 (SV.vptr id ver sz i off) := rfl
theorem IsVec_vptr (h : HS) (ty : TypeId) (id : Nat) (ver : Nat) (sz : Nat) (i : Nat) (off : Nat) (n1 sz1 : Nat) (f1 : Nat → Nat → SV) : IsVec h ty n1 sz1 f1 (SV.vptr id ver sz i off) = False := rfl
theorem fz0_vptr (h : HS) (u : SV) (id : Nat) (ver : Nat) (sz : Nat) (i : Nat) (off : Nat) : fz0 h u (SV.vptr id ver sz i off) = (u = (SV.vptr id ver sz i off) ∧ Sc (SV.vptr id ver sz i off)) := rfl
theorem fz1_vptr (h : HS) (u : SV) (id : Nat) (ver : Nat) (sz : Nat) (i : Nat) (off : Nat) : fz1 h u (SV.vptr id ver sz i off) = fz0 h u (SV.vptr id ver sz i off) := rfl
theorem FzT_vptr (h : HS) (u : SV) (id : Nat) (ver : Nat) (sz : Nat) (i : Nat) (off : Nat) : FzT h u (SV.vptr id ver sz i off) = fz1 h u (SV.vptr id ver sz i off) := rfl
theorem subX_vptr (x : SV) (id : Nat) (ver : Nat) (sz : Nat) (i : Nat) (off : Nat) : subX x (SV.vptr id ver sz i off) = (x = (SV.vptr id ver sz i off)) := rfl
theorem cellsOf_func  (g : Nat) (caps : List SV) : cellsOf (SV.func g caps) = some [(SV.func g caps)] := rfl
theorem frzF_func (d : Nat) (h : HS) (g : Nat) (caps : List SV) : frzF (d + 1) h (SV.func g caps) = (SV.func g caps) := rfl
theorem Fl1_func  (g : Nat) (caps : List SV) : Fl1 (SV.func g caps) = Sc (SV.func g caps) := rfl
theorem Fl_func  (g : Nat) (caps : List SV) : Fl (SV.func g caps) = Fl1 (SV.func g caps) := rfl
theorem OwnL_func (h : HS) (ty : TypeId) (x : SV) (us vs : List SV) (g : Nat) (caps : List SV) : OwnL h ty (x :: us) ((SV.func g caps) :: vs) = (x = (SV.func g caps) ∧ Fl1 (SV.func g caps) ∧ OwnL h ty us vs) := rfl
theorem takeL_func (M : Nat) (ty : TypeId) (vs : List SV) (g : Nat) (caps : List SV) : takeL M ty ((SV.func g caps) :: vs) = ((SV.func g caps) :: (takeL M ty vs).1, (takeL M ty vs).2) := rfl
theorem OwnT_func (h : HS) (ty : TypeId) (g : Nat) (caps : List SV) (n1 sz1 : Nat) (f1 : Nat → Nat → SV) : OwnT h ty (SV.func g caps) (.row n1 sz1 f1) = IsVec h ty n1 sz1 f1 (SV.func g caps) := rfl
theorem IsVec_func (h : HS) (ty : TypeId) (g : Nat) (caps : List SV) (n1 sz1 : Nat) (f1 : Nat → Nat → SV) : IsVec h ty n1 sz1 f1 (SV.func g caps) = False := rfl
theorem fz0_func (h : HS) (u : SV) (g : Nat) (caps : List SV) : fz0 h u (SV.func g caps) = (u = (SV.func g caps) ∧ Sc (SV.func g caps)) := rfl
theorem fz1_func (h : HS) (u : SV) (g : Nat) (caps : List SV) : fz1 h u (SV.func g caps) = fz0 h u (SV.func g caps) := rfl
theorem FzT_func (h : HS) (u : SV) (g : Nat) (caps : List SV) : FzT h u (SV.func g caps) = fz1 h u (SV.func g caps) := rfl
theorem subX_func (x : SV) (g : Nat) (caps : List SV) : subX x (SV.func g caps) = (x = (SV.func g caps)) := rfl
theorem cellsOf_nilf  : cellsOf SV.nilf = some [SV.nilf] := rfl
theorem frzF_nilf (d : Nat) (h : HS) : frzF (d + 1) h SV.nilf = SV.nilf := rfl
theorem Fl1_nilf  : Fl1 SV.nilf = Sc SV.nilf := rfl
theorem Fl_nilf  : Fl SV.nilf = Fl1 SV.nilf := rfl
theorem OwnL_nilf (h : HS) (ty : TypeId) (x : SV) (us vs : List SV) : OwnL h ty (x :: us) (SV.nilf :: vs) = (x = SV.nilf ∧ Fl1 SV.nilf ∧ OwnL h ty us vs) := rfl
theorem takeL_nilf (M : Nat) (ty : TypeId) (vs : List SV) : takeL M ty (SV.nilf :: vs) = (SV.nilf :: (takeL M ty vs).1, (takeL M ty vs).2) := rfl
theorem OwnT_nilf (h : HS) (ty : TypeId) (n1 sz1 : Nat) (f1 : Nat → Nat → SV) : OwnT h ty SV.nilf (.row n1 sz1 f1) = IsVec h ty n1 sz1 f1 SV.nilf := rfl
theorem IsVec_nilf (h : HS) (ty : TypeId) (n1 sz1 : Nat) (f1 : Nat → Nat → SV) : IsVec h ty n1 sz1 f1 SV.nilf = False := rfl
theorem fz0_nilf (h : HS) (u : SV) : fz0 h u SV.nilf = (u = SV.nilf ∧ Sc SV.nilf) := rfl
theorem fz1_nilf (h : HS) (u : SV) : fz1 h u SV.nilf = fz0 h u SV.nilf := rfl
theorem FzT_nilf (h : HS) (u : SV) : FzT h u SV.nilf = fz1 h u SV.nilf := rfl
theorem subX_nilf (x : SV) : subX x SV.nilf = (x = SV.nilf) := rfl
theorem cellsOf_iface  (t : TypeId) (v : SV) : cellsOf (SV.iface t v) = some [(SV.iface t v)] := rfl
theorem frzF_iface (d : Nat) (h : HS) (t : TypeId) (v : SV) : frzF (d + 1) h (SV.iface t v) = (SV.iface t v) := rfl
theorem Fl1_iface  (t : TypeId) (v : SV) : Fl1 (SV.iface t v) = Sc (SV.iface t v) := rfl
theorem Fl_iface  (t : TypeId) (v : SV) : Fl (SV.iface t v) = Fl1 (SV.iface t v) := rfl
theorem OwnL_iface (h : HS) (ty : TypeId) (x : SV) (us vs : List SV) (t : TypeId) (v : SV) : OwnL h ty (x :: us) ((SV.iface t v) :: vs) = (x = (SV.iface t v) ∧ Fl1 (SV.iface t v) ∧ OwnL h ty us vs) := rfl
theorem takeL_iface (M : Nat) (ty : TypeId) (vs : List SV) (t : TypeId) (v : SV) : takeL M ty ((SV.iface t v) :: vs) = ((SV.iface t v) :: (takeL M ty vs).1, (takeL M ty vs).2) := rfl
theorem OwnT_iface (h : HS) (ty : TypeId) (t : TypeId) (v : SV) (n1 sz1 : Nat) (f1 : Nat → Nat → SV) : OwnT h ty (SV.iface t v) (.row n1 sz1 f1) = IsVec h ty n1 sz1 f1 (SV.iface t v) := rfl
theorem IsVec_iface (h : HS) (ty : TypeId) (t : TypeId) (v : SV) (n1 sz1 : Nat) (f1 : Nat → Nat → SV) : IsVec h ty n1 sz1 f1 (SV.iface t v) = False := rfl
theorem fz0_iface (h : HS) (u : SV) (t : TypeId) (v : SV) : fz0 h u (SV.iface t v) = (u = (SV.iface t v) ∧ Sc (SV.iface t v)) := rfl
theorem fz1_iface (h : HS) (u : SV) (t : TypeId) (v : SV) : fz1 h u (SV.iface t v) = fz0 h u (SV.iface t v) := rfl
theorem FzT_iface (h : HS) (u : SV) (t : TypeId) (v : SV) : FzT h u (SV.iface t v) = fz1 h u (SV.iface t v) := rfl
theorem subX_iface (x : SV) (t : TypeId) (v : SV) : subX x (SV.iface t v) = (x = (SV.iface t v)) := rfl
theorem cellsOf_nili  : cellsOf SV.nili = some [SV.nili] := rfl
theorem frzF_nili (d : Nat) (h : HS) : frzF (d + 1) h SV.nili = SV.nili := rfl
theorem Fl1_nili  : Fl1 SV.nili = Sc SV.nili := rfl
theorem Fl_nili  : Fl SV.nili = Fl1 SV.nili := rfl
theorem OwnL_nili (h : HS) (ty : TypeId) (x : SV) (us vs : List SV) : OwnL h ty (x :: us) (SV.nili :: vs) = (x = SV.nili ∧ Fl1 SV.nili ∧ OwnL h ty us vs) := rfl
theorem takeL_nili (M : Nat) (ty : TypeId) (vs : List SV) : takeL M ty (SV.nili :: vs) = (SV.nili :: (takeL M ty vs).1, (takeL M ty vs).2) := rfl
theorem OwnT_nili (h : HS) (ty : TypeId) (n1 sz1 : Nat) (f1 : Nat → Nat → SV) : OwnT h ty SV.nili (.row n1 sz1 f1) = IsVec h ty n1 sz1 f1 SV.nili := rfl
theorem IsVec_nili (h : HS) (ty : TypeId) (n1 sz1 : Nat) (f1 : Nat → Nat → SV) : IsVec h ty n1 sz1 f1 SV.nili = False := rfl
theorem fz0_nili (h : HS) (u : SV) : fz0 h u SV.nili = (u = SV.nili ∧ Sc SV.nili) := rfl
theorem fz1_nili (h : HS) (u : SV) : fz1 h u SV.nili = fz0 h u SV.nili := rfl
theorem FzT_nili (h : HS) (u : SV) : FzT h u SV.nili = fz1 h u SV.nili := rfl
theorem subX_nili (x : SV) : subX x SV.nili = (x = SV.nili) := rfl
theorem Fl_agg  (l : List SV) : Fl (SV.agg l) = Fl1 (SV.agg l) := rfl
theorem OwnL_agg (h : HS) (ty : TypeId) (x : SV) (us vs : List SV) (l : List SV) : OwnL h ty (x :: us) ((SV.agg l) :: vs) = (x = (SV.agg l) ∧ Fl1 (SV.agg l) ∧ OwnL h ty us vs) := rfl
theorem takeL_agg (M : Nat) (ty : TypeId) (vs : List SV) (l : List SV) : takeL M ty ((SV.agg l) :: vs) = ((SV.agg l) :: (takeL M ty vs).1, (takeL M ty vs).2) := rfl
theorem OwnT_agg (h : HS) (ty : TypeId) (l : List SV) (n1 sz1 : Nat) (f1 : Nat → Nat → SV) : OwnT h ty (SV.agg l) (.row n1 sz1 f1) = IsVec h ty n1 sz1 f1 (SV.agg l) := rfl
theorem IsVec_agg (h : HS) (ty : TypeId) (l : List SV) (n1 sz1 : Nat) (f1 : Nat → Nat → SV) : IsVec h ty n1 sz1 f1 (SV.agg l) = False := rfl
theorem fz0_agg (h : HS) (u : SV) (l : List SV) : fz0 h u (SV.agg l) = (u = (SV.agg l) ∧ Sc (SV.agg l)) := rfl
theorem FzT_agg (h : HS) (u : SV) (l : List SV) : FzT h u (SV.agg l) = fz1 h u (SV.agg l) := rfl
theorem subX_agg (x : SV) (l : List SV) : subX x (SV.agg l) = (x = (SV.agg l)) := rfl
theorem frzF_tup (d : Nat) (h : HS) (l : List SV) : frzF (d + 1) h (SV.tup l) = (SV.tup l) := rfl
theorem OwnL_tup (h : HS) (ty : TypeId) (x : SV) (us vs : List SV) (l : List SV) : OwnL h ty (x :: us) ((SV.tup l) :: vs) = (x = (SV.tup l) ∧ Fl1 (SV.tup l) ∧ OwnL h ty us vs) := rfl
theorem takeL_tup (M : Nat) (ty : TypeId) (vs : List SV) (l : List SV) : takeL M ty ((SV.tup l) :: vs) = ((SV.tup l) :: (takeL M ty vs).1, (takeL M ty vs).2) := rfl
theorem IsVec_tup (h : HS) (ty : TypeId) (l : List SV) (n1 sz1 : Nat) (f1 : Nat → Nat → SV) : IsVec h ty n1 sz1 f1 (SV.tup l) = False := rfl
theorem fz0_tup (h : HS) (u : SV) (l : List SV) : fz0 h u (SV.tup l) = (u = (SV.tup l) ∧ Sc (SV.tup l)) := rfl
theorem fz1_tup (h : HS) (u : SV) (l : List SV) : fz1 h u (SV.tup l) = fz0 h u (SV.tup l) := rfl
theorem subX_tup (x : SV) (l : List SV) : subX x (SV.tup l) = (x = (SV.tup l)) := rfl
theorem cellsOf_yield  (nm : Nat) : cellsOf (SV.yield nm) = some [(SV.yield nm)] := rfl
theorem frzF_yield (d : Nat) (h : HS) (nm : Nat) : frzF (d + 1) h (SV.yield nm) = (SV.yield nm) := rfl
theorem Fl1_yield  (nm : Nat) : Fl1 (SV.yield nm) = Sc (SV.yield nm) := rfl
theorem Fl_yield  (nm : Nat) : Fl (SV.yield nm) = Fl1 (SV.yield nm) := rfl
theorem OwnL_yield (h : HS) (ty : TypeId) (x : SV) (us vs : List SV) (nm : Nat) : OwnL h ty (x :: us) ((SV.yield nm) :: vs) = (x = (SV.yield nm) ∧ Fl1 (SV.yield nm) ∧ OwnL h ty us vs) := rfl
theorem takeL_yield (M : Nat) (ty : TypeId) (vs : List SV) (nm : Nat) : takeL M ty ((SV.yield nm) :: vs) = ((SV.yield nm) :: (takeL M ty vs).1, (takeL M ty vs).2) := rfl
theorem OwnT_yield (h : HS) (ty : TypeId) (nm : Nat) (n1 sz1 : Nat) (f1 : Nat → Nat → SV) : OwnT h ty (SV.yield nm) (.row n1 sz1 f1) = IsVec h ty n1 sz1 f1 (SV.yield nm) := rfl
theorem IsVec_yield (h : HS) (ty : TypeId) (nm : Nat) (n1 sz1 : Nat) (f1 : Nat → Nat → SV) : IsVec h ty n1 sz1 f1 (SV.yield nm) = False := rfl
theorem fz0_yield (h : HS) (u : SV) (nm : Nat) : fz0 h u (SV.yield nm) = (u = (SV.yield nm) ∧ Sc (SV.yield nm)) := rfl
theorem fz1_yield (h : HS) (u : SV) (nm : Nat) : fz1 h u (SV.yield nm) = fz0 h u (SV.yield nm) := rfl
theorem FzT_yield (h : HS) (u : SV) (nm : Nat) : FzT h u (SV.yield nm) = fz1 h u (SV.yield nm) := rfl
theorem subX_yield (x : SV) (nm : Nat) : subX x (SV.yield nm) = (x = (SV.yield nm)) := rfl
theorem cellsOf_meth  (g : Nat) (first : List SV) : cellsOf (SV.meth g first) = some [(SV.meth g first)] := rfl
theorem frzF_meth (d : Nat) (h : HS) (g : Nat) (first : List SV) : frzF (d + 1) h (SV.meth g first) = (SV.meth g first) := rfl
theorem Fl1_meth  (g : Nat) (first : List SV) : Fl1 (SV.meth g first) = Sc (SV.meth g first) := rfl
theorem Fl_meth  (g : Nat) (first : List SV) : Fl (SV.meth g first) = Fl1 (SV.meth g first) := rfl
theorem OwnL_meth (h : HS) (ty : TypeId) (x : SV) (us vs : List SV) (g : Nat) (first : List SV) : OwnL h ty (x :: us) ((SV.meth g first) :: vs) = (x = (SV.meth g first) ∧ Fl1 (SV.meth g first) ∧ OwnL h ty us vs) := rfl
theorem takeL_meth (M : Nat) (ty : TypeId) (vs : List SV) (g : Nat) (first : List SV) : takeL M ty ((SV.meth g first) :: vs) = ((SV.meth g first) :: (takeL M ty vs).1, (takeL M ty vs).2) := rfl
theorem OwnT_meth (h : HS) (ty : TypeId) (g : Nat) (first : List SV) (n1 sz1 : Nat) (f1 : Nat → Nat → SV) : OwnT h ty (SV.meth g first) (.row n1 sz1 f1) = IsVec h ty n1 sz1 f1 (SV.meth g first) := rfl
theorem IsVec_meth (h : HS) (ty : TypeId) (g : Nat) (first : List SV) (n1 sz1 : Nat) (f1 : Nat → Nat → SV) : IsVec h ty n1 sz1 f1 (SV.meth g first) = False := rfl
theorem fz0_meth (h : HS) (u : SV) (g : Nat) (first : List SV) : fz0 h u (SV.meth g first) = (u = (SV.meth g first) ∧ Sc (SV.meth g first)) := rfl
theorem fz1_meth (h : HS) (u : SV) (g : Nat) (first : List SV) : fz1 h u (SV.meth g first) = fz0 h u (SV.meth g first) := rfl
theorem FzT_meth (h : HS) (u : SV) (g : Nat) (first : List SV) : FzT h u (SV.meth g first) = fz1 h u (SV.meth g first) := rfl
theorem subX_meth (x : SV) (g : Nat) (first : List SV) : subX x (SV.meth g first) = (x = (SV.meth g first)) := rfl
theorem cellsOf_vcut  (id : Nat) (ver : Nat) (sz : Nat) (lo : Nat) (n : Nat) (x1 : Bool) : cellsOf (SV.vcut id ver sz lo n x1) = some [(SV.vcut id ver sz lo n x1)] := rfl
theorem Fl1_vcut  (id : Nat) (ver : Nat) (sz : Nat) (lo : Nat) (n : Nat) (x1 : Bool) : Fl1 (SV.vcut id ver sz lo n x1) = Sc (SV.vcut id ver sz lo n x1) := rfl
theorem Fl_vcut  (id : Nat) (ver : Nat) (sz : Nat) (lo : Nat) (n : Nat) (x1 : Bool) : Fl (SV.vcut id ver sz lo n x1) = Fl1 (SV.vcut id ver sz lo n x1) := rfl
theorem OwnL_vcut (h : HS) (ty : TypeId) (x : SV) (us vs : List SV) (id : Nat) (ver : Nat) (sz : Nat) (lo : Nat) (n : Nat) (x1 : Bool) : OwnL h ty (x :: us) ((SV.vcut id ver sz lo n x1) :: vs) = (x = (SV.vcut id ver sz lo n x1) ∧ Fl1 (SV.vcut id ver sz lo n x1) ∧ OwnL h ty us vs) := rfl
theorem takeL_vcut (M : Nat) (ty : TypeId) (vs : List SV) (id : Nat) (ver : Nat) (sz : Nat) (lo : Nat) (n : Nat) (x1 : Bool) : takeL M ty ((SV.vcut id ver sz lo n x1) :: vs) = ((SV.vcut id ver sz lo n x1) :: (takeL M ty vs).1, (takeL M ty vs).2) := rfl
theorem OwnT_vcut (h : HS) (ty : TypeId) (id : Nat) (ver : Nat) (sz : Nat) (lo : Nat) (n : Nat) (x1 : Bool) (n1 sz1 : Nat) (f1 : Nat → Nat → SV) : OwnT h ty (SV.vcut id ver sz lo n x1) (.row n1 sz1 f1) = IsVec h ty n1 sz1 f1 (SV.vcut id ver sz lo n x1) := rfl
theorem IsVec_vcut (h : HS) (ty : TypeId) (id : Nat) (ver : Nat) (sz : Nat) (lo : Nat) (n : Nat) (x1 : Bool) (n1 sz1 : Nat) (f1 : Nat → Nat → SV) : IsVec h ty n1 sz1 f1 (SV.vcut id ver sz lo n x1) = False := rfl
theorem fz0_vcut (h : HS) (u : SV) (id : Nat) (ver : Nat) (sz : Nat) (lo : Nat) (n : Nat) (x1 : Bool) : fz0 h u (SV.vcut id ver sz lo n x1) = (u = (SV.vcut id ver sz lo n x1) ∧ Sc (SV.vcut id ver sz lo n x1)) := rfl
theorem fz1_vcut (h : HS) (u : SV) (id : Nat) (ver : Nat) (sz : Nat) (lo : Nat) (n : Nat) (x1 : Bool) : fz1 h u (SV.vcut id ver sz lo n x1) = fz0 h u (SV.vcut id ver sz lo n x1) := rfl
theorem FzT_vcut (h : HS) (u : SV) (id : Nat) (ver : Nat) (sz : Nat) (lo : Nat) (n : Nat) (x1 : Bool) : FzT h u (SV.vcut id ver sz lo n x1) = fz1 h u (SV.vcut id ver sz lo n x1) := rfl
theorem subX_vcut (x : SV) (id : Nat) (ver : Nat) (sz : Nat) (lo : Nat) (n : Nat) (x1 : Bool) : subX x (SV.vcut id ver sz lo n x1) = (x = (SV.vcut id ver sz lo n x1)) := rfl
theorem cellsOf_bsl  (nm : Nat) (off : Nat) (n : Nat) : cellsOf (SV.bsl nm off n) = some [(SV.bsl nm off n)] := rfl
theorem frzF_bsl (d : Nat) (h : HS) (nm : Nat) (off : Nat) (n : Nat) : frzF (d + 1) h (SV.bsl nm off n) = (SV.bsl nm off n) := rfl
theorem Fl1_bsl  (nm : Nat) (off : Nat) (n : Nat) : Fl1 (SV.bsl nm off n) = Sc (SV.bsl nm off n) := rfl
theorem Fl_bsl  (nm : Nat) (off : Nat) (n : Nat) : Fl (SV.bsl nm off n) = Fl1 (SV.bsl nm off n) := rfl
theorem OwnL_bsl (h : HS) (ty : TypeId) (x : SV) (us vs : List SV) (nm : Nat) (off : Nat) (n : Nat) : OwnL h ty (x :: us) ((SV.bsl nm off n) :: vs) = (x = (SV.bsl nm off n) ∧ Fl1 (SV.bsl nm off n) ∧ OwnL h ty us vs) := rfl
theorem takeL_bsl (M : Nat) (ty : TypeId) (vs : List SV) (nm : Nat) (off : Nat) (n : Nat) : takeL M ty ((SV.bsl nm off n) :: vs) = ((SV.bsl nm off n) :: (takeL M ty vs).1, (takeL M ty vs).2) := rfl
theorem OwnT_bsl (h : HS) (ty : TypeId) (nm : Nat) (off : Nat) (n : Nat) (n1 sz1 : Nat) (f1 : Nat → Nat → SV) : OwnT h ty (SV.bsl nm off n) (.row n1 sz1 f1) = IsVec h ty n1 sz1 f1 (SV.bsl nm off n) := rfl
theorem IsVec_bsl (h : HS) (ty : TypeId) (nm : Nat) (off : Nat) (n : Nat) (n1 sz1 : Nat) (f1 : Nat → Nat → SV) : IsVec h ty n1 sz1 f1 (SV.bsl nm off n) = False := rfl
theorem fz0_bsl (h : HS) (u : SV) (nm : Nat) (off : Nat) (n : Nat) : fz0 h u (SV.bsl nm off n) = (u = (SV.bsl nm off n) ∧ Sc (SV.bsl nm off n)) := rfl
theorem fz1_bsl (h : HS) (u : SV) (nm : Nat) (off : Nat) (n : Nat) : fz1 h u (SV.bsl nm off n) = fz0 h u (SV.bsl nm off n) := rfl
theorem FzT_bsl (h : HS) (u : SV) (nm : Nat) (off : Nat) (n : Nat) : FzT h u (SV.bsl nm off n) = fz1 h u (SV.bsl nm off n) := rfl
theorem subX_bsl (x : SV) (nm : Nat) (off : Nat) (n : Nat) : subX x (SV.bsl nm off n) = (x = (SV.bsl nm off n)) := rfl
theorem cellsOf_mapp  (nm : Nat) : cellsOf (SV.mapp nm) = some [(SV.mapp nm)] := rfl
theorem frzF_mapp (d : Nat) (h : HS) (nm : Nat) : frzF (d + 1) h (SV.mapp nm) = (SV.mapp nm) := rfl
theorem Fl1_mapp  (nm : Nat) : Fl1 (SV.mapp nm) = Sc (SV.mapp nm) := rfl
theorem Fl_mapp  (nm : Nat) : Fl (SV.mapp nm) = Fl1 (SV.mapp nm) := rfl
theorem OwnL_mapp (h : HS) (ty : TypeId) (x : SV) (us vs : List SV) (nm : Nat) : OwnL h ty (x :: us) ((SV.mapp nm) :: vs) = (x = (SV.mapp nm) ∧ Fl1 (SV.mapp nm) ∧ OwnL h ty us vs) := rfl
theorem takeL_mapp (M : Nat) (ty : TypeId) (vs : List SV) (nm : Nat) : takeL M ty ((SV.mapp nm) :: vs) = ((SV.mapp nm) :: (takeL M ty vs).1, (takeL M ty vs).2) := rfl
theorem OwnT_mapp (h : HS) (ty : TypeId) (nm : Nat) (n1 sz1 : Nat) (f1 : Nat → Nat → SV) : OwnT h ty (SV.mapp nm) (.row n1 sz1 f1) = IsVec h ty n1 sz1 f1 (SV.mapp nm) := rfl
theorem IsVec_mapp (h : HS) (ty : TypeId) (nm : Nat) (n1 sz1 : Nat) (f1 : Nat → Nat → SV) : IsVec h ty n1 sz1 f1 (SV.mapp nm) = False := rfl
theorem fz0_mapp (h : HS) (u : SV) (nm : Nat) : fz0 h u (SV.mapp nm) = (u = (SV.mapp nm) ∧ Sc (SV.mapp nm)) := rfl
theorem fz1_mapp (h : HS) (u : SV) (nm : Nat) : fz1 h u (SV.mapp nm) = fz0 h u (SV.mapp nm) := rfl
theorem FzT_mapp (h : HS) (u : SV) (nm : Nat) : FzT h u (SV.mapp nm) = fz1 h u (SV.mapp nm) := rfl
theorem subX_mapp (x : SV) (nm : Nat) : subX x (SV.mapp nm) = (x = (SV.mapp nm)) := rfl
theorem subBk_mp (x : Blk) (m : MapS) : subBk x (.mp m) = (x = .mp m) := rfl
theorem subBk_loop (x : Blk) (st : LoopState) (pend : Option Code) (fid : Nat) (t : List SV) (params : Array Nat) (assign body : Code) : subBk x (.loop st pend fid t params assign body) = (x = .loop st pend fid t params assign body) := rfl
theorem wantS_tf (C : Ctx) (R R0 : Rn) (o : Oper) (fid : Nat) (ops : Array Oper) (i : Nat) (idx : List Nat) (k : List It) (t : List SV) (fs : List Fr) (h : HS) (Q : Out → HS → Prop) : wantS C R R0 true false o fid ops i idx k t fs h Q = R fid (.reg ops idx :: k) (put t o.dst (.tup [])) fs h Q := rfl
theorem gateW_tf (C : Ctx) (R0 : Rn) (X : List SV → SV → HS → Prop) (q : Bool) (o : Oper) (S : List SV → HS → Prop) (t : List SV) (h : HS) : gateW C R0 X true false q o S t h = S (put t o.dst (.tup [])) h := rfl
theorem reW_tf (r : Option (Prop × SV)) (dst : Option Nat) (t : List SV) : reW true false r dst t = True := rfl
theorem wantS_ft (C : Ctx) (R R0 : Rn) (o : Oper) (fid : Nat) (ops : Array Oper) (i : Nat) (idx : List Nat) (k : List It) (t : List SV) (fs : List Fr) (h : HS) (Q : Out → HS → Prop) : wantS C R R0 false true o fid ops i idx k t fs h Q = R fid (.reg ops idx :: k) (put t o.dst (.tup [])) fs h Q := rfl
theorem gateW_ft (C : Ctx) (R0 : Rn) (X : List SV → SV → HS → Prop) (q : Bool) (o : Oper) (S : List SV → HS → Prop) (t : List SV) (h : HS) : gateW C R0 X false true q o S t h = S (put t o.dst (.tup [])) h := rfl
theorem reW_ft (r : Option (Prop × SV)) (dst : Option Nat) (t : List SV) : reW false true r dst t = True := rfl
theorem oneR_0 : oneR [] = .tup [] := rfl
theorem oneR_2 (x y : SV) (l : List SV) : oneR (x :: y :: l) = .tup (x :: y :: l) := rfl
theorem zipPut_0 (t : List SV) (l : List SV) : zipPut t [] l = t := by cases t <;> cases l <;> rfl
theorem zipPut_1 (t : List SV) (p : Nat) (ps : List Nat) : zipPut t (p :: ps) [] = t := by cases t <;> rfl
theorem rBS_s (e : TypeId) (te : TI) (n : Nat) (ps : List (Nat × SV)) (h : HS) : rBuildSlice e te (n + 1) ps h = fin3 (fillS (placeA te.size) ps (repZ (zcs te.zero) (n + 1))) e (n + 1) te.size h := rfl
theorem rLoad_ptr (ti : TI) (h : HS) (nm off : Nat) : rLoad ti h (.ptr nm off) = bLoad ti h off (getB h.blks nm) := by rw [rLoad.eq_1]; cases getB h.blks nm <;> rfl
theorem rLoad_vptr (ti : TI) (h : HS) (id ver sz i off : Nat) : rLoad ti h (.vptr id ver sz i off) = vLoad ti h ver sz i off (getV h.vecs id) := by rw [rLoad.eq_3]; cases getV h.vecs id <;> rfl
theorem frzF_vec (d : Nat) (h : HS) (id ver : Nat) : frzF (d + 1) h (.vec id ver) = frzV (frzF d h) ver (getV h.vecs id) := rfl
theorem frzF_ptr (d : Nat) (h : HS) (nm off : Nat) : frzF (d + 1) h (.ptr nm off) = frzB (frzF d h) off (getB h.blks nm) := rfl
theorem frzF_vcut (d : Nat) (h : HS) (id ver sz lo n : Nat) (x : Bool) : frzF (d + 1) h (.vcut id ver sz lo n x) = frzC (frzF d h) ver sz lo n (getV h.vecs id) := rfl
theorem frzF_agg (d : Nat) (h : HS) (l : List SV) : frzF (d + 1) h (.agg l) = .agg (mapF (frzF d h) l) := rfl
theorem Fl1_agg (l : List SV) : Fl1 (.agg l) = ScL l := rfl
theorem Fl_tup (l : List SV) : Fl (.tup l) = FlL l := rfl
theorem fz0_row (h : HS) (u : SV) (n sz : Nat) (f : Nat → Nat → SV) : fz0 h u (.row n sz f) = RowIs h n sz f u := rfl
theorem fz1_agg (h : HS) (u : SV) (l : List SV) : fz1 h u (.agg l) = fzA h l u := rfl
theorem FzT_tup (h : HS) (u : SV) (l : List SV) : FzT h u (.tup l) = fzU h l u := rfl
theorem OwnT_tup (h : HS) (ty : TypeId) (us vs : List SV) : OwnT h ty (.tup us) (.tup vs) = OwnL h ty us vs := rfl
theorem OwnL_row (h : HS) (ty : TypeId) (u : SV) (us vs : List SV) (n sz : Nat) (f : Nat → Nat → SV) : OwnL h ty (u :: us) (.row n sz f :: vs) = (IsVec h ty n sz f u ∧ us = vs ∧ FlL vs) := rfl
theorem IsVec_vec (h : HS) (ty : TypeId) (n sz : Nat) (f : Nat → Nat → SV) (id ver : Nat) : IsVec h ty n sz f (.vec id ver) = VcIs ver ty n sz f (getV h.vecs id) := rfl
theorem takeL_row (M : Nat) (ty : TypeId) (vs : List SV) (n sz : Nat) (f : Nat → Nat → SV) : takeL M ty (.row n sz f :: vs) = (.vec M 0 :: vs, .live 0 ty sz n f) := rfl
theorem takeT_row (M : Nat) (ty : TypeId) (n sz : Nat) (f : Nat → Nat → SV) : takeT M ty (.row n sz f) = (.vec M 0, .live 0 ty sz n f) := rfl
theorem takeT_tup (M : Nat) (ty : TypeId) (l : List SV) : takeT M ty (.tup l) = (.tup (takeL M ty l).1, (takeL M ty l).2) := rfl
theorem mapS_1 (f : BaseF) (x : Option (Nat × BaseF)) : mapS (some f) x = some (lendS f) := rfl
theorem mapS_2 (ty : Nat) (f : BaseF) : mapS none (some (ty, f)) = some (lendO ty f) := rfl
theorem mapS_3 : mapS none none = none := rfl
theorem rStN_f (T : Nat → Option TI) (h : HS) (ti : TI) (x y : SV) : rStoreN T h ti x false y = rStoreO h ti x y (hasSl ti.zero) := rfl
def oStN (o : Option TI) (e : Nat) (h : HS) (ti : TI) (x : SV) : Res := match o with
  | some te => skipAnd (0 < te.size) (rStore ti { h with vecs := snocV h.vecs (.live 0 e te.size 0 (fun _ _ => .any)) } x (.vec (lenV h.vecs) 0))
  | none => .bad
theorem rStN_t (T : Nat → Option TI) (h : HS) (e : Nat) (agg ifc : Bool) (size bytes : Nat) (zero : List ZC) (eq : Option (List LK)) (fag : List Bool) (x y : SV) : rStoreN T h ⟨.slice e, agg, ifc, size, bytes, zero, eq, fag⟩ x true y = oStN (T e) e h ⟨.slice e, agg, ifc, size, bytes, zero, eq, fag⟩ x := rfl
theorem rNil_e (h : HS) (e : Nat) (agg ifc : Bool) (size bytes : Nat) (zero : List ZC) (eq : Option (List LK)) (fag : List Bool) (n z : Nat) (f : Nat → Nat → SV) : rEqNil (some ⟨.slice e, agg, ifc, size, bytes, zero, eq, fag⟩) .eql (.row n z f) h = .fork (n = 0) (.bool true) (.bool false) h := rfl
theorem rNil_n (h : HS) (e : Nat) (agg ifc : Bool) (size bytes : Nat) (zero : List ZC) (eq : Option (List LK)) (fag : List Bool) (n z : Nat) (f : Nat → Nat → SV) : rEqNil (some ⟨.slice e, agg, ifc, size, bytes, zero, eq, fag⟩) .neq (.row n z f) h = .fork (n = 0) (.bool false) (.bool true) h := rfl
theorem rEqF_f (op : BinOp) (q : Bool) (h : HS) (agg ifc : Bool) (size bytes : Nat) (zero : List ZC) (eq : Option (List LK)) (fag : List Bool) : rEqF (some ⟨.func, agg, ifc, size, bytes, zero, eq, fag⟩) op q h = neO op q h := rfl
theorem rBin2_func (ti : Option TI) (c : Bool) (op : BinOp) (g : Nat) (caps : List SV) (h : HS) : rBin2 ti c op (.func g caps) .nilf h = rEqF ti op false h := rfl
theorem rBin2_meth (ti : Option TI) (c : Bool) (op : BinOp) (g : Nat) (caps : List SV) (h : HS) : rBin2 ti c op (.meth g caps) .nilf h = rEqF ti op false h := rfl
theorem rBin2_nilf (ti : Option TI) (op : BinOp) (h : HS) : rBin2 ti true op .nilf .nilf h = rEqF ti op true h := rfl
theorem rCallN_0 (F : Nat → Bool) (h : HS) (f : SV) (args : List SV) : rCallN F h none f args = rCall F h f args := rfl
theorem rCallN_1 (F : Nat → Bool) (h : HS) (e : TypeId) (sz g : Nat) (args : List SV) : rCallN F h (some (e, sz)) (.func g []) args = if F g then .callN (0 < sz) g (putLast args (.vec (lenV h.vecs) 0)) { h with vecs := snocV h.vecs (.live 0 e sz 0 (fun _ _ => .any)) } else .bad := rfl
theorem lastN_nil (T : Nat → Option TI) (tys : List TypeId) : lastN T [] tys = none := by cases tys <;> rfl
theorem lastN_1 (T : Nat → Option TI) (x : Operand) (ty : TypeId) : lastN T [x] [ty] = nilE T x ty := rfl
theorem lastN_2 (T : Nat → Option TI) (x y : Operand) (l : List Operand) (ty : TypeId) (k : List TypeId) : lastN T (x :: y :: l) (ty :: k) = lastN T (y :: l) k := rfl
def nilE2 (T : Nat → Option TI) : Option TI → Option (TypeId × Nat)
  | some { kind := .slice e, .. } => match T e with
    | some { kind := .slice _, size := sz, .. } => some (e, sz)
    | _ => none
  | _ => none
def nilE1 (T : Nat → Option TI) (b : Bool) (ty : TypeId) : Option (TypeId × Nat) := match b with
  | false => none
  | true => nilE2 T (T ty)
def nilE3 (e : TypeId) : Option TI → Option (TypeId × Nat)
  | some { kind := .slice _, size := sz, .. } => some (e, sz)
  | _ => none
theorem nilE_1 (T : Nat → Option TI) (x : Operand) (ty : TypeId) : nilE T x ty = nilE1 T (isNilSl x) ty := rfl
theorem nilE1_f (T : Nat → Option TI) (ty : TypeId) : nilE1 T false ty = none := rfl
theorem nilE1_t (T : Nat → Option TI) (ty : TypeId) : nilE1 T true ty = nilE2 T (T ty) := rfl
theorem nilE2_s (T : Nat → Option TI) (e : TypeId) (agg ifc : Bool) (size bytes : Nat) (zero : List ZC) (eq : Option (List LK)) (fag : List Bool) : nilE2 T (some ⟨.slice e, agg, ifc, size, bytes, zero, eq, fag⟩) = nilE3 e (T e) := rfl
theorem nilE3_oth (e : TypeId) (agg ifc : Bool) (size bytes : Nat) (zero : List ZC) (eq : Option (List LK)) (fag : List Bool) : nilE3 e (some ⟨.other, agg, ifc, size, bytes, zero, eq, fag⟩) = none := rfl
theorem nilE3_int (e : TypeId) (k : IntKind) (agg ifc : Bool) (size bytes : Nat) (zero : List ZC) (eq : Option (List LK)) (fag : List Bool) : nilE3 e (some ⟨.int k, agg, ifc, size, bytes, zero, eq, fag⟩) = none := rfl
theorem nilE3_boo (e : TypeId) (agg ifc : Bool) (size bytes : Nat) (zero : List ZC) (eq : Option (List LK)) (fag : List Bool) : nilE3 e (some ⟨.bool, agg, ifc, size, bytes, zero, eq, fag⟩) = none := rfl
theorem nilE3_fun (e : TypeId) (agg ifc : Bool) (size bytes : Nat) (zero : List ZC) (eq : Option (List LK)) (fag : List Bool) : nilE3 e (some ⟨.func, agg, ifc, size, bytes, zero, eq, fag⟩) = none := rfl
theorem nilE3_str (e : TypeId) (o : List (Nat × Nat)) (agg ifc : Bool) (size bytes : Nat) (zero : List ZC) (eq : Option (List LK)) (fag : List Bool) : nilE3 e (some ⟨.struct o, agg, ifc, size, bytes, zero, eq, fag⟩) = none := rfl
theorem nilE3_arr (e : TypeId) (m e2 : Nat) (agg ifc : Bool) (size bytes : Nat) (zero : List ZC) (eq : Option (List LK)) (fag : List Bool) : nilE3 e (some ⟨.array m e2, agg, ifc, size, bytes, zero, eq, fag⟩) = none := rfl
theorem nilE3_map (e : TypeId) (m e2 : Nat) (agg ifc : Bool) (size bytes : Nat) (zero : List ZC) (eq : Option (List LK)) (fag : List Bool) : nilE3 e (some ⟨.map m e2, agg, ifc, size, bytes, zero, eq, fag⟩) = none := rfl
theorem isNil_tmp (i : Nat) : isNilSl (.tmp i) = false := rfl
theorem isNil_func (i : Nat) : isNilSl (.func i) = false := rfl
theorem isNil_nil : isNilSl (.const (.slice none 0 0)) = true := rfl
theorem isNil_int (k : IntKind) (n : Int) : isNilSl (.const (.int k n)) = false := rfl
theorem isNil_bool (b : Bool) : isNilSl (.const (.bool b)) = false := rfl
theorem isNil_string (b : ByteArray) : isNilSl (.const (.string b)) = false := rfl
theorem isNil_nilf  : isNilSl (.const (.nilFunc)) = false := rfl
theorem isNil_nili  : isNilSl (.const (.nilIface)) = false := rfl
theorem isNil_nilp  : isNilSl (.const (.pointer none)) = false := rfl
theorem isNil_agg (cs : Array Value) : isNilSl (.const (.agg cs)) = false := rfl
theorem intR_lit (n sz : Nat) (z : Nat → Nat → Int) : IntR n sz (fun i j => .int .i64 (z i j)) = True := eq_true fun _ _ _ _ => rfl
theorem intK_lit (k : IntKind) (n sz : Nat) (z : Nat → Nat → Int) : IntK k n sz (fun i j => .int k (z i j)) = True := eq_true fun _ _ _ _ => rfl
theorem rBuiltin_min (T : Nat → Option TI) (h : HS) (tys : List TypeId) (x y : SV) : rBuiltin T h .min tys [x, y] = rMin x y h := rfl
theorem rMin_i (k k2 : IntKind) (x y : Int) (h : HS) : rMin (.int k x) (.int k2 y) h = if k = k2 then .val True (.int k (min x y)) h else .bad := rfl
theorem rBuiltin_rec (T : Nat → Option TI) (h : HS) : rBuiltin T h .recover [] [] = .bad := rfl
theorem rowSz_vec (id ver : Nat) : rowSz (.vec id ver) = 0 := rfl
theorem iv_int (k : IntKind) (n : Int) : iv (.int k n) = n := rfl
def oRange (x : SV) (h : HS) : Option TI → Res
  | some ti => rRange ti x h
  | none => .bad
theorem opRes_range (T : Nat → Option TI) (F : Nat → Bool) (t : List SV) (h : HS) (dst : Option Nat) (ty : TypeId) (pos : String) (aft : Array Edge) (g : Option (Nat × Bool)) (ty2 : TypeId) (x : Operand) : opRes T F t h ⟨dst, .range ty2 x, ty, pos, aft, g⟩ = oRange (ev t x) h (T ty2) := rfl
theorem opRes_next (T : Nat → Option TI) (F : Nat → Bool) (t : List SV) (h : HS) (dst : Option Nat) (ty : TypeId) (pos : String) (aft : Array Edge) (g : Option (Nat × Bool)) (x : Operand) : opRes T F t h ⟨dst, .next x false, ty, pos, aft, g⟩ = rNext (ev t x) h := rfl
theorem opRes_entry (T : Nat → Option TI) (F : Nat → Bool) (t : List SV) (h : HS) (dst : Option Nat) (ty : TypeId) (pos : String) (aft : Array Edge) (g : Option (Nat × Bool)) (x : Operand) : opRes T F t h ⟨dst, .entry x, ty, pos, aft, g⟩ = rEntry (ev t x) h := rfl
theorem rRange_l (k v : Nat) (agg ifc : Bool) (size bytes : Nat) (zero : List ZC) (eq : Option (List LK)) (fag : List Bool) (h : HS) (nm : Nat) : rRange ⟨.map k v, agg, ifc, size, bytes, zero, eq, fag⟩ (.mapp nm) h = rRangeM nm h (getB h.blks nm) := rfl
theorem rRangeM_l (nm : Nat) (h : HS) (a b : TypeId) (c : Bool) (d : List LK) (e : Bool) (f : List LK) (es : List (List Int × List Int)) : rRangeM nm h (.mp ⟨a, b, c, d, e, f, es, none⟩) = .val True (.ptr (lenB h.blks) 0) { h with blks := snocB h.blks (.mp (itS (nm, lenM es, []))) } := rfl
theorem rNext_l (nm : Nat) (h : HS) : rNext (.ptr nm 0) h = rNextI nm h (getB h.blks nm) := rfl
theorem rNextI_l (nm : Nat) (h : HS) (m s : Nat) (l : List Nat) : rNextI nm h (.mp (itS (m, s, l))) = rNextM nm m s l h (getB h.blks m) := rfl
theorem rNextM_l (nm m s : Nat) (l : List Nat) (h : HS) (a b : TypeId) (c : Bool) (d : List LK) (e : Bool) (f : List LK) (es : List (List Int × List Int)) : rNextM nm m s l h (.mp ⟨a, b, c, d, e, f, es, none⟩) = .pick (s = lenM es) s (fun i => !l.contains i) (fun i => .tup (.bool true :: entS ⟨a, b, c, d, e, f, es, none⟩ i)) (fun i => { h with blks := setB h.blks nm (.mp (itS (m, s, i :: l))) }) (.tup [.bool false]) h := rfl
theorem rEntry_l (nm : Nat) (h : HS) : rEntry (.ptr nm 0) h = rEntI h (getB h.blks nm) := rfl
theorem rEntI_l (h : HS) (m s i : Nat) (l : List Nat) : rEntI h (.mp (itS (m, s, i :: l))) = rEntM i s h (getB h.blks m) := rfl
theorem rEntM_l (i s : Nat) (h : HS) (a b : TypeId) (c : Bool) (d : List LK) (e : Bool) (f : List LK) (es : List (List Int × List Int)) : rEntM i s h (.mp ⟨a, b, c, d, e, f, es, none⟩) = .val (s = lenM es ∧ i < s) (.tup (entS ⟨a, b, c, d, e, f, es, none⟩ i)) h := rfl
theorem rNil_ve (h : HS) (e : Nat) (agg ifc : Bool) (size bytes : Nat) (zero : List ZC) (eq : Option (List LK)) (fag : List Bool) (a b : Nat) : rEqNil (some ⟨.slice e, agg, ifc, size, bytes, zero, eq, fag⟩) .eql (.vec a b) h = vNil (.bool true) (.bool false) b (nOf (getV h.vecs a)) h (getV h.vecs a) := rfl
theorem rNil_vn (h : HS) (e : Nat) (agg ifc : Bool) (size bytes : Nat) (zero : List ZC) (eq : Option (List LK)) (fag : List Bool) (a b : Nat) : rEqNil (some ⟨.slice e, agg, ifc, size, bytes, zero, eq, fag⟩) .neq (.vec a b) h = vNil (.bool false) (.bool true) b (nOf (getV h.vecs a)) h (getV h.vecs a) := rfl
theorem rNil_ce (h : HS) (e : Nat) (agg ifc : Bool) (size bytes : Nat) (zero : List ZC) (eq : Option (List LK)) (fag : List Bool) (a b c d n : Nat) (x : Bool) : rEqNil (some ⟨.slice e, agg, ifc, size, bytes, zero, eq, fag⟩) .eql (.vcut a b c d n x) h = vNil (.bool true) (.bool false) b n h (getV h.vecs a) := rfl
theorem rNil_cn (h : HS) (e : Nat) (agg ifc : Bool) (size bytes : Nat) (zero : List ZC) (eq : Option (List LK)) (fag : List Bool) (a b c d n : Nat) (x : Bool) : rEqNil (some ⟨.slice e, agg, ifc, size, bytes, zero, eq, fag⟩) .neq (.vcut a b c d n x) h = vNil (.bool false) (.bool true) b n h (getV h.vecs a) := rfl
def nilT2 (e : TypeId) : Option TI → Option (TypeId × Nat)
  | some te => if te.agg = true ∧ 2 ≤ te.size then some (e, te.size) else none
  | none => none
theorem nilT_s (T : Nat → Option TI) (e : Nat) (agg ifc : Bool) (size bytes : Nat) (zero : List ZC) (eq : Option (List LK)) (fag : List Bool) : nilT T (some ⟨.slice e, agg, ifc, size, bytes, zero, eq, fag⟩) = nilT2 e (T e) := rfl
theorem apCX_0 (e : TypeId) (te : TI) (id ver sz n : Nat) (h : HS) (v : Vc) (s : Option (Prop × Nat × Nat × (Nat → Nat → SV))) (x : Bool) : apCX e te id ver sz n h v s 0 x = apC e te id ver sz 0 n h v s := rfl
theorem apCX_f (e : TypeId) (te : TI) (id ver sz n : Nat) (h : HS) (v : Vc) (s : Option (Prop × Nat × Nat × (Nat → Nat → SV))) (lo : Nat) : apCX e te id ver sz n h v s lo false = apC e te id ver sz lo n h v s := by cases lo <;> rfl
attribute [go_sem] run.eq_1 run.eq_2 run.eq_3 run.eq_4 run.eq_5 run.eq_6 run.eq_7 run.eq_8 run.eq_9 run.eq_10 run.eq_11 run.eq_12 run.eq_13 run.eq_14 run.eq_15 run.eq_16 run.eq_17 run.eq_18 run.eq_19 run.eq_20 run.eq_21 leaveS.eq_2 leaveS.eq_3 condS.eq_1 exitS.eq_1 exitS.eq_2 retS.eq_1 retS.eq_2 popS.eq_1 popS.eq_3 endRS.eq_1 beginRS.eq_2 endRngS.eq_1 endRngS.eq_2 endRngS.eq_3 rngS.eq_1 rngGo.eq_2 roundS.eq_1 roundS.eq_2 specS.eq_1 specS.eq_2 inlS.eq_2 goS.eq_1 goS.eq_2 goS.eq_3 execS.eq_1 execS.eq_2 execS.eq_3 execS.eq_4 execS.eq_5 execS.eq_6 wantS.eq_1 wantS.eq_2 guardS.eq_1 guard1.eq_1 opS.eq_1 opS.eq_2 opS.eq_3 getO.eq_1 getO.eq_2 getO.eq_3 upto.eq_1 upto.eq_2 put.eq_1 put.eq_2 exitI.eq_1 exitI.eq_2 exitI.eq_3 exitI.eq_4 exitI.eq_5 exitI.eq_6 exitI.eq_7 exitI.eq_8 exitI.eq_9 rnd.eq_1 rnd.eq_2 rnd.eq_3 rnd.eq_4 rnd.eq_5 rnd.eq_6 rnd.eq_7 rnd.eq_8 rnd.eq_9 resL.eq_1 oneR.eq_1 outK.eq_1 outK.eq_2 panQ.eq_1 panQ.eq_2 stopQ.eq_1 stopQ.eq_2 resQ.eq_1 rBin2.eq_1 rBin2.eq_2 rBin2.eq_4 rBin2.eq_6 rBin2.eq_8 rBin.eq_1 rBin.eq_2 rBin.eq_3 rBin.eq_4 rBin.eq_5 rBin.eq_6 rBin.eq_7 rBin.eq_8 rBin.eq_9 rBin.eq_10 rBin.eq_11 rBin.eq_12 rEqA.eq_1 rEqA.eq_2 rEqB.eq_2 rEqI.eq_1 rEqI.eq_2 neO.eq_1 neO.eq_2 eqS.eq_1 eqS.eq_2 isConst.eq_1 ev.eq_1 ev.eq_2 ev.eq_3 ev.eq_4 svC.eq_1 svS.eq_1 svS.eq_2 svS.eq_3 svS.eq_4 svS.eq_5 svS.eq_6 svS.eq_7 svL.eq_1 svL.eq_2 nth.eq_1 nth.eq_2 nth.eq_3 upd.eq_1 upd.eq_2 upd.eq_3 takeN.eq_1 takeN.eq_2 takeN.eq_3 dropN.eq_1 dropN.eq_2 dropN.eq_3 over.eq_1 over.eq_2 ofCells.eq_1 rLoad.eq_2 nthO.eq_1 nthO.eq_2 nthO.eq_3 rUn.eq_1 rUn.eq_2 rMax.eq_1 rMin.eq_1 zeroS.eq_1 zeroS.eq_2 zeroS.eq_3 rAlloc.eq_1 zc1.eq_1 zc1.eq_2 zcs.eq_1 zcs.eq_2 fillS.eq_1 placeS.eq_1 placeA.eq_1 evP.eq_1 evP.eq_2 fin2.eq_1 fin2.eq_2 repZ.eq_1 repZ.eq_2 cellAt.eq_1 oneF.eq_1 fin3.eq_1 fin3.eq_2 rBuildSlice.eq_1 rIface.eq_1 rExtract.eq_1 zeroV.eq_1 rAssert.eq_1 evL.eq_1 evL.eq_2 catS.eq_1 catS.eq_2 pk.eq_1 pk.eq_2 rPick.eq_1 rNil.eq_1 rNil.eq_2 rNil.eq_3 rNil.eq_4 zipPut.eq_1 rCall.eq_1 rFunc.eq_1 rBuiltin.eq_2 rBuiltin.eq_3 rPanic.eq_1 evO.eq_1 evO.eq_2 rowSz.eq_1 cellsOf.eq_1 cellsOf.eq_2 cellsOf.eq_3 lenS.eq_1 lenS.eq_2 cellsF.eq_1 cellsF.eq_2 getB.eq_1 getB.eq_2 getB.eq_3 setB.eq_1 setB.eq_2 setB.eq_3 snocB.eq_1 snocB.eq_2 lenB.eq_1 lenB.eq_2 getV.eq_1 getV.eq_2 getV.eq_3 setV.eq_1 setV.eq_2 setV.eq_3 snocV.eq_1 snocV.eq_2 lenV.eq_1 lenV.eq_2 lookG.eq_1 lookG.eq_2 lookP.eq_1 lookP.eq_2 memN.eq_1 memN.eq_2 lendS.eq_1 frzA.eq_1 frzA.eq_2 frzV.eq_1 lookS.eq_1 lookS.eq_2 numb.eq_1 numb.eq_2 qGo.eq_1 qGo.eq_2 nestS.eq_2 lCall.eq_1 lCall.eq_2 lCall.eq_3 lGo.eq_1 lGo.eq_2 lGo.eq_3 goP.eq_1 goP.eq_2 gateW.eq_1 gateW.eq_2 gateG.eq_1 gate.eq_1 gate.eq_3 thenS.eq_1 planS.eq_1 planS.eq_2 planS.eq_3 planS.eq_4 drawS.eq_1 drawS.eq_2 reS1.eq_1 reS1.eq_2 reS1.eq_3 reW.eq_1 reW.eq_2 reG.eq_1 reO.eq_1 reO.eq_3 reA.eq_1 reA.eq_2 keepN.eq_1 keepN.eq_2 subX.eq_1 subX.eq_2 subBk.eq_1 subBk.eq_2 subB.eq_1 subB.eq_2 subB.eq_3 subVk.eq_1 subVk.eq_2 subVk.eq_3 subV.eq_1 subV.eq_2 subV.eq_3 subAs.eq_1 subAs.eq_2 bdAs.eq_1 bdAs.eq_2 bdB.eq_1 bdB.eq_2 bdB.eq_3 bdB.eq_4 bdV.eq_1 bdV.eq_2 bdV.eq_3 Bd.eq_1 Bd.eq_2 Bd.eq_3 Bd.eq_4 Bd.eq_5 Bd.eq_6 Bd.eq_7 Bd.eq_8 Bd.eq_9 Bd.eq_10 Bd.eq_11 Bd.eq_12 Bd.eq_13 Bd.eq_14 Bd.eq_15 Bd.eq_16 Bd.eq_17 BdL.eq_1 BdL.eq_2 slots.eq_1 slots.eq_2 slots.eq_3 resK.eq_1 resK.eq_4 dfrQ.eq_1 dfrOp.eq_1 dfrGo.eq_1 endQ.eq_1 resultQ.eq_2 rcvQ.eq_1 rcvOp.eq_1 rcvEnd.eq_1 gotS.eq_1 gotS.eq_2 noInv.eq_1 noInv.eq_2 noInv.eq_3 noInv.eq_4 noInv.eq_5 noInv.eq_6 noInv.eq_7 noInv.eq_8 noInv.eq_9 updF.eq_1 Sc.eq_1 Sc.eq_2 Sc.eq_3 Sc.eq_4 Sc.eq_5 Sc.eq_6 Sc.eq_7 ScL.eq_1 ScL.eq_2 run.eq_22 run.eq_23 run.eq_24 rnd.eq_10 rnd.eq_11 exitI.eq_10 exitI.eq_11 noInv.eq_10 noInv.eq_11 bdB2.eq_1 bdB2.eq_2 bdB2.eq_3 bdB2.eq_4 bdB2.eq_5 itB.eq_1 itB.eq_2 lenI.eq_1 execS.eq_9 lGo.eq_5 cx_rs cxn_rs rRange_l rRangeM_l rNext_l rNextI_l rNextM_l rEntry_l rEntI_l rEntM_l opRes_range opRes_next opRes_entry oRange.eq_1 apCX.eq_1 apCX_0 apCX_f apX.eq_1 argsN.eq_1 argsN.eq_2 evA.eq_1 evA.eq_2 evA.eq_3 ev1.eq_1 ev1.eq_2 nilA.eq_1 nilA.eq_2 nilT_s nthM.eq_2 nthM.eq_3 entS.eq_1 rNil_ve rNil_vn rNil_ce rNil_cn vNil.eq_1 nOf.eq_1 guardS.eq_2 gateG.eq_2 reG.eq_2 subL.eq_1 subL.eq_2 leaveS.eq_1 popS.eq_2 popR.eq_1 beginRS.eq_1 rngGo.eq_1 inlS.eq_1 resL.eq_2 resL.eq_3 resQ.eq_2 rEqB.eq_1 eqS.eq_3 rStore.eq_1 rField.eq_1 rBox.eq_1 fillS.eq_2 rAppend.eq_1 rCall.eq_2 rCall.eq_3 rFunc.eq_2 Bd.eq_18 Bd.eq_19 Bd.eq_20 Bd.eq_21 Bd_nthT ivf_lit bvf_lit boolR_lit rBuiltin.eq_1 nestS.eq_1 gate.eq_2 reO.eq_2 resK.eq_2 resK.eq_3 resultQ.eq_1 nth_setL upd_setL cx_P cx_T cx_F cx_FN cx_inl cx_G cx_plan cx_D cx_off if_true if_false eq_self decide_true decide_false Bool.true_and Bool.and_true Bool.false_and Bool.and_false Bool.or_false Bool.false_or Bool.or_true Bool.true_or Bool.not_true Bool.not_false true_and and_true and_self Int.toNat_natCast Nat.zero_add Option.isNone_none Option.isSome_some List.toList_toArray List.length_cons List.length_nil List.append_nil List.cons_append List.nil_append opRes_move opRes_assign opRes_pick opRes_alloc opRes_box opRes_build opRes_buildSlice opRes_load opRes_store opRes_nilCheck opRes_binOp opRes_unOp opRes_convert opRes_makeInterface opRes_makeFunc opRes_slice opRes_makeSlice opRes_fieldAddr opRes_indexAddr opRes_typeAssert opRes_extract opRes_call opRes_callB opRes_panic opRes_defer opRes_makeMap opRes_lookup opRes_mapUpdate opRes_insert opRes_field opRes_index oSliceA.eq_1 oIdxA.eq_1 oCopy2.eq_1 slA.eq_1 oAlloc.eq_1 oBuildA.eq_1 oBuildSl.eq_1 oBuildSl2.eq_1 oLoad.eq_1 oStore.eq_1 oConv.eq_1 oIface.eq_1 oSlice2.eq_1 oMake2.eq_1 oField.eq_1 oIndex2.eq_1 oAssert.eq_1 mMk_m mLk_m mUp_m rLookup_m rUpdate_m keyKs_i keyKs_a rFld_s fldO_s rLen_m mLen.eq_1 mMk2.eq_1 mLk2.eq_1 mUp2.eq_1 mFd.eq_1 rLookB.eq_1 rUpdB.eq_1 rMakeMap.eq_1 mkMp.eq_1 gLook.eq_1 gLook.eq_2 gt.eq_2 gt.eq_3 gt.eq_1 svN.eq_1 svN.eq_2 svsN.eq_1 svsN.eq_2 valS.eq_1 b2i.eq_1 numK.eq_1 numK.eq_2 numK.eq_3 numV.eq_1 numV.eq_2 isI.eq_1 isI.eq_2 valKs.eq_1 valKs.eq_2 valKs.eq_3 gtB.eq_1 gtB.eq_2 gtB.eq_3 oBuild_a oBuild_s rBuild_a rBuild_s oSlice_s oSlice_a oIdx_a rSlA_p rIdx_a rBuiltin_copy oCopy_s cxn_P cxn_T cxn_F cxn_FN cxn_inl cxn_G cxn_plan cxn_D cxn_off mapN.eq_1 mapN.eq_2 bareS.eq_1 bareR.eq_1 retN frzT_tup frzT_agg frzT_vec frzT_row frzT_int frzT_bool rCopy.eq_1 rCopy.eq_2 cpyB.eq_1 cpyV.eq_1 rBuiltin.eq_5 cpB.eq_1 cpB.eq_2 rNil_be rNil_bn rBoxO_s rBoxO_n ownN_c dnl1_c renS.eq_19 renS.eq_20 renS.eq_21 renS.eq_22 Bd.eq_22 rBoxB.eq_1 rBoxB.eq_2 ownM.eq_1 ownM.eq_2 ownN.eq_1 dnlM.eq_1 dnlM.eq_2 hasSl.eq_1 hasSl.eq_2 hasSl.eq_3 rStoreO.eq_1 rStoreO.eq_2 apN.eq_1 srcOf.eq_5 rAppend.eq_3 isN_any ownC_any ownS_any dnl_any isN_int ownC_int ownS_int dnl_int isN_bool ownC_bool ownS_bool dnl_bool isN_str ownC_str ownS_str dnl_str isN_ptr ownC_ptr ownS_ptr dnl_ptr isN_nilp ownC_nilp ownS_nilp dnl_nilp isN_nils ownS_nils dnl_nils isN_rptr ownC_rptr ownS_rptr dnl_rptr isN_row ownC_row ownS_row dnl_row isN_vec ownC_vec ownS_vec dnl_vec isN_vptr ownC_vptr ownS_vptr dnl_vptr isN_func ownC_func ownS_func dnl_func isN_nilf ownC_nilf ownS_nilf dnl_nilf isN_iface ownC_iface ownS_iface dnl_iface isN_nili ownC_nili ownS_nili dnl_nili isN_agg ownS_agg isN_tup ownC_tup ownS_tup dnl_tup isN_yield ownC_yield ownS_yield dnl_yield isN_meth ownC_meth ownS_meth dnl_meth isN_vcut ownC_vcut dnl_vcut isN_bsl ownC_bsl ownS_bsl dnl_bsl isN_mapp ownC_mapp ownS_mapp dnl_mapp ownS_vcut rebV.eq_1 ownC_agg ownC_nils dnl_agg frzF_nils rLen_nils rNil_ne rNil_nn oMake_s rMake.eq_1 rSl.eq_1 rSl.eq_2 rSl.eq_3 rSlR.eq_1 rSlG.eq_1 hiOk.eq_1 hiOk.eq_2 rSliceV.eq_1 rSliceV.eq_2 sliV.eq_1 sliC.eq_1 cutR.eq_1 intO.eq_1 intO.eq_2 maxO.eq_1 maxO.eq_2 srcOf.eq_1 srcOf.eq_2 srcOf.eq_3 srcOf.eq_4 srcV.eq_1 srcC.eq_1 srcB.eq_1 apV.eq_1 apC.eq_1 rAppend.eq_2 rClear.eq_1 rClear.eq_2 clrV.eq_1 clrW.eq_1 sliC_t sliC_f cIndex.eq_1 rIndex_c rIndex_b rLen_c rLen_b oIndex_s oIndex_a rIndex_r vIndex.eq_1 renS.eq_1 renS.eq_2 renS.eq_3 renS.eq_4 renS.eq_5 renS.eq_6 renS.eq_7 renS.eq_8 renS.eq_9 renS.eq_10 renS.eq_11 renS.eq_12 renS.eq_13 renS.eq_14 renS.eq_15 renS.eq_16 renS.eq_17 renS.eq_18 renL.eq_1 renL.eq_2 renK.eq_1 renK.eq_2 renK.eq_3 renK.eq_4 renC.eq_1 renC.eq_2 renO.eq_1 renO.eq_2 nmN.eq_2 nmN.eq_3 matB.eq_1 matV.eq_1 matB.eq_2 matV.eq_2 bdO.eq_1 bdO.eq_2 putB_c putV_c putB_n putV_n rIndex_v rIndex_a rLen_r vLen.eq_1 rLen_v rConv_i rSlice_a rSlice_b rSlice_c bMv2.eq_1 bMv.eq_1 rMove_nil rMove_tmp rMove_func rMove_int svC_int rMove_bool svC_bool rMove_string svC_string rMove_nilf svC_nilf rMove_nili svC_nili rMove_nilp svC_nilp svC_nils rMove_agg isConst_tmp isConst_func frzF_any Fl1_any Fl_any OwnL_any takeL_any OwnT_any IsVec_any fz0_any fz1_any FzT_any cellsOf_int frzF_int Fl1_int Fl_int OwnL_int takeL_int OwnT_int IsVec_int fz0_int fz1_int FzT_int subX_int cellsOf_bool frzF_bool Fl1_bool Fl_bool OwnL_bool takeL_bool OwnT_bool IsVec_bool fz0_bool fz1_bool FzT_bool subX_bool cellsOf_str frzF_str Fl1_str Fl_str OwnL_str takeL_str OwnT_str IsVec_str fz0_str fz1_str FzT_str subX_str cellsOf_ptr Fl1_ptr Fl_ptr OwnL_ptr takeL_ptr OwnT_ptr IsVec_ptr fz0_ptr fz1_ptr FzT_ptr subX_ptr cellsOf_nilp frzF_nilp Fl1_nilp Fl_nilp OwnL_nilp takeL_nilp OwnT_nilp IsVec_nilp fz0_nilp fz1_nilp FzT_nilp subX_nilp cellsOf_nils Fl1_nils Fl_nils OwnL_nils takeL_nils OwnT_nils IsVec_nils fz0_nils fz1_nils FzT_nils subX_nils cellsOf_rptr frzF_rptr Fl1_rptr Fl_rptr OwnL_rptr takeL_rptr OwnT_rptr IsVec_rptr fz0_rptr fz1_rptr FzT_rptr subX_rptr cellsOf_row frzF_row Fl1_row Fl_row fz1_row FzT_row cellsOf_vec Fl1_vec Fl_vec OwnL_vec takeL_vec OwnT_vec fz0_vec fz1_vec FzT_vec subX_vec cellsOf_vptr frzF_vptr Fl1_vptr Fl_vptr OwnL_vptr takeL_vptr OwnT_vptr IsVec_vptr fz0_vptr fz1_vptr FzT_vptr subX_vptr cellsOf_func frzF_func Fl1_func Fl_func OwnL_func takeL_func OwnT_func IsVec_func fz0_func fz1_func FzT_func subX_func cellsOf_nilf frzF_nilf Fl1_nilf Fl_nilf OwnL_nilf takeL_nilf OwnT_nilf IsVec_nilf fz0_nilf fz1_nilf FzT_nilf subX_nilf cellsOf_iface frzF_iface Fl1_iface Fl_iface OwnL_iface takeL_iface OwnT_iface IsVec_iface fz0_iface fz1_iface FzT_iface subX_iface cellsOf_nili frzF_nili Fl1_nili Fl_nili OwnL_nili takeL_nili OwnT_nili IsVec_nili fz0_nili fz1_nili FzT_nili subX_nili Fl_agg OwnL_agg takeL_agg OwnT_agg IsVec_agg fz0_agg FzT_agg subX_agg frzF_tup OwnL_tup takeL_tup IsVec_tup fz0_tup fz1_tup subX_tup cellsOf_yield frzF_yield Fl1_yield Fl_yield OwnL_yield takeL_yield OwnT_yield IsVec_yield fz0_yield fz1_yield FzT_yield subX_yield cellsOf_meth frzF_meth Fl1_meth Fl_meth OwnL_meth takeL_meth OwnT_meth IsVec_meth fz0_meth fz1_meth FzT_meth subX_meth cellsOf_vcut Fl1_vcut Fl_vcut OwnL_vcut takeL_vcut OwnT_vcut IsVec_vcut fz0_vcut fz1_vcut FzT_vcut subX_vcut cellsOf_bsl frzF_bsl Fl1_bsl Fl_bsl OwnL_bsl takeL_bsl OwnT_bsl IsVec_bsl fz0_bsl fz1_bsl FzT_bsl subX_bsl cellsOf_mapp frzF_mapp Fl1_mapp Fl_mapp OwnL_mapp takeL_mapp OwnT_mapp IsVec_mapp fz0_mapp fz1_mapp FzT_mapp subX_mapp subBk_mp bdB.eq_5 dfrQ.eq_2 subBk_loop wantS_tf gateW_tf reW_tf wantS_ft gateW_ft reW_ft oneR_0 oneR_2 zipPut_0 zipPut_1 rBS_s rLoad_ptr rLoad_vptr bLoad.eq_1 vLoad.eq_1 frzF_vec frzF_ptr frzF_vcut frzC.eq_1 frzF_agg Fl1_agg Fl_tup fz0_row fz1_agg FzT_tup OwnT_tup OwnL_row IsVec_vec takeL_row takeT_row takeT_tup VcIs.eq_1 mapF.eq_1 mapF.eq_2 frzB.eq_1 lendR.eq_1 lendO.eq_1 lendRO.eq_1 quietR.eq_1 aGo.eq_1 lookO.eq_1 lookO.eq_2 FlL.eq_1 FlL.eq_2 retQ retO retF retP VcR.eq_1 CutR.eq_1 RowIs.eq_1 RowIs.eq_2 fzL.eq_1 fzL.eq_2 fzA.eq_1 fz1L.eq_1 fz1L.eq_2 fzU.eq_1 frzF_ite skipAnd.eq_1 mapS_1 mapS_2 mapS_3 rStN_f oStN.eq_1 rStN_t rNil_e rNil_n rEqF_f rBin2_func rBin2_meth rBin2_nilf rBin3.eq_1 rBin3.eq_2 execS.eq_7 execS.eq_8 putLast.eq_1 putLast.eq_2 putLast.eq_3 rCallN_0 rCallN_1 lastN_nil lastN_1 lastN_2 nilE_1 nilE1_f nilE1_t nilE2_s nilE3.eq_1 nilE3_oth nilE3_int nilE3_boo nilE3_fun nilE3_str nilE3_arr nilE3_map isNil_tmp isNil_func isNil_nil isNil_int isNil_bool isNil_string isNil_nilf isNil_nili isNil_nilp isNil_agg intR_lit intK_lit rBuiltin_min rMin_i rBuiltin_rec rowSz_vec iv_int nilT2.eq_1
attribute [go_sem ↓] cat_setL spl_true spl_false
end Go.Eng
end

/- Rows of which each cell is told. -/
section
namespace Go.Eng
def allI : List SV → Bool
  | [] => true
  | .int .i64 _ :: l => allI l
  | _ => false
theorem allI_nth : ∀ {l : List SV}, allI l = true → ∀ i, i < l.length → nth l i = .int .i64 (iv (nth l i))
  | [], _, i, h => by simp at h
  | x :: l, ha, i, h => by
    cases x <;> try (simp [allI] at ha; done)
    rename_i k n
    cases k <;> try (simp [allI] at ha; done)
    cases i with
    | zero => rfl
    | succ i => exact allI_nth (l := l) (by simpa [allI] using ha) i (by simpa using h)
theorem intR_cells {n sz : Nat} {l : List SV} (ha : allI l = true) (hl : n * sz = l.length) : IntR n sz (cellAt l sz) := fun i j hi hj => by
  have := idx_lt hi hj
  exact allI_nth ha _ (by omega)
theorem intR_one {sz : Nat} {l : List SV} (ha : allI l = true) (hl : sz = l.length) : IntR 1 sz (oneF l) := fun i j hi hj => by
  exact allI_nth ha j (by omega)
end Go.Eng
end
