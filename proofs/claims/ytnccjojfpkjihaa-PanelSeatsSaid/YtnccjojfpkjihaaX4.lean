/-
  A part of the symbolic machine, of its soundness, and of what functions compute. No condition.
-/
import Derived.Test.YtnccjojfpkjihaaProg
import Derived.KernelRfl
import Derived.Attr
import Derived.Test.YtnccjojfpkjihaaX3
set_option linter.unusedSimpArgs false
set_option linter.unusedVariables false
/- The seat's tables. -/
section
namespace Go.Eng
open Go Go.Proofs
set_option maxRecDepth 100000
def tabL : List (Nat × TI) := [
  (1, ⟨.func, false, false, 1, 8, [.c .nilf], none, []⟩),
  (2, ⟨.int .i64, false, false, 1, 8, [.c (.int .i64 0)], none, []⟩),
  (3, ⟨.int .i64, false, false, 1, 8, [.c (.int .i64 0)], none, []⟩),
  (4, ⟨.bool, false, false, 1, 1, [.c (.bool false)], none, []⟩),
  (5, ⟨.int .u8, false, false, 1, 1, [.c (.int .u8 0)], none, []⟩),
  (6, ⟨.int .u8, false, false, 1, 1, [.c (.int .u8 0)], none, []⟩),
  (7, ⟨.struct [(0, 1), (1, 1), (2, 1), (3, 1)], true, false, 4, 24, [.c (.int .i64 0), .c (.int .i64 0), .c (.bool false), .c (.int .u8 0)], some [.i, .i, .b, .i], [false, false, false, false]⟩),
  (8, ⟨.struct [(0, 1), (1, 1), (2, 1), (3, 1)], true, false, 4, 24, [.c (.int .i64 0), .c (.int .i64 0), .c (.bool false), .c (.int .u8 0)], some [.i, .i, .b, .i], [false, false, false, false]⟩),
  (9, ⟨.other, false, false, 1, 16, [.c (.str ⟨#[]⟩)], none, []⟩),
  (10, ⟨.other, false, false, 1, 16, [.c (.str ⟨#[]⟩)], none, []⟩),
  (11, ⟨.other, false, false, 1, 16, [.c (.str ⟨#[]⟩)], none, []⟩),
  (12, ⟨.int .u64, false, false, 1, 8, [.c (.int .u64 0)], none, []⟩),
  (13, ⟨.struct [(0, 1), (1, 1)], true, false, 2, 24, [.c (.str ⟨#[]⟩), .c (.int .u64 0)], none, [false, false]⟩),
  (14, ⟨.struct [(0, 1), (1, 1)], true, false, 2, 24, [.c (.str ⟨#[]⟩), .c (.int .u64 0)], none, [false, false]⟩),
  (15, ⟨.other, false, false, 1, 8, [.c .nilp], none, []⟩),
  (16, ⟨.other, false, false, 1, 8, [.c .nilp], none, []⟩),
  (17, ⟨.other, false, false, 1, 8, [.c .nilp], none, []⟩),
  (18, ⟨.struct [(0, 1)], true, false, 1, 8, [.c .nilp], none, [false]⟩),
  (19, ⟨.struct [(0, 1)], true, false, 1, 8, [.c .nilp], none, [false]⟩),
  (20, ⟨.other, false, true, 1, 16, [.c .nili], none, []⟩),
  (21, ⟨.int .i32, false, false, 1, 4, [.c (.int .i32 0)], none, []⟩),
  (22, ⟨.slice 51, false, false, 1, 24, [.sl 51 3], none, []⟩),
  (23, ⟨.slice 48, false, false, 1, 24, [.sl 48 3], none, []⟩),
  (24, ⟨.struct [(0, 1), (1, 1)], true, false, 2, 48, [.sl 51 3, .sl 48 3], none, [false, false]⟩),
  (25, ⟨.struct [(0, 1), (1, 1)], true, false, 2, 48, [.sl 51 3, .sl 48 3], none, [false, false]⟩),
  (26, ⟨.slice 37, false, false, 1, 24, [.sl 37 1], none, []⟩),
  (27, ⟨.func, false, false, 1, 8, [.c .nilf], none, []⟩),
  (28, ⟨.func, false, false, 1, 8, [.c .nilf], none, []⟩),
  (29, ⟨.func, false, false, 1, 8, [.c .nilf], none, []⟩),
  (30, ⟨.int .i64, false, false, 1, 8, [.c (.int .i64 0)], none, []⟩),
  (32, ⟨.func, false, false, 1, 8, [.c .nilf], none, []⟩),
  (34, ⟨.func, false, false, 1, 8, [.c .nilf], none, []⟩),
  (35, ⟨.func, false, false, 1, 8, [.c .nilf], none, []⟩),
  (36, ⟨.func, false, false, 1, 8, [.c .nilf], none, []⟩),
  (37, ⟨.slice 3, false, false, 1, 24, [.sl 3 1], none, []⟩),
  (38, ⟨.slice 65, false, false, 1, 24, [.sl 65 2], none, []⟩),
  (39, ⟨.func, false, false, 1, 8, [.c .nilf], none, []⟩),
  (41, ⟨.func, false, false, 1, 8, [.c .nilf], none, []⟩),
  (43, ⟨.func, false, false, 1, 8, [.c .nilf], none, []⟩),
  (44, ⟨.func, false, false, 1, 8, [.c .nilf], none, []⟩),
  (45, ⟨.func, false, false, 1, 8, [.c .nilf], none, []⟩),
  (46, ⟨.slice 5, false, false, 1, 24, [.sl 5 1], none, []⟩),
  (47, ⟨.struct [(0, 1), (1, 1), (2, 1)], true, false, 3, 40, [.sl 3 1, .c (.int .i64 0), .c (.int .i64 0)], none, [false, false, false]⟩),
  (48, ⟨.struct [(0, 1), (1, 1), (2, 1)], true, false, 3, 40, [.sl 3 1, .c (.int .i64 0), .c (.int .i64 0)], none, [false, false, false]⟩),
  (49, ⟨.func, false, false, 1, 8, [.c .nilf], none, []⟩),
  (50, ⟨.struct [(0, 1), (1, 1), (2, 1)], true, false, 3, 24, [.c (.int .i64 0), .c (.int .i64 0), .c (.int .i64 0)], some [.i, .i, .i], [false, false, false]⟩),
  (51, ⟨.struct [(0, 1), (1, 1), (2, 1)], true, false, 3, 24, [.c (.int .i64 0), .c (.int .i64 0), .c (.int .i64 0)], some [.i, .i, .i], [false, false, false]⟩),
  (52, ⟨.func, false, false, 1, 8, [.c .nilf], none, []⟩),
  (53, ⟨.struct [(0, 1), (1, 1), (2, 1)], true, false, 3, 72, [.sl 3 1, .sl 3 1, .sl 37 1], none, [false, false, false]⟩),
  (54, ⟨.struct [(0, 1), (1, 1), (2, 1)], true, false, 3, 72, [.sl 3 1, .sl 3 1, .sl 37 1], none, [false, false, false]⟩),
  (55, ⟨.int .u16, false, false, 1, 2, [.c (.int .u16 0)], none, []⟩),
  (56, ⟨.struct [(0, 1), (1, 1)], true, false, 2, 16, [.c (.int .i64 0), .c (.int .i64 0)], some [.i, .i], [false, false]⟩),
  (57, ⟨.struct [(0, 1), (1, 1)], true, false, 2, 16, [.c (.int .i64 0), .c (.int .i64 0)], some [.i, .i], [false, false]⟩),
  (59, ⟨.func, false, false, 1, 8, [.c .nilf], none, []⟩),
  (60, ⟨.func, false, false, 1, 8, [.c .nilf], none, []⟩),
  (62, ⟨.func, false, false, 1, 8, [.c .nilf], none, []⟩),
  (63, ⟨.func, false, false, 1, 8, [.c .nilf], none, []⟩),
  (64, ⟨.struct [(0, 1), (1, 1)], true, false, 2, 32, [.c (.int .i64 0), .sl 3 1], none, [false, false]⟩),
  (65, ⟨.struct [(0, 1), (1, 1)], true, false, 2, 32, [.c (.int .i64 0), .sl 3 1], none, [false, false]⟩),
  (66, ⟨.func, false, false, 1, 8, [.c .nilf], none, []⟩),
  (68, ⟨.func, false, false, 1, 8, [.c .nilf], none, []⟩),
  (69, ⟨.func, false, false, 1, 8, [.c .nilf], none, []⟩),
  (70, ⟨.func, false, false, 1, 8, [.c .nilf], none, []⟩),
  (72, ⟨.func, false, false, 1, 8, [.c .nilf], none, []⟩),
  (73, ⟨.other, false, false, 1, 8, [.c .nilp], none, []⟩),
  (74, ⟨.other, false, false, 1, 8, [.c .nilp], none, []⟩),
  (75, ⟨.array 8 3, true, false, 8, 64, [.c (.int .i64 0), .c (.int .i64 0), .c (.int .i64 0), .c (.int .i64 0), .c (.int .i64 0), .c (.int .i64 0), .c (.int .i64 0), .c (.int .i64 0)], some [.i, .i, .i, .i, .i, .i, .i, .i], []⟩),
  (76, ⟨.array 8 3, true, false, 8, 64, [.c (.int .i64 0), .c (.int .i64 0), .c (.int .i64 0), .c (.int .i64 0), .c (.int .i64 0), .c (.int .i64 0), .c (.int .i64 0), .c (.int .i64 0)], some [.i, .i, .i, .i, .i, .i, .i, .i], []⟩),
  (77, ⟨.struct [(0, 1), (1, 8)], true, false, 9, 72, [.c .nilp, .c (.int .i64 0), .c (.int .i64 0), .c (.int .i64 0), .c (.int .i64 0), .c (.int .i64 0), .c (.int .i64 0), .c (.int .i64 0), .c (.int .i64 0)], none, [false, true]⟩),
  (78, ⟨.struct [(0, 1), (1, 8)], true, false, 9, 72, [.c .nilp, .c (.int .i64 0), .c (.int .i64 0), .c (.int .i64 0), .c (.int .i64 0), .c (.int .i64 0), .c (.int .i64 0), .c (.int .i64 0), .c (.int .i64 0)], none, [false, true]⟩),
  (79, ⟨.func, false, false, 1, 8, [.c .nilf], none, []⟩),
  (80, ⟨.func, false, false, 1, 8, [.c .nilf], none, []⟩),
  (81, ⟨.func, false, false, 1, 8, [.c .nilf], none, []⟩),
  (82, ⟨.func, false, false, 1, 8, [.c .nilf], none, []⟩),
  (83, ⟨.func, false, false, 1, 8, [.c .nilf], none, []⟩),
  (84, ⟨.func, false, false, 1, 8, [.c .nilf], none, []⟩),
  (86, ⟨.func, false, false, 1, 8, [.c .nilf], none, []⟩),
  (87, ⟨.func, false, false, 1, 8, [.c .nilf], none, []⟩),
  (88, ⟨.func, false, false, 1, 8, [.c .nilf], none, []⟩),
  (89, ⟨.func, false, false, 1, 8, [.c .nilf], none, []⟩),
  (90, ⟨.func, false, false, 1, 8, [.c .nilf], none, []⟩),
  (91, ⟨.func, false, false, 1, 8, [.c .nilf], none, []⟩),
  (93, ⟨.func, false, false, 1, 8, [.c .nilf], none, []⟩),
  (94, ⟨.func, false, false, 1, 8, [.c .nilf], none, []⟩),
  (95, ⟨.array 64 4, true, false, 64, 64, [.c (.bool false), .c (.bool false), .c (.bool false), .c (.bool false), .c (.bool false), .c (.bool false), .c (.bool false), .c (.bool false), .c (.bool false), .c (.bool false), .c (.bool false), .c (.bool false), .c (.bool false), .c (.bool false), .c (.bool false), .c (.bool false), .c (.bool false), .c (.bool false), .c (.bool false), .c (.bool false), .c (.bool false), .c (.bool false), .c (.bool false), .c (.bool false), .c (.bool false), .c (.bool false), .c (.bool false), .c (.bool false), .c (.bool false), .c (.bool false), .c (.bool false), .c (.bool false), .c (.bool false), .c (.bool false), .c (.bool false), .c (.bool false), .c (.bool false), .c (.bool false), .c (.bool false), .c (.bool false), .c (.bool false), .c (.bool false), .c (.bool false), .c (.bool false), .c (.bool false), .c (.bool false), .c (.bool false), .c (.bool false), .c (.bool false), .c (.bool false), .c (.bool false), .c (.bool false), .c (.bool false), .c (.bool false), .c (.bool false), .c (.bool false), .c (.bool false), .c (.bool false), .c (.bool false), .c (.bool false), .c (.bool false), .c (.bool false), .c (.bool false), .c (.bool false)], some [.b, .b, .b, .b, .b, .b, .b, .b, .b, .b, .b, .b, .b, .b, .b, .b, .b, .b, .b, .b, .b, .b, .b, .b, .b, .b, .b, .b, .b, .b, .b, .b, .b, .b, .b, .b, .b, .b, .b, .b, .b, .b, .b, .b, .b, .b, .b, .b, .b, .b, .b, .b, .b, .b, .b, .b, .b, .b, .b, .b, .b, .b, .b, .b], []⟩),
  (96, ⟨.func, false, false, 1, 8, [.c .nilf], none, []⟩),
  (97, ⟨.struct [(0, 1), (1, 1)], true, false, 2, 16, [.c (.int .i64 0), .c (.int .i64 0)], some [.i, .i], [false, false]⟩),
  (99, ⟨.func, false, false, 1, 8, [.c .nilf], none, []⟩),
  (100, ⟨.other, false, false, 1, 8, [.c .nilp], none, []⟩),
  (102, ⟨.func, false, false, 1, 8, [.c .nilf], none, []⟩),
  (103, ⟨.func, false, false, 1, 8, [.c .nilf], none, []⟩),
  (104, ⟨.func, false, false, 1, 8, [.c .nilf], none, []⟩),
  (105, ⟨.func, false, false, 1, 8, [.c .nilf], none, []⟩),
  (106, ⟨.func, false, false, 1, 8, [.c .nilf], none, []⟩),
  (107, ⟨.func, false, false, 1, 8, [.c .nilf], none, []⟩),
  (108, ⟨.map 3 4, false, false, 1, 8, [.c .any], none, []⟩),
  (109, ⟨.func, false, false, 1, 8, [.c .nilf], none, []⟩),
  (110, ⟨.func, false, false, 1, 8, [.c .nilf], none, []⟩),
  (111, ⟨.func, false, false, 1, 8, [.c .nilf], none, []⟩),
  (112, ⟨.func, false, false, 1, 8, [.c .nilf], none, []⟩),
  (113, ⟨.map 3 3, false, false, 1, 8, [.c .any], none, []⟩),
  (114, ⟨.struct [(0, 1), (1, 1)], true, false, 2, 16, [.c (.int .i64 0), .c (.int .i64 0)], some [.i, .i], [false, false]⟩),
  (115, ⟨.struct [(0, 1), (1, 1)], true, false, 2, 16, [.c (.int .i64 0), .c (.int .i64 0)], some [.i, .i], [false, false]⟩),
  (116, ⟨.other, false, false, 1, 8, [.c .nilp], none, []⟩),
  (117, ⟨.func, false, false, 1, 8, [.c .nilf], none, []⟩),
  (118, ⟨.func, false, false, 1, 8, [.c .nilf], none, []⟩),
  (119, ⟨.func, false, false, 1, 8, [.c .nilf], none, []⟩),
  (120, ⟨.func, false, false, 1, 8, [.c .nilf], none, []⟩),
  (121, ⟨.func, false, false, 1, 8, [.c .nilf], none, []⟩),
  (122, ⟨.func, false, false, 1, 8, [.c .nilf], none, []⟩),
  (123, ⟨.func, false, false, 1, 8, [.c .nilf], none, []⟩),
  (124, ⟨.func, false, false, 1, 8, [.c .nilf], none, []⟩),
  (125, ⟨.func, false, false, 1, 8, [.c .nilf], none, []⟩),
  (126, ⟨.func, false, false, 1, 8, [.c .nilf], none, []⟩),
  (127, ⟨.struct [(0, 1), (1, 1), (2, 1), (3, 1)], true, false, 4, 40, [.c .nilp, .c .nilp, .c .nilp, .c (.str ⟨#[]⟩)], none, [false, false, false, false]⟩),
  (128, ⟨.struct [(0, 1), (1, 1), (2, 1), (3, 1)], true, false, 4, 40, [.c .nilp, .c .nilp, .c .nilp, .c (.str ⟨#[]⟩)], none, [false, false, false, false]⟩),
  (129, ⟨.array 0 16, true, false, 0, 0, [], none, []⟩),
  (132, ⟨.func, false, false, 1, 8, [.c .nilf], none, []⟩),
  (133, ⟨.int .u32, false, false, 1, 4, [.c (.int .u32 0)], none, []⟩),
  (134, ⟨.int .u8, false, false, 1, 1, [.c (.int .u8 0)], none, []⟩),
  (135, ⟨.int .u8, false, false, 1, 1, [.c (.int .u8 0)], none, []⟩),
  (136, ⟨.func, false, false, 1, 8, [.c .nilf], none, []⟩),
  (137, ⟨.other, false, false, 1, 8, [.c .nilp], none, []⟩),
  (138, ⟨.int .i32, false, false, 1, 4, [.c (.int .i32 0)], none, []⟩),
  (139, ⟨.int .i32, false, false, 1, 4, [.c (.int .i32 0)], none, []⟩),
  (140, ⟨.struct [(0, 1), (1, 1), (2, 1), (3, 1), (4, 1), (5, 1), (6, 1), (7, 1), (8, 1), (9, 1), (10, 1)], true, false, 11, 48, [.c (.int .u64 0), .c (.int .u64 0), .c (.int .u32 0), .c (.int .u8 0), .c (.int .u8 0), .c (.int .u8 0), .c (.int .u8 0), .c .nilf, .c .nilp, .c (.int .i32 0), .c (.int .i32 0)], none, [false, false, false, false, false, false, false, false, false, false, false]⟩),
  (141, ⟨.struct [(0, 1), (1, 1), (2, 1), (3, 1), (4, 1), (5, 1), (6, 1), (7, 1), (8, 1), (9, 1), (10, 1)], true, false, 11, 48, [.c (.int .u64 0), .c (.int .u64 0), .c (.int .u32 0), .c (.int .u8 0), .c (.int .u8 0), .c (.int .u8 0), .c (.int .u8 0), .c .nilf, .c .nilp, .c (.int .i32 0), .c (.int .i32 0)], none, [false, false, false, false, false, false, false, false, false, false, false]⟩),
  (142, ⟨.other, false, false, 1, 8, [.c .nilp], none, []⟩)]
def tab : Nat → Option TI := lookT tabL
theorem tab_chk : (tabL.all fun x => chk Try.prog x.1 x.2) = true := by kernel_rfl
theorem tab_1 : tab 1 = some ⟨.func, false, false, 1, 8, [.c .nilf], none, []⟩ := rfl
theorem tab_2 : tab 2 = some ⟨.int .i64, false, false, 1, 8, [.c (.int .i64 0)], none, []⟩ := rfl
theorem tab_3 : tab 3 = some ⟨.int .i64, false, false, 1, 8, [.c (.int .i64 0)], none, []⟩ := rfl
theorem tab_4 : tab 4 = some ⟨.bool, false, false, 1, 1, [.c (.bool false)], none, []⟩ := rfl
theorem tab_5 : tab 5 = some ⟨.int .u8, false, false, 1, 1, [.c (.int .u8 0)], none, []⟩ := rfl
theorem tab_6 : tab 6 = some ⟨.int .u8, false, false, 1, 1, [.c (.int .u8 0)], none, []⟩ := rfl
theorem tab_7 : tab 7 = some ⟨.struct [(0, 1), (1, 1), (2, 1), (3, 1)], true, false, 4, 24, [.c (.int .i64 0), .c (.int .i64 0), .c (.bool false), .c (.int .u8 0)], some [.i, .i, .b, .i], [false, false, false, false]⟩ := rfl
theorem tab_8 : tab 8 = some ⟨.struct [(0, 1), (1, 1), (2, 1), (3, 1)], true, false, 4, 24, [.c (.int .i64 0), .c (.int .i64 0), .c (.bool false), .c (.int .u8 0)], some [.i, .i, .b, .i], [false, false, false, false]⟩ := rfl
theorem tab_9 : tab 9 = some ⟨.other, false, false, 1, 16, [.c (.str ⟨#[]⟩)], none, []⟩ := rfl
theorem tab_10 : tab 10 = some ⟨.other, false, false, 1, 16, [.c (.str ⟨#[]⟩)], none, []⟩ := rfl
theorem tab_11 : tab 11 = some ⟨.other, false, false, 1, 16, [.c (.str ⟨#[]⟩)], none, []⟩ := rfl
theorem tab_12 : tab 12 = some ⟨.int .u64, false, false, 1, 8, [.c (.int .u64 0)], none, []⟩ := rfl
theorem tab_13 : tab 13 = some ⟨.struct [(0, 1), (1, 1)], true, false, 2, 24, [.c (.str ⟨#[]⟩), .c (.int .u64 0)], none, [false, false]⟩ := rfl
theorem tab_14 : tab 14 = some ⟨.struct [(0, 1), (1, 1)], true, false, 2, 24, [.c (.str ⟨#[]⟩), .c (.int .u64 0)], none, [false, false]⟩ := rfl
theorem tab_15 : tab 15 = some ⟨.other, false, false, 1, 8, [.c .nilp], none, []⟩ := rfl
theorem tab_16 : tab 16 = some ⟨.other, false, false, 1, 8, [.c .nilp], none, []⟩ := rfl
theorem tab_17 : tab 17 = some ⟨.other, false, false, 1, 8, [.c .nilp], none, []⟩ := rfl
theorem tab_18 : tab 18 = some ⟨.struct [(0, 1)], true, false, 1, 8, [.c .nilp], none, [false]⟩ := rfl
theorem tab_19 : tab 19 = some ⟨.struct [(0, 1)], true, false, 1, 8, [.c .nilp], none, [false]⟩ := rfl
theorem tab_20 : tab 20 = some ⟨.other, false, true, 1, 16, [.c .nili], none, []⟩ := rfl
theorem tab_21 : tab 21 = some ⟨.int .i32, false, false, 1, 4, [.c (.int .i32 0)], none, []⟩ := rfl
theorem tab_22 : tab 22 = some ⟨.slice 51, false, false, 1, 24, [.sl 51 3], none, []⟩ := rfl
theorem tab_23 : tab 23 = some ⟨.slice 48, false, false, 1, 24, [.sl 48 3], none, []⟩ := rfl
theorem tab_24 : tab 24 = some ⟨.struct [(0, 1), (1, 1)], true, false, 2, 48, [.sl 51 3, .sl 48 3], none, [false, false]⟩ := rfl
theorem tab_25 : tab 25 = some ⟨.struct [(0, 1), (1, 1)], true, false, 2, 48, [.sl 51 3, .sl 48 3], none, [false, false]⟩ := rfl
theorem tab_26 : tab 26 = some ⟨.slice 37, false, false, 1, 24, [.sl 37 1], none, []⟩ := rfl
theorem tab_27 : tab 27 = some ⟨.func, false, false, 1, 8, [.c .nilf], none, []⟩ := rfl
theorem tab_28 : tab 28 = some ⟨.func, false, false, 1, 8, [.c .nilf], none, []⟩ := rfl
theorem tab_29 : tab 29 = some ⟨.func, false, false, 1, 8, [.c .nilf], none, []⟩ := rfl
theorem tab_30 : tab 30 = some ⟨.int .i64, false, false, 1, 8, [.c (.int .i64 0)], none, []⟩ := rfl
theorem tab_32 : tab 32 = some ⟨.func, false, false, 1, 8, [.c .nilf], none, []⟩ := rfl
theorem tab_34 : tab 34 = some ⟨.func, false, false, 1, 8, [.c .nilf], none, []⟩ := rfl
theorem tab_35 : tab 35 = some ⟨.func, false, false, 1, 8, [.c .nilf], none, []⟩ := rfl
theorem tab_36 : tab 36 = some ⟨.func, false, false, 1, 8, [.c .nilf], none, []⟩ := rfl
theorem tab_37 : tab 37 = some ⟨.slice 3, false, false, 1, 24, [.sl 3 1], none, []⟩ := rfl
theorem tab_38 : tab 38 = some ⟨.slice 65, false, false, 1, 24, [.sl 65 2], none, []⟩ := rfl
theorem tab_39 : tab 39 = some ⟨.func, false, false, 1, 8, [.c .nilf], none, []⟩ := rfl
theorem tab_41 : tab 41 = some ⟨.func, false, false, 1, 8, [.c .nilf], none, []⟩ := rfl
theorem tab_43 : tab 43 = some ⟨.func, false, false, 1, 8, [.c .nilf], none, []⟩ := rfl
theorem tab_44 : tab 44 = some ⟨.func, false, false, 1, 8, [.c .nilf], none, []⟩ := rfl
theorem tab_45 : tab 45 = some ⟨.func, false, false, 1, 8, [.c .nilf], none, []⟩ := rfl
theorem tab_46 : tab 46 = some ⟨.slice 5, false, false, 1, 24, [.sl 5 1], none, []⟩ := rfl
theorem tab_47 : tab 47 = some ⟨.struct [(0, 1), (1, 1), (2, 1)], true, false, 3, 40, [.sl 3 1, .c (.int .i64 0), .c (.int .i64 0)], none, [false, false, false]⟩ := rfl
theorem tab_48 : tab 48 = some ⟨.struct [(0, 1), (1, 1), (2, 1)], true, false, 3, 40, [.sl 3 1, .c (.int .i64 0), .c (.int .i64 0)], none, [false, false, false]⟩ := rfl
theorem tab_49 : tab 49 = some ⟨.func, false, false, 1, 8, [.c .nilf], none, []⟩ := rfl
theorem tab_50 : tab 50 = some ⟨.struct [(0, 1), (1, 1), (2, 1)], true, false, 3, 24, [.c (.int .i64 0), .c (.int .i64 0), .c (.int .i64 0)], some [.i, .i, .i], [false, false, false]⟩ := rfl
theorem tab_51 : tab 51 = some ⟨.struct [(0, 1), (1, 1), (2, 1)], true, false, 3, 24, [.c (.int .i64 0), .c (.int .i64 0), .c (.int .i64 0)], some [.i, .i, .i], [false, false, false]⟩ := rfl
theorem tab_52 : tab 52 = some ⟨.func, false, false, 1, 8, [.c .nilf], none, []⟩ := rfl
theorem tab_53 : tab 53 = some ⟨.struct [(0, 1), (1, 1), (2, 1)], true, false, 3, 72, [.sl 3 1, .sl 3 1, .sl 37 1], none, [false, false, false]⟩ := rfl
theorem tab_54 : tab 54 = some ⟨.struct [(0, 1), (1, 1), (2, 1)], true, false, 3, 72, [.sl 3 1, .sl 3 1, .sl 37 1], none, [false, false, false]⟩ := rfl
theorem tab_55 : tab 55 = some ⟨.int .u16, false, false, 1, 2, [.c (.int .u16 0)], none, []⟩ := rfl
theorem tab_56 : tab 56 = some ⟨.struct [(0, 1), (1, 1)], true, false, 2, 16, [.c (.int .i64 0), .c (.int .i64 0)], some [.i, .i], [false, false]⟩ := rfl
theorem tab_57 : tab 57 = some ⟨.struct [(0, 1), (1, 1)], true, false, 2, 16, [.c (.int .i64 0), .c (.int .i64 0)], some [.i, .i], [false, false]⟩ := rfl
theorem tab_59 : tab 59 = some ⟨.func, false, false, 1, 8, [.c .nilf], none, []⟩ := rfl
theorem tab_60 : tab 60 = some ⟨.func, false, false, 1, 8, [.c .nilf], none, []⟩ := rfl
theorem tab_62 : tab 62 = some ⟨.func, false, false, 1, 8, [.c .nilf], none, []⟩ := rfl
theorem tab_63 : tab 63 = some ⟨.func, false, false, 1, 8, [.c .nilf], none, []⟩ := rfl
theorem tab_64 : tab 64 = some ⟨.struct [(0, 1), (1, 1)], true, false, 2, 32, [.c (.int .i64 0), .sl 3 1], none, [false, false]⟩ := rfl
theorem tab_65 : tab 65 = some ⟨.struct [(0, 1), (1, 1)], true, false, 2, 32, [.c (.int .i64 0), .sl 3 1], none, [false, false]⟩ := rfl
theorem tab_66 : tab 66 = some ⟨.func, false, false, 1, 8, [.c .nilf], none, []⟩ := rfl
theorem tab_68 : tab 68 = some ⟨.func, false, false, 1, 8, [.c .nilf], none, []⟩ := rfl
theorem tab_69 : tab 69 = some ⟨.func, false, false, 1, 8, [.c .nilf], none, []⟩ := rfl
theorem tab_70 : tab 70 = some ⟨.func, false, false, 1, 8, [.c .nilf], none, []⟩ := rfl
theorem tab_72 : tab 72 = some ⟨.func, false, false, 1, 8, [.c .nilf], none, []⟩ := rfl
theorem tab_73 : tab 73 = some ⟨.other, false, false, 1, 8, [.c .nilp], none, []⟩ := rfl
theorem tab_74 : tab 74 = some ⟨.other, false, false, 1, 8, [.c .nilp], none, []⟩ := rfl
theorem tab_75 : tab 75 = some ⟨.array 8 3, true, false, 8, 64, [.c (.int .i64 0), .c (.int .i64 0), .c (.int .i64 0), .c (.int .i64 0), .c (.int .i64 0), .c (.int .i64 0), .c (.int .i64 0), .c (.int .i64 0)], some [.i, .i, .i, .i, .i, .i, .i, .i], []⟩ := rfl
theorem tab_76 : tab 76 = some ⟨.array 8 3, true, false, 8, 64, [.c (.int .i64 0), .c (.int .i64 0), .c (.int .i64 0), .c (.int .i64 0), .c (.int .i64 0), .c (.int .i64 0), .c (.int .i64 0), .c (.int .i64 0)], some [.i, .i, .i, .i, .i, .i, .i, .i], []⟩ := rfl
theorem tab_77 : tab 77 = some ⟨.struct [(0, 1), (1, 8)], true, false, 9, 72, [.c .nilp, .c (.int .i64 0), .c (.int .i64 0), .c (.int .i64 0), .c (.int .i64 0), .c (.int .i64 0), .c (.int .i64 0), .c (.int .i64 0), .c (.int .i64 0)], none, [false, true]⟩ := rfl
theorem tab_78 : tab 78 = some ⟨.struct [(0, 1), (1, 8)], true, false, 9, 72, [.c .nilp, .c (.int .i64 0), .c (.int .i64 0), .c (.int .i64 0), .c (.int .i64 0), .c (.int .i64 0), .c (.int .i64 0), .c (.int .i64 0), .c (.int .i64 0)], none, [false, true]⟩ := rfl
theorem tab_79 : tab 79 = some ⟨.func, false, false, 1, 8, [.c .nilf], none, []⟩ := rfl
theorem tab_80 : tab 80 = some ⟨.func, false, false, 1, 8, [.c .nilf], none, []⟩ := rfl
theorem tab_81 : tab 81 = some ⟨.func, false, false, 1, 8, [.c .nilf], none, []⟩ := rfl
theorem tab_82 : tab 82 = some ⟨.func, false, false, 1, 8, [.c .nilf], none, []⟩ := rfl
theorem tab_83 : tab 83 = some ⟨.func, false, false, 1, 8, [.c .nilf], none, []⟩ := rfl
theorem tab_84 : tab 84 = some ⟨.func, false, false, 1, 8, [.c .nilf], none, []⟩ := rfl
theorem tab_86 : tab 86 = some ⟨.func, false, false, 1, 8, [.c .nilf], none, []⟩ := rfl
theorem tab_87 : tab 87 = some ⟨.func, false, false, 1, 8, [.c .nilf], none, []⟩ := rfl
theorem tab_88 : tab 88 = some ⟨.func, false, false, 1, 8, [.c .nilf], none, []⟩ := rfl
theorem tab_89 : tab 89 = some ⟨.func, false, false, 1, 8, [.c .nilf], none, []⟩ := rfl
theorem tab_90 : tab 90 = some ⟨.func, false, false, 1, 8, [.c .nilf], none, []⟩ := rfl
theorem tab_91 : tab 91 = some ⟨.func, false, false, 1, 8, [.c .nilf], none, []⟩ := rfl
theorem tab_93 : tab 93 = some ⟨.func, false, false, 1, 8, [.c .nilf], none, []⟩ := rfl
theorem tab_94 : tab 94 = some ⟨.func, false, false, 1, 8, [.c .nilf], none, []⟩ := rfl
theorem tab_95 : tab 95 = some ⟨.array 64 4, true, false, 64, 64, [.c (.bool false), .c (.bool false), .c (.bool false), .c (.bool false), .c (.bool false), .c (.bool false), .c (.bool false), .c (.bool false), .c (.bool false), .c (.bool false), .c (.bool false), .c (.bool false), .c (.bool false), .c (.bool false), .c (.bool false), .c (.bool false), .c (.bool false), .c (.bool false), .c (.bool false), .c (.bool false), .c (.bool false), .c (.bool false), .c (.bool false), .c (.bool false), .c (.bool false), .c (.bool false), .c (.bool false), .c (.bool false), .c (.bool false), .c (.bool false), .c (.bool false), .c (.bool false), .c (.bool false), .c (.bool false), .c (.bool false), .c (.bool false), .c (.bool false), .c (.bool false), .c (.bool false), .c (.bool false), .c (.bool false), .c (.bool false), .c (.bool false), .c (.bool false), .c (.bool false), .c (.bool false), .c (.bool false), .c (.bool false), .c (.bool false), .c (.bool false), .c (.bool false), .c (.bool false), .c (.bool false), .c (.bool false), .c (.bool false), .c (.bool false), .c (.bool false), .c (.bool false), .c (.bool false), .c (.bool false), .c (.bool false), .c (.bool false), .c (.bool false), .c (.bool false)], some [.b, .b, .b, .b, .b, .b, .b, .b, .b, .b, .b, .b, .b, .b, .b, .b, .b, .b, .b, .b, .b, .b, .b, .b, .b, .b, .b, .b, .b, .b, .b, .b, .b, .b, .b, .b, .b, .b, .b, .b, .b, .b, .b, .b, .b, .b, .b, .b, .b, .b, .b, .b, .b, .b, .b, .b, .b, .b, .b, .b, .b, .b, .b, .b], []⟩ := rfl
theorem tab_96 : tab 96 = some ⟨.func, false, false, 1, 8, [.c .nilf], none, []⟩ := rfl
theorem tab_97 : tab 97 = some ⟨.struct [(0, 1), (1, 1)], true, false, 2, 16, [.c (.int .i64 0), .c (.int .i64 0)], some [.i, .i], [false, false]⟩ := rfl
theorem tab_99 : tab 99 = some ⟨.func, false, false, 1, 8, [.c .nilf], none, []⟩ := rfl
theorem tab_100 : tab 100 = some ⟨.other, false, false, 1, 8, [.c .nilp], none, []⟩ := rfl
theorem tab_102 : tab 102 = some ⟨.func, false, false, 1, 8, [.c .nilf], none, []⟩ := rfl
theorem tab_103 : tab 103 = some ⟨.func, false, false, 1, 8, [.c .nilf], none, []⟩ := rfl
theorem tab_104 : tab 104 = some ⟨.func, false, false, 1, 8, [.c .nilf], none, []⟩ := rfl
theorem tab_105 : tab 105 = some ⟨.func, false, false, 1, 8, [.c .nilf], none, []⟩ := rfl
theorem tab_106 : tab 106 = some ⟨.func, false, false, 1, 8, [.c .nilf], none, []⟩ := rfl
theorem tab_107 : tab 107 = some ⟨.func, false, false, 1, 8, [.c .nilf], none, []⟩ := rfl
theorem tab_108 : tab 108 = some ⟨.map 3 4, false, false, 1, 8, [.c .any], none, []⟩ := rfl
theorem tab_109 : tab 109 = some ⟨.func, false, false, 1, 8, [.c .nilf], none, []⟩ := rfl
theorem tab_110 : tab 110 = some ⟨.func, false, false, 1, 8, [.c .nilf], none, []⟩ := rfl
theorem tab_111 : tab 111 = some ⟨.func, false, false, 1, 8, [.c .nilf], none, []⟩ := rfl
theorem tab_112 : tab 112 = some ⟨.func, false, false, 1, 8, [.c .nilf], none, []⟩ := rfl
theorem tab_113 : tab 113 = some ⟨.map 3 3, false, false, 1, 8, [.c .any], none, []⟩ := rfl
theorem tab_114 : tab 114 = some ⟨.struct [(0, 1), (1, 1)], true, false, 2, 16, [.c (.int .i64 0), .c (.int .i64 0)], some [.i, .i], [false, false]⟩ := rfl
theorem tab_115 : tab 115 = some ⟨.struct [(0, 1), (1, 1)], true, false, 2, 16, [.c (.int .i64 0), .c (.int .i64 0)], some [.i, .i], [false, false]⟩ := rfl
theorem tab_116 : tab 116 = some ⟨.other, false, false, 1, 8, [.c .nilp], none, []⟩ := rfl
theorem tab_117 : tab 117 = some ⟨.func, false, false, 1, 8, [.c .nilf], none, []⟩ := rfl
theorem tab_118 : tab 118 = some ⟨.func, false, false, 1, 8, [.c .nilf], none, []⟩ := rfl
theorem tab_119 : tab 119 = some ⟨.func, false, false, 1, 8, [.c .nilf], none, []⟩ := rfl
theorem tab_120 : tab 120 = some ⟨.func, false, false, 1, 8, [.c .nilf], none, []⟩ := rfl
theorem tab_121 : tab 121 = some ⟨.func, false, false, 1, 8, [.c .nilf], none, []⟩ := rfl
theorem tab_122 : tab 122 = some ⟨.func, false, false, 1, 8, [.c .nilf], none, []⟩ := rfl
theorem tab_123 : tab 123 = some ⟨.func, false, false, 1, 8, [.c .nilf], none, []⟩ := rfl
theorem tab_124 : tab 124 = some ⟨.func, false, false, 1, 8, [.c .nilf], none, []⟩ := rfl
theorem tab_125 : tab 125 = some ⟨.func, false, false, 1, 8, [.c .nilf], none, []⟩ := rfl
theorem tab_126 : tab 126 = some ⟨.func, false, false, 1, 8, [.c .nilf], none, []⟩ := rfl
theorem tab_127 : tab 127 = some ⟨.struct [(0, 1), (1, 1), (2, 1), (3, 1)], true, false, 4, 40, [.c .nilp, .c .nilp, .c .nilp, .c (.str ⟨#[]⟩)], none, [false, false, false, false]⟩ := rfl
theorem tab_128 : tab 128 = some ⟨.struct [(0, 1), (1, 1), (2, 1), (3, 1)], true, false, 4, 40, [.c .nilp, .c .nilp, .c .nilp, .c (.str ⟨#[]⟩)], none, [false, false, false, false]⟩ := rfl
theorem tab_129 : tab 129 = some ⟨.array 0 16, true, false, 0, 0, [], none, []⟩ := rfl
theorem tab_132 : tab 132 = some ⟨.func, false, false, 1, 8, [.c .nilf], none, []⟩ := rfl
theorem tab_133 : tab 133 = some ⟨.int .u32, false, false, 1, 4, [.c (.int .u32 0)], none, []⟩ := rfl
theorem tab_134 : tab 134 = some ⟨.int .u8, false, false, 1, 1, [.c (.int .u8 0)], none, []⟩ := rfl
theorem tab_135 : tab 135 = some ⟨.int .u8, false, false, 1, 1, [.c (.int .u8 0)], none, []⟩ := rfl
theorem tab_136 : tab 136 = some ⟨.func, false, false, 1, 8, [.c .nilf], none, []⟩ := rfl
theorem tab_137 : tab 137 = some ⟨.other, false, false, 1, 8, [.c .nilp], none, []⟩ := rfl
theorem tab_138 : tab 138 = some ⟨.int .i32, false, false, 1, 4, [.c (.int .i32 0)], none, []⟩ := rfl
theorem tab_139 : tab 139 = some ⟨.int .i32, false, false, 1, 4, [.c (.int .i32 0)], none, []⟩ := rfl
theorem tab_140 : tab 140 = some ⟨.struct [(0, 1), (1, 1), (2, 1), (3, 1), (4, 1), (5, 1), (6, 1), (7, 1), (8, 1), (9, 1), (10, 1)], true, false, 11, 48, [.c (.int .u64 0), .c (.int .u64 0), .c (.int .u32 0), .c (.int .u8 0), .c (.int .u8 0), .c (.int .u8 0), .c (.int .u8 0), .c .nilf, .c .nilp, .c (.int .i32 0), .c (.int .i32 0)], none, [false, false, false, false, false, false, false, false, false, false, false]⟩ := rfl
theorem tab_141 : tab 141 = some ⟨.struct [(0, 1), (1, 1), (2, 1), (3, 1), (4, 1), (5, 1), (6, 1), (7, 1), (8, 1), (9, 1), (10, 1)], true, false, 11, 48, [.c (.int .u64 0), .c (.int .u64 0), .c (.int .u32 0), .c (.int .u8 0), .c (.int .u8 0), .c (.int .u8 0), .c (.int .u8 0), .c .nilf, .c .nilp, .c (.int .i32 0), .c (.int .i32 0)], none, [false, false, false, false, false, false, false, false, false, false, false]⟩ := rfl
theorem tab_142 : tab 142 = some ⟨.other, false, false, 1, 8, [.c .nilp], none, []⟩ := rfl
theorem fn_3 : Try.prog.funcs[3]? = some Try.f3 := rfl
theorem fn_4 : Try.prog.funcs[4]? = some Try.f4 := rfl
theorem fn_5 : Try.prog.funcs[5]? = some Try.f5 := rfl
theorem fn_6 : Try.prog.funcs[6]? = some Try.f6 := rfl
theorem fn_7 : Try.prog.funcs[7]? = some Try.f7 := rfl
theorem fn_8 : Try.prog.funcs[8]? = some Try.f8 := rfl
theorem fn_9 : Try.prog.funcs[9]? = some Try.f9 := rfl
theorem fn_10 : Try.prog.funcs[10]? = some Try.f10 := rfl
theorem fn_11 : Try.prog.funcs[11]? = some Try.f11 := rfl
theorem fn_12 : Try.prog.funcs[12]? = some Try.f12 := rfl
theorem fn_13 : Try.prog.funcs[13]? = some Try.f13 := rfl
theorem fn_14 : Try.prog.funcs[14]? = some Try.f14 := rfl
theorem fn_15 : Try.prog.funcs[15]? = some Try.f15 := rfl
theorem fn_16 : Try.prog.funcs[16]? = some Try.f16 := rfl
theorem fn_17 : Try.prog.funcs[17]? = some Try.f17 := rfl
theorem fn_18 : Try.prog.funcs[18]? = some Try.f18 := rfl
theorem fn_19 : Try.prog.funcs[19]? = some Try.f19 := rfl
theorem fn_20 : Try.prog.funcs[20]? = some Try.f20 := rfl
theorem fn_21 : Try.prog.funcs[21]? = some Try.f21 := rfl
theorem fn_22 : Try.prog.funcs[22]? = some Try.f22 := rfl
theorem fn_23 : Try.prog.funcs[23]? = some Try.f23 := rfl
theorem fn_24 : Try.prog.funcs[24]? = some Try.f24 := rfl
theorem fn_25 : Try.prog.funcs[25]? = some Try.f25 := rfl
theorem fn_26 : Try.prog.funcs[26]? = some Try.f26 := rfl
theorem fn_27 : Try.prog.funcs[27]? = some Try.f27 := rfl
theorem fn_28 : Try.prog.funcs[28]? = some Try.f28 := rfl
theorem fn_29 : Try.prog.funcs[29]? = some Try.f29 := rfl
theorem fn_30 : Try.prog.funcs[30]? = some Try.f30 := rfl
theorem fn_31 : Try.prog.funcs[31]? = some Try.f31 := rfl
theorem fn_32 : Try.prog.funcs[32]? = some Try.f32 := rfl
theorem fn_33 : Try.prog.funcs[33]? = some Try.f33 := rfl
theorem fn_34 : Try.prog.funcs[34]? = some Try.f34 := rfl
theorem fn_35 : Try.prog.funcs[35]? = some Try.f35 := rfl
theorem fn_36 : Try.prog.funcs[36]? = some Try.f36 := rfl
theorem fn_37 : Try.prog.funcs[37]? = some Try.f37 := rfl
theorem fn_38 : Try.prog.funcs[38]? = some Try.f38 := rfl
theorem fn_39 : Try.prog.funcs[39]? = some Try.f39 := rfl
theorem fn_40 : Try.prog.funcs[40]? = some Try.f40 := rfl
theorem fn_41 : Try.prog.funcs[41]? = some Try.f41 := rfl
theorem fn_42 : Try.prog.funcs[42]? = some Try.f42 := rfl
theorem fn_43 : Try.prog.funcs[43]? = some Try.f43 := rfl
theorem fn_44 : Try.prog.funcs[44]? = some Try.f44 := rfl
theorem fn_45 : Try.prog.funcs[45]? = some Try.f45 := rfl
theorem fn_46 : Try.prog.funcs[46]? = some Try.f46 := rfl
theorem fn_47 : Try.prog.funcs[47]? = some Try.f47 := rfl
theorem fn_48 : Try.prog.funcs[48]? = some Try.f48 := rfl
theorem fn_49 : Try.prog.funcs[49]? = some Try.f49 := rfl
theorem fn_50 : Try.prog.funcs[50]? = some Try.f50 := rfl
theorem fn_51 : Try.prog.funcs[51]? = some Try.f51 := rfl
theorem fn_52 : Try.prog.funcs[52]? = some Try.f52 := rfl
theorem fn_53 : Try.prog.funcs[53]? = some Try.f53 := rfl
theorem fn_54 : Try.prog.funcs[54]? = some Try.f54 := rfl
theorem fn_55 : Try.prog.funcs[55]? = some Try.f55 := rfl
theorem fn_56 : Try.prog.funcs[56]? = some Try.f56 := rfl
theorem fn_57 : Try.prog.funcs[57]? = some Try.f57 := rfl
theorem fn_58 : Try.prog.funcs[58]? = some Try.f58 := rfl
theorem fn_59 : Try.prog.funcs[59]? = some Try.f59 := rfl
theorem fn_60 : Try.prog.funcs[60]? = some Try.f60 := rfl
theorem fn_61 : Try.prog.funcs[61]? = some Try.f61 := rfl
theorem fn_62 : Try.prog.funcs[62]? = some Try.f62 := rfl
theorem fn_63 : Try.prog.funcs[63]? = some Try.f63 := rfl
theorem fn_64 : Try.prog.funcs[64]? = some Try.f64 := rfl
theorem fn_65 : Try.prog.funcs[65]? = some Try.f65 := rfl
theorem fn_66 : Try.prog.funcs[66]? = some Try.f66 := rfl
theorem fn_67 : Try.prog.funcs[67]? = some Try.f67 := rfl
theorem fn_68 : Try.prog.funcs[68]? = some Try.f68 := rfl
theorem fn_69 : Try.prog.funcs[69]? = some Try.f69 := rfl
theorem fn_70 : Try.prog.funcs[70]? = some Try.f70 := rfl
theorem fn_71 : Try.prog.funcs[71]? = some Try.f71 := rfl
theorem fn_72 : Try.prog.funcs[72]? = some Try.f72 := rfl
theorem fn_73 : Try.prog.funcs[73]? = some Try.f73 := rfl
theorem fn_74 : Try.prog.funcs[74]? = some Try.f74 := rfl
theorem fn_75 : Try.prog.funcs[75]? = some Try.f75 := rfl
theorem fn_76 : Try.prog.funcs[76]? = some Try.f76 := rfl
theorem fn_77 : Try.prog.funcs[77]? = some Try.f77 := rfl
theorem fn_78 : Try.prog.funcs[78]? = some Try.f78 := rfl
theorem fn_79 : Try.prog.funcs[79]? = some Try.f79 := rfl
theorem fn_80 : Try.prog.funcs[80]? = some Try.f80 := rfl
theorem fn_81 : Try.prog.funcs[81]? = some Try.f81 := rfl
theorem fn_82 : Try.prog.funcs[82]? = some Try.f82 := rfl
theorem fn_83 : Try.prog.funcs[83]? = some Try.f83 := rfl
theorem fn_84 : Try.prog.funcs[84]? = some Try.f84 := rfl
theorem fn_85 : Try.prog.funcs[85]? = some Try.f85 := rfl
theorem fn_86 : Try.prog.funcs[86]? = some Try.f86 := rfl
theorem ent_3 : entB Try.prog 3 = true := by kernel_rfl
theorem ent_4 : entB Try.prog 4 = true := by kernel_rfl
theorem ent_5 : entB Try.prog 5 = true := by kernel_rfl
theorem ent_6 : entB Try.prog 6 = true := by kernel_rfl
theorem ent_7 : entB Try.prog 7 = true := by kernel_rfl
theorem ent_8 : entB Try.prog 8 = true := by kernel_rfl
theorem ent_9 : entB Try.prog 9 = true := by kernel_rfl
theorem ent_10 : entB Try.prog 10 = true := by kernel_rfl
theorem ent_11 : entB Try.prog 11 = true := by kernel_rfl
theorem ent_12 : entB Try.prog 12 = true := by kernel_rfl
theorem ent_13 : entB Try.prog 13 = true := by kernel_rfl
theorem ent_14 : entB Try.prog 14 = true := by kernel_rfl
theorem ent_15 : entB Try.prog 15 = true := by kernel_rfl
theorem ent_16 : entB Try.prog 16 = true := by kernel_rfl
theorem ent_17 : entB Try.prog 17 = true := by kernel_rfl
theorem ent_18 : entB Try.prog 18 = true := by kernel_rfl
theorem ent_19 : entB Try.prog 19 = true := by kernel_rfl
theorem ent_20 : entB Try.prog 20 = true := by kernel_rfl
theorem ent_21 : entB Try.prog 21 = true := by kernel_rfl
theorem ent_22 : entB Try.prog 22 = true := by kernel_rfl
theorem ent_23 : entB Try.prog 23 = true := by kernel_rfl
theorem ent_24 : entB Try.prog 24 = true := by kernel_rfl
theorem ent_25 : entB Try.prog 25 = true := by kernel_rfl
theorem ent_26 : entB Try.prog 26 = true := by kernel_rfl
theorem ent_27 : entB Try.prog 27 = true := by kernel_rfl
theorem ent_28 : entB Try.prog 28 = true := by kernel_rfl
theorem ent_29 : entB Try.prog 29 = true := by kernel_rfl
theorem ent_30 : entB Try.prog 30 = true := by kernel_rfl
theorem ent_31 : entB Try.prog 31 = true := by kernel_rfl
theorem ent_32 : entB Try.prog 32 = true := by kernel_rfl
theorem ent_33 : entB Try.prog 33 = true := by kernel_rfl
theorem ent_34 : entB Try.prog 34 = true := by kernel_rfl
theorem ent_35 : entB Try.prog 35 = true := by kernel_rfl
theorem ent_36 : entB Try.prog 36 = true := by kernel_rfl
theorem ent_37 : entB Try.prog 37 = true := by kernel_rfl
theorem ent_38 : entB Try.prog 38 = true := by kernel_rfl
theorem ent_39 : entB Try.prog 39 = true := by kernel_rfl
theorem ent_40 : entB Try.prog 40 = true := by kernel_rfl
theorem ent_41 : entB Try.prog 41 = true := by kernel_rfl
theorem ent_42 : entB Try.prog 42 = true := by kernel_rfl
theorem ent_43 : entB Try.prog 43 = true := by kernel_rfl
theorem ent_44 : entB Try.prog 44 = true := by kernel_rfl
theorem ent_45 : entB Try.prog 45 = true := by kernel_rfl
theorem ent_46 : entB Try.prog 46 = true := by kernel_rfl
theorem ent_47 : entB Try.prog 47 = true := by kernel_rfl
theorem ent_48 : entB Try.prog 48 = true := by kernel_rfl
theorem ent_49 : entB Try.prog 49 = true := by kernel_rfl
theorem ent_50 : entB Try.prog 50 = true := by kernel_rfl
theorem ent_51 : entB Try.prog 51 = true := by kernel_rfl
theorem ent_52 : entB Try.prog 52 = true := by kernel_rfl
theorem ent_53 : entB Try.prog 53 = true := by kernel_rfl
theorem ent_54 : entB Try.prog 54 = true := by kernel_rfl
theorem ent_55 : entB Try.prog 55 = true := by kernel_rfl
theorem ent_56 : entB Try.prog 56 = true := by kernel_rfl
theorem ent_57 : entB Try.prog 57 = true := by kernel_rfl
theorem ent_58 : entB Try.prog 58 = true := by kernel_rfl
theorem ent_59 : entB Try.prog 59 = true := by kernel_rfl
theorem ent_60 : entB Try.prog 60 = true := by kernel_rfl
theorem ent_61 : entB Try.prog 61 = true := by kernel_rfl
theorem ent_62 : entB Try.prog 62 = true := by kernel_rfl
theorem ent_63 : entB Try.prog 63 = true := by kernel_rfl
theorem ent_64 : entB Try.prog 64 = true := by kernel_rfl
theorem ent_65 : entB Try.prog 65 = true := by kernel_rfl
theorem ent_66 : entB Try.prog 66 = true := by kernel_rfl
theorem ent_67 : entB Try.prog 67 = true := by kernel_rfl
theorem ent_68 : entB Try.prog 68 = true := by kernel_rfl
theorem ent_69 : entB Try.prog 69 = true := by kernel_rfl
theorem ent_70 : entB Try.prog 70 = true := by kernel_rfl
theorem ent_71 : entB Try.prog 71 = true := by kernel_rfl
theorem ent_72 : entB Try.prog 72 = true := by kernel_rfl
theorem ent_73 : entB Try.prog 73 = true := by kernel_rfl
theorem ent_74 : entB Try.prog 74 = true := by kernel_rfl
theorem ent_75 : entB Try.prog 75 = true := by kernel_rfl
theorem ent_76 : entB Try.prog 76 = true := by kernel_rfl
theorem ent_77 : entB Try.prog 77 = true := by kernel_rfl
theorem ent_78 : entB Try.prog 78 = true := by kernel_rfl
theorem ent_79 : entB Try.prog 79 = true := by kernel_rfl
theorem ent_80 : entB Try.prog 80 = true := by kernel_rfl
theorem ent_81 : entB Try.prog 81 = true := by kernel_rfl
theorem ent_82 : entB Try.prog 82 = true := by kernel_rfl
theorem ent_83 : entB Try.prog 83 = true := by kernel_rfl
theorem ent_84 : entB Try.prog 84 = true := by kernel_rfl
theorem ent_85 : entB Try.prog 85 = true := by kernel_rfl
theorem ent_86 : entB Try.prog 86 = true := by kernel_rfl
attribute [go_sem] tab_1 tab_2 tab_3 tab_4 tab_5 tab_6 tab_7 tab_8 tab_9 tab_10 tab_11 tab_12 tab_13 tab_14 tab_15 tab_16 tab_17 tab_18 tab_19 tab_20 tab_21 tab_22 tab_23 tab_24 tab_25 tab_26 tab_27 tab_28 tab_29 tab_30 tab_32 tab_34 tab_35 tab_36 tab_37 tab_38 tab_39 tab_41 tab_43 tab_44 tab_45 tab_46 tab_47 tab_48 tab_49 tab_50 tab_51 tab_52 tab_53 tab_54 tab_55 tab_56 tab_57 tab_59 tab_60 tab_62 tab_63 tab_64 tab_65 tab_66 tab_68 tab_69 tab_70 tab_72 tab_73 tab_74 tab_75 tab_76 tab_77 tab_78 tab_79 tab_80 tab_81 tab_82 tab_83 tab_84 tab_86 tab_87 tab_88 tab_89 tab_90 tab_91 tab_93 tab_94 tab_95 tab_96 tab_97 tab_99 tab_100 tab_102 tab_103 tab_104 tab_105 tab_106 tab_107 tab_108 tab_109 tab_110 tab_111 tab_112 tab_113 tab_114 tab_115 tab_116 tab_117 tab_118 tab_119 tab_120 tab_121 tab_122 tab_123 tab_124 tab_125 tab_126 tab_127 tab_128 tab_129 tab_132 tab_133 tab_134 tab_135 tab_136 tab_137 tab_138 tab_139 tab_140 tab_141 tab_142 ent_3 ent_4 ent_5 ent_6 ent_7 ent_8 ent_9 ent_10 ent_11 ent_12 ent_13 ent_14 ent_15 ent_16 ent_17 ent_18 ent_19 ent_20 ent_21 ent_22 ent_23 ent_24 ent_25 ent_26 ent_27 ent_28 ent_29 ent_30 ent_31 ent_32 ent_33 ent_34 ent_35 ent_36 ent_37 ent_38 ent_39 ent_40 ent_41 ent_42 ent_43 ent_44 ent_45 ent_46 ent_47 ent_48 ent_49 ent_50 ent_51 ent_52 ent_53 ent_54 ent_55 ent_56 ent_57 ent_58 ent_59 ent_60 ent_61 ent_62 ent_63 ent_64 ent_65 ent_66 ent_67 ent_68 ent_69 ent_70 ent_71 ent_72 ent_73 ent_74 ent_75 ent_76 ent_77 ent_78 ent_79 ent_80 ent_81 ent_82 ent_83 ent_84 ent_85 ent_86 fn_3 fn_4 fn_5 fn_6 fn_7 fn_8 fn_9 fn_10 fn_11 fn_12 fn_13 fn_14 fn_15 fn_16 fn_17 fn_18 fn_19 fn_20 fn_21 fn_22 fn_23 fn_24 fn_25 fn_26 fn_27 fn_28 fn_29 fn_30 fn_31 fn_32 fn_33 fn_34 fn_35 fn_36 fn_37 fn_38 fn_39 fn_40 fn_41 fn_42 fn_43 fn_44 fn_45 fn_46 fn_47 fn_48 fn_49 fn_50 fn_51 fn_52 fn_53 fn_54 fn_55 fn_56 fn_57 fn_58 fn_59 fn_60 fn_61 fn_62 fn_63 fn_64 fn_65 fn_66 fn_67 fn_68 fn_69 fn_70 fn_71 fn_72 fn_73 fn_74 fn_75 fn_76 fn_77 fn_78 fn_79 fn_80 fn_81 fn_82 fn_83 fn_84 fn_85 fn_86
end Go.Eng
end

/- Contracts over an empty heap, used over any heap: own slices are lent as rows, own blocks as cells that are read; a slice that comes back new is an own one. -/
section
namespace Go.Eng
open Go.RowKit
set_option linter.unusedVariables false

def iv : SV → Int
  | .int _ x => x
  | _ => 0
/-- The numbers of a row. -/
def ivf (f : Nat → Nat → SV) : Nat → Nat → Int := fun i j => iv (f i j)
theorem ivf_lit (k : IntKind) (z : Nat → Nat → Int) : ivf (fun i j => .int k (z i j)) = z := rfl
def IntR (n sz : Nat) (f : Nat → Nat → SV) : Prop := ∀ i j, i < n → j < sz → f i j = .int .i64 (iv (f i j))
/-- Numbers of one kind. -/
def IntK (k : IntKind) (n sz : Nat) (f : Nat → Nat → SV) : Prop := ∀ i j, i < n → j < sz → f i j = .int k (iv (f i j))
def Sc : SV → Prop
  | .any => True
  | .int _ _ => True
  | .bool _ => True
  | .str _ => True
  | .nilp => True
  | .nils _ _ => True
  | .nilf => True
  | .nili => True
  | .func _ [] => True
  | _ => False
def ScL : List SV → Prop
  | [] => True
  | x :: l => Sc x ∧ ScL l
/-- Numbers and bools, alone or in a struct. -/
def Fl1 : SV → Prop
  | .agg l => ScL l
  | x => Sc x
def FlL : List SV → Prop
  | [] => True
  | x :: l => Fl1 x ∧ FlL l
def Fl : SV → Prop
  | .tup l => FlL l
  | x => Fl1 x
def mapF (F : SV → SV) : List SV → List SV
  | [] => []
  | x :: l => F x :: mapF F l
def frzV (F : SV → SV) (ver : Nat) : Vc → SV
  | .live ver' _ sz n f => if ver = ver' then .row n sz (fun i j => F (f i j)) else .any
  | .dead => .any
def frzB (F : SV → SV) (off : Nat) : Blk → SV
  | .live _ cells => .rptr (lenS cells - off) (fun j => F (nth cells (off + j)))
  | _ => .any
def frzC (F : SV → SV) (ver sz lo n : Nat) : Vc → SV
  | .live ver' _ sz' _ f => if ver = ver' then if sz = sz' then .row n sz (fun i j => F (f (lo + i) j)) else .any else .any
  | .dead => .any
def frzF : Nat → HS → SV → SV
  | 0, _, x => x
  | k + 1, h, .vec id ver => frzV (frzF k h) ver (getV h.vecs id)
  | k + 1, h, .vcut id ver sz lo n _ => frzC (frzF k h) ver sz lo n (getV h.vecs id)
  | k + 1, h, .ptr nm off => frzB (frzF k h) off (getB h.blks nm)
  | k + 1, h, .agg l => .agg (mapF (frzF k h) l)
  | _ + 1, _, .nils _ sz => .row 0 sz (fun _ _ => .any)
  | _ + 1, _, x => x
def frzA (h : HS) : List SV → List SV
  | [] => []
  | x :: l => frzF 4 h x :: frzA h l

theorem mapF_eq (F : SV → SV) (l : List SV) : mapF F l = l.map F := by induction l <;> simp [mapF, *]
theorem frzA_eq (h : HS) (l : List SV) : frzA h l = l.map (frzF 4 h) := by induction l <;> simp [frzA, *]
theorem Sc.den {E E' : Env} {w w' : World} {x : SV} {v : Value} (h : Sc x) (hd : Den E w x v) : Den E' w' x v := by
  cases hd <;> first
    | exact .any _
    | exact .int _ _
    | exact .bool _
    | exact .str _
    | exact .nilp
    | exact .nils ‹_›
    | exact .nilf
    | exact .nili
    | exact (False.elim h)
    | (rename_i caps vs hs hd; cases caps with
        | nil => exact .func vs hs (fun i x u hx => by simp at hx)
        | cons _ _ => exact (False.elim h))
theorem ScL_get : ∀ {l : List SV}, ScL l → ∀ (i : Nat) (x : SV), l[i]? = some x → Sc x
  | [], _, i, x, h => by simp at h
  | y :: l, hs, 0, x, h => by simp at h; subst h; exact hs.1
  | y :: l, hs, i + 1, x, h => ScL_get hs.2 i x (by simpa using h)
theorem FlL_get : ∀ {l : List SV}, FlL l → ∀ (i : Nat) (x : SV), l[i]? = some x → Fl1 x
  | [], _, i, x, h => by simp at h
  | y :: l, hs, 0, x, h => by simp at h; subst h; exact hs.1
  | y :: l, hs, i + 1, x, h => FlL_get hs.2 i x (by simpa using h)
theorem Fl1.den {E E' : Env} {w w' : World} {x : SV} {v : Value} (h : Fl1 x) (hd : Den E w x v) : Den E' w' x v := by
  cases x with
  | agg l =>
    cases hd with | agg vs hs h1 hd =>
    exact .agg vs hs h1 (fun i x u hx hu => (ScL_get h i x hx).den (hd i x u hx hu))
  | _ => exact Sc.den h hd
theorem Fl.den {E E' : Env} {w w' : World} {x : SV} {v : Value} (h : Fl x) (hd : Den E w x v) : Den E' w' x v := by
  cases x with
  | tup l =>
    cases hd
    rename_i vs hs hd
    exact .tup vs hs (fun i x u hx hu => (FlL_get h i x hx).den (hd i x u hx hu))
  | agg l => exact Fl1.den h hd
  | _ => exact Sc.den h hd

/-- The ghost of a callee to which own slices and blocks are lent. -/
def Env.lent (E : Env) : Env := { nb := 0, rho := E.rho, nv := 0, val := E.val, own := fun b => match E.own b with | some .other => some .other | _ => none }
theorem lent_rel {E : Env} {h : HS} {w : World} (hr : RelH E h w) : RelH E.lent ⟨[], []⟩ w :=
  ⟨rfl, rfl, fun nm ty c h => by simp [getB] at h, fun id a b c d e h => by simp [getV] at h, fun b t hb => (by
    simp only [Env.lent] at hb
    split at hb
    · rename_i ho; exact hr.own b _ ho
    · cases hb), fun nm st pend fid t params assign body hb => by simp [getB] at hb, fun nm m hb => by simp [getB] at hb⟩
theorem lent_own {E : Env} {b : Nat} {t : Tag} (h : E.own b = some t) (ht : t ≠ .other) : E.lent.own b = none := by
  simp only [Env.lent, h]
  cases t <;> first | rfl | exact absurd rfl ht
theorem lent_turn {E : Env} {w : World} {x : SV} {v : Value} (hd : Den E w x v) (hb : Bd 0 0 x) : Den E.lent w x v :=
  hd.turn hb (fun nm hn => by simp [Env.lent] at hn) (fun id ver y hi => by simp [Env.lent] at hi) (fun b _ ho => by simp [Env.lent, ho])

/-- Frozen: seen from a ghost in which what is own is foreign. -/
theorem frzF_den {E : Env} {h : HS} {w : World} (hr : RelH E h w) : ∀ (k : Nat) {x : SV} {v : Value}, Den E w x v → Bd 0 0 (frzF k h x) → Den E.lent w (frzF k h x) v
  | 0, x, v, hd, hb => lent_turn hd hb
  | k + 1, x, v, hd, hb => by
    have ih := @frzF_den E h w hr k
    cases hd with
    | @vec id ver a n cap hi hv =>
      simp only [frzF] at hb ⊢
      cases hg : getV h.vecs id with
      | dead => exact .any _
      | live ver' ty sz n' f =>
        rw [hg] at hb
        simp only [frzV] at hb ⊢
        split
        · rename_i e
          subst e
          rw [if_pos rfl] at hb
          simp only [Bd] at hb
          obtain ⟨h0, ⟨a', cap', h2, h3⟩, h4⟩ := hr.vec id ver ty sz n' f hg
          rw [hv] at h2
          cases h2
          rcases h3 with ⟨_, rfl, rfl⟩ | ⟨b, o, cur, rfl, k2, k3, k4, k5, k6, k7, k8⟩
          · exact .rowZ _ _
          · have hlt : ∀ i j, i < n → j < sz → i * sz + j < n * sz := fun i j hi hj => by
              have := Nat.mul_le_mul_right sz (Nat.succ_le_of_lt hi)
              rw [Nat.succ_mul] at this
              omega
            have hle : o + n * sz ≤ cur.size := Nat.le_trans (Nat.add_le_add_left (Nat.mul_le_mul_right sz k2) _) k5
            have hget : ∀ i j, i < n → j < sz → cur[o + (i * sz + j)]? = some (cur.getD (o + (i * sz + j)) undef) := fun i j hi hj => by
              have := hlt i j hi hj
              have h2 : o + (i * sz + j) < cur.size := by omega
              simp [Array.getD, h2]
            refine .row ⟨b, o, none⟩ cap (fun i j => cur.getD (o + (i * sz + j)) undef) (hr.own _ _ k6) (lent_own k6 (by intro e; cases e)) k2 (fun i j hi hj => ?_) (fun i j hi hj => k7 _ _ (hlt i j hi hj) (hget i j hi hj)) (fun i j hi hj => ih (k8 i j _ hi hj (hget i j hi hj)) (hb i j hi hj))
            rw [Addr.add_lit]
            have h2 : o + (i * sz + j) < cur.size := by have := hlt i j hi hj; omega
            simp [World.cell?, k4, h2, Array.getD]
        · exact .any _
    | @vcut id ver sz lo n x a a9 N cap hi hv hn hc ha9 h09 hA9 hB9 =>
      simp only [frzF] at hb ⊢
      cases hg : getV h.vecs id with
      | dead => exact .any _
      | live ver' ty sz' N' f =>
        rw [hg] at hb
        simp only [frzC] at hb ⊢
        split
        rotate_left
        · exact .any _
        rename_i e
        subst e
        rw [if_pos rfl] at hb
        split
        rotate_left
        · exact .any _
        rename_i e
        subst e
        rw [if_pos rfl] at hb
        simp only [Bd] at hb
        obtain ⟨h0, ⟨a', cap', h2, h3⟩, h4⟩ := hr.vec id ver ty sz N' f hg
        rw [hv] at h2
        cases h2
        rcases h3 with ⟨_, rfl, rfl⟩ | ⟨b, o, cur, rfl, k2, k3, k4, k5, k6, k7, k8⟩
        · obtain rfl : n = 0 := by omega
          exact .rowZ _ _
        · by_cases hM : (if x = true then lo + n else cap) = lo
          · have : n = 0 := by cases x <;> simp at hM <;> omega
            subst this
            exact .rowZ _ _
          · rw [ha9 hM]
            have hlt : ∀ i j, i < n → j < sz → (lo + i) * sz + j < N * sz := fun i j hi hj => by
              have := Nat.mul_le_mul_right sz (show lo + i + 1 ≤ N by omega)
              rw [Nat.succ_mul] at this
              omega
            have hle : o + N * sz ≤ cur.size := Nat.le_trans (Nat.add_le_add_left (Nat.mul_le_mul_right sz k2) _) k5
            have hget : ∀ i j, i < n → j < sz → cur[o + ((lo + i) * sz + j)]? = some (cur.getD (o + ((lo + i) * sz + j)) undef) := fun i j hi hj => by
              have := hlt i j hi hj
              have h2 : o + ((lo + i) * sz + j) < cur.size := by omega
              simp [Array.getD, h2]
            have hA : (⟨b, o, none⟩ : Addr).add (lo * sz) = ⟨b, o + lo * sz, none⟩ := by rw [Addr.add_lit]
            simp only [Option.map_some, hA]
            refine .row ⟨b, o + lo * sz, none⟩ _ (fun i j => cur.getD (o + ((lo + i) * sz + j)) undef) (hr.own _ _ k6) (lent_own k6 (by intro e; cases e)) (by cases x <;> simp <;> omega) (fun i j hi hj => ?_) (fun i j hi hj => k7 _ _ (hlt i j hi hj) (hget i j hi hj)) (fun i j hi hj => ih (k8 (lo + i) j _ (by omega) hj (hget i j hi hj)) (hb i j hi hj))
            have e : o + lo * sz + (i * sz + j) = o + ((lo + i) * sz + j) := by rw [Nat.add_mul]; omega
            rw [Addr.add_lit, ← hget i j hi hj, ← e]
            simp [World.cell?, k4]
    | @ptr nm off hn =>
      simp only [frzF] at hb ⊢
      cases hg : getB h.blks nm with
      | dead => exact .any _
      | loop => exact .any _
      | mp => exact .any _
      | live ty cells =>
        rw [hg] at hb
        simp only [frzB, Bd] at hb ⊢
        obtain ⟨cs, a1, a2, a3, a4⟩ := hr.blk nm ty cells hg
        rw [lenS_eq] at hb ⊢
        have hsz := a2.1
        have hget : ∀ j, j < cells.length - off → cs[off + j]? = some (cs.getD (off + j) undef) := fun j hj => by
          have h2 : off + j < cs.size := by omega
          simp [Array.getD, h2]
        refine .rptr ⟨E.rho nm, off, none⟩ (fun j => cs.getD (off + j) undef) (hr.own _ _ a4) (lent_own a4 (by intro e; cases e)) (fun j hj => ?_) (fun j hj => a3 _ _ (hget j hj)) (fun j hj => ih (a2.nth _) (hb j hj))
        rw [Addr.add_lit]
        have h2 : off + j < cs.size := by omega
        simp [World.cell?, a1, h2, Array.getD]
    | @agg l vs hs h1 hd =>
      simp only [frzF, mapF_eq, Bd] at hb ⊢
      refine .agg vs (by simpa using hs) h1 (fun i x u hx hu => ?_)
      have hbx := BdL_get hb i x hx
      rw [List.getElem?_map] at hx
      cases hl : l[i]? with
      | none => simp [hl] at hx
      | some z =>
        simp [hl] at hx
        subst hx
        exact ih (hd i z u hl hu) hbx
    | any v => exact lent_turn (.any v) hb
    | int a b => exact lent_turn (.int a b) hb
    | bool a => exact lent_turn (.bool a) hb
    | str a => exact lent_turn (.str a) hb
    | nilp => exact lent_turn .nilp hb
    | nils h => exact .rowZ _ _
    | rptr a b c d e f g => exact lent_turn (.rptr a b c d e f g) hb
    | row a b c d e f g i j => exact lent_turn (.row a b c d e f g i j) hb
    | rowZ a b => exact lent_turn (.rowZ a b) hb
    | vptr a b => exact lent_turn (.vptr a b) hb
    | bsl a b => exact lent_turn (.bsl a b) hb
    | mapp a => exact lent_turn (.mapp a) hb
    | func a b c => exact lent_turn (.func a b c) hb
    | meth a b c => exact lent_turn (.meth a b c) hb
    | nilf => exact lent_turn .nilf hb
    | iface a => exact lent_turn (.iface a) hb
    | nili => exact lent_turn .nili hb
    | tup a b c => exact lent_turn (.tup a b c) hb
    | yield a => exact lent_turn (.yield a) hb
theorem frzA_den {E : Env} {h : HS} {w : World} (hr : RelH E h w) {args : List SV} {vals : Array Value} (hd : DenA E w args vals) (hb : BdL 0 0 (frzA h args)) : DenA E.lent w (frzA h args) vals := by
  refine ⟨by simpa [frzA_eq] using hd.1, fun i x u hx hu => ?_⟩
  have hcl := BdL_get hb i x hx
  rw [frzA_eq, List.getElem?_map] at hx
  cases hl : args[i]? with
  | none => simp [hl] at hx
  | some z =>
    simp [hl] at hx
    subst hx
    exact frzF_den hr 4 (hd.2 i z u hl hu) hcl
/-- What the callee leaves: all that was. -/
theorem lent_back {E : Env} {h : HS} {w : World} (hr : RelH E h w) {E' : Env} {w' : World} (hx : Ext E.lent w E' w') : (∀ b, b < w.heap.size → w'.heap[b]? = w.heap[b]?) ∧ Ext E w E w' := by
  have hkeep : ∀ b, b < w.heap.size → w'.heap[b]? = w.heap[b]? := fun b hb => by
    by_cases ho : E.lent.own b = none
    · exact (hx.keep b hb ho).2
    · have : E.lent.own b = some .other := by
        revert ho
        simp only [Env.lent]
        split <;> simp
      exact (hx.oth b this).2
  exact ⟨hkeep, ext_of_grow hr.own hx.os hx.tape hx.output hx.size hkeep⟩
/-- What the callee owns is new. -/
theorem lent_new {E E' : Env} {w w' : World} (hx : Ext E.lent w E' w') {b : Nat} {t : Tag} (ho : E'.own b = some t) (ht : t ≠ .other) : w.heap.size ≤ b := by
  rcases Nat.lt_or_ge b w.heap.size with h | h
  · exfalso
    by_cases hn : E.lent.own b = none
    · have := (hx.keep b h hn).1
      rw [ho] at this; cases this
    · have h2 : E.lent.own b = some .other := by
        revert hn
        simp only [Env.lent]
        split <;> simp
      have := (hx.oth b h2).1
      rw [ho] at this; cases this; exact ht rfl
  · exact h

/-- Two ways to say the same. -/
structure SameD (x y : SV) : Prop where
  out : ∀ E w v, Den E w x v → Den E w y v
theorem SameD.rfl' (x : SV) : SameD x x := ⟨fun _ _ _ h => h⟩
/- ### results with slices of the callee's own: rows, for who calls -/
def VcR (ver n sz : Nat) (f : Nat → Nat → SV) : Vc → Prop
  | .live ver' _ sz' n' f' => ver' = ver ∧ sz' = sz ∧ n' = n ∧ ∀ i j, i < n → j < sz → f' i j = f i j ∧ Sc (f i j)
  | .dead => False
def CutR (ver lo n sz : Nat) (f : Nat → Nat → SV) : Vc → Prop
  | .live ver' _ sz' n' f' => ver' = ver ∧ sz' = sz ∧ ∀ i j, i < n → j < sz → f' (lo + i) j = f i j ∧ Sc (f i j)
  | .dead => False
def RowIs (h : HS) (n sz : Nat) (f : Nat → Nat → SV) : SV → Prop
  | .vec id ver => VcR ver n sz f (getV h.vecs id)
  | .vcut id ver sz' lo n' _ => sz' = sz ∧ n' = n ∧ CutR ver lo n sz f (getV h.vecs id)
  | _ => False
def fz0 (h : HS) (u : SV) : SV → Prop
  | .row n sz f => RowIs h n sz f u
  | v => u = v ∧ Sc v
def fzL (h : HS) : List SV → List SV → Prop
  | [], [] => True
  | u :: us, v :: vs => fz0 h u v ∧ fzL h us vs
  | _, _ => False
def fzA (h : HS) (vs : List SV) : SV → Prop
  | .agg us => fzL h us vs
  | _ => False
def fz1 (h : HS) (u : SV) : SV → Prop
  | .agg vs => fzA h vs u
  | v => fz0 h u v
def fz1L (h : HS) : List SV → List SV → Prop
  | [], [] => True
  | u :: us, v :: vs => fz1 h u v ∧ fz1L h us vs
  | _, _ => False
def fzU (h : HS) (vs : List SV) : SV → Prop
  | .tup us => fz1L h us vs
  | _ => False
def FzT (h : HS) (u : SV) : SV → Prop
  | .tup vs => fzU h vs u
  | v => fz1 h u v
theorem fzL_get {h' : HS} {us vs : List SV} (h : fzL h' us vs) : us.length = vs.length ∧ ∀ (i : Nat) (u v : SV), us[i]? = some u → vs[i]? = some v → fz0 h' u v := by
  induction us generalizing vs with
  | nil => cases vs with
    | nil => exact ⟨rfl, fun i u v h => by simp at h⟩
    | cons _ _ => exact h.elim
  | cons x us ih => cases vs with
    | nil => exact h.elim
    | cons y vs =>
      obtain ⟨h1, h2⟩ := ih h.2
      refine ⟨by simp [h1], fun i u v hu hv => ?_⟩
      cases i with
      | zero => simp at hu hv; subst hu hv; exact h.1
      | succ i => exact h2 i u v (by simpa using hu) (by simpa using hv)
theorem fz1L_get {h' : HS} {us vs : List SV} (h : fz1L h' us vs) : us.length = vs.length ∧ ∀ (i : Nat) (u v : SV), us[i]? = some u → vs[i]? = some v → fz1 h' u v := by
  induction us generalizing vs with
  | nil => cases vs with
    | nil => exact ⟨rfl, fun i u v h => by simp at h⟩
    | cons _ _ => exact h.elim
  | cons x us ih => cases vs with
    | nil => exact h.elim
    | cons y vs =>
      obtain ⟨h1, h2⟩ := ih h.2
      refine ⟨by simp [h1], fun i u v hu hv => ?_⟩
      cases i with
      | zero => simp at hu hv; subst hu hv; exact h.1
      | succ i => exact h2 i u v (by simpa using hu) (by simpa using hv)
section
variable {E E' : Env} {h' : HS} {w' : World} (hr : RelH E' h' w') (hn : ∀ b id, E'.own b = some (.vec id) → E.own b = none)
include hr hn
theorem rowIs_den {n sz : Nat} {f : Nat → Nat → SV} {u : SV} {val : Value} (h : RowIs h' n sz f u) (hd : Den E' w' u val) : Den E w' (.row n sz f) val := by
  unfold RowIs at h
  split at h
  · rename_i id ver
    cases hg : getV h'.vecs id with
    | dead => rw [hg] at h; exact h.elim
    | live ver' ty sz' n' f' =>
      rw [hg] at h
      obtain ⟨rfl, rfl, rfl, hf⟩ := h
      cases hd
      rename_i a n1 cap1 hi hval
      obtain ⟨h0', ⟨a', cap', h2, h3⟩, _⟩ := hr.vec id _ _ _ _ _ hg
      rw [hval] at h2
      cases h2
      rcases h3 with ⟨_, rfl, rfl⟩ | ⟨b, o, cur, rfl, k2, k3, k4, k5, k6, k7, k8⟩
      · exact .rowZ _ _
      · have hle := Nat.le_trans (Nat.add_le_add_left (Nat.mul_le_mul_right sz' k2) o) k5
        have hget : ∀ i j, i < n' → j < sz' → cur[o + (i * sz' + j)]? = some (cur.getD (o + (i * sz' + j)) undef) := fun i j hi hj => by
          have := idx_lt hi hj
          simp [Array.getD, show o + (i * sz' + j) < cur.size by omega]
        refine .row ⟨b, o, none⟩ cap1 (fun i j => cur.getD (o + (i * sz' + j)) undef) (hr.own _ _ k6) (hn _ _ k6) k2 (fun i j hi hj => ?_) (fun i j hi hj => k7 _ _ (idx_lt hi hj) (hget i j hi hj)) (fun i j hi hj => ?_)
        · rw [Addr.add_lit]
          have := idx_lt hi hj
          have h2 : o + (i * sz' + j) < cur.size := by omega
          simp [World.cell?, k4, h2, Array.getD]
        · obtain ⟨q1, q2⟩ := hf i j hi hj
          have := k8 i j _ hi hj (hget i j hi hj)
          rw [q1] at this
          exact q2.den this
  · rename_i id ver sz1 lo n1 x1
    obtain ⟨rfl, rfl, h⟩ := h
    cases hg : getV h'.vecs id with
    | dead => rw [hg] at h; exact h.elim
    | live ver' ty sz' n' f' =>
      rw [hg] at h
      obtain ⟨rfl, rfl, hf⟩ := h
      obtain ⟨a1, a2, N1, cap1, rfl, hid, hval, hnn, hc1, ha, h0, hA, hB⟩ := hd.vcut_inv
      obtain ⟨h0', ⟨a', cap', h2, h3⟩, _⟩ := hr.vec id _ _ _ _ _ hg
      rw [hval] at h2
      cases h2
      rcases h3 with ⟨_, rfl, rfl⟩ | ⟨b, o, cur, rfl, k2, k3, k4, k5, k6, k7, k8⟩
      · obtain rfl : n1 = 0 := by omega
        exact .rowZ _ _
      · by_cases hM : (if x1 = true then lo + n1 else cap1) = lo
        · have : n1 = 0 := by cases x1 <;> simp at hM <;> omega
          subst this
          exact .rowZ _ _
        · rw [ha hM]
          have hA' : (⟨b, o, none⟩ : Addr).add (lo * sz') = ⟨b, o + lo * sz', none⟩ := by rw [Addr.add_lit]
          simp only [Option.map_some, hA']
          have hle := Nat.le_trans (Nat.add_le_add_left (Nat.mul_le_mul_right sz' k2) o) k5
          have hlt : ∀ i j, i < n1 → j < sz' → (lo + i) * sz' + j < n' * sz' := fun i j hi hj => idx_lt (by omega) hj
          have hget : ∀ i j, i < n1 → j < sz' → cur[o + ((lo + i) * sz' + j)]? = some (cur.getD (o + ((lo + i) * sz' + j)) undef) := fun i j hi hj => by
            have := hlt i j hi hj
            simp [Array.getD, show o + ((lo + i) * sz' + j) < cur.size by omega]
          refine .row ⟨b, o + lo * sz', none⟩ _ (fun i j => cur.getD (o + ((lo + i) * sz' + j)) undef) (hr.own _ _ k6) (hn _ _ k6) (by cases x1 <;> simp <;> omega) (fun i j hi hj => ?_) (fun i j hi hj => k7 _ _ (hlt i j hi hj) (hget i j hi hj)) (fun i j hi hj => ?_)
          · have e : o + lo * sz' + (i * sz' + j) = o + ((lo + i) * sz' + j) := by rw [Nat.add_mul]; omega
            rw [Addr.add_lit, ← hget i j hi hj, ← e]
            simp [World.cell?, k4]
          · obtain ⟨q1, q2⟩ := hf i j hi hj
            have := k8 (lo + i) j _ (by omega) hj (hget i j hi hj)
            rw [q1] at this
            exact q2.den this
  · exact h.elim
theorem fz0_den {u v : SV} {val : Value} (h : fz0 h' u v) (hd : Den E' w' u val) : Den E w' v val := by
  unfold fz0 at h
  split at h
  · exact rowIs_den hr hn h hd
  · obtain ⟨rfl, h2⟩ := h
    exact h2.den hd
theorem fz1_den {u v : SV} {val : Value} (h : fz1 h' u v) (hd : Den E' w' u val) : Den E w' v val := by
  unfold fz1 at h
  split at h
  · unfold fzA at h
    split at h
    · obtain ⟨l1, l2⟩ := fzL_get h
      cases hd with
      | agg vals hs h1 hd =>
      refine .agg vals (by omega) h1 (fun i x u hx hu => ?_)
      have hil := (List.getElem?_eq_some_iff.1 hx).1
      exact fz0_den hr hn (l2 i _ _ (List.getElem?_eq_getElem (by omega)) hx) (hd i _ u (List.getElem?_eq_getElem (by omega)) hu)
    · exact h.elim
  · exact fz0_den hr hn h hd
theorem fzT_den {u v : SV} {val : Value} (h : FzT h' u v) (hd : Den E' w' u val) : Den E w' v val := by
  unfold FzT at h
  split at h
  · unfold fzU at h
    split at h
    · obtain ⟨l1, l2⟩ := fz1L_get h
      cases hd with
      | tup vals hs hd =>
      refine .tup vals (by omega) (fun i x u hx hu => ?_)
      have hil := (List.getElem?_eq_some_iff.1 hx).1
      exact fz1_den hr hn (l2 i _ _ (List.getElem?_eq_getElem (h := by omega)) hx) (hd i _ u (List.getElem?_eq_getElem (h := by omega)) hu)
    · exact h.elim
  · exact fz1_den hr hn h hd
end
/-- What a function does with rows and numbers, over an empty heap: numbers come back. -/
def Base (P : Program) (g : Nat) (base : List SV → Option (Prop × SV)) : Prop :=
  ∀ args p v, base args = some (p, v) → p → BdL 0 0 args ∧ CallsS P g args ⟨[], []⟩ (fun o h' => ∃ u, o = .ret u ∧ ((Fl u ∧ SameD u v) ∨ FzT h' u v))
def lendR (r : Option (Prop × SV)) (h : HS) : Option (Prop × SV × HS) := match r with
  | some (p, v) => some (p, v, h)
  | none => none
def lendS (base : List SV → Option (Prop × SV)) : Spec := fun args h => lendR (base (frzA h args)) h

theorem lend_ok {P : Program} {g : Nat} {base : List SV → Option (Prop × SV)} (hb : Base P g base) : ∀ args h p v h1, lendS base args h = some (p, v, h1) → p → CallsS P g args h fun o h' => o = .ret v ∧ h' = h1 := by
  intro args h0 p v h1 hq hp E w vals hr hd
  unfold lendS lendR at hq
  split at hq
  rotate_left
  · cases hq
  rename_i p' v' hbase
  cases hq
  obtain ⟨b1, b3⟩ := hb _ _ _ hbase hp
  refine (b3 E.lent w vals (lent_rel hr) (frzA_den hr hd b1)).mono ?_
  rintro e w' ⟨o, h', E', ⟨u, rfl, hres⟩, hr', hx, hout⟩
  obtain ⟨hkeep, hx2⟩ := lent_back hr hx
  refine ⟨.ret v, _, E, ⟨rfl, rfl⟩, hr.quiet hx2 hkeep, hx2, ?_⟩
  cases e with
  | returned val =>
    rcases hres with ⟨hfl, hsd⟩ | hfz
    · exact hsd.out _ _ _ (hfl.den hout)
    · exact fzT_den hr' (fun b id hb => by
        have := lent_new hx hb (by intro e; cases e)
        cases ho : E.own b with
        | none => rfl
        | some t => have := hr.own b t ho; omega) hfz hout
  | panicked _ => exact hout.elim
  | outgrown => exact hout.elim

/- ### one new slice among the results -/
def VcIs (ver : Nat) (ty : TypeId) (n sz : Nat) (f : Nat → Nat → SV) : Vc → Prop
  | .live ver' ty' sz' n' f' => ver' = ver ∧ ty' = ty ∧ sz' = sz ∧ n' = n ∧ ∀ i j, i < n → j < sz → f' i j = f i j ∧ Sc (f i j)
  | .dead => False
def IsVec (h : HS) (ty : TypeId) (n sz : Nat) (f : Nat → Nat → SV) : SV → Prop
  | .vec id ver => VcIs ver ty n sz f (getV h.vecs id)
  | _ => False
def OwnL (h : HS) (ty : TypeId) : List SV → List SV → Prop
  | u :: us, .row n sz f :: vs => IsVec h ty n sz f u ∧ us = vs ∧ FlL vs
  | u :: us, v :: vs => u = v ∧ Fl1 v ∧ OwnL h ty us vs
  | _, _ => False
def OwnT (h : HS) (ty : TypeId) : SV → SV → Prop
  | .tup us, .tup vs => OwnL h ty us vs
  | u, .row n sz f => IsVec h ty n sz f u
  | _, _ => False
def takeL (M : Nat) (ty : TypeId) : List SV → List SV × Vc
  | [] => ([], .dead)
  | .row n sz f :: l => (.vec M 0 :: l, .live 0 ty sz n f)
  | x :: l => (x :: (takeL M ty l).1, (takeL M ty l).2)
def takeT (M : Nat) (ty : TypeId) : SV → SV × Vc
  | .row n sz f => (.vec M 0, .live 0 ty sz n f)
  | .tup l => (.tup (takeL M ty l).1, (takeL M ty l).2)
  | x => (x, .dead)
def BaseO (P : Program) (g : Nat) (ty : TypeId) (base : List SV → Option (Prop × SV)) : Prop :=
  ∀ args p v, base args = some (p, v) → p → BdL 0 0 args ∧ CallsS P g args ⟨[], []⟩ (fun o h' => ∃ u, o = .ret u ∧ OwnT h' ty u v)
def lendRO (ty : TypeId) (r : Option (Prop × SV)) (h : HS) : Option (Prop × SV × HS) := match r with
  | some (p, v) => some (p, (takeT (lenV h.vecs) ty v).1, { h with vecs := snocV h.vecs (takeT (lenV h.vecs) ty v).2 })
  | none => none
def lendO (ty : TypeId) (base : List SV → Option (Prop × SV)) : Spec := fun args h => lendRO ty (base (frzA h args)) h

theorem ownL_get {h : HS} {ty : TypeId} : ∀ {us vs : List SV}, OwnL h ty us vs → ∃ pre post u n sz f, us = pre ++ u :: post ∧ IsVec h ty n sz f u ∧ FlL pre ∧ FlL post ∧ ∀ M, takeL M ty vs = (pre ++ .vec M 0 :: post, .live 0 ty sz n f) := by
  intro us vs
  fun_induction OwnL h ty us vs with
  | case1 u us n sz f vs => rintro ⟨h1, rfl, h2⟩; exact ⟨[], us, u, n, sz, f, rfl, h1, trivial, h2, fun M => rfl⟩
  | case2 u us v vs hne ih =>
    rintro ⟨rfl, h1, h2⟩
    obtain ⟨pre, post, u', n, sz, f, rfl, k1, k2, k3, k4⟩ := ih h2
    exact ⟨u :: pre, post, u', n, sz, f, rfl, k1, ⟨h1, k2⟩, k3, fun M => by cases u <;> first | (simp [takeL, k4 M]; done) | exact (hne _ _ _ rfl).elim⟩
  | case3 => intro h; exact h.elim

/-- The slice that came back becomes an own one. -/
theorem adopt_ok {E E' : Env} {h0 h' : HS} {w w' : World} (hr : RelH E h0 w) (hx : Ext E.lent w E' w') (hr' : RelH E' h' w') {ty : TypeId} {n sz : Nat} {f : Nat → Nat → SV} {u : SV} {val : Value} (hv : IsVec h' ty n sz f u) (hd : Den E' w' u val) :
    ∃ E2, RelH E2 { h0 with vecs := snocV h0.vecs (.live 0 ty sz n f) } w' ∧ Ext E w E2 w' ∧ Den E2 w' (.vec (lenV h0.vecs) 0) val := by
  obtain ⟨hkeep, hx2⟩ := lent_back hr hx
  unfold IsVec at hv
  split at hv
  rotate_left
  · exact hv.elim
  rename_i id ver
  cases hd
  rename_i a n1 cap1 hi hval
  cases hg : getV h'.vecs id with
  | dead => rw [hg] at hv; exact hv.elim
  | live ver' ty' sz' n' f' =>
    rw [hg] at hv
    obtain ⟨rfl, rfl, rfl, rfl, hf⟩ := hv
    obtain ⟨h0', ⟨a', cap', h2, h3⟩, _⟩ := hr'.vec id _ _ _ _ _ hg
    rw [hval] at h2
    cases h2
    rcases h3 with ⟨hA0, rfl, rfl⟩ | ⟨b, o, cur, rfl, k2, k3, k4, k5, k6, k7, k8⟩
    · exact ⟨E.newVA a, (hr.quiet hx2 hkeep).newVecA _ _ h0' _ a hA0, hx2.trans (ext_newVA E w' a), .vec (by simp only [Env.newVA, hr.nv]; omega) (by simp [Env.newVA, hr.nv])⟩
    · obtain ⟨r1, r2⟩ := hr.adoptO (o := o) hx2 hkeep h0' (f := f) (lent_new hx k6 (by intro e; cases e)) (hr'.own _ _ k6) k2 k3 k4 k5 k7 (fun i j u hi hj hu => by
        obtain ⟨q1, q2⟩ := hf i j hi hj
        have := k8 i j u hi hj hu
        rw [q1] at this
        exact q2.den this)
      exact ⟨_, r1, r2, .vec (by simp only [Env.adopt, hr.nv]; omega) (by simp [Env.adopt, hr.nv])⟩

theorem lendO_ok {P : Program} {g : Nat} {ty : TypeId} {base : List SV → Option (Prop × SV)} (hb : BaseO P g ty base) : ∀ args h p v h1, lendO ty base args h = some (p, v, h1) → p → CallsS P g args h fun o h' => o = .ret v ∧ h' = h1 := by
  intro args h0 p v h1 hq hp E w vals hr hd
  unfold lendO lendRO at hq
  split at hq
  rotate_left
  · cases hq
  rename_i p' v' hbase
  cases hq
  obtain ⟨b1, b3⟩ := hb _ _ _ hbase hp
  refine (b3 E.lent w vals (lent_rel hr) (frzA_den hr hd b1)).mono ?_
  rintro e w' ⟨o, h', E', ⟨u, rfl, hown⟩, hr', hx, hout⟩
  cases e with
  | panicked _ => exact hout.elim
  | outgrown => exact hout.elim
  | returned val =>
    simp only at hout
    unfold OwnT at hown
    split at hown
    · rename_i us vs
      obtain ⟨pre, post, u, n, sz, f, rfl, k1, k2, k3, k4⟩ := ownL_get hown
      cases hout
      rename_i tv hts htd
      have hmid : ∃ y, tv[pre.length]? = some y := by
        have : pre.length < tv.size := by rw [hts]; simp
        exact ⟨tv[pre.length], by simp [this]⟩
      obtain ⟨y, hy⟩ := hmid
      obtain ⟨E2, r1, r2, r3⟩ := adopt_ok hr hx hr' k1 (htd pre.length u y (by simp) hy)
      refine ⟨_, _, E2, ⟨rfl, rfl⟩, ?_, r2, ?_⟩
      · simp only [takeT, k4]; exact r1
      · simp only [takeT, k4]
        refine .tup tv (by rw [hts]; simp) (fun i x z hx hz => ?_)
        rcases Nat.lt_trichotomy i pre.length with hi | hi | hi
        · rw [List.getElem?_append_left hi] at hx
          exact (FlL_get k2 i x hx).den (htd i x z (by rw [List.getElem?_append_left hi]; exact hx) hz)
        · subst hi
          rw [hy] at hz
          cases hz
          simp at hx
          subst hx
          exact r3
        · obtain ⟨d, hd'⟩ : ∃ d, i = pre.length + (d + 1) := ⟨i - pre.length - 1, by omega⟩
          subst hd'
          rw [List.getElem?_append_right (by omega)] at hx
          have e : pre.length + (d + 1) - pre.length = d + 1 := by omega
          rw [e] at hx
          simp only [List.getElem?_cons_succ] at hx
          refine (FlL_get k3 d x hx).den (htd _ x z ?_ hz)
          rw [List.getElem?_append_right (by omega), e]
          simpa using hx
    · rename_i n sz f
      obtain ⟨E2, r1, r2, r3⟩ := adopt_ok hr hx hr' hown hout
      exact ⟨_, _, E2, ⟨rfl, rfl⟩, r1, r2, r3⟩
    · exact hown.elim
end Go.Eng
end

/- Facts for reckoning the machine out. -/
section
namespace Go.Eng
open Go.RowKit
set_option linter.unusedVariables false

def lookG : List (Nat × (List SV → Option (Prop × SV))) → Nat → Option (List SV → Option (Prop × SV))
  | [], _ => none
  | (k, f) :: l, g => if g = k then some f else lookG l g
def memN : List Nat → Nat → Bool
  | [], _ => false
  | k :: l, g => if g = k then true else memN l g

/-- n temporaries, some of them known. -/
def setL (n : Nat) : List (Nat × SV) → List SV
  | [] => anys n
  | (i, x) :: l => upd (setL n l) i x
def lookS (n : Nat) : List (Nat × SV) → Nat → SV
  | [], _ => .any
  | (i, x) :: l, j => if j = i then (if i < n then x else .any) else lookS n l j
theorem anys_len (n : Nat) : (anys n).length = n := by simp [anys_eq]
theorem setL_len (n : Nat) : ∀ (l : List (Nat × SV)), (setL n l).length = n
  | [] => anys_len n
  | (i, x) :: l => by simp [setL, upd_eq, setL_len n l]
theorem nth_anys (n j : Nat) : nth (anys n) j = .any := by
  rw [nth_eq, anys_eq]
  by_cases h : j < n
  · simp [List.getD, List.getElem?_replicate, h]
  · simp [List.getD, List.getElem?_replicate, h]
theorem nth_setL (n : Nat) : ∀ (l : List (Nat × SV)) (j : Nat), nth (setL n l) j = lookS n l j
  | [], j => nth_anys n j
  | (i, x) :: l, j => by
    simp only [setL, lookS, ← nth_setL n l j]
    rw [nth_eq, upd_eq, nth_eq]
    simp only [List.getD, List.getElem?_set]
    by_cases e : j = i
    · subst e
      by_cases hl : j < n
      · simp [hl, setL_len]
      · simp [hl, setL_len]
    · simp [e, Ne.symm e]
theorem upd_setL (n i : Nat) (v : SV) (l : List (Nat × SV)) : upd (setL n l) i v = setL n ((i, v) :: l) := rfl
def numb : Nat → List SV → List (Nat × SV) → List (Nat × SV)
  | _, [], acc => acc
  | i, x :: l, acc => numb (i + 1) l ((i, x) :: acc)
theorem numb_set : ∀ (l : List SV) (pre : List SV) (m : Nat) (acc : List (Nat × SV)), setL (pre.length + (l.length + m)) acc = pre ++ anys (l.length + m) →
    setL (pre.length + (l.length + m)) (numb pre.length l acc) = pre ++ (l ++ anys m)
  | [], pre, m, acc, h => by simpa [numb] using h
  | x :: l, pre, m, acc, h => by
    have h2 := numb_set l (pre ++ [x]) m ((pre.length, x) :: acc) (by
      have e : (pre ++ [x]).length + (l.length + m) = pre.length + ((x :: l).length + m) := by simp; omega
      rw [e]
      simp only [setL, h]
      rw [upd_eq, anys_eq, anys_eq]
      have : (x :: l).length + m = (l.length + m) + 1 := by simp; omega
      rw [this, List.replicate_succ, List.set_append_right _ _ (by simp)]
      simp)
    have e : (pre ++ [x]).length + (l.length + m) = pre.length + ((x :: l).length + m) := by simp; omega
    rw [e] at h2
    simp only [numb]
    have e2 : (pre ++ [x]).length = pre.length + 1 := by simp
    rw [e2] at h2
    simpa using h2
theorem cat_setL (l : List SV) (m : Nat) : catS l (anys m) = setL (lenS l + m) (numb 0 l []) := by
  have := numb_set l [] m [] (by simp [setL])
  rw [catS_eq, lenS_eq]
  simpa using this.symm

/-- One state says no more than another one: place by place. -/
def subAs (n : Nat) (l : List (Nat × SV)) : List (Nat × SV) → Prop
  | [] => True
  | (i, x) :: k => subX (lookS n l i) x ∧ subAs n l k
theorem subX_any (x : SV) : subX x .any := by simp [subX]
theorem subL_of : ∀ {l k : List SV}, l.length = k.length → (∀ j, subX (nth l j) (nth k j)) → subL l k
  | [], [], _, _ => trivial
  | x :: l, y :: k, h, hs => ⟨hs 0, subL_of (by simpa using h) (fun j => hs (j + 1))⟩
  | [], _ :: _, h, _ => by simp at h
  | _ :: _, [], h, _ => by simp at h
theorem subAs_get {n : Nat} {l : List (Nat × SV)} : ∀ {k : List (Nat × SV)}, subAs n l k → ∀ j, subX (lookS n l j) (lookS n k j)
  | [], _, j => subX_any _
  | (i, x) :: k, h, j => by
    simp only [lookS]
    split
    · rename_i e
      subst e
      split
      · exact h.1
      · exact subX_any _
    · exact subAs_get h.2 j
theorem sub_setL {n : Nat} {l k : List (Nat × SV)} (h : subAs n l k) : subL (setL n l) (setL n k) :=
  subL_of (by simp [setL_len]) (fun j => by rw [nth_setL, nth_setL]; exact subAs_get h j)
def bdAs (L M : Nat) : List (Nat × SV) → Prop
  | [] => True
  | (_, x) :: k => Bd L M x ∧ bdAs L M k
theorem bd_anys (L M : Nat) : ∀ n, BdL L M (anys n)
  | 0 => trivial
  | n + 1 => ⟨trivial, bd_anys L M n⟩
theorem bd_upd {L M : Nat} {x : SV} (hx : Bd L M x) : ∀ {l : List SV} {i : Nat}, BdL L M l → BdL L M (upd l i x)
  | [], i, h => by cases i <;> exact h
  | y :: l, 0, h => ⟨hx, h.2⟩
  | y :: l, i + 1, h => ⟨h.1, bd_upd hx h.2⟩
theorem bd_setL {L M n : Nat} : ∀ {k : List (Nat × SV)}, bdAs L M k → BdL L M (setL n k)
  | [], _ => bd_anys L M n
  | (i, x) :: k, h => bd_upd h.1 (bd_setL h.2)
/-- A loop's state is met. -/
theorem sub_of {n : Nat} {l k : List (Nat × SV)} {h h' : HS} (hs : subAs n l k) (hb : subB h.blks h'.blks) (hv : subV h.vecs h'.vecs) (b1 : bdAs (lenB h'.blks) (lenV h'.vecs) k)
    (b2 : bdB2 (lenB h'.blks) (lenV h'.vecs) h'.blks) (b3 : bdV (lenB h'.blks) (lenV h'.vecs) h'.vecs) : SubM (setL n l) h (setL n k, h') :=
  .sub ⟨sub_setL hs, hb, hv, bd_setL b1, b2, b3⟩
/-- A loop: the states it can be in, one of them its first; each round leads to a state of lesser measure, or out. -/
theorem loop_of {R : Rn} {fid : Nat} {body : Code} {k : List It} {n : Nat} {l : List (Nat × SV)} {fs : List Fr} {h : HS} {Q : Out → HS → Prop} (ι : Type) (st : ι → List (Nat × SV)) (hs : ι → HS) (μ : ι → Nat)
    (hl : ∀ i, lenB (hs i).blks = lenB h.blks ∧ lenV (hs i).vecs = lenV h.vecs) (i0 : ι) (h0 : SubM (setL n l) h (setL n (st i0), hs i0))
    (hb : ∀ i, R fid (.code body :: .inv ι (fun i => (setL n (st i), hs i)) μ i body :: k) (setL n (st i)) fs (hs i) Q) : LoopOb R fid body k (setL n l) fs h Q :=
  .inl ⟨ι, fun i => (setL n (st i), hs i), μ, [], (fun _ h => by cases h), fun i => ⟨Nat.le_of_eq (hl i).1.symm, Nat.le_of_eq (hl i).2.symm⟩, ⟨i0, h0⟩, hb⟩
/-- The same; the states are told by the memory at the start. -/
theorem loop_ofH {R : Rn} {fid : Nat} {body : Code} {k : List It} {n : Nat} {l : List (Nat × SV)} {fs : List Fr} {h : HS} {Q : Out → HS → Prop} (ι : Type) (st : ι → List (Nat × SV)) (hs : HS → ι → HS) (μ : ι → Nat)
    (hl : ∀ i, lenB (hs h i).blks = lenB h.blks ∧ lenV (hs h i).vecs = lenV h.vecs) (i0 : ι) (h0 : SubM (setL n l) h (setL n (st i0), hs h i0))
    (hb : ∀ i, R fid (.code body :: .inv ι (fun i => (setL n (st i), hs h i)) μ i body :: k) (setL n (st i)) fs (hs h i) Q) : LoopOb R fid body k (setL n l) fs h Q :=
  .inl ⟨ι, fun i => (setL n (st i), hs h i), μ, [], (fun _ h => by cases h), fun i => ⟨Nat.le_of_eq (hl i).1.symm, Nat.le_of_eq (hl i).2.symm⟩, ⟨i0, h0⟩, hb⟩
/-- An own slice, held by a slot, that is given away. -/
theorem sub_fz1 {n : Nat} {l : List (Nat × SV)} {h : HS} {s : List SV × HS} (id j : Nat) {v ty sz m f} (h0 : getV h.vecs id = .live v ty sz m f) (hj : nth (setL n l) j = .vec id v)
    (hs : SubM (setL n ((j, .row m sz f) :: l)) { h with vecs := setV h.vecs id .dead } s) : SubM (setL n l) h s :=
  .fz id [j] h0 (fun j' hj' => by simp at hj'; subst hj'; exact hj) hs
theorem Bd_nth {L M : Nat} : ∀ {l : List SV}, BdL L M l → ∀ j, Bd L M (nth l j)
  | [], _, j => by cases j <;> exact trivial
  | x :: l, h, 0 => h.1
  | x :: l, h, j + 1 => Bd_nth h.2 j
theorem Bd_nthT {L M n : Nat} {l : List SV} (h : BdL L M l) : (∀ j, j < n → Bd L M (nth l j)) = True := eq_true fun j _ => Bd_nth h j
attribute [irreducible] setL
end Go.Eng
end

/- A call that is handed a part of what is owned: its contract over that part alone, by names of its own. -/
section
namespace Go.Eng
open Go.RowKit
set_option linter.unusedVariables false

mutual
/-- Other names. -/
def renS (b v : Nat → Nat) : SV → SV
  | .any => .any
  | .int k n => .int k n
  | .bool x => .bool x
  | .str s => .str s
  | .ptr nm off => .ptr (b nm) off
  | .nilp => .nilp
  | .nils e sz => .nils e sz
  | .rptr sz f => .rptr sz (fun j => renS b v (f j))
  | .row n sz f => .row n sz (fun i j => renS b v (f i j))
  | .vec id ver => .vec (v id) ver
  | .vptr id ver sz i off => .vptr (v id) ver sz i off
  | .func g caps => .func g (renL b v caps)
  | .nilf => .nilf
  | .iface t x => .iface t (renS b v x)
  | .nili => .nili
  | .agg l => .agg (renL b v l)
  | .tup l => .tup (renL b v l)
  | .yield nm => .yield (b nm)
  | .meth g first => .meth g (renL b v first)
  | .vcut id ver sz lo n x => .vcut (v id) ver sz lo n x
  | .bsl nm off n => .bsl (b nm) off n
  | .mapp nm => .mapp (b nm)
def renL (b v : Nat → Nat) : List SV → List SV
  | [] => []
  | x :: l => renS b v x :: renL b v l
end
theorem renL_eq (b v : Nat → Nat) (l : List SV) : renL b v l = l.map (renS b v) := by
  induction l with
  | nil => simp [renL]
  | cons x l ih => simp [renL, ih]
def renK (b v : Nat → Nat) : Blk → Blk
  | .live ty c => .live ty (renL b v c)
  | .dead => .dead
  | .loop st pend fid t params assign body => .loop st pend fid (renL b v t) params assign body
  | .mp m => .mp m
def renC (b v : Nat → Nat) : Vc → Vc
  | .live ver ty sz n f => .live ver ty sz n (fun i j => renS b v (f i j))
  | .dead => .dead
def renO (b v : Nat → Nat) : Out → Out
  | .ret x => .ret (renS b v x)
  | .pan x => .pan (renS b v x)
  | .fin p ts => .fin (p.map (renS b v)) (renL b v ts)
  | .stop k t => .stop k (renL b v t)
  | .rnd x => .rnd (renS b v x)

section
variable {E E0 : Env} {w : World} {b v : Nat → Nat} {L M : Nat}
/-- From the small names to the great ones. -/
theorem Den.ren {x : SV} {u : Value} (hd : Den E0 w x u) (hb : Bd L M x) (h1 : ∀ nm, nm < L → nm < E0.nb → b nm < E.nb ∧ E.rho (b nm) = E0.rho nm) (h2 : ∀ id ver y, id < M → id < E0.nv → E0.val id ver = some y → v id < E.nv ∧ E.val (v id) ver = some y)
    (h3 : ∀ k, k < w.heap.size → E0.own k = none → E.own k = none) : Den E w (renS b v x) u := by
  induction hd with
  | any u => rw [renS]; exact .any u
  | int k n => rw [renS]; exact .int k n
  | bool x => rw [renS]; exact .bool x
  | str s => rw [renS]; exact .str s
  | @ptr nm off hn => simp only [Bd] at hb; rw [renS]; obtain ⟨q1, q2⟩ := h1 nm hb hn; rw [← q2]; exact .ptr q1
  | nilp => rw [renS]; exact .nilp
  | nils h => rw [renS]; exact .nils h
  | @rptr sz f A g hA ho hc h1' hd ih => simp only [Bd] at hb; rw [renS]; exact .rptr A g hA (h3 _ hA ho) hc h1' (fun j hj => ih j hj (hb j hj))
  | @row n sz f A cap g hA ho hn hc h1' hd ih => simp only [Bd] at hb; rw [renS]; exact .row A cap g hA (h3 _ hA ho) hn hc h1' (fun i j hi hj => ih i j hi hj (hb i j hi hj))
  | rowZ a cap => rw [renS]; exact .rowZ a cap
  | vec hi hv => simp only [Bd] at hb; rw [renS]; obtain ⟨q1, q2⟩ := h2 _ _ _ hb hi hv; exact .vec q1 q2
  | vptr hi hv => simp only [Bd] at hb; rw [renS]; obtain ⟨q1, q2⟩ := h2 _ _ _ hb hi hv; exact .vptr q1 q2
  | vcut hi hv hn hc ha h0 hA hB => simp only [Bd] at hb; rw [renS]; obtain ⟨q1, q2⟩ := h2 _ _ _ hb hi hv; exact .vcut q1 q2 hn hc ha h0 hA hB
  | @bsl nm off n cap hn hc => simp only [Bd] at hb; rw [renS]; obtain ⟨q1, q2⟩ := h1 nm hb hn; rw [← q2]; exact .bsl q1 hc
  | @mapp nm hn => simp only [Bd] at hb; rw [renS]; obtain ⟨q1, q2⟩ := h1 nm hb hn; rw [← q2]; exact .mapp q1
  | func vs hs hd ih =>
    simp only [Bd] at hb; rw [renS]
    refine .func vs (by rw [renL_eq]; simpa using hs) (fun i x u hx hu => ?_)
    rw [renL_eq, List.getElem?_map, Option.map_eq_some_iff] at hx
    obtain ⟨y, hy, rfl⟩ := hx
    exact ih i y u hy hu (BdL_get hb i y hy)
  | meth vs hs hd ih =>
    simp only [Bd] at hb; rw [renS]
    refine .meth vs (by rw [renL_eq]; simpa using hs) (fun i x u hx hu => ?_)
    rw [renL_eq, List.getElem?_map, Option.map_eq_some_iff] at hx
    obtain ⟨y, hy, rfl⟩ := hx
    exact ih i y u hy hu (BdL_get hb i y hy)
  | nilf => rw [renS]; exact .nilf
  | iface _ ih => simp only [Bd] at hb; rw [renS]; exact .iface (ih hb)
  | nili => rw [renS]; exact .nili
  | agg vs hs h1' hd ih =>
    simp only [Bd] at hb; rw [renS]
    refine .agg vs (by rw [renL_eq]; simpa using hs) h1' (fun i x u hx hu => ?_)
    rw [renL_eq, List.getElem?_map, Option.map_eq_some_iff] at hx
    obtain ⟨y, hy, rfl⟩ := hx
    exact ih i y u hy hu (BdL_get hb i y hy)
  | tup vs hs hd ih =>
    simp only [Bd] at hb; rw [renS]
    refine .tup vs (by rw [renL_eq]; simpa using hs) (fun i x u hx hu => ?_)
    rw [renL_eq, List.getElem?_map, Option.map_eq_some_iff] at hx
    obtain ⟨y, hy, rfl⟩ := hx
    exact ih i y u hy hu (BdL_get hb i y hy)
  | @yield nm hn => simp only [Bd] at hb; rw [renS]; obtain ⟨q1, q2⟩ := h1 nm hb hn; rw [← q2]; exact .yield q1

mutual
/-- And back. -/
theorem Den.unren (h1 : ∀ nm, nm < L → nm < E0.nb ∧ E0.rho nm = E.rho (b nm)) (h2 : ∀ id ver y, id < M → E.val (v id) ver = some y → id < E0.nv ∧ E0.val id ver = some y) (h3 : ∀ k, k < w.heap.size → E.own k = none → E0.own k = none) : ∀ (x : SV) (u : Value), Den E w (renS b v x) u → Bd L M x → Den E0 w x u
  | .any, u, _, _ => .any u
  | .int k n, u, h, _ => by rw [renS] at h; cases h; exact .int k n
  | .bool x, u, h, _ => by rw [renS] at h; cases h; exact .bool x
  | .str s, u, h, _ => by rw [renS] at h; cases h; exact .str s
  | .ptr nm off, u, h, hb => by rw [renS] at h; simp only [Bd] at hb; cases h; obtain ⟨q1, q2⟩ := h1 nm hb; rw [← q2]; exact .ptr q1
  | .nilp, u, h, _ => by rw [renS] at h; cases h; exact .nilp
  | .nils _ _, u, h, _ => by rw [renS] at h; cases h; exact .nils ‹_›
  | .rptr sz f, u, h, hb => by
    rw [renS] at h; simp only [Bd] at hb
    cases h with
    | rptr A g hA ho hc h1' hd => exact .rptr A g hA (h3 _ hA ho) hc h1' (fun j hj => Den.unren h1 h2 h3 (f j) _ (hd j hj) (hb j hj))
  | .row n sz f, u, h, hb => by
    rw [renS] at h; simp only [Bd] at hb
    cases h with
    | row A cap g hA ho hn hc h1' hd => exact .row A cap g hA (h3 _ hA ho) hn hc h1' (fun i j hi hj => Den.unren h1 h2 h3 (f i j) _ (hd i j hi hj) (hb i j hi hj))
    | rowZ a cap => exact .rowZ a cap
  | .vec id ver, u, h, hb => by
    rw [renS] at h; simp only [Bd] at hb
    cases h with
    | vec hi hv => obtain ⟨q1, q2⟩ := h2 _ _ _ hb hv; exact .vec q1 q2
  | .vptr id ver sz i off, u, h, hb => by
    rw [renS] at h; simp only [Bd] at hb
    cases h with
    | vptr hi hv => obtain ⟨q1, q2⟩ := h2 _ _ _ hb hv; exact .vptr q1 q2
  | .func g caps, u, h, hb => by
    rw [renS] at h; simp only [Bd] at hb
    cases h with
    | func vs hs hd => exact .func vs (by rw [renL_eq] at hs; simpa using hs) (Den.unrenL h1 h2 h3 caps vs (fun i x u hx hu => hd i x u hx hu) hb)
  | .nilf, u, h, _ => by rw [renS] at h; cases h; exact .nilf
  | .iface t x, u, h, hb => by
    rw [renS] at h; simp only [Bd] at hb
    cases h with
    | iface hv => exact .iface (Den.unren h1 h2 h3 x _ hv hb)
  | .nili, u, h, _ => by rw [renS] at h; cases h; exact .nili
  | .agg l, u, h, hb => by
    rw [renS] at h; simp only [Bd] at hb
    cases h with
    | agg vs hs h1' hd => exact .agg vs (by rw [renL_eq] at hs; simpa using hs) h1' (Den.unrenL h1 h2 h3 l vs (fun i x u hx hu => hd i x u hx hu) hb)
  | .tup l, u, h, hb => by
    rw [renS] at h; simp only [Bd] at hb
    cases h with
    | tup vs hs hd => exact .tup vs (by rw [renL_eq] at hs; simpa using hs) (Den.unrenL h1 h2 h3 l vs (fun i x u hx hu => hd i x u hx hu) hb)
  | .yield nm, u, h, hb => by rw [renS] at h; simp only [Bd] at hb; cases h; obtain ⟨q1, q2⟩ := h1 nm hb; rw [← q2]; exact .yield q1
  | .meth g first, u, h, hb => by
    rw [renS] at h; simp only [Bd] at hb
    cases h with
    | meth vs hs hd => exact .meth vs (by rw [renL_eq] at hs; simpa using hs) (Den.unrenL h1 h2 h3 first vs (fun i x u hx hu => hd i x u hx hu) hb)
  | .vcut id ver sz lo n x, u, h, hb => by
    rw [renS] at h; simp only [Bd] at hb
    cases h with
    | vcut hi hv hn hc ha h0 hA hB => obtain ⟨q1, q2⟩ := h2 _ _ _ hb hv; exact .vcut q1 q2 hn hc ha h0 hA hB
  | .bsl nm off n, u, h, hb => by
    rw [renS] at h; simp only [Bd] at hb
    cases h with
    | bsl hn hc => obtain ⟨q1, q2⟩ := h1 nm hb; rw [← q2]; exact .bsl q1 hc
  | .mapp nm, u, h, hb => by rw [renS] at h; simp only [Bd] at hb; cases h; obtain ⟨q1, q2⟩ := h1 nm hb; rw [← q2]; exact .mapp q1
theorem Den.unrenL (h1 : ∀ nm, nm < L → nm < E0.nb ∧ E0.rho nm = E.rho (b nm)) (h2 : ∀ id ver y, id < M → E.val (v id) ver = some y → id < E0.nv ∧ E0.val id ver = some y) (h3 : ∀ k, k < w.heap.size → E.own k = none → E0.own k = none) : ∀ (l : List SV) (vs : Array Value), (∀ (i : Nat) (x : SV) (u : Value), (renL b v l)[i]? = some x → vs[i]? = some u → Den E w x u) → BdL L M l → ∀ (i : Nat) (x : SV) (u : Value), l[i]? = some x → vs[i]? = some u → Den E0 w x u
  | [], vs, _, _, i, x, u, hx, _ => by simp at hx
  | y :: l, vs, h, hb, 0, x, u, hx, hu => by
    simp only [BdL] at hb
    simp at hx; subst hx
    exact Den.unren h1 h2 h3 y u (h 0 _ u (by rw [renL]; rfl) hu) hb.1
  | y :: l, vs, h, hb, i + 1, x, u, hx, hu => by
    simp only [BdL] at hb
    exact Den.unrenL h1 h2 h3 l (vs.extract 1 vs.size) (fun j x u hx hu => h (j + 1) x u (by rw [renL]; simpa using hx) (by rw [Array.getElem?_extract] at hu; split at hu <;> simp_all [Nat.add_comm])) hb.2 i x u (by simpa using hx) (by
      rw [Array.getElem?_extract]
      have := (Array.getElem?_eq_some_iff.1 hu).1
      rw [if_pos (by omega), Nat.add_comm]
      exact hu)
end
end

def nmN : List Nat → Nat → Nat
  | [], _ => 0
  | x :: _, 0 => x
  | _ :: l, n + 1 => nmN l n
def ixN : List Nat → Nat → Option Nat
  | [], _ => none
  | x :: l, k => if x = k then some 0 else (ixN l k).map (· + 1)
theorem ixN_some : ∀ {l : List Nat} {k i : Nat}, ixN l k = some i → i < l.length ∧ nmN l i = k
  | [], k, i, h => by simp [ixN] at h
  | x :: l, k, i, h => by
    simp only [ixN] at h
    split at h
    · rename_i e; cases h; exact ⟨by simp, e⟩
    · rw [Option.map_eq_some_iff] at h
      obtain ⟨j, hj, rfl⟩ := h
      obtain ⟨h1, h2⟩ := ixN_some hj
      exact ⟨by simp; omega, h2⟩
theorem nmN_mem : ∀ {l : List Nat} {i : Nat}, i < l.length → nmN l i ∈ l
  | [], i, h => by simp at h
  | x :: l, 0, _ => by simp [nmN]
  | x :: l, i + 1, h => by simp only [nmN]; exact List.mem_cons_of_mem _ (nmN_mem (by simpa using h))
theorem ixN_notin : ∀ {l : List Nat} {k : Nat}, k ∉ l → ixN l k = none
  | [], k, _ => rfl
  | x :: l, k, h => by
    simp only [List.mem_cons, not_or] at h
    simp only [ixN]
    rw [if_neg (fun e => h.1 e.symm), ixN_notin h.2]
    rfl
theorem ixN_nm : ∀ {l : List Nat} {i : Nat}, l.Nodup → i < l.length → ixN l (nmN l i) = some i
  | [], i, _, h => by simp at h
  | x :: l, 0, _, _ => by simp [nmN, ixN]
  | x :: l, i + 1, hn, h => by
    simp only [List.nodup_cons] at hn
    have h' : i < l.length := by simpa using h
    have hm := nmN_mem h'
    show ixN (x :: l) (nmN l i) = some (i + 1)
    unfold ixN
    split
    · rename_i e; exact absurd (by rw [e]; exact hm) hn.1
    · rw [ixN_nm hn.2 h']; rfl
def putB (b v : Nat → Nat) : List Nat → List Blk → List Blk → List Blk
  | k :: bs, h, x :: l => putB b v bs (setB h k (renK b v x)) l
  | _, h, _ => h
def putV (b v : Nat → Nat) : List Nat → List Vc → List Vc → List Vc
  | k :: vs, h, x :: l => putV b v vs (setV h k (renC b v x)) l
  | _, h, _ => h
theorem lenB_put (b v : Nat → Nat) : ∀ (bs : List Nat) (h l : List Blk), lenB (putB b v bs h l) = lenB h
  | [], _, _ => by simp [putB]
  | _ :: _, _, [] => by simp [putB]
  | k :: bs, h, x :: l => by simp only [putB, lenB_put b v bs, lenB_set]
theorem lenV_put (b v : Nat → Nat) : ∀ (vs : List Nat) (h l : List Vc), lenV (putV b v vs h l) = lenV h
  | [], _, _ => by simp [putV]
  | _ :: _, _, [] => by simp [putV]
  | k :: vs, h, x :: l => by simp only [putV, lenV_put b v vs, lenV_set]
theorem getB_put (b v : Nat → Nat) : ∀ (bs : List Nat) (h l : List Blk), bs.Nodup → lenB l = bs.length → (∀ k, k ∈ bs → k < lenB h) → ∀ nm, getB (putB b v bs h l) nm = match ixN bs nm with | some i => renK b v (getB l i) | none => getB h nm
  | [], h, l, _, _, _, nm => by simp [putB, ixN]
  | _ :: _, _, [], _, hl, _, _ => by simp [lenB] at hl
  | k :: bs, h, x :: l, hn, hl, hlt, nm => by
    simp only [List.nodup_cons] at hn
    have ih := getB_put b v bs (setB h k (renK b v x)) l hn.2 (by simpa [lenB] using hl) (fun q hq => by rw [lenB_set]; exact hlt q (List.mem_cons_of_mem _ hq)) nm
    simp only [putB, ih, ixN]
    by_cases e : k = nm
    · subst e
      rw [ixN_notin hn.1, if_pos rfl]
      simp only [getB_set]
      rw [if_pos ⟨trivial, hlt k List.mem_cons_self⟩]
      simp [getB]
    · rw [if_neg e]
      cases hi : ixN bs nm with
      | none =>
        simp only [Option.map_none, getB_set]
        rw [if_neg (fun h => e h.1.symm)]
      | some i => simp [getB]
theorem getV_put (b v : Nat → Nat) : ∀ (vs : List Nat) (h l : List Vc), vs.Nodup → lenV l = vs.length → (∀ k, k ∈ vs → k < lenV h) → ∀ nm, getV (putV b v vs h l) nm = match ixN vs nm with | some i => renC b v (getV l i) | none => getV h nm
  | [], h, l, _, _, _, nm => by simp [putV, ixN]
  | _ :: _, _, [], _, hl, _, _ => by simp [lenV] at hl
  | k :: vs, h, x :: l, hn, hl, hlt, nm => by
    simp only [List.nodup_cons] at hn
    have ih := getV_put b v vs (setV h k (renC b v x)) l hn.2 (by simpa [lenV] using hl) (fun q hq => by rw [lenV_set]; exact hlt q (List.mem_cons_of_mem _ hq)) nm
    simp only [putV, ih, ixN]
    by_cases e : k = nm
    · subst e
      rw [ixN_notin hn.1, if_pos rfl]
      simp only [getV_set]
      rw [if_pos ⟨trivial, hlt k List.mem_cons_self⟩]
      simp [getV]
    · rw [if_neg e]
      cases hi : ixN vs nm with
      | none =>
        simp only [Option.map_none, getV_set]
        rw [if_neg (fun h => e h.1.symm)]
      | some i => simp [getV]
/-- The small heap is what lies under the names. -/
def matB (b v : Nat → Nat) : List Nat → List Blk → List Blk → Prop
  | k :: bs, h, x :: l => getB h k = renK b v x ∧ matB b v bs h l
  | [], _, [] => True
  | _, _, _ => False
def matV (b v : Nat → Nat) : List Nat → List Vc → List Vc → Prop
  | k :: vs, h, x :: l => getV h k = renC b v x ∧ matV b v vs h l
  | [], _, [] => True
  | _, _, _ => False
theorem matB_get {b v : Nat → Nat} : ∀ {bs : List Nat} {h l : List Blk}, matB b v bs h l → lenB l = bs.length ∧ ∀ i, i < bs.length → getB h (nmN bs i) = renK b v (getB l i)
  | [], _, [], _ => ⟨rfl, fun i hi => by simp at hi⟩
  | [], _, _ :: _, h => h.elim
  | _ :: _, _, [], h => h.elim
  | k :: bs, h, x :: l, hm => by
    obtain ⟨h1, h2⟩ := matB_get hm.2
    refine ⟨by simp [lenB, h1], fun i hi => ?_⟩
    cases i with
    | zero => exact hm.1
    | succ i => exact h2 i (by simpa using hi)
theorem matV_get {b v : Nat → Nat} : ∀ {vs : List Nat} {h l : List Vc}, matV b v vs h l → lenV l = vs.length ∧ ∀ i, i < vs.length → getV h (nmN vs i) = renC b v (getV l i)
  | [], _, [], _ => ⟨rfl, fun i hi => by simp at hi⟩
  | [], _, _ :: _, h => h.elim
  | _ :: _, _, [], h => h.elim
  | k :: vs, h, x :: l, hm => by
    obtain ⟨h1, h2⟩ := matV_get hm.2
    refine ⟨by simp [lenV, h1], fun i hi => ?_⟩
    cases i with
    | zero => exact hm.1
    | succ i => exact h2 i (by simpa using hi)
def bdO (L M : Nat) : Out → Prop
  | .ret x => Bd L M x
  | .pan x => Bd L M x
  | _ => True
def tagS (bs vs : List Nat) : Option Tag → Option Tag
  | some (.blk m) => match ixN bs m with
    | some i => some (.blk i)
    | none => some .other
  | some (.vec m) => match ixN vs m with
    | some i => some (.vec i)
    | none => some .other
  | some .other => some .other
  | none => none
def Env.small (E : Env) (bs vs : List Nat) : Env :=
  { nb := bs.length, rho := fun i => E.rho (nmN bs i), nv := vs.length, val := fun i ver => E.val (nmN vs i) ver, own := fun k => tagS bs vs (E.own k) }
def tagG (bs vs : List Nat) (old : Option Tag) (s : Option Tag) : Option Tag → Option Tag
  | some (.blk i) => if i < bs.length then some (.blk (nmN bs i)) else some .other
  | some (.vec i) => if i < vs.length then some (.vec (nmN vs i)) else some .other
  | some .other => match s with
    | some .other => old
    | _ => some .other
  | none => none
def Env.great (E E0 : Env) (bs vs : List Nat) : Env :=
  { nb := E.nb, rho := E.rho, nv := E.nv, val := fun id ver => match ixN vs id with | some i => E0.val i ver | none => E.val id ver, own := fun k => tagG bs vs (E.own k) (tagS bs vs (E.own k)) (E0.own k) }

end Go.Eng
end

/- The seat's context. -/
section
namespace Go.Eng
open Go Go.RowKit Go.Proofs
theorem den_row_congr {E : Env} {w : World} {n sz : Nat} {f f' : Nat → Nat → SV} (h : ∀ i j, i < n → j < sz → f i j = f' i j) {v : Value} (hd : Den E w (.row n sz f) v) : Den E w (.row n sz f') v := by
  cases hd with
  | row A cap g hA ho hn hc h1 hd => exact .row A cap g hA ho hn hc h1 (fun i j hi hj => by rw [← h i j hi hj]; exact hd i j hi hj)
  | rowZ a cap => exact .rowZ a cap
theorem SameD.int {n sz : Nat} {f : Nat → Nat → SV} (h : IntR n sz f) : SameD (.row n sz f) (.row n sz fun i j => .int .i64 (iv (f i j))) := ⟨fun _ _ _ hd => den_row_congr h hd⟩
def rowF (k : IntKind) (a : Nat → Nat → Int) : Nat → Nat → SV := fun i j => .int k (a i j)
theorem rowF_eq (k : IntKind) (a : Nat → Nat → Int) : rowF k a = fun i j => .int k (a i j) := rfl
def SameL : List SV → List SV → Prop
  | [], [] => True
  | x :: l, y :: k => SameD x y ∧ SameL l k
  | _, _ => False
theorem SameL.den {E : Env} {w : World} : ∀ {l k : List SV}, SameL l k → l.length = k.length ∧ ∀ (i : Nat) (y : SV), k[i]? = some y → ∃ x, l[i]? = some x ∧ ∀ v, Den E w x v → Den E w y v
  | [], [], _ => ⟨rfl, fun i y h => by simp at h⟩
  | x :: l, y :: k, h => by
    obtain ⟨h1, h2⟩ := SameL.den (E := E) (w := w) h.2
    refine ⟨by simp [h1], fun i z hz => ?_⟩
    cases i with
    | zero => simp at hz; subst hz; exact ⟨x, rfl, fun v hv => h.1.out _ _ _ hv⟩
    | succ i => exact h2 i z (by simpa using hz)
  | [], _ :: _, h => h.elim
  | _ :: _, [], h => h.elim
theorem calls_congr {P : Program} {g : Nat} {args args' : List SV} {h : HS} {K : Out → HS → Prop} (hs : SameL args args') (hc : CallsS P g args' h K) : CallsS P g args h K := fun E w vals hr hd => by
  obtain ⟨h1, h2⟩ := hs.den (E := E) (w := w)
  exact hc E w vals hr ⟨by rw [hd.1, h1], fun i y u hy hu => by
    obtain ⟨x, hx, hv⟩ := h2 i y hy
    exact hv u (hd.2 i x u hx hu)⟩
abbrev BaseF : Type := List SV → Option (Prop × SV)
def lookP : List (Nat × Nat × Plan) → Nat → Nat → Option Plan
  | [], _, _ => none
  | (a, b, p) :: l, g, id => if g = a then if id = b then some p else lookP l g id else lookP l g id
def lookO : List (Nat × Nat × BaseF) → Nat → Option (Nat × BaseF)
  | [], _ => none
  | (k, x) :: l, g => if g = k then some x else lookO l g
def mapS : Option BaseF → Option (Nat × BaseF) → Option Spec
  | some f, _ => some (lendS f)
  | none, some (ty, f) => some (lendO ty f)
  | none, none => none
noncomputable def cx (hof : List Nat) (OL : List (Nat × Nat × BaseF)) (GL : List (Nat × BaseF)) (PL : List (Nat × Nat × Plan)) (D : Option (List Nat)) : Ctx :=
  ctx0 Try.prog tabL (memN hof) (fun g => mapS (lookG GL g) (lookO OL g)) (lookP PL) D
section
variable (hof : List Nat) (OL : List (Nat × Nat × BaseF)) (GL : List (Nat × BaseF)) (PL : List (Nat × Nat × Plan)) (D : Option (List Nat))
theorem cx_P : (cx hof OL GL PL D).P = Try.prog := rfl
theorem cx_T : (cx hof OL GL PL D).T = tab := rfl
theorem cx_F : (cx hof OL GL PL D).F = entB Try.prog := rfl
theorem cx_FN (g : Nat) : (cx hof OL GL PL D).FN g = Try.prog.funcs[g]? := rfl
theorem cx_inl (g : Nat) : (cx hof OL GL PL D).inl g = !memN hof g := rfl
theorem cx_G (g : Nat) : (cx hof OL GL PL D).G g = mapS (lookG GL g) (lookO OL g) := rfl
theorem cx_plan (g id : Nat) : (cx hof OL GL PL D).plan g id = lookP PL g id := rfl
theorem cx_D : (cx hof OL GL PL D).D = D := rfl
theorem cx_rs : (cx hof OL GL PL D).rs = false := rfl
theorem cx_off : (cx hof OL GL PL D).off = cx hof OL GL PL none := rfl
end
theorem lookG_mem : ∀ {l : List (Nat × BaseF)} {g : Nat} {f : BaseF}, lookG l g = some f → (g, f) ∈ l
  | [], g, f, h => by simp [lookG] at h
  | (k, x) :: l, g, f, h => by
    simp only [lookG] at h
    split at h
    · rename_i e; cases h; subst e; simp
    · exact List.mem_cons_of_mem _ (lookG_mem h)
theorem lookO_mem : ∀ {l : List (Nat × Nat × BaseF)} {g : Nat} {x : Nat × BaseF}, lookO l g = some x → (g, x) ∈ l
  | [], g, f, h => by simp [lookO] at h
  | (k, x) :: l, g, f, h => by
    simp only [lookO] at h
    split at h
    · rename_i e; cases h; subst e; simp
    · exact List.mem_cons_of_mem _ (lookO_mem h)
/-- Every contract of a list holds. -/
def AllB : List (Nat × BaseF) → Prop
  | [] => True
  | (g, b) :: l => Base Try.prog g b ∧ AllB l
def AllO : List (Nat × Nat × BaseF) → Prop
  | [] => True
  | (g, ty, b) :: l => BaseO Try.prog g ty b ∧ AllO l
theorem AllB_mem : ∀ {l : List (Nat × BaseF)}, AllB l → ∀ x ∈ l, Base Try.prog x.1 x.2
  | [], _, x, hx => by simp at hx
  | (g, b) :: l, h, x, hx => by
    rcases List.mem_cons.1 hx with rfl | hx
    · exact h.1
    · exact AllB_mem h.2 x hx
theorem AllO_mem : ∀ {l : List (Nat × Nat × BaseF)}, AllO l → ∀ x ∈ l, BaseO Try.prog x.1 x.2.1 x.2.2
  | [], _, x, hx => by simp at hx
  | (g, b) :: l, h, x, hx => by
    rcases List.mem_cons.1 hx with rfl | hx
    · exact h.1
    · exact AllO_mem h.2 x hx
theorem cx_ok {hof : List Nat} {OL : List (Nat × Nat × BaseF)} {GL : List (Nat × BaseF)} {PL : List (Nat × Nat × Plan)} {D : Option (List Nat)} (hO : AllO OL) (h : AllB GL) : CtxOk (cx hof OL GL PL D) :=
  ctx0_ok tab_chk _ _ _ _ (fun g f hf args h0 p v h1 hq hp => by
    cases hl : lookG GL g with
    | none =>
      cases hm : lookO OL g with
      | none => rw [hl, hm] at hf; cases hf
      | some x =>
        rw [hl, hm] at hf
        cases hf
        exact lendO_ok (AllO_mem hO _ (lookO_mem hm)) args h0 p v h1 hq hp
    | some b =>
      rw [hl] at hf
      cases hf
      exact lend_ok (AllB_mem h _ (lookG_mem hl)) args h0 p v h1 hq hp) (by kernel_rfl)
theorem calls_mono {P : Program} {g : Nat} {args : List SV} {h : HS} {K K' : Out → HS → Prop} (hk : ∀ o h', K o h' → K' o h') (hc : CallsS P g args h K) : CallsS P g args h K' := fun E w vals hr hd =>
  (hc E w vals hr hd).mono fun _ _ ⟨o, h', E', q, r⟩ => ⟨o, h', E', hk o h' q, r⟩
theorem SameD.row0 {sz sz' : Nat} {f f' : Nat → Nat → SV} : SameD (.row 0 sz f) (.row 0 sz' f') := ⟨fun _ _ _ hd => by cases hd <;> exact .rowZ _ _⟩
theorem SameD.tup {l k : List SV} (h : SameL l k) : SameD (.tup l) (.tup k) := ⟨fun E w v hd => by
  cases hd
  rename_i vs hs hd
  obtain ⟨h1, h2⟩ := h.den (E := E) (w := w)
  exact .tup vs (by rw [← h1]; exact hs) (fun i y u hy hu => by
    obtain ⟨x, hx, hv⟩ := h2 i y hy
    exact hv u (hd i x u hx hu))⟩
theorem SameD.agg {l k : List SV} (h : SameL l k) : SameD (.agg l) (.agg k) := ⟨fun E w v hd => by
  obtain ⟨h1, h2⟩ := h.den (E := E) (w := w)
  match v, hd with
  | _, .agg vs hs h1' hd => exact .agg vs (by rw [← h1]; exact hs) h1' (fun i y u hy hu => by
      obtain ⟨x, hx, hv⟩ := h2 i y hy
      exact hv u (hd i x u hx hu))⟩
theorem SameD.rptr {sz : Nat} {f g : Nat → SV} (h : ∀ j, j < sz → SameD (f j) (g j)) : SameD (.rptr sz f) (.rptr sz g) := ⟨fun E w v hd => by
  match v, hd with
  | _, .rptr A gg hA ho hc h1 hd => exact .rptr A gg hA ho hc h1 (fun j hj => (h j hj).1 E w _ (hd j hj))⟩
/-- A row of bools. -/
def bvf (f : Nat → Nat → SV) : Nat → Bool := fun i => match f i 0 with
  | .bool b => b
  | _ => false
theorem bvf_lit (p : Nat → Bool) : bvf (fun i _ => .bool (p i)) = p := rfl
def BoolR (n : Nat) (f : Nat → Nat → SV) : Prop := ∀ i j, i < n → j < 1 → f i j = .bool (bvf f i)
theorem boolR_lit (n : Nat) (p : Nat → Bool) : BoolR n (fun i _ => .bool (p i)) = True := eq_true fun _ _ _ _ => rfl
/-- A contract out of a run over an empty heap. -/
theorem base_of {C : Ctx} (hC : CtxOk C) (hD : C.off = C) {g : Nat} {fn : Func} {c : Code} (hf : C.FN g = some fn) (hb : fn.body = some c) {args args' : List SV} {v : SV} (n : Nat) (h1 : BdL 0 0 args) (hs : SameL args args')
    (hrun : run C n g [.code c] (catS args' (anys (fn.ntmps - lenS args'))) [] ⟨[], []⟩ (fun o h' => ∃ u, o = .ret u ∧ Fl u ∧ u = v)) :
    BdL 0 0 args ∧ CallsS C.P g args ⟨[], []⟩ (fun o h' => ∃ u, o = .ret u ∧ ((Fl u ∧ SameD u v) ∨ FzT h' u v)) :=
  ⟨h1, calls_mono (fun _ _ ⟨u, e1, e2, e3⟩ => ⟨u, e1, .inl ⟨e2, by rw [e3]; exact SameD.rfl' _⟩⟩) (calls_congr hs (calls_of_run hC hD hf hb n hrun))⟩
theorem baseO_of {C : Ctx} (hC : CtxOk C) (hD : C.off = C) {g : Nat} {fn : Func} {c : Code} (hf : C.FN g = some fn) (hb : fn.body = some c) {ty : TypeId} {args args' : List SV} {v : SV} (n : Nat) (h1 : BdL 0 0 args) (hs : SameL args args')
    (hrun : run C n g [.code c] (catS args' (anys (fn.ntmps - lenS args'))) [] ⟨[], []⟩ (fun o h' => ∃ u, o = .ret u ∧ OwnT h' ty u v)) :
    BdL 0 0 args ∧ CallsS C.P g args ⟨[], []⟩ (fun o h' => ∃ u, o = .ret u ∧ OwnT h' ty u v) :=
  ⟨h1, calls_congr hs (calls_of_run hC hD hf hb n hrun)⟩
theorem retQ (x v : SV) : (∃ u, Out.ret x = Out.ret u ∧ Fl u ∧ u = v) = (Fl x ∧ x = v) :=
  propext ⟨fun ⟨u, e, h1, h2⟩ => by cases e; exact ⟨h1, h2⟩, fun ⟨h1, h2⟩ => ⟨x, rfl, h1, h2⟩⟩
theorem retF (h : HS) (x v : SV) : (∃ u, Out.ret x = Out.ret u ∧ FzT h u v) = FzT h x v :=
  propext ⟨fun ⟨u, e, h1⟩ => by cases e; exact h1, fun h1 => ⟨x, rfl, h1⟩⟩
theorem retP (x : SV) (P : SV → Prop) : (∃ u, Out.ret x = Out.ret u ∧ P u) = P x :=
  propext ⟨fun ⟨u, e, h1⟩ => by cases e; exact h1, fun h1 => ⟨x, rfl, h1⟩⟩
theorem retO (h : HS) (ty : TypeId) (x v : SV) : (∃ u, Out.ret x = Out.ret u ∧ OwnT h ty u v) = OwnT h ty x v :=
  propext ⟨fun ⟨u, e, h1⟩ => by cases e; exact h1, fun h1 => ⟨x, rfl, h1⟩⟩
theorem frzF_ite (k : Nat) (h : HS) (c : Prop) [Decidable c] (x y : SV) : frzF k h (if c then x else y) = if c then frzF k h x else frzF k h y := by split <;> rfl
end Go.Eng
end
