/- DERIVED HERE, by gen_tab.py: the table of types for the clean layer. -/
import Derived.Test.YtoophlkbngagcaaDoorClC
import Derived.Test.YtoophlkbngagcaaDoorProg
namespace Go.Cl
open Go.Proofs
def tabL : List (TypeId × TI) := [
  (1, ⟨.func, 1, 8, [.fn]⟩),
  (2, ⟨.int .i64, 1, 8, [.int .i64]⟩),
  (3, ⟨.int .i64, 1, 8, [.int .i64]⟩),
  (4, ⟨.bool, 1, 1, [.bool]⟩),
  (5, ⟨.int .u8, 1, 1, [.int .u8]⟩),
  (6, ⟨.int .u8, 1, 1, [.int .u8]⟩),
  (7, ⟨.struct [(0, 1, false), (1, 1, false), (2, 1, false), (3, 1, false)], 4, 24, [.int .i64, .int .i64, .bool, .int .u8]⟩),
  (8, ⟨.struct [(0, 1, false), (1, 1, false), (2, 1, false), (3, 1, false)], 4, 24, [.int .i64, .int .i64, .bool, .int .u8]⟩),
  (9, ⟨.str, 1, 16, [.str]⟩),
  (10, ⟨.str, 1, 16, [.str]⟩),
  (11, ⟨.str, 1, 16, [.str]⟩),
  (12, ⟨.int .u64, 1, 8, [.int .u64]⟩),
  (13, ⟨.struct [(0, 1, false), (1, 1, false)], 2, 24, [.str, .int .u64]⟩),
  (14, ⟨.struct [(0, 1, false), (1, 1, false)], 2, 24, [.str, .int .u64]⟩),
  (15, ⟨.ptr 147, 1, 8, [.ptr]⟩),
  (16, ⟨.ptr 150, 1, 8, [.ptr]⟩),
  (17, ⟨.ptr 159, 1, 8, [.ptr]⟩),
  (18, ⟨.struct [(0, 1, false)], 1, 8, [.ptr]⟩),
  (19, ⟨.struct [(0, 1, false)], 1, 8, [.ptr]⟩),
  (20, ⟨.ifc, 1, 16, [.ifc]⟩),
  (21, ⟨.int .i32, 1, 4, [.int .i32]⟩),
  (22, ⟨.slice 3, 1, 24, [.sl]⟩),
  (23, ⟨.slice 62, 1, 24, [.sl]⟩),
  (24, ⟨.struct [(0, 1, false), (1, 1, false), (2, 1, false), (3, 1, false), (4, 1, false), (5, 1, false)], 6, 80, [.sl, .int .i64, .int .i64, .int .i64, .int .i64, .sl]⟩),
  (25, ⟨.struct [(0, 1, false), (1, 1, false), (2, 1, false), (3, 1, false), (4, 1, false), (5, 1, false)], 6, 80, [.sl, .int .i64, .int .i64, .int .i64, .int .i64, .sl]⟩),
  (26, ⟨.func, 1, 8, [.fn]⟩),
  (27, ⟨.int .i64, 1, 8, [.int .i64]⟩),
  (29, ⟨.func, 1, 8, [.fn]⟩),
  (30, ⟨.slice 35, 1, 24, [.sl]⟩),
  (32, ⟨.func, 1, 8, [.fn]⟩),
  (33, ⟨.func, 1, 8, [.fn]⟩),
  (34, ⟨.struct [(0, 1, false), (1, 1, false), (2, 1, false)], 3, 56, [.int .i64, .sl, .sl]⟩),
  (35, ⟨.struct [(0, 1, false), (1, 1, false), (2, 1, false)], 3, 56, [.int .i64, .sl, .sl]⟩),
  (36, ⟨.func, 1, 8, [.fn]⟩),
  (37, ⟨.func, 1, 8, [.fn]⟩),
  (39, ⟨.func, 1, 8, [.fn]⟩),
  (40, ⟨.slice 22, 1, 24, [.sl]⟩),
  (41, ⟨.func, 1, 8, [.fn]⟩),
  (42, ⟨.func, 1, 8, [.fn]⟩),
  (43, ⟨.func, 1, 8, [.fn]⟩),
  (44, ⟨.func, 1, 8, [.fn]⟩),
  (45, ⟨.func, 1, 8, [.fn]⟩),
  (46, ⟨.ptr 50, 1, 8, [.ptr]⟩),
  (48, ⟨.func, 1, 8, [.fn]⟩),
  (49, ⟨.struct [(0, 1, false), (1, 1, false), (2, 1, false), (3, 1, false), (4, 1, false)], 5, 120, [.sl, .sl, .sl, .sl, .sl]⟩),
  (50, ⟨.struct [(0, 1, false), (1, 1, false), (2, 1, false), (3, 1, false), (4, 1, false)], 5, 120, [.sl, .sl, .sl, .sl, .sl]⟩),
  (51, ⟨.func, 1, 8, [.fn]⟩),
  (52, ⟨.func, 1, 8, [.fn]⟩),
  (53, ⟨.func, 1, 8, [.fn]⟩),
  (54, ⟨.func, 1, 8, [.fn]⟩),
  (55, ⟨.func, 1, 8, [.fn]⟩),
  (56, ⟨.slice 4, 1, 24, [.sl]⟩),
  (57, ⟨.func, 1, 8, [.fn]⟩),
  (58, ⟨.slice 95, 1, 24, [.sl]⟩),
  (59, ⟨.struct [(0, 1, false), (1, 1, false), (2, 1, false), (3, 1, false)], 4, 32, [.int .i64, .int .i64, .int .i64, .int .i64]⟩),
  (60, ⟨.struct [(0, 1, false), (1, 1, false), (2, 1, false), (3, 1, false)], 4, 32, [.int .i64, .int .i64, .int .i64, .int .i64]⟩),
  (61, ⟨.struct [(0, 1, false), (1, 4, true), (5, 1, false)], 6, 64, [.sl, .int .i64, .int .i64, .int .i64, .int .i64, .int .i64]⟩),
  (62, ⟨.struct [(0, 1, false), (1, 4, true), (5, 1, false)], 6, 64, [.sl, .int .i64, .int .i64, .int .i64, .int .i64, .int .i64]⟩),
  (63, ⟨.func, 1, 8, [.fn]⟩),
  (64, ⟨.func, 1, 8, [.fn]⟩),
  (65, ⟨.func, 1, 8, [.fn]⟩),
  (66, ⟨.func, 1, 8, [.fn]⟩),
  (67, ⟨.func, 1, 8, [.fn]⟩),
  (68, ⟨.func, 1, 8, [.fn]⟩),
  (69, ⟨.func, 1, 8, [.fn]⟩),
  (70, ⟨.func, 1, 8, [.fn]⟩),
  (71, ⟨.struct [(0, 1, false), (1, 1, false), (2, 1, false)], 3, 24, [.int .i64, .int .i64, .int .i64]⟩),
  (72, ⟨.struct [(0, 1, false), (1, 1, false), (2, 1, false)], 3, 24, [.int .i64, .int .i64, .int .i64]⟩),
  (73, ⟨.func, 1, 8, [.fn]⟩),
  (74, ⟨.struct [(0, 1, false), (1, 1, false)], 2, 48, [.sl, .sl]⟩),
  (75, ⟨.struct [(0, 1, false), (1, 1, false)], 2, 48, [.sl, .sl]⟩),
  (76, ⟨.func, 1, 8, [.fn]⟩),
  (77, ⟨.func, 1, 8, [.fn]⟩),
  (78, ⟨.func, 1, 8, [.fn]⟩),
  (79, ⟨.func, 1, 8, [.fn]⟩),
  (80, ⟨.func, 1, 8, [.fn]⟩),
  (81, ⟨.func, 1, 8, [.fn]⟩),
  (82, ⟨.map 3 4, 1, 8, [.map]⟩),
  (83, ⟨.func, 1, 8, [.fn]⟩),
  (84, ⟨.func, 1, 8, [.fn]⟩),
  (85, ⟨.func, 1, 8, [.fn]⟩),
  (86, ⟨.int .u64, 1, 8, [.int .u64]⟩),
  (87, ⟨.func, 1, 8, [.fn]⟩),
  (89, ⟨.ptr 91, 1, 8, [.ptr]⟩),
  (90, ⟨.struct [(0, 6, true), (6, 1, false), (7, 1, false)], 8, 96, [.sl, .int .i64, .int .i64, .int .i64, .int .i64, .sl, .int .i64, .int .i64]⟩),
  (91, ⟨.struct [(0, 6, true), (6, 1, false), (7, 1, false)], 8, 96, [.sl, .int .i64, .int .i64, .int .i64, .int .i64, .sl, .int .i64, .int .i64]⟩),
  (92, ⟨.func, 1, 8, [.fn]⟩),
  (93, ⟨.func, 1, 8, [.fn]⟩),
  (94, ⟨.struct [(0, 1, false), (1, 1, false), (2, 1, false), (3, 1, false), (4, 1, false), (5, 1, false), (6, 1, false)], 7, 56, [.int .i64, .int .i64, .int .i64, .int .i64, .int .i64, .int .i64, .int .i64]⟩),
  (95, ⟨.struct [(0, 1, false), (1, 1, false), (2, 1, false), (3, 1, false), (4, 1, false), (5, 1, false), (6, 1, false)], 7, 56, [.int .i64, .int .i64, .int .i64, .int .i64, .int .i64, .int .i64, .int .i64]⟩),
  (96, ⟨.func, 1, 8, [.fn]⟩),
  (97, ⟨.func, 1, 8, [.fn]⟩),
  (98, ⟨.func, 1, 8, [.fn]⟩),
  (99, ⟨.func, 1, 8, [.fn]⟩),
  (100, ⟨.func, 1, 8, [.fn]⟩),
  (101, ⟨.func, 1, 8, [.fn]⟩),
  (102, ⟨.int .i64, 1, 8, [.int .i64]⟩),
  (104, ⟨.func, 1, 8, [.fn]⟩),
  (105, ⟨.func, 1, 8, [.fn]⟩),
  (106, ⟨.func, 1, 8, [.fn]⟩),
  (108, ⟨.func, 1, 8, [.fn]⟩),
  (109, ⟨.func, 1, 8, [.fn]⟩),
  (110, ⟨.int .u32, 1, 4, [.int .u32]⟩),
  (111, ⟨.func, 1, 8, [.fn]⟩),
  (112, ⟨.int .u64, 1, 8, [.int .u64]⟩),
  (113, ⟨.func, 1, 8, [.fn]⟩),
  (114, ⟨.func, 1, 8, [.fn]⟩),
  (115, ⟨.func, 1, 8, [.fn]⟩),
  (116, ⟨.func, 1, 8, [.fn]⟩),
  (117, ⟨.ptr 56, 1, 8, [.ptr]⟩),
  (118, ⟨.func, 1, 8, [.fn]⟩),
  (119, ⟨.func, 1, 8, [.fn]⟩),
  (120, ⟨.func, 1, 8, [.fn]⟩),
  (121, ⟨.func, 1, 8, [.fn]⟩),
  (122, ⟨.func, 1, 8, [.fn]⟩),
  (123, ⟨.func, 1, 8, [.fn]⟩),
  (124, ⟨.func, 1, 8, [.fn]⟩),
  (125, ⟨.int .u64, 1, 8, [.int .u64]⟩),
  (126, ⟨.func, 1, 8, [.fn]⟩),
  (127, ⟨.func, 1, 8, [.fn]⟩),
  (128, ⟨.func, 1, 8, [.fn]⟩),
  (129, ⟨.ptr 3, 1, 8, [.ptr]⟩),
  (130, ⟨.func, 1, 8, [.fn]⟩),
  (131, ⟨.struct [(0, 1, false), (1, 1, false), (2, 1, false)], 3, 32, [.int .i64, .int .i64, .str]⟩),
  (132, ⟨.struct [(0, 1, false), (1, 1, false), (2, 1, false)], 3, 32, [.int .i64, .int .i64, .str]⟩),
  (134, ⟨.func, 1, 8, [.fn]⟩),
  (135, ⟨.func, 1, 8, [.fn]⟩),
  (136, ⟨.arr 3 3, 3, 24, [.int .i64, .int .i64, .int .i64]⟩),
  (137, ⟨.func, 1, 8, [.fn]⟩),
  (138, ⟨.func, 1, 8, [.fn]⟩),
  (139, ⟨.func, 1, 8, [.fn]⟩),
  (140, ⟨.ptr 125, 1, 8, [.ptr]⟩),
  (142, ⟨.func, 1, 8, [.fn]⟩),
  (143, ⟨.arr 25 132, 75, 800, [.int .i64, .int .i64, .str, .int .i64, .int .i64, .str, .int .i64, .int .i64, .str, .int .i64, .int .i64, .str, .int .i64, .int .i64, .str, .int .i64, .int .i64, .str, .int .i64, .int .i64, .str, .int .i64, .int .i64, .str, .int .i64, .int .i64, .str, .int .i64, .int .i64, .str, .int .i64, .int .i64, .str, .int .i64, .int .i64, .str, .int .i64, .int .i64, .str, .int .i64, .int .i64, .str, .int .i64, .int .i64, .str, .int .i64, .int .i64, .str, .int .i64, .int .i64, .str, .int .i64, .int .i64, .str, .int .i64, .int .i64, .str, .int .i64, .int .i64, .str, .int .i64, .int .i64, .str, .int .i64, .int .i64, .str, .int .i64, .int .i64, .str, .int .i64, .int .i64, .str, .int .i64, .int .i64, .str]⟩),
  (144, ⟨.func, 1, 8, [.fn]⟩),
  (145, ⟨.func, 1, 8, [.fn]⟩),
  (146, ⟨.struct [(0, 1, false), (1, 1, false), (2, 1, false), (3, 1, false)], 4, 40, [.ptr, .ptr, .ptr, .str]⟩),
  (147, ⟨.struct [(0, 1, false), (1, 1, false), (2, 1, false), (3, 1, false)], 4, 40, [.ptr, .ptr, .ptr, .str]⟩),
  (151, ⟨.func, 1, 8, [.fn]⟩),
  (152, ⟨.int .u8, 1, 1, [.int .u8]⟩),
  (153, ⟨.int .u8, 1, 1, [.int .u8]⟩),
  (154, ⟨.func, 1, 8, [.fn]⟩),
  (155, ⟨.ptr 5, 1, 8, [.ptr]⟩),
  (156, ⟨.int .i32, 1, 4, [.int .i32]⟩),
  (157, ⟨.int .i32, 1, 4, [.int .i32]⟩),
  (158, ⟨.struct [(0, 1, false), (1, 1, false), (2, 1, false), (3, 1, false), (4, 1, false), (5, 1, false), (6, 1, false), (7, 1, false), (8, 1, false), (9, 1, false), (10, 1, false)], 11, 48, [.int .u64, .int .u64, .int .u32, .int .u8, .int .u8, .int .u8, .int .u8, .fn, .ptr, .int .i32, .int .i32]⟩),
  (159, ⟨.struct [(0, 1, false), (1, 1, false), (2, 1, false), (3, 1, false), (4, 1, false), (5, 1, false), (6, 1, false), (7, 1, false), (8, 1, false), (9, 1, false), (10, 1, false)], 11, 48, [.int .u64, .int .u64, .int .u32, .int .u8, .int .u8, .int .u8, .int .u8, .fn, .ptr, .int .i32, .int .i32]⟩)]
def tab : Tab := tabOf tabL
theorem tab_ok : TabOk Tryd.prog tab := tabOk_of (by kernel_rfl)
theorem tab_1 : tab 1 = some ⟨.func, 1, 8, [.fn]⟩ := rfl
theorem tab_2 : tab 2 = some ⟨.int .i64, 1, 8, [.int .i64]⟩ := rfl
theorem tab_3 : tab 3 = some ⟨.int .i64, 1, 8, [.int .i64]⟩ := rfl
theorem tab_4 : tab 4 = some ⟨.bool, 1, 1, [.bool]⟩ := rfl
theorem tab_5 : tab 5 = some ⟨.int .u8, 1, 1, [.int .u8]⟩ := rfl
theorem tab_6 : tab 6 = some ⟨.int .u8, 1, 1, [.int .u8]⟩ := rfl
theorem tab_7 : tab 7 = some ⟨.struct [(0, 1, false), (1, 1, false), (2, 1, false), (3, 1, false)], 4, 24, [.int .i64, .int .i64, .bool, .int .u8]⟩ := rfl
theorem tab_8 : tab 8 = some ⟨.struct [(0, 1, false), (1, 1, false), (2, 1, false), (3, 1, false)], 4, 24, [.int .i64, .int .i64, .bool, .int .u8]⟩ := rfl
theorem tab_9 : tab 9 = some ⟨.str, 1, 16, [.str]⟩ := rfl
theorem tab_10 : tab 10 = some ⟨.str, 1, 16, [.str]⟩ := rfl
theorem tab_11 : tab 11 = some ⟨.str, 1, 16, [.str]⟩ := rfl
theorem tab_12 : tab 12 = some ⟨.int .u64, 1, 8, [.int .u64]⟩ := rfl
theorem tab_13 : tab 13 = some ⟨.struct [(0, 1, false), (1, 1, false)], 2, 24, [.str, .int .u64]⟩ := rfl
theorem tab_14 : tab 14 = some ⟨.struct [(0, 1, false), (1, 1, false)], 2, 24, [.str, .int .u64]⟩ := rfl
theorem tab_15 : tab 15 = some ⟨.ptr 147, 1, 8, [.ptr]⟩ := rfl
theorem tab_16 : tab 16 = some ⟨.ptr 150, 1, 8, [.ptr]⟩ := rfl
theorem tab_17 : tab 17 = some ⟨.ptr 159, 1, 8, [.ptr]⟩ := rfl
theorem tab_18 : tab 18 = some ⟨.struct [(0, 1, false)], 1, 8, [.ptr]⟩ := rfl
theorem tab_19 : tab 19 = some ⟨.struct [(0, 1, false)], 1, 8, [.ptr]⟩ := rfl
theorem tab_20 : tab 20 = some ⟨.ifc, 1, 16, [.ifc]⟩ := rfl
theorem tab_21 : tab 21 = some ⟨.int .i32, 1, 4, [.int .i32]⟩ := rfl
theorem tab_22 : tab 22 = some ⟨.slice 3, 1, 24, [.sl]⟩ := rfl
theorem tab_23 : tab 23 = some ⟨.slice 62, 1, 24, [.sl]⟩ := rfl
theorem tab_24 : tab 24 = some ⟨.struct [(0, 1, false), (1, 1, false), (2, 1, false), (3, 1, false), (4, 1, false), (5, 1, false)], 6, 80, [.sl, .int .i64, .int .i64, .int .i64, .int .i64, .sl]⟩ := rfl
theorem tab_25 : tab 25 = some ⟨.struct [(0, 1, false), (1, 1, false), (2, 1, false), (3, 1, false), (4, 1, false), (5, 1, false)], 6, 80, [.sl, .int .i64, .int .i64, .int .i64, .int .i64, .sl]⟩ := rfl
theorem tab_26 : tab 26 = some ⟨.func, 1, 8, [.fn]⟩ := rfl
theorem tab_27 : tab 27 = some ⟨.int .i64, 1, 8, [.int .i64]⟩ := rfl
theorem tab_29 : tab 29 = some ⟨.func, 1, 8, [.fn]⟩ := rfl
theorem tab_30 : tab 30 = some ⟨.slice 35, 1, 24, [.sl]⟩ := rfl
theorem tab_32 : tab 32 = some ⟨.func, 1, 8, [.fn]⟩ := rfl
theorem tab_33 : tab 33 = some ⟨.func, 1, 8, [.fn]⟩ := rfl
theorem tab_34 : tab 34 = some ⟨.struct [(0, 1, false), (1, 1, false), (2, 1, false)], 3, 56, [.int .i64, .sl, .sl]⟩ := rfl
theorem tab_35 : tab 35 = some ⟨.struct [(0, 1, false), (1, 1, false), (2, 1, false)], 3, 56, [.int .i64, .sl, .sl]⟩ := rfl
theorem tab_36 : tab 36 = some ⟨.func, 1, 8, [.fn]⟩ := rfl
theorem tab_37 : tab 37 = some ⟨.func, 1, 8, [.fn]⟩ := rfl
theorem tab_39 : tab 39 = some ⟨.func, 1, 8, [.fn]⟩ := rfl
theorem tab_40 : tab 40 = some ⟨.slice 22, 1, 24, [.sl]⟩ := rfl
theorem tab_41 : tab 41 = some ⟨.func, 1, 8, [.fn]⟩ := rfl
theorem tab_42 : tab 42 = some ⟨.func, 1, 8, [.fn]⟩ := rfl
theorem tab_43 : tab 43 = some ⟨.func, 1, 8, [.fn]⟩ := rfl
theorem tab_44 : tab 44 = some ⟨.func, 1, 8, [.fn]⟩ := rfl
theorem tab_45 : tab 45 = some ⟨.func, 1, 8, [.fn]⟩ := rfl
theorem tab_46 : tab 46 = some ⟨.ptr 50, 1, 8, [.ptr]⟩ := rfl
theorem tab_48 : tab 48 = some ⟨.func, 1, 8, [.fn]⟩ := rfl
theorem tab_49 : tab 49 = some ⟨.struct [(0, 1, false), (1, 1, false), (2, 1, false), (3, 1, false), (4, 1, false)], 5, 120, [.sl, .sl, .sl, .sl, .sl]⟩ := rfl
theorem tab_50 : tab 50 = some ⟨.struct [(0, 1, false), (1, 1, false), (2, 1, false), (3, 1, false), (4, 1, false)], 5, 120, [.sl, .sl, .sl, .sl, .sl]⟩ := rfl
theorem tab_51 : tab 51 = some ⟨.func, 1, 8, [.fn]⟩ := rfl
theorem tab_52 : tab 52 = some ⟨.func, 1, 8, [.fn]⟩ := rfl
theorem tab_53 : tab 53 = some ⟨.func, 1, 8, [.fn]⟩ := rfl
theorem tab_54 : tab 54 = some ⟨.func, 1, 8, [.fn]⟩ := rfl
theorem tab_55 : tab 55 = some ⟨.func, 1, 8, [.fn]⟩ := rfl
theorem tab_56 : tab 56 = some ⟨.slice 4, 1, 24, [.sl]⟩ := rfl
theorem tab_57 : tab 57 = some ⟨.func, 1, 8, [.fn]⟩ := rfl
theorem tab_58 : tab 58 = some ⟨.slice 95, 1, 24, [.sl]⟩ := rfl
theorem tab_59 : tab 59 = some ⟨.struct [(0, 1, false), (1, 1, false), (2, 1, false), (3, 1, false)], 4, 32, [.int .i64, .int .i64, .int .i64, .int .i64]⟩ := rfl
theorem tab_60 : tab 60 = some ⟨.struct [(0, 1, false), (1, 1, false), (2, 1, false), (3, 1, false)], 4, 32, [.int .i64, .int .i64, .int .i64, .int .i64]⟩ := rfl
theorem tab_61 : tab 61 = some ⟨.struct [(0, 1, false), (1, 4, true), (5, 1, false)], 6, 64, [.sl, .int .i64, .int .i64, .int .i64, .int .i64, .int .i64]⟩ := rfl
theorem tab_62 : tab 62 = some ⟨.struct [(0, 1, false), (1, 4, true), (5, 1, false)], 6, 64, [.sl, .int .i64, .int .i64, .int .i64, .int .i64, .int .i64]⟩ := rfl
theorem tab_63 : tab 63 = some ⟨.func, 1, 8, [.fn]⟩ := rfl
theorem tab_64 : tab 64 = some ⟨.func, 1, 8, [.fn]⟩ := rfl
theorem tab_65 : tab 65 = some ⟨.func, 1, 8, [.fn]⟩ := rfl
theorem tab_66 : tab 66 = some ⟨.func, 1, 8, [.fn]⟩ := rfl
theorem tab_67 : tab 67 = some ⟨.func, 1, 8, [.fn]⟩ := rfl
theorem tab_68 : tab 68 = some ⟨.func, 1, 8, [.fn]⟩ := rfl
theorem tab_69 : tab 69 = some ⟨.func, 1, 8, [.fn]⟩ := rfl
theorem tab_70 : tab 70 = some ⟨.func, 1, 8, [.fn]⟩ := rfl
theorem tab_71 : tab 71 = some ⟨.struct [(0, 1, false), (1, 1, false), (2, 1, false)], 3, 24, [.int .i64, .int .i64, .int .i64]⟩ := rfl
theorem tab_72 : tab 72 = some ⟨.struct [(0, 1, false), (1, 1, false), (2, 1, false)], 3, 24, [.int .i64, .int .i64, .int .i64]⟩ := rfl
theorem tab_73 : tab 73 = some ⟨.func, 1, 8, [.fn]⟩ := rfl
theorem tab_74 : tab 74 = some ⟨.struct [(0, 1, false), (1, 1, false)], 2, 48, [.sl, .sl]⟩ := rfl
theorem tab_75 : tab 75 = some ⟨.struct [(0, 1, false), (1, 1, false)], 2, 48, [.sl, .sl]⟩ := rfl
theorem tab_76 : tab 76 = some ⟨.func, 1, 8, [.fn]⟩ := rfl
theorem tab_77 : tab 77 = some ⟨.func, 1, 8, [.fn]⟩ := rfl
theorem tab_78 : tab 78 = some ⟨.func, 1, 8, [.fn]⟩ := rfl
theorem tab_79 : tab 79 = some ⟨.func, 1, 8, [.fn]⟩ := rfl
theorem tab_80 : tab 80 = some ⟨.func, 1, 8, [.fn]⟩ := rfl
theorem tab_81 : tab 81 = some ⟨.func, 1, 8, [.fn]⟩ := rfl
theorem tab_82 : tab 82 = some ⟨.map 3 4, 1, 8, [.map]⟩ := rfl
theorem tab_83 : tab 83 = some ⟨.func, 1, 8, [.fn]⟩ := rfl
theorem tab_84 : tab 84 = some ⟨.func, 1, 8, [.fn]⟩ := rfl
theorem tab_85 : tab 85 = some ⟨.func, 1, 8, [.fn]⟩ := rfl
theorem tab_86 : tab 86 = some ⟨.int .u64, 1, 8, [.int .u64]⟩ := rfl
theorem tab_87 : tab 87 = some ⟨.func, 1, 8, [.fn]⟩ := rfl
theorem tab_89 : tab 89 = some ⟨.ptr 91, 1, 8, [.ptr]⟩ := rfl
theorem tab_90 : tab 90 = some ⟨.struct [(0, 6, true), (6, 1, false), (7, 1, false)], 8, 96, [.sl, .int .i64, .int .i64, .int .i64, .int .i64, .sl, .int .i64, .int .i64]⟩ := rfl
theorem tab_91 : tab 91 = some ⟨.struct [(0, 6, true), (6, 1, false), (7, 1, false)], 8, 96, [.sl, .int .i64, .int .i64, .int .i64, .int .i64, .sl, .int .i64, .int .i64]⟩ := rfl
theorem tab_92 : tab 92 = some ⟨.func, 1, 8, [.fn]⟩ := rfl
theorem tab_93 : tab 93 = some ⟨.func, 1, 8, [.fn]⟩ := rfl
theorem tab_94 : tab 94 = some ⟨.struct [(0, 1, false), (1, 1, false), (2, 1, false), (3, 1, false), (4, 1, false), (5, 1, false), (6, 1, false)], 7, 56, [.int .i64, .int .i64, .int .i64, .int .i64, .int .i64, .int .i64, .int .i64]⟩ := rfl
theorem tab_95 : tab 95 = some ⟨.struct [(0, 1, false), (1, 1, false), (2, 1, false), (3, 1, false), (4, 1, false), (5, 1, false), (6, 1, false)], 7, 56, [.int .i64, .int .i64, .int .i64, .int .i64, .int .i64, .int .i64, .int .i64]⟩ := rfl
theorem tab_96 : tab 96 = some ⟨.func, 1, 8, [.fn]⟩ := rfl
theorem tab_97 : tab 97 = some ⟨.func, 1, 8, [.fn]⟩ := rfl
theorem tab_98 : tab 98 = some ⟨.func, 1, 8, [.fn]⟩ := rfl
theorem tab_99 : tab 99 = some ⟨.func, 1, 8, [.fn]⟩ := rfl
theorem tab_100 : tab 100 = some ⟨.func, 1, 8, [.fn]⟩ := rfl
theorem tab_101 : tab 101 = some ⟨.func, 1, 8, [.fn]⟩ := rfl
theorem tab_102 : tab 102 = some ⟨.int .i64, 1, 8, [.int .i64]⟩ := rfl
theorem tab_104 : tab 104 = some ⟨.func, 1, 8, [.fn]⟩ := rfl
theorem tab_105 : tab 105 = some ⟨.func, 1, 8, [.fn]⟩ := rfl
theorem tab_106 : tab 106 = some ⟨.func, 1, 8, [.fn]⟩ := rfl
theorem tab_108 : tab 108 = some ⟨.func, 1, 8, [.fn]⟩ := rfl
theorem tab_109 : tab 109 = some ⟨.func, 1, 8, [.fn]⟩ := rfl
theorem tab_110 : tab 110 = some ⟨.int .u32, 1, 4, [.int .u32]⟩ := rfl
theorem tab_111 : tab 111 = some ⟨.func, 1, 8, [.fn]⟩ := rfl
theorem tab_112 : tab 112 = some ⟨.int .u64, 1, 8, [.int .u64]⟩ := rfl
theorem tab_113 : tab 113 = some ⟨.func, 1, 8, [.fn]⟩ := rfl
theorem tab_114 : tab 114 = some ⟨.func, 1, 8, [.fn]⟩ := rfl
theorem tab_115 : tab 115 = some ⟨.func, 1, 8, [.fn]⟩ := rfl
theorem tab_116 : tab 116 = some ⟨.func, 1, 8, [.fn]⟩ := rfl
theorem tab_117 : tab 117 = some ⟨.ptr 56, 1, 8, [.ptr]⟩ := rfl
theorem tab_118 : tab 118 = some ⟨.func, 1, 8, [.fn]⟩ := rfl
theorem tab_119 : tab 119 = some ⟨.func, 1, 8, [.fn]⟩ := rfl
theorem tab_120 : tab 120 = some ⟨.func, 1, 8, [.fn]⟩ := rfl
theorem tab_121 : tab 121 = some ⟨.func, 1, 8, [.fn]⟩ := rfl
theorem tab_122 : tab 122 = some ⟨.func, 1, 8, [.fn]⟩ := rfl
theorem tab_123 : tab 123 = some ⟨.func, 1, 8, [.fn]⟩ := rfl
theorem tab_124 : tab 124 = some ⟨.func, 1, 8, [.fn]⟩ := rfl
theorem tab_125 : tab 125 = some ⟨.int .u64, 1, 8, [.int .u64]⟩ := rfl
theorem tab_126 : tab 126 = some ⟨.func, 1, 8, [.fn]⟩ := rfl
theorem tab_127 : tab 127 = some ⟨.func, 1, 8, [.fn]⟩ := rfl
theorem tab_128 : tab 128 = some ⟨.func, 1, 8, [.fn]⟩ := rfl
theorem tab_129 : tab 129 = some ⟨.ptr 3, 1, 8, [.ptr]⟩ := rfl
theorem tab_130 : tab 130 = some ⟨.func, 1, 8, [.fn]⟩ := rfl
theorem tab_131 : tab 131 = some ⟨.struct [(0, 1, false), (1, 1, false), (2, 1, false)], 3, 32, [.int .i64, .int .i64, .str]⟩ := rfl
theorem tab_132 : tab 132 = some ⟨.struct [(0, 1, false), (1, 1, false), (2, 1, false)], 3, 32, [.int .i64, .int .i64, .str]⟩ := rfl
theorem tab_134 : tab 134 = some ⟨.func, 1, 8, [.fn]⟩ := rfl
theorem tab_135 : tab 135 = some ⟨.func, 1, 8, [.fn]⟩ := rfl
theorem tab_136 : tab 136 = some ⟨.arr 3 3, 3, 24, [.int .i64, .int .i64, .int .i64]⟩ := rfl
theorem tab_137 : tab 137 = some ⟨.func, 1, 8, [.fn]⟩ := rfl
theorem tab_138 : tab 138 = some ⟨.func, 1, 8, [.fn]⟩ := rfl
theorem tab_139 : tab 139 = some ⟨.func, 1, 8, [.fn]⟩ := rfl
theorem tab_140 : tab 140 = some ⟨.ptr 125, 1, 8, [.ptr]⟩ := rfl
theorem tab_142 : tab 142 = some ⟨.func, 1, 8, [.fn]⟩ := rfl
theorem tab_143 : tab 143 = some ⟨.arr 25 132, 75, 800, [.int .i64, .int .i64, .str, .int .i64, .int .i64, .str, .int .i64, .int .i64, .str, .int .i64, .int .i64, .str, .int .i64, .int .i64, .str, .int .i64, .int .i64, .str, .int .i64, .int .i64, .str, .int .i64, .int .i64, .str, .int .i64, .int .i64, .str, .int .i64, .int .i64, .str, .int .i64, .int .i64, .str, .int .i64, .int .i64, .str, .int .i64, .int .i64, .str, .int .i64, .int .i64, .str, .int .i64, .int .i64, .str, .int .i64, .int .i64, .str, .int .i64, .int .i64, .str, .int .i64, .int .i64, .str, .int .i64, .int .i64, .str, .int .i64, .int .i64, .str, .int .i64, .int .i64, .str, .int .i64, .int .i64, .str, .int .i64, .int .i64, .str, .int .i64, .int .i64, .str, .int .i64, .int .i64, .str]⟩ := rfl
theorem tab_144 : tab 144 = some ⟨.func, 1, 8, [.fn]⟩ := rfl
theorem tab_145 : tab 145 = some ⟨.func, 1, 8, [.fn]⟩ := rfl
theorem tab_146 : tab 146 = some ⟨.struct [(0, 1, false), (1, 1, false), (2, 1, false), (3, 1, false)], 4, 40, [.ptr, .ptr, .ptr, .str]⟩ := rfl
theorem tab_147 : tab 147 = some ⟨.struct [(0, 1, false), (1, 1, false), (2, 1, false), (3, 1, false)], 4, 40, [.ptr, .ptr, .ptr, .str]⟩ := rfl
theorem tab_151 : tab 151 = some ⟨.func, 1, 8, [.fn]⟩ := rfl
theorem tab_152 : tab 152 = some ⟨.int .u8, 1, 1, [.int .u8]⟩ := rfl
theorem tab_153 : tab 153 = some ⟨.int .u8, 1, 1, [.int .u8]⟩ := rfl
theorem tab_154 : tab 154 = some ⟨.func, 1, 8, [.fn]⟩ := rfl
theorem tab_155 : tab 155 = some ⟨.ptr 5, 1, 8, [.ptr]⟩ := rfl
theorem tab_156 : tab 156 = some ⟨.int .i32, 1, 4, [.int .i32]⟩ := rfl
theorem tab_157 : tab 157 = some ⟨.int .i32, 1, 4, [.int .i32]⟩ := rfl
theorem tab_158 : tab 158 = some ⟨.struct [(0, 1, false), (1, 1, false), (2, 1, false), (3, 1, false), (4, 1, false), (5, 1, false), (6, 1, false), (7, 1, false), (8, 1, false), (9, 1, false), (10, 1, false)], 11, 48, [.int .u64, .int .u64, .int .u32, .int .u8, .int .u8, .int .u8, .int .u8, .fn, .ptr, .int .i32, .int .i32]⟩ := rfl
theorem tab_159 : tab 159 = some ⟨.struct [(0, 1, false), (1, 1, false), (2, 1, false), (3, 1, false), (4, 1, false), (5, 1, false), (6, 1, false), (7, 1, false), (8, 1, false), (9, 1, false), (10, 1, false)], 11, 48, [.int .u64, .int .u64, .int .u32, .int .u8, .int .u8, .int .u8, .int .u8, .fn, .ptr, .int .i32, .int .i32]⟩ := rfl
end Go.Cl
