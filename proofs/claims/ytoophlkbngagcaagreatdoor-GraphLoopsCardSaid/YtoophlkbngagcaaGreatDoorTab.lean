/- DERIVED HERE, by gen_tab.py: the table of types for the clean layer. -/
import Derived.Test.YtoophlkbngagcaaGreatDoorClC
import Derived.Test.YtoophlkbngagcaaGreatDoorProg
namespace Go.Cl
open Go.Proofs
def tabL : List (TypeId × TI) := [
  (1, ⟨.func, 1, 8, [.fn]⟩),
  (2, ⟨.int .i64, 1, 8, [.int .i64]⟩),
  (3, ⟨.int .i64, 1, 8, [.int .i64]⟩),
  (4, ⟨.bool, 1, 1, [.bool]⟩),
  (5, ⟨.int .u8, 1, 1, [.int .u8]⟩),
  (6, ⟨.int .u8, 1, 1, [.int .u8]⟩),
  (7, ⟨.struct [(0, 1, false), (1, 1, false), (2, 1, false), (3, 1, false)], 4, 24, [.int .i64, .int .i64, .bool, .int .u8]⟩),
  (8, ⟨.struct [(0, 1, false), (1, 1, false), (2, 1, false), (3, 1, false)], 4, 24, [.int .i64, .int .i64, .bool, .int .u8]⟩),
  (9, ⟨.str, 1, 16, [.str]⟩),
  (10, ⟨.str, 1, 16, [.str]⟩),
  (11, ⟨.str, 1, 16, [.str]⟩),
  (12, ⟨.int .u64, 1, 8, [.int .u64]⟩),
  (13, ⟨.struct [(0, 1, false), (1, 1, false)], 2, 24, [.str, .int .u64]⟩),
  (14, ⟨.struct [(0, 1, false), (1, 1, false)], 2, 24, [.str, .int .u64]⟩),
  (15, ⟨.ptr 177, 1, 8, [.ptr]⟩),
  (16, ⟨.ptr 180, 1, 8, [.ptr]⟩),
  (17, ⟨.ptr 189, 1, 8, [.ptr]⟩),
  (18, ⟨.struct [(0, 1, false)], 1, 8, [.ptr]⟩),
  (19, ⟨.struct [(0, 1, false)], 1, 8, [.ptr]⟩),
  (20, ⟨.ifc, 1, 16, [.ifc]⟩),
  (21, ⟨.int .i32, 1, 4, [.int .i32]⟩),
  (22, ⟨.slice 3, 1, 24, [.sl]⟩),
  (23, ⟨.slice 82, 1, 24, [.sl]⟩),
  (24, ⟨.struct [(0, 1, false), (1, 1, false), (2, 1, false), (3, 1, false), (4, 1, false), (5, 1, false)], 6, 80, [.sl, .int .i64, .int .i64, .int .i64, .int .i64, .sl]⟩),
  (25, ⟨.struct [(0, 1, false), (1, 1, false), (2, 1, false), (3, 1, false), (4, 1, false), (5, 1, false)], 6, 80, [.sl, .int .i64, .int .i64, .int .i64, .int .i64, .sl]⟩),
  (26, ⟨.func, 1, 8, [.fn]⟩),
  (27, ⟨.int .i64, 1, 8, [.int .i64]⟩),
  (29, ⟨.func, 1, 8, [.fn]⟩),
  (30, ⟨.func, 1, 8, [.fn]⟩),
  (31, ⟨.func, 1, 8, [.fn]⟩),
  (32, ⟨.func, 1, 8, [.fn]⟩),
  (33, ⟨.func, 1, 8, [.fn]⟩),
  (34, ⟨.func, 1, 8, [.fn]⟩),
  (36, ⟨.func, 1, 8, [.fn]⟩),
  (37, ⟨.slice 22, 1, 24, [.sl]⟩),
  (38, ⟨.slice 4, 1, 24, [.sl]⟩),
  (39, ⟨.struct [(0, 1, false), (1, 1, false)], 2, 48, [.sl, .sl]⟩),
  (40, ⟨.struct [(0, 1, false), (1, 1, false)], 2, 48, [.sl, .sl]⟩),
  (41, ⟨.func, 1, 8, [.fn]⟩),
  (42, ⟨.func, 1, 8, [.fn]⟩),
  (43, ⟨.slice 38, 1, 24, [.sl]⟩),
  (44, ⟨.func, 1, 8, [.fn]⟩),
  (45, ⟨.func, 1, 8, [.fn]⟩),
  (46, ⟨.slice 74, 1, 24, [.sl]⟩),
  (48, ⟨.func, 1, 8, [.fn]⟩),
  (49, ⟨.func, 1, 8, [.fn]⟩),
  (50, ⟨.func, 1, 8, [.fn]⟩),
  (51, ⟨.func, 1, 8, [.fn]⟩),
  (52, ⟨.slice 5, 1, 24, [.sl]⟩),
  (54, ⟨.func, 1, 8, [.fn]⟩),
  (55, ⟨.func, 1, 8, [.fn]⟩),
  (56, ⟨.func, 1, 8, [.fn]⟩),
  (58, ⟨.func, 1, 8, [.fn]⟩),
  (60, ⟨.func, 1, 8, [.fn]⟩),
  (61, ⟨.func, 1, 8, [.fn]⟩),
  (62, ⟨.func, 1, 8, [.fn]⟩),
  (63, ⟨.func, 1, 8, [.fn]⟩),
  (64, ⟨.func, 1, 8, [.fn]⟩),
  (65, ⟨.ptr 69, 1, 8, [.ptr]⟩),
  (67, ⟨.func, 1, 8, [.fn]⟩),
  (68, ⟨.struct [(0, 1, false), (1, 1, false), (2, 1, false), (3, 1, false), (4, 1, false)], 5, 120, [.sl, .sl, .sl, .sl, .sl]⟩),
  (69, ⟨.struct [(0, 1, false), (1, 1, false), (2, 1, false), (3, 1, false), (4, 1, false)], 5, 120, [.sl, .sl, .sl, .sl, .sl]⟩),
  (71, ⟨.func, 1, 8, [.fn]⟩),
  (72, ⟨.func, 1, 8, [.fn]⟩),
  (73, ⟨.struct [(0, 1, false), (1, 1, false), (2, 1, false)], 3, 56, [.int .i64, .sl, .sl]⟩),
  (74, ⟨.struct [(0, 1, false), (1, 1, false), (2, 1, false)], 3, 56, [.int .i64, .sl, .sl]⟩),
  (75, ⟨.func, 1, 8, [.fn]⟩),
  (76, ⟨.func, 1, 8, [.fn]⟩),
  (77, ⟨.func, 1, 8, [.fn]⟩),
  (78, ⟨.slice 84, 1, 24, [.sl]⟩),
  (79, ⟨.struct [(0, 1, false), (1, 1, false), (2, 1, false), (3, 1, false)], 4, 32, [.int .i64, .int .i64, .int .i64, .int .i64]⟩),
  (80, ⟨.struct [(0, 1, false), (1, 1, false), (2, 1, false), (3, 1, false)], 4, 32, [.int .i64, .int .i64, .int .i64, .int .i64]⟩),
  (81, ⟨.struct [(0, 1, false), (1, 4, true), (5, 1, false)], 6, 64, [.sl, .int .i64, .int .i64, .int .i64, .int .i64, .int .i64]⟩),
  (82, ⟨.struct [(0, 1, false), (1, 4, true), (5, 1, false)], 6, 64, [.sl, .int .i64, .int .i64, .int .i64, .int .i64, .int .i64]⟩),
  (83, ⟨.struct [(0, 1, false), (1, 1, false), (2, 1, false), (3, 1, false), (4, 1, false), (5, 1, false), (6, 1, false)], 7, 56, [.int .i64, .int .i64, .int .i64, .int .i64, .int .i64, .int .i64, .int .i64]⟩),
  (84, ⟨.struct [(0, 1, false), (1, 1, false), (2, 1, false), (3, 1, false), (4, 1, false), (5, 1, false), (6, 1, false)], 7, 56, [.int .i64, .int .i64, .int .i64, .int .i64, .int .i64, .int .i64, .int .i64]⟩),
  (85, ⟨.func, 1, 8, [.fn]⟩),
  (86, ⟨.func, 1, 8, [.fn]⟩),
  (87, ⟨.func, 1, 8, [.fn]⟩),
  (88, ⟨.func, 1, 8, [.fn]⟩),
  (89, ⟨.func, 1, 8, [.fn]⟩),
  (90, ⟨.arr 3 22, 3, 72, [.sl, .sl, .sl]⟩),
  (91, ⟨.struct [(0, 1, false), (1, 1, false)], 2, 48, [.sl, .sl]⟩),
  (92, ⟨.struct [(0, 1, false), (1, 1, false)], 2, 48, [.sl, .sl]⟩),
  (93, ⟨.func, 1, 8, [.fn]⟩),
  (94, ⟨.func, 1, 8, [.fn]⟩),
  (95, ⟨.func, 1, 8, [.fn]⟩),
  (96, ⟨.func, 1, 8, [.fn]⟩),
  (97, ⟨.func, 1, 8, [.fn]⟩),
  (98, ⟨.func, 1, 8, [.fn]⟩),
  (99, ⟨.func, 1, 8, [.fn]⟩),
  (100, ⟨.func, 1, 8, [.fn]⟩),
  (101, ⟨.func, 1, 8, [.fn]⟩),
  (102, ⟨.func, 1, 8, [.fn]⟩),
  (103, ⟨.func, 1, 8, [.fn]⟩),
  (104, ⟨.func, 1, 8, [.fn]⟩),
  (105, ⟨.func, 1, 8, [.fn]⟩),
  (106, ⟨.func, 1, 8, [.fn]⟩),
  (107, ⟨.func, 1, 8, [.fn]⟩),
  (108, ⟨.func, 1, 8, [.fn]⟩),
  (109, ⟨.struct [(0, 1, false), (1, 1, false), (2, 1, false)], 3, 24, [.int .i64, .int .i64, .int .i64]⟩),
  (110, ⟨.struct [(0, 1, false), (1, 1, false), (2, 1, false)], 3, 24, [.int .i64, .int .i64, .int .i64]⟩),
  (111, ⟨.func, 1, 8, [.fn]⟩),
  (112, ⟨.func, 1, 8, [.fn]⟩),
  (113, ⟨.func, 1, 8, [.fn]⟩),
  (114, ⟨.func, 1, 8, [.fn]⟩),
  (115, ⟨.func, 1, 8, [.fn]⟩),
  (116, ⟨.func, 1, 8, [.fn]⟩),
  (117, ⟨.func, 1, 8, [.fn]⟩),
  (118, ⟨.func, 1, 8, [.fn]⟩),
  (119, ⟨.func, 1, 8, [.fn]⟩),
  (120, ⟨.func, 1, 8, [.fn]⟩),
  (121, ⟨.map 3 4, 1, 8, [.map]⟩),
  (122, ⟨.func, 1, 8, [.fn]⟩),
  (123, ⟨.func, 1, 8, [.fn]⟩),
  (124, ⟨.func, 1, 8, [.fn]⟩),
  (125, ⟨.int .u64, 1, 8, [.int .u64]⟩),
  (127, ⟨.ptr 129, 1, 8, [.ptr]⟩),
  (128, ⟨.struct [(0, 6, true), (6, 1, false), (7, 1, false)], 8, 96, [.sl, .int .i64, .int .i64, .int .i64, .int .i64, .sl, .int .i64, .int .i64]⟩),
  (129, ⟨.struct [(0, 6, true), (6, 1, false), (7, 1, false)], 8, 96, [.sl, .int .i64, .int .i64, .int .i64, .int .i64, .sl, .int .i64, .int .i64]⟩),
  (130, ⟨.ptr 38, 1, 8, [.ptr]⟩),
  (131, ⟨.func, 1, 8, [.fn]⟩),
  (132, ⟨.func, 1, 8, [.fn]⟩),
  (133, ⟨.func, 1, 8, [.fn]⟩),
  (134, ⟨.func, 1, 8, [.fn]⟩),
  (135, ⟨.func, 1, 8, [.fn]⟩),
  (136, ⟨.int .i64, 1, 8, [.int .i64]⟩),
  (138, ⟨.func, 1, 8, [.fn]⟩),
  (139, ⟨.func, 1, 8, [.fn]⟩),
  (140, ⟨.func, 1, 8, [.fn]⟩),
  (142, ⟨.func, 1, 8, [.fn]⟩),
  (143, ⟨.func, 1, 8, [.fn]⟩),
  (144, ⟨.int .u32, 1, 4, [.int .u32]⟩),
  (145, ⟨.func, 1, 8, [.fn]⟩),
  (146, ⟨.int .u64, 1, 8, [.int .u64]⟩),
  (147, ⟨.func, 1, 8, [.fn]⟩),
  (148, ⟨.func, 1, 8, [.fn]⟩),
  (149, ⟨.func, 1, 8, [.fn]⟩),
  (150, ⟨.struct [(0, 1, false), (1, 1, false), (2, 1, false)], 3, 32, [.int .i64, .int .i64, .str]⟩),
  (151, ⟨.struct [(0, 1, false), (1, 1, false), (2, 1, false)], 3, 32, [.int .i64, .int .i64, .str]⟩),
  (153, ⟨.func, 1, 8, [.fn]⟩),
  (154, ⟨.arr 3 3, 3, 24, [.int .i64, .int .i64, .int .i64]⟩),
  (155, ⟨.func, 1, 8, [.fn]⟩),
  (156, ⟨.func, 1, 8, [.fn]⟩),
  (157, ⟨.func, 1, 8, [.fn]⟩),
  (158, ⟨.func, 1, 8, [.fn]⟩),
  (159, ⟨.func, 1, 8, [.fn]⟩),
  (160, ⟨.func, 1, 8, [.fn]⟩),
  (161, ⟨.int .u64, 1, 8, [.int .u64]⟩),
  (162, ⟨.func, 1, 8, [.fn]⟩),
  (163, ⟨.func, 1, 8, [.fn]⟩),
  (164, ⟨.func, 1, 8, [.fn]⟩),
  (165, ⟨.ptr 3, 1, 8, [.ptr]⟩),
  (166, ⟨.func, 1, 8, [.fn]⟩),
  (167, ⟨.func, 1, 8, [.fn]⟩),
  (168, ⟨.arr 25 151, 75, 800, [.int .i64, .int .i64, .str, .int .i64, .int .i64, .str, .int .i64, .int .i64, .str, .int .i64, .int .i64, .str, .int .i64, .int .i64, .str, .int .i64, .int .i64, .str, .int .i64, .int .i64, .str, .int .i64, .int .i64, .str, .int .i64, .int .i64, .str, .int .i64, .int .i64, .str, .int .i64, .int .i64, .str, .int .i64, .int .i64, .str, .int .i64, .int .i64, .str, .int .i64, .int .i64, .str, .int .i64, .int .i64, .str, .int .i64, .int .i64, .str, .int .i64, .int .i64, .str, .int .i64, .int .i64, .str, .int .i64, .int .i64, .str, .int .i64, .int .i64, .str, .int .i64, .int .i64, .str, .int .i64, .int .i64, .str, .int .i64, .int .i64, .str, .int .i64, .int .i64, .str, .int .i64, .int .i64, .str]⟩),
  (169, ⟨.func, 1, 8, [.fn]⟩),
  (170, ⟨.func, 1, 8, [.fn]⟩),
  (171, ⟨.ptr 161, 1, 8, [.ptr]⟩),
  (173, ⟨.func, 1, 8, [.fn]⟩),
  (174, ⟨.func, 1, 8, [.fn]⟩),
  (175, ⟨.func, 1, 8, [.fn]⟩),
  (176, ⟨.struct [(0, 1, false), (1, 1, false), (2, 1, false), (3, 1, false)], 4, 40, [.ptr, .ptr, .ptr, .str]⟩),
  (177, ⟨.struct [(0, 1, false), (1, 1, false), (2, 1, false), (3, 1, false)], 4, 40, [.ptr, .ptr, .ptr, .str]⟩),
  (181, ⟨.func, 1, 8, [.fn]⟩),
  (182, ⟨.int .u8, 1, 1, [.int .u8]⟩),
  (183, ⟨.int .u8, 1, 1, [.int .u8]⟩),
  (184, ⟨.func, 1, 8, [.fn]⟩),
  (185, ⟨.ptr 5, 1, 8, [.ptr]⟩),
  (186, ⟨.int .i32, 1, 4, [.int .i32]⟩),
  (187, ⟨.int .i32, 1, 4, [.int .i32]⟩),
  (188, ⟨.struct [(0, 1, false), (1, 1, false), (2, 1, false), (3, 1, false), (4, 1, false), (5, 1, false), (6, 1, false), (7, 1, false), (8, 1, false), (9, 1, false), (10, 1, false)], 11, 48, [.int .u64, .int .u64, .int .u32, .int .u8, .int .u8, .int .u8, .int .u8, .fn, .ptr, .int .i32, .int .i32]⟩),
  (189, ⟨.struct [(0, 1, false), (1, 1, false), (2, 1, false), (3, 1, false), (4, 1, false), (5, 1, false), (6, 1, false), (7, 1, false), (8, 1, false), (9, 1, false), (10, 1, false)], 11, 48, [.int .u64, .int .u64, .int .u32, .int .u8, .int .u8, .int .u8, .int .u8, .fn, .ptr, .int .i32, .int .i32]⟩)]
def tab : Tab := tabOf tabL
theorem tab_ok : TabOk Tryz.prog tab := tabOk_of (by kernel_rfl)
theorem tab_1 : tab 1 = some ⟨.func, 1, 8, [.fn]⟩ := rfl
theorem tab_2 : tab 2 = some ⟨.int .i64, 1, 8, [.int .i64]⟩ := rfl
theorem tab_3 : tab 3 = some ⟨.int .i64, 1, 8, [.int .i64]⟩ := rfl
theorem tab_4 : tab 4 = some ⟨.bool, 1, 1, [.bool]⟩ := rfl
theorem tab_5 : tab 5 = some ⟨.int .u8, 1, 1, [.int .u8]⟩ := rfl
theorem tab_6 : tab 6 = some ⟨.int .u8, 1, 1, [.int .u8]⟩ := rfl
theorem tab_7 : tab 7 = some ⟨.struct [(0, 1, false), (1, 1, false), (2, 1, false), (3, 1, false)], 4, 24, [.int .i64, .int .i64, .bool, .int .u8]⟩ := rfl
theorem tab_8 : tab 8 = some ⟨.struct [(0, 1, false), (1, 1, false), (2, 1, false), (3, 1, false)], 4, 24, [.int .i64, .int .i64, .bool, .int .u8]⟩ := rfl
theorem tab_9 : tab 9 = some ⟨.str, 1, 16, [.str]⟩ := rfl
theorem tab_10 : tab 10 = some ⟨.str, 1, 16, [.str]⟩ := rfl
theorem tab_11 : tab 11 = some ⟨.str, 1, 16, [.str]⟩ := rfl
theorem tab_12 : tab 12 = some ⟨.int .u64, 1, 8, [.int .u64]⟩ := rfl
theorem tab_13 : tab 13 = some ⟨.struct [(0, 1, false), (1, 1, false)], 2, 24, [.str, .int .u64]⟩ := rfl
theorem tab_14 : tab 14 = some ⟨.struct [(0, 1, false), (1, 1, false)], 2, 24, [.str, .int .u64]⟩ := rfl
theorem tab_15 : tab 15 = some ⟨.ptr 177, 1, 8, [.ptr]⟩ := rfl
theorem tab_16 : tab 16 = some ⟨.ptr 180, 1, 8, [.ptr]⟩ := rfl
theorem tab_17 : tab 17 = some ⟨.ptr 189, 1, 8, [.ptr]⟩ := rfl
theorem tab_18 : tab 18 = some ⟨.struct [(0, 1, false)], 1, 8, [.ptr]⟩ := rfl
theorem tab_19 : tab 19 = some ⟨.struct [(0, 1, false)], 1, 8, [.ptr]⟩ := rfl
theorem tab_20 : tab 20 = some ⟨.ifc, 1, 16, [.ifc]⟩ := rfl
theorem tab_21 : tab 21 = some ⟨.int .i32, 1, 4, [.int .i32]⟩ := rfl
theorem tab_22 : tab 22 = some ⟨.slice 3, 1, 24, [.sl]⟩ := rfl
theorem tab_23 : tab 23 = some ⟨.slice 82, 1, 24, [.sl]⟩ := rfl
theorem tab_24 : tab 24 = some ⟨.struct [(0, 1, false), (1, 1, false), (2, 1, false), (3, 1, false), (4, 1, false), (5, 1, false)], 6, 80, [.sl, .int .i64, .int .i64, .int .i64, .int .i64, .sl]⟩ := rfl
theorem tab_25 : tab 25 = some ⟨.struct [(0, 1, false), (1, 1, false), (2, 1, false), (3, 1, false), (4, 1, false), (5, 1, false)], 6, 80, [.sl, .int .i64, .int .i64, .int .i64, .int .i64, .sl]⟩ := rfl
theorem tab_26 : tab 26 = some ⟨.func, 1, 8, [.fn]⟩ := rfl
theorem tab_27 : tab 27 = some ⟨.int .i64, 1, 8, [.int .i64]⟩ := rfl
theorem tab_29 : tab 29 = some ⟨.func, 1, 8, [.fn]⟩ := rfl
theorem tab_30 : tab 30 = some ⟨.func, 1, 8, [.fn]⟩ := rfl
theorem tab_31 : tab 31 = some ⟨.func, 1, 8, [.fn]⟩ := rfl
theorem tab_32 : tab 32 = some ⟨.func, 1, 8, [.fn]⟩ := rfl
theorem tab_33 : tab 33 = some ⟨.func, 1, 8, [.fn]⟩ := rfl
theorem tab_34 : tab 34 = some ⟨.func, 1, 8, [.fn]⟩ := rfl
theorem tab_36 : tab 36 = some ⟨.func, 1, 8, [.fn]⟩ := rfl
theorem tab_37 : tab 37 = some ⟨.slice 22, 1, 24, [.sl]⟩ := rfl
theorem tab_38 : tab 38 = some ⟨.slice 4, 1, 24, [.sl]⟩ := rfl
theorem tab_39 : tab 39 = some ⟨.struct [(0, 1, false), (1, 1, false)], 2, 48, [.sl, .sl]⟩ := rfl
theorem tab_40 : tab 40 = some ⟨.struct [(0, 1, false), (1, 1, false)], 2, 48, [.sl, .sl]⟩ := rfl
theorem tab_41 : tab 41 = some ⟨.func, 1, 8, [.fn]⟩ := rfl
theorem tab_42 : tab 42 = some ⟨.func, 1, 8, [.fn]⟩ := rfl
theorem tab_43 : tab 43 = some ⟨.slice 38, 1, 24, [.sl]⟩ := rfl
theorem tab_44 : tab 44 = some ⟨.func, 1, 8, [.fn]⟩ := rfl
theorem tab_45 : tab 45 = some ⟨.func, 1, 8, [.fn]⟩ := rfl
theorem tab_46 : tab 46 = some ⟨.slice 74, 1, 24, [.sl]⟩ := rfl
theorem tab_48 : tab 48 = some ⟨.func, 1, 8, [.fn]⟩ := rfl
theorem tab_49 : tab 49 = some ⟨.func, 1, 8, [.fn]⟩ := rfl
theorem tab_50 : tab 50 = some ⟨.func, 1, 8, [.fn]⟩ := rfl
theorem tab_51 : tab 51 = some ⟨.func, 1, 8, [.fn]⟩ := rfl
theorem tab_52 : tab 52 = some ⟨.slice 5, 1, 24, [.sl]⟩ := rfl
theorem tab_54 : tab 54 = some ⟨.func, 1, 8, [.fn]⟩ := rfl
theorem tab_55 : tab 55 = some ⟨.func, 1, 8, [.fn]⟩ := rfl
theorem tab_56 : tab 56 = some ⟨.func, 1, 8, [.fn]⟩ := rfl
theorem tab_58 : tab 58 = some ⟨.func, 1, 8, [.fn]⟩ := rfl
theorem tab_60 : tab 60 = some ⟨.func, 1, 8, [.fn]⟩ := rfl
theorem tab_61 : tab 61 = some ⟨.func, 1, 8, [.fn]⟩ := rfl
theorem tab_62 : tab 62 = some ⟨.func, 1, 8, [.fn]⟩ := rfl
theorem tab_63 : tab 63 = some ⟨.func, 1, 8, [.fn]⟩ := rfl
theorem tab_64 : tab 64 = some ⟨.func, 1, 8, [.fn]⟩ := rfl
theorem tab_65 : tab 65 = some ⟨.ptr 69, 1, 8, [.ptr]⟩ := rfl
theorem tab_67 : tab 67 = some ⟨.func, 1, 8, [.fn]⟩ := rfl
theorem tab_68 : tab 68 = some ⟨.struct [(0, 1, false), (1, 1, false), (2, 1, false), (3, 1, false), (4, 1, false)], 5, 120, [.sl, .sl, .sl, .sl, .sl]⟩ := rfl
theorem tab_69 : tab 69 = some ⟨.struct [(0, 1, false), (1, 1, false), (2, 1, false), (3, 1, false), (4, 1, false)], 5, 120, [.sl, .sl, .sl, .sl, .sl]⟩ := rfl
theorem tab_71 : tab 71 = some ⟨.func, 1, 8, [.fn]⟩ := rfl
theorem tab_72 : tab 72 = some ⟨.func, 1, 8, [.fn]⟩ := rfl
theorem tab_73 : tab 73 = some ⟨.struct [(0, 1, false), (1, 1, false), (2, 1, false)], 3, 56, [.int .i64, .sl, .sl]⟩ := rfl
theorem tab_74 : tab 74 = some ⟨.struct [(0, 1, false), (1, 1, false), (2, 1, false)], 3, 56, [.int .i64, .sl, .sl]⟩ := rfl
theorem tab_75 : tab 75 = some ⟨.func, 1, 8, [.fn]⟩ := rfl
theorem tab_76 : tab 76 = some ⟨.func, 1, 8, [.fn]⟩ := rfl
theorem tab_77 : tab 77 = some ⟨.func, 1, 8, [.fn]⟩ := rfl
theorem tab_78 : tab 78 = some ⟨.slice 84, 1, 24, [.sl]⟩ := rfl
theorem tab_79 : tab 79 = some ⟨.struct [(0, 1, false), (1, 1, false), (2, 1, false), (3, 1, false)], 4, 32, [.int .i64, .int .i64, .int .i64, .int .i64]⟩ := rfl
theorem tab_80 : tab 80 = some ⟨.struct [(0, 1, false), (1, 1, false), (2, 1, false), (3, 1, false)], 4, 32, [.int .i64, .int .i64, .int .i64, .int .i64]⟩ := rfl
theorem tab_81 : tab 81 = some ⟨.struct [(0, 1, false), (1, 4, true), (5, 1, false)], 6, 64, [.sl, .int .i64, .int .i64, .int .i64, .int .i64, .int .i64]⟩ := rfl
theorem tab_82 : tab 82 = some ⟨.struct [(0, 1, false), (1, 4, true), (5, 1, false)], 6, 64, [.sl, .int .i64, .int .i64, .int .i64, .int .i64, .int .i64]⟩ := rfl
theorem tab_83 : tab 83 = some ⟨.struct [(0, 1, false), (1, 1, false), (2, 1, false), (3, 1, false), (4, 1, false), (5, 1, false), (6, 1, false)], 7, 56, [.int .i64, .int .i64, .int .i64, .int .i64, .int .i64, .int .i64, .int .i64]⟩ := rfl
theorem tab_84 : tab 84 = some ⟨.struct [(0, 1, false), (1, 1, false), (2, 1, false), (3, 1, false), (4, 1, false), (5, 1, false), (6, 1, false)], 7, 56, [.int .i64, .int .i64, .int .i64, .int .i64, .int .i64, .int .i64, .int .i64]⟩ := rfl
theorem tab_85 : tab 85 = some ⟨.func, 1, 8, [.fn]⟩ := rfl
theorem tab_86 : tab 86 = some ⟨.func, 1, 8, [.fn]⟩ := rfl
theorem tab_87 : tab 87 = some ⟨.func, 1, 8, [.fn]⟩ := rfl
theorem tab_88 : tab 88 = some ⟨.func, 1, 8, [.fn]⟩ := rfl
theorem tab_89 : tab 89 = some ⟨.func, 1, 8, [.fn]⟩ := rfl
theorem tab_90 : tab 90 = some ⟨.arr 3 22, 3, 72, [.sl, .sl, .sl]⟩ := rfl
theorem tab_91 : tab 91 = some ⟨.struct [(0, 1, false), (1, 1, false)], 2, 48, [.sl, .sl]⟩ := rfl
theorem tab_92 : tab 92 = some ⟨.struct [(0, 1, false), (1, 1, false)], 2, 48, [.sl, .sl]⟩ := rfl
theorem tab_93 : tab 93 = some ⟨.func, 1, 8, [.fn]⟩ := rfl
theorem tab_94 : tab 94 = some ⟨.func, 1, 8, [.fn]⟩ := rfl
theorem tab_95 : tab 95 = some ⟨.func, 1, 8, [.fn]⟩ := rfl
theorem tab_96 : tab 96 = some ⟨.func, 1, 8, [.fn]⟩ := rfl
theorem tab_97 : tab 97 = some ⟨.func, 1, 8, [.fn]⟩ := rfl
theorem tab_98 : tab 98 = some ⟨.func, 1, 8, [.fn]⟩ := rfl
theorem tab_99 : tab 99 = some ⟨.func, 1, 8, [.fn]⟩ := rfl
theorem tab_100 : tab 100 = some ⟨.func, 1, 8, [.fn]⟩ := rfl
theorem tab_101 : tab 101 = some ⟨.func, 1, 8, [.fn]⟩ := rfl
theorem tab_102 : tab 102 = some ⟨.func, 1, 8, [.fn]⟩ := rfl
theorem tab_103 : tab 103 = some ⟨.func, 1, 8, [.fn]⟩ := rfl
theorem tab_104 : tab 104 = some ⟨.func, 1, 8, [.fn]⟩ := rfl
theorem tab_105 : tab 105 = some ⟨.func, 1, 8, [.fn]⟩ := rfl
theorem tab_106 : tab 106 = some ⟨.func, 1, 8, [.fn]⟩ := rfl
theorem tab_107 : tab 107 = some ⟨.func, 1, 8, [.fn]⟩ := rfl
theorem tab_108 : tab 108 = some ⟨.func, 1, 8, [.fn]⟩ := rfl
theorem tab_109 : tab 109 = some ⟨.struct [(0, 1, false), (1, 1, false), (2, 1, false)], 3, 24, [.int .i64, .int .i64, .int .i64]⟩ := rfl
theorem tab_110 : tab 110 = some ⟨.struct [(0, 1, false), (1, 1, false), (2, 1, false)], 3, 24, [.int .i64, .int .i64, .int .i64]⟩ := rfl
theorem tab_111 : tab 111 = some ⟨.func, 1, 8, [.fn]⟩ := rfl
theorem tab_112 : tab 112 = some ⟨.func, 1, 8, [.fn]⟩ := rfl
theorem tab_113 : tab 113 = some ⟨.func, 1, 8, [.fn]⟩ := rfl
theorem tab_114 : tab 114 = some ⟨.func, 1, 8, [.fn]⟩ := rfl
theorem tab_115 : tab 115 = some ⟨.func, 1, 8, [.fn]⟩ := rfl
theorem tab_116 : tab 116 = some ⟨.func, 1, 8, [.fn]⟩ := rfl
theorem tab_117 : tab 117 = some ⟨.func, 1, 8, [.fn]⟩ := rfl
theorem tab_118 : tab 118 = some ⟨.func, 1, 8, [.fn]⟩ := rfl
theorem tab_119 : tab 119 = some ⟨.func, 1, 8, [.fn]⟩ := rfl
theorem tab_120 : tab 120 = some ⟨.func, 1, 8, [.fn]⟩ := rfl
theorem tab_121 : tab 121 = some ⟨.map 3 4, 1, 8, [.map]⟩ := rfl
theorem tab_122 : tab 122 = some ⟨.func, 1, 8, [.fn]⟩ := rfl
theorem tab_123 : tab 123 = some ⟨.func, 1, 8, [.fn]⟩ := rfl
theorem tab_124 : tab 124 = some ⟨.func, 1, 8, [.fn]⟩ := rfl
theorem tab_125 : tab 125 = some ⟨.int .u64, 1, 8, [.int .u64]⟩ := rfl
theorem tab_127 : tab 127 = some ⟨.ptr 129, 1, 8, [.ptr]⟩ := rfl
theorem tab_128 : tab 128 = some ⟨.struct [(0, 6, true), (6, 1, false), (7, 1, false)], 8, 96, [.sl, .int .i64, .int .i64, .int .i64, .int .i64, .sl, .int .i64, .int .i64]⟩ := rfl
theorem tab_129 : tab 129 = some ⟨.struct [(0, 6, true), (6, 1, false), (7, 1, false)], 8, 96, [.sl, .int .i64, .int .i64, .int .i64, .int .i64, .sl, .int .i64, .int .i64]⟩ := rfl
theorem tab_130 : tab 130 = some ⟨.ptr 38, 1, 8, [.ptr]⟩ := rfl
theorem tab_131 : tab 131 = some ⟨.func, 1, 8, [.fn]⟩ := rfl
theorem tab_132 : tab 132 = some ⟨.func, 1, 8, [.fn]⟩ := rfl
theorem tab_133 : tab 133 = some ⟨.func, 1, 8, [.fn]⟩ := rfl
theorem tab_134 : tab 134 = some ⟨.func, 1, 8, [.fn]⟩ := rfl
theorem tab_135 : tab 135 = some ⟨.func, 1, 8, [.fn]⟩ := rfl
theorem tab_136 : tab 136 = some ⟨.int .i64, 1, 8, [.int .i64]⟩ := rfl
theorem tab_138 : tab 138 = some ⟨.func, 1, 8, [.fn]⟩ := rfl
theorem tab_139 : tab 139 = some ⟨.func, 1, 8, [.fn]⟩ := rfl
theorem tab_140 : tab 140 = some ⟨.func, 1, 8, [.fn]⟩ := rfl
theorem tab_142 : tab 142 = some ⟨.func, 1, 8, [.fn]⟩ := rfl
theorem tab_143 : tab 143 = some ⟨.func, 1, 8, [.fn]⟩ := rfl
theorem tab_144 : tab 144 = some ⟨.int .u32, 1, 4, [.int .u32]⟩ := rfl
theorem tab_145 : tab 145 = some ⟨.func, 1, 8, [.fn]⟩ := rfl
theorem tab_146 : tab 146 = some ⟨.int .u64, 1, 8, [.int .u64]⟩ := rfl
theorem tab_147 : tab 147 = some ⟨.func, 1, 8, [.fn]⟩ := rfl
theorem tab_148 : tab 148 = some ⟨.func, 1, 8, [.fn]⟩ := rfl
theorem tab_149 : tab 149 = some ⟨.func, 1, 8, [.fn]⟩ := rfl
theorem tab_150 : tab 150 = some ⟨.struct [(0, 1, false), (1, 1, false), (2, 1, false)], 3, 32, [.int .i64, .int .i64, .str]⟩ := rfl
theorem tab_151 : tab 151 = some ⟨.struct [(0, 1, false), (1, 1, false), (2, 1, false)], 3, 32, [.int .i64, .int .i64, .str]⟩ := rfl
theorem tab_153 : tab 153 = some ⟨.func, 1, 8, [.fn]⟩ := rfl
theorem tab_154 : tab 154 = some ⟨.arr 3 3, 3, 24, [.int .i64, .int .i64, .int .i64]⟩ := rfl
theorem tab_155 : tab 155 = some ⟨.func, 1, 8, [.fn]⟩ := rfl
theorem tab_156 : tab 156 = some ⟨.func, 1, 8, [.fn]⟩ := rfl
theorem tab_157 : tab 157 = some ⟨.func, 1, 8, [.fn]⟩ := rfl
theorem tab_158 : tab 158 = some ⟨.func, 1, 8, [.fn]⟩ := rfl
theorem tab_159 : tab 159 = some ⟨.func, 1, 8, [.fn]⟩ := rfl
theorem tab_160 : tab 160 = some ⟨.func, 1, 8, [.fn]⟩ := rfl
theorem tab_161 : tab 161 = some ⟨.int .u64, 1, 8, [.int .u64]⟩ := rfl
theorem tab_162 : tab 162 = some ⟨.func, 1, 8, [.fn]⟩ := rfl
theorem tab_163 : tab 163 = some ⟨.func, 1, 8, [.fn]⟩ := rfl
theorem tab_164 : tab 164 = some ⟨.func, 1, 8, [.fn]⟩ := rfl
theorem tab_165 : tab 165 = some ⟨.ptr 3, 1, 8, [.ptr]⟩ := rfl
theorem tab_166 : tab 166 = some ⟨.func, 1, 8, [.fn]⟩ := rfl
theorem tab_167 : tab 167 = some ⟨.func, 1, 8, [.fn]⟩ := rfl
theorem tab_168 : tab 168 = some ⟨.arr 25 151, 75, 800, [.int .i64, .int .i64, .str, .int .i64, .int .i64, .str, .int .i64, .int .i64, .str, .int .i64, .int .i64, .str, .int .i64, .int .i64, .str, .int .i64, .int .i64, .str, .int .i64, .int .i64, .str, .int .i64, .int .i64, .str, .int .i64, .int .i64, .str, .int .i64, .int .i64, .str, .int .i64, .int .i64, .str, .int .i64, .int .i64, .str, .int .i64, .int .i64, .str, .int .i64, .int .i64, .str, .int .i64, .int .i64, .str, .int .i64, .int .i64, .str, .int .i64, .int .i64, .str, .int .i64, .int .i64, .str, .int .i64, .int .i64, .str, .int .i64, .int .i64, .str, .int .i64, .int .i64, .str, .int .i64, .int .i64, .str, .int .i64, .int .i64, .str, .int .i64, .int .i64, .str, .int .i64, .int .i64, .str]⟩ := rfl
theorem tab_169 : tab 169 = some ⟨.func, 1, 8, [.fn]⟩ := rfl
theorem tab_170 : tab 170 = some ⟨.func, 1, 8, [.fn]⟩ := rfl
theorem tab_171 : tab 171 = some ⟨.ptr 161, 1, 8, [.ptr]⟩ := rfl
theorem tab_173 : tab 173 = some ⟨.func, 1, 8, [.fn]⟩ := rfl
theorem tab_174 : tab 174 = some ⟨.func, 1, 8, [.fn]⟩ := rfl
theorem tab_175 : tab 175 = some ⟨.func, 1, 8, [.fn]⟩ := rfl
theorem tab_176 : tab 176 = some ⟨.struct [(0, 1, false), (1, 1, false), (2, 1, false), (3, 1, false)], 4, 40, [.ptr, .ptr, .ptr, .str]⟩ := rfl
theorem tab_177 : tab 177 = some ⟨.struct [(0, 1, false), (1, 1, false), (2, 1, false), (3, 1, false)], 4, 40, [.ptr, .ptr, .ptr, .str]⟩ := rfl
theorem tab_181 : tab 181 = some ⟨.func, 1, 8, [.fn]⟩ := rfl
theorem tab_182 : tab 182 = some ⟨.int .u8, 1, 1, [.int .u8]⟩ := rfl
theorem tab_183 : tab 183 = some ⟨.int .u8, 1, 1, [.int .u8]⟩ := rfl
theorem tab_184 : tab 184 = some ⟨.func, 1, 8, [.fn]⟩ := rfl
theorem tab_185 : tab 185 = some ⟨.ptr 5, 1, 8, [.ptr]⟩ := rfl
theorem tab_186 : tab 186 = some ⟨.int .i32, 1, 4, [.int .i32]⟩ := rfl
theorem tab_187 : tab 187 = some ⟨.int .i32, 1, 4, [.int .i32]⟩ := rfl
theorem tab_188 : tab 188 = some ⟨.struct [(0, 1, false), (1, 1, false), (2, 1, false), (3, 1, false), (4, 1, false), (5, 1, false), (6, 1, false), (7, 1, false), (8, 1, false), (9, 1, false), (10, 1, false)], 11, 48, [.int .u64, .int .u64, .int .u32, .int .u8, .int .u8, .int .u8, .int .u8, .fn, .ptr, .int .i32, .int .i32]⟩ := rfl
theorem tab_189 : tab 189 = some ⟨.struct [(0, 1, false), (1, 1, false), (2, 1, false), (3, 1, false), (4, 1, false), (5, 1, false), (6, 1, false), (7, 1, false), (8, 1, false), (9, 1, false), (10, 1, false)], 11, 48, [.int .u64, .int .u64, .int .u32, .int .u8, .int .u8, .int .u8, .int .u8, .fn, .ptr, .int .i32, .int .i32]⟩ := rfl
end Go.Cl
