/- DERIVED HERE, by gen_tab.py: the table of types for the clean layer. -/
import Derived.Test.YtjofhmdjaijgcaaGreatDoorClC
import Derived.Test.YtjofhmdjaijgcaaGreatDoorProg
namespace Go.Cl
open Go.Proofs
def tabL : List (TypeId × TI) := [
  (1, ⟨.func, 1, 8, [.fn]⟩),
  (2, ⟨.int .i64, 1, 8, [.int .i64]⟩),
  (3, ⟨.int .i64, 1, 8, [.int .i64]⟩),
  (4, ⟨.bool, 1, 1, [.bool]⟩),
  (5, ⟨.int .u8, 1, 1, [.int .u8]⟩),
  (6, ⟨.int .u8, 1, 1, [.int .u8]⟩),
  (7, ⟨.struct [(0, 1, false), (1, 1, false), (2, 1, false), (3, 1, false)], 4, 24, [.int .i64, .int .i64, .bool, .int .u8]⟩),
  (8, ⟨.struct [(0, 1, false), (1, 1, false), (2, 1, false), (3, 1, false)], 4, 24, [.int .i64, .int .i64, .bool, .int .u8]⟩),
  (9, ⟨.str, 1, 16, [.str]⟩),
  (10, ⟨.str, 1, 16, [.str]⟩),
  (11, ⟨.str, 1, 16, [.str]⟩),
  (12, ⟨.int .u64, 1, 8, [.int .u64]⟩),
  (13, ⟨.struct [(0, 1, false), (1, 1, false)], 2, 24, [.str, .int .u64]⟩),
  (14, ⟨.struct [(0, 1, false), (1, 1, false)], 2, 24, [.str, .int .u64]⟩),
  (15, ⟨.ptr 185, 1, 8, [.ptr]⟩),
  (16, ⟨.ptr 188, 1, 8, [.ptr]⟩),
  (17, ⟨.ptr 197, 1, 8, [.ptr]⟩),
  (18, ⟨.struct [(0, 1, false)], 1, 8, [.ptr]⟩),
  (19, ⟨.struct [(0, 1, false)], 1, 8, [.ptr]⟩),
  (20, ⟨.ifc, 1, 16, [.ifc]⟩),
  (21, ⟨.int .i32, 1, 4, [.int .i32]⟩),
  (22, ⟨.slice 3, 1, 24, [.sl]⟩),
  (23, ⟨.slice 57, 1, 24, [.sl]⟩),
  (24, ⟨.struct [(0, 1, false), (1, 1, false), (2, 1, false), (3, 1, false), (4, 1, false), (5, 1, false)], 6, 80, [.sl, .int .i64, .int .i64, .int .i64, .int .i64, .sl]⟩),
  (25, ⟨.struct [(0, 1, false), (1, 1, false), (2, 1, false), (3, 1, false), (4, 1, false), (5, 1, false)], 6, 80, [.sl, .int .i64, .int .i64, .int .i64, .int .i64, .sl]⟩),
  (27, ⟨.func, 1, 8, [.fn]⟩),
  (28, ⟨.func, 1, 8, [.fn]⟩),
  (29, ⟨.func, 1, 8, [.fn]⟩),
  (30, ⟨.int .i64, 1, 8, [.int .i64]⟩),
  (32, ⟨.func, 1, 8, [.fn]⟩),
  (33, ⟨.slice 22, 1, 24, [.sl]⟩),
  (35, ⟨.func, 1, 8, [.fn]⟩),
  (36, ⟨.slice 4, 1, 24, [.sl]⟩),
  (37, ⟨.func, 1, 8, [.fn]⟩),
  (38, ⟨.func, 1, 8, [.fn]⟩),
  (39, ⟨.func, 1, 8, [.fn]⟩),
  (40, ⟨.func, 1, 8, [.fn]⟩),
  (42, ⟨.func, 1, 8, [.fn]⟩),
  (43, ⟨.func, 1, 8, [.fn]⟩),
  (44, ⟨.ptr 51, 1, 8, [.ptr]⟩),
  (45, ⟨.func, 1, 8, [.fn]⟩),
  (46, ⟨.func, 1, 8, [.fn]⟩),
  (47, ⟨.func, 1, 8, [.fn]⟩),
  (48, ⟨.func, 1, 8, [.fn]⟩),
  (49, ⟨.slice 36, 1, 24, [.sl]⟩),
  (50, ⟨.struct [(0, 6, true), (6, 1, false), (7, 1, false)], 8, 128, [.sl, .int .i64, .int .i64, .int .i64, .int .i64, .sl, .sl, .sl]⟩),
  (51, ⟨.struct [(0, 6, true), (6, 1, false), (7, 1, false)], 8, 128, [.sl, .int .i64, .int .i64, .int .i64, .int .i64, .sl, .sl, .sl]⟩),
  (52, ⟨.int .u16, 1, 2, [.int .u16]⟩),
  (53, ⟨.slice 80, 1, 24, [.sl]⟩),
  (54, ⟨.struct [(0, 1, false), (1, 1, false), (2, 1, false), (3, 1, false)], 4, 32, [.int .i64, .int .i64, .int .i64, .int .i64]⟩),
  (55, ⟨.struct [(0, 1, false), (1, 1, false), (2, 1, false), (3, 1, false)], 4, 32, [.int .i64, .int .i64, .int .i64, .int .i64]⟩),
  (56, ⟨.struct [(0, 1, false), (1, 4, true), (5, 1, false)], 6, 64, [.sl, .int .i64, .int .i64, .int .i64, .int .i64, .int .i64]⟩),
  (57, ⟨.struct [(0, 1, false), (1, 4, true), (5, 1, false)], 6, 64, [.sl, .int .i64, .int .i64, .int .i64, .int .i64, .int .i64]⟩),
  (58, ⟨.func, 1, 8, [.fn]⟩),
  (59, ⟨.func, 1, 8, [.fn]⟩),
  (60, ⟨.func, 1, 8, [.fn]⟩),
  (61, ⟨.func, 1, 8, [.fn]⟩),
  (62, ⟨.func, 1, 8, [.fn]⟩),
  (63, ⟨.ptr 67, 1, 8, [.ptr]⟩),
  (65, ⟨.func, 1, 8, [.fn]⟩),
  (66, ⟨.struct [(0, 1, false), (1, 1, false), (2, 1, false), (3, 1, false), (4, 1, false)], 5, 120, [.sl, .sl, .sl, .sl, .sl]⟩),
  (67, ⟨.struct [(0, 1, false), (1, 1, false), (2, 1, false), (3, 1, false), (4, 1, false)], 5, 120, [.sl, .sl, .sl, .sl, .sl]⟩),
  (68, ⟨.ptr 75, 1, 8, [.ptr]⟩),
  (70, ⟨.func, 1, 8, [.fn]⟩),
  (71, ⟨.struct [(0, 1, false), (1, 1, false)], 2, 48, [.sl, .sl]⟩),
  (72, ⟨.struct [(0, 1, false), (1, 1, false)], 2, 48, [.sl, .sl]⟩),
  (73, ⟨.slice 77, 1, 24, [.sl]⟩),
  (74, ⟨.struct [(0, 6, true), (6, 2, true), (8, 1, false)], 9, 152, [.sl, .int .i64, .int .i64, .int .i64, .int .i64, .sl, .sl, .sl, .sl]⟩),
  (75, ⟨.struct [(0, 6, true), (6, 2, true), (8, 1, false)], 9, 152, [.sl, .int .i64, .int .i64, .int .i64, .int .i64, .sl, .sl, .sl, .sl]⟩),
  (76, ⟨.slice 107, 1, 24, [.sl]⟩),
  (77, ⟨.slice 107, 1, 24, [.sl]⟩),
  (78, ⟨.func, 1, 8, [.fn]⟩),
  (79, ⟨.struct [(0, 1, false), (1, 1, false), (2, 1, false), (3, 1, false), (4, 1, false), (5, 1, false), (6, 1, false)], 7, 56, [.int .i64, .int .i64, .int .i64, .int .i64, .int .i64, .int .i64, .int .i64]⟩),
  (80, ⟨.struct [(0, 1, false), (1, 1, false), (2, 1, false), (3, 1, false), (4, 1, false), (5, 1, false), (6, 1, false)], 7, 56, [.int .i64, .int .i64, .int .i64, .int .i64, .int .i64, .int .i64, .int .i64]⟩),
  (81, ⟨.func, 1, 8, [.fn]⟩),
  (82, ⟨.func, 1, 8, [.fn]⟩),
  (84, ⟨.func, 1, 8, [.fn]⟩),
  (85, ⟨.func, 1, 8, [.fn]⟩),
  (86, ⟨.func, 1, 8, [.fn]⟩),
  (87, ⟨.func, 1, 8, [.fn]⟩),
  (88, ⟨.func, 1, 8, [.fn]⟩),
  (89, ⟨.func, 1, 8, [.fn]⟩),
  (90, ⟨.func, 1, 8, [.fn]⟩),
  (92, ⟨.func, 1, 8, [.fn]⟩),
  (93, ⟨.func, 1, 8, [.fn]⟩),
  (94, ⟨.struct [(0, 1, false), (1, 1, false)], 2, 48, [.sl, .sl]⟩),
  (95, ⟨.struct [(0, 1, false), (1, 1, false)], 2, 48, [.sl, .sl]⟩),
  (96, ⟨.func, 1, 8, [.fn]⟩),
  (97, ⟨.func, 1, 8, [.fn]⟩),
  (98, ⟨.func, 1, 8, [.fn]⟩),
  (99, ⟨.func, 1, 8, [.fn]⟩),
  (100, ⟨.func, 1, 8, [.fn]⟩),
  (101, ⟨.func, 1, 8, [.fn]⟩),
  (102, ⟨.func, 1, 8, [.fn]⟩),
  (103, ⟨.struct [(0, 1, false), (1, 1, false), (2, 1, false)], 3, 24, [.int .i64, .int .i64, .int .i64]⟩),
  (104, ⟨.struct [(0, 1, false), (1, 1, false), (2, 1, false)], 3, 24, [.int .i64, .int .i64, .int .i64]⟩),
  (105, ⟨.func, 1, 8, [.fn]⟩),
  (106, ⟨.func, 1, 8, [.fn]⟩),
  (107, ⟨.int .u64, 1, 8, [.int .u64]⟩),
  (108, ⟨.func, 1, 8, [.fn]⟩),
  (109, ⟨.func, 1, 8, [.fn]⟩),
  (110, ⟨.func, 1, 8, [.fn]⟩),
  (111, ⟨.func, 1, 8, [.fn]⟩),
  (112, ⟨.func, 1, 8, [.fn]⟩),
  (113, ⟨.func, 1, 8, [.fn]⟩),
  (114, ⟨.func, 1, 8, [.fn]⟩),
  (115, ⟨.func, 1, 8, [.fn]⟩),
  (116, ⟨.func, 1, 8, [.fn]⟩),
  (117, ⟨.func, 1, 8, [.fn]⟩),
  (118, ⟨.func, 1, 8, [.fn]⟩),
  (119, ⟨.func, 1, 8, [.fn]⟩),
  (120, ⟨.func, 1, 8, [.fn]⟩),
  (121, ⟨.func, 1, 8, [.fn]⟩),
  (122, ⟨.func, 1, 8, [.fn]⟩),
  (123, ⟨.func, 1, 8, [.fn]⟩),
  (124, ⟨.struct [(0, 1, false), (1, 1, false), (2, 1, false)], 3, 32, [.int .i64, .int .i64, .str]⟩),
  (125, ⟨.struct [(0, 1, false), (1, 1, false), (2, 1, false)], 3, 32, [.int .i64, .int .i64, .str]⟩),
  (127, ⟨.func, 1, 8, [.fn]⟩),
  (128, ⟨.func, 1, 8, [.fn]⟩),
  (129, ⟨.func, 1, 8, [.fn]⟩),
  (130, ⟨.func, 1, 8, [.fn]⟩),
  (131, ⟨.func, 1, 8, [.fn]⟩),
  (132, ⟨.func, 1, 8, [.fn]⟩),
  (133, ⟨.func, 1, 8, [.fn]⟩),
  (134, ⟨.func, 1, 8, [.fn]⟩),
  (135, ⟨.int .u64, 1, 8, [.int .u64]⟩),
  (137, ⟨.ptr 139, 1, 8, [.ptr]⟩),
  (138, ⟨.struct [(0, 6, true), (6, 1, false), (7, 1, false)], 8, 96, [.sl, .int .i64, .int .i64, .int .i64, .int .i64, .sl, .int .i64, .int .i64]⟩),
  (139, ⟨.struct [(0, 6, true), (6, 1, false), (7, 1, false)], 8, 96, [.sl, .int .i64, .int .i64, .int .i64, .int .i64, .sl, .int .i64, .int .i64]⟩),
  (140, ⟨.func, 1, 8, [.fn]⟩),
  (141, ⟨.func, 1, 8, [.fn]⟩),
  (142, ⟨.func, 1, 8, [.fn]⟩),
  (143, ⟨.func, 1, 8, [.fn]⟩),
  (144, ⟨.func, 1, 8, [.fn]⟩),
  (145, ⟨.func, 1, 8, [.fn]⟩),
  (146, ⟨.func, 1, 8, [.fn]⟩),
  (147, ⟨.func, 1, 8, [.fn]⟩),
  (148, ⟨.func, 1, 8, [.fn]⟩),
  (149, ⟨.func, 1, 8, [.fn]⟩),
  (150, ⟨.func, 1, 8, [.fn]⟩),
  (151, ⟨.arr 25 125, 75, 800, [.int .i64, .int .i64, .str, .int .i64, .int .i64, .str, .int .i64, .int .i64, .str, .int .i64, .int .i64, .str, .int .i64, .int .i64, .str, .int .i64, .int .i64, .str, .int .i64, .int .i64, .str, .int .i64, .int .i64, .str, .int .i64, .int .i64, .str, .int .i64, .int .i64, .str, .int .i64, .int .i64, .str, .int .i64, .int .i64, .str, .int .i64, .int .i64, .str, .int .i64, .int .i64, .str, .int .i64, .int .i64, .str, .int .i64, .int .i64, .str, .int .i64, .int .i64, .str, .int .i64, .int .i64, .str, .int .i64, .int .i64, .str, .int .i64, .int .i64, .str, .int .i64, .int .i64, .str, .int .i64, .int .i64, .str, .int .i64, .int .i64, .str, .int .i64, .int .i64, .str, .int .i64, .int .i64, .str]⟩),
  (152, ⟨.arr 3 3, 3, 24, [.int .i64, .int .i64, .int .i64]⟩),
  (153, ⟨.func, 1, 8, [.fn]⟩),
  (154, ⟨.func, 1, 8, [.fn]⟩),
  (155, ⟨.int .i64, 1, 8, [.int .i64]⟩),
  (157, ⟨.func, 1, 8, [.fn]⟩),
  (158, ⟨.func, 1, 8, [.fn]⟩),
  (159, ⟨.func, 1, 8, [.fn]⟩),
  (160, ⟨.func, 1, 8, [.fn]⟩),
  (161, ⟨.func, 1, 8, [.fn]⟩),
  (162, ⟨.func, 1, 8, [.fn]⟩),
  (163, ⟨.int .u32, 1, 4, [.int .u32]⟩),
  (164, ⟨.func, 1, 8, [.fn]⟩),
  (165, ⟨.func, 1, 8, [.fn]⟩),
  (166, ⟨.func, 1, 8, [.fn]⟩),
  (167, ⟨.func, 1, 8, [.fn]⟩),
  (168, ⟨.func, 1, 8, [.fn]⟩),
  (169, ⟨.func, 1, 8, [.fn]⟩),
  (170, ⟨.ptr 36, 1, 8, [.ptr]⟩),
  (171, ⟨.func, 1, 8, [.fn]⟩),
  (172, ⟨.int .u64, 1, 8, [.int .u64]⟩),
  (173, ⟨.func, 1, 8, [.fn]⟩),
  (174, ⟨.func, 1, 8, [.fn]⟩),
  (175, ⟨.func, 1, 8, [.fn]⟩),
  (176, ⟨.ptr 3, 1, 8, [.ptr]⟩),
  (177, ⟨.func, 1, 8, [.fn]⟩),
  (178, ⟨.func, 1, 8, [.fn]⟩),
  (179, ⟨.func, 1, 8, [.fn]⟩),
  (180, ⟨.ptr 172, 1, 8, [.ptr]⟩),
  (182, ⟨.func, 1, 8, [.fn]⟩),
  (183, ⟨.func, 1, 8, [.fn]⟩),
  (184, ⟨.struct [(0, 1, false), (1, 1, false), (2, 1, false), (3, 1, false)], 4, 40, [.ptr, .ptr, .ptr, .str]⟩),
  (185, ⟨.struct [(0, 1, false), (1, 1, false), (2, 1, false), (3, 1, false)], 4, 40, [.ptr, .ptr, .ptr, .str]⟩),
  (189, ⟨.func, 1, 8, [.fn]⟩),
  (190, ⟨.int .u8, 1, 1, [.int .u8]⟩),
  (191, ⟨.int .u8, 1, 1, [.int .u8]⟩),
  (192, ⟨.func, 1, 8, [.fn]⟩),
  (193, ⟨.ptr 5, 1, 8, [.ptr]⟩),
  (194, ⟨.int .i32, 1, 4, [.int .i32]⟩),
  (195, ⟨.int .i32, 1, 4, [.int .i32]⟩),
  (196, ⟨.struct [(0, 1, false), (1, 1, false), (2, 1, false), (3, 1, false), (4, 1, false), (5, 1, false), (6, 1, false), (7, 1, false), (8, 1, false), (9, 1, false), (10, 1, false)], 11, 48, [.int .u64, .int .u64, .int .u32, .int .u8, .int .u8, .int .u8, .int .u8, .fn, .ptr, .int .i32, .int .i32]⟩),
  (197, ⟨.struct [(0, 1, false), (1, 1, false), (2, 1, false), (3, 1, false), (4, 1, false), (5, 1, false), (6, 1, false), (7, 1, false), (8, 1, false), (9, 1, false), (10, 1, false)], 11, 48, [.int .u64, .int .u64, .int .u32, .int .u8, .int .u8, .int .u8, .int .u8, .fn, .ptr, .int .i32, .int .i32]⟩)]
def tab : Tab := tabOf tabL
theorem tab_ok : TabOk Tryz.prog tab := tabOk_of (by kernel_rfl)
theorem tab_1 : tab 1 = some ⟨.func, 1, 8, [.fn]⟩ := rfl
theorem tab_2 : tab 2 = some ⟨.int .i64, 1, 8, [.int .i64]⟩ := rfl
theorem tab_3 : tab 3 = some ⟨.int .i64, 1, 8, [.int .i64]⟩ := rfl
theorem tab_4 : tab 4 = some ⟨.bool, 1, 1, [.bool]⟩ := rfl
theorem tab_5 : tab 5 = some ⟨.int .u8, 1, 1, [.int .u8]⟩ := rfl
theorem tab_6 : tab 6 = some ⟨.int .u8, 1, 1, [.int .u8]⟩ := rfl
theorem tab_7 : tab 7 = some ⟨.struct [(0, 1, false), (1, 1, false), (2, 1, false), (3, 1, false)], 4, 24, [.int .i64, .int .i64, .bool, .int .u8]⟩ := rfl
theorem tab_8 : tab 8 = some ⟨.struct [(0, 1, false), (1, 1, false), (2, 1, false), (3, 1, false)], 4, 24, [.int .i64, .int .i64, .bool, .int .u8]⟩ := rfl
theorem tab_9 : tab 9 = some ⟨.str, 1, 16, [.str]⟩ := rfl
theorem tab_10 : tab 10 = some ⟨.str, 1, 16, [.str]⟩ := rfl
theorem tab_11 : tab 11 = some ⟨.str, 1, 16, [.str]⟩ := rfl
theorem tab_12 : tab 12 = some ⟨.int .u64, 1, 8, [.int .u64]⟩ := rfl
theorem tab_13 : tab 13 = some ⟨.struct [(0, 1, false), (1, 1, false)], 2, 24, [.str, .int .u64]⟩ := rfl
theorem tab_14 : tab 14 = some ⟨.struct [(0, 1, false), (1, 1, false)], 2, 24, [.str, .int .u64]⟩ := rfl
theorem tab_15 : tab 15 = some ⟨.ptr 185, 1, 8, [.ptr]⟩ := rfl
theorem tab_16 : tab 16 = some ⟨.ptr 188, 1, 8, [.ptr]⟩ := rfl
theorem tab_17 : tab 17 = some ⟨.ptr 197, 1, 8, [.ptr]⟩ := rfl
theorem tab_18 : tab 18 = some ⟨.struct [(0, 1, false)], 1, 8, [.ptr]⟩ := rfl
theorem tab_19 : tab 19 = some ⟨.struct [(0, 1, false)], 1, 8, [.ptr]⟩ := rfl
theorem tab_20 : tab 20 = some ⟨.ifc, 1, 16, [.ifc]⟩ := rfl
theorem tab_21 : tab 21 = some ⟨.int .i32, 1, 4, [.int .i32]⟩ := rfl
theorem tab_22 : tab 22 = some ⟨.slice 3, 1, 24, [.sl]⟩ := rfl
theorem tab_23 : tab 23 = some ⟨.slice 57, 1, 24, [.sl]⟩ := rfl
theorem tab_24 : tab 24 = some ⟨.struct [(0, 1, false), (1, 1, false), (2, 1, false), (3, 1, false), (4, 1, false), (5, 1, false)], 6, 80, [.sl, .int .i64, .int .i64, .int .i64, .int .i64, .sl]⟩ := rfl
theorem tab_25 : tab 25 = some ⟨.struct [(0, 1, false), (1, 1, false), (2, 1, false), (3, 1, false), (4, 1, false), (5, 1, false)], 6, 80, [.sl, .int .i64, .int .i64, .int .i64, .int .i64, .sl]⟩ := rfl
theorem tab_27 : tab 27 = some ⟨.func, 1, 8, [.fn]⟩ := rfl
theorem tab_28 : tab 28 = some ⟨.func, 1, 8, [.fn]⟩ := rfl
theorem tab_29 : tab 29 = some ⟨.func, 1, 8, [.fn]⟩ := rfl
theorem tab_30 : tab 30 = some ⟨.int .i64, 1, 8, [.int .i64]⟩ := rfl
theorem tab_32 : tab 32 = some ⟨.func, 1, 8, [.fn]⟩ := rfl
theorem tab_33 : tab 33 = some ⟨.slice 22, 1, 24, [.sl]⟩ := rfl
theorem tab_35 : tab 35 = some ⟨.func, 1, 8, [.fn]⟩ := rfl
theorem tab_36 : tab 36 = some ⟨.slice 4, 1, 24, [.sl]⟩ := rfl
theorem tab_37 : tab 37 = some ⟨.func, 1, 8, [.fn]⟩ := rfl
theorem tab_38 : tab 38 = some ⟨.func, 1, 8, [.fn]⟩ := rfl
theorem tab_39 : tab 39 = some ⟨.func, 1, 8, [.fn]⟩ := rfl
theorem tab_40 : tab 40 = some ⟨.func, 1, 8, [.fn]⟩ := rfl
theorem tab_42 : tab 42 = some ⟨.func, 1, 8, [.fn]⟩ := rfl
theorem tab_43 : tab 43 = some ⟨.func, 1, 8, [.fn]⟩ := rfl
theorem tab_44 : tab 44 = some ⟨.ptr 51, 1, 8, [.ptr]⟩ := rfl
theorem tab_45 : tab 45 = some ⟨.func, 1, 8, [.fn]⟩ := rfl
theorem tab_46 : tab 46 = some ⟨.func, 1, 8, [.fn]⟩ := rfl
theorem tab_47 : tab 47 = some ⟨.func, 1, 8, [.fn]⟩ := rfl
theorem tab_48 : tab 48 = some ⟨.func, 1, 8, [.fn]⟩ := rfl
theorem tab_49 : tab 49 = some ⟨.slice 36, 1, 24, [.sl]⟩ := rfl
theorem tab_50 : tab 50 = some ⟨.struct [(0, 6, true), (6, 1, false), (7, 1, false)], 8, 128, [.sl, .int .i64, .int .i64, .int .i64, .int .i64, .sl, .sl, .sl]⟩ := rfl
theorem tab_51 : tab 51 = some ⟨.struct [(0, 6, true), (6, 1, false), (7, 1, false)], 8, 128, [.sl, .int .i64, .int .i64, .int .i64, .int .i64, .sl, .sl, .sl]⟩ := rfl
theorem tab_52 : tab 52 = some ⟨.int .u16, 1, 2, [.int .u16]⟩ := rfl
theorem tab_53 : tab 53 = some ⟨.slice 80, 1, 24, [.sl]⟩ := rfl
theorem tab_54 : tab 54 = some ⟨.struct [(0, 1, false), (1, 1, false), (2, 1, false), (3, 1, false)], 4, 32, [.int .i64, .int .i64, .int .i64, .int .i64]⟩ := rfl
theorem tab_55 : tab 55 = some ⟨.struct [(0, 1, false), (1, 1, false), (2, 1, false), (3, 1, false)], 4, 32, [.int .i64, .int .i64, .int .i64, .int .i64]⟩ := rfl
theorem tab_56 : tab 56 = some ⟨.struct [(0, 1, false), (1, 4, true), (5, 1, false)], 6, 64, [.sl, .int .i64, .int .i64, .int .i64, .int .i64, .int .i64]⟩ := rfl
theorem tab_57 : tab 57 = some ⟨.struct [(0, 1, false), (1, 4, true), (5, 1, false)], 6, 64, [.sl, .int .i64, .int .i64, .int .i64, .int .i64, .int .i64]⟩ := rfl
theorem tab_58 : tab 58 = some ⟨.func, 1, 8, [.fn]⟩ := rfl
theorem tab_59 : tab 59 = some ⟨.func, 1, 8, [.fn]⟩ := rfl
theorem tab_60 : tab 60 = some ⟨.func, 1, 8, [.fn]⟩ := rfl
theorem tab_61 : tab 61 = some ⟨.func, 1, 8, [.fn]⟩ := rfl
theorem tab_62 : tab 62 = some ⟨.func, 1, 8, [.fn]⟩ := rfl
theorem tab_63 : tab 63 = some ⟨.ptr 67, 1, 8, [.ptr]⟩ := rfl
theorem tab_65 : tab 65 = some ⟨.func, 1, 8, [.fn]⟩ := rfl
theorem tab_66 : tab 66 = some ⟨.struct [(0, 1, false), (1, 1, false), (2, 1, false), (3, 1, false), (4, 1, false)], 5, 120, [.sl, .sl, .sl, .sl, .sl]⟩ := rfl
theorem tab_67 : tab 67 = some ⟨.struct [(0, 1, false), (1, 1, false), (2, 1, false), (3, 1, false), (4, 1, false)], 5, 120, [.sl, .sl, .sl, .sl, .sl]⟩ := rfl
theorem tab_68 : tab 68 = some ⟨.ptr 75, 1, 8, [.ptr]⟩ := rfl
theorem tab_70 : tab 70 = some ⟨.func, 1, 8, [.fn]⟩ := rfl
theorem tab_71 : tab 71 = some ⟨.struct [(0, 1, false), (1, 1, false)], 2, 48, [.sl, .sl]⟩ := rfl
theorem tab_72 : tab 72 = some ⟨.struct [(0, 1, false), (1, 1, false)], 2, 48, [.sl, .sl]⟩ := rfl
theorem tab_73 : tab 73 = some ⟨.slice 77, 1, 24, [.sl]⟩ := rfl
theorem tab_74 : tab 74 = some ⟨.struct [(0, 6, true), (6, 2, true), (8, 1, false)], 9, 152, [.sl, .int .i64, .int .i64, .int .i64, .int .i64, .sl, .sl, .sl, .sl]⟩ := rfl
theorem tab_75 : tab 75 = some ⟨.struct [(0, 6, true), (6, 2, true), (8, 1, false)], 9, 152, [.sl, .int .i64, .int .i64, .int .i64, .int .i64, .sl, .sl, .sl, .sl]⟩ := rfl
theorem tab_76 : tab 76 = some ⟨.slice 107, 1, 24, [.sl]⟩ := rfl
theorem tab_77 : tab 77 = some ⟨.slice 107, 1, 24, [.sl]⟩ := rfl
theorem tab_78 : tab 78 = some ⟨.func, 1, 8, [.fn]⟩ := rfl
theorem tab_79 : tab 79 = some ⟨.struct [(0, 1, false), (1, 1, false), (2, 1, false), (3, 1, false), (4, 1, false), (5, 1, false), (6, 1, false)], 7, 56, [.int .i64, .int .i64, .int .i64, .int .i64, .int .i64, .int .i64, .int .i64]⟩ := rfl
theorem tab_80 : tab 80 = some ⟨.struct [(0, 1, false), (1, 1, false), (2, 1, false), (3, 1, false), (4, 1, false), (5, 1, false), (6, 1, false)], 7, 56, [.int .i64, .int .i64, .int .i64, .int .i64, .int .i64, .int .i64, .int .i64]⟩ := rfl
theorem tab_81 : tab 81 = some ⟨.func, 1, 8, [.fn]⟩ := rfl
theorem tab_82 : tab 82 = some ⟨.func, 1, 8, [.fn]⟩ := rfl
theorem tab_84 : tab 84 = some ⟨.func, 1, 8, [.fn]⟩ := rfl
theorem tab_85 : tab 85 = some ⟨.func, 1, 8, [.fn]⟩ := rfl
theorem tab_86 : tab 86 = some ⟨.func, 1, 8, [.fn]⟩ := rfl
theorem tab_87 : tab 87 = some ⟨.func, 1, 8, [.fn]⟩ := rfl
theorem tab_88 : tab 88 = some ⟨.func, 1, 8, [.fn]⟩ := rfl
theorem tab_89 : tab 89 = some ⟨.func, 1, 8, [.fn]⟩ := rfl
theorem tab_90 : tab 90 = some ⟨.func, 1, 8, [.fn]⟩ := rfl
theorem tab_92 : tab 92 = some ⟨.func, 1, 8, [.fn]⟩ := rfl
theorem tab_93 : tab 93 = some ⟨.func, 1, 8, [.fn]⟩ := rfl
theorem tab_94 : tab 94 = some ⟨.struct [(0, 1, false), (1, 1, false)], 2, 48, [.sl, .sl]⟩ := rfl
theorem tab_95 : tab 95 = some ⟨.struct [(0, 1, false), (1, 1, false)], 2, 48, [.sl, .sl]⟩ := rfl
theorem tab_96 : tab 96 = some ⟨.func, 1, 8, [.fn]⟩ := rfl
theorem tab_97 : tab 97 = some ⟨.func, 1, 8, [.fn]⟩ := rfl
theorem tab_98 : tab 98 = some ⟨.func, 1, 8, [.fn]⟩ := rfl
theorem tab_99 : tab 99 = some ⟨.func, 1, 8, [.fn]⟩ := rfl
theorem tab_100 : tab 100 = some ⟨.func, 1, 8, [.fn]⟩ := rfl
theorem tab_101 : tab 101 = some ⟨.func, 1, 8, [.fn]⟩ := rfl
theorem tab_102 : tab 102 = some ⟨.func, 1, 8, [.fn]⟩ := rfl
theorem tab_103 : tab 103 = some ⟨.struct [(0, 1, false), (1, 1, false), (2, 1, false)], 3, 24, [.int .i64, .int .i64, .int .i64]⟩ := rfl
theorem tab_104 : tab 104 = some ⟨.struct [(0, 1, false), (1, 1, false), (2, 1, false)], 3, 24, [.int .i64, .int .i64, .int .i64]⟩ := rfl
theorem tab_105 : tab 105 = some ⟨.func, 1, 8, [.fn]⟩ := rfl
theorem tab_106 : tab 106 = some ⟨.func, 1, 8, [.fn]⟩ := rfl
theorem tab_107 : tab 107 = some ⟨.int .u64, 1, 8, [.int .u64]⟩ := rfl
theorem tab_108 : tab 108 = some ⟨.func, 1, 8, [.fn]⟩ := rfl
theorem tab_109 : tab 109 = some ⟨.func, 1, 8, [.fn]⟩ := rfl
theorem tab_110 : tab 110 = some ⟨.func, 1, 8, [.fn]⟩ := rfl
theorem tab_111 : tab 111 = some ⟨.func, 1, 8, [.fn]⟩ := rfl
theorem tab_112 : tab 112 = some ⟨.func, 1, 8, [.fn]⟩ := rfl
theorem tab_113 : tab 113 = some ⟨.func, 1, 8, [.fn]⟩ := rfl
theorem tab_114 : tab 114 = some ⟨.func, 1, 8, [.fn]⟩ := rfl
theorem tab_115 : tab 115 = some ⟨.func, 1, 8, [.fn]⟩ := rfl
theorem tab_116 : tab 116 = some ⟨.func, 1, 8, [.fn]⟩ := rfl
theorem tab_117 : tab 117 = some ⟨.func, 1, 8, [.fn]⟩ := rfl
theorem tab_118 : tab 118 = some ⟨.func, 1, 8, [.fn]⟩ := rfl
theorem tab_119 : tab 119 = some ⟨.func, 1, 8, [.fn]⟩ := rfl
theorem tab_120 : tab 120 = some ⟨.func, 1, 8, [.fn]⟩ := rfl
theorem tab_121 : tab 121 = some ⟨.func, 1, 8, [.fn]⟩ := rfl
theorem tab_122 : tab 122 = some ⟨.func, 1, 8, [.fn]⟩ := rfl
theorem tab_123 : tab 123 = some ⟨.func, 1, 8, [.fn]⟩ := rfl
theorem tab_124 : tab 124 = some ⟨.struct [(0, 1, false), (1, 1, false), (2, 1, false)], 3, 32, [.int .i64, .int .i64, .str]⟩ := rfl
theorem tab_125 : tab 125 = some ⟨.struct [(0, 1, false), (1, 1, false), (2, 1, false)], 3, 32, [.int .i64, .int .i64, .str]⟩ := rfl
theorem tab_127 : tab 127 = some ⟨.func, 1, 8, [.fn]⟩ := rfl
theorem tab_128 : tab 128 = some ⟨.func, 1, 8, [.fn]⟩ := rfl
theorem tab_129 : tab 129 = some ⟨.func, 1, 8, [.fn]⟩ := rfl
theorem tab_130 : tab 130 = some ⟨.func, 1, 8, [.fn]⟩ := rfl
theorem tab_131 : tab 131 = some ⟨.func, 1, 8, [.fn]⟩ := rfl
theorem tab_132 : tab 132 = some ⟨.func, 1, 8, [.fn]⟩ := rfl
theorem tab_133 : tab 133 = some ⟨.func, 1, 8, [.fn]⟩ := rfl
theorem tab_134 : tab 134 = some ⟨.func, 1, 8, [.fn]⟩ := rfl
theorem tab_135 : tab 135 = some ⟨.int .u64, 1, 8, [.int .u64]⟩ := rfl
theorem tab_137 : tab 137 = some ⟨.ptr 139, 1, 8, [.ptr]⟩ := rfl
theorem tab_138 : tab 138 = some ⟨.struct [(0, 6, true), (6, 1, false), (7, 1, false)], 8, 96, [.sl, .int .i64, .int .i64, .int .i64, .int .i64, .sl, .int .i64, .int .i64]⟩ := rfl
theorem tab_139 : tab 139 = some ⟨.struct [(0, 6, true), (6, 1, false), (7, 1, false)], 8, 96, [.sl, .int .i64, .int .i64, .int .i64, .int .i64, .sl, .int .i64, .int .i64]⟩ := rfl
theorem tab_140 : tab 140 = some ⟨.func, 1, 8, [.fn]⟩ := rfl
theorem tab_141 : tab 141 = some ⟨.func, 1, 8, [.fn]⟩ := rfl
theorem tab_142 : tab 142 = some ⟨.func, 1, 8, [.fn]⟩ := rfl
theorem tab_143 : tab 143 = some ⟨.func, 1, 8, [.fn]⟩ := rfl
theorem tab_144 : tab 144 = some ⟨.func, 1, 8, [.fn]⟩ := rfl
theorem tab_145 : tab 145 = some ⟨.func, 1, 8, [.fn]⟩ := rfl
theorem tab_146 : tab 146 = some ⟨.func, 1, 8, [.fn]⟩ := rfl
theorem tab_147 : tab 147 = some ⟨.func, 1, 8, [.fn]⟩ := rfl
theorem tab_148 : tab 148 = some ⟨.func, 1, 8, [.fn]⟩ := rfl
theorem tab_149 : tab 149 = some ⟨.func, 1, 8, [.fn]⟩ := rfl
theorem tab_150 : tab 150 = some ⟨.func, 1, 8, [.fn]⟩ := rfl
theorem tab_151 : tab 151 = some ⟨.arr 25 125, 75, 800, [.int .i64, .int .i64, .str, .int .i64, .int .i64, .str, .int .i64, .int .i64, .str, .int .i64, .int .i64, .str, .int .i64, .int .i64, .str, .int .i64, .int .i64, .str, .int .i64, .int .i64, .str, .int .i64, .int .i64, .str, .int .i64, .int .i64, .str, .int .i64, .int .i64, .str, .int .i64, .int .i64, .str, .int .i64, .int .i64, .str, .int .i64, .int .i64, .str, .int .i64, .int .i64, .str, .int .i64, .int .i64, .str, .int .i64, .int .i64, .str, .int .i64, .int .i64, .str, .int .i64, .int .i64, .str, .int .i64, .int .i64, .str, .int .i64, .int .i64, .str, .int .i64, .int .i64, .str, .int .i64, .int .i64, .str, .int .i64, .int .i64, .str, .int .i64, .int .i64, .str, .int .i64, .int .i64, .str]⟩ := rfl
theorem tab_152 : tab 152 = some ⟨.arr 3 3, 3, 24, [.int .i64, .int .i64, .int .i64]⟩ := rfl
theorem tab_153 : tab 153 = some ⟨.func, 1, 8, [.fn]⟩ := rfl
theorem tab_154 : tab 154 = some ⟨.func, 1, 8, [.fn]⟩ := rfl
theorem tab_155 : tab 155 = some ⟨.int .i64, 1, 8, [.int .i64]⟩ := rfl
theorem tab_157 : tab 157 = some ⟨.func, 1, 8, [.fn]⟩ := rfl
theorem tab_158 : tab 158 = some ⟨.func, 1, 8, [.fn]⟩ := rfl
theorem tab_159 : tab 159 = some ⟨.func, 1, 8, [.fn]⟩ := rfl
theorem tab_160 : tab 160 = some ⟨.func, 1, 8, [.fn]⟩ := rfl
theorem tab_161 : tab 161 = some ⟨.func, 1, 8, [.fn]⟩ := rfl
theorem tab_162 : tab 162 = some ⟨.func, 1, 8, [.fn]⟩ := rfl
theorem tab_163 : tab 163 = some ⟨.int .u32, 1, 4, [.int .u32]⟩ := rfl
theorem tab_164 : tab 164 = some ⟨.func, 1, 8, [.fn]⟩ := rfl
theorem tab_165 : tab 165 = some ⟨.func, 1, 8, [.fn]⟩ := rfl
theorem tab_166 : tab 166 = some ⟨.func, 1, 8, [.fn]⟩ := rfl
theorem tab_167 : tab 167 = some ⟨.func, 1, 8, [.fn]⟩ := rfl
theorem tab_168 : tab 168 = some ⟨.func, 1, 8, [.fn]⟩ := rfl
theorem tab_169 : tab 169 = some ⟨.func, 1, 8, [.fn]⟩ := rfl
theorem tab_170 : tab 170 = some ⟨.ptr 36, 1, 8, [.ptr]⟩ := rfl
theorem tab_171 : tab 171 = some ⟨.func, 1, 8, [.fn]⟩ := rfl
theorem tab_172 : tab 172 = some ⟨.int .u64, 1, 8, [.int .u64]⟩ := rfl
theorem tab_173 : tab 173 = some ⟨.func, 1, 8, [.fn]⟩ := rfl
theorem tab_174 : tab 174 = some ⟨.func, 1, 8, [.fn]⟩ := rfl
theorem tab_175 : tab 175 = some ⟨.func, 1, 8, [.fn]⟩ := rfl
theorem tab_176 : tab 176 = some ⟨.ptr 3, 1, 8, [.ptr]⟩ := rfl
theorem tab_177 : tab 177 = some ⟨.func, 1, 8, [.fn]⟩ := rfl
theorem tab_178 : tab 178 = some ⟨.func, 1, 8, [.fn]⟩ := rfl
theorem tab_179 : tab 179 = some ⟨.func, 1, 8, [.fn]⟩ := rfl
theorem tab_180 : tab 180 = some ⟨.ptr 172, 1, 8, [.ptr]⟩ := rfl
theorem tab_182 : tab 182 = some ⟨.func, 1, 8, [.fn]⟩ := rfl
theorem tab_183 : tab 183 = some ⟨.func, 1, 8, [.fn]⟩ := rfl
theorem tab_184 : tab 184 = some ⟨.struct [(0, 1, false), (1, 1, false), (2, 1, false), (3, 1, false)], 4, 40, [.ptr, .ptr, .ptr, .str]⟩ := rfl
theorem tab_185 : tab 185 = some ⟨.struct [(0, 1, false), (1, 1, false), (2, 1, false), (3, 1, false)], 4, 40, [.ptr, .ptr, .ptr, .str]⟩ := rfl
theorem tab_189 : tab 189 = some ⟨.func, 1, 8, [.fn]⟩ := rfl
theorem tab_190 : tab 190 = some ⟨.int .u8, 1, 1, [.int .u8]⟩ := rfl
theorem tab_191 : tab 191 = some ⟨.int .u8, 1, 1, [.int .u8]⟩ := rfl
theorem tab_192 : tab 192 = some ⟨.func, 1, 8, [.fn]⟩ := rfl
theorem tab_193 : tab 193 = some ⟨.ptr 5, 1, 8, [.ptr]⟩ := rfl
theorem tab_194 : tab 194 = some ⟨.int .i32, 1, 4, [.int .i32]⟩ := rfl
theorem tab_195 : tab 195 = some ⟨.int .i32, 1, 4, [.int .i32]⟩ := rfl
theorem tab_196 : tab 196 = some ⟨.struct [(0, 1, false), (1, 1, false), (2, 1, false), (3, 1, false), (4, 1, false), (5, 1, false), (6, 1, false), (7, 1, false), (8, 1, false), (9, 1, false), (10, 1, false)], 11, 48, [.int .u64, .int .u64, .int .u32, .int .u8, .int .u8, .int .u8, .int .u8, .fn, .ptr, .int .i32, .int .i32]⟩ := rfl
theorem tab_197 : tab 197 = some ⟨.struct [(0, 1, false), (1, 1, false), (2, 1, false), (3, 1, false), (4, 1, false), (5, 1, false), (6, 1, false), (7, 1, false), (8, 1, false), (9, 1, false), (10, 1, false)], 11, 48, [.int .u64, .int .u64, .int .u32, .int .u8, .int .u8, .int .u8, .int .u8, .fn, .ptr, .int .i32, .int .i32]⟩ := rfl
end Go.Cl
