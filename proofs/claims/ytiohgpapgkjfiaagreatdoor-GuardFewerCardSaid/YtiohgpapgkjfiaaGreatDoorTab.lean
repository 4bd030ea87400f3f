/- DERIVED HERE, by gen_tab.py: the table of types for the clean layer. -/
import Derived.Test.YtiohgpapgkjfiaaGreatDoorClC
import Derived.Test.YtiohgpapgkjfiaaGreatDoorProg
namespace Go.Cl
open Go.Proofs
def tabL : List (TypeId × TI) := [
  (1, ⟨.func, 1, 8, [.fn]⟩),
  (2, ⟨.int .i64, 1, 8, [.int .i64]⟩),
  (3, ⟨.int .i64, 1, 8, [.int .i64]⟩),
  (4, ⟨.bool, 1, 1, [.bool]⟩),
  (5, ⟨.int .u8, 1, 1, [.int .u8]⟩),
  (6, ⟨.int .u8, 1, 1, [.int .u8]⟩),
  (7, ⟨.struct [(0, 1, false), (1, 1, false), (2, 1, false), (3, 1, false)], 4, 24, [.int .i64, .int .i64, .bool, .int .u8]⟩),
  (8, ⟨.struct [(0, 1, false), (1, 1, false), (2, 1, false), (3, 1, false)], 4, 24, [.int .i64, .int .i64, .bool, .int .u8]⟩),
  (9, ⟨.str, 1, 16, [.str]⟩),
  (10, ⟨.str, 1, 16, [.str]⟩),
  (11, ⟨.str, 1, 16, [.str]⟩),
  (12, ⟨.int .u64, 1, 8, [.int .u64]⟩),
  (13, ⟨.struct [(0, 1, false), (1, 1, false)], 2, 24, [.str, .int .u64]⟩),
  (14, ⟨.struct [(0, 1, false), (1, 1, false)], 2, 24, [.str, .int .u64]⟩),
  (15, ⟨.ptr 211, 1, 8, [.ptr]⟩),
  (16, ⟨.ptr 214, 1, 8, [.ptr]⟩),
  (17, ⟨.ptr 222, 1, 8, [.ptr]⟩),
  (18, ⟨.struct [(0, 1, false)], 1, 8, [.ptr]⟩),
  (19, ⟨.struct [(0, 1, false)], 1, 8, [.ptr]⟩),
  (20, ⟨.ifc, 1, 16, [.ifc]⟩),
  (21, ⟨.int .i32, 1, 4, [.int .i32]⟩),
  (22, ⟨.slice 3, 1, 24, [.sl]⟩),
  (23, ⟨.slice 72, 1, 24, [.sl]⟩),
  (24, ⟨.struct [(0, 1, false), (1, 1, false), (2, 1, false), (3, 1, false), (4, 1, false), (5, 1, false)], 6, 80, [.sl, .int .i64, .int .i64, .int .i64, .int .i64, .sl]⟩),
  (25, ⟨.struct [(0, 1, false), (1, 1, false), (2, 1, false), (3, 1, false), (4, 1, false), (5, 1, false)], 6, 80, [.sl, .int .i64, .int .i64, .int .i64, .int .i64, .sl]⟩),
  (26, ⟨.func, 1, 8, [.fn]⟩),
  (27, ⟨.slice 38, 1, 24, [.sl]⟩),
  (28, ⟨.int .i64, 1, 8, [.int .i64]⟩),
  (30, ⟨.func, 1, 8, [.fn]⟩),
  (32, ⟨.func, 1, 8, [.fn]⟩),
  (33, ⟨.func, 1, 8, [.fn]⟩),
  (34, ⟨.func, 1, 8, [.fn]⟩),
  (35, ⟨.func, 1, 8, [.fn]⟩),
  (36, ⟨.func, 1, 8, [.fn]⟩),
  (37, ⟨.struct [(0, 1, false), (1, 1, false)], 2, 16, [.int .i64, .int .i64]⟩),
  (38, ⟨.struct [(0, 1, false), (1, 1, false)], 2, 16, [.int .i64, .int .i64]⟩),
  (39, ⟨.func, 1, 8, [.fn]⟩),
  (41, ⟨.func, 1, 8, [.fn]⟩),
  (42, ⟨.func, 1, 8, [.fn]⟩),
  (44, ⟨.func, 1, 8, [.fn]⟩),
  (45, ⟨.func, 1, 8, [.fn]⟩),
  (46, ⟨.func, 1, 8, [.fn]⟩),
  (47, ⟨.func, 1, 8, [.fn]⟩),
  (49, ⟨.func, 1, 8, [.fn]⟩),
  (50, ⟨.func, 1, 8, [.fn]⟩),
  (51, ⟨.func, 1, 8, [.fn]⟩),
  (52, ⟨.slice 2, 1, 24, [.sl]⟩),
  (53, ⟨.func, 1, 8, [.fn]⟩),
  (54, ⟨.func, 1, 8, [.fn]⟩),
  (55, ⟨.func, 1, 8, [.fn]⟩),
  (56, ⟨.func, 1, 8, [.fn]⟩),
  (57, ⟨.func, 1, 8, [.fn]⟩),
  (58, ⟨.func, 1, 8, [.fn]⟩),
  (59, ⟨.ptr 100, 1, 8, [.ptr]⟩),
  (61, ⟨.func, 1, 8, [.fn]⟩),
  (63, ⟨.func, 1, 8, [.fn]⟩),
  (64, ⟨.func, 1, 8, [.fn]⟩),
  (65, ⟨.func, 1, 8, [.fn]⟩),
  (67, ⟨.func, 1, 8, [.fn]⟩),
  (68, ⟨.struct [(0, 1, false), (1, 1, false), (2, 1, false), (3, 1, false)], 4, 32, [.int .i64, .int .i64, .int .i64, .int .i64]⟩),
  (69, ⟨.struct [(0, 1, false), (1, 1, false), (2, 1, false), (3, 1, false)], 4, 32, [.int .i64, .int .i64, .int .i64, .int .i64]⟩),
  (70, ⟨.slice 74, 1, 24, [.sl]⟩),
  (71, ⟨.struct [(0, 1, false), (1, 4, true), (5, 1, false)], 6, 64, [.sl, .int .i64, .int .i64, .int .i64, .int .i64, .int .i64]⟩),
  (72, ⟨.struct [(0, 1, false), (1, 4, true), (5, 1, false)], 6, 64, [.sl, .int .i64, .int .i64, .int .i64, .int .i64, .int .i64]⟩),
  (73, ⟨.struct [(0, 1, false), (1, 1, false), (2, 1, false), (3, 1, false), (4, 1, false), (5, 1, false), (6, 1, false)], 7, 56, [.int .i64, .int .i64, .int .i64, .int .i64, .int .i64, .int .i64, .int .i64]⟩),
  (74, ⟨.struct [(0, 1, false), (1, 1, false), (2, 1, false), (3, 1, false), (4, 1, false), (5, 1, false), (6, 1, false)], 7, 56, [.int .i64, .int .i64, .int .i64, .int .i64, .int .i64, .int .i64, .int .i64]⟩),
  (76, ⟨.func, 1, 8, [.fn]⟩),
  (78, ⟨.func, 1, 8, [.fn]⟩),
  (80, ⟨.func, 1, 8, [.fn]⟩),
  (81, ⟨.func, 1, 8, [.fn]⟩),
  (82, ⟨.map 3 3, 1, 8, [.map]⟩),
  (83, ⟨.func, 1, 8, [.fn]⟩),
  (84, ⟨.func, 1, 8, [.fn]⟩),
  (85, ⟨.func, 1, 8, [.fn]⟩),
  (86, ⟨.func, 1, 8, [.fn]⟩),
  (87, ⟨.struct [(0, 1, false), (1, 1, false), (2, 1, false)], 3, 40, [.sl, .int .i64, .int .i64]⟩),
  (88, ⟨.struct [(0, 1, false), (1, 1, false), (2, 1, false)], 3, 40, [.sl, .int .i64, .int .i64]⟩),
  (90, ⟨.func, 1, 8, [.fn]⟩),
  (91, ⟨.func, 1, 8, [.fn]⟩),
  (92, ⟨.slice 22, 1, 24, [.sl]⟩),
  (93, ⟨.slice 4, 1, 24, [.sl]⟩),
  (94, ⟨.struct [(0, 1, false), (1, 1, false)], 2, 48, [.sl, .sl]⟩),
  (95, ⟨.struct [(0, 1, false), (1, 1, false)], 2, 48, [.sl, .sl]⟩),
  (96, ⟨.func, 1, 8, [.fn]⟩),
  (97, ⟨.func, 1, 8, [.fn]⟩),
  (98, ⟨.func, 1, 8, [.fn]⟩),
  (99, ⟨.struct [(0, 6, true), (6, 1, false), (7, 1, false)], 8, 128, [.sl, .int .i64, .int .i64, .int .i64, .int .i64, .sl, .sl, .sl]⟩),
  (100, ⟨.struct [(0, 6, true), (6, 1, false), (7, 1, false)], 8, 128, [.sl, .int .i64, .int .i64, .int .i64, .int .i64, .sl, .sl, .sl]⟩),
  (101, ⟨.func, 1, 8, [.fn]⟩),
  (102, ⟨.func, 1, 8, [.fn]⟩),
  (103, ⟨.func, 1, 8, [.fn]⟩),
  (104, ⟨.func, 1, 8, [.fn]⟩),
  (105, ⟨.ptr 108, 1, 8, [.ptr]⟩),
  (106, ⟨.func, 1, 8, [.fn]⟩),
  (107, ⟨.struct [(0, 1, false), (1, 1, false)], 2, 32, [.ptr, .sl]⟩),
  (108, ⟨.struct [(0, 1, false), (1, 1, false)], 2, 32, [.ptr, .sl]⟩),
  (109, ⟨.func, 1, 8, [.fn]⟩),
  (110, ⟨.func, 1, 8, [.fn]⟩),
  (111, ⟨.func, 1, 8, [.fn]⟩),
  (112, ⟨.ptr 72, 1, 8, [.ptr]⟩),
  (114, ⟨.func, 1, 8, [.fn]⟩),
  (115, ⟨.struct [(0, 1, false), (1, 1, false), (2, 1, false)], 3, 24, [.int .i64, .int .i64, .int .i64]⟩),
  (116, ⟨.struct [(0, 1, false), (1, 1, false), (2, 1, false)], 3, 24, [.int .i64, .int .i64, .int .i64]⟩),
  (117, ⟨.func, 1, 8, [.fn]⟩),
  (118, ⟨.ptr 126, 1, 8, [.ptr]⟩),
  (119, ⟨.func, 1, 8, [.fn]⟩),
  (120, ⟨.func, 1, 8, [.fn]⟩),
  (121, ⟨.func, 1, 8, [.fn]⟩),
  (122, ⟨.slice 146, 1, 24, [.sl]⟩),
  (123, ⟨.slice 52, 1, 24, [.sl]⟩),
  (124, ⟨.slice 159, 1, 24, [.sl]⟩),
  (125, ⟨.struct [(0, 6, true), (6, 1, false), (7, 1, false), (8, 1, false), (9, 1, false), (10, 1, false), (11, 1, false), (12, 3, true), (15, 1, false), (16, 1, false), (17, 1, false)], 18, 272, [.sl, .int .i64, .int .i64, .int .i64, .int .i64, .sl, .sl, .sl, .sl, .int .i64, .int .i64, .int .i64, .sl, .int .i64, .int .i64, .bool, .sl, .sl]⟩),
  (126, ⟨.struct [(0, 6, true), (6, 1, false), (7, 1, false), (8, 1, false), (9, 1, false), (10, 1, false), (11, 1, false), (12, 3, true), (15, 1, false), (16, 1, false), (17, 1, false)], 18, 272, [.sl, .int .i64, .int .i64, .int .i64, .int .i64, .sl, .sl, .sl, .sl, .int .i64, .int .i64, .int .i64, .sl, .int .i64, .int .i64, .bool, .sl, .sl]⟩),
  (127, ⟨.func, 1, 8, [.fn]⟩),
  (128, ⟨.func, 1, 8, [.fn]⟩),
  (129, ⟨.func, 1, 8, [.fn]⟩),
  (130, ⟨.func, 1, 8, [.fn]⟩),
  (131, ⟨.func, 1, 8, [.fn]⟩),
  (132, ⟨.struct [(0, 1, false), (1, 1, false), (2, 1, false), (3, 1, false), (4, 1, false)], 5, 120, [.sl, .sl, .sl, .sl, .sl]⟩),
  (133, ⟨.struct [(0, 1, false), (1, 1, false), (2, 1, false), (3, 1, false), (4, 1, false)], 5, 120, [.sl, .sl, .sl, .sl, .sl]⟩),
  (134, ⟨.ptr 133, 1, 8, [.ptr]⟩),
  (135, ⟨.func, 1, 8, [.fn]⟩),
  (136, ⟨.func, 1, 8, [.fn]⟩),
  (137, ⟨.func, 1, 8, [.fn]⟩),
  (138, ⟨.func, 1, 8, [.fn]⟩),
  (139, ⟨.func, 1, 8, [.fn]⟩),
  (140, ⟨.func, 1, 8, [.fn]⟩),
  (142, ⟨.ptr 144, 1, 8, [.ptr]⟩),
  (143, ⟨.struct [(0, 6, true), (6, 1, false), (7, 1, false)], 8, 96, [.sl, .int .i64, .int .i64, .int .i64, .int .i64, .sl, .int .i64, .int .i64]⟩),
  (144, ⟨.struct [(0, 6, true), (6, 1, false), (7, 1, false)], 8, 96, [.sl, .int .i64, .int .i64, .int .i64, .int .i64, .sl, .int .i64, .int .i64]⟩),
  (145, ⟨.struct [(0, 1, false), (1, 1, false)], 2, 16, [.int .i64, .int .i64]⟩),
  (146, ⟨.struct [(0, 1, false), (1, 1, false)], 2, 16, [.int .i64, .int .i64]⟩),
  (147, ⟨.func, 1, 8, [.fn]⟩),
  (148, ⟨.func, 1, 8, [.fn]⟩),
  (149, ⟨.func, 1, 8, [.fn]⟩),
  (150, ⟨.func, 1, 8, [.fn]⟩),
  (151, ⟨.struct [(0, 1, false), (1, 1, false)], 2, 48, [.sl, .sl]⟩),
  (152, ⟨.struct [(0, 1, false), (1, 1, false)], 2, 48, [.sl, .sl]⟩),
  (153, ⟨.func, 1, 8, [.fn]⟩),
  (154, ⟨.func, 1, 8, [.fn]⟩),
  (155, ⟨.func, 1, 8, [.fn]⟩),
  (156, ⟨.func, 1, 8, [.fn]⟩),
  (157, ⟨.func, 1, 8, [.fn]⟩),
  (158, ⟨.struct [(0, 1, false), (1, 1, false), (2, 1, false)], 3, 24, [.int .i64, .int .i64, .int .i64]⟩),
  (159, ⟨.struct [(0, 1, false), (1, 1, false), (2, 1, false)], 3, 24, [.int .i64, .int .i64, .int .i64]⟩),
  (160, ⟨.func, 1, 8, [.fn]⟩),
  (161, ⟨.arr 3 146, 6, 48, [.int .i64, .int .i64, .int .i64, .int .i64, .int .i64, .int .i64]⟩),
  (162, ⟨.func, 1, 8, [.fn]⟩),
  (164, ⟨.func, 1, 8, [.fn]⟩),
  (165, ⟨.func, 1, 8, [.fn]⟩),
  (166, ⟨.func, 1, 8, [.fn]⟩),
  (167, ⟨.func, 1, 8, [.fn]⟩),
  (168, ⟨.func, 1, 8, [.fn]⟩),
  (169, ⟨.func, 1, 8, [.fn]⟩),
  (170, ⟨.func, 1, 8, [.fn]⟩),
  (171, ⟨.func, 1, 8, [.fn]⟩),
  (172, ⟨.func, 1, 8, [.fn]⟩),
  (173, ⟨.struct [(0, 1, false), (1, 1, false), (2, 1, false)], 3, 32, [.int .i64, .int .i64, .str]⟩),
  (174, ⟨.struct [(0, 1, false), (1, 1, false), (2, 1, false)], 3, 32, [.int .i64, .int .i64, .str]⟩),
  (176, ⟨.func, 1, 8, [.fn]⟩),
  (177, ⟨.func, 1, 8, [.fn]⟩),
  (179, ⟨.func, 1, 8, [.fn]⟩),
  (180, ⟨.ptr 93, 1, 8, [.ptr]⟩),
  (181, ⟨.func, 1, 8, [.fn]⟩),
  (182, ⟨.func, 1, 8, [.fn]⟩),
  (183, ⟨.int .u64, 1, 8, [.int .u64]⟩),
  (184, ⟨.func, 1, 8, [.fn]⟩),
  (185, ⟨.func, 1, 8, [.fn]⟩),
  (186, ⟨.arr 25 174, 75, 800, [.int .i64, .int .i64, .str, .int .i64, .int .i64, .str, .int .i64, .int .i64, .str, .int .i64, .int .i64, .str, .int .i64, .int .i64, .str, .int .i64, .int .i64, .str, .int .i64, .int .i64, .str, .int .i64, .int .i64, .str, .int .i64, .int .i64, .str, .int .i64, .int .i64, .str, .int .i64, .int .i64, .str, .int .i64, .int .i64, .str, .int .i64, .int .i64, .str, .int .i64, .int .i64, .str, .int .i64, .int .i64, .str, .int .i64, .int .i64, .str, .int .i64, .int .i64, .str, .int .i64, .int .i64, .str, .int .i64, .int .i64, .str, .int .i64, .int .i64, .str, .int .i64, .int .i64, .str, .int .i64, .int .i64, .str, .int .i64, .int .i64, .str, .int .i64, .int .i64, .str, .int .i64, .int .i64, .str]⟩),
  (187, ⟨.int .u64, 1, 8, [.int .u64]⟩),
  (188, ⟨.func, 1, 8, [.fn]⟩),
  (189, ⟨.arr 3 3, 3, 24, [.int .i64, .int .i64, .int .i64]⟩),
  (190, ⟨.func, 1, 8, [.fn]⟩),
  (191, ⟨.int .i64, 1, 8, [.int .i64]⟩),
  (193, ⟨.func, 1, 8, [.fn]⟩),
  (194, ⟨.func, 1, 8, [.fn]⟩),
  (195, ⟨.func, 1, 8, [.fn]⟩),
  (196, ⟨.func, 1, 8, [.fn]⟩),
  (197, ⟨.func, 1, 8, [.fn]⟩),
  (198, ⟨.int .u32, 1, 4, [.int .u32]⟩),
  (199, ⟨.func, 1, 8, [.fn]⟩),
  (200, ⟨.func, 1, 8, [.fn]⟩),
  (201, ⟨.int .u64, 1, 8, [.int .u64]⟩),
  (202, ⟨.func, 1, 8, [.fn]⟩),
  (203, ⟨.func, 1, 8, [.fn]⟩),
  (204, ⟨.func, 1, 8, [.fn]⟩),
  (205, ⟨.ptr 3, 1, 8, [.ptr]⟩),
  (206, ⟨.func, 1, 8, [.fn]⟩),
  (207, ⟨.ptr 201, 1, 8, [.ptr]⟩),
  (208, ⟨.func, 1, 8, [.fn]⟩),
  (209, ⟨.func, 1, 8, [.fn]⟩),
  (210, ⟨.struct [(0, 1, false), (1, 1, false), (2, 1, false), (3, 1, false)], 4, 40, [.ptr, .ptr, .ptr, .str]⟩),
  (211, ⟨.struct [(0, 1, false), (1, 1, false), (2, 1, false), (3, 1, false)], 4, 40, [.ptr, .ptr, .ptr, .str]⟩),
  (215, ⟨.int .u8, 1, 1, [.int .u8]⟩),
  (216, ⟨.int .u8, 1, 1, [.int .u8]⟩),
  (217, ⟨.func, 1, 8, [.fn]⟩),
  (218, ⟨.ptr 5, 1, 8, [.ptr]⟩),
  (219, ⟨.int .i32, 1, 4, [.int .i32]⟩),
  (220, ⟨.int .i32, 1, 4, [.int .i32]⟩),
  (221, ⟨.struct [(0, 1, false), (1, 1, false), (2, 1, false), (3, 1, false), (4, 1, false), (5, 1, false), (6, 1, false), (7, 1, false), (8, 1, false), (9, 1, false), (10, 1, false)], 11, 48, [.int .u64, .int .u64, .int .u32, .int .u8, .int .u8, .int .u8, .int .u8, .fn, .ptr, .int .i32, .int .i32]⟩),
  (222, ⟨.struct [(0, 1, false), (1, 1, false), (2, 1, false), (3, 1, false), (4, 1, false), (5, 1, false), (6, 1, false), (7, 1, false), (8, 1, false), (9, 1, false), (10, 1, false)], 11, 48, [.int .u64, .int .u64, .int .u32, .int .u8, .int .u8, .int .u8, .int .u8, .fn, .ptr, .int .i32, .int .i32]⟩)]
def tab : Tab := tabOf tabL
theorem tab_1 : tab 1 = some ⟨.func, 1, 8, [.fn]⟩ := rfl
theorem tab_2 : tab 2 = some ⟨.int .i64, 1, 8, [.int .i64]⟩ := rfl
theorem tab_3 : tab 3 = some ⟨.int .i64, 1, 8, [.int .i64]⟩ := rfl
theorem tab_4 : tab 4 = some ⟨.bool, 1, 1, [.bool]⟩ := rfl
theorem tab_5 : tab 5 = some ⟨.int .u8, 1, 1, [.int .u8]⟩ := rfl
theorem tab_6 : tab 6 = some ⟨.int .u8, 1, 1, [.int .u8]⟩ := rfl
theorem tab_7 : tab 7 = some ⟨.struct [(0, 1, false), (1, 1, false), (2, 1, false), (3, 1, false)], 4, 24, [.int .i64, .int .i64, .bool, .int .u8]⟩ := rfl
theorem tab_8 : tab 8 = some ⟨.struct [(0, 1, false), (1, 1, false), (2, 1, false), (3, 1, false)], 4, 24, [.int .i64, .int .i64, .bool, .int .u8]⟩ := rfl
theorem tab_9 : tab 9 = some ⟨.str, 1, 16, [.str]⟩ := rfl
theorem tab_10 : tab 10 = some ⟨.str, 1, 16, [.str]⟩ := rfl
theorem tab_11 : tab 11 = some ⟨.str, 1, 16, [.str]⟩ := rfl
theorem tab_12 : tab 12 = some ⟨.int .u64, 1, 8, [.int .u64]⟩ := rfl
theorem tab_13 : tab 13 = some ⟨.struct [(0, 1, false), (1, 1, false)], 2, 24, [.str, .int .u64]⟩ := rfl
theorem tab_14 : tab 14 = some ⟨.struct [(0, 1, false), (1, 1, false)], 2, 24, [.str, .int .u64]⟩ := rfl
theorem tab_15 : tab 15 = some ⟨.ptr 211, 1, 8, [.ptr]⟩ := rfl
theorem tab_16 : tab 16 = some ⟨.ptr 214, 1, 8, [.ptr]⟩ := rfl
theorem tab_17 : tab 17 = some ⟨.ptr 222, 1, 8, [.ptr]⟩ := rfl
theorem tab_18 : tab 18 = some ⟨.struct [(0, 1, false)], 1, 8, [.ptr]⟩ := rfl
theorem tab_19 : tab 19 = some ⟨.struct [(0, 1, false)], 1, 8, [.ptr]⟩ := rfl
theorem tab_20 : tab 20 = some ⟨.ifc, 1, 16, [.ifc]⟩ := rfl
theorem tab_21 : tab 21 = some ⟨.int .i32, 1, 4, [.int .i32]⟩ := rfl
theorem tab_22 : tab 22 = some ⟨.slice 3, 1, 24, [.sl]⟩ := rfl
theorem tab_23 : tab 23 = some ⟨.slice 72, 1, 24, [.sl]⟩ := rfl
theorem tab_24 : tab 24 = some ⟨.struct [(0, 1, false), (1, 1, false), (2, 1, false), (3, 1, false), (4, 1, false), (5, 1, false)], 6, 80, [.sl, .int .i64, .int .i64, .int .i64, .int .i64, .sl]⟩ := rfl
theorem tab_25 : tab 25 = some ⟨.struct [(0, 1, false), (1, 1, false), (2, 1, false), (3, 1, false), (4, 1, false), (5, 1, false)], 6, 80, [.sl, .int .i64, .int .i64, .int .i64, .int .i64, .sl]⟩ := rfl
theorem tab_26 : tab 26 = some ⟨.func, 1, 8, [.fn]⟩ := rfl
theorem tab_27 : tab 27 = some ⟨.slice 38, 1, 24, [.sl]⟩ := rfl
theorem tab_28 : tab 28 = some ⟨.int .i64, 1, 8, [.int .i64]⟩ := rfl
theorem tab_30 : tab 30 = some ⟨.func, 1, 8, [.fn]⟩ := rfl
theorem tab_32 : tab 32 = some ⟨.func, 1, 8, [.fn]⟩ := rfl
theorem tab_33 : tab 33 = some ⟨.func, 1, 8, [.fn]⟩ := rfl
theorem tab_34 : tab 34 = some ⟨.func, 1, 8, [.fn]⟩ := rfl
theorem tab_35 : tab 35 = some ⟨.func, 1, 8, [.fn]⟩ := rfl
theorem tab_36 : tab 36 = some ⟨.func, 1, 8, [.fn]⟩ := rfl
theorem tab_37 : tab 37 = some ⟨.struct [(0, 1, false), (1, 1, false)], 2, 16, [.int .i64, .int .i64]⟩ := rfl
theorem tab_38 : tab 38 = some ⟨.struct [(0, 1, false), (1, 1, false)], 2, 16, [.int .i64, .int .i64]⟩ := rfl
theorem tab_39 : tab 39 = some ⟨.func, 1, 8, [.fn]⟩ := rfl
theorem tab_41 : tab 41 = some ⟨.func, 1, 8, [.fn]⟩ := rfl
theorem tab_42 : tab 42 = some ⟨.func, 1, 8, [.fn]⟩ := rfl
theorem tab_44 : tab 44 = some ⟨.func, 1, 8, [.fn]⟩ := rfl
theorem tab_45 : tab 45 = some ⟨.func, 1, 8, [.fn]⟩ := rfl
theorem tab_46 : tab 46 = some ⟨.func, 1, 8, [.fn]⟩ := rfl
theorem tab_47 : tab 47 = some ⟨.func, 1, 8, [.fn]⟩ := rfl
theorem tab_49 : tab 49 = some ⟨.func, 1, 8, [.fn]⟩ := rfl
theorem tab_50 : tab 50 = some ⟨.func, 1, 8, [.fn]⟩ := rfl
theorem tab_51 : tab 51 = some ⟨.func, 1, 8, [.fn]⟩ := rfl
theorem tab_52 : tab 52 = some ⟨.slice 2, 1, 24, [.sl]⟩ := rfl
theorem tab_53 : tab 53 = some ⟨.func, 1, 8, [.fn]⟩ := rfl
theorem tab_54 : tab 54 = some ⟨.func, 1, 8, [.fn]⟩ := rfl
theorem tab_55 : tab 55 = some ⟨.func, 1, 8, [.fn]⟩ := rfl
theorem tab_56 : tab 56 = some ⟨.func, 1, 8, [.fn]⟩ := rfl
theorem tab_57 : tab 57 = some ⟨.func, 1, 8, [.fn]⟩ := rfl
theorem tab_58 : tab 58 = some ⟨.func, 1, 8, [.fn]⟩ := rfl
theorem tab_59 : tab 59 = some ⟨.ptr 100, 1, 8, [.ptr]⟩ := rfl
theorem tab_61 : tab 61 = some ⟨.func, 1, 8, [.fn]⟩ := rfl
theorem tab_63 : tab 63 = some ⟨.func, 1, 8, [.fn]⟩ := rfl
theorem tab_64 : tab 64 = some ⟨.func, 1, 8, [.fn]⟩ := rfl
theorem tab_65 : tab 65 = some ⟨.func, 1, 8, [.fn]⟩ := rfl
theorem tab_67 : tab 67 = some ⟨.func, 1, 8, [.fn]⟩ := rfl
theorem tab_68 : tab 68 = some ⟨.struct [(0, 1, false), (1, 1, false), (2, 1, false), (3, 1, false)], 4, 32, [.int .i64, .int .i64, .int .i64, .int .i64]⟩ := rfl
theorem tab_69 : tab 69 = some ⟨.struct [(0, 1, false), (1, 1, false), (2, 1, false), (3, 1, false)], 4, 32, [.int .i64, .int .i64, .int .i64, .int .i64]⟩ := rfl
theorem tab_70 : tab 70 = some ⟨.slice 74, 1, 24, [.sl]⟩ := rfl
theorem tab_71 : tab 71 = some ⟨.struct [(0, 1, false), (1, 4, true), (5, 1, false)], 6, 64, [.sl, .int .i64, .int .i64, .int .i64, .int .i64, .int .i64]⟩ := rfl
theorem tab_72 : tab 72 = some ⟨.struct [(0, 1, false), (1, 4, true), (5, 1, false)], 6, 64, [.sl, .int .i64, .int .i64, .int .i64, .int .i64, .int .i64]⟩ := rfl
theorem tab_73 : tab 73 = some ⟨.struct [(0, 1, false), (1, 1, false), (2, 1, false), (3, 1, false), (4, 1, false), (5, 1, false), (6, 1, false)], 7, 56, [.int .i64, .int .i64, .int .i64, .int .i64, .int .i64, .int .i64, .int .i64]⟩ := rfl
theorem tab_74 : tab 74 = some ⟨.struct [(0, 1, false), (1, 1, false), (2, 1, false), (3, 1, false), (4, 1, false), (5, 1, false), (6, 1, false)], 7, 56, [.int .i64, .int .i64, .int .i64, .int .i64, .int .i64, .int .i64, .int .i64]⟩ := rfl
theorem tab_76 : tab 76 = some ⟨.func, 1, 8, [.fn]⟩ := rfl
theorem tab_78 : tab 78 = some ⟨.func, 1, 8, [.fn]⟩ := rfl
theorem tab_80 : tab 80 = some ⟨.func, 1, 8, [.fn]⟩ := rfl
theorem tab_81 : tab 81 = some ⟨.func, 1, 8, [.fn]⟩ := rfl
theorem tab_82 : tab 82 = some ⟨.map 3 3, 1, 8, [.map]⟩ := rfl
theorem tab_83 : tab 83 = some ⟨.func, 1, 8, [.fn]⟩ := rfl
theorem tab_84 : tab 84 = some ⟨.func, 1, 8, [.fn]⟩ := rfl
theorem tab_85 : tab 85 = some ⟨.func, 1, 8, [.fn]⟩ := rfl
theorem tab_86 : tab 86 = some ⟨.func, 1, 8, [.fn]⟩ := rfl
theorem tab_87 : tab 87 = some ⟨.struct [(0, 1, false), (1, 1, false), (2, 1, false)], 3, 40, [.sl, .int .i64, .int .i64]⟩ := rfl
theorem tab_88 : tab 88 = some ⟨.struct [(0, 1, false), (1, 1, false), (2, 1, false)], 3, 40, [.sl, .int .i64, .int .i64]⟩ := rfl
theorem tab_90 : tab 90 = some ⟨.func, 1, 8, [.fn]⟩ := rfl
theorem tab_91 : tab 91 = some ⟨.func, 1, 8, [.fn]⟩ := rfl
theorem tab_92 : tab 92 = some ⟨.slice 22, 1, 24, [.sl]⟩ := rfl
theorem tab_93 : tab 93 = some ⟨.slice 4, 1, 24, [.sl]⟩ := rfl
theorem tab_94 : tab 94 = some ⟨.struct [(0, 1, false), (1, 1, false)], 2, 48, [.sl, .sl]⟩ := rfl
theorem tab_95 : tab 95 = some ⟨.struct [(0, 1, false), (1, 1, false)], 2, 48, [.sl, .sl]⟩ := rfl
theorem tab_96 : tab 96 = some ⟨.func, 1, 8, [.fn]⟩ := rfl
theorem tab_97 : tab 97 = some ⟨.func, 1, 8, [.fn]⟩ := rfl
theorem tab_98 : tab 98 = some ⟨.func, 1, 8, [.fn]⟩ := rfl
theorem tab_99 : tab 99 = some ⟨.struct [(0, 6, true), (6, 1, false), (7, 1, false)], 8, 128, [.sl, .int .i64, .int .i64, .int .i64, .int .i64, .sl, .sl, .sl]⟩ := rfl
theorem tab_100 : tab 100 = some ⟨.struct [(0, 6, true), (6, 1, false), (7, 1, false)], 8, 128, [.sl, .int .i64, .int .i64, .int .i64, .int .i64, .sl, .sl, .sl]⟩ := rfl
theorem tab_101 : tab 101 = some ⟨.func, 1, 8, [.fn]⟩ := rfl
theorem tab_102 : tab 102 = some ⟨.func, 1, 8, [.fn]⟩ := rfl
theorem tab_103 : tab 103 = some ⟨.func, 1, 8, [.fn]⟩ := rfl
theorem tab_104 : tab 104 = some ⟨.func, 1, 8, [.fn]⟩ := rfl
theorem tab_105 : tab 105 = some ⟨.ptr 108, 1, 8, [.ptr]⟩ := rfl
theorem tab_106 : tab 106 = some ⟨.func, 1, 8, [.fn]⟩ := rfl
theorem tab_107 : tab 107 = some ⟨.struct [(0, 1, false), (1, 1, false)], 2, 32, [.ptr, .sl]⟩ := rfl
theorem tab_108 : tab 108 = some ⟨.struct [(0, 1, false), (1, 1, false)], 2, 32, [.ptr, .sl]⟩ := rfl
theorem tab_109 : tab 109 = some ⟨.func, 1, 8, [.fn]⟩ := rfl
theorem tab_110 : tab 110 = some ⟨.func, 1, 8, [.fn]⟩ := rfl
theorem tab_111 : tab 111 = some ⟨.func, 1, 8, [.fn]⟩ := rfl
theorem tab_112 : tab 112 = some ⟨.ptr 72, 1, 8, [.ptr]⟩ := rfl
theorem tab_114 : tab 114 = some ⟨.func, 1, 8, [.fn]⟩ := rfl
theorem tab_115 : tab 115 = some ⟨.struct [(0, 1, false), (1, 1, false), (2, 1, false)], 3, 24, [.int .i64, .int .i64, .int .i64]⟩ := rfl
theorem tab_116 : tab 116 = some ⟨.struct [(0, 1, false), (1, 1, false), (2, 1, false)], 3, 24, [.int .i64, .int .i64, .int .i64]⟩ := rfl
theorem tab_117 : tab 117 = some ⟨.func, 1, 8, [.fn]⟩ := rfl
theorem tab_118 : tab 118 = some ⟨.ptr 126, 1, 8, [.ptr]⟩ := rfl
theorem tab_119 : tab 119 = some ⟨.func, 1, 8, [.fn]⟩ := rfl
theorem tab_120 : tab 120 = some ⟨.func, 1, 8, [.fn]⟩ := rfl
theorem tab_121 : tab 121 = some ⟨.func, 1, 8, [.fn]⟩ := rfl
theorem tab_122 : tab 122 = some ⟨.slice 146, 1, 24, [.sl]⟩ := rfl
theorem tab_123 : tab 123 = some ⟨.slice 52, 1, 24, [.sl]⟩ := rfl
theorem tab_124 : tab 124 = some ⟨.slice 159, 1, 24, [.sl]⟩ := rfl
theorem tab_125 : tab 125 = some ⟨.struct [(0, 6, true), (6, 1, false), (7, 1, false), (8, 1, false), (9, 1, false), (10, 1, false), (11, 1, false), (12, 3, true), (15, 1, false), (16, 1, false), (17, 1, false)], 18, 272, [.sl, .int .i64, .int .i64, .int .i64, .int .i64, .sl, .sl, .sl, .sl, .int .i64, .int .i64, .int .i64, .sl, .int .i64, .int .i64, .bool, .sl, .sl]⟩ := rfl
theorem tab_126 : tab 126 = some ⟨.struct [(0, 6, true), (6, 1, false), (7, 1, false), (8, 1, false), (9, 1, false), (10, 1, false), (11, 1, false), (12, 3, true), (15, 1, false), (16, 1, false), (17, 1, false)], 18, 272, [.sl, .int .i64, .int .i64, .int .i64, .int .i64, .sl, .sl, .sl, .sl, .int .i64, .int .i64, .int .i64, .sl, .int .i64, .int .i64, .bool, .sl, .sl]⟩ := rfl
theorem tab_127 : tab 127 = some ⟨.func, 1, 8, [.fn]⟩ := rfl
theorem tab_128 : tab 128 = some ⟨.func, 1, 8, [.fn]⟩ := rfl
theorem tab_129 : tab 129 = some ⟨.func, 1, 8, [.fn]⟩ := rfl
theorem tab_130 : tab 130 = some ⟨.func, 1, 8, [.fn]⟩ := rfl
theorem tab_131 : tab 131 = some ⟨.func, 1, 8, [.fn]⟩ := rfl
theorem tab_132 : tab 132 = some ⟨.struct [(0, 1, false), (1, 1, false), (2, 1, false), (3, 1, false), (4, 1, false)], 5, 120, [.sl, .sl, .sl, .sl, .sl]⟩ := rfl
theorem tab_133 : tab 133 = some ⟨.struct [(0, 1, false), (1, 1, false), (2, 1, false), (3, 1, false), (4, 1, false)], 5, 120, [.sl, .sl, .sl, .sl, .sl]⟩ := rfl
theorem tab_134 : tab 134 = some ⟨.ptr 133, 1, 8, [.ptr]⟩ := rfl
theorem tab_135 : tab 135 = some ⟨.func, 1, 8, [.fn]⟩ := rfl
theorem tab_136 : tab 136 = some ⟨.func, 1, 8, [.fn]⟩ := rfl
theorem tab_137 : tab 137 = some ⟨.func, 1, 8, [.fn]⟩ := rfl
theorem tab_138 : tab 138 = some ⟨.func, 1, 8, [.fn]⟩ := rfl
theorem tab_139 : tab 139 = some ⟨.func, 1, 8, [.fn]⟩ := rfl
theorem tab_140 : tab 140 = some ⟨.func, 1, 8, [.fn]⟩ := rfl
theorem tab_142 : tab 142 = some ⟨.ptr 144, 1, 8, [.ptr]⟩ := rfl
theorem tab_143 : tab 143 = some ⟨.struct [(0, 6, true), (6, 1, false), (7, 1, false)], 8, 96, [.sl, .int .i64, .int .i64, .int .i64, .int .i64, .sl, .int .i64, .int .i64]⟩ := rfl
theorem tab_144 : tab 144 = some ⟨.struct [(0, 6, true), (6, 1, false), (7, 1, false)], 8, 96, [.sl, .int .i64, .int .i64, .int .i64, .int .i64, .sl, .int .i64, .int .i64]⟩ := rfl
theorem tab_145 : tab 145 = some ⟨.struct [(0, 1, false), (1, 1, false)], 2, 16, [.int .i64, .int .i64]⟩ := rfl
theorem tab_146 : tab 146 = some ⟨.struct [(0, 1, false), (1, 1, false)], 2, 16, [.int .i64, .int .i64]⟩ := rfl
theorem tab_147 : tab 147 = some ⟨.func, 1, 8, [.fn]⟩ := rfl
theorem tab_148 : tab 148 = some ⟨.func, 1, 8, [.fn]⟩ := rfl
theorem tab_149 : tab 149 = some ⟨.func, 1, 8, [.fn]⟩ := rfl
theorem tab_150 : tab 150 = some ⟨.func, 1, 8, [.fn]⟩ := rfl
theorem tab_151 : tab 151 = some ⟨.struct [(0, 1, false), (1, 1, false)], 2, 48, [.sl, .sl]⟩ := rfl
theorem tab_152 : tab 152 = some ⟨.struct [(0, 1, false), (1, 1, false)], 2, 48, [.sl, .sl]⟩ := rfl
theorem tab_153 : tab 153 = some ⟨.func, 1, 8, [.fn]⟩ := rfl
theorem tab_154 : tab 154 = some ⟨.func, 1, 8, [.fn]⟩ := rfl
theorem tab_155 : tab 155 = some ⟨.func, 1, 8, [.fn]⟩ := rfl
theorem tab_156 : tab 156 = some ⟨.func, 1, 8, [.fn]⟩ := rfl
theorem tab_157 : tab 157 = some ⟨.func, 1, 8, [.fn]⟩ := rfl
theorem tab_158 : tab 158 = some ⟨.struct [(0, 1, false), (1, 1, false), (2, 1, false)], 3, 24, [.int .i64, .int .i64, .int .i64]⟩ := rfl
theorem tab_159 : tab 159 = some ⟨.struct [(0, 1, false), (1, 1, false), (2, 1, false)], 3, 24, [.int .i64, .int .i64, .int .i64]⟩ := rfl
theorem tab_160 : tab 160 = some ⟨.func, 1, 8, [.fn]⟩ := rfl
theorem tab_161 : tab 161 = some ⟨.arr 3 146, 6, 48, [.int .i64, .int .i64, .int .i64, .int .i64, .int .i64, .int .i64]⟩ := rfl
theorem tab_162 : tab 162 = some ⟨.func, 1, 8, [.fn]⟩ := rfl
theorem tab_164 : tab 164 = some ⟨.func, 1, 8, [.fn]⟩ := rfl
theorem tab_165 : tab 165 = some ⟨.func, 1, 8, [.fn]⟩ := rfl
theorem tab_166 : tab 166 = some ⟨.func, 1, 8, [.fn]⟩ := rfl
theorem tab_167 : tab 167 = some ⟨.func, 1, 8, [.fn]⟩ := rfl
theorem tab_168 : tab 168 = some ⟨.func, 1, 8, [.fn]⟩ := rfl
theorem tab_169 : tab 169 = some ⟨.func, 1, 8, [.fn]⟩ := rfl
theorem tab_170 : tab 170 = some ⟨.func, 1, 8, [.fn]⟩ := rfl
theorem tab_171 : tab 171 = some ⟨.func, 1, 8, [.fn]⟩ := rfl
theorem tab_172 : tab 172 = some ⟨.func, 1, 8, [.fn]⟩ := rfl
theorem tab_173 : tab 173 = some ⟨.struct [(0, 1, false), (1, 1, false), (2, 1, false)], 3, 32, [.int .i64, .int .i64, .str]⟩ := rfl
theorem tab_174 : tab 174 = some ⟨.struct [(0, 1, false), (1, 1, false), (2, 1, false)], 3, 32, [.int .i64, .int .i64, .str]⟩ := rfl
theorem tab_176 : tab 176 = some ⟨.func, 1, 8, [.fn]⟩ := rfl
theorem tab_177 : tab 177 = some ⟨.func, 1, 8, [.fn]⟩ := rfl
theorem tab_179 : tab 179 = some ⟨.func, 1, 8, [.fn]⟩ := rfl
theorem tab_180 : tab 180 = some ⟨.ptr 93, 1, 8, [.ptr]⟩ := rfl
theorem tab_181 : tab 181 = some ⟨.func, 1, 8, [.fn]⟩ := rfl
theorem tab_182 : tab 182 = some ⟨.func, 1, 8, [.fn]⟩ := rfl
theorem tab_183 : tab 183 = some ⟨.int .u64, 1, 8, [.int .u64]⟩ := rfl
theorem tab_184 : tab 184 = some ⟨.func, 1, 8, [.fn]⟩ := rfl
theorem tab_185 : tab 185 = some ⟨.func, 1, 8, [.fn]⟩ := rfl
theorem tab_186 : tab 186 = some ⟨.arr 25 174, 75, 800, [.int .i64, .int .i64, .str, .int .i64, .int .i64, .str, .int .i64, .int .i64, .str, .int .i64, .int .i64, .str, .int .i64, .int .i64, .str, .int .i64, .int .i64, .str, .int .i64, .int .i64, .str, .int .i64, .int .i64, .str, .int .i64, .int .i64, .str, .int .i64, .int .i64, .str, .int .i64, .int .i64, .str, .int .i64, .int .i64, .str, .int .i64, .int .i64, .str, .int .i64, .int .i64, .str, .int .i64, .int .i64, .str, .int .i64, .int .i64, .str, .int .i64, .int .i64, .str, .int .i64, .int .i64, .str, .int .i64, .int .i64, .str, .int .i64, .int .i64, .str, .int .i64, .int .i64, .str, .int .i64, .int .i64, .str, .int .i64, .int .i64, .str, .int .i64, .int .i64, .str, .int .i64, .int .i64, .str]⟩ := rfl
theorem tab_187 : tab 187 = some ⟨.int .u64, 1, 8, [.int .u64]⟩ := rfl
theorem tab_188 : tab 188 = some ⟨.func, 1, 8, [.fn]⟩ := rfl
theorem tab_189 : tab 189 = some ⟨.arr 3 3, 3, 24, [.int .i64, .int .i64, .int .i64]⟩ := rfl
theorem tab_190 : tab 190 = some ⟨.func, 1, 8, [.fn]⟩ := rfl
theorem tab_191 : tab 191 = some ⟨.int .i64, 1, 8, [.int .i64]⟩ := rfl
theorem tab_193 : tab 193 = some ⟨.func, 1, 8, [.fn]⟩ := rfl
theorem tab_194 : tab 194 = some ⟨.func, 1, 8, [.fn]⟩ := rfl
theorem tab_195 : tab 195 = some ⟨.func, 1, 8, [.fn]⟩ := rfl
theorem tab_196 : tab 196 = some ⟨.func, 1, 8, [.fn]⟩ := rfl
theorem tab_197 : tab 197 = some ⟨.func, 1, 8, [.fn]⟩ := rfl
theorem tab_198 : tab 198 = some ⟨.int .u32, 1, 4, [.int .u32]⟩ := rfl
theorem tab_199 : tab 199 = some ⟨.func, 1, 8, [.fn]⟩ := rfl
theorem tab_200 : tab 200 = some ⟨.func, 1, 8, [.fn]⟩ := rfl
theorem tab_201 : tab 201 = some ⟨.int .u64, 1, 8, [.int .u64]⟩ := rfl
theorem tab_202 : tab 202 = some ⟨.func, 1, 8, [.fn]⟩ := rfl
theorem tab_203 : tab 203 = some ⟨.func, 1, 8, [.fn]⟩ := rfl
theorem tab_204 : tab 204 = some ⟨.func, 1, 8, [.fn]⟩ := rfl
theorem tab_205 : tab 205 = some ⟨.ptr 3, 1, 8, [.ptr]⟩ := rfl
theorem tab_206 : tab 206 = some ⟨.func, 1, 8, [.fn]⟩ := rfl
theorem tab_207 : tab 207 = some ⟨.ptr 201, 1, 8, [.ptr]⟩ := rfl
theorem tab_208 : tab 208 = some ⟨.func, 1, 8, [.fn]⟩ := rfl
theorem tab_209 : tab 209 = some ⟨.func, 1, 8, [.fn]⟩ := rfl
theorem tab_210 : tab 210 = some ⟨.struct [(0, 1, false), (1, 1, false), (2, 1, false), (3, 1, false)], 4, 40, [.ptr, .ptr, .ptr, .str]⟩ := rfl
theorem tab_211 : tab 211 = some ⟨.struct [(0, 1, false), (1, 1, false), (2, 1, false), (3, 1, false)], 4, 40, [.ptr, .ptr, .ptr, .str]⟩ := rfl
theorem tab_215 : tab 215 = some ⟨.int .u8, 1, 1, [.int .u8]⟩ := rfl
theorem tab_216 : tab 216 = some ⟨.int .u8, 1, 1, [.int .u8]⟩ := rfl
theorem tab_217 : tab 217 = some ⟨.func, 1, 8, [.fn]⟩ := rfl
theorem tab_218 : tab 218 = some ⟨.ptr 5, 1, 8, [.ptr]⟩ := rfl
theorem tab_219 : tab 219 = some ⟨.int .i32, 1, 4, [.int .i32]⟩ := rfl
theorem tab_220 : tab 220 = some ⟨.int .i32, 1, 4, [.int .i32]⟩ := rfl
theorem tab_221 : tab 221 = some ⟨.struct [(0, 1, false), (1, 1, false), (2, 1, false), (3, 1, false), (4, 1, false), (5, 1, false), (6, 1, false), (7, 1, false), (8, 1, false), (9, 1, false), (10, 1, false)], 11, 48, [.int .u64, .int .u64, .int .u32, .int .u8, .int .u8, .int .u8, .int .u8, .fn, .ptr, .int .i32, .int .i32]⟩ := rfl
theorem tab_222 : tab 222 = some ⟨.struct [(0, 1, false), (1, 1, false), (2, 1, false), (3, 1, false), (4, 1, false), (5, 1, false), (6, 1, false), (7, 1, false), (8, 1, false), (9, 1, false), (10, 1, false)], 11, 48, [.int .u64, .int .u64, .int .u32, .int .u8, .int .u8, .int .u8, .int .u8, .fn, .ptr, .int .i32, .int .i32]⟩ := rfl
end Go.Cl
