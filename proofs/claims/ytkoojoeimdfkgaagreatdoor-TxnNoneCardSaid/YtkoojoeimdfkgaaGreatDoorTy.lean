/-
  What is known of the types of this translation.
-/
import Derived.Test.YtkoojoeimdfkgaaGreatDoorProg
import Derived.Test.YtkoojoeimdfkgaaGreatDoorSxF
namespace Go.Proofs.YtkoojoeimdfkgaaGreatDoor
open Go Go.Sx
def tb0 : List (Nat × TyI) := [(32, ⟨.slice 26, 1, 24, [.slice none 0 0]⟩),
  (64, ⟨.func, 1, 8, [.nilFunc]⟩),
  (96, ⟨.struct [(0, 47), (1, 88), (6, 92), (7, 93), (8, 3), (9, 3), (10, 95)], 11, 104, [.pointer none, .int .i64 0, .int .i64 0, .int .i64 0, .int .i64 0, .slice none 0 0, .map none, .pointer none, .int .i64 0, .int .i64 0, .map none]⟩),
  (128, ⟨.func, 1, 8, [.nilFunc]⟩),
  (160, ⟨.func, 1, 8, [.nilFunc]⟩),
  (224, ⟨.func, 1, 8, [.nilFunc]⟩),
  (256, ⟨.func, 1, 8, [.nilFunc]⟩),
  (288, ⟨.func, 1, 8, [.nilFunc]⟩),
  (320, ⟨.func, 1, 8, [.nilFunc]⟩),
  (352, ⟨.struct [(0, 350)], 0, 0, []⟩)]
def tb1 : List (Nat × TyI) := [(1, ⟨.func, 1, 8, [.nilFunc]⟩),
  (33, ⟨.int .i64, 1, 8, [.int .i64 0]⟩),
  (65, ⟨.func, 1, 8, [.nilFunc]⟩),
  (97, ⟨.struct [(0, 47), (1, 88), (6, 92), (7, 93), (8, 3), (9, 3), (10, 95)], 11, 104, [.pointer none, .int .i64 0, .int .i64 0, .int .i64 0, .int .i64 0, .slice none 0 0, .map none, .pointer none, .int .i64 0, .int .i64 0, .map none]⟩),
  (129, ⟨.int .u64, 1, 8, [.int .u64 0]⟩),
  (161, ⟨.func, 1, 8, [.nilFunc]⟩),
  (193, ⟨.func, 1, 8, [.nilFunc]⟩),
  (225, ⟨.func, 1, 8, [.nilFunc]⟩),
  (257, ⟨.ptr 3, 1, 8, [.pointer none]⟩),
  (289, ⟨.func, 1, 8, [.nilFunc]⟩),
  (321, ⟨.ptr 323, 1, 8, [.pointer none]⟩),
  (353, ⟨.int .u8, 1, 1, [.int .u8 0]⟩)]
def tb2 : List (Nat × TyI) := [(2, ⟨.int .i64, 1, 8, [.int .i64 0]⟩),
  (66, ⟨.slice 53, 1, 24, [.slice none 0 0]⟩),
  (98, ⟨.struct [(0, 3), (1, 3), (2, 3), (3, 22), (4, 22)], 5, 72, [.int .i64 0, .int .i64 0, .int .i64 0, .slice none 0 0, .slice none 0 0]⟩),
  (130, ⟨.func, 1, 8, [.nilFunc]⟩),
  (194, ⟨.func, 1, 8, [.nilFunc]⟩),
  (226, ⟨.func, 1, 8, [.nilFunc]⟩),
  (258, ⟨.func, 1, 8, [.nilFunc]⟩),
  (290, ⟨.ptr 253, 1, 8, [.pointer none]⟩),
  (322, ⟨.struct [(0, 9)], 1, 16, [.string ⟨#[]⟩]⟩),
  (354, ⟨.int .u8, 1, 1, [.int .u8 0]⟩)]
def tb3 : List (Nat × TyI) := [(3, ⟨.int .i64, 1, 8, [.int .i64 0]⟩),
  (35, ⟨.func, 1, 8, [.nilFunc]⟩),
  (67, ⟨.func, 1, 8, [.nilFunc]⟩),
  (99, ⟨.struct [(0, 3), (1, 3), (2, 3), (3, 22), (4, 22)], 5, 72, [.int .i64 0, .int .i64 0, .int .i64 0, .slice none 0 0, .slice none 0 0]⟩),
  (163, ⟨.func, 1, 8, [.nilFunc]⟩),
  (195, ⟨.func, 1, 8, [.nilFunc]⟩),
  (227, ⟨.func, 1, 8, [.nilFunc]⟩),
  (259, ⟨.func, 1, 8, [.nilFunc]⟩),
  (323, ⟨.struct [(0, 9)], 1, 16, [.string ⟨#[]⟩]⟩),
  (355, ⟨.func, 1, 8, [.nilFunc]⟩)]
def tb4 : List (Nat × TyI) := [(4, ⟨.bool, 1, 1, [.bool false]⟩),
  (68, ⟨.func, 1, 8, [.nilFunc]⟩),
  (100, ⟨.ptr 221, 1, 8, [.pointer none]⟩),
  (132, ⟨.func, 1, 8, [.nilFunc]⟩),
  (164, ⟨.ptr 166, 1, 8, [.pointer none]⟩),
  (196, ⟨.func, 1, 8, [.nilFunc]⟩),
  (228, ⟨.func, 1, 8, [.nilFunc]⟩),
  (260, ⟨.func, 1, 8, [.nilFunc]⟩),
  (292, ⟨.func, 1, 8, [.nilFunc]⟩),
  (324, ⟨.array 24 5, 24, 24, [.int .u8 0, .int .u8 0, .int .u8 0, .int .u8 0, .int .u8 0, .int .u8 0, .int .u8 0, .int .u8 0, .int .u8 0, .int .u8 0, .int .u8 0, .int .u8 0, .int .u8 0, .int .u8 0, .int .u8 0, .int .u8 0, .int .u8 0, .int .u8 0, .int .u8 0, .int .u8 0, .int .u8 0, .int .u8 0, .int .u8 0, .int .u8 0]⟩),
  (356, ⟨.int .i32, 1, 4, [.int .i32 0]⟩)]
def tb5 : List (Nat × TyI) := [(5, ⟨.int .u8, 1, 1, [.int .u8 0]⟩),
  (37, ⟨.func, 1, 8, [.nilFunc]⟩),
  (69, ⟨.func, 1, 8, [.nilFunc]⟩),
  (101, ⟨.func, 1, 8, [.nilFunc]⟩),
  (165, ⟨.struct [(0, 22), (1, 4)], 2, 32, [.slice none 0 0, .bool false]⟩),
  (197, ⟨.func, 1, 8, [.nilFunc]⟩),
  (229, ⟨.func, 1, 8, [.nilFunc]⟩),
  (261, ⟨.func, 1, 8, [.nilFunc]⟩),
  (293, ⟨.func, 1, 8, [.nilFunc]⟩),
  (325, ⟨.func, 1, 8, [.nilFunc]⟩),
  (357, ⟨.int .i32, 1, 4, [.int .i32 0]⟩)]
def tb6 : List (Nat × TyI) := [(6, ⟨.int .u8, 1, 1, [.int .u8 0]⟩),
  (38, ⟨.func, 1, 8, [.nilFunc]⟩),
  (70, ⟨.struct [(0, 22), (1, 3), (2, 4), (3, 22)], 4, 64, [.slice none 0 0, .int .i64 0, .bool false, .slice none 0 0]⟩),
  (102, ⟨.slice 3, 1, 24, [.slice none 0 0]⟩),
  (134, ⟨.func, 1, 8, [.nilFunc]⟩),
  (166, ⟨.struct [(0, 22), (1, 4)], 2, 32, [.slice none 0 0, .bool false]⟩),
  (198, ⟨.int .u32, 1, 4, [.int .u32 0]⟩),
  (230, ⟨.func, 1, 8, [.nilFunc]⟩),
  (262, ⟨.func, 1, 8, [.nilFunc]⟩),
  (294, ⟨.func, 1, 8, [.nilFunc]⟩),
  (358, ⟨.struct [(0, 12), (1, 12), (2, 198), (3, 353), (4, 5), (5, 5), (6, 354), (7, 355), (8, 311), (9, 356), (10, 357)], 11, 48, [.int .u64 0, .int .u64 0, .int .u32 0, .int .u8 0, .int .u8 0, .int .u8 0, .int .u8 0, .nilFunc, .pointer none, .int .i32 0, .int .i32 0]⟩)]
def tb7 : List (Nat × TyI) := [(7, ⟨.struct [(0, 2), (1, 3), (2, 4), (3, 6)], 4, 24, [.int .i64 0, .int .i64 0, .bool false, .int .u8 0]⟩),
  (39, ⟨.func, 1, 8, [.nilFunc]⟩),
  (71, ⟨.struct [(0, 22), (1, 3), (2, 4), (3, 22)], 4, 64, [.slice none 0 0, .int .i64 0, .bool false, .slice none 0 0]⟩),
  (103, ⟨.func, 1, 8, [.nilFunc]⟩),
  (135, ⟨.func, 1, 8, [.nilFunc]⟩),
  (167, ⟨.func, 1, 8, [.nilFunc]⟩),
  (199, ⟨.func, 1, 8, [.nilFunc]⟩),
  (231, ⟨.func, 1, 8, [.nilFunc]⟩),
  (263, ⟨.func, 1, 8, [.nilFunc]⟩),
  (295, ⟨.ptr 219, 1, 8, [.pointer none]⟩),
  (327, ⟨.func, 1, 8, [.nilFunc]⟩),
  (359, ⟨.struct [(0, 12), (1, 12), (2, 198), (3, 353), (4, 5), (5, 5), (6, 354), (7, 355), (8, 311), (9, 356), (10, 357)], 11, 48, [.int .u64 0, .int .u64 0, .int .u32 0, .int .u8 0, .int .u8 0, .int .u8 0, .int .u8 0, .nilFunc, .pointer none, .int .i32 0, .int .i32 0]⟩)]
def tb8 : List (Nat × TyI) := [(8, ⟨.struct [(0, 2), (1, 3), (2, 4), (3, 6)], 4, 24, [.int .i64 0, .int .i64 0, .bool false, .int .u8 0]⟩),
  (40, ⟨.func, 1, 8, [.nilFunc]⟩),
  (72, ⟨.func, 1, 8, [.nilFunc]⟩),
  (104, ⟨.slice 22, 1, 24, [.slice none 0 0]⟩),
  (136, ⟨.func, 1, 8, [.nilFunc]⟩),
  (168, ⟨.func, 1, 8, [.nilFunc]⟩),
  (200, ⟨.int .u64, 1, 8, [.int .u64 0]⟩),
  (232, ⟨.func, 1, 8, [.nilFunc]⟩),
  (264, ⟨.func, 1, 8, [.nilFunc]⟩),
  (296, ⟨.ptr 298, 1, 8, [.pointer none]⟩)]
def tb9 : List (Nat × TyI) := [(9, ⟨.str, 1, 16, [.string ⟨#[]⟩]⟩),
  (41, ⟨.func, 1, 8, [.nilFunc]⟩),
  (73, ⟨.func, 1, 8, [.nilFunc]⟩),
  (137, ⟨.func, 1, 8, [.nilFunc]⟩),
  (169, ⟨.func, 1, 8, [.nilFunc]⟩),
  (201, ⟨.struct [(0, 9), (1, 3), (2, 22)], 3, 48, [.string ⟨#[]⟩, .int .i64 0, .slice none 0 0]⟩),
  (233, ⟨.func, 1, 8, [.nilFunc]⟩),
  (265, ⟨.func, 1, 8, [.nilFunc]⟩),
  (297, ⟨.struct [(0, 22), (1, 4)], 2, 32, [.slice none 0 0, .bool false]⟩),
  (329, ⟨.func, 1, 8, [.nilFunc]⟩)]
def tb10 : List (Nat × TyI) := [(10, ⟨.str, 1, 16, [.string ⟨#[]⟩]⟩),
  (42, ⟨.slice 71, 1, 24, [.slice none 0 0]⟩),
  (74, ⟨.func, 1, 8, [.nilFunc]⟩),
  (106, ⟨.func, 1, 8, [.nilFunc]⟩),
  (138, ⟨.func, 1, 8, [.nilFunc]⟩),
  (170, ⟨.func, 1, 8, [.nilFunc]⟩),
  (202, ⟨.struct [(0, 9), (1, 3), (2, 22)], 3, 48, [.string ⟨#[]⟩, .int .i64 0, .slice none 0 0]⟩),
  (234, ⟨.func, 1, 8, [.nilFunc]⟩),
  (266, ⟨.func, 1, 8, [.nilFunc]⟩),
  (298, ⟨.struct [(0, 22), (1, 4)], 2, 32, [.slice none 0 0, .bool false]⟩),
  (330, ⟨.ptr 217, 1, 8, [.pointer none]⟩)]
def tb11 : List (Nat × TyI) := [(11, ⟨.str, 1, 16, [.string ⟨#[]⟩]⟩),
  (43, ⟨.func, 1, 8, [.nilFunc]⟩),
  (75, ⟨.func, 1, 8, [.nilFunc]⟩),
  (171, ⟨.func, 1, 8, [.nilFunc]⟩),
  (235, ⟨.func, 1, 8, [.nilFunc]⟩),
  (299, ⟨.func, 1, 8, [.nilFunc]⟩),
  (331, ⟨.func, 1, 8, [.nilFunc]⟩)]
def tb12 : List (Nat × TyI) := [(12, ⟨.int .u64, 1, 8, [.int .u64 0]⟩),
  (76, ⟨.func, 1, 8, [.nilFunc]⟩),
  (108, ⟨.func, 1, 8, [.nilFunc]⟩),
  (140, ⟨.func, 1, 8, [.nilFunc]⟩),
  (172, ⟨.func, 1, 8, [.nilFunc]⟩),
  (204, ⟨.ptr 206, 1, 8, [.pointer none]⟩),
  (236, ⟨.func, 1, 8, [.nilFunc]⟩),
  (268, ⟨.func, 1, 8, [.nilFunc]⟩),
  (332, ⟨.func, 1, 8, [.nilFunc]⟩)]
def tb13 : List (Nat × TyI) := [(13, ⟨.struct [(0, 9), (1, 12)], 2, 24, [.string ⟨#[]⟩, .int .u64 0]⟩),
  (45, ⟨.func, 1, 8, [.nilFunc]⟩),
  (77, ⟨.func, 1, 8, [.nilFunc]⟩),
  (109, ⟨.func, 1, 8, [.nilFunc]⟩),
  (141, ⟨.func, 1, 8, [.nilFunc]⟩),
  (173, ⟨.func, 1, 8, [.nilFunc]⟩),
  (205, ⟨.struct [(0, 22), (1, 4)], 2, 32, [.slice none 0 0, .bool false]⟩),
  (237, ⟨.func, 1, 8, [.nilFunc]⟩),
  (269, ⟨.func, 1, 8, [.nilFunc]⟩),
  (301, ⟨.func, 1, 8, [.nilFunc]⟩),
  (333, ⟨.func, 1, 8, [.nilFunc]⟩)]
def tb14 : List (Nat × TyI) := [(14, ⟨.struct [(0, 9), (1, 12)], 2, 24, [.string ⟨#[]⟩, .int .u64 0]⟩),
  (46, ⟨.func, 1, 8, [.nilFunc]⟩),
  (78, ⟨.map 9 202, 1, 8, [.map none]⟩),
  (142, ⟨.func, 1, 8, [.nilFunc]⟩),
  (174, ⟨.func, 1, 8, [.nilFunc]⟩),
  (206, ⟨.struct [(0, 22), (1, 4)], 2, 32, [.slice none 0 0, .bool false]⟩),
  (238, ⟨.func, 1, 8, [.nilFunc]⟩),
  (270, ⟨.func, 1, 8, [.nilFunc]⟩),
  (302, ⟨.func, 1, 8, [.nilFunc]⟩),
  (334, ⟨.func, 1, 8, [.nilFunc]⟩)]
def tb15 : List (Nat × TyI) := [(15, ⟨.ptr 349, 1, 8, [.pointer none]⟩),
  (47, ⟨.ptr 85, 1, 8, [.pointer none]⟩),
  (79, ⟨.struct [], 0, 0, []⟩),
  (111, ⟨.func, 1, 8, [.nilFunc]⟩),
  (143, ⟨.ptr 146, 1, 8, [.pointer none]⟩),
  (175, ⟨.func, 1, 8, [.nilFunc]⟩),
  (207, ⟨.func, 1, 8, [.nilFunc]⟩),
  (239, ⟨.func, 1, 8, [.nilFunc]⟩),
  (271, ⟨.int .i64, 1, 8, [.int .i64 0]⟩),
  (303, ⟨.struct [(0, 9), (1, 9), (2, 158)], 3, 48, [.string ⟨#[]⟩, .string ⟨#[]⟩, .nilIface]⟩),
  (335, ⟨.array 20 200, 20, 160, [.int .u64 0, .int .u64 0, .int .u64 0, .int .u64 0, .int .u64 0, .int .u64 0, .int .u64 0, .int .u64 0, .int .u64 0, .int .u64 0, .int .u64 0, .int .u64 0, .int .u64 0, .int .u64 0, .int .u64 0, .int .u64 0, .int .u64 0, .int .u64 0, .int .u64 0, .int .u64 0]⟩)]
def tb16 : List (Nat × TyI) := [(16, ⟨.ptr 352, 1, 8, [.pointer none]⟩),
  (80, ⟨.struct [], 0, 0, []⟩),
  (112, ⟨.func, 1, 8, [.nilFunc]⟩),
  (144, ⟨.array 12 143, 12, 96, [.pointer none, .pointer none, .pointer none, .pointer none, .pointer none, .pointer none, .pointer none, .pointer none, .pointer none, .pointer none, .pointer none, .pointer none]⟩),
  (176, ⟨.func, 1, 8, [.nilFunc]⟩),
  (208, ⟨.func, 1, 8, [.nilFunc]⟩),
  (240, ⟨.func, 1, 8, [.nilFunc]⟩),
  (304, ⟨.struct [(0, 9), (1, 9), (2, 158)], 3, 48, [.string ⟨#[]⟩, .string ⟨#[]⟩, .nilIface]⟩),
  (336, ⟨.array 65 5, 65, 65, [.int .u8 0, .int .u8 0, .int .u8 0, .int .u8 0, .int .u8 0, .int .u8 0, .int .u8 0, .int .u8 0, .int .u8 0, .int .u8 0, .int .u8 0, .int .u8 0, .int .u8 0, .int .u8 0, .int .u8 0, .int .u8 0, .int .u8 0, .int .u8 0, .int .u8 0, .int .u8 0, .int .u8 0, .int .u8 0, .int .u8 0, .int .u8 0, .int .u8 0, .int .u8 0, .int .u8 0, .int .u8 0, .int .u8 0, .int .u8 0, .int .u8 0, .int .u8 0, .int .u8 0, .int .u8 0, .int .u8 0, .int .u8 0, .int .u8 0, .int .u8 0, .int .u8 0, .int .u8 0, .int .u8 0, .int .u8 0, .int .u8 0, .int .u8 0, .int .u8 0, .int .u8 0, .int .u8 0, .int .u8 0, .int .u8 0, .int .u8 0, .int .u8 0, .int .u8 0, .int .u8 0, .int .u8 0, .int .u8 0, .int .u8 0, .int .u8 0, .int .u8 0, .int .u8 0, .int .u8 0, .int .u8 0, .int .u8 0, .int .u8 0, .int .u8 0, .int .u8 0]⟩)]
def tb17 : List (Nat × TyI) := [(17, ⟨.ptr 359, 1, 8, [.pointer none]⟩),
  (49, ⟨.func, 1, 8, [.nilFunc]⟩),
  (81, ⟨.struct [], 0, 0, []⟩),
  (113, ⟨.func, 1, 8, [.nilFunc]⟩),
  (145, ⟨.struct [(0, 71), (4, 3), (5, 144)], 17, 168, [.slice none 0 0, .int .i64 0, .bool false, .slice none 0 0, .int .i64 0, .pointer none, .pointer none, .pointer none, .pointer none, .pointer none, .pointer none, .pointer none, .pointer none, .pointer none, .pointer none, .pointer none, .pointer none]⟩),
  (177, ⟨.func, 1, 8, [.nilFunc]⟩),
  (209, ⟨.func, 1, 8, [.nilFunc]⟩),
  (241, ⟨.func, 1, 8, [.nilFunc]⟩),
  (273, ⟨.func, 1, 8, [.nilFunc]⟩),
  (305, ⟨.func, 1, 8, [.nilFunc]⟩),
  (337, ⟨.ptr 215, 1, 8, [.pointer none]⟩)]
def tb18 : List (Nat × TyI) := [(18, ⟨.struct [(0, 17)], 1, 8, [.pointer none]⟩),
  (82, ⟨.struct [(0, 80), (0, 81), (0, 2)], 1, 8, [.int .i64 0]⟩),
  (114, ⟨.func, 1, 8, [.nilFunc]⟩),
  (146, ⟨.struct [(0, 71), (4, 3), (5, 144)], 17, 168, [.slice none 0 0, .int .i64 0, .bool false, .slice none 0 0, .int .i64 0, .pointer none, .pointer none, .pointer none, .pointer none, .pointer none, .pointer none, .pointer none, .pointer none, .pointer none, .pointer none, .pointer none, .pointer none]⟩),
  (178, ⟨.func, 1, 8, [.nilFunc]⟩),
  (210, ⟨.func, 1, 8, [.nilFunc]⟩),
  (242, ⟨.func, 1, 8, [.nilFunc]⟩),
  (274, ⟨.ptr 304, 1, 8, [.pointer none]⟩),
  (306, ⟨.func, 1, 8, [.nilFunc]⟩),
  (338, ⟨.func, 1, 8, [.nilFunc]⟩)]
def tb19 : List (Nat × TyI) := [(19, ⟨.struct [(0, 17)], 1, 8, [.pointer none]⟩),
  (51, ⟨.func, 1, 8, [.nilFunc]⟩),
  (83, ⟨.struct [(0, 80), (0, 81), (0, 2)], 1, 8, [.int .i64 0]⟩),
  (115, ⟨.slice 57, 1, 24, [.slice none 0 0]⟩),
  (147, ⟨.struct [(0, 146), (17, 3), (18, 3)], 19, 184, [.slice none 0 0, .int .i64 0, .bool false, .slice none 0 0, .int .i64 0, .pointer none, .pointer none, .pointer none, .pointer none, .pointer none, .pointer none, .pointer none, .pointer none, .pointer none, .pointer none, .pointer none, .pointer none, .int .i64 0, .int .i64 0]⟩),
  (179, ⟨.func, 1, 8, [.nilFunc]⟩),
  (211, ⟨.struct [], 0, 0, []⟩),
  (243, ⟨.func, 1, 8, [.nilFunc]⟩),
  (275, ⟨.func, 1, 8, [.nilFunc]⟩),
  (339, ⟨.ptr 21, 1, 8, [.pointer none]⟩)]
def tb20 : List (Nat × TyI) := [(20, ⟨.iface, 1, 16, [.nilIface]⟩),
  (52, ⟨.struct [(0, 22), (1, 4), (2, 22)], 3, 56, [.slice none 0 0, .bool false, .slice none 0 0]⟩),
  (84, ⟨.struct [(0, 3), (1, 3), (2, 78), (3, 83), (4, 3), (5, 4)], 6, 48, [.int .i64 0, .int .i64 0, .map none, .int .i64 0, .int .i64 0, .bool false]⟩),
  (116, ⟨.func, 1, 8, [.nilFunc]⟩),
  (148, ⟨.struct [(0, 146), (17, 3), (18, 3)], 19, 184, [.slice none 0 0, .int .i64 0, .bool false, .slice none 0 0, .int .i64 0, .pointer none, .pointer none, .pointer none, .pointer none, .pointer none, .pointer none, .pointer none, .pointer none, .pointer none, .pointer none, .pointer none, .pointer none, .int .i64 0, .int .i64 0]⟩),
  (180, ⟨.func, 1, 8, [.nilFunc]⟩),
  (212, ⟨.struct [(0, 80), (0, 198)], 1, 4, [.int .u32 0]⟩),
  (244, ⟨.func, 1, 8, [.nilFunc]⟩),
  (276, ⟨.func, 1, 8, [.nilFunc]⟩),
  (308, ⟨.func, 1, 8, [.nilFunc]⟩),
  (340, ⟨.func, 1, 8, [.nilFunc]⟩)]
def tb21 : List (Nat × TyI) := [(21, ⟨.int .i32, 1, 4, [.int .i32 0]⟩),
  (53, ⟨.struct [(0, 22), (1, 4), (2, 22)], 3, 56, [.slice none 0 0, .bool false, .slice none 0 0]⟩),
  (85, ⟨.struct [(0, 3), (1, 3), (2, 78), (3, 83), (4, 3), (5, 4)], 6, 48, [.int .i64 0, .int .i64 0, .map none, .int .i64 0, .int .i64 0, .bool false]⟩),
  (117, ⟨.func, 1, 8, [.nilFunc]⟩),
  (149, ⟨.func, 1, 8, [.nilFunc]⟩),
  (181, ⟨.func, 1, 8, [.nilFunc]⟩),
  (213, ⟨.struct [(0, 80), (0, 198)], 1, 4, [.int .u32 0]⟩),
  (245, ⟨.ptr 247, 1, 8, [.pointer none]⟩),
  (341, ⟨.func, 1, 8, [.nilFunc]⟩)]
def tb22 : List (Nat × TyI) := [(22, ⟨.slice 5, 1, 24, [.slice none 0 0]⟩),
  (86, ⟨.slice 99, 1, 24, [.slice none 0 0]⟩),
  (118, ⟨.func, 1, 8, [.nilFunc]⟩),
  (150, ⟨.func, 1, 8, [.nilFunc]⟩),
  (182, ⟨.func, 1, 8, [.nilFunc]⟩),
  (214, ⟨.struct [(0, 21), (1, 198)], 2, 8, [.int .i32 0, .int .u32 0]⟩),
  (246, ⟨.struct [(0, 42), (1, 3)], 2, 32, [.slice none 0 0, .int .i64 0]⟩),
  (278, ⟨.func, 1, 8, [.nilFunc]⟩),
  (310, ⟨.func, 1, 8, [.nilFunc]⟩),
  (342, ⟨.func, 1, 8, [.nilFunc]⟩)]
def tb23 : List (Nat × TyI) := [(23, ⟨.struct [(0, 3), (1, 3), (2, 22), (3, 22)], 4, 64, [.int .i64 0, .int .i64 0, .slice none 0 0, .slice none 0 0]⟩),
  (55, ⟨.func, 1, 8, [.nilFunc]⟩),
  (87, ⟨.struct [(0, 3), (1, 3), (2, 3), (3, 3), (4, 86)], 5, 56, [.int .i64 0, .int .i64 0, .int .i64 0, .int .i64 0, .slice none 0 0]⟩),
  (119, ⟨.func, 1, 8, [.nilFunc]⟩),
  (183, ⟨.func, 1, 8, [.nilFunc]⟩),
  (215, ⟨.struct [(0, 21), (1, 198)], 2, 8, [.int .i32 0, .int .u32 0]⟩),
  (247, ⟨.struct [(0, 42), (1, 3)], 2, 32, [.slice none 0 0, .int .i64 0]⟩),
  (279, ⟨.ptr 281, 1, 8, [.pointer none]⟩),
  (311, ⟨.ptr 5, 1, 8, [.pointer none]⟩),
  (343, ⟨.func, 1, 8, [.nilFunc]⟩)]
def tb24 : List (Nat × TyI) := [(24, ⟨.struct [(0, 3), (1, 3), (2, 22), (3, 22)], 4, 64, [.int .i64 0, .int .i64 0, .slice none 0 0, .slice none 0 0]⟩),
  (56, ⟨.func, 1, 8, [.nilFunc]⟩),
  (88, ⟨.struct [(0, 3), (1, 3), (2, 3), (3, 3), (4, 86)], 5, 56, [.int .i64 0, .int .i64 0, .int .i64 0, .int .i64 0, .slice none 0 0]⟩),
  (120, ⟨.func, 1, 8, [.nilFunc]⟩),
  (152, ⟨.func, 1, 8, [.nilFunc]⟩),
  (184, ⟨.func, 1, 8, [.nilFunc]⟩),
  (216, ⟨.struct [(0, 211), (0, 215)], 2, 8, [.int .i32 0, .int .u32 0]⟩),
  (248, ⟨.func, 1, 8, [.nilFunc]⟩),
  (280, ⟨.struct [(0, 279), (1, 22)], 2, 32, [.pointer none, .slice none 0 0]⟩),
  (312, ⟨.func, 1, 8, [.nilFunc]⟩),
  (344, ⟨.func, 1, 8, [.nilFunc]⟩)]
def tb25 : List (Nat × TyI) := [(25, ⟨.func, 1, 8, [.nilFunc]⟩),
  (57, ⟨.slice 9, 1, 24, [.slice none 0 0]⟩),
  (121, ⟨.func, 1, 8, [.nilFunc]⟩),
  (153, ⟨.func, 1, 8, [.nilFunc]⟩),
  (185, ⟨.func, 1, 8, [.nilFunc]⟩),
  (217, ⟨.struct [(0, 211), (0, 215)], 2, 8, [.int .i32 0, .int .u32 0]⟩),
  (249, ⟨.func, 1, 8, [.nilFunc]⟩),
  (281, ⟨.struct [(0, 279), (1, 22)], 2, 32, [.pointer none, .slice none 0 0]⟩),
  (313, ⟨.ptr 83, 1, 8, [.pointer none]⟩),
  (345, ⟨.func, 1, 8, [.nilFunc]⟩)]
def tb26 : List (Nat × TyI) := [(26, ⟨.ptr 31, 1, 8, [.pointer none]⟩),
  (58, ⟨.func, 1, 8, [.nilFunc]⟩),
  (90, ⟨.func, 1, 8, [.nilFunc]⟩),
  (122, ⟨.func, 1, 8, [.nilFunc]⟩),
  (154, ⟨.func, 1, 8, [.nilFunc]⟩),
  (186, ⟨.func, 1, 8, [.nilFunc]⟩),
  (218, ⟨.struct [(0, 211), (0, 213), (1, 217)], 3, 12, [.int .u32 0, .int .i32 0, .int .u32 0]⟩),
  (250, ⟨.func, 1, 8, [.nilFunc]⟩),
  (282, ⟨.func, 1, 8, [.nilFunc]⟩),
  (314, ⟨.func, 1, 8, [.nilFunc]⟩),
  (346, ⟨.array 32 5, 32, 32, [.int .u8 0, .int .u8 0, .int .u8 0, .int .u8 0, .int .u8 0, .int .u8 0, .int .u8 0, .int .u8 0, .int .u8 0, .int .u8 0, .int .u8 0, .int .u8 0, .int .u8 0, .int .u8 0, .int .u8 0, .int .u8 0, .int .u8 0, .int .u8 0, .int .u8 0, .int .u8 0, .int .u8 0, .int .u8 0, .int .u8 0, .int .u8 0, .int .u8 0, .int .u8 0, .int .u8 0, .int .u8 0, .int .u8 0, .int .u8 0, .int .u8 0, .int .u8 0]⟩)]
def tb27 : List (Nat × TyI) := [(27, ⟨.ptr 97, 1, 8, [.pointer none]⟩),
  (59, ⟨.func, 1, 8, [.nilFunc]⟩),
  (91, ⟨.func, 1, 8, [.nilFunc]⟩),
  (123, ⟨.func, 1, 8, [.nilFunc]⟩),
  (187, ⟨.func, 1, 8, [.nilFunc]⟩),
  (219, ⟨.struct [(0, 211), (0, 213), (1, 217)], 3, 12, [.int .u32 0, .int .i32 0, .int .u32 0]⟩),
  (251, ⟨.func, 1, 8, [.nilFunc]⟩),
  (283, ⟨.func, 1, 8, [.nilFunc]⟩),
  (315, ⟨.ptr 2, 1, 8, [.pointer none]⟩),
  (347, ⟨.array 64 5, 64, 64, [.int .u8 0, .int .u8 0, .int .u8 0, .int .u8 0, .int .u8 0, .int .u8 0, .int .u8 0, .int .u8 0, .int .u8 0, .int .u8 0, .int .u8 0, .int .u8 0, .int .u8 0, .int .u8 0, .int .u8 0, .int .u8 0, .int .u8 0, .int .u8 0, .int .u8 0, .int .u8 0, .int .u8 0, .int .u8 0, .int .u8 0, .int .u8 0, .int .u8 0, .int .u8 0, .int .u8 0, .int .u8 0, .int .u8 0, .int .u8 0, .int .u8 0, .int .u8 0, .int .u8 0, .int .u8 0, .int .u8 0, .int .u8 0, .int .u8 0, .int .u8 0, .int .u8 0, .int .u8 0, .int .u8 0, .int .u8 0, .int .u8 0, .int .u8 0, .int .u8 0, .int .u8 0, .int .u8 0, .int .u8 0, .int .u8 0, .int .u8 0, .int .u8 0, .int .u8 0, .int .u8 0, .int .u8 0, .int .u8 0, .int .u8 0, .int .u8 0, .int .u8 0, .int .u8 0, .int .u8 0, .int .u8 0, .int .u8 0, .int .u8 0, .int .u8 0]⟩)]
def tb28 : List (Nat × TyI) := [(28, ⟨.map 9 53, 1, 8, [.map none]⟩),
  (60, ⟨.func, 1, 8, [.nilFunc]⟩),
  (92, ⟨.map 3 100, 1, 8, [.map none]⟩),
  (124, ⟨.slice 42, 1, 24, [.slice none 0 0]⟩),
  (156, ⟨.func, 1, 8, [.nilFunc]⟩),
  (188, ⟨.func, 1, 8, [.nilFunc]⟩),
  (220, ⟨.struct [(0, 104), (1, 22), (2, 219), (5, 42)], 6, 88, [.slice none 0 0, .slice none 0 0, .int .u32 0, .int .i32 0, .int .u32 0, .slice none 0 0]⟩),
  (252, ⟨.func, 1, 8, [.nilFunc]⟩),
  (284, ⟨.func, 1, 8, [.nilFunc]⟩),
  (316, ⟨.ptr 213, 1, 8, [.pointer none]⟩),
  (348, ⟨.struct [(0, 17), (1, 17), (2, 17), (3, 9)], 4, 40, [.pointer none, .pointer none, .pointer none, .string ⟨#[]⟩]⟩)]
def tb29 : List (Nat × TyI) := [(29, ⟨.map 9 3, 1, 8, [.map none]⟩),
  (61, ⟨.func, 1, 8, [.nilFunc]⟩),
  (93, ⟨.ptr 148, 1, 8, [.pointer none]⟩),
  (125, ⟨.func, 1, 8, [.nilFunc]⟩),
  (157, ⟨.iface, 1, 16, [.nilIface]⟩),
  (189, ⟨.func, 1, 8, [.nilFunc]⟩),
  (221, ⟨.struct [(0, 104), (1, 22), (2, 219), (5, 42)], 6, 88, [.slice none 0 0, .slice none 0 0, .int .u32 0, .int .i32 0, .int .u32 0, .slice none 0 0]⟩),
  (253, ⟨.int .u64, 1, 8, [.int .u64 0]⟩),
  (285, ⟨.func, 1, 8, [.nilFunc]⟩),
  (317, ⟨.func, 1, 8, [.nilFunc]⟩),
  (349, ⟨.struct [(0, 17), (1, 17), (2, 17), (3, 9)], 4, 40, [.pointer none, .pointer none, .pointer none, .string ⟨#[]⟩]⟩)]
def tb30 : List (Nat × TyI) := [(30, ⟨.struct [(0, 27), (1, 3), (2, 4), (3, 28), (4, 29)], 5, 40, [.pointer none, .int .i64 0, .bool false, .map none, .map none]⟩),
  (62, ⟨.func, 1, 8, [.nilFunc]⟩),
  (94, ⟨.func, 1, 8, [.nilFunc]⟩),
  (126, ⟨.func, 1, 8, [.nilFunc]⟩),
  (158, ⟨.iface, 1, 16, [.nilIface]⟩),
  (190, ⟨.func, 1, 8, [.nilFunc]⟩),
  (254, ⟨.func, 1, 8, [.nilFunc]⟩),
  (286, ⟨.func, 1, 8, [.nilFunc]⟩),
  (318, ⟨.ptr 198, 1, 8, [.pointer none]⟩),
  (350, ⟨.array 0 16, 0, 0, []⟩)]
def tb31 : List (Nat × TyI) := [(31, ⟨.struct [(0, 27), (1, 3), (2, 4), (3, 28), (4, 29)], 5, 40, [.pointer none, .int .i64 0, .bool false, .map none, .map none]⟩),
  (63, ⟨.func, 1, 8, [.nilFunc]⟩),
  (95, ⟨.map 3 3, 1, 8, [.map none]⟩),
  (127, ⟨.func, 1, 8, [.nilFunc]⟩),
  (191, ⟨.int .i64, 1, 8, [.int .i64 0]⟩),
  (223, ⟨.func, 1, 8, [.nilFunc]⟩),
  (255, ⟨.func, 1, 8, [.nilFunc]⟩),
  (287, ⟨.func, 1, 8, [.nilFunc]⟩),
  (319, ⟨.func, 1, 8, [.nilFunc]⟩),
  (351, ⟨.struct [(0, 350)], 0, 0, []⟩)]
def tbs : List (List (Nat × TyI)) := [tb0, tb1, tb2, tb3, tb4, tb5, tb6, tb7, tb8, tb9, tb10, tb11, tb12, tb13, tb14, tb15, tb16, tb17, tb18, tb19, tb20, tb21, tb22, tb23, tb24, tb25, tb26, tb27, tb28, tb29, tb30, tb31]
theorem tb0_ok : (tb0.all fun x => tyB Tryz.prog x.1 x.2) = true := by kernel_rfl
theorem tb1_ok : (tb1.all fun x => tyB Tryz.prog x.1 x.2) = true := by kernel_rfl
theorem tb2_ok : (tb2.all fun x => tyB Tryz.prog x.1 x.2) = true := by kernel_rfl
theorem tb3_ok : (tb3.all fun x => tyB Tryz.prog x.1 x.2) = true := by kernel_rfl
theorem tb4_ok : (tb4.all fun x => tyB Tryz.prog x.1 x.2) = true := by kernel_rfl
theorem tb5_ok : (tb5.all fun x => tyB Tryz.prog x.1 x.2) = true := by kernel_rfl
theorem tb6_ok : (tb6.all fun x => tyB Tryz.prog x.1 x.2) = true := by kernel_rfl
theorem tb7_ok : (tb7.all fun x => tyB Tryz.prog x.1 x.2) = true := by kernel_rfl
theorem tb8_ok : (tb8.all fun x => tyB Tryz.prog x.1 x.2) = true := by kernel_rfl
theorem tb9_ok : (tb9.all fun x => tyB Tryz.prog x.1 x.2) = true := by kernel_rfl
theorem tb10_ok : (tb10.all fun x => tyB Tryz.prog x.1 x.2) = true := by kernel_rfl
theorem tb11_ok : (tb11.all fun x => tyB Tryz.prog x.1 x.2) = true := by kernel_rfl
theorem tb12_ok : (tb12.all fun x => tyB Tryz.prog x.1 x.2) = true := by kernel_rfl
theorem tb13_ok : (tb13.all fun x => tyB Tryz.prog x.1 x.2) = true := by kernel_rfl
theorem tb14_ok : (tb14.all fun x => tyB Tryz.prog x.1 x.2) = true := by kernel_rfl
theorem tb15_ok : (tb15.all fun x => tyB Tryz.prog x.1 x.2) = true := by kernel_rfl
theorem tb16_ok : (tb16.all fun x => tyB Tryz.prog x.1 x.2) = true := by kernel_rfl
theorem tb17_ok : (tb17.all fun x => tyB Tryz.prog x.1 x.2) = true := by kernel_rfl
theorem tb18_ok : (tb18.all fun x => tyB Tryz.prog x.1 x.2) = true := by kernel_rfl
theorem tb19_ok : (tb19.all fun x => tyB Tryz.prog x.1 x.2) = true := by kernel_rfl
theorem tb20_ok : (tb20.all fun x => tyB Tryz.prog x.1 x.2) = true := by kernel_rfl
theorem tb21_ok : (tb21.all fun x => tyB Tryz.prog x.1 x.2) = true := by kernel_rfl
theorem tb22_ok : (tb22.all fun x => tyB Tryz.prog x.1 x.2) = true := by kernel_rfl
theorem tb23_ok : (tb23.all fun x => tyB Tryz.prog x.1 x.2) = true := by kernel_rfl
theorem tb24_ok : (tb24.all fun x => tyB Tryz.prog x.1 x.2) = true := by kernel_rfl
theorem tb25_ok : (tb25.all fun x => tyB Tryz.prog x.1 x.2) = true := by kernel_rfl
theorem tb26_ok : (tb26.all fun x => tyB Tryz.prog x.1 x.2) = true := by kernel_rfl
theorem tb27_ok : (tb27.all fun x => tyB Tryz.prog x.1 x.2) = true := by kernel_rfl
theorem tb28_ok : (tb28.all fun x => tyB Tryz.prog x.1 x.2) = true := by kernel_rfl
theorem tb29_ok : (tb29.all fun x => tyB Tryz.prog x.1 x.2) = true := by kernel_rfl
theorem tb30_ok : (tb30.all fun x => tyB Tryz.prog x.1 x.2) = true := by kernel_rfl
theorem tb31_ok : (tb31.all fun x => tyB Tryz.prog x.1 x.2) = true := by kernel_rfl
theorem tbs_ok : (tbs.all fun l => l.all fun x => tyB Tryz.prog x.1 x.2) = true := by
  simp only [tbs, List.all_cons, List.all_nil, tb0_ok, tb1_ok, tb2_ok, tb3_ok, tb4_ok, tb5_ok, tb6_ok, tb7_ok, tb8_ok, tb9_ok, tb10_ok, tb11_ok, tb12_ok, tb13_ok, tb14_ok, tb15_ok, tb16_ok, tb17_ok, tb18_ok, tb19_ok, tb20_ok, tb21_ok, tb22_ok, tb23_ok, tb24_ok, tb25_ok, tb26_ok, tb27_ok, tb28_ok, tb29_ok, tb30_ok, tb31_ok, Bool.and_self]
def tabAt (t : Nat) : Option TyI := lkT (nth tbs (t % 32)) t
noncomputable def T : TyTab Tryz.prog := ⟨tabAt, fun h => tab_ok tbs_ok h⟩
end Go.Proofs.YtkoojoeimdfkgaaGreatDoor
