/-
  The table of the program's types, each line asked of the kernel. Conditions: those of the statement alone.
-/
import Derived.Test.YtnjnpfhgblcgnaaDoorSxD
import Derived.Test.YtnjnpfhgblcgnaaDoorProg
set_option linter.unusedVariables false
set_option linter.unusedSimpArgs false
set_option maxRecDepth 100000
namespace Go.Sx
noncomputable abbrev PP := Go.Proofs.Tryd.prog
def errT : Nat := 107
def tabL : List (Nat × TI) := [(1, ⟨.other, 1, [.nilFunc]⟩),
  (2, ⟨.int .i64, 1, [.int .i64 0]⟩),
  (3, ⟨.int .i64, 1, [.int .i64 0]⟩),
  (4, ⟨.bool, 1, [.bool false]⟩),
  (5, ⟨.int .u8, 1, [.int .u8 0]⟩),
  (6, ⟨.int .u8, 1, [.int .u8 0]⟩),
  (7, ⟨.struct [(0, 2, 1), (1, 3, 1), (2, 4, 1), (3, 6, 1)], 4, [.int .i64 0, .int .i64 0, .bool false, .int .u8 0]⟩),
  (8, ⟨.struct [(0, 2, 1), (1, 3, 1), (2, 4, 1), (3, 6, 1)], 4, [.int .i64 0, .int .i64 0, .bool false, .int .u8 0]⟩),
  (9, ⟨.str, 1, [.string (⟨#[]⟩ : ByteArray)]⟩),
  (10, ⟨.str, 1, [.string (⟨#[]⟩ : ByteArray)]⟩),
  (11, ⟨.str, 1, [.string (⟨#[]⟩ : ByteArray)]⟩),
  (12, ⟨.int .u64, 1, [.int .u64 0]⟩),
  (13, ⟨.struct [(0, 9, 1), (1, 12, 1)], 2, [.string (⟨#[]⟩ : ByteArray), .int .u64 0]⟩),
  (14, ⟨.struct [(0, 9, 1), (1, 12, 1)], 2, [.string (⟨#[]⟩ : ByteArray), .int .u64 0]⟩),
  (15, ⟨.ptr 238, 1, [.pointer none]⟩),
  (16, ⟨.ptr 241, 1, [.pointer none]⟩),
  (17, ⟨.ptr 249, 1, [.pointer none]⟩),
  (18, ⟨.struct [(0, 17, 1)], 1, [.pointer none]⟩),
  (19, ⟨.struct [(0, 17, 1)], 1, [.pointer none]⟩),
  (20, ⟨.iface, 1, [.nilIface]⟩),
  (21, ⟨.int .i32, 1, [.int .i32 0]⟩),
  (22, ⟨.slice 29, 1, [.slice none 0 0]⟩),
  (23, ⟨.slice 27, 1, [.slice none 0 0]⟩),
  (24, ⟨.ptr 105, 1, [.pointer none]⟩),
  (25, ⟨.other, 1, [.nilFunc]⟩),
  (26, ⟨.arr 2 3 1, 2, [.int .i64 0, .int .i64 0]⟩),
  (27, ⟨.slice 3, 1, [.slice none 0 0]⟩),
  (28, ⟨.struct [(0, 3, 1), (1, 3, 1), (2, 3, 1), (3, 3, 1), (4, 3, 1), (5, 3, 1), (6, 3, 1), (7, 3, 1)], 8, [.int .i64 0, .int .i64 0, .int .i64 0, .int .i64 0, .int .i64 0, .int .i64 0, .int .i64 0, .int .i64 0]⟩),
  (29, ⟨.struct [(0, 3, 1), (1, 3, 1), (2, 3, 1), (3, 3, 1), (4, 3, 1), (5, 3, 1), (6, 3, 1), (7, 3, 1)], 8, [.int .i64 0, .int .i64 0, .int .i64 0, .int .i64 0, .int .i64 0, .int .i64 0, .int .i64 0, .int .i64 0]⟩),
  (31, ⟨.other, 1, [.nilFunc]⟩),
  (32, ⟨.other, 1, [.nilFunc]⟩),
  (33, ⟨.iface, 1, [.nilIface]⟩),
  (34, ⟨.iface, 1, [.nilIface]⟩),
  (35, ⟨.other, 1, [.nilFunc]⟩),
  (36, ⟨.other, 1, [.nilFunc]⟩),
  (37, ⟨.other, 1, [.nilFunc]⟩),
  (39, ⟨.other, 1, [.nilFunc]⟩),
  (40, ⟨.other, 1, [.nilFunc]⟩),
  (42, ⟨.other, 1, [.nilFunc]⟩),
  (44, ⟨.other, 1, [.nilFunc]⟩),
  (45, ⟨.other, 1, [.nilFunc]⟩),
  (46, ⟨.other, 1, [.nilFunc]⟩),
  (47, ⟨.other, 1, [.nilFunc]⟩),
  (48, ⟨.slice 55, 1, [.slice none 0 0]⟩),
  (49, ⟨.struct [(0, 3, 1), (1, 3, 1), (2, 3, 1), (3, 3, 1), (4, 3, 1)], 5, [.int .i64 0, .int .i64 0, .int .i64 0, .int .i64 0, .int .i64 0]⟩),
  (50, ⟨.struct [(0, 3, 1), (1, 3, 1), (2, 3, 1), (3, 3, 1), (4, 3, 1)], 5, [.int .i64 0, .int .i64 0, .int .i64 0, .int .i64 0, .int .i64 0]⟩),
  (51, ⟨.other, 1, [.nilFunc]⟩),
  (52, ⟨.other, 1, [.nilFunc]⟩),
  (53, ⟨.slice 50, 1, [.slice none 0 0]⟩),
  (54, ⟨.struct [(0, 3, 1), (1, 53, 1)], 2, [.int .i64 0, .slice none 0 0]⟩),
  (55, ⟨.struct [(0, 3, 1), (1, 53, 1)], 2, [.int .i64 0, .slice none 0 0]⟩),
  (57, ⟨.other, 1, [.nilFunc]⟩),
  (58, ⟨.slice 26, 1, [.slice none 0 0]⟩),
  (60, ⟨.other, 1, [.nilFunc]⟩),
  (62, ⟨.other, 1, [.nilFunc]⟩),
  (64, ⟨.other, 1, [.nilFunc]⟩),
  (65, ⟨.other, 1, [.nilFunc]⟩),
  (67, ⟨.other, 1, [.nilFunc]⟩),
  (68, ⟨.other, 1, [.nilFunc]⟩),
  (70, ⟨.other, 1, [.nilFunc]⟩),
  (72, ⟨.other, 1, [.nilFunc]⟩),
  (73, ⟨.other, 1, [.nilFunc]⟩),
  (74, ⟨.other, 1, [.nilFunc]⟩),
  (75, ⟨.other, 1, [.nilFunc]⟩),
  (76, ⟨.other, 1, [.nilFunc]⟩),
  (77, ⟨.other, 1, [.nilFunc]⟩),
  (78, ⟨.other, 1, [.nilFunc]⟩),
  (79, ⟨.slice 92, 1, [.slice none 0 0]⟩),
  (81, ⟨.other, 1, [.nilFunc]⟩),
  (83, ⟨.other, 1, [.nilFunc]⟩),
  (84, ⟨.other, 1, [.nilFunc]⟩),
  (85, ⟨.other, 1, [.nilFunc]⟩),
  (86, ⟨.slice 94, 1, [.slice none 0 0]⟩),
  (87, ⟨.other, 1, [.nilFunc]⟩),
  (88, ⟨.other, 1, [.nilFunc]⟩),
  (89, ⟨.slice 102, 1, [.slice none 0 0]⟩),
  (90, ⟨.other, 1, [.nilFunc]⟩),
  (91, ⟨.struct [(0, 3, 1), (1, 3, 1), (2, 3, 1), (3, 3, 1), (4, 3, 1), (5, 3, 1)], 6, [.int .i64 0, .int .i64 0, .int .i64 0, .int .i64 0, .int .i64 0, .int .i64 0]⟩),
  (92, ⟨.struct [(0, 3, 1), (1, 3, 1), (2, 3, 1), (3, 3, 1), (4, 3, 1), (5, 3, 1)], 6, [.int .i64 0, .int .i64 0, .int .i64 0, .int .i64 0, .int .i64 0, .int .i64 0]⟩),
  (93, ⟨.struct [(0, 3, 1), (1, 3, 1), (2, 3, 1), (3, 3, 1), (4, 92, 6)], 10, [.int .i64 0, .int .i64 0, .int .i64 0, .int .i64 0, .int .i64 0, .int .i64 0, .int .i64 0, .int .i64 0, .int .i64 0, .int .i64 0]⟩),
  (94, ⟨.struct [(0, 3, 1), (1, 3, 1), (2, 3, 1), (3, 3, 1), (4, 92, 6)], 10, [.int .i64 0, .int .i64 0, .int .i64 0, .int .i64 0, .int .i64 0, .int .i64 0, .int .i64 0, .int .i64 0, .int .i64 0, .int .i64 0]⟩),
  (95, ⟨.other, 1, [.nilFunc]⟩),
  (96, ⟨.other, 1, [.nilFunc]⟩),
  (97, ⟨.other, 1, [.nilFunc]⟩),
  (99, ⟨.other, 1, [.nilFunc]⟩),
  (101, ⟨.other, 1, [.nilFunc]⟩),
  (102, ⟨.arr 3 3 1, 3, [.int .i64 0, .int .i64 0, .int .i64 0]⟩),
  (103, ⟨.other, 1, [.nilFunc]⟩),
  (104, ⟨.struct [(0, 22, 1)], 1, [.slice none 0 0]⟩),
  (105, ⟨.struct [(0, 22, 1)], 1, [.slice none 0 0]⟩),
  (106, ⟨.other, 1, [.nilFunc]⟩),
  (107, ⟨.int .i64, 1, [.int .i64 0]⟩),
  (108, ⟨.other, 1, [.nilFunc]⟩),
  (109, ⟨.other, 1, [.nilFunc]⟩),
  (110, ⟨.other, 1, [.nilFunc]⟩),
  (111, ⟨.other, 1, [.nilFunc]⟩),
  (112, ⟨.other, 1, [.nilFunc]⟩),
  (113, ⟨.other, 1, [.nilFunc]⟩),
  (114, ⟨.other, 1, [.nilFunc]⟩),
  (115, ⟨.other, 1, [.nilFunc]⟩),
  (116, ⟨.other, 1, [.nilFunc]⟩),
  (117, ⟨.other, 1, [.nilFunc]⟩),
  (118, ⟨.other, 1, [.nilFunc]⟩),
  (119, ⟨.other, 1, [.nilFunc]⟩),
  (120, ⟨.other, 1, [.nilFunc]⟩),
  (121, ⟨.other, 1, [.nilFunc]⟩),
  (122, ⟨.other, 1, [.nilFunc]⟩),
  (123, ⟨.other, 1, [.nilFunc]⟩),
  (124, ⟨.other, 1, [.nilFunc]⟩),
  (125, ⟨.other, 1, [.nilFunc]⟩),
  (126, ⟨.other, 1, [.nilFunc]⟩),
  (127, ⟨.other, 1, [.nilFunc]⟩),
  (128, ⟨.other, 1, [.nilFunc]⟩),
  (129, ⟨.other, 1, [.nilFunc]⟩),
  (130, ⟨.other, 1, [.nilFunc]⟩),
  (131, ⟨.other, 1, [.nilFunc]⟩),
  (132, ⟨.other, 1, [.nilFunc]⟩),
  (133, ⟨.other, 1, [.nilFunc]⟩),
  (134, ⟨.other, 1, [.nilFunc]⟩),
  (135, ⟨.ptr 29, 1, [.pointer none]⟩),
  (136, ⟨.other, 1, [.nilFunc]⟩),
  (137, ⟨.other, 1, [.nilFunc]⟩),
  (138, ⟨.other, 1, [.nilFunc]⟩),
  (139, ⟨.other, 1, [.nilFunc]⟩),
  (140, ⟨.other, 1, [.nilFunc]⟩),
  (141, ⟨.other, 1, [.nilFunc]⟩),
  (142, ⟨.other, 1, [.nilFunc]⟩),
  (143, ⟨.other, 1, [.nilFunc]⟩),
  (144, ⟨.ptr 147, 1, [.pointer none]⟩),
  (145, ⟨.slice 5, 1, [.slice none 0 0]⟩),
  (146, ⟨.struct [(0, 144, 1), (1, 145, 1)], 2, [.pointer none, .slice none 0 0]⟩),
  (147, ⟨.struct [(0, 144, 1), (1, 145, 1)], 2, [.pointer none, .slice none 0 0]⟩),
  (148, ⟨.other, 1, [.nilFunc]⟩),
  (149, ⟨.other, 1, [.nilFunc]⟩),
  (150, ⟨.other, 1, [.nilFunc]⟩),
  (151, ⟨.other, 1, [.map none]⟩),
  (153, ⟨.other, 1, [.nilFunc]⟩),
  (154, ⟨.other, 1, [.nilFunc]⟩),
  (155, ⟨.other, 1, [.nilFunc]⟩),
  (156, ⟨.ptr 107, 1, [.pointer none]⟩),
  (157, ⟨.other, 1, [.nilFunc]⟩),
  (158, ⟨.other, 1, [.nilFunc]⟩),
  (159, ⟨.other, 1, [.map none]⟩),
  (160, ⟨.other, 1, [.nilFunc]⟩),
  (161, ⟨.other, 1, [.nilFunc]⟩),
  (162, ⟨.other, 1, [.nilFunc]⟩),
  (163, ⟨.other, 1, [.nilFunc]⟩),
  (164, ⟨.other, 1, [.nilFunc]⟩),
  (165, ⟨.other, 1, [.nilFunc]⟩),
  (166, ⟨.ptr 5, 1, [.pointer none]⟩),
  (167, ⟨.other, 1, [.nilFunc]⟩),
  (168, ⟨.other, 1, [.nilFunc]⟩),
  (169, ⟨.int .u64, 1, [.int .u64 0]⟩),
  (171, ⟨.int .u64, 1, [.int .u64 0]⟩),
  (174, ⟨.other, 1, [.nilFunc]⟩),
  (175, ⟨.iface, 1, [.nilIface]⟩),
  (176, ⟨.iface, 1, [.nilIface]⟩),
  (177, ⟨.other, 1, [.nilFunc]⟩),
  (178, ⟨.int .u8, 1, [.int .u8 0]⟩),
  (179, ⟨.other, 1, [.nilFunc]⟩),
  (180, ⟨.other, 1, [.nilFunc]⟩),
  (181, ⟨.other, 1, [.nilFunc]⟩),
  (182, ⟨.other, 1, [.nilFunc]⟩),
  (183, ⟨.other, 1, [.nilFunc]⟩),
  (184, ⟨.other, 1, [.nilFunc]⟩),
  (185, ⟨.other, 1, [.nilFunc]⟩),
  (186, ⟨.other, 1, [.nilFunc]⟩),
  (187, ⟨.other, 1, [.nilFunc]⟩),
  (188, ⟨.other, 1, [.nilFunc]⟩),
  (189, ⟨.other, 1, [.nilFunc]⟩),
  (190, ⟨.other, 1, [.nilFunc]⟩),
  (191, ⟨.int .i64, 1, [.int .i64 0]⟩),
  (193, ⟨.other, 1, [.nilFunc]⟩),
  (194, ⟨.other, 1, [.nilFunc]⟩),
  (195, ⟨.other, 1, [.nilFunc]⟩),
  (197, ⟨.other, 1, [.nilFunc]⟩),
  (198, ⟨.other, 1, [.nilFunc]⟩),
  (199, ⟨.int .u32, 1, [.int .u32 0]⟩),
  (200, ⟨.other, 1, [.nilFunc]⟩),
  (201, ⟨.int .u64, 1, [.int .u64 0]⟩),
  (202, ⟨.struct [(0, 17, 1)], 1, [.pointer none]⟩),
  (203, ⟨.struct [(0, 17, 1)], 1, [.pointer none]⟩),
  (204, ⟨.ptr 253, 1, [.pointer none]⟩),
  (205, ⟨.other, 1, [.nilFunc]⟩),
  (206, ⟨.other, 1, [.nilFunc]⟩),
  (207, ⟨.other, 1, [.nilFunc]⟩),
  (208, ⟨.iface, 1, [.nilIface]⟩),
  (210, ⟨.other, 1, [.nilFunc]⟩),
  (211, ⟨.iface, 1, [.nilIface]⟩),
  (212, ⟨.other, 1, [.nilFunc]⟩),
  (213, ⟨.iface, 1, [.nilIface]⟩),
  (214, ⟨.slice 34, 1, [.slice none 0 0]⟩),
  (215, ⟨.other, 1, [.nilFunc]⟩),
  (216, ⟨.other, 1, [.nilFunc]⟩),
  (217, ⟨.other, 1, [.nilFunc]⟩),
  (218, ⟨.other, 1, [.nilFunc]⟩),
  (219, ⟨.int .u64, 1, [.int .u64 0]⟩),
  (220, ⟨.other, 1, [.nilFunc]⟩),
  (221, ⟨.other, 1, [.nilFunc]⟩),
  (222, ⟨.other, 1, [.nilFunc]⟩),
  (223, ⟨.ptr 3, 1, [.pointer none]⟩),
  (224, ⟨.other, 1, [.nilFunc]⟩),
  (225, ⟨.other, 1, [.nilFunc]⟩),
  (226, ⟨.arr 24 5 1, 24, [.int .u8 0, .int .u8 0, .int .u8 0, .int .u8 0, .int .u8 0, .int .u8 0, .int .u8 0, .int .u8 0, .int .u8 0, .int .u8 0, .int .u8 0, .int .u8 0, .int .u8 0, .int .u8 0, .int .u8 0, .int .u8 0, .int .u8 0, .int .u8 0, .int .u8 0, .int .u8 0, .int .u8 0, .int .u8 0, .int .u8 0, .int .u8 0]⟩),
  (227, ⟨.other, 1, [.nilFunc]⟩),
  (229, ⟨.other, 1, [.nilFunc]⟩),
  (230, ⟨.ptr 219, 1, [.pointer none]⟩),
  (231, ⟨.other, 1, [.nilFunc]⟩),
  (232, ⟨.other, 1, [.nilFunc]⟩),
  (233, ⟨.arr 20 201 1, 20, [.int .u64 0, .int .u64 0, .int .u64 0, .int .u64 0, .int .u64 0, .int .u64 0, .int .u64 0, .int .u64 0, .int .u64 0, .int .u64 0, .int .u64 0, .int .u64 0, .int .u64 0, .int .u64 0, .int .u64 0, .int .u64 0, .int .u64 0, .int .u64 0, .int .u64 0, .int .u64 0]⟩),
  (234, ⟨.arr 65 5 1, 65, [.int .u8 0, .int .u8 0, .int .u8 0, .int .u8 0, .int .u8 0, .int .u8 0, .int .u8 0, .int .u8 0, .int .u8 0, .int .u8 0, .int .u8 0, .int .u8 0, .int .u8 0, .int .u8 0, .int .u8 0, .int .u8 0, .int .u8 0, .int .u8 0, .int .u8 0, .int .u8 0, .int .u8 0, .int .u8 0, .int .u8 0, .int .u8 0, .int .u8 0, .int .u8 0, .int .u8 0, .int .u8 0, .int .u8 0, .int .u8 0, .int .u8 0, .int .u8 0, .int .u8 0, .int .u8 0, .int .u8 0, .int .u8 0, .int .u8 0, .int .u8 0, .int .u8 0, .int .u8 0, .int .u8 0, .int .u8 0, .int .u8 0, .int .u8 0, .int .u8 0, .int .u8 0, .int .u8 0, .int .u8 0, .int .u8 0, .int .u8 0, .int .u8 0, .int .u8 0, .int .u8 0, .int .u8 0, .int .u8 0, .int .u8 0, .int .u8 0, .int .u8 0, .int .u8 0, .int .u8 0, .int .u8 0, .int .u8 0, .int .u8 0, .int .u8 0, .int .u8 0]⟩),
  (235, ⟨.arr 32 5 1, 32, [.int .u8 0, .int .u8 0, .int .u8 0, .int .u8 0, .int .u8 0, .int .u8 0, .int .u8 0, .int .u8 0, .int .u8 0, .int .u8 0, .int .u8 0, .int .u8 0, .int .u8 0, .int .u8 0, .int .u8 0, .int .u8 0, .int .u8 0, .int .u8 0, .int .u8 0, .int .u8 0, .int .u8 0, .int .u8 0, .int .u8 0, .int .u8 0, .int .u8 0, .int .u8 0, .int .u8 0, .int .u8 0, .int .u8 0, .int .u8 0, .int .u8 0, .int .u8 0]⟩),
  (236, ⟨.arr 64 5 1, 64, [.int .u8 0, .int .u8 0, .int .u8 0, .int .u8 0, .int .u8 0, .int .u8 0, .int .u8 0, .int .u8 0, .int .u8 0, .int .u8 0, .int .u8 0, .int .u8 0, .int .u8 0, .int .u8 0, .int .u8 0, .int .u8 0, .int .u8 0, .int .u8 0, .int .u8 0, .int .u8 0, .int .u8 0, .int .u8 0, .int .u8 0, .int .u8 0, .int .u8 0, .int .u8 0, .int .u8 0, .int .u8 0, .int .u8 0, .int .u8 0, .int .u8 0, .int .u8 0, .int .u8 0, .int .u8 0, .int .u8 0, .int .u8 0, .int .u8 0, .int .u8 0, .int .u8 0, .int .u8 0, .int .u8 0, .int .u8 0, .int .u8 0, .int .u8 0, .int .u8 0, .int .u8 0, .int .u8 0, .int .u8 0, .int .u8 0, .int .u8 0, .int .u8 0, .int .u8 0, .int .u8 0, .int .u8 0, .int .u8 0, .int .u8 0, .int .u8 0, .int .u8 0, .int .u8 0, .int .u8 0, .int .u8 0, .int .u8 0, .int .u8 0, .int .u8 0]⟩),
  (237, ⟨.struct [(0, 17, 1), (1, 17, 1), (2, 17, 1), (3, 9, 1)], 4, [.pointer none, .pointer none, .pointer none, .string (⟨#[]⟩ : ByteArray)]⟩),
  (238, ⟨.struct [(0, 17, 1), (1, 17, 1), (2, 17, 1), (3, 9, 1)], 4, [.pointer none, .pointer none, .pointer none, .string (⟨#[]⟩ : ByteArray)]⟩),
  (239, ⟨.arr 0 16 1, 0, []⟩),
  (242, ⟨.other, 1, [.nilFunc]⟩),
  (243, ⟨.other, 1, [.nilFunc]⟩),
  (244, ⟨.int .u8, 1, [.int .u8 0]⟩),
  (245, ⟨.other, 1, [.nilFunc]⟩),
  (246, ⟨.int .i32, 1, [.int .i32 0]⟩),
  (247, ⟨.int .i32, 1, [.int .i32 0]⟩),
  (248, ⟨.struct [(0, 12, 1), (1, 12, 1), (2, 199, 1), (3, 244, 1), (4, 5, 1), (5, 5, 1), (6, 178, 1), (7, 245, 1), (8, 166, 1), (9, 246, 1), (10, 247, 1)], 11, [.int .u64 0, .int .u64 0, .int .u32 0, .int .u8 0, .int .u8 0, .int .u8 0, .int .u8 0, .nilFunc, .pointer none, .int .i32 0, .int .i32 0]⟩),
  (249, ⟨.struct [(0, 12, 1), (1, 12, 1), (2, 199, 1), (3, 244, 1), (4, 5, 1), (5, 5, 1), (6, 178, 1), (7, 245, 1), (8, 166, 1), (9, 246, 1), (10, 247, 1)], 11, [.int .u64 0, .int .u64 0, .int .u32 0, .int .u8 0, .int .u8 0, .int .u8 0, .int .u8 0, .nilFunc, .pointer none, .int .i32 0, .int .i32 0]⟩),
  (250, ⟨.other, 1, [.nilFunc]⟩),
  (251, ⟨.other, 1, [.nilFunc]⟩),
  (252, ⟨.struct [(0, 9, 1), (1, 178, 1)], 2, [.string (⟨#[]⟩ : ByteArray), .int .u8 0]⟩),
  (253, ⟨.struct [(0, 9, 1), (1, 178, 1)], 2, [.string (⟨#[]⟩ : ByteArray), .int .u8 0]⟩),
  (254, ⟨.ptr 258, 1, [.pointer none]⟩),
  (255, ⟨.other, 1, [.nilFunc]⟩),
  (256, ⟨.int .u16, 1, [.int .u16 0]⟩),
  (257, ⟨.struct [(0, 246, 1), (1, 256, 1), (2, 256, 1), (3, 199, 1), (4, 199, 1)], 5, [.int .i32 0, .int .u16 0, .int .u16 0, .int .u32 0, .int .u32 0]⟩),
  (258, ⟨.struct [(0, 246, 1), (1, 256, 1), (2, 256, 1), (3, 199, 1), (4, 199, 1)], 5, [.int .i32 0, .int .u16 0, .int .u16 0, .int .u32 0, .int .u32 0]⟩),
  (259, ⟨.slice 262, 1, [.slice none 0 0]⟩),
  (260, ⟨.int .i32, 1, [.int .i32 0]⟩),
  (261, ⟨.struct [(0, 246, 1), (1, 247, 1), (2, 260, 1), (3, 260, 1)], 4, [.int .i32 0, .int .i32 0, .int .i32 0, .int .i32 0]⟩),
  (262, ⟨.struct [(0, 246, 1), (1, 247, 1), (2, 260, 1), (3, 260, 1)], 4, [.int .i32 0, .int .i32 0, .int .i32 0, .int .i32 0]⟩),
  (263, ⟨.ptr 34, 1, [.pointer none]⟩)]
theorem ti_1 : TI.ask PP 1 ⟨.other, 1, [.nilFunc]⟩ := And.intro (by (show _ = _); kernel_rfl) (by (show _ = _); kernel_rfl)
theorem ti_2 : TI.ask PP 2 ⟨.int .i64, 1, [.int .i64 0]⟩ := And.intro (by (show _ = _); kernel_rfl) (by (show _ = _); kernel_rfl)
theorem ti_3 : TI.ask PP 3 ⟨.int .i64, 1, [.int .i64 0]⟩ := And.intro (by (show _ = _); kernel_rfl) (by (show _ = _); kernel_rfl)
theorem ti_4 : TI.ask PP 4 ⟨.bool, 1, [.bool false]⟩ := And.intro (by (show _ = _); kernel_rfl) (by (show _ = _); kernel_rfl)
theorem ti_5 : TI.ask PP 5 ⟨.int .u8, 1, [.int .u8 0]⟩ := And.intro (by (show _ = _); kernel_rfl) (by (show _ = _); kernel_rfl)
theorem ti_6 : TI.ask PP 6 ⟨.int .u8, 1, [.int .u8 0]⟩ := And.intro (by (show _ = _); kernel_rfl) (by (show _ = _); kernel_rfl)
theorem ti_7 : TI.ask PP 7 ⟨.struct [(0, 2, 1), (1, 3, 1), (2, 4, 1), (3, 6, 1)], 4, [.int .i64 0, .int .i64 0, .bool false, .int .u8 0]⟩ := And.intro (by (show _ = _); kernel_rfl) (And.intro (by (show _ = _); kernel_rfl) (by (show _ = _); kernel_rfl))
theorem ti_8 : TI.ask PP 8 ⟨.struct [(0, 2, 1), (1, 3, 1), (2, 4, 1), (3, 6, 1)], 4, [.int .i64 0, .int .i64 0, .bool false, .int .u8 0]⟩ := And.intro (by (show _ = _); kernel_rfl) (And.intro (by (show _ = _); kernel_rfl) (by (show _ = _); kernel_rfl))
theorem ti_9 : TI.ask PP 9 ⟨.str, 1, [.string (⟨#[]⟩ : ByteArray)]⟩ := And.intro (by (show _ = _); kernel_rfl) (by (show _ = _); kernel_rfl)
theorem ti_10 : TI.ask PP 10 ⟨.str, 1, [.string (⟨#[]⟩ : ByteArray)]⟩ := And.intro (by (show _ = _); kernel_rfl) (by (show _ = _); kernel_rfl)
theorem ti_11 : TI.ask PP 11 ⟨.str, 1, [.string (⟨#[]⟩ : ByteArray)]⟩ := And.intro (by (show _ = _); kernel_rfl) (by (show _ = _); kernel_rfl)
theorem ti_12 : TI.ask PP 12 ⟨.int .u64, 1, [.int .u64 0]⟩ := And.intro (by (show _ = _); kernel_rfl) (by (show _ = _); kernel_rfl)
theorem ti_13 : TI.ask PP 13 ⟨.struct [(0, 9, 1), (1, 12, 1)], 2, [.string (⟨#[]⟩ : ByteArray), .int .u64 0]⟩ := And.intro (by (show _ = _); kernel_rfl) (And.intro (by (show _ = _); kernel_rfl) (by (show _ = _); kernel_rfl))
theorem ti_14 : TI.ask PP 14 ⟨.struct [(0, 9, 1), (1, 12, 1)], 2, [.string (⟨#[]⟩ : ByteArray), .int .u64 0]⟩ := And.intro (by (show _ = _); kernel_rfl) (And.intro (by (show _ = _); kernel_rfl) (by (show _ = _); kernel_rfl))
theorem ti_15 : TI.ask PP 15 ⟨.ptr 238, 1, [.pointer none]⟩ := And.intro (by (show _ = _); kernel_rfl) (by (show _ = _); kernel_rfl)
theorem ti_16 : TI.ask PP 16 ⟨.ptr 241, 1, [.pointer none]⟩ := And.intro (by (show _ = _); kernel_rfl) (by (show _ = _); kernel_rfl)
theorem ti_17 : TI.ask PP 17 ⟨.ptr 249, 1, [.pointer none]⟩ := And.intro (by (show _ = _); kernel_rfl) (by (show _ = _); kernel_rfl)
theorem ti_18 : TI.ask PP 18 ⟨.struct [(0, 17, 1)], 1, [.pointer none]⟩ := And.intro (by (show _ = _); kernel_rfl) (And.intro (by (show _ = _); kernel_rfl) (by (show _ = _); kernel_rfl))
theorem ti_19 : TI.ask PP 19 ⟨.struct [(0, 17, 1)], 1, [.pointer none]⟩ := And.intro (by (show _ = _); kernel_rfl) (And.intro (by (show _ = _); kernel_rfl) (by (show _ = _); kernel_rfl))
theorem ti_20 : TI.ask PP 20 ⟨.iface, 1, [.nilIface]⟩ := And.intro (by (show _ = _); kernel_rfl) (by (show _ = _); kernel_rfl)
theorem ti_21 : TI.ask PP 21 ⟨.int .i32, 1, [.int .i32 0]⟩ := And.intro (by (show _ = _); kernel_rfl) (by (show _ = _); kernel_rfl)
theorem ti_22 : TI.ask PP 22 ⟨.slice 29, 1, [.slice none 0 0]⟩ := And.intro (by (show _ = _); kernel_rfl) (by (show _ = _); kernel_rfl)
theorem ti_23 : TI.ask PP 23 ⟨.slice 27, 1, [.slice none 0 0]⟩ := And.intro (by (show _ = _); kernel_rfl) (by (show _ = _); kernel_rfl)
theorem ti_24 : TI.ask PP 24 ⟨.ptr 105, 1, [.pointer none]⟩ := And.intro (by (show _ = _); kernel_rfl) (by (show _ = _); kernel_rfl)
theorem ti_25 : TI.ask PP 25 ⟨.other, 1, [.nilFunc]⟩ := And.intro (by (show _ = _); kernel_rfl) (by (show _ = _); kernel_rfl)
theorem ti_26 : TI.ask PP 26 ⟨.arr 2 3 1, 2, [.int .i64 0, .int .i64 0]⟩ := And.intro (by (show _ = _); kernel_rfl) (And.intro (by (show _ = _); kernel_rfl) (by (show _ = _); kernel_rfl))
theorem ti_27 : TI.ask PP 27 ⟨.slice 3, 1, [.slice none 0 0]⟩ := And.intro (by (show _ = _); kernel_rfl) (by (show _ = _); kernel_rfl)
theorem ti_28 : TI.ask PP 28 ⟨.struct [(0, 3, 1), (1, 3, 1), (2, 3, 1), (3, 3, 1), (4, 3, 1), (5, 3, 1), (6, 3, 1), (7, 3, 1)], 8, [.int .i64 0, .int .i64 0, .int .i64 0, .int .i64 0, .int .i64 0, .int .i64 0, .int .i64 0, .int .i64 0]⟩ := And.intro (by (show _ = _); kernel_rfl) (And.intro (by (show _ = _); kernel_rfl) (by (show _ = _); kernel_rfl))
theorem ti_29 : TI.ask PP 29 ⟨.struct [(0, 3, 1), (1, 3, 1), (2, 3, 1), (3, 3, 1), (4, 3, 1), (5, 3, 1), (6, 3, 1), (7, 3, 1)], 8, [.int .i64 0, .int .i64 0, .int .i64 0, .int .i64 0, .int .i64 0, .int .i64 0, .int .i64 0, .int .i64 0]⟩ := And.intro (by (show _ = _); kernel_rfl) (And.intro (by (show _ = _); kernel_rfl) (by (show _ = _); kernel_rfl))
theorem ti_31 : TI.ask PP 31 ⟨.other, 1, [.nilFunc]⟩ := And.intro (by (show _ = _); kernel_rfl) (by (show _ = _); kernel_rfl)
theorem ti_32 : TI.ask PP 32 ⟨.other, 1, [.nilFunc]⟩ := And.intro (by (show _ = _); kernel_rfl) (by (show _ = _); kernel_rfl)
theorem ti_33 : TI.ask PP 33 ⟨.iface, 1, [.nilIface]⟩ := And.intro (by (show _ = _); kernel_rfl) (by (show _ = _); kernel_rfl)
theorem ti_34 : TI.ask PP 34 ⟨.iface, 1, [.nilIface]⟩ := And.intro (by (show _ = _); kernel_rfl) (by (show _ = _); kernel_rfl)
theorem ti_35 : TI.ask PP 35 ⟨.other, 1, [.nilFunc]⟩ := And.intro (by (show _ = _); kernel_rfl) (by (show _ = _); kernel_rfl)
theorem ti_36 : TI.ask PP 36 ⟨.other, 1, [.nilFunc]⟩ := And.intro (by (show _ = _); kernel_rfl) (by (show _ = _); kernel_rfl)
theorem ti_37 : TI.ask PP 37 ⟨.other, 1, [.nilFunc]⟩ := And.intro (by (show _ = _); kernel_rfl) (by (show _ = _); kernel_rfl)
theorem ti_39 : TI.ask PP 39 ⟨.other, 1, [.nilFunc]⟩ := And.intro (by (show _ = _); kernel_rfl) (by (show _ = _); kernel_rfl)
theorem ti_40 : TI.ask PP 40 ⟨.other, 1, [.nilFunc]⟩ := And.intro (by (show _ = _); kernel_rfl) (by (show _ = _); kernel_rfl)
theorem ti_42 : TI.ask PP 42 ⟨.other, 1, [.nilFunc]⟩ := And.intro (by (show _ = _); kernel_rfl) (by (show _ = _); kernel_rfl)
theorem ti_44 : TI.ask PP 44 ⟨.other, 1, [.nilFunc]⟩ := And.intro (by (show _ = _); kernel_rfl) (by (show _ = _); kernel_rfl)
theorem ti_45 : TI.ask PP 45 ⟨.other, 1, [.nilFunc]⟩ := And.intro (by (show _ = _); kernel_rfl) (by (show _ = _); kernel_rfl)
theorem ti_46 : TI.ask PP 46 ⟨.other, 1, [.nilFunc]⟩ := And.intro (by (show _ = _); kernel_rfl) (by (show _ = _); kernel_rfl)
theorem ti_47 : TI.ask PP 47 ⟨.other, 1, [.nilFunc]⟩ := And.intro (by (show _ = _); kernel_rfl) (by (show _ = _); kernel_rfl)
theorem ti_48 : TI.ask PP 48 ⟨.slice 55, 1, [.slice none 0 0]⟩ := And.intro (by (show _ = _); kernel_rfl) (by (show _ = _); kernel_rfl)
theorem ti_49 : TI.ask PP 49 ⟨.struct [(0, 3, 1), (1, 3, 1), (2, 3, 1), (3, 3, 1), (4, 3, 1)], 5, [.int .i64 0, .int .i64 0, .int .i64 0, .int .i64 0, .int .i64 0]⟩ := And.intro (by (show _ = _); kernel_rfl) (And.intro (by (show _ = _); kernel_rfl) (by (show _ = _); kernel_rfl))
theorem ti_50 : TI.ask PP 50 ⟨.struct [(0, 3, 1), (1, 3, 1), (2, 3, 1), (3, 3, 1), (4, 3, 1)], 5, [.int .i64 0, .int .i64 0, .int .i64 0, .int .i64 0, .int .i64 0]⟩ := And.intro (by (show _ = _); kernel_rfl) (And.intro (by (show _ = _); kernel_rfl) (by (show _ = _); kernel_rfl))
theorem ti_51 : TI.ask PP 51 ⟨.other, 1, [.nilFunc]⟩ := And.intro (by (show _ = _); kernel_rfl) (by (show _ = _); kernel_rfl)
theorem ti_52 : TI.ask PP 52 ⟨.other, 1, [.nilFunc]⟩ := And.intro (by (show _ = _); kernel_rfl) (by (show _ = _); kernel_rfl)
theorem ti_53 : TI.ask PP 53 ⟨.slice 50, 1, [.slice none 0 0]⟩ := And.intro (by (show _ = _); kernel_rfl) (by (show _ = _); kernel_rfl)
theorem ti_54 : TI.ask PP 54 ⟨.struct [(0, 3, 1), (1, 53, 1)], 2, [.int .i64 0, .slice none 0 0]⟩ := And.intro (by (show _ = _); kernel_rfl) (And.intro (by (show _ = _); kernel_rfl) (by (show _ = _); kernel_rfl))
theorem ti_55 : TI.ask PP 55 ⟨.struct [(0, 3, 1), (1, 53, 1)], 2, [.int .i64 0, .slice none 0 0]⟩ := And.intro (by (show _ = _); kernel_rfl) (And.intro (by (show _ = _); kernel_rfl) (by (show _ = _); kernel_rfl))
theorem ti_57 : TI.ask PP 57 ⟨.other, 1, [.nilFunc]⟩ := And.intro (by (show _ = _); kernel_rfl) (by (show _ = _); kernel_rfl)
theorem ti_58 : TI.ask PP 58 ⟨.slice 26, 1, [.slice none 0 0]⟩ := And.intro (by (show _ = _); kernel_rfl) (by (show _ = _); kernel_rfl)
theorem ti_60 : TI.ask PP 60 ⟨.other, 1, [.nilFunc]⟩ := And.intro (by (show _ = _); kernel_rfl) (by (show _ = _); kernel_rfl)
theorem ti_62 : TI.ask PP 62 ⟨.other, 1, [.nilFunc]⟩ := And.intro (by (show _ = _); kernel_rfl) (by (show _ = _); kernel_rfl)
theorem ti_64 : TI.ask PP 64 ⟨.other, 1, [.nilFunc]⟩ := And.intro (by (show _ = _); kernel_rfl) (by (show _ = _); kernel_rfl)
theorem ti_65 : TI.ask PP 65 ⟨.other, 1, [.nilFunc]⟩ := And.intro (by (show _ = _); kernel_rfl) (by (show _ = _); kernel_rfl)
theorem ti_67 : TI.ask PP 67 ⟨.other, 1, [.nilFunc]⟩ := And.intro (by (show _ = _); kernel_rfl) (by (show _ = _); kernel_rfl)
theorem ti_68 : TI.ask PP 68 ⟨.other, 1, [.nilFunc]⟩ := And.intro (by (show _ = _); kernel_rfl) (by (show _ = _); kernel_rfl)
theorem ti_70 : TI.ask PP 70 ⟨.other, 1, [.nilFunc]⟩ := And.intro (by (show _ = _); kernel_rfl) (by (show _ = _); kernel_rfl)
theorem ti_72 : TI.ask PP 72 ⟨.other, 1, [.nilFunc]⟩ := And.intro (by (show _ = _); kernel_rfl) (by (show _ = _); kernel_rfl)
theorem ti_73 : TI.ask PP 73 ⟨.other, 1, [.nilFunc]⟩ := And.intro (by (show _ = _); kernel_rfl) (by (show _ = _); kernel_rfl)
theorem ti_74 : TI.ask PP 74 ⟨.other, 1, [.nilFunc]⟩ := And.intro (by (show _ = _); kernel_rfl) (by (show _ = _); kernel_rfl)
theorem ti_75 : TI.ask PP 75 ⟨.other, 1, [.nilFunc]⟩ := And.intro (by (show _ = _); kernel_rfl) (by (show _ = _); kernel_rfl)
theorem ti_76 : TI.ask PP 76 ⟨.other, 1, [.nilFunc]⟩ := And.intro (by (show _ = _); kernel_rfl) (by (show _ = _); kernel_rfl)
theorem ti_77 : TI.ask PP 77 ⟨.other, 1, [.nilFunc]⟩ := And.intro (by (show _ = _); kernel_rfl) (by (show _ = _); kernel_rfl)
theorem ti_78 : TI.ask PP 78 ⟨.other, 1, [.nilFunc]⟩ := And.intro (by (show _ = _); kernel_rfl) (by (show _ = _); kernel_rfl)
theorem ti_79 : TI.ask PP 79 ⟨.slice 92, 1, [.slice none 0 0]⟩ := And.intro (by (show _ = _); kernel_rfl) (by (show _ = _); kernel_rfl)
theorem ti_81 : TI.ask PP 81 ⟨.other, 1, [.nilFunc]⟩ := And.intro (by (show _ = _); kernel_rfl) (by (show _ = _); kernel_rfl)
theorem ti_83 : TI.ask PP 83 ⟨.other, 1, [.nilFunc]⟩ := And.intro (by (show _ = _); kernel_rfl) (by (show _ = _); kernel_rfl)
theorem ti_84 : TI.ask PP 84 ⟨.other, 1, [.nilFunc]⟩ := And.intro (by (show _ = _); kernel_rfl) (by (show _ = _); kernel_rfl)
theorem ti_85 : TI.ask PP 85 ⟨.other, 1, [.nilFunc]⟩ := And.intro (by (show _ = _); kernel_rfl) (by (show _ = _); kernel_rfl)
theorem ti_86 : TI.ask PP 86 ⟨.slice 94, 1, [.slice none 0 0]⟩ := And.intro (by (show _ = _); kernel_rfl) (by (show _ = _); kernel_rfl)
theorem ti_87 : TI.ask PP 87 ⟨.other, 1, [.nilFunc]⟩ := And.intro (by (show _ = _); kernel_rfl) (by (show _ = _); kernel_rfl)
theorem ti_88 : TI.ask PP 88 ⟨.other, 1, [.nilFunc]⟩ := And.intro (by (show _ = _); kernel_rfl) (by (show _ = _); kernel_rfl)
theorem ti_89 : TI.ask PP 89 ⟨.slice 102, 1, [.slice none 0 0]⟩ := And.intro (by (show _ = _); kernel_rfl) (by (show _ = _); kernel_rfl)
theorem ti_90 : TI.ask PP 90 ⟨.other, 1, [.nilFunc]⟩ := And.intro (by (show _ = _); kernel_rfl) (by (show _ = _); kernel_rfl)
theorem ti_91 : TI.ask PP 91 ⟨.struct [(0, 3, 1), (1, 3, 1), (2, 3, 1), (3, 3, 1), (4, 3, 1), (5, 3, 1)], 6, [.int .i64 0, .int .i64 0, .int .i64 0, .int .i64 0, .int .i64 0, .int .i64 0]⟩ := And.intro (by (show _ = _); kernel_rfl) (And.intro (by (show _ = _); kernel_rfl) (by (show _ = _); kernel_rfl))
theorem ti_92 : TI.ask PP 92 ⟨.struct [(0, 3, 1), (1, 3, 1), (2, 3, 1), (3, 3, 1), (4, 3, 1), (5, 3, 1)], 6, [.int .i64 0, .int .i64 0, .int .i64 0, .int .i64 0, .int .i64 0, .int .i64 0]⟩ := And.intro (by (show _ = _); kernel_rfl) (And.intro (by (show _ = _); kernel_rfl) (by (show _ = _); kernel_rfl))
theorem ti_93 : TI.ask PP 93 ⟨.struct [(0, 3, 1), (1, 3, 1), (2, 3, 1), (3, 3, 1), (4, 92, 6)], 10, [.int .i64 0, .int .i64 0, .int .i64 0, .int .i64 0, .int .i64 0, .int .i64 0, .int .i64 0, .int .i64 0, .int .i64 0, .int .i64 0]⟩ := And.intro (by (show _ = _); kernel_rfl) (And.intro (by (show _ = _); kernel_rfl) (by (show _ = _); kernel_rfl))
theorem ti_94 : TI.ask PP 94 ⟨.struct [(0, 3, 1), (1, 3, 1), (2, 3, 1), (3, 3, 1), (4, 92, 6)], 10, [.int .i64 0, .int .i64 0, .int .i64 0, .int .i64 0, .int .i64 0, .int .i64 0, .int .i64 0, .int .i64 0, .int .i64 0, .int .i64 0]⟩ := And.intro (by (show _ = _); kernel_rfl) (And.intro (by (show _ = _); kernel_rfl) (by (show _ = _); kernel_rfl))
theorem ti_95 : TI.ask PP 95 ⟨.other, 1, [.nilFunc]⟩ := And.intro (by (show _ = _); kernel_rfl) (by (show _ = _); kernel_rfl)
theorem ti_96 : TI.ask PP 96 ⟨.other, 1, [.nilFunc]⟩ := And.intro (by (show _ = _); kernel_rfl) (by (show _ = _); kernel_rfl)
theorem ti_97 : TI.ask PP 97 ⟨.other, 1, [.nilFunc]⟩ := And.intro (by (show _ = _); kernel_rfl) (by (show _ = _); kernel_rfl)
theorem ti_99 : TI.ask PP 99 ⟨.other, 1, [.nilFunc]⟩ := And.intro (by (show _ = _); kernel_rfl) (by (show _ = _); kernel_rfl)
theorem ti_101 : TI.ask PP 101 ⟨.other, 1, [.nilFunc]⟩ := And.intro (by (show _ = _); kernel_rfl) (by (show _ = _); kernel_rfl)
theorem ti_102 : TI.ask PP 102 ⟨.arr 3 3 1, 3, [.int .i64 0, .int .i64 0, .int .i64 0]⟩ := And.intro (by (show _ = _); kernel_rfl) (And.intro (by (show _ = _); kernel_rfl) (by (show _ = _); kernel_rfl))
theorem ti_103 : TI.ask PP 103 ⟨.other, 1, [.nilFunc]⟩ := And.intro (by (show _ = _); kernel_rfl) (by (show _ = _); kernel_rfl)
theorem ti_104 : TI.ask PP 104 ⟨.struct [(0, 22, 1)], 1, [.slice none 0 0]⟩ := And.intro (by (show _ = _); kernel_rfl) (And.intro (by (show _ = _); kernel_rfl) (by (show _ = _); kernel_rfl))
theorem ti_105 : TI.ask PP 105 ⟨.struct [(0, 22, 1)], 1, [.slice none 0 0]⟩ := And.intro (by (show _ = _); kernel_rfl) (And.intro (by (show _ = _); kernel_rfl) (by (show _ = _); kernel_rfl))
theorem ti_106 : TI.ask PP 106 ⟨.other, 1, [.nilFunc]⟩ := And.intro (by (show _ = _); kernel_rfl) (by (show _ = _); kernel_rfl)
theorem ti_107 : TI.ask PP 107 ⟨.int .i64, 1, [.int .i64 0]⟩ := And.intro (by (show _ = _); kernel_rfl) (by (show _ = _); kernel_rfl)
theorem ti_108 : TI.ask PP 108 ⟨.other, 1, [.nilFunc]⟩ := And.intro (by (show _ = _); kernel_rfl) (by (show _ = _); kernel_rfl)
theorem ti_109 : TI.ask PP 109 ⟨.other, 1, [.nilFunc]⟩ := And.intro (by (show _ = _); kernel_rfl) (by (show _ = _); kernel_rfl)
theorem ti_110 : TI.ask PP 110 ⟨.other, 1, [.nilFunc]⟩ := And.intro (by (show _ = _); kernel_rfl) (by (show _ = _); kernel_rfl)
theorem ti_111 : TI.ask PP 111 ⟨.other, 1, [.nilFunc]⟩ := And.intro (by (show _ = _); kernel_rfl) (by (show _ = _); kernel_rfl)
theorem ti_112 : TI.ask PP 112 ⟨.other, 1, [.nilFunc]⟩ := And.intro (by (show _ = _); kernel_rfl) (by (show _ = _); kernel_rfl)
theorem ti_113 : TI.ask PP 113 ⟨.other, 1, [.nilFunc]⟩ := And.intro (by (show _ = _); kernel_rfl) (by (show _ = _); kernel_rfl)
theorem ti_114 : TI.ask PP 114 ⟨.other, 1, [.nilFunc]⟩ := And.intro (by (show _ = _); kernel_rfl) (by (show _ = _); kernel_rfl)
theorem ti_115 : TI.ask PP 115 ⟨.other, 1, [.nilFunc]⟩ := And.intro (by (show _ = _); kernel_rfl) (by (show _ = _); kernel_rfl)
theorem ti_116 : TI.ask PP 116 ⟨.other, 1, [.nilFunc]⟩ := And.intro (by (show _ = _); kernel_rfl) (by (show _ = _); kernel_rfl)
theorem ti_117 : TI.ask PP 117 ⟨.other, 1, [.nilFunc]⟩ := And.intro (by (show _ = _); kernel_rfl) (by (show _ = _); kernel_rfl)
theorem ti_118 : TI.ask PP 118 ⟨.other, 1, [.nilFunc]⟩ := And.intro (by (show _ = _); kernel_rfl) (by (show _ = _); kernel_rfl)
theorem ti_119 : TI.ask PP 119 ⟨.other, 1, [.nilFunc]⟩ := And.intro (by (show _ = _); kernel_rfl) (by (show _ = _); kernel_rfl)
theorem ti_120 : TI.ask PP 120 ⟨.other, 1, [.nilFunc]⟩ := And.intro (by (show _ = _); kernel_rfl) (by (show _ = _); kernel_rfl)
theorem ti_121 : TI.ask PP 121 ⟨.other, 1, [.nilFunc]⟩ := And.intro (by (show _ = _); kernel_rfl) (by (show _ = _); kernel_rfl)
theorem ti_122 : TI.ask PP 122 ⟨.other, 1, [.nilFunc]⟩ := And.intro (by (show _ = _); kernel_rfl) (by (show _ = _); kernel_rfl)
theorem ti_123 : TI.ask PP 123 ⟨.other, 1, [.nilFunc]⟩ := And.intro (by (show _ = _); kernel_rfl) (by (show _ = _); kernel_rfl)
theorem ti_124 : TI.ask PP 124 ⟨.other, 1, [.nilFunc]⟩ := And.intro (by (show _ = _); kernel_rfl) (by (show _ = _); kernel_rfl)
theorem ti_125 : TI.ask PP 125 ⟨.other, 1, [.nilFunc]⟩ := And.intro (by (show _ = _); kernel_rfl) (by (show _ = _); kernel_rfl)
theorem ti_126 : TI.ask PP 126 ⟨.other, 1, [.nilFunc]⟩ := And.intro (by (show _ = _); kernel_rfl) (by (show _ = _); kernel_rfl)
theorem ti_127 : TI.ask PP 127 ⟨.other, 1, [.nilFunc]⟩ := And.intro (by (show _ = _); kernel_rfl) (by (show _ = _); kernel_rfl)
theorem ti_128 : TI.ask PP 128 ⟨.other, 1, [.nilFunc]⟩ := And.intro (by (show _ = _); kernel_rfl) (by (show _ = _); kernel_rfl)
theorem ti_129 : TI.ask PP 129 ⟨.other, 1, [.nilFunc]⟩ := And.intro (by (show _ = _); kernel_rfl) (by (show _ = _); kernel_rfl)
theorem ti_130 : TI.ask PP 130 ⟨.other, 1, [.nilFunc]⟩ := And.intro (by (show _ = _); kernel_rfl) (by (show _ = _); kernel_rfl)
theorem ti_131 : TI.ask PP 131 ⟨.other, 1, [.nilFunc]⟩ := And.intro (by (show _ = _); kernel_rfl) (by (show _ = _); kernel_rfl)
theorem ti_132 : TI.ask PP 132 ⟨.other, 1, [.nilFunc]⟩ := And.intro (by (show _ = _); kernel_rfl) (by (show _ = _); kernel_rfl)
theorem ti_133 : TI.ask PP 133 ⟨.other, 1, [.nilFunc]⟩ := And.intro (by (show _ = _); kernel_rfl) (by (show _ = _); kernel_rfl)
theorem ti_134 : TI.ask PP 134 ⟨.other, 1, [.nilFunc]⟩ := And.intro (by (show _ = _); kernel_rfl) (by (show _ = _); kernel_rfl)
theorem ti_135 : TI.ask PP 135 ⟨.ptr 29, 1, [.pointer none]⟩ := And.intro (by (show _ = _); kernel_rfl) (by (show _ = _); kernel_rfl)
theorem ti_136 : TI.ask PP 136 ⟨.other, 1, [.nilFunc]⟩ := And.intro (by (show _ = _); kernel_rfl) (by (show _ = _); kernel_rfl)
theorem ti_137 : TI.ask PP 137 ⟨.other, 1, [.nilFunc]⟩ := And.intro (by (show _ = _); kernel_rfl) (by (show _ = _); kernel_rfl)
theorem ti_138 : TI.ask PP 138 ⟨.other, 1, [.nilFunc]⟩ := And.intro (by (show _ = _); kernel_rfl) (by (show _ = _); kernel_rfl)
theorem ti_139 : TI.ask PP 139 ⟨.other, 1, [.nilFunc]⟩ := And.intro (by (show _ = _); kernel_rfl) (by (show _ = _); kernel_rfl)
theorem ti_140 : TI.ask PP 140 ⟨.other, 1, [.nilFunc]⟩ := And.intro (by (show _ = _); kernel_rfl) (by (show _ = _); kernel_rfl)
theorem ti_141 : TI.ask PP 141 ⟨.other, 1, [.nilFunc]⟩ := And.intro (by (show _ = _); kernel_rfl) (by (show _ = _); kernel_rfl)
theorem ti_142 : TI.ask PP 142 ⟨.other, 1, [.nilFunc]⟩ := And.intro (by (show _ = _); kernel_rfl) (by (show _ = _); kernel_rfl)
theorem ti_143 : TI.ask PP 143 ⟨.other, 1, [.nilFunc]⟩ := And.intro (by (show _ = _); kernel_rfl) (by (show _ = _); kernel_rfl)
theorem ti_144 : TI.ask PP 144 ⟨.ptr 147, 1, [.pointer none]⟩ := And.intro (by (show _ = _); kernel_rfl) (by (show _ = _); kernel_rfl)
theorem ti_145 : TI.ask PP 145 ⟨.slice 5, 1, [.slice none 0 0]⟩ := And.intro (by (show _ = _); kernel_rfl) (by (show _ = _); kernel_rfl)
theorem ti_146 : TI.ask PP 146 ⟨.struct [(0, 144, 1), (1, 145, 1)], 2, [.pointer none, .slice none 0 0]⟩ := And.intro (by (show _ = _); kernel_rfl) (And.intro (by (show _ = _); kernel_rfl) (by (show _ = _); kernel_rfl))
theorem ti_147 : TI.ask PP 147 ⟨.struct [(0, 144, 1), (1, 145, 1)], 2, [.pointer none, .slice none 0 0]⟩ := And.intro (by (show _ = _); kernel_rfl) (And.intro (by (show _ = _); kernel_rfl) (by (show _ = _); kernel_rfl))
theorem ti_148 : TI.ask PP 148 ⟨.other, 1, [.nilFunc]⟩ := And.intro (by (show _ = _); kernel_rfl) (by (show _ = _); kernel_rfl)
theorem ti_149 : TI.ask PP 149 ⟨.other, 1, [.nilFunc]⟩ := And.intro (by (show _ = _); kernel_rfl) (by (show _ = _); kernel_rfl)
theorem ti_150 : TI.ask PP 150 ⟨.other, 1, [.nilFunc]⟩ := And.intro (by (show _ = _); kernel_rfl) (by (show _ = _); kernel_rfl)
theorem ti_151 : TI.ask PP 151 ⟨.other, 1, [.map none]⟩ := And.intro (by (show _ = _); kernel_rfl) (by (show _ = _); kernel_rfl)
theorem ti_153 : TI.ask PP 153 ⟨.other, 1, [.nilFunc]⟩ := And.intro (by (show _ = _); kernel_rfl) (by (show _ = _); kernel_rfl)
theorem ti_154 : TI.ask PP 154 ⟨.other, 1, [.nilFunc]⟩ := And.intro (by (show _ = _); kernel_rfl) (by (show _ = _); kernel_rfl)
theorem ti_155 : TI.ask PP 155 ⟨.other, 1, [.nilFunc]⟩ := And.intro (by (show _ = _); kernel_rfl) (by (show _ = _); kernel_rfl)
theorem ti_156 : TI.ask PP 156 ⟨.ptr 107, 1, [.pointer none]⟩ := And.intro (by (show _ = _); kernel_rfl) (by (show _ = _); kernel_rfl)
theorem ti_157 : TI.ask PP 157 ⟨.other, 1, [.nilFunc]⟩ := And.intro (by (show _ = _); kernel_rfl) (by (show _ = _); kernel_rfl)
theorem ti_158 : TI.ask PP 158 ⟨.other, 1, [.nilFunc]⟩ := And.intro (by (show _ = _); kernel_rfl) (by (show _ = _); kernel_rfl)
theorem ti_159 : TI.ask PP 159 ⟨.other, 1, [.map none]⟩ := And.intro (by (show _ = _); kernel_rfl) (by (show _ = _); kernel_rfl)
theorem ti_160 : TI.ask PP 160 ⟨.other, 1, [.nilFunc]⟩ := And.intro (by (show _ = _); kernel_rfl) (by (show _ = _); kernel_rfl)
theorem ti_161 : TI.ask PP 161 ⟨.other, 1, [.nilFunc]⟩ := And.intro (by (show _ = _); kernel_rfl) (by (show _ = _); kernel_rfl)
theorem ti_162 : TI.ask PP 162 ⟨.other, 1, [.nilFunc]⟩ := And.intro (by (show _ = _); kernel_rfl) (by (show _ = _); kernel_rfl)
theorem ti_163 : TI.ask PP 163 ⟨.other, 1, [.nilFunc]⟩ := And.intro (by (show _ = _); kernel_rfl) (by (show _ = _); kernel_rfl)
theorem ti_164 : TI.ask PP 164 ⟨.other, 1, [.nilFunc]⟩ := And.intro (by (show _ = _); kernel_rfl) (by (show _ = _); kernel_rfl)
theorem ti_165 : TI.ask PP 165 ⟨.other, 1, [.nilFunc]⟩ := And.intro (by (show _ = _); kernel_rfl) (by (show _ = _); kernel_rfl)
theorem ti_166 : TI.ask PP 166 ⟨.ptr 5, 1, [.pointer none]⟩ := And.intro (by (show _ = _); kernel_rfl) (by (show _ = _); kernel_rfl)
theorem ti_167 : TI.ask PP 167 ⟨.other, 1, [.nilFunc]⟩ := And.intro (by (show _ = _); kernel_rfl) (by (show _ = _); kernel_rfl)
theorem ti_168 : TI.ask PP 168 ⟨.other, 1, [.nilFunc]⟩ := And.intro (by (show _ = _); kernel_rfl) (by (show _ = _); kernel_rfl)
theorem ti_169 : TI.ask PP 169 ⟨.int .u64, 1, [.int .u64 0]⟩ := And.intro (by (show _ = _); kernel_rfl) (by (show _ = _); kernel_rfl)
theorem ti_171 : TI.ask PP 171 ⟨.int .u64, 1, [.int .u64 0]⟩ := And.intro (by (show _ = _); kernel_rfl) (by (show _ = _); kernel_rfl)
theorem ti_174 : TI.ask PP 174 ⟨.other, 1, [.nilFunc]⟩ := And.intro (by (show _ = _); kernel_rfl) (by (show _ = _); kernel_rfl)
theorem ti_175 : TI.ask PP 175 ⟨.iface, 1, [.nilIface]⟩ := And.intro (by (show _ = _); kernel_rfl) (by (show _ = _); kernel_rfl)
theorem ti_176 : TI.ask PP 176 ⟨.iface, 1, [.nilIface]⟩ := And.intro (by (show _ = _); kernel_rfl) (by (show _ = _); kernel_rfl)
theorem ti_177 : TI.ask PP 177 ⟨.other, 1, [.nilFunc]⟩ := And.intro (by (show _ = _); kernel_rfl) (by (show _ = _); kernel_rfl)
theorem ti_178 : TI.ask PP 178 ⟨.int .u8, 1, [.int .u8 0]⟩ := And.intro (by (show _ = _); kernel_rfl) (by (show _ = _); kernel_rfl)
theorem ti_179 : TI.ask PP 179 ⟨.other, 1, [.nilFunc]⟩ := And.intro (by (show _ = _); kernel_rfl) (by (show _ = _); kernel_rfl)
theorem ti_180 : TI.ask PP 180 ⟨.other, 1, [.nilFunc]⟩ := And.intro (by (show _ = _); kernel_rfl) (by (show _ = _); kernel_rfl)
theorem ti_181 : TI.ask PP 181 ⟨.other, 1, [.nilFunc]⟩ := And.intro (by (show _ = _); kernel_rfl) (by (show _ = _); kernel_rfl)
theorem ti_182 : TI.ask PP 182 ⟨.other, 1, [.nilFunc]⟩ := And.intro (by (show _ = _); kernel_rfl) (by (show _ = _); kernel_rfl)
theorem ti_183 : TI.ask PP 183 ⟨.other, 1, [.nilFunc]⟩ := And.intro (by (show _ = _); kernel_rfl) (by (show _ = _); kernel_rfl)
theorem ti_184 : TI.ask PP 184 ⟨.other, 1, [.nilFunc]⟩ := And.intro (by (show _ = _); kernel_rfl) (by (show _ = _); kernel_rfl)
theorem ti_185 : TI.ask PP 185 ⟨.other, 1, [.nilFunc]⟩ := And.intro (by (show _ = _); kernel_rfl) (by (show _ = _); kernel_rfl)
theorem ti_186 : TI.ask PP 186 ⟨.other, 1, [.nilFunc]⟩ := And.intro (by (show _ = _); kernel_rfl) (by (show _ = _); kernel_rfl)
theorem ti_187 : TI.ask PP 187 ⟨.other, 1, [.nilFunc]⟩ := And.intro (by (show _ = _); kernel_rfl) (by (show _ = _); kernel_rfl)
theorem ti_188 : TI.ask PP 188 ⟨.other, 1, [.nilFunc]⟩ := And.intro (by (show _ = _); kernel_rfl) (by (show _ = _); kernel_rfl)
theorem ti_189 : TI.ask PP 189 ⟨.other, 1, [.nilFunc]⟩ := And.intro (by (show _ = _); kernel_rfl) (by (show _ = _); kernel_rfl)
theorem ti_190 : TI.ask PP 190 ⟨.other, 1, [.nilFunc]⟩ := And.intro (by (show _ = _); kernel_rfl) (by (show _ = _); kernel_rfl)
theorem ti_191 : TI.ask PP 191 ⟨.int .i64, 1, [.int .i64 0]⟩ := And.intro (by (show _ = _); kernel_rfl) (by (show _ = _); kernel_rfl)
theorem ti_193 : TI.ask PP 193 ⟨.other, 1, [.nilFunc]⟩ := And.intro (by (show _ = _); kernel_rfl) (by (show _ = _); kernel_rfl)
theorem ti_194 : TI.ask PP 194 ⟨.other, 1, [.nilFunc]⟩ := And.intro (by (show _ = _); kernel_rfl) (by (show _ = _); kernel_rfl)
theorem ti_195 : TI.ask PP 195 ⟨.other, 1, [.nilFunc]⟩ := And.intro (by (show _ = _); kernel_rfl) (by (show _ = _); kernel_rfl)
theorem ti_197 : TI.ask PP 197 ⟨.other, 1, [.nilFunc]⟩ := And.intro (by (show _ = _); kernel_rfl) (by (show _ = _); kernel_rfl)
theorem ti_198 : TI.ask PP 198 ⟨.other, 1, [.nilFunc]⟩ := And.intro (by (show _ = _); kernel_rfl) (by (show _ = _); kernel_rfl)
theorem ti_199 : TI.ask PP 199 ⟨.int .u32, 1, [.int .u32 0]⟩ := And.intro (by (show _ = _); kernel_rfl) (by (show _ = _); kernel_rfl)
theorem ti_200 : TI.ask PP 200 ⟨.other, 1, [.nilFunc]⟩ := And.intro (by (show _ = _); kernel_rfl) (by (show _ = _); kernel_rfl)
theorem ti_201 : TI.ask PP 201 ⟨.int .u64, 1, [.int .u64 0]⟩ := And.intro (by (show _ = _); kernel_rfl) (by (show _ = _); kernel_rfl)
theorem ti_202 : TI.ask PP 202 ⟨.struct [(0, 17, 1)], 1, [.pointer none]⟩ := And.intro (by (show _ = _); kernel_rfl) (And.intro (by (show _ = _); kernel_rfl) (by (show _ = _); kernel_rfl))
theorem ti_203 : TI.ask PP 203 ⟨.struct [(0, 17, 1)], 1, [.pointer none]⟩ := And.intro (by (show _ = _); kernel_rfl) (And.intro (by (show _ = _); kernel_rfl) (by (show _ = _); kernel_rfl))
theorem ti_204 : TI.ask PP 204 ⟨.ptr 253, 1, [.pointer none]⟩ := And.intro (by (show _ = _); kernel_rfl) (by (show _ = _); kernel_rfl)
theorem ti_205 : TI.ask PP 205 ⟨.other, 1, [.nilFunc]⟩ := And.intro (by (show _ = _); kernel_rfl) (by (show _ = _); kernel_rfl)
theorem ti_206 : TI.ask PP 206 ⟨.other, 1, [.nilFunc]⟩ := And.intro (by (show _ = _); kernel_rfl) (by (show _ = _); kernel_rfl)
theorem ti_207 : TI.ask PP 207 ⟨.other, 1, [.nilFunc]⟩ := And.intro (by (show _ = _); kernel_rfl) (by (show _ = _); kernel_rfl)
theorem ti_208 : TI.ask PP 208 ⟨.iface, 1, [.nilIface]⟩ := And.intro (by (show _ = _); kernel_rfl) (by (show _ = _); kernel_rfl)
theorem ti_210 : TI.ask PP 210 ⟨.other, 1, [.nilFunc]⟩ := And.intro (by (show _ = _); kernel_rfl) (by (show _ = _); kernel_rfl)
theorem ti_211 : TI.ask PP 211 ⟨.iface, 1, [.nilIface]⟩ := And.intro (by (show _ = _); kernel_rfl) (by (show _ = _); kernel_rfl)
theorem ti_212 : TI.ask PP 212 ⟨.other, 1, [.nilFunc]⟩ := And.intro (by (show _ = _); kernel_rfl) (by (show _ = _); kernel_rfl)
theorem ti_213 : TI.ask PP 213 ⟨.iface, 1, [.nilIface]⟩ := And.intro (by (show _ = _); kernel_rfl) (by (show _ = _); kernel_rfl)
theorem ti_214 : TI.ask PP 214 ⟨.slice 34, 1, [.slice none 0 0]⟩ := And.intro (by (show _ = _); kernel_rfl) (by (show _ = _); kernel_rfl)
theorem ti_215 : TI.ask PP 215 ⟨.other, 1, [.nilFunc]⟩ := And.intro (by (show _ = _); kernel_rfl) (by (show _ = _); kernel_rfl)
theorem ti_216 : TI.ask PP 216 ⟨.other, 1, [.nilFunc]⟩ := And.intro (by (show _ = _); kernel_rfl) (by (show _ = _); kernel_rfl)
theorem ti_217 : TI.ask PP 217 ⟨.other, 1, [.nilFunc]⟩ := And.intro (by (show _ = _); kernel_rfl) (by (show _ = _); kernel_rfl)
theorem ti_218 : TI.ask PP 218 ⟨.other, 1, [.nilFunc]⟩ := And.intro (by (show _ = _); kernel_rfl) (by (show _ = _); kernel_rfl)
theorem ti_219 : TI.ask PP 219 ⟨.int .u64, 1, [.int .u64 0]⟩ := And.intro (by (show _ = _); kernel_rfl) (by (show _ = _); kernel_rfl)
theorem ti_220 : TI.ask PP 220 ⟨.other, 1, [.nilFunc]⟩ := And.intro (by (show _ = _); kernel_rfl) (by (show _ = _); kernel_rfl)
theorem ti_221 : TI.ask PP 221 ⟨.other, 1, [.nilFunc]⟩ := And.intro (by (show _ = _); kernel_rfl) (by (show _ = _); kernel_rfl)
theorem ti_222 : TI.ask PP 222 ⟨.other, 1, [.nilFunc]⟩ := And.intro (by (show _ = _); kernel_rfl) (by (show _ = _); kernel_rfl)
theorem ti_223 : TI.ask PP 223 ⟨.ptr 3, 1, [.pointer none]⟩ := And.intro (by (show _ = _); kernel_rfl) (by (show _ = _); kernel_rfl)
theorem ti_224 : TI.ask PP 224 ⟨.other, 1, [.nilFunc]⟩ := And.intro (by (show _ = _); kernel_rfl) (by (show _ = _); kernel_rfl)
theorem ti_225 : TI.ask PP 225 ⟨.other, 1, [.nilFunc]⟩ := And.intro (by (show _ = _); kernel_rfl) (by (show _ = _); kernel_rfl)
theorem ti_226 : TI.ask PP 226 ⟨.arr 24 5 1, 24, [.int .u8 0, .int .u8 0, .int .u8 0, .int .u8 0, .int .u8 0, .int .u8 0, .int .u8 0, .int .u8 0, .int .u8 0, .int .u8 0, .int .u8 0, .int .u8 0, .int .u8 0, .int .u8 0, .int .u8 0, .int .u8 0, .int .u8 0, .int .u8 0, .int .u8 0, .int .u8 0, .int .u8 0, .int .u8 0, .int .u8 0, .int .u8 0]⟩ := And.intro (by (show _ = _); kernel_rfl) (And.intro (by (show _ = _); kernel_rfl) (by (show _ = _); kernel_rfl))
theorem ti_227 : TI.ask PP 227 ⟨.other, 1, [.nilFunc]⟩ := And.intro (by (show _ = _); kernel_rfl) (by (show _ = _); kernel_rfl)
theorem ti_229 : TI.ask PP 229 ⟨.other, 1, [.nilFunc]⟩ := And.intro (by (show _ = _); kernel_rfl) (by (show _ = _); kernel_rfl)
theorem ti_230 : TI.ask PP 230 ⟨.ptr 219, 1, [.pointer none]⟩ := And.intro (by (show _ = _); kernel_rfl) (by (show _ = _); kernel_rfl)
theorem ti_231 : TI.ask PP 231 ⟨.other, 1, [.nilFunc]⟩ := And.intro (by (show _ = _); kernel_rfl) (by (show _ = _); kernel_rfl)
theorem ti_232 : TI.ask PP 232 ⟨.other, 1, [.nilFunc]⟩ := And.intro (by (show _ = _); kernel_rfl) (by (show _ = _); kernel_rfl)
theorem ti_233 : TI.ask PP 233 ⟨.arr 20 201 1, 20, [.int .u64 0, .int .u64 0, .int .u64 0, .int .u64 0, .int .u64 0, .int .u64 0, .int .u64 0, .int .u64 0, .int .u64 0, .int .u64 0, .int .u64 0, .int .u64 0, .int .u64 0, .int .u64 0, .int .u64 0, .int .u64 0, .int .u64 0, .int .u64 0, .int .u64 0, .int .u64 0]⟩ := And.intro (by (show _ = _); kernel_rfl) (And.intro (by (show _ = _); kernel_rfl) (by (show _ = _); kernel_rfl))
theorem ti_234 : TI.ask PP 234 ⟨.arr 65 5 1, 65, [.int .u8 0, .int .u8 0, .int .u8 0, .int .u8 0, .int .u8 0, .int .u8 0, .int .u8 0, .int .u8 0, .int .u8 0, .int .u8 0, .int .u8 0, .int .u8 0, .int .u8 0, .int .u8 0, .int .u8 0, .int .u8 0, .int .u8 0, .int .u8 0, .int .u8 0, .int .u8 0, .int .u8 0, .int .u8 0, .int .u8 0, .int .u8 0, .int .u8 0, .int .u8 0, .int .u8 0, .int .u8 0, .int .u8 0, .int .u8 0, .int .u8 0, .int .u8 0, .int .u8 0, .int .u8 0, .int .u8 0, .int .u8 0, .int .u8 0, .int .u8 0, .int .u8 0, .int .u8 0, .int .u8 0, .int .u8 0, .int .u8 0, .int .u8 0, .int .u8 0, .int .u8 0, .int .u8 0, .int .u8 0, .int .u8 0, .int .u8 0, .int .u8 0, .int .u8 0, .int .u8 0, .int .u8 0, .int .u8 0, .int .u8 0, .int .u8 0, .int .u8 0, .int .u8 0, .int .u8 0, .int .u8 0, .int .u8 0, .int .u8 0, .int .u8 0, .int .u8 0]⟩ := And.intro (by (show _ = _); kernel_rfl) (And.intro (by (show _ = _); kernel_rfl) (by (show _ = _); kernel_rfl))
theorem ti_235 : TI.ask PP 235 ⟨.arr 32 5 1, 32, [.int .u8 0, .int .u8 0, .int .u8 0, .int .u8 0, .int .u8 0, .int .u8 0, .int .u8 0, .int .u8 0, .int .u8 0, .int .u8 0, .int .u8 0, .int .u8 0, .int .u8 0, .int .u8 0, .int .u8 0, .int .u8 0, .int .u8 0, .int .u8 0, .int .u8 0, .int .u8 0, .int .u8 0, .int .u8 0, .int .u8 0, .int .u8 0, .int .u8 0, .int .u8 0, .int .u8 0, .int .u8 0, .int .u8 0, .int .u8 0, .int .u8 0, .int .u8 0]⟩ := And.intro (by (show _ = _); kernel_rfl) (And.intro (by (show _ = _); kernel_rfl) (by (show _ = _); kernel_rfl))
theorem ti_236 : TI.ask PP 236 ⟨.arr 64 5 1, 64, [.int .u8 0, .int .u8 0, .int .u8 0, .int .u8 0, .int .u8 0, .int .u8 0, .int .u8 0, .int .u8 0, .int .u8 0, .int .u8 0, .int .u8 0, .int .u8 0, .int .u8 0, .int .u8 0, .int .u8 0, .int .u8 0, .int .u8 0, .int .u8 0, .int .u8 0, .int .u8 0, .int .u8 0, .int .u8 0, .int .u8 0, .int .u8 0, .int .u8 0, .int .u8 0, .int .u8 0, .int .u8 0, .int .u8 0, .int .u8 0, .int .u8 0, .int .u8 0, .int .u8 0, .int .u8 0, .int .u8 0, .int .u8 0, .int .u8 0, .int .u8 0, .int .u8 0, .int .u8 0, .int .u8 0, .int .u8 0, .int .u8 0, .int .u8 0, .int .u8 0, .int .u8 0, .int .u8 0, .int .u8 0, .int .u8 0, .int .u8 0, .int .u8 0, .int .u8 0, .int .u8 0, .int .u8 0, .int .u8 0, .int .u8 0, .int .u8 0, .int .u8 0, .int .u8 0, .int .u8 0, .int .u8 0, .int .u8 0, .int .u8 0, .int .u8 0]⟩ := And.intro (by (show _ = _); kernel_rfl) (And.intro (by (show _ = _); kernel_rfl) (by (show _ = _); kernel_rfl))
theorem ti_237 : TI.ask PP 237 ⟨.struct [(0, 17, 1), (1, 17, 1), (2, 17, 1), (3, 9, 1)], 4, [.pointer none, .pointer none, .pointer none, .string (⟨#[]⟩ : ByteArray)]⟩ := And.intro (by (show _ = _); kernel_rfl) (And.intro (by (show _ = _); kernel_rfl) (by (show _ = _); kernel_rfl))
theorem ti_238 : TI.ask PP 238 ⟨.struct [(0, 17, 1), (1, 17, 1), (2, 17, 1), (3, 9, 1)], 4, [.pointer none, .pointer none, .pointer none, .string (⟨#[]⟩ : ByteArray)]⟩ := And.intro (by (show _ = _); kernel_rfl) (And.intro (by (show _ = _); kernel_rfl) (by (show _ = _); kernel_rfl))
theorem ti_239 : TI.ask PP 239 ⟨.arr 0 16 1, 0, []⟩ := And.intro (by (show _ = _); kernel_rfl) (And.intro (by (show _ = _); kernel_rfl) (by (show _ = _); kernel_rfl))
theorem ti_242 : TI.ask PP 242 ⟨.other, 1, [.nilFunc]⟩ := And.intro (by (show _ = _); kernel_rfl) (by (show _ = _); kernel_rfl)
theorem ti_243 : TI.ask PP 243 ⟨.other, 1, [.nilFunc]⟩ := And.intro (by (show _ = _); kernel_rfl) (by (show _ = _); kernel_rfl)
theorem ti_244 : TI.ask PP 244 ⟨.int .u8, 1, [.int .u8 0]⟩ := And.intro (by (show _ = _); kernel_rfl) (by (show _ = _); kernel_rfl)
theorem ti_245 : TI.ask PP 245 ⟨.other, 1, [.nilFunc]⟩ := And.intro (by (show _ = _); kernel_rfl) (by (show _ = _); kernel_rfl)
theorem ti_246 : TI.ask PP 246 ⟨.int .i32, 1, [.int .i32 0]⟩ := And.intro (by (show _ = _); kernel_rfl) (by (show _ = _); kernel_rfl)
theorem ti_247 : TI.ask PP 247 ⟨.int .i32, 1, [.int .i32 0]⟩ := And.intro (by (show _ = _); kernel_rfl) (by (show _ = _); kernel_rfl)
theorem ti_248 : TI.ask PP 248 ⟨.struct [(0, 12, 1), (1, 12, 1), (2, 199, 1), (3, 244, 1), (4, 5, 1), (5, 5, 1), (6, 178, 1), (7, 245, 1), (8, 166, 1), (9, 246, 1), (10, 247, 1)], 11, [.int .u64 0, .int .u64 0, .int .u32 0, .int .u8 0, .int .u8 0, .int .u8 0, .int .u8 0, .nilFunc, .pointer none, .int .i32 0, .int .i32 0]⟩ := And.intro (by (show _ = _); kernel_rfl) (And.intro (by (show _ = _); kernel_rfl) (by (show _ = _); kernel_rfl))
theorem ti_249 : TI.ask PP 249 ⟨.struct [(0, 12, 1), (1, 12, 1), (2, 199, 1), (3, 244, 1), (4, 5, 1), (5, 5, 1), (6, 178, 1), (7, 245, 1), (8, 166, 1), (9, 246, 1), (10, 247, 1)], 11, [.int .u64 0, .int .u64 0, .int .u32 0, .int .u8 0, .int .u8 0, .int .u8 0, .int .u8 0, .nilFunc, .pointer none, .int .i32 0, .int .i32 0]⟩ := And.intro (by (show _ = _); kernel_rfl) (And.intro (by (show _ = _); kernel_rfl) (by (show _ = _); kernel_rfl))
theorem ti_250 : TI.ask PP 250 ⟨.other, 1, [.nilFunc]⟩ := And.intro (by (show _ = _); kernel_rfl) (by (show _ = _); kernel_rfl)
theorem ti_251 : TI.ask PP 251 ⟨.other, 1, [.nilFunc]⟩ := And.intro (by (show _ = _); kernel_rfl) (by (show _ = _); kernel_rfl)
theorem ti_252 : TI.ask PP 252 ⟨.struct [(0, 9, 1), (1, 178, 1)], 2, [.string (⟨#[]⟩ : ByteArray), .int .u8 0]⟩ := And.intro (by (show _ = _); kernel_rfl) (And.intro (by (show _ = _); kernel_rfl) (by (show _ = _); kernel_rfl))
theorem ti_253 : TI.ask PP 253 ⟨.struct [(0, 9, 1), (1, 178, 1)], 2, [.string (⟨#[]⟩ : ByteArray), .int .u8 0]⟩ := And.intro (by (show _ = _); kernel_rfl) (And.intro (by (show _ = _); kernel_rfl) (by (show _ = _); kernel_rfl))
theorem ti_254 : TI.ask PP 254 ⟨.ptr 258, 1, [.pointer none]⟩ := And.intro (by (show _ = _); kernel_rfl) (by (show _ = _); kernel_rfl)
theorem ti_255 : TI.ask PP 255 ⟨.other, 1, [.nilFunc]⟩ := And.intro (by (show _ = _); kernel_rfl) (by (show _ = _); kernel_rfl)
theorem ti_256 : TI.ask PP 256 ⟨.int .u16, 1, [.int .u16 0]⟩ := And.intro (by (show _ = _); kernel_rfl) (by (show _ = _); kernel_rfl)
theorem ti_257 : TI.ask PP 257 ⟨.struct [(0, 246, 1), (1, 256, 1), (2, 256, 1), (3, 199, 1), (4, 199, 1)], 5, [.int .i32 0, .int .u16 0, .int .u16 0, .int .u32 0, .int .u32 0]⟩ := And.intro (by (show _ = _); kernel_rfl) (And.intro (by (show _ = _); kernel_rfl) (by (show _ = _); kernel_rfl))
theorem ti_258 : TI.ask PP 258 ⟨.struct [(0, 246, 1), (1, 256, 1), (2, 256, 1), (3, 199, 1), (4, 199, 1)], 5, [.int .i32 0, .int .u16 0, .int .u16 0, .int .u32 0, .int .u32 0]⟩ := And.intro (by (show _ = _); kernel_rfl) (And.intro (by (show _ = _); kernel_rfl) (by (show _ = _); kernel_rfl))
theorem ti_259 : TI.ask PP 259 ⟨.slice 262, 1, [.slice none 0 0]⟩ := And.intro (by (show _ = _); kernel_rfl) (by (show _ = _); kernel_rfl)
theorem ti_260 : TI.ask PP 260 ⟨.int .i32, 1, [.int .i32 0]⟩ := And.intro (by (show _ = _); kernel_rfl) (by (show _ = _); kernel_rfl)
theorem ti_261 : TI.ask PP 261 ⟨.struct [(0, 246, 1), (1, 247, 1), (2, 260, 1), (3, 260, 1)], 4, [.int .i32 0, .int .i32 0, .int .i32 0, .int .i32 0]⟩ := And.intro (by (show _ = _); kernel_rfl) (And.intro (by (show _ = _); kernel_rfl) (by (show _ = _); kernel_rfl))
theorem ti_262 : TI.ask PP 262 ⟨.struct [(0, 246, 1), (1, 247, 1), (2, 260, 1), (3, 260, 1)], 4, [.int .i32 0, .int .i32 0, .int .i32 0, .int .i32 0]⟩ := And.intro (by (show _ = _); kernel_rfl) (And.intro (by (show _ = _); kernel_rfl) (by (show _ = _); kernel_rfl))
theorem ti_263 : TI.ask PP 263 ⟨.ptr 34, 1, [.pointer none]⟩ := And.intro (by (show _ = _); kernel_rfl) (by (show _ = _); kernel_rfl)
theorem tabA : tabAsk PP tabL := And.intro ti_1 (And.intro ti_2 (And.intro ti_3 (And.intro ti_4 (And.intro ti_5 (And.intro ti_6 (And.intro ti_7 (And.intro ti_8 (And.intro ti_9 (And.intro ti_10 (And.intro ti_11 (And.intro ti_12 (And.intro ti_13 (And.intro ti_14 (And.intro ti_15 (And.intro ti_16 (And.intro ti_17 (And.intro ti_18 (And.intro ti_19 (And.intro ti_20 (And.intro ti_21 (And.intro ti_22 (And.intro ti_23 (And.intro ti_24 (And.intro ti_25 (And.intro ti_26 (And.intro ti_27 (And.intro ti_28 (And.intro ti_29 (And.intro ti_31 (And.intro ti_32 (And.intro ti_33 (And.intro ti_34 (And.intro ti_35 (And.intro ti_36 (And.intro ti_37 (And.intro ti_39 (And.intro ti_40 (And.intro ti_42 (And.intro ti_44 (And.intro ti_45 (And.intro ti_46 (And.intro ti_47 (And.intro ti_48 (And.intro ti_49 (And.intro ti_50 (And.intro ti_51 (And.intro ti_52 (And.intro ti_53 (And.intro ti_54 (And.intro ti_55 (And.intro ti_57 (And.intro ti_58 (And.intro ti_60 (And.intro ti_62 (And.intro ti_64 (And.intro ti_65 (And.intro ti_67 (And.intro ti_68 (And.intro ti_70 (And.intro ti_72 (And.intro ti_73 (And.intro ti_74 (And.intro ti_75 (And.intro ti_76 (And.intro ti_77 (And.intro ti_78 (And.intro ti_79 (And.intro ti_81 (And.intro ti_83 (And.intro ti_84 (And.intro ti_85 (And.intro ti_86 (And.intro ti_87 (And.intro ti_88 (And.intro ti_89 (And.intro ti_90 (And.intro ti_91 (And.intro ti_92 (And.intro ti_93 (And.intro ti_94 (And.intro ti_95 (And.intro ti_96 (And.intro ti_97 (And.intro ti_99 (And.intro ti_101 (And.intro ti_102 (And.intro ti_103 (And.intro ti_104 (And.intro ti_105 (And.intro ti_106 (And.intro ti_107 (And.intro ti_108 (And.intro ti_109 (And.intro ti_110 (And.intro ti_111 (And.intro ti_112 (And.intro ti_113 (And.intro ti_114 (And.intro ti_115 (And.intro ti_116 (And.intro ti_117 (And.intro ti_118 (And.intro ti_119 (And.intro ti_120 (And.intro ti_121 (And.intro ti_122 (And.intro ti_123 (And.intro ti_124 (And.intro ti_125 (And.intro ti_126 (And.intro ti_127 (And.intro ti_128 (And.intro ti_129 (And.intro ti_130 (And.intro ti_131 (And.intro ti_132 (And.intro ti_133 (And.intro ti_134 (And.intro ti_135 (And.intro ti_136 (And.intro ti_137 (And.intro ti_138 (And.intro ti_139 (And.intro ti_140 (And.intro ti_141 (And.intro ti_142 (And.intro ti_143 (And.intro ti_144 (And.intro ti_145 (And.intro ti_146 (And.intro ti_147 (And.intro ti_148 (And.intro ti_149 (And.intro ti_150 (And.intro ti_151 (And.intro ti_153 (And.intro ti_154 (And.intro ti_155 (And.intro ti_156 (And.intro ti_157 (And.intro ti_158 (And.intro ti_159 (And.intro ti_160 (And.intro ti_161 (And.intro ti_162 (And.intro ti_163 (And.intro ti_164 (And.intro ti_165 (And.intro ti_166 (And.intro ti_167 (And.intro ti_168 (And.intro ti_169 (And.intro ti_171 (And.intro ti_174 (And.intro ti_175 (And.intro ti_176 (And.intro ti_177 (And.intro ti_178 (And.intro ti_179 (And.intro ti_180 (And.intro ti_181 (And.intro ti_182 (And.intro ti_183 (And.intro ti_184 (And.intro ti_185 (And.intro ti_186 (And.intro ti_187 (And.intro ti_188 (And.intro ti_189 (And.intro ti_190 (And.intro ti_191 (And.intro ti_193 (And.intro ti_194 (And.intro ti_195 (And.intro ti_197 (And.intro ti_198 (And.intro ti_199 (And.intro ti_200 (And.intro ti_201 (And.intro ti_202 (And.intro ti_203 (And.intro ti_204 (And.intro ti_205 (And.intro ti_206 (And.intro ti_207 (And.intro ti_208 (And.intro ti_210 (And.intro ti_211 (And.intro ti_212 (And.intro ti_213 (And.intro ti_214 (And.intro ti_215 (And.intro ti_216 (And.intro ti_217 (And.intro ti_218 (And.intro ti_219 (And.intro ti_220 (And.intro ti_221 (And.intro ti_222 (And.intro ti_223 (And.intro ti_224 (And.intro ti_225 (And.intro ti_226 (And.intro ti_227 (And.intro ti_229 (And.intro ti_230 (And.intro ti_231 (And.intro ti_232 (And.intro ti_233 (And.intro ti_234 (And.intro ti_235 (And.intro ti_236 (And.intro ti_237 (And.intro ti_238 (And.intro ti_239 (And.intro ti_242 (And.intro ti_243 (And.intro ti_244 (And.intro ti_245 (And.intro ti_246 (And.intro ti_247 (And.intro ti_248 (And.intro ti_249 (And.intro ti_250 (And.intro ti_251 (And.intro ti_252 (And.intro ti_253 (And.intro ti_254 (And.intro ti_255 (And.intro ti_256 (And.intro ti_257 (And.intro ti_258 (And.intro ti_259 (And.intro ti_260 (And.intro ti_261 (And.intro ti_262 (And.intro ti_263 (trivial))))))))))))))))))))))))))))))))))))))))))))))))))))))))))))))))))))))))))))))))))))))))))))))))))))))))))))))))))))))))))))))))))))))))))))))))))))))))))))))))))))))))))))))))))))))))))))))))))))))))))))))))))))))))))))))))))))))))))))))
theorem herr : PP.underlying errT = some (.int .i64) := by kernel_rfl
theorem mixed : PP.follows .mixedOrders = true := by kernel_rfl
end Go.Sx
