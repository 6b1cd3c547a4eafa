/- This seat's table of types and the functions that are run. No conditions of its own. -/
import Derived.Test.YtbiicdcjecgieaaGreatEngC
import Derived.KernelRfl
import Derived.Test.YtbiicdcjecgieaaGreatProg
set_option linter.unusedVariables false
set_option maxRecDepth 100000
namespace Go.Eng
open Go.Proofs
noncomputable def tl5 : List (Nat × TI) := [(2, ⟨(.int .i64), 1, (.int .i64 (.ofNat 0))⟩),
  (3, ⟨(.int .i64), 1, (.int .i64 (.ofNat 0))⟩),
  (4, ⟨.bool, 1, (.bool false)⟩),
  (5, ⟨(.int .u8), 1, (.int .u8 (.ofNat 0))⟩),
  (9, ⟨.str, 1, (.str 0 0)⟩),
  (22, ⟨(.int .u16), 1, (.int .u16 (.ofNat 0))⟩),
  (23, ⟨(.slice 25), 1, .nilSlice⟩),
  (25, ⟨(.struct [(0, 5), (1, 2), (2, 9), (3, 23)]), 4, (.agg [(.int .u8 (.ofNat 0)), (.int .i64 (.ofNat 0)), (.str 0 0), .nilSlice])⟩),
  (26, ⟨(.slice 43), 1, .nilSlice⟩),
  (27, ⟨(.slice 64), 1, .nilSlice⟩),
  (29, ⟨(.struct [(0, 26), (1, 27)]), 2, (.agg [.nilSlice, .nilSlice])⟩),
  (30, ⟨(.int .i64), 1, (.int .i64 (.ofNat 0))⟩),
  (34, ⟨(.struct [(0, 5), (1, 9), (2, 9), (3, 25)]), 7, (.agg [(.int .u8 (.ofNat 0)), (.str 0 0), (.str 0 0), (.int .u8 (.ofNat 0)), (.int .i64 (.ofNat 0)), (.str 0 0), .nilSlice])⟩),
  (35, ⟨(.slice 34), 1, .nilSlice⟩),
  (39, ⟨(.ptr 41), 1, .nilPtr⟩),
  (41, ⟨(.struct [(0, 26), (1, 27), (2, 3), (3, 4)]), 4, (.agg [.nilSlice, .nilSlice, (.int .i64 (.ofNat 0)), (.bool false)])⟩),
  (42, ⟨(.ptr 46), 1, .nilPtr⟩),
  (43, ⟨(.slice 50), 1, .nilSlice⟩),
  (44, ⟨(.slice 61), 1, .nilSlice⟩),
  (46, ⟨(.struct [(0, 43), (1, 3), (2, 44)]), 3, (.agg [.nilSlice, (.int .i64 (.ofNat 0)), .nilSlice])⟩),
  (50, ⟨(.struct [(0, 5), (1, 2), (2, 2), (3, 2), (4, 9)]), 5, (.agg [(.int .u8 (.ofNat 0)), (.int .i64 (.ofNat 0)), (.int .i64 (.ofNat 0)), (.int .i64 (.ofNat 0)), (.str 0 0)])⟩),
  (54, ⟨(.slice 59), 1, .nilSlice⟩),
  (59, ⟨(.struct [(0, 2), (1, 2), (2, 2)]), 3, (.agg [(.int .i64 (.ofNat 0)), (.int .i64 (.ofNat 0)), (.int .i64 (.ofNat 0))])⟩),
  (61, ⟨(.struct [(0, 5), (1, 2), (2, 2), (3, 2), (4, 9)]), 5, (.agg [(.int .u8 (.ofNat 0)), (.int .i64 (.ofNat 0)), (.int .i64 (.ofNat 0)), (.int .i64 (.ofNat 0)), (.str 0 0)])⟩),
  (64, ⟨(.struct [(0, 9), (1, 9)]), 2, (.agg [(.str 0 0), (.str 0 0)])⟩),
  (67, ⟨(.slice 138), 1, .nilSlice⟩),
  (68, ⟨(.slice 127), 1, .nilSlice⟩),
  (69, ⟨(.slice 132), 1, .nilSlice⟩),
  (71, ⟨(.struct [(0, 68), (1, 69), (2, 27)]), 3, (.agg [.nilSlice, .nilSlice, .nilSlice])⟩),
  (73, ⟨(.struct [(0, 67), (1, 71)]), 4, (.agg [.nilSlice, .nilSlice, .nilSlice, .nilSlice])⟩),
  (76, ⟨(.slice 5), 1, .nilSlice⟩),
  (77, ⟨(.ptr 85), 1, .nilPtr⟩),
  (79, ⟨(.slice 9), 1, .nilSlice⟩),
  (80, ⟨(.ptr 155), 1, .nilPtr⟩),
  (81, ⟨(.slice 248), 1, .nilSlice⟩),
  (82, ⟨(.slice 81), 1, .nilSlice⟩),
  (83, ⟨(.slice 3), 1, .nilSlice⟩),
  (85, ⟨(.struct [(0, 3), (1, 79), (2, 5), (3, 80), (4, 81), (5, 82), (6, 83)]), 7, (.agg [(.int .i64 (.ofNat 0)), .nilSlice, (.int .u8 (.ofNat 0)), .nilPtr, .nilSlice, .nilSlice, .nilSlice])⟩),
  (89, ⟨(.ptr 92), 1, .nilPtr⟩),
  (90, ⟨(.slice 94), 1, .nilSlice⟩),
  (92, ⟨(.struct [(0, 29), (2, 3), (3, 59), (6, 90), (7, 83), (8, 4)]), 9, (.agg [.nilSlice, .nilSlice, (.int .i64 (.ofNat 0)), (.int .i64 (.ofNat 0)), (.int .i64 (.ofNat 0)), (.int .i64 (.ofNat 0)), .nilSlice, .nilSlice, (.bool false)])⟩),
  (94, ⟨(.struct [(0, 4), (1, 2), (2, 83)]), 3, (.agg [(.bool false), (.int .i64 (.ofNat 0)), .nilSlice])⟩),
  (97, ⟨(.slice 4), 1, .nilSlice⟩),
  (106, ⟨(.ptr 112), 1, .nilPtr⟩),
  (108, ⟨(.slice 2), 1, .nilSlice⟩),
  (109, ⟨(.slice 147), 1, .nilSlice⟩),
  (110, ⟨(.slice 162), 1, .nilSlice⟩),
  (112, ⟨(.struct [(0, 29), (2, 108), (3, 109), (4, 110), (5, 77)]), 6, (.agg [.nilSlice, .nilSlice, .nilSlice, .nilSlice, .nilSlice, .nilPtr])⟩),
  (122, ⟨(.ptr 125), 1, .nilPtr⟩),
  (123, ⟨(.map 9 127), 1, .nilMap⟩),
  (125, ⟨(.struct [(0, 123), (1, 27)]), 2, (.agg [.nilMap, .nilSlice])⟩),
  (127, ⟨(.struct [(0, 9), (1, 9), (2, 3), (3, 3), (4, 4)]), 5, (.agg [(.str 0 0), (.str 0 0), (.int .i64 (.ofNat 0)), (.int .i64 (.ofNat 0)), (.bool false)])⟩),
  (128, ⟨(.slice 9), 1, .nilSlice⟩),
  (129, ⟨(.slice 234), 1, .nilSlice⟩),
  (130, ⟨(.slice 201), 1, .nilSlice⟩),
  (132, ⟨(.struct [(0, 5), (1, 9), (2, 3), (3, 69)]), 4, (.agg [(.int .u8 (.ofNat 0)), (.str 0 0), (.int .i64 (.ofNat 0)), .nilSlice])⟩),
  (133, ⟨(.slice 136), 1, .nilSlice⟩),
  (134, ⟨(.slice 300), 1, .nilSlice⟩),
  (136, ⟨(.struct [(0, 5), (1, 9), (2, 2), (3, 9), (4, 133), (5, 134), (6, 67)]), 7, (.agg [(.int .u8 (.ofNat 0)), (.str 0 0), (.int .i64 (.ofNat 0)), (.str 0 0), .nilSlice, .nilSlice, .nilSlice])⟩),
  (138, ⟨(.struct [(0, 5), (1, 9), (2, 79), (3, 129), (4, 130), (5, 132), (9, 136)]), 16, (.agg [(.int .u8 (.ofNat 0)), (.str 0 0), .nilSlice, .nilSlice, .nilSlice, (.int .u8 (.ofNat 0)), (.str 0 0), (.int .i64 (.ofNat 0)), .nilSlice, (.int .u8 (.ofNat 0)), (.str 0 0), (.int .i64 (.ofNat 0)), (.str 0 0), .nilSlice, .nilSlice, .nilSlice])⟩),
  (147, ⟨(.ptr 150), 1, .nilPtr⟩),
  (148, ⟨(.slice 80), 1, .nilSlice⟩),
  (150, ⟨(.struct [(0, 3), (1, 3), (2, 148), (3, 148), (4, 2)]), 5, (.agg [(.int .i64 (.ofNat 0)), (.int .i64 (.ofNat 0)), .nilSlice, .nilSlice, (.int .i64 (.ofNat 0))])⟩),
  (153, ⟨(.ptr 159), 1, .nilPtr⟩),
  (155, ⟨(.struct [(0, 3), (1, 2), (2, 9), (3, 148), (4, 153)]), 5, (.agg [(.int .i64 (.ofNat 0)), (.int .i64 (.ofNat 0)), (.str 0 0), .nilSlice, .nilPtr])⟩),
  (156, ⟨(.ptr 383), 1, .nilPtr⟩),
  (157, ⟨(.ptr 127), 1, .nilPtr⟩),
  (159, ⟨(.struct [(0, 9), (1, 136), (8, 156), (9, 25), (13, 148), (14, 9), (15, 157), (16, 2), (17, 148)]), 18, (.agg [(.str 0 0), (.int .u8 (.ofNat 0)), (.str 0 0), (.int .i64 (.ofNat 0)), (.str 0 0), .nilSlice, .nilSlice, .nilSlice, .nilPtr, (.int .u8 (.ofNat 0)), (.int .i64 (.ofNat 0)), (.str 0 0), .nilSlice, .nilSlice, (.str 0 0), .nilPtr, (.int .i64 (.ofNat 0)), .nilSlice])⟩),
  (162, ⟨(.struct [(0, 3), (1, 3), (2, 3)]), 3, (.agg [(.int .i64 (.ofNat 0)), (.int .i64 (.ofNat 0)), (.int .i64 (.ofNat 0))])⟩),
  (167, ⟨(.slice 211), 1, .nilSlice⟩),
  (172, ⟨(.ptr 179), 1, .nilPtr⟩),
  (174, ⟨(.ptr 266), 1, .nilPtr⟩),
  (175, ⟨(.slice 186), 1, .nilSlice⟩),
  (176, ⟨(.slice 223), 1, .nilSlice⟩),
  (177, ⟨(.slice 226), 1, .nilSlice⟩),
  (179, ⟨(.struct [(0, 174), (1, 175), (2, 176), (3, 67), (4, 177), (5, 27), (6, 175), (7, 3)]), 8, (.agg [.nilPtr, .nilSlice, .nilSlice, .nilSlice, .nilSlice, .nilSlice, .nilSlice, (.int .i64 (.ofNat 0))])⟩),
  (184, ⟨(.struct [(0, 132), (4, 83)]), 5, (.agg [(.int .u8 (.ofNat 0)), (.str 0 0), (.int .i64 (.ofNat 0)), .nilSlice, .nilSlice])⟩),
  (186, ⟨(.struct [(0, 9), (1, 184)]), 6, (.agg [(.str 0 0), (.int .u8 (.ofNat 0)), (.str 0 0), (.int .i64 (.ofNat 0)), .nilSlice, .nilSlice])⟩),
  (201, ⟨(.struct [(0, 9), (1, 79), (2, 136)]), 9, (.agg [(.str 0 0), .nilSlice, (.int .u8 (.ofNat 0)), (.str 0 0), (.int .i64 (.ofNat 0)), (.str 0 0), .nilSlice, .nilSlice, .nilSlice])⟩),
  (211, ⟨(.struct [(0, 5), (1, 9), (2, 2), (3, 3)]), 4, (.agg [(.int .u8 (.ofNat 0)), (.str 0 0), (.int .i64 (.ofNat 0)), (.int .i64 (.ofNat 0))])⟩),
  (214, ⟨(.ptr 216), 1, .nilPtr⟩),
  (216, ⟨(.struct [(0, 167), (1, 3), (2, 4)]), 3, (.agg [.nilSlice, (.int .i64 (.ofNat 0)), (.bool false)])⟩),
  (223, ⟨(.struct [(0, 9), (1, 3)]), 2, (.agg [(.str 0 0), (.int .i64 (.ofNat 0))])⟩),
  (226, ⟨(.struct [(0, 127), (5, 3), (6, 132), (10, 132)]), 14, (.agg [(.str 0 0), (.str 0 0), (.int .i64 (.ofNat 0)), (.int .i64 (.ofNat 0)), (.bool false), (.int .i64 (.ofNat 0)), (.int .u8 (.ofNat 0)), (.str 0 0), (.int .i64 (.ofNat 0)), .nilSlice, (.int .u8 (.ofNat 0)), (.str 0 0), (.int .i64 (.ofNat 0)), .nilSlice])⟩),
  (234, ⟨(.struct [(0, 9), (1, 4), (2, 132)]), 6, (.agg [(.str 0 0), (.bool false), (.int .u8 (.ofNat 0)), (.str 0 0), (.int .i64 (.ofNat 0)), .nilSlice])⟩),
  (246, ⟨(.map 80 80), 1, .nilMap⟩),
  (248, ⟨(.struct [(0, 9), (1, 80)]), 2, (.agg [(.str 0 0), .nilPtr])⟩),
  (252, ⟨(.int .u64), 1, (.int .u64 (.ofNat 0))⟩),
  (264, ⟨(.slice 330), 1, .nilSlice⟩),
  (266, ⟨(.struct [(0, 3), (1, 264)]), 2, (.agg [(.int .i64 (.ofNat 0)), .nilSlice])⟩),
  (287, ⟨(.ptr 3), 1, .nilPtr⟩),
  (292, ⟨.func, 1, .nilFunc⟩),
  (293, ⟨(.slice 307), 1, .nilSlice⟩),
  (294, ⟨(.slice 332), 1, .nilSlice⟩),
  (296, ⟨(.slice 298), 1, .nilSlice⟩),
  (298, ⟨(.struct [(0, 5), (1, 9), (2, 2), (3, 296)]), 4, (.agg [(.int .u8 (.ofNat 0)), (.str 0 0), (.int .i64 (.ofNat 0)), .nilSlice])⟩),
  (300, ⟨(.struct [(0, 298), (4, 136)]), 11, (.agg [(.int .u8 (.ofNat 0)), (.str 0 0), (.int .i64 (.ofNat 0)), .nilSlice, (.int .u8 (.ofNat 0)), (.str 0 0), (.int .i64 (.ofNat 0)), (.str 0 0), .nilSlice, .nilSlice, .nilSlice])⟩),
  (301, ⟨(.ptr 293), 1, .nilPtr⟩),
  (302, ⟨(.ptr 294), 1, .nilPtr⟩),
  (307, ⟨.func, 1, .nilFunc⟩),
  (316, ⟨(.struct [(0, 132), (4, 132)]), 8, (.agg [(.int .u8 (.ofNat 0)), (.str 0 0), (.int .i64 (.ofNat 0)), .nilSlice, (.int .u8 (.ofNat 0)), (.str 0 0), (.int .i64 (.ofNat 0)), .nilSlice])⟩),
  (317, ⟨(.ptr 319), 1, .nilPtr⟩),
  (319, ⟨(.struct [(0, 67), (1, 79), (2, 4)]), 3, (.agg [.nilSlice, .nilSlice, (.bool false)])⟩),
  (330, ⟨(.struct [(0, 3), (1, 132)]), 5, (.agg [(.int .i64 (.ofNat 0)), (.int .u8 (.ofNat 0)), (.str 0 0), (.int .i64 (.ofNat 0)), .nilSlice])⟩),
  (332, ⟨(.struct [(0, 9), (1, 292)]), 2, (.agg [(.str 0 0), .nilFunc])⟩),
  (347, ⟨(.slice 296), 1, .nilSlice⟩),
  (350, ⟨(.slice 79), 1, .nilSlice⟩),
  (383, ⟨(.struct [(0, 9), (1, 80), (2, 156)]), 3, (.agg [(.str 0 0), .nilPtr, .nilPtr])⟩)]
noncomputable def T5 : Nat → Option TI := lookT tl5
theorem tl5_all : (tl5.all fun p => tiB Tryz.prog p.1 p.2) = true := by kernel_rfl
theorem T5_ok : TOK Tryz.prog T5 := lookT_ok fun p hp => List.all_eq_true.1 tl5_all p hp
end Go.Eng
set_option linter.unusedVariables false
set_option maxRecDepth 1000000
namespace Go.Eng
open Go.RowKit Go.Proofs
noncomputable def fl5 : List (Nat × Func) := [(4, Tryz.f4), (5, Tryz.f5), (6, Tryz.f6), (7, Tryz.f7), (8, Tryz.f8), (9, Tryz.f9), (10, Tryz.f10), (11, Tryz.f11), (12, Tryz.f12), (13, Tryz.f13), (14, Tryz.f14), (15, Tryz.f15), (16, Tryz.f16), (17, Tryz.f17), (18, Tryz.f18), (19, Tryz.f19), (20, Tryz.f20), (21, Tryz.f21), (22, Tryz.f22), (23, Tryz.f23), (24, Tryz.f24), (25, Tryz.f25), (26, Tryz.f26), (27, Tryz.f27), (28, Tryz.f28), (29, Tryz.f29), (30, Tryz.f30), (31, Tryz.f31), (32, Tryz.f32), (33, Tryz.f33), (34, Tryz.f34), (35, Tryz.f35), (36, Tryz.f36), (37, Tryz.f37), (38, Tryz.f38), (39, Tryz.f39), (40, Tryz.f40), (41, Tryz.f41), (42, Tryz.f42), (43, Tryz.f43), (44, Tryz.f44), (45, Tryz.f45), (46, Tryz.f46), (47, Tryz.f47), (48, Tryz.f48), (49, Tryz.f49), (50, Tryz.f50), (51, Tryz.f51), (52, Tryz.f52), (53, Tryz.f53), (54, Tryz.f54), (55, Tryz.f55), (56, Tryz.f56), (57, Tryz.f57), (58, Tryz.f58), (59, Tryz.f59), (60, Tryz.f60), (61, Tryz.f61), (62, Tryz.f62), (63, Tryz.f63), (64, Tryz.f64), (65, Tryz.f65), (66, Tryz.f66), (67, Tryz.f67), (68, Tryz.f68), (69, Tryz.f69), (70, Tryz.f70), (71, Tryz.f71), (72, Tryz.f72), (73, Tryz.f73), (74, Tryz.f74), (75, Tryz.f75), (76, Tryz.f76), (77, Tryz.f77), (78, Tryz.f78), (79, Tryz.f79), (80, Tryz.f80), (81, Tryz.f81), (82, Tryz.f82), (83, Tryz.f83), (84, Tryz.f84), (85, Tryz.f85), (86, Tryz.f86), (87, Tryz.f87), (88, Tryz.f88), (89, Tryz.f89), (90, Tryz.f90), (91, Tryz.f91), (92, Tryz.f92), (93, Tryz.f93), (94, Tryz.f94), (95, Tryz.f95), (96, Tryz.f96), (97, Tryz.f97), (98, Tryz.f98), (99, Tryz.f99), (100, Tryz.f100), (101, Tryz.f101), (102, Tryz.f102), (103, Tryz.f103), (104, Tryz.f104), (105, Tryz.f105), (106, Tryz.f106), (107, Tryz.f107), (108, Tryz.f108), (109, Tryz.f109), (110, Tryz.f110), (111, Tryz.f111), (112, Tryz.f112), (113, Tryz.f113), (114, Tryz.f114), (115, Tryz.f115), (116, Tryz.f116), (117, Tryz.f117), (118, Tryz.f118), (119, Tryz.f119), (120, Tryz.f120), (121, Tryz.f121), (122, Tryz.f122), (123, Tryz.f123), (124, Tryz.f124), (125, Tryz.f125), (126, Tryz.f126), (127, Tryz.f127), (128, Tryz.f128), (129, Tryz.f129), (130, Tryz.f130), (131, Tryz.f131), (132, Tryz.f132), (133, Tryz.f133), (134, Tryz.f134), (135, Tryz.f135), (136, Tryz.f136), (137, Tryz.f137), (138, Tryz.f138), (139, Tryz.f139), (140, Tryz.f140), (141, Tryz.f141), (142, Tryz.f142), (143, Tryz.f143), (144, Tryz.f144), (145, Tryz.f145), (146, Tryz.f146), (147, Tryz.f147), (148, Tryz.f148), (149, Tryz.f149), (150, Tryz.f150), (151, Tryz.f151), (152, Tryz.f152), (153, Tryz.f153), (154, Tryz.f154), (155, Tryz.f155), (156, Tryz.f156), (157, Tryz.f157), (158, Tryz.f158), (159, Tryz.f159), (160, Tryz.f160), (161, Tryz.f161), (162, Tryz.f162), (163, Tryz.f163), (164, Tryz.f164), (165, Tryz.f165), (166, Tryz.f166), (167, Tryz.f167), (168, Tryz.f168), (169, Tryz.f169), (170, Tryz.f170), (171, Tryz.f171), (172, Tryz.f172), (173, Tryz.f173), (174, Tryz.f174), (175, Tryz.f175), (176, Tryz.f176), (177, Tryz.f177), (178, Tryz.f178), (179, Tryz.f179), (180, Tryz.f180), (181, Tryz.f181), (182, Tryz.f182), (183, Tryz.f183), (184, Tryz.f184), (185, Tryz.f185), (186, Tryz.f186), (187, Tryz.f187), (188, Tryz.f188), (189, Tryz.f189), (190, Tryz.f190), (191, Tryz.f191), (192, Tryz.f192), (193, Tryz.f193), (194, Tryz.f194), (195, Tryz.f195), (196, Tryz.f196), (197, Tryz.f197), (198, Tryz.f198), (199, Tryz.f199), (200, Tryz.f200), (201, Tryz.f201), (202, Tryz.f202), (203, Tryz.f203), (204, Tryz.f204), (205, Tryz.f205), (206, Tryz.f206), (207, Tryz.f207), (208, Tryz.f208), (209, Tryz.f209), (210, Tryz.f210), (211, Tryz.f211), (212, Tryz.f212), (213, Tryz.f213), (214, Tryz.f214), (215, Tryz.f215), (216, Tryz.f216), (217, Tryz.f217), (218, Tryz.f218), (219, Tryz.f219), (220, Tryz.f220), (221, Tryz.f221), (222, Tryz.f222), (223, Tryz.f223), (224, Tryz.f224), (225, Tryz.f225), (226, Tryz.f226), (227, Tryz.f227), (228, Tryz.f228), (229, Tryz.f229), (230, Tryz.f230), (231, Tryz.f231), (232, Tryz.f232), (233, Tryz.f233), (234, Tryz.f234), (235, Tryz.f235), (236, Tryz.f236), (237, Tryz.f237), (238, Tryz.f238), (239, Tryz.f239), (240, Tryz.f240)]
theorem fl5_ok : ∀ p ∈ fl5, Tryz.prog.funcs[p.1]? = some p.2 := by
  simp only [fl5, List.forall_mem_cons]
  exact ⟨Tryz.func4, Tryz.func5, Tryz.func6, Tryz.func7, Tryz.func8, Tryz.func9, Tryz.func10, Tryz.func11, Tryz.func12, Tryz.func13, Tryz.func14, Tryz.func15, Tryz.func16, Tryz.func17, Tryz.func18, Tryz.func19, Tryz.func20, Tryz.func21, Tryz.func22, Tryz.func23, Tryz.func24, Tryz.func25, Tryz.func26, Tryz.func27, Tryz.func28, Tryz.func29, Tryz.func30, Tryz.func31, Tryz.func32, Tryz.func33, Tryz.func34, Tryz.func35, Tryz.func36, Tryz.func37, Tryz.func38, Tryz.func39, Tryz.func40, Tryz.func41, Tryz.func42, Tryz.func43, Tryz.func44, Tryz.func45, Tryz.func46, Tryz.func47, Tryz.func48, Tryz.func49, Tryz.func50, Tryz.func51, Tryz.func52, Tryz.func53, Tryz.func54, Tryz.func55, Tryz.func56, Tryz.func57, Tryz.func58, Tryz.func59, Tryz.func60, Tryz.func61, Tryz.func62, Tryz.func63, Tryz.func64, Tryz.func65, Tryz.func66, Tryz.func67, Tryz.func68, Tryz.func69, Tryz.func70, Tryz.func71, Tryz.func72, Tryz.func73, Tryz.func74, Tryz.func75, Tryz.func76, Tryz.func77, Tryz.func78, Tryz.func79, Tryz.func80, Tryz.func81, Tryz.func82, Tryz.func83, Tryz.func84, Tryz.func85, Tryz.func86, Tryz.func87, Tryz.func88, Tryz.func89, Tryz.func90, Tryz.func91, Tryz.func92, Tryz.func93, Tryz.func94, Tryz.func95, Tryz.func96, Tryz.func97, Tryz.func98, Tryz.func99, Tryz.func100, Tryz.func101, Tryz.func102, Tryz.func103, Tryz.func104, Tryz.func105, Tryz.func106, Tryz.func107, Tryz.func108, Tryz.func109, Tryz.func110, Tryz.func111, Tryz.func112, Tryz.func113, Tryz.func114, Tryz.func115, Tryz.func116, Tryz.func117, Tryz.func118, Tryz.func119, Tryz.func120, Tryz.func121, Tryz.func122, Tryz.func123, Tryz.func124, Tryz.func125, Tryz.func126, Tryz.func127, Tryz.func128, Tryz.func129, Tryz.func130, Tryz.func131, Tryz.func132, Tryz.func133, Tryz.func134, Tryz.func135, Tryz.func136, Tryz.func137, Tryz.func138, Tryz.func139, Tryz.func140, Tryz.func141, Tryz.func142, Tryz.func143, Tryz.func144, Tryz.func145, Tryz.func146, Tryz.func147, Tryz.func148, Tryz.func149, Tryz.func150, Tryz.func151, Tryz.func152, Tryz.func153, Tryz.func154, Tryz.func155, Tryz.func156, Tryz.func157, Tryz.func158, Tryz.func159, Tryz.func160, Tryz.func161, Tryz.func162, Tryz.func163, Tryz.func164, Tryz.func165, Tryz.func166, Tryz.func167, Tryz.func168, Tryz.func169, Tryz.func170, Tryz.func171, Tryz.func172, Tryz.func173, Tryz.func174, Tryz.func175, Tryz.func176, Tryz.func177, Tryz.func178, Tryz.func179, Tryz.func180, Tryz.func181, Tryz.func182, Tryz.func183, Tryz.func184, Tryz.func185, Tryz.func186, Tryz.func187, Tryz.func188, Tryz.func189, Tryz.func190, Tryz.func191, Tryz.func192, Tryz.func193, Tryz.func194, Tryz.func195, Tryz.func196, Tryz.func197, Tryz.func198, Tryz.func199, Tryz.func200, Tryz.func201, Tryz.func202, Tryz.func203, Tryz.func204, Tryz.func205, Tryz.func206, Tryz.func207, Tryz.func208, Tryz.func209, Tryz.func210, Tryz.func211, Tryz.func212, Tryz.func213, Tryz.func214, Tryz.func215, Tryz.func216, Tryz.func217, Tryz.func218, Tryz.func219, Tryz.func220, Tryz.func221, Tryz.func222, Tryz.func223, Tryz.func224, Tryz.func225, Tryz.func226, Tryz.func227, Tryz.func228, Tryz.func229, Tryz.func230, Tryz.func231, Tryz.func232, Tryz.func233, Tryz.func234, Tryz.func235, Tryz.func236, Tryz.func237, Tryz.func238, Tryz.func239, Tryz.func240, fun _ h => by cases h⟩
noncomputable def po5 : PO := ⟨[], fun _ _ => none, fun f => memN f [172, 195]⟩
noncomputable def nd5 : Nat → Bool := fun _ => false
noncomputable def F5 : Nat → Option AFun := funs 0 cstA T5 po5 nd5 fl5
theorem mix5 : Tryz.prog.follows .mixedOrders = true := by kernel_rfl
theorem enters172 : Enters Tryz.prog 172 := enters_of Tryz.func172 (by kernel_rfl) (by kernel_rfl)
theorem enters195 : Enters Tryz.prog 195 := enters_of Tryz.func195 (by kernel_rfl) (by kernel_rfl)
theorem ent5 : ∀ (l : List Nat) (f : Nat), memN f l = true → f ∈ l
  | [], f, h => by cases h
  | x :: l, f, h => by
    have h' : ifb (Nat.beq f x) true (memN f l) = true := h
    cases e : Nat.beq f x with
    | true => rw [Nat.eq_of_beq_eq_true e]; exact List.mem_cons_self
    | false => rw [e] at h'; exact List.mem_cons_of_mem _ (ent5 l f h')
theorem pok5 {K : Ctx} : POK Tryz.prog K po5 := ⟨fun t ht => (by cases ht), fun op vs z h => (by cases h), fun f h => by
  have := ent5 _ f (show memN f [172, 195] = true from h)
  simp only [List.mem_cons, List.mem_nil_iff, or_false] at this
  rcases this with rfl | rfl
  · exact ⟨enters172, by decide⟩
  · exact ⟨enters195, by decide⟩⟩
theorem funs5 {K : Ctx} (hK : K.codes = codesOf Tryz.prog) : ∀ f fn, F5 f = some fn → FunOK Tryz.prog K 0 f fn := funs_ok cst_ok T5_ok pok5 mix5 hK fl5_ok
/-! ## Calls that were reckoned before: the caller -/
noncomputable def cC (l : List CallM) : Caller := detC (callH (findC l) (fun _ => none) (fun _ => none) F5 (fun _ => false) 2000 400 noY)
def TabOK (l : List CallM) : Prop := ∀ K : Ctx, K.codes = codesOf Tryz.prog → ∀ m ∈ l, ∃ c, CallOK Tryz.prog K 0 c ∧ okM c m = true
theorem callC {l : List CallM} (hl : TabOK l) {K : Ctx} (hK : K.codes = codesOf Tryz.prog) : CallOK Tryz.prog K 0 (cC l) := callH1_ok (findC_ok (hl K hK)) (fun f g h => by cases h) (fun f g h => by cases h) (funs5 hK) 2000 400
theorem TabOK.nil : TabOK [] := fun K hK m hm => by cases hm
theorem TabOK.cons {m : CallM} {l : List CallM} (hl : TabOK l) (hm : okM (cC l) m = true) : TabOK (m :: l) := fun K hK m' hm' => by
  rcases List.mem_cons.1 hm' with rfl | h
  · exact ⟨_, callC hl hK, hm⟩
  · exact hl K hK m' h
noncomputable def h0 : AHeap := ⟨posOf 30, .nil, .nil⟩
theorem h0_ok {K : Ctx} {w : World} (hb : K.base = w.heap.size) (hw : K.w0 = w) : HR K (envOf fun _ => none) (fun _ => none) h0 w :=
  HR.of_rows (next := 30) (rows := []) hb hw (fun i hi => rfl) (fun p hp => by cases hp)
theorem enters5 : Enters Tryz.prog 5 := enters_of Tryz.func5 (by kernel_rfl) (by kernel_rfl)
end Go.Eng
