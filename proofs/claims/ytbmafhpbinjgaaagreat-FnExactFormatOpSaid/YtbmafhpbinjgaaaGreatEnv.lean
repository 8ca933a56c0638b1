/- The tables of this claim: types, functions, loops; no condition. -/
import Derived.Test.YtbmafhpbinjgaaaGreatProg
import Derived.Test.YtbmafhpbinjgaaaGreatVaiD
import Derived.KernelRfl
namespace Go.Proofs.YtbmafhpbinjgaaaGreat.Vai
open Go
set_option linter.unusedSimpArgs false
set_option linter.unusedVariables false
set_option linter.unnecessarySimpa false
set_option maxRecDepth 100000
def tTl : List (Nat × TI) := [
  (2, ⟨[.int .i64], 8, false, []⟩),
  (3, ⟨[.int .i64], 8, false, []⟩),
  (4, ⟨[.bool], 1, false, []⟩),
  (5, ⟨[.int .u8], 1, false, []⟩),
  (6, ⟨[.int .u8], 1, false, []⟩),
  (7, ⟨[.int .i64, .int .i64, .bool, .int .u8], 24, true, [(0, 2), (1, 3), (2, 4), (3, 6)]⟩),
  (8, ⟨[.int .i64, .int .i64, .bool, .int .u8], 24, true, [(0, 2), (1, 3), (2, 4), (3, 6)]⟩),
  (9, ⟨[.str], 16, false, []⟩),
  (10, ⟨[.str], 16, false, []⟩),
  (11, ⟨[.str], 16, false, []⟩),
  (12, ⟨[.int .u64], 8, false, []⟩),
  (13, ⟨[.str, .int .u64], 24, true, [(0, 9), (1, 12)]⟩),
  (14, ⟨[.str, .int .u64], 24, true, [(0, 9), (1, 12)]⟩),
  (21, ⟨[.int .i32], 4, false, []⟩),
  (22, ⟨[.sl 119], 24, false, []⟩),
  (23, ⟨[.sl 181], 24, false, []⟩),
  (24, ⟨[.sl 119, .int .i64, .sl 119, .sl 119, .sl 119, .sl 181, .int .i64, .int .i64, .int .i64, .int .i64], 160, true, [(0, 22), (1, 3), (2, 22), (3, 22), (4, 22), (5, 23), (6, 3), (7, 3), (8, 3), (9, 3)]⟩),
  (25, ⟨[.sl 119, .int .i64, .sl 119, .sl 119, .sl 119, .sl 181, .int .i64, .int .i64, .int .i64, .int .i64], 160, true, [(0, 22), (1, 3), (2, 22), (3, 22), (4, 22), (5, 23), (6, 3), (7, 3), (8, 3), (9, 3)]⟩),
  (26, ⟨[.sl 184], 24, false, []⟩),
  (27, ⟨[.sl 184, .int .i64, .int .i64], 40, true, [(0, 26), (1, 3), (2, 3)]⟩),
  (28, ⟨[.sl 184, .int .i64, .int .i64], 40, true, [(0, 26), (1, 3), (2, 3)]⟩),
  (29, ⟨[.sl 187], 24, false, []⟩),
  (30, ⟨[.sl 187, .int .i64, .bool], 40, true, [(0, 29), (1, 3), (2, 4)]⟩),
  (31, ⟨[.sl 187, .int .i64, .bool], 40, true, [(0, 29), (1, 3), (2, 4)]⟩),
  (32, ⟨[.int .i64, .sl 119, .int .i64, .sl 119, .sl 119, .sl 119, .sl 181, .int .i64, .int .i64, .int .i64, .int .i64, .sl 184, .int .i64, .int .i64, .sl 187, .int .i64, .bool], 248, true, [(0, 3), (1, 25), (11, 28), (14, 31)]⟩),
  (33, ⟨[.int .i64, .sl 119, .int .i64, .sl 119, .sl 119, .sl 119, .sl 181, .int .i64, .int .i64, .int .i64, .int .i64, .sl 184, .int .i64, .int .i64, .sl 187, .int .i64, .bool], 248, true, [(0, 3), (1, 25), (11, 28), (14, 31)]⟩),
  (36, ⟨[.sl 111], 24, false, []⟩),
  (37, ⟨[.sl 145], 24, false, []⟩),
  (38, ⟨[.sl 111, .int .i64, .sl 111, .sl 111, .sl 111, .sl 145, .int .i64, .int .i64, .int .i64, .int .i64], 160, true, [(0, 36), (1, 3), (2, 36), (3, 36), (4, 36), (5, 37), (6, 3), (7, 3), (8, 3), (9, 3)]⟩),
  (39, ⟨[.sl 111, .int .i64, .sl 111, .sl 111, .sl 111, .sl 145, .int .i64, .int .i64, .int .i64, .int .i64], 160, true, [(0, 36), (1, 3), (2, 36), (3, 36), (4, 36), (5, 37), (6, 3), (7, 3), (8, 3), (9, 3)]⟩),
  (40, ⟨[.sl 132], 24, false, []⟩),
  (41, ⟨[.sl 132, .int .i64, .int .i64], 40, true, [(0, 40), (1, 3), (2, 3)]⟩),
  (42, ⟨[.sl 132, .int .i64, .int .i64], 40, true, [(0, 40), (1, 3), (2, 3)]⟩),
  (43, ⟨[.sl 135], 24, false, []⟩),
  (44, ⟨[.sl 135, .int .i64, .bool], 40, true, [(0, 43), (1, 3), (2, 4)]⟩),
  (45, ⟨[.sl 135, .int .i64, .bool], 40, true, [(0, 43), (1, 3), (2, 4)]⟩),
  (46, ⟨[.int .i64, .sl 111, .int .i64, .sl 111, .sl 111, .sl 111, .sl 145, .int .i64, .int .i64, .int .i64, .int .i64, .sl 132, .int .i64, .int .i64, .sl 135, .int .i64, .bool], 248, true, [(0, 3), (1, 39), (11, 42), (14, 45)]⟩),
  (47, ⟨[.int .i64, .sl 111, .int .i64, .sl 111, .sl 111, .sl 111, .sl 145, .int .i64, .int .i64, .int .i64, .int .i64, .sl 132, .int .i64, .int .i64, .sl 135, .int .i64, .bool], 248, true, [(0, 3), (1, 39), (11, 42), (14, 45)]⟩),
  (55, ⟨[.sl 5], 24, false, []⟩),
  (57, ⟨[.sl 111, .int .i64, .sl 111, .sl 111, .sl 111, .sl 145, .int .i64, .int .i64, .int .i64, .int .i64, .sl 111], 184, true, [(0, 39), (10, 36)]⟩),
  (58, ⟨[.sl 111, .int .i64, .sl 111, .sl 111, .sl 111, .sl 145, .int .i64, .int .i64, .int .i64, .int .i64, .sl 111], 184, true, [(0, 39), (10, 36)]⟩),
  (67, ⟨[.sl 3], 24, false, []⟩),
  (98, ⟨[.sl 9], 24, false, []⟩),
  (110, ⟨[.int .i64, .int .i64, .int .i64], 24, true, [(0, 3), (1, 3), (2, 3)]⟩),
  (111, ⟨[.int .i64, .int .i64, .int .i64], 24, true, [(0, 3), (1, 3), (2, 3)]⟩),
  (119, ⟨[.int .i64, .int .i64, .int .i64], 24, true, [(0, 3), (1, 3), (2, 3)]⟩),
  (130, ⟨[.sl 4], 24, false, []⟩),
  (131, ⟨[.int .i64, .sl 111, .sl 111, .sl 4, .int .i64], 88, true, [(0, 3), (1, 36), (2, 36), (3, 130), (4, 3)]⟩),
  (132, ⟨[.int .i64, .sl 111, .sl 111, .sl 4, .int .i64], 88, true, [(0, 3), (1, 36), (2, 36), (3, 130), (4, 3)]⟩),
  (134, ⟨[.sl 111, .int .i64], 32, true, [(0, 36), (1, 3)]⟩),
  (135, ⟨[.sl 111, .int .i64], 32, true, [(0, 36), (1, 3)]⟩),
  (144, ⟨[.sl 111], 24, true, [(0, 36)]⟩),
  (145, ⟨[.sl 111], 24, true, [(0, 36)]⟩),
  (158, ⟨[.sl 5, .int .i64, .int .i64], 40, true, [(0, 55), (1, 3), (2, 3)]⟩),
  (159, ⟨[.sl 5, .int .i64, .int .i64], 40, true, [(0, 55), (1, 3), (2, 3)]⟩),
  (180, ⟨[.sl 119], 24, true, [(0, 22)]⟩),
  (181, ⟨[.sl 119], 24, true, [(0, 22)]⟩),
  (183, ⟨[.int .i64, .sl 119, .sl 119, .sl 4, .int .i64], 88, true, [(0, 3), (1, 22), (2, 22), (3, 130), (4, 3)]⟩),
  (184, ⟨[.int .i64, .sl 119, .sl 119, .sl 4, .int .i64], 88, true, [(0, 3), (1, 22), (2, 22), (3, 130), (4, 3)]⟩),
  (186, ⟨[.sl 119, .int .i64], 32, true, [(0, 22), (1, 3)]⟩),
  (187, ⟨[.sl 119, .int .i64], 32, true, [(0, 22), (1, 3)]⟩),
  (194, ⟨[.int .u64], 8, false, []⟩),
  (203, ⟨[.sl 36], 24, false, []⟩),
  (227, ⟨[.int .u32], 4, false, []⟩),
  (228, ⟨[.int .u8], 1, false, []⟩),
  (229, ⟨[.int .u8], 1, false, []⟩),
  (232, ⟨[.int .i32], 4, false, []⟩),
  (233, ⟨[.int .i32], 4, false, []⟩)]
noncomputable def tFl : List (Nat × Func) := [(26, Tryz.f26), (168, Tryz.f168), (94, Tryz.f94), (33, Tryz.f33), (204, Tryz.f204), (169, Tryz.f169), (95, Tryz.f95), (34, Tryz.f34), (170, Tryz.f170), (96, Tryz.f96), (35, Tryz.f35), (7, Tryz.f7), (83, Tryz.f83), (144, Tryz.f144), (71, Tryz.f71), (73, Tryz.f73), (139, Tryz.f139), (138, Tryz.f138), (137, Tryz.f137), (140, Tryz.f140), (163, Tryz.f163), (160, Tryz.f160), (187, Tryz.f187), (141, Tryz.f141), (74, Tryz.f74), (142, Tryz.f142), (143, Tryz.f143), (70, Tryz.f70), (98, Tryz.f98), (171, Tryz.f171), (97, Tryz.f97), (99, Tryz.f99), (36, Tryz.f36), (205, Tryz.f205), (172, Tryz.f172), (100, Tryz.f100), (101, Tryz.f101), (37, Tryz.f37), (102, Tryz.f102), (38, Tryz.f38), (8, Tryz.f8), (86, Tryz.f86), (28, Tryz.f28), (173, Tryz.f173), (103, Tryz.f103), (39, Tryz.f39), (206, Tryz.f206), (174, Tryz.f174), (104, Tryz.f104), (40, Tryz.f40), (175, Tryz.f175), (105, Tryz.f105), (41, Tryz.f41), (9, Tryz.f9), (89, Tryz.f89), (186, Tryz.f186), (153, Tryz.f153), (76, Tryz.f76), (106, Tryz.f106), (176, Tryz.f176), (107, Tryz.f107), (177, Tryz.f177), (108, Tryz.f108), (64, Tryz.f64), (78, Tryz.f78), (191, Tryz.f191), (156, Tryz.f156), (146, Tryz.f146), (145, Tryz.f145), (147, Tryz.f147), (148, Tryz.f148), (199, Tryz.f199), (188, Tryz.f188), (189, Tryz.f189), (149, Tryz.f149), (154, Tryz.f154), (209, Tryz.f209), (214, Tryz.f214), (213, Tryz.f213), (210, Tryz.f210), (190, Tryz.f190), (155, Tryz.f155), (79, Tryz.f79), (150, Tryz.f150), (151, Tryz.f151), (152, Tryz.f152), (75, Tryz.f75), (109, Tryz.f109), (42, Tryz.f42), (207, Tryz.f207), (178, Tryz.f178), (110, Tryz.f110), (111, Tryz.f111), (43, Tryz.f43), (112, Tryz.f112), (44, Tryz.f44), (10, Tryz.f10), (93, Tryz.f93), (31, Tryz.f31), (179, Tryz.f179), (113, Tryz.f113), (45, Tryz.f45), (208, Tryz.f208), (180, Tryz.f180), (114, Tryz.f114), (46, Tryz.f46), (181, Tryz.f181), (115, Tryz.f115), (47, Tryz.f47), (11, Tryz.f11), (3, Tryz.f3), (68, Tryz.f68), (116, Tryz.f116), (136, Tryz.f136), (69, Tryz.f69), (48, Tryz.f48), (117, Tryz.f117), (49, Tryz.f49), (50, Tryz.f50), (12, Tryz.f12), (62, Tryz.f62), (120, Tryz.f120), (133, Tryz.f133), (63, Tryz.f63), (121, Tryz.f121), (51, Tryz.f51), (122, Tryz.f122), (52, Tryz.f52), (53, Tryz.f53), (13, Tryz.f13), (123, Tryz.f123), (124, Tryz.f124), (54, Tryz.f54), (182, Tryz.f182), (125, Tryz.f125), (55, Tryz.f55), (126, Tryz.f126), (56, Tryz.f56), (14, Tryz.f14), (127, Tryz.f127), (128, Tryz.f128), (57, Tryz.f57), (183, Tryz.f183), (129, Tryz.f129), (58, Tryz.f58), (130, Tryz.f130), (59, Tryz.f59), (15, Tryz.f15), (4, Tryz.f4), (16, Tryz.f16), (135, Tryz.f135), (132, Tryz.f132), (66, Tryz.f66), (81, Tryz.f81), (194, Tryz.f194), (159, Tryz.f159), (195, Tryz.f195), (196, Tryz.f196), (161, Tryz.f161), (162, Tryz.f162), (85, Tryz.f85), (184, Tryz.f184), (185, Tryz.f185), (131, Tryz.f131), (60, Tryz.f60), (61, Tryz.f61), (17, Tryz.f17), (77, Tryz.f77), (23, Tryz.f23), (18, Tryz.f18), (19, Tryz.f19), (72, Tryz.f72), (22, Tryz.f22), (65, Tryz.f65), (134, Tryz.f134), (67, Tryz.f67), (20, Tryz.f20), (21, Tryz.f21), (80, Tryz.f80), (24, Tryz.f24), (25, Tryz.f25), (5, Tryz.f5), (82, Tryz.f82), (193, Tryz.f193), (158, Tryz.f158), (192, Tryz.f192), (157, Tryz.f157), (84, Tryz.f84), (27, Tryz.f27), (29, Tryz.f29), (87, Tryz.f87), (164, Tryz.f164), (88, Tryz.f88), (166, Tryz.f166), (211, Tryz.f211), (197, Tryz.f197), (165, Tryz.f165), (90, Tryz.f90), (212, Tryz.f212), (198, Tryz.f198), (201, Tryz.f201), (202, Tryz.f202), (167, Tryz.f167), (30, Tryz.f30), (32, Tryz.f32), (6, Tryz.f6), (118, Tryz.f118), (119, Tryz.f119)]
def tKl : List (Nat × Nat × List Nat) := [(94, 5, [0, 1, 5]), (95, 5, [0, 1, 5]), (96, 5, [0, 1, 5]), (71, 2, [0, 3]), (73, 4, [0, 1, 5]), (139, 4, [5, 6, 7]), (138, 2, [0, 3]), (137, 2, [0, 3]), (140, 3, [0, 3, 4]), (187, 3, [0, 3, 4]), (74, 6, [0, 3, 4, 5]), (74, 3, [0, 3, 4]), (142, 6, [5, 6, 7]), (143, 4, [0, 1, 5, 6, 7]), (70, 5, [1, 3, 4]), (98, 5, [0, 3, 4]), (97, 3, [0, 3, 4]), (99, 3, [0, 3, 4]), (100, 4, [1, 3, 4, 5]), (101, 5, [1, 3, 4]), (37, 5, [1, 3, 4]), (102, 3, [1, 3, 4]), (38, 7, [1, 3, 4]), (28, 3, [0, 3, 4]), (103, 3, [0, 3, 4]), (206, 3, [0, 3, 4]), (104, 3, [0, 3, 4]), (105, 3, [0, 3, 4]), (153, 2, [5, 6, 7]), (106, 3, [1, 5, 8, 9, 10]), (108, 3, [3, 7, 8, 9]), (78, 4, [0, 1, 12, 13]), (146, 2, [0, 3]), (145, 2, [5, 6, 7]), (148, 3, [3, 7, 8, 9]), (188, 3, [3, 6, 7, 8]), (209, 4, [0, 1, 2, 3, 8, 9]), (209, 1, [0, 1, 2, 3, 8]), (214, 1, [0, 1, 2, 3, 10]), (213, 2, [0, 1, 2, 3, 4, 10, 11]), (210, 33, [0, 1, 2, 3, 4, 18, 19, 20, 21, 22]), (210, 21, [0, 1, 2, 3, 14, 17]), (210, 15, [0, 1, 2, 3, 4, 14, 15]), (210, 9, [0, 1, 2, 3, 10, 13]), (210, 3, [0, 1, 2, 3, 4, 10, 11]), (190, 9, [0, 1, 2, 6, 7, 8]), (190, 7, [0, 1, 2, 6]), (190, 2, [0, 1, 2, 6, 7, 8]), (151, 3, [3, 7, 8, 9]), (152, 2, [0, 1, 5]), (75, 5, [3, 41, 42, 43]), (109, 3, [3, 7, 8, 9]), (110, 5, [1, 3, 4, 24, 25, 26]), (111, 5, [1, 3, 10, 11, 12]), (43, 5, [3, 17, 18, 19]), (112, 3, [1, 3, 7, 8, 9]), (44, 8, [4, 19, 20, 21]), (31, 4, [0, 1, 5]), (113, 4, [0, 1, 5]), (208, 4, [0, 1, 5]), (114, 4, [0, 1, 5]), (115, 4, [0, 1, 5]), (68, 4, [0, 1, 5, 6, 7]), (116, 4, [0, 4, 5, 6]), (69, 4, [0, 4, 5, 6]), (48, 12, [0, 2, 4, 5, 6, 7]), (117, 9, [0, 2, 4, 5, 6]), (49, 8, [0, 2, 4, 5, 6]), (50, 7, [0, 2, 4, 5, 6]), (62, 3, [0, 1, 5, 6, 10, 11]), (120, 8, [0, 4, 5, 27, 28]), (63, 5, [4, 13, 14, 15]), (121, 5, [4, 13, 14, 15]), (122, 10, [0, 2, 4, 6, 8, 10, 12, 13, 57, 58]), (52, 8, [2, 6, 8, 9, 38, 39, 40]), (53, 7, [2, 6, 7, 47, 48, 49]), (123, 2, [0, 1, 5]), (124, 2, [0, 1, 5]), (182, 2, [0, 1, 5]), (125, 2, [0, 1, 5]), (126, 2, [0, 1, 5]), (127, 2, [0, 1, 5]), (128, 2, [0, 1, 5]), (183, 2, [0, 1, 5]), (129, 2, [0, 1, 5]), (130, 2, [0, 1, 5]), (194, 3, [0, 3, 4]), (195, 3, [0, 3, 4]), (131, 4, [0, 5, 6, 7]), (60, 4, [0, 2, 5, 6]), (61, 3, [0, 3, 4]), (134, 4, [0, 5, 6, 7]), (80, 4, [0, 1, 5]), (25, 4, [0, 1, 5]), (82, 2, [0, 3]), (193, 3, [0, 3, 4]), (192, 2, [0, 1, 6]), (157, 3, [0, 4, 5]), (27, 7, [1, 2, 10, 11, 12, 13]), (29, 3, [0, 3, 4]), (88, 2, [0, 5, 6, 7]), (166, 3, [0, 3, 6, 7]), (211, 2, [0, 1, 2, 9]), (165, 2, [0, 4, 5]), (212, 3, [3, 6, 7, 8]), (201, 3, [0, 3, 6, 7, 8]), (32, 4, [0, 1, 5])]
noncomputable def tE : Env := ⟨lookN tTl, lookN tFl, modeOf [(209, .sorts 156), (214, .sorts 156), (213, .sorts 156), (210, .sorts 156), (190, .sorts 156), (155, .sorts 156), (123, .muts), (124, .muts), (54, .muts), (182, .muts), (125, .muts), (55, .muts), (126, .muts), (56, .muts), (14, .muts), (135, .cur 159), (132, .cur 159), (66, .cur 159), (184, .cur 159), (185, .cur 159), (131, .cur 159), (60, .cur 159), (61, .mk 159), (134, .cur 159), (67, .cur 159), (118, .capt 4), (119, .capt 4)], fun _ => none, keepOf tKl, fun t => memN t [111]⟩
theorem tAllF : AllF Tryz.prog tFl := ⟨Tryz.func26, Tryz.func168, Tryz.func94, Tryz.func33, Tryz.func204, Tryz.func169, Tryz.func95, Tryz.func34, Tryz.func170, Tryz.func96, Tryz.func35, Tryz.func7, Tryz.func83, Tryz.func144, Tryz.func71, Tryz.func73, Tryz.func139, Tryz.func138, Tryz.func137, Tryz.func140, Tryz.func163, Tryz.func160, Tryz.func187, Tryz.func141, Tryz.func74, Tryz.func142, Tryz.func143, Tryz.func70, Tryz.func98, Tryz.func171, Tryz.func97, Tryz.func99, Tryz.func36, Tryz.func205, Tryz.func172, Tryz.func100, Tryz.func101, Tryz.func37, Tryz.func102, Tryz.func38, Tryz.func8, Tryz.func86, Tryz.func28, Tryz.func173, Tryz.func103, Tryz.func39, Tryz.func206, Tryz.func174, Tryz.func104, Tryz.func40, Tryz.func175, Tryz.func105, Tryz.func41, Tryz.func9, Tryz.func89, Tryz.func186, Tryz.func153, Tryz.func76, Tryz.func106, Tryz.func176, Tryz.func107, Tryz.func177, Tryz.func108, Tryz.func64, Tryz.func78, Tryz.func191, Tryz.func156, Tryz.func146, Tryz.func145, Tryz.func147, Tryz.func148, Tryz.func199, Tryz.func188, Tryz.func189, Tryz.func149, Tryz.func154, Tryz.func209, Tryz.func214, Tryz.func213, Tryz.func210, Tryz.func190, Tryz.func155, Tryz.func79, Tryz.func150, Tryz.func151, Tryz.func152, Tryz.func75, Tryz.func109, Tryz.func42, Tryz.func207, Tryz.func178, Tryz.func110, Tryz.func111, Tryz.func43, Tryz.func112, Tryz.func44, Tryz.func10, Tryz.func93, Tryz.func31, Tryz.func179, Tryz.func113, Tryz.func45, Tryz.func208, Tryz.func180, Tryz.func114, Tryz.func46, Tryz.func181, Tryz.func115, Tryz.func47, Tryz.func11, Tryz.func3, Tryz.func68, Tryz.func116, Tryz.func136, Tryz.func69, Tryz.func48, Tryz.func117, Tryz.func49, Tryz.func50, Tryz.func12, Tryz.func62, Tryz.func120, Tryz.func133, Tryz.func63, Tryz.func121, Tryz.func51, Tryz.func122, Tryz.func52, Tryz.func53, Tryz.func13, Tryz.func123, Tryz.func124, Tryz.func54, Tryz.func182, Tryz.func125, Tryz.func55, Tryz.func126, Tryz.func56, Tryz.func14, Tryz.func127, Tryz.func128, Tryz.func57, Tryz.func183, Tryz.func129, Tryz.func58, Tryz.func130, Tryz.func59, Tryz.func15, Tryz.func4, Tryz.func16, Tryz.func135, Tryz.func132, Tryz.func66, Tryz.func81, Tryz.func194, Tryz.func159, Tryz.func195, Tryz.func196, Tryz.func161, Tryz.func162, Tryz.func85, Tryz.func184, Tryz.func185, Tryz.func131, Tryz.func60, Tryz.func61, Tryz.func17, Tryz.func77, Tryz.func23, Tryz.func18, Tryz.func19, Tryz.func72, Tryz.func22, Tryz.func65, Tryz.func134, Tryz.func67, Tryz.func20, Tryz.func21, Tryz.func80, Tryz.func24, Tryz.func25, Tryz.func5, Tryz.func82, Tryz.func193, Tryz.func158, Tryz.func192, Tryz.func157, Tryz.func84, Tryz.func27, Tryz.func29, Tryz.func87, Tryz.func164, Tryz.func88, Tryz.func166, Tryz.func211, Tryz.func197, Tryz.func165, Tryz.func90, Tryz.func212, Tryz.func198, Tryz.func201, Tryz.func202, Tryz.func167, Tryz.func30, Tryz.func32, Tryz.func6, Tryz.func118, Tryz.func119, True.intro⟩
theorem tEok : EnvOk Tryz.prog tE ∧ ∀ t ti, tE.T t = some ti → ti.agg = true → flatOk tE ti.ls 0 ti.fs = true :=
  envOk rfl rfl (by kernel_rfl) tAllF (by kernel_rfl) (by kernel_rfl) (eqs_ok rfl rfl (by kernel_rfl))
theorem tAt (f : FuncId) : PlainAt Tryz.prog tE f (callI tE f) := fun fn ps rs ds out h1 h2 h3 h4 h5 => by
  obtain ⟨k, hk⟩ := callI_iff.mp h5
  exact (icall_ok tEok.1 (modeOk_of rfl (by kernel_rfl)) (fun _ _ h => by cases h) k f).plain fn ps rs ds out h1 h2 h3 h4 hk
end Go.Proofs.YtbmafhpbinjgaaaGreat.Vai
