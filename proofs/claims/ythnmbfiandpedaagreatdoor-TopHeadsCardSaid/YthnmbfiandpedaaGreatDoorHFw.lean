/- The functions of a run. No statement of its own. -/
import Derived.Test.YthnmbfiandpedaaGreatDoorHGca
import Derived.Test.YthnmbfiandpedaaGreatDoorHTab
import Derived.Test.YthnmbfiandpedaaGreatDoorHGhs
set_option maxRecDepth 100000
namespace Go.Proofs.YthnmbfiandpedaaGreatDoor
open Go.RowKit
noncomputable def ftFw : List (Nat × FH) := [
  (4, .code ⟨Tryz.f4, true, false, pls []⟩),
  (5, .code ⟨Tryz.f5, false, false, pls []⟩),
  (6, .code ⟨Tryz.f6, false, false, pls [(12, (pln [0, 2, 4, 6, 8, 10, 12, 14, 16, 18, 20, 22, 24]))]⟩),
  (7, .code ⟨Tryz.f7, false, false, pls []⟩),
  (8, .code ⟨Tryz.f8, true, false, pls []⟩),
  (11, .code ⟨Tryz.f11, true, false, pls []⟩),
  (12, .code ⟨Tryz.f12, true, false, pls []⟩),
  (13, .code ⟨Tryz.f13, true, false, pls [(1, (pln [0, 4, 6, 8, 10, 2, 12, 14, 16, 18, 20, 22, 24, 26])), (2, (plk [0, 6, 8, 10, 12, 14, 16, 18] (.two 1 11 (pln [4, 20, 22, 24]) (pln [2, 4, 20, 24]))))]⟩),
  (14, .code ⟨Tryz.f14, false, false, pls [(1, (pln [0, 2, 4, 6, 8, 10, 12, 14, 16, 18])), (8, (pln [0, 2, 4, 6, 8, 10, 12, 14, 16, 18, 20, 22, 24, 26, 28, 30, 32, 35, 36, 38, 40, 42]))]⟩),
  (15, .code ⟨Tryz.f15, true, false, pls []⟩),
  (16, .code ⟨Tryz.f16, false, false, pls []⟩),
  (17, .code ⟨Tryz.f17, true, false, pls [(4, (pln [0, 2, 4, 8, 10, 6, 12, 14, 16]))]⟩),
  (18, .code ⟨Tryz.f18, false, false, pls []⟩),
  (19, .code ⟨Tryz.f19, true, false, pls []⟩),
  (20, .code ⟨Tryz.f20, false, false, pls []⟩),
  (23, .code ⟨Tryz.f23, false, false, pls []⟩),
  (24, .code ⟨Tryz.f24, false, false, pls [(8, (pln [0, 2, 4, 6, 8, 10, 13, 14, 16, 18, 20])), (10, (pln [0, 2, 4, 6, 8, 10, 13, 14, 16, 18, 20]))]⟩),
  (25, .code ⟨Tryz.f25, false, true, pls [(6, (.two 6 6 (pln [0, 2, 4, 6, 8, 10, 16, 12, 14]) .done))]⟩),
  (26, .code ⟨Tryz.f26, false, false, pls [(3, (pln [0, 2, 4, 6, 8, 10, 12, 14, 16, 18, 20, 22, 24, 26, 28, 30, 32, 34, 36, 38, 40, 42, 44, 46, 48, 50, 52, 54, 56, 58, 60, 62, 64]))]⟩),
  (27, .code ⟨Tryz.f27, true, false, pls [(12, (pln [0, 2, 4, 6, 8, 10, 12, 14]))]⟩),
  (28, .code ⟨Tryz.f28, true, false, pls []⟩),
  (29, .code ⟨Tryz.f29, true, false, pls []⟩),
  (30, .code ⟨Tryz.f30, false, false, pls []⟩),
  (31, .code ⟨Tryz.f31, false, false, pls [(2, (pln [0, 2, 4, 6, 8, 10, 12, 14, 16, 18, 20, 22, 24, 26, 28, 30, 32, 34, 36, 38, 40, 42]))]⟩),
  (32, .code ⟨Tryz.f32, true, false, pls [(3, (pln [0, 2, 4, 7, 8, 10, 12, 14, 18, 20, 16, 22, 24, 26]))]⟩),
  (33, .code ⟨Tryz.f33, true, false, pls []⟩),
  (34, .hook hkText),
  (35, .code ⟨Tryz.f35, true, false, pls []⟩),
  (36, .code ⟨Tryz.f36, true, false, pls []⟩),
  (37, .code ⟨Tryz.f37, false, false, pls []⟩),
  (38, .code ⟨Tryz.f38, false, false, pls [(11, (pln [0, 2, 6, 8, 4, 12, 10, 14, 16, 18])), (17, (pln [0, 2, 4, 6, 8, 10, 12, 14, 16, 18, 20])), (19, (pln [0, 2, 4, 6, 10, 12, 8, 14, 16, 18, 20, 22, 24, 26]))]⟩),
  (39, .code ⟨Tryz.f39, false, false, pls []⟩),
  (40, .code ⟨Tryz.f40, false, false, pls []⟩),
  (41, .code ⟨Tryz.f41, false, false, pls []⟩),
  (42, .code ⟨Tryz.f42, false, false, pls []⟩),
  (43, .code ⟨Tryz.f43, true, false, pls []⟩),
  (44, .code ⟨Tryz.f44, false, false, pls [(2, (pln [0, 2, 4, 6, 8, 10, 12, 14, 16, 18, 21, 22, 24, 26, 28, 30]))]⟩),
  (45, .code ⟨Tryz.f45, false, false, pls []⟩),
  (46, .code ⟨Tryz.f46, false, false, pls []⟩),
  (47, .code ⟨Tryz.f47, false, false, pls []⟩),
  (48, .code ⟨Tryz.f48, false, false, pls []⟩),
  (49, .code ⟨Tryz.f49, false, false, pls []⟩),
  (50, .code ⟨Tryz.f50, true, false, pls [(8, (pln [0, 2, 4, 6, 8, 10, 12, 14, 16]))]⟩),
  (51, .hook hkFp),
  (52, .code ⟨Tryz.f52, true, false, pls []⟩),
  (53, .code ⟨Tryz.f53, true, false, pls []⟩),
  (54, .code ⟨Tryz.f54, false, false, pls []⟩),
  (55, .hook hkVal),
  (56, .hook hkTrim),
  (57, .code ⟨Tryz.f57, true, false, pls []⟩),
  (58, .code ⟨Tryz.f58, true, false, pls []⟩),
  (59, .hook hkJoin),
  (60, .hook hkCA),
  (61, .code ⟨Tryz.f61, true, false, pls []⟩),
  (62, .code ⟨Tryz.f62, true, false, pls []⟩),
  (63, .code ⟨Tryz.f63, false, false, pls []⟩),
  (64, .code ⟨Tryz.f64, true, false, pls []⟩),
  (65, .code ⟨Tryz.f65, false, false, pls []⟩),
  (66, .code ⟨Tryz.f66, false, false, pls []⟩),
  (67, .code ⟨Tryz.f67, true, false, pls []⟩),
  (68, .code ⟨Tryz.f68, true, false, pls []⟩),
  (69, .code ⟨Tryz.f69, true, false, pls []⟩),
  (70, .code ⟨Tryz.f70, false, false, pls []⟩),
  (71, .code ⟨Tryz.f71, false, false, pls []⟩),
  (72, .code ⟨Tryz.f72, false, false, pls []⟩),
  (73, .code ⟨Tryz.f73, false, false, pls []⟩),
  (74, .code ⟨Tryz.f74, false, false, pls []⟩),
  (75, .code ⟨Tryz.f75, false, false, pls []⟩),
  (76, .code ⟨Tryz.f76, false, false, pls []⟩),
  (77, .code ⟨Tryz.f77, false, false, pls [(0, (pln [0, 2, 4, 6, 8, 10, 12, 14, 16, 18, 20, 23, 24, 26, 28, 30, 32]))]⟩),
  (78, .code ⟨Tryz.f78, false, false, pls []⟩),
  (79, .code ⟨Tryz.f79, false, false, pls [(1, (pln [0, 2, 4, 6, 8, 10, 12, 14, 16, 18]))]⟩),
  (80, .code ⟨Tryz.f80, false, false, pls [(0, (plk [0, 2, 4, 6, 8, 12, 14, 16, 18] (.both 5 10 (pln [21, 22, 24, 26, 28, 30]) (pln [11, 22, 24, 26, 28, 30])))), (1, (plk [0, 2, 4, 6, 8, 12, 14, 16, 18] (.both 5 10 (pln [21, 22, 24, 26, 28, 30]) (pln [11, 22, 24, 26, 28, 30])))), (3, (pln [0, 2, 4, 6, 8, 10, 12, 14, 16, 18, 20, 22, 24, 26, 28, 30, 32, 34, 36, 38, 40]))]⟩),
  (81, .code ⟨Tryz.f81, false, false, pls [(1, (plk [0, 2, 4, 6, 8, 10, 12, 14, 16, 18, 20, 22, 24, 26, 28, 30, 32, 34, 36] (.two 19 24 (pln [40, 42, 44, 46, 48, 50, 52, 54]) (pln [38, 40, 42, 44, 46, 50, 52, 54]))))]⟩),
  (82, .code ⟨Tryz.f82, false, false, pls []⟩),
  (84, .code ⟨Tryz.f84, false, false, pls []⟩),
  (85, .code ⟨Tryz.f85, false, false, pls []⟩),
  (86, .code ⟨Tryz.f86, false, false, pls [(3, (pln [0, 2, 4, 6, 8, 10, 12, 14, 16, 18]))]⟩),
  (87, .hook hkIdx),
  (88, .hook hkSplit),
  (89, .hook hkTok),
  (90, .code ⟨Tryz.f90, true, false, pls []⟩),
  (93, .code ⟨Tryz.f93, true, false, pls []⟩),
  (94, .code ⟨Tryz.f94, true, false, pls []⟩),
  (96, .code ⟨Tryz.f96, false, false, pls []⟩),
  (98, .code ⟨Tryz.f98, true, false, pls []⟩),
  (99, .code ⟨Tryz.f99, false, false, pls []⟩),
  (100, .code ⟨Tryz.f100, false, false, pls []⟩),
  (101, .hook hkHostP),
  (102, .code ⟨Tryz.f102, true, false, pls []⟩),
  (103, .code ⟨Tryz.f103, false, false, pls [(3, (pln [0, 2, 4, 6, 8, 10, 12, 14, 16, 18, 20, 22, 24]))]⟩),
  (104, .code ⟨Tryz.f104, false, false, pls []⟩),
  (105, .code ⟨Tryz.f105, false, false, pls [(1, (pln [0, 2, 4, 6, 8, 10, 12, 14, 16, 18, 20, 22]))]⟩),
  (106, .code ⟨Tryz.f106, true, false, pls []⟩),
  (107, .code ⟨Tryz.f107, true, false, pls []⟩),
  (108, .code ⟨Tryz.f108, true, false, pls []⟩),
  (109, .code ⟨Tryz.f109, false, false, pls [(7, (pln [0, 2, 4, 6, 8, 10, 12, 14, 16, 18, 20]))]⟩),
  (110, .code ⟨Tryz.f110, true, false, pls []⟩),
  (111, .code ⟨Tryz.f111, false, false, pls []⟩),
  (112, .code ⟨Tryz.f112, true, false, pls []⟩),
  (113, .code ⟨Tryz.f113, false, false, pls []⟩),
  (114, .hook hkCut),
  (115, .hook hkDig),
  (116, .code ⟨Tryz.f116, true, false, pls []⟩),
  (117, .code ⟨Tryz.f117, false, false, pls [(3, (pln [0, 2, 4, 6, 8, 10, 12, 14, 16, 18, 20]))]⟩),
  (118, .code ⟨Tryz.f118, true, false, pls []⟩),
  (119, .code ⟨Tryz.f119, true, false, pls []⟩),
  (120, .code ⟨Tryz.f120, true, false, pls []⟩),
  (121, .code ⟨Tryz.f121, true, false, pls []⟩),
  (122, .code ⟨Tryz.f122, false, false, pls []⟩),
  (123, .code ⟨Tryz.f123, false, false, pls []⟩),
  (124, .code ⟨Tryz.f124, false, false, pls []⟩),
  (125, .code ⟨Tryz.f125, false, false, pls [(5, (pln [0, 2, 4, 6, 8, 10, 12, 15, 16, 18, 20, 22, 24, 26, 28])), (6, (pln [0, 2, 4, 6, 8, 10, 12, 15, 16, 18, 20, 22, 24, 26, 28]))]⟩),
  (126, .code ⟨Tryz.f126, false, false, pls [(15, (pln [0, 2, 4, 6, 8, 10, 12, 14, 16, 18, 20, 22]))]⟩),
  (127, .code ⟨Tryz.f127, false, false, pls []⟩),
  (128, .code ⟨Tryz.f128, false, false, pls []⟩),
  (129, .code ⟨Tryz.f129, false, false, pls [(0, (pln [0, 2, 4, 6, 8, 10, 12, 14, 16, 18, 20, 23, 24, 26, 28, 30, 32])), (4, (pln [0, 2, 4, 6, 8, 10, 13]))]⟩),
  (130, .code ⟨Tryz.f130, false, false, pls []⟩),
  (131, .code ⟨Tryz.f131, false, false, pls []⟩),
  (132, .code ⟨Tryz.f132, false, false, pls []⟩),
  (133, .code ⟨Tryz.f133, false, false, pls []⟩),
  (134, .code ⟨Tryz.f134, false, false, pls []⟩),
  (135, .code ⟨Tryz.f135, false, false, pls []⟩),
  (136, .code ⟨Tryz.f136, false, false, pls []⟩),
  (137, .code ⟨Tryz.f137, false, false, pls []⟩),
  (138, .code ⟨Tryz.f138, false, false, pls [(3, (pln [0, 2, 4, 8, 10, 12, 7, 15, 16, 18]))]⟩),
  (139, .code ⟨Tryz.f139, true, false, pls []⟩),
  (140, .code ⟨Tryz.f140, false, false, pls [(3, (pln [0, 2, 4, 6, 8, 10, 12, 14, 16, 18, 20]))]⟩),
  (143, .code ⟨Tryz.f143, true, false, pls []⟩),
  (145, .code ⟨Tryz.f145, false, false, pls []⟩),
  (146, .code ⟨Tryz.f146, true, false, pls []⟩),
  (147, .code ⟨Tryz.f147, true, false, pls []⟩),
  (148, .code ⟨Tryz.f148, true, false, pls []⟩),
  (149, .code ⟨Tryz.f149, false, false, pls []⟩),
  (150, .code ⟨Tryz.f150, false, false, pls []⟩),
  (151, .code ⟨Tryz.f151, true, false, pls []⟩),
  (154, .code ⟨Tryz.f154, true, false, pls []⟩),
  (155, .code ⟨Tryz.f155, false, false, pls []⟩),
  (156, .code ⟨Tryz.f156, false, false, pls [(0, (pln [0, 2, 4, 6, 8, 10, 12, 14, 18, 20, 22, 24, 26, 16, 28, 30]))]⟩),
  (157, .code ⟨Tryz.f157, true, false, pls [(6, (pln [0, 2, 4, 6, 8, 10, 12])), (7, (pln [0, 2, 4, 6, 8, 10, 12, 14, 16])), (14, (pln [0, 2, 4, 6, 8, 10, 12, 14, 16, 18, 20])), (31, (pln [0, 2, 4, 6, 8, 10, 12, 14, 16, 18, 20]))]⟩),
  (158, .code ⟨Tryz.f158, true, false, pls []⟩),
  (159, .code ⟨Tryz.f159, false, false, pls []⟩),
  (160, .code ⟨Tryz.f160, true, false, pls []⟩),
  (161, .code ⟨Tryz.f161, false, false, pls []⟩),
  (162, .code ⟨Tryz.f162, true, false, pls []⟩),
  (164, .code ⟨Tryz.f164, false, false, pls []⟩),
  (165, .code ⟨Tryz.f165, true, false, pls []⟩),
  (166, .code ⟨Tryz.f166, true, false, pls []⟩),
  (167, .code ⟨Tryz.f167, true, false, pls []⟩),
  (168, .code ⟨Tryz.f168, true, false, pls []⟩),
  (169, .code ⟨Tryz.f169, true, false, pls []⟩),
  (170, .code ⟨Tryz.f170, true, false, pls []⟩),
  (171, .code ⟨Tryz.f171, true, false, pls []⟩),
  (172, .code ⟨Tryz.f172, false, false, pls []⟩),
  (173, .code ⟨Tryz.f173, false, false, pls [(1, (pln [0, 2, 4, 6, 8, 10, 12, 14, 16, 18, 20]))]⟩),
  (174, .code ⟨Tryz.f174, true, false, pls []⟩),
  (175, .code ⟨Tryz.f175, false, false, pls [(5, (pln [0, 2, 4, 6, 8])), (6, (plk [0, 2, 4, 6, 8, 10, 12, 14, 16, 18] (.two 10 14 (pln [22, 24, 26, 28, 30, 32]) (pln [20, 22, 24, 26, 30, 32])))), (8, (pln [0, 2, 4, 6, 8])), (9, (pln [0, 2, 4, 6, 8, 10, 12, 14, 16, 18, 20, 22])), (10, (pln [0, 2, 4, 6, 8, 10]))]⟩),
  (176, .code ⟨Tryz.f176, false, false, pls []⟩),
  (177, .code ⟨Tryz.f177, false, false, pls []⟩),
  (178, .code ⟨Tryz.f178, false, false, pls []⟩),
  (179, .code ⟨Tryz.f179, false, false, pls [(13, (pln [0, 2, 4, 6, 8, 10, 12, 14, 16]))]⟩),
  (180, .code ⟨Tryz.f180, false, false, pls []⟩),
  (181, .code ⟨Tryz.f181, false, false, pls [(6, (pln [0, 2, 4, 6, 8, 10, 12, 14, 16, 18])), (7, (pln [0, 2, 4, 6, 8, 10, 12, 14, 16, 18, 20, 22, 24, 26])), (8, (pln [0, 2, 4, 6, 8, 10, 12, 14, 16, 18, 20, 22, 24]))]⟩),
  (182, .code ⟨Tryz.f182, true, false, pls [(1, (pln [0, 2, 4, 6, 8, 10, 12, 14]))]⟩),
  (183, .code ⟨Tryz.f183, false, false, pls []⟩),
  (184, .code ⟨Tryz.f184, true, false, pls []⟩),
  (185, .code ⟨Tryz.f185, false, false, pls []⟩),
  (186, .code ⟨Tryz.f186, false, false, pls [(1, (plk [0, 2, 4, 6, 8, 10, 12, 14, 16, 18] (.two 10 14 (pln [22, 24, 26, 28, 30, 32]) (pln [20, 22, 24, 26, 30, 32])))), (4, (pln [0, 2, 4, 6, 8, 10, 12, 14, 16, 18, 20, 22]))]⟩),
  (187, .code ⟨Tryz.f187, false, false, pls [(5, (plk [0, 2, 4, 6, 8, 10, 12, 14, 16, 18] (.two 10 14 (pln [22, 24, 26, 28, 30, 32]) (pln [20, 22, 24, 26, 30, 32])))), (10, (pln [0, 2, 4, 6, 8, 10, 12, 16, 18, 20, 22, 24, 14, 26, 28, 30, 32, 34, 36])), (15, (pln [0, 2, 4, 6, 8, 10, 12, 15, 16, 18, 20, 22, 24, 26, 28])), (16, (pln [0, 2, 4, 6, 8, 10, 12, 15, 16, 18, 20, 22, 24, 26, 28]))]⟩),
  (188, .code ⟨Tryz.f188, false, false, pls []⟩),
  (189, .code ⟨Tryz.f189, false, false, pls []⟩),
  (190, .code ⟨Tryz.f190, false, false, pls []⟩),
  (191, .code ⟨Tryz.f191, false, false, pls [(1, (pln [0, 2, 4, 6, 10, 12, 14, 16, 22, 24, 26, 28, 8, 18, 20, 30, 32, 34]))]⟩),
  (192, .code ⟨Tryz.f192, true, false, pls []⟩),
  (193, .code ⟨Tryz.f193, false, false, pls []⟩),
  (196, .code ⟨Tryz.f196, true, false, pls []⟩),
  (199, .code ⟨Tryz.f199, true, false, pls []⟩),
  (200, .code ⟨Tryz.f200, true, false, pls []⟩),
  (201, .hook hkIdxB),
  (202, .code ⟨Tryz.f202, true, false, pls []⟩),
  (203, .code ⟨Tryz.f203, true, false, pls []⟩),
  (204, .hook hkFold),
  (205, .code ⟨Tryz.f205, true, false, pls []⟩),
  (206, .hook hkFour),
  (207, .code ⟨Tryz.f207, true, false, pls []⟩),
  (208, .code ⟨Tryz.f208, true, false, pls []⟩),
  (209, .code ⟨Tryz.f209, true, false, pls []⟩),
  (210, .code ⟨Tryz.f210, true, false, pls [(7, (pln [0, 2, 4, 6, 8, 10, 12, 14, 16, 18, 20, 22, 24, 26, 28])), (8, (pln [0, 2, 4, 6, 8, 10, 12, 14, 16, 18, 20, 22, 24, 26, 28])), (9, (pln [0, 2, 4, 6, 8, 10, 12, 14, 16, 18, 20, 22, 24, 26, 28])), (10, (pln [0, 2, 4, 6, 8, 10, 12, 14, 16, 18, 20, 22, 24, 26, 28])), (17, (pln [0, 2, 4, 6, 8, 10, 12, 14, 16, 18, 20, 22, 24, 26, 28])), (18, (pln [0, 2, 4, 6, 8, 10, 12, 14, 16, 18, 20, 22, 24, 26, 28])), (23, (pln [0, 2, 4, 6, 8, 10, 12, 14, 16, 18, 20, 22, 24, 26, 28]))]⟩),
  (211, .code ⟨Tryz.f211, true, false, pls []⟩),
  (214, .code ⟨Tryz.f214, true, false, pls []⟩),
  (215, .code ⟨Tryz.f215, false, false, pls []⟩),
  (216, .code ⟨Tryz.f216, false, false, pls []⟩),
  (217, .code ⟨Tryz.f217, true, false, pls []⟩),
  (218, .code ⟨Tryz.f218, true, false, pls [(12, (pln [0, 2, 4, 6, 8, 10, 12, 14, 16]))]⟩),
  (219, .code ⟨Tryz.f219, true, false, pls []⟩),
  (220, .code ⟨Tryz.f220, true, false, pls []⟩),
  (221, .code ⟨Tryz.f221, false, false, pls []⟩),
  (222, .code ⟨Tryz.f222, false, false, pls []⟩),
  (223, .code ⟨Tryz.f223, false, false, pls []⟩),
  (224, .code ⟨Tryz.f224, true, false, pls []⟩),
  (225, .code ⟨Tryz.f225, true, false, pls []⟩),
  (226, .code ⟨Tryz.f226, true, false, pls []⟩),
  (227, .code ⟨Tryz.f227, true, false, pls []⟩),
  (228, .code ⟨Tryz.f228, true, false, pls [(4, (pln [0, 2, 6, 8, 10, 12, 14, 4, 16, 18, 20, 22, 24, 26, 28])), (10, (pln [0, 2, 4, 6, 8, 10, 12]))]⟩),
  (229, .code ⟨Tryz.f229, false, false, pls []⟩),
  (230, .code ⟨Tryz.f230, false, false, pls []⟩),
  (231, .code ⟨Tryz.f231, false, false, pls []⟩),
  (232, .code ⟨Tryz.f232, true, false, pls []⟩),
  (233, .code ⟨Tryz.f233, true, false, pls []⟩),
  (234, .code ⟨Tryz.f234, true, false, pls []⟩),
  (235, .code ⟨Tryz.f235, false, false, pls []⟩),
  (236, .code ⟨Tryz.f236, true, false, pls []⟩),
  (237, .code ⟨Tryz.f237, true, false, pls []⟩),
  (238, .code ⟨Tryz.f238, false, false, pls []⟩),
  (239, .code ⟨Tryz.f239, true, false, pls []⟩),
  (240, .code ⟨Tryz.f240, true, false, pls []⟩),
  (241, .code ⟨Tryz.f241, true, false, pls []⟩),
  (242, .code ⟨Tryz.f242, true, false, pls []⟩),
  (243, .code ⟨Tryz.f243, false, false, pls []⟩),
  (244, .code ⟨Tryz.f244, false, false, pls []⟩),
  (245, .code ⟨Tryz.f245, false, false, pls []⟩),
  (248, .code ⟨Tryz.f248, true, false, pls []⟩),
  (250, .code ⟨Tryz.f250, true, false, pls []⟩),
  (252, .code ⟨Tryz.f252, true, false, pls []⟩),
  (253, .hook hkUnr),
  (254, .hook hkSub),
  (255, .code ⟨Tryz.f255, true, false, pls []⟩),
  (256, .code ⟨Tryz.f256, true, false, pls []⟩),
  (257, .code ⟨Tryz.f257, true, false, pls []⟩),
  (258, .code ⟨Tryz.f258, true, false, pls []⟩),
  (259, .code ⟨Tryz.f259, true, false, pls []⟩),
  (260, .code ⟨Tryz.f260, true, false, pls []⟩),
  (261, .hook hkPcut),
  (262, .code ⟨Tryz.f262, true, false, pls []⟩),
  (263, .code ⟨Tryz.f263, true, false, pls []⟩),
  (264, .code ⟨Tryz.f264, true, false, pls []⟩),
  (265, .code ⟨Tryz.f265, true, false, pls []⟩),
  (266, .code ⟨Tryz.f266, true, false, pls [(4, (pln [0, 2, 4, 6, 8, 10, 12, 14, 16, 18])), (13, (pln [0, 2, 4, 6, 8, 10]))]⟩),
  (267, .code ⟨Tryz.f267, true, false, pls []⟩),
  (268, .code ⟨Tryz.f268, true, false, pls []⟩),
  (269, .code ⟨Tryz.f269, true, false, pls []⟩),
  (270, .code ⟨Tryz.f270, true, false, pls []⟩),
  (271, .code ⟨Tryz.f271, true, false, pls []⟩),
  (272, .hook hkLen),
  (273, .code ⟨Tryz.f273, true, false, pls [(1, (pln [0, 2, 8, 4, 6, 10, 12, 14])), (12, (pln [0, 2, 4, 6, 8, 10, 12, 14, 16, 18, 20, 22]))]⟩),
  (274, .code ⟨Tryz.f274, true, false, pls []⟩),
  (275, .hook hkKn),
  (276, .code ⟨Tryz.f276, false, false, pls [(3, (pln [0, 6, 8, 12, 14, 2, 4, 10, 16, 18, 20, 22, 24, 26])), (9, (pln [0, 4, 2, 6, 8, 10]))]⟩),
  (277, .code ⟨Tryz.f277, true, false, pls []⟩),
  (278, .code ⟨Tryz.f278, false, false, pls []⟩),
  (279, .code ⟨Tryz.f279, false, false, pls []⟩),
  (280, .code ⟨Tryz.f280, false, false, pls [(5, (pln [0, 2, 4, 6, 8, 10, 12, 14, 16, 18, 20, 22, 24, 26]))]⟩),
  (281, .code ⟨Tryz.f281, true, false, pls []⟩),
  (282, .code ⟨Tryz.f282, true, false, pls []⟩),
  (283, .code ⟨Tryz.f283, false, false, pls []⟩),
  (284, .code ⟨Tryz.f284, true, false, pls []⟩),
  (285, .code ⟨Tryz.f285, false, false, pls []⟩),
  (286, .code ⟨Tryz.f286, true, false, pls []⟩),
  (287, .code ⟨Tryz.f287, true, false, pls []⟩),
  (288, .code ⟨Tryz.f288, true, false, pls []⟩),
  (289, .code ⟨Tryz.f289, false, false, pls []⟩),
  (290, .code ⟨Tryz.f290, false, false, pls []⟩),
  (291, .hook hkHex),
  (293, .code ⟨Tryz.f293, true, false, pls []⟩),
  (294, .code ⟨Tryz.f294, true, false, pls []⟩),
  (297, .code ⟨Tryz.f297, true, false, pls []⟩),
  (298, .code ⟨Tryz.f298, true, false, pls []⟩),
  (299, .code ⟨Tryz.f299, true, false, pls []⟩),
  (300, .code ⟨Tryz.f300, true, false, pls [(3, (pln [0, 2, 4, 6, 8, 10, 12, 14]))]⟩),
  (301, .code ⟨Tryz.f301, true, false, pls []⟩),
  (302, .code ⟨Tryz.f302, true, false, pls []⟩),
  (303, .code ⟨Tryz.f303, true, false, pls []⟩),
  (304, .code ⟨Tryz.f304, true, false, pls []⟩),
  (305, .code ⟨Tryz.f305, true, false, pls []⟩),
  (306, .code ⟨Tryz.f306, true, false, pls []⟩),
  (307, .code ⟨Tryz.f307, true, false, pls [(6, (pln [0, 2, 4, 6, 8, 10, 12, 14, 16]))]⟩),
  (310, .code ⟨Tryz.f310, true, false, pls []⟩),
  (311, .code ⟨Tryz.f311, true, false, pls []⟩),
  (312, .code ⟨Tryz.f312, false, false, pls [(6, (pln [0, 2, 4, 6, 8, 10, 12, 14, 17]))]⟩),
  (313, .code ⟨Tryz.f313, true, false, pls []⟩),
  (314, .code ⟨Tryz.f314, false, false, pls []⟩),
  (315, .code ⟨Tryz.f315, true, false, pls []⟩),
  (316, .code ⟨Tryz.f316, true, false, pls []⟩),
  (318, .code ⟨Tryz.f318, true, false, pls []⟩),
  (319, .code ⟨Tryz.f319, true, false, pls []⟩),
  (320, .code ⟨Tryz.f320, true, false, pls []⟩),
  (321, .code ⟨Tryz.f321, false, false, pls []⟩),
  (322, .code ⟨Tryz.f322, false, false, pls [(8, (pln [0, 2, 4, 6, 8, 10, 12, 14, 16, 18, 20]))]⟩),
  (323, .code ⟨Tryz.f323, true, false, pls []⟩),
  (324, .code ⟨Tryz.f324, true, false, pls []⟩),
  (325, .code ⟨Tryz.f325, true, false, pls []⟩),
  (328, .code ⟨Tryz.f328, true, false, pls []⟩),
  (329, .code ⟨Tryz.f329, true, false, pls []⟩),
  (330, .hook hkPth),
  (331, .code ⟨Tryz.f331, true, false, pls []⟩),
  (332, .code ⟨Tryz.f332, false, false, pls []⟩),
  (333, .code ⟨Tryz.f333, true, false, pls []⟩),
  (334, .code ⟨Tryz.f334, false, false, pls []⟩),
  (335, .code ⟨Tryz.f335, true, false, pls []⟩),
  (336, .code ⟨Tryz.f336, true, false, pls []⟩),
  (337, .code ⟨Tryz.f337, true, false, pls []⟩),
  (338, .code ⟨Tryz.f338, false, false, pls [(7, (pln [0, 2, 4, 6, 8, 10, 12, 14, 16, 18, 20, 22]))]⟩),
  (339, .code ⟨Tryz.f339, false, false, pls []⟩),
  (340, .code ⟨Tryz.f340, false, false, pls []⟩),
  (341, .code ⟨Tryz.f341, true, false, pls []⟩),
  (342, .code ⟨Tryz.f342, true, false, pls []⟩),
  (343, .code ⟨Tryz.f343, false, false, pls [(5, (pln [0, 2, 4, 6, 8, 10, 12, 14, 16, 18, 20, 22, 24]))]⟩),
  (344, .code ⟨Tryz.f344, false, false, pls []⟩),
  (345, .code ⟨Tryz.f345, false, false, pls [(5, (pln [0, 2, 4, 6, 8, 10, 12, 14, 16, 18, 20, 22, 24, 26, 28, 30, 32, 34, 36]))]⟩),
  (346, .code ⟨Tryz.f346, true, false, pls []⟩),
  (347, .code ⟨Tryz.f347, true, false, pls []⟩),
  (348, .code ⟨Tryz.f348, true, false, pls []⟩),
  (349, .code ⟨Tryz.f349, true, false, pls []⟩),
  (350, .code ⟨Tryz.f350, false, false, pls []⟩),
  (351, .code ⟨Tryz.f351, false, false, pls [(6, (pln [0, 2, 4, 6, 8, 10, 12, 14, 16, 18, 20]))]⟩),
  (352, .code ⟨Tryz.f352, true, false, pls []⟩),
  (353, .code ⟨Tryz.f353, false, false, pls []⟩),
  (354, .code ⟨Tryz.f354, false, false, pls [(0, (pln [0, 2, 4, 6, 8, 10, 12, 14, 16, 18, 20, 22]))]⟩),
  (355, .code ⟨Tryz.f355, false, false, pls []⟩),
  (356, .code ⟨Tryz.f356, false, false, pls []⟩),
  (357, .code ⟨Tryz.f357, true, false, pls []⟩),
  (358, .code ⟨Tryz.f358, false, false, pls []⟩),
  (359, .code ⟨Tryz.f359, false, false, pls []⟩),
  (360, .code ⟨Tryz.f360, true, false, pls [(11, (pln [0, 2, 4, 6, 8, 10, 12, 14, 16])), (15, (pln [0, 2, 4, 6, 8, 10, 12, 14, 16]))]⟩),
  (361, .code ⟨Tryz.f361, true, false, pls []⟩),
  (362, .code ⟨Tryz.f362, true, false, pls []⟩),
  (363, .code ⟨Tryz.f363, true, false, pls []⟩),
  (364, .code ⟨Tryz.f364, true, false, pls [(6, (pln [0, 2, 4, 6, 8, 10, 12, 14, 16, 18, 20, 22, 24]))]⟩),
  (365, .code ⟨Tryz.f365, true, false, pls []⟩),
  (366, .code ⟨Tryz.f366, true, false, pls []⟩),
  (367, .code ⟨Tryz.f367, true, false, pls [(3, (pln [0, 2, 4, 6, 8, 10, 12, 14, 16, 18, 20, 22, 24, 26, 28, 30, 32, 34, 36, 40, 42, 38, 44, 46, 48, 50]))]⟩),
  (368, .code ⟨Tryz.f368, true, false, pls [(8, (plk [0, 4] (.two 1 3 (pln [6, 8, 10]) (pln [2, 8, 10]))))]⟩),
  (369, .code ⟨Tryz.f369, false, false, pls [(3, (pln [0, 2, 4, 6, 8, 10, 12, 14, 16, 18, 20, 22]))]⟩),
  (370, .code ⟨Tryz.f370, false, false, pls [(1, (pln [0, 2, 4, 6, 8, 10, 13, 14, 16, 18, 20, 22]))]⟩),
  (371, .code ⟨Tryz.f371, false, false, pls [(3, (pln [0, 2, 4, 6, 8, 10, 12, 15])), (9, (pln [0, 2, 4, 6, 8, 10, 12, 14, 17]))]⟩),
  (372, .code ⟨Tryz.f372, true, false, pls []⟩),
  (373, .code ⟨Tryz.f373, true, false, pls []⟩),
  (374, .code ⟨Tryz.f374, true, false, pls []⟩),
  (375, .code ⟨Tryz.f375, true, false, pls []⟩),
  (376, .code ⟨Tryz.f376, false, false, pls []⟩),
  (377, .code ⟨Tryz.f377, true, false, pls []⟩),
  (378, .code ⟨Tryz.f378, false, false, pls []⟩),
  (379, .code ⟨Tryz.f379, false, false, pls []⟩),
  (380, .code ⟨Tryz.f380, false, false, pls []⟩),
  (381, .code ⟨Tryz.f381, false, false, pls []⟩),
  (383, .code ⟨Tryz.f383, true, false, pls []⟩),
  (384, .code ⟨Tryz.f384, true, false, pls []⟩),
  (385, .code ⟨Tryz.f385, true, false, pls []⟩),
  (386, .code ⟨Tryz.f386, true, false, pls []⟩),
  (387, .code ⟨Tryz.f387, true, false, pls []⟩),
  (388, .code ⟨Tryz.f388, true, false, pls []⟩),
  (389, .code ⟨Tryz.f389, true, false, pls []⟩),
  (390, .code ⟨Tryz.f390, true, false, pls []⟩),
  (391, .code ⟨Tryz.f391, true, false, pls []⟩),
  (392, .code ⟨Tryz.f392, true, false, pls [(11, (plk [0, 4] (.two 1 3 (pln [6, 8, 10]) (pln [2, 8, 10]))))]⟩),
  (393, .code ⟨Tryz.f393, false, false, pls [(1, (pln [0, 2, 4, 6, 8, 10, 12, 14, 18, 16, 20, 22]))]⟩),
  (394, .code ⟨Tryz.f394, false, false, pls []⟩),
  (395, .code ⟨Tryz.f395, true, false, pls []⟩),
  (396, .code ⟨Tryz.f396, true, false, pls []⟩),
  (397, .code ⟨Tryz.f397, true, false, pls []⟩),
  (398, .code ⟨Tryz.f398, false, false, pls []⟩),
  (399, .code ⟨Tryz.f399, false, false, pls []⟩),
  (400, .code ⟨Tryz.f400, false, false, pls []⟩),
  (401, .code ⟨Tryz.f401, false, false, pls []⟩),
  (402, .code ⟨Tryz.f402, true, false, pls []⟩),
  (403, .code ⟨Tryz.f403, true, false, pls []⟩),
  (404, .code ⟨Tryz.f404, true, false, pls []⟩),
  (405, .code ⟨Tryz.f405, true, false, pls []⟩),
  (406, .code ⟨Tryz.f406, true, false, pls [(6, (pln [0, 2, 4, 6, 8, 10, 12, 14, 16]))]⟩),
  (407, .code ⟨Tryz.f407, true, false, pls []⟩),
  (408, .code ⟨Tryz.f408, true, false, pls [(3, (pln [0, 2, 4, 6, 8, 10, 12, 14, 16, 18, 20, 22, 24, 26, 28, 30]))]⟩),
  (409, .code ⟨Tryz.f409, true, false, pls []⟩),
  (410, .code ⟨Tryz.f410, true, false, pls []⟩)]
theorem rFw_4 : FhOk Tryz.prog 4 (.code ⟨Tryz.f4, true, false, pls []⟩) := ⟨Tryz.func4, ⟨_, rfl, by kernel_rfl⟩, Tryz.call4⟩
theorem rFw_5 : FhOk Tryz.prog 5 (.code ⟨Tryz.f5, false, false, pls []⟩) := ⟨Tryz.func5, ⟨_, rfl, by kernel_rfl⟩, Tryz.call5⟩
theorem rFw_6 : FhOk Tryz.prog 6 (.code ⟨Tryz.f6, false, false, pls [(12, (pln [0, 2, 4, 6, 8, 10, 12, 14, 16, 18, 20, 22, 24]))]⟩) := ⟨Tryz.func6, ⟨_, rfl, by kernel_rfl⟩, Tryz.call6⟩
theorem rFw_7 : FhOk Tryz.prog 7 (.code ⟨Tryz.f7, false, false, pls []⟩) := ⟨Tryz.func7, ⟨_, rfl, by kernel_rfl⟩, Tryz.call7⟩
theorem rFw_8 : FhOk Tryz.prog 8 (.code ⟨Tryz.f8, true, false, pls []⟩) := ⟨Tryz.func8, ⟨_, rfl, by kernel_rfl⟩, Tryz.call8⟩
theorem rFw_11 : FhOk Tryz.prog 11 (.code ⟨Tryz.f11, true, false, pls []⟩) := ⟨Tryz.func11, ⟨_, rfl, by kernel_rfl⟩, Tryz.call11⟩
theorem rFw_12 : FhOk Tryz.prog 12 (.code ⟨Tryz.f12, true, false, pls []⟩) := ⟨Tryz.func12, ⟨_, rfl, by kernel_rfl⟩, Tryz.call12⟩
theorem rFw_13 : FhOk Tryz.prog 13 (.code ⟨Tryz.f13, true, false, pls [(1, (pln [0, 4, 6, 8, 10, 2, 12, 14, 16, 18, 20, 22, 24, 26])), (2, (plk [0, 6, 8, 10, 12, 14, 16, 18] (.two 1 11 (pln [4, 20, 22, 24]) (pln [2, 4, 20, 24]))))]⟩) := ⟨Tryz.func13, ⟨_, rfl, by kernel_rfl⟩, Tryz.call13⟩
theorem rFw_14 : FhOk Tryz.prog 14 (.code ⟨Tryz.f14, false, false, pls [(1, (pln [0, 2, 4, 6, 8, 10, 12, 14, 16, 18])), (8, (pln [0, 2, 4, 6, 8, 10, 12, 14, 16, 18, 20, 22, 24, 26, 28, 30, 32, 35, 36, 38, 40, 42]))]⟩) := ⟨Tryz.func14, ⟨_, rfl, by kernel_rfl⟩, Tryz.call14⟩
theorem rFw_15 : FhOk Tryz.prog 15 (.code ⟨Tryz.f15, true, false, pls []⟩) := ⟨Tryz.func15, ⟨_, rfl, by kernel_rfl⟩, Tryz.call15⟩
theorem rFw_16 : FhOk Tryz.prog 16 (.code ⟨Tryz.f16, false, false, pls []⟩) := ⟨Tryz.func16, ⟨_, rfl, by kernel_rfl⟩, Tryz.call16⟩
theorem rFw_17 : FhOk Tryz.prog 17 (.code ⟨Tryz.f17, true, false, pls [(4, (pln [0, 2, 4, 8, 10, 6, 12, 14, 16]))]⟩) := ⟨Tryz.func17, ⟨_, rfl, by kernel_rfl⟩, Tryz.call17⟩
theorem rFw_18 : FhOk Tryz.prog 18 (.code ⟨Tryz.f18, false, false, pls []⟩) := ⟨Tryz.func18, ⟨_, rfl, by kernel_rfl⟩, Tryz.call18⟩
theorem rFw_19 : FhOk Tryz.prog 19 (.code ⟨Tryz.f19, true, false, pls []⟩) := ⟨Tryz.func19, ⟨_, rfl, by kernel_rfl⟩, Tryz.call19⟩
theorem rFw_20 : FhOk Tryz.prog 20 (.code ⟨Tryz.f20, false, false, pls []⟩) := ⟨Tryz.func20, ⟨_, rfl, by kernel_rfl⟩, Tryz.call20⟩
theorem rFw_23 : FhOk Tryz.prog 23 (.code ⟨Tryz.f23, false, false, pls []⟩) := ⟨Tryz.func23, ⟨_, rfl, by kernel_rfl⟩, Tryz.call23⟩
theorem rFw_24 : FhOk Tryz.prog 24 (.code ⟨Tryz.f24, false, false, pls [(8, (pln [0, 2, 4, 6, 8, 10, 13, 14, 16, 18, 20])), (10, (pln [0, 2, 4, 6, 8, 10, 13, 14, 16, 18, 20]))]⟩) := ⟨Tryz.func24, ⟨_, rfl, by kernel_rfl⟩, Tryz.call24⟩
theorem rFw_25 : FhOk Tryz.prog 25 (.code ⟨Tryz.f25, false, true, pls [(6, (.two 6 6 (pln [0, 2, 4, 6, 8, 10, 16, 12, 14]) .done))]⟩) := ⟨Tryz.func25, ⟨_, rfl, by kernel_rfl⟩, Tryz.call25⟩
theorem rFw_26 : FhOk Tryz.prog 26 (.code ⟨Tryz.f26, false, false, pls [(3, (pln [0, 2, 4, 6, 8, 10, 12, 14, 16, 18, 20, 22, 24, 26, 28, 30, 32, 34, 36, 38, 40, 42, 44, 46, 48, 50, 52, 54, 56, 58, 60, 62, 64]))]⟩) := ⟨Tryz.func26, ⟨_, rfl, by kernel_rfl⟩, Tryz.call26⟩
theorem rFw_27 : FhOk Tryz.prog 27 (.code ⟨Tryz.f27, true, false, pls [(12, (pln [0, 2, 4, 6, 8, 10, 12, 14]))]⟩) := ⟨Tryz.func27, ⟨_, rfl, by kernel_rfl⟩, Tryz.call27⟩
theorem rFw_28 : FhOk Tryz.prog 28 (.code ⟨Tryz.f28, true, false, pls []⟩) := ⟨Tryz.func28, ⟨_, rfl, by kernel_rfl⟩, Tryz.call28⟩
theorem rFw_29 : FhOk Tryz.prog 29 (.code ⟨Tryz.f29, true, false, pls []⟩) := ⟨Tryz.func29, ⟨_, rfl, by kernel_rfl⟩, Tryz.call29⟩
theorem rFw_30 : FhOk Tryz.prog 30 (.code ⟨Tryz.f30, false, false, pls []⟩) := ⟨Tryz.func30, ⟨_, rfl, by kernel_rfl⟩, Tryz.call30⟩
theorem rFw_31 : FhOk Tryz.prog 31 (.code ⟨Tryz.f31, false, false, pls [(2, (pln [0, 2, 4, 6, 8, 10, 12, 14, 16, 18, 20, 22, 24, 26, 28, 30, 32, 34, 36, 38, 40, 42]))]⟩) := ⟨Tryz.func31, ⟨_, rfl, by kernel_rfl⟩, Tryz.call31⟩
theorem rFw_32 : FhOk Tryz.prog 32 (.code ⟨Tryz.f32, true, false, pls [(3, (pln [0, 2, 4, 7, 8, 10, 12, 14, 18, 20, 16, 22, 24, 26]))]⟩) := ⟨Tryz.func32, ⟨_, rfl, by kernel_rfl⟩, Tryz.call32⟩
theorem rFw_33 : FhOk Tryz.prog 33 (.code ⟨Tryz.f33, true, false, pls []⟩) := ⟨Tryz.func33, ⟨_, rfl, by kernel_rfl⟩, Tryz.call33⟩
theorem rFw_34 : FhOk Tryz.prog 34 (.hook hkText) := hkText_ok
theorem rFw_35 : FhOk Tryz.prog 35 (.code ⟨Tryz.f35, true, false, pls []⟩) := ⟨Tryz.func35, ⟨_, rfl, by kernel_rfl⟩, Tryz.call35⟩
theorem rFw_36 : FhOk Tryz.prog 36 (.code ⟨Tryz.f36, true, false, pls []⟩) := ⟨Tryz.func36, ⟨_, rfl, by kernel_rfl⟩, Tryz.call36⟩
theorem rFw_37 : FhOk Tryz.prog 37 (.code ⟨Tryz.f37, false, false, pls []⟩) := ⟨Tryz.func37, ⟨_, rfl, by kernel_rfl⟩, Tryz.call37⟩
theorem rFw_38 : FhOk Tryz.prog 38 (.code ⟨Tryz.f38, false, false, pls [(11, (pln [0, 2, 6, 8, 4, 12, 10, 14, 16, 18])), (17, (pln [0, 2, 4, 6, 8, 10, 12, 14, 16, 18, 20])), (19, (pln [0, 2, 4, 6, 10, 12, 8, 14, 16, 18, 20, 22, 24, 26]))]⟩) := ⟨Tryz.func38, ⟨_, rfl, by kernel_rfl⟩, Tryz.call38⟩
theorem rFw_39 : FhOk Tryz.prog 39 (.code ⟨Tryz.f39, false, false, pls []⟩) := ⟨Tryz.func39, ⟨_, rfl, by kernel_rfl⟩, Tryz.call39⟩
theorem rFw_40 : FhOk Tryz.prog 40 (.code ⟨Tryz.f40, false, false, pls []⟩) := ⟨Tryz.func40, ⟨_, rfl, by kernel_rfl⟩, Tryz.call40⟩
theorem rFw_41 : FhOk Tryz.prog 41 (.code ⟨Tryz.f41, false, false, pls []⟩) := ⟨Tryz.func41, ⟨_, rfl, by kernel_rfl⟩, Tryz.call41⟩
theorem rFw_42 : FhOk Tryz.prog 42 (.code ⟨Tryz.f42, false, false, pls []⟩) := ⟨Tryz.func42, ⟨_, rfl, by kernel_rfl⟩, Tryz.call42⟩
theorem rFw_43 : FhOk Tryz.prog 43 (.code ⟨Tryz.f43, true, false, pls []⟩) := ⟨Tryz.func43, ⟨_, rfl, by kernel_rfl⟩, Tryz.call43⟩
theorem rFw_44 : FhOk Tryz.prog 44 (.code ⟨Tryz.f44, false, false, pls [(2, (pln [0, 2, 4, 6, 8, 10, 12, 14, 16, 18, 21, 22, 24, 26, 28, 30]))]⟩) := ⟨Tryz.func44, ⟨_, rfl, by kernel_rfl⟩, Tryz.call44⟩
theorem rFw_45 : FhOk Tryz.prog 45 (.code ⟨Tryz.f45, false, false, pls []⟩) := ⟨Tryz.func45, ⟨_, rfl, by kernel_rfl⟩, Tryz.call45⟩
theorem rFw_46 : FhOk Tryz.prog 46 (.code ⟨Tryz.f46, false, false, pls []⟩) := ⟨Tryz.func46, ⟨_, rfl, by kernel_rfl⟩, Tryz.call46⟩
theorem rFw_47 : FhOk Tryz.prog 47 (.code ⟨Tryz.f47, false, false, pls []⟩) := ⟨Tryz.func47, ⟨_, rfl, by kernel_rfl⟩, Tryz.call47⟩
theorem rFw_48 : FhOk Tryz.prog 48 (.code ⟨Tryz.f48, false, false, pls []⟩) := ⟨Tryz.func48, ⟨_, rfl, by kernel_rfl⟩, Tryz.call48⟩
theorem rFw_49 : FhOk Tryz.prog 49 (.code ⟨Tryz.f49, false, false, pls []⟩) := ⟨Tryz.func49, ⟨_, rfl, by kernel_rfl⟩, Tryz.call49⟩
theorem rFw_50 : FhOk Tryz.prog 50 (.code ⟨Tryz.f50, true, false, pls [(8, (pln [0, 2, 4, 6, 8, 10, 12, 14, 16]))]⟩) := ⟨Tryz.func50, ⟨_, rfl, by kernel_rfl⟩, Tryz.call50⟩
theorem rFw_51 : FhOk Tryz.prog 51 (.hook hkFp) := hkFp_ok
theorem rFw_52 : FhOk Tryz.prog 52 (.code ⟨Tryz.f52, true, false, pls []⟩) := ⟨Tryz.func52, ⟨_, rfl, by kernel_rfl⟩, Tryz.call52⟩
theorem rFw_53 : FhOk Tryz.prog 53 (.code ⟨Tryz.f53, true, false, pls []⟩) := ⟨Tryz.func53, ⟨_, rfl, by kernel_rfl⟩, Tryz.call53⟩
theorem rFw_54 : FhOk Tryz.prog 54 (.code ⟨Tryz.f54, false, false, pls []⟩) := ⟨Tryz.func54, ⟨_, rfl, by kernel_rfl⟩, Tryz.call54⟩
theorem rFw_55 : FhOk Tryz.prog 55 (.hook hkVal) := hkVal_ok
theorem rFw_56 : FhOk Tryz.prog 56 (.hook hkTrim) := hkTrim_ok
theorem rFw_57 : FhOk Tryz.prog 57 (.code ⟨Tryz.f57, true, false, pls []⟩) := ⟨Tryz.func57, ⟨_, rfl, by kernel_rfl⟩, Tryz.call57⟩
theorem rFw_58 : FhOk Tryz.prog 58 (.code ⟨Tryz.f58, true, false, pls []⟩) := ⟨Tryz.func58, ⟨_, rfl, by kernel_rfl⟩, Tryz.call58⟩
theorem rFw_59 : FhOk Tryz.prog 59 (.hook hkJoin) := hkJoin_ok
theorem rFw_60 : FhOk Tryz.prog 60 (.hook hkCA) := hkCA_ok
theorem rFw_61 : FhOk Tryz.prog 61 (.code ⟨Tryz.f61, true, false, pls []⟩) := ⟨Tryz.func61, ⟨_, rfl, by kernel_rfl⟩, Tryz.call61⟩
theorem rFw_62 : FhOk Tryz.prog 62 (.code ⟨Tryz.f62, true, false, pls []⟩) := ⟨Tryz.func62, ⟨_, rfl, by kernel_rfl⟩, Tryz.call62⟩
theorem rFw_63 : FhOk Tryz.prog 63 (.code ⟨Tryz.f63, false, false, pls []⟩) := ⟨Tryz.func63, ⟨_, rfl, by kernel_rfl⟩, Tryz.call63⟩
theorem rFw_64 : FhOk Tryz.prog 64 (.code ⟨Tryz.f64, true, false, pls []⟩) := ⟨Tryz.func64, ⟨_, rfl, by kernel_rfl⟩, Tryz.call64⟩
theorem rFw_65 : FhOk Tryz.prog 65 (.code ⟨Tryz.f65, false, false, pls []⟩) := ⟨Tryz.func65, ⟨_, rfl, by kernel_rfl⟩, Tryz.call65⟩
theorem rFw_66 : FhOk Tryz.prog 66 (.code ⟨Tryz.f66, false, false, pls []⟩) := ⟨Tryz.func66, ⟨_, rfl, by kernel_rfl⟩, Tryz.call66⟩
theorem rFw_67 : FhOk Tryz.prog 67 (.code ⟨Tryz.f67, true, false, pls []⟩) := ⟨Tryz.func67, ⟨_, rfl, by kernel_rfl⟩, Tryz.call67⟩
theorem rFw_68 : FhOk Tryz.prog 68 (.code ⟨Tryz.f68, true, false, pls []⟩) := ⟨Tryz.func68, ⟨_, rfl, by kernel_rfl⟩, Tryz.call68⟩
theorem rFw_69 : FhOk Tryz.prog 69 (.code ⟨Tryz.f69, true, false, pls []⟩) := ⟨Tryz.func69, ⟨_, rfl, by kernel_rfl⟩, Tryz.call69⟩
theorem rFw_70 : FhOk Tryz.prog 70 (.code ⟨Tryz.f70, false, false, pls []⟩) := ⟨Tryz.func70, ⟨_, rfl, by kernel_rfl⟩, Tryz.call70⟩
theorem rFw_71 : FhOk Tryz.prog 71 (.code ⟨Tryz.f71, false, false, pls []⟩) := ⟨Tryz.func71, ⟨_, rfl, by kernel_rfl⟩, Tryz.call71⟩
theorem rFw_72 : FhOk Tryz.prog 72 (.code ⟨Tryz.f72, false, false, pls []⟩) := ⟨Tryz.func72, ⟨_, rfl, by kernel_rfl⟩, Tryz.call72⟩
theorem rFw_73 : FhOk Tryz.prog 73 (.code ⟨Tryz.f73, false, false, pls []⟩) := ⟨Tryz.func73, ⟨_, rfl, by kernel_rfl⟩, Tryz.call73⟩
theorem rFw_74 : FhOk Tryz.prog 74 (.code ⟨Tryz.f74, false, false, pls []⟩) := ⟨Tryz.func74, ⟨_, rfl, by kernel_rfl⟩, Tryz.call74⟩
theorem rFw_75 : FhOk Tryz.prog 75 (.code ⟨Tryz.f75, false, false, pls []⟩) := ⟨Tryz.func75, ⟨_, rfl, by kernel_rfl⟩, Tryz.call75⟩
theorem rFw_76 : FhOk Tryz.prog 76 (.code ⟨Tryz.f76, false, false, pls []⟩) := ⟨Tryz.func76, ⟨_, rfl, by kernel_rfl⟩, Tryz.call76⟩
theorem rFw_77 : FhOk Tryz.prog 77 (.code ⟨Tryz.f77, false, false, pls [(0, (pln [0, 2, 4, 6, 8, 10, 12, 14, 16, 18, 20, 23, 24, 26, 28, 30, 32]))]⟩) := ⟨Tryz.func77, ⟨_, rfl, by kernel_rfl⟩, Tryz.call77⟩
theorem rFw_78 : FhOk Tryz.prog 78 (.code ⟨Tryz.f78, false, false, pls []⟩) := ⟨Tryz.func78, ⟨_, rfl, by kernel_rfl⟩, Tryz.call78⟩
theorem rFw_79 : FhOk Tryz.prog 79 (.code ⟨Tryz.f79, false, false, pls [(1, (pln [0, 2, 4, 6, 8, 10, 12, 14, 16, 18]))]⟩) := ⟨Tryz.func79, ⟨_, rfl, by kernel_rfl⟩, Tryz.call79⟩
theorem rFw_80 : FhOk Tryz.prog 80 (.code ⟨Tryz.f80, false, false, pls [(0, (plk [0, 2, 4, 6, 8, 12, 14, 16, 18] (.both 5 10 (pln [21, 22, 24, 26, 28, 30]) (pln [11, 22, 24, 26, 28, 30])))), (1, (plk [0, 2, 4, 6, 8, 12, 14, 16, 18] (.both 5 10 (pln [21, 22, 24, 26, 28, 30]) (pln [11, 22, 24, 26, 28, 30])))), (3, (pln [0, 2, 4, 6, 8, 10, 12, 14, 16, 18, 20, 22, 24, 26, 28, 30, 32, 34, 36, 38, 40]))]⟩) := ⟨Tryz.func80, ⟨_, rfl, by kernel_rfl⟩, Tryz.call80⟩
theorem rFw_81 : FhOk Tryz.prog 81 (.code ⟨Tryz.f81, false, false, pls [(1, (plk [0, 2, 4, 6, 8, 10, 12, 14, 16, 18, 20, 22, 24, 26, 28, 30, 32, 34, 36] (.two 19 24 (pln [40, 42, 44, 46, 48, 50, 52, 54]) (pln [38, 40, 42, 44, 46, 50, 52, 54]))))]⟩) := ⟨Tryz.func81, ⟨_, rfl, by kernel_rfl⟩, Tryz.call81⟩
theorem rFw_82 : FhOk Tryz.prog 82 (.code ⟨Tryz.f82, false, false, pls []⟩) := ⟨Tryz.func82, ⟨_, rfl, by kernel_rfl⟩, Tryz.call82⟩
theorem rFw_84 : FhOk Tryz.prog 84 (.code ⟨Tryz.f84, false, false, pls []⟩) := ⟨Tryz.func84, ⟨_, rfl, by kernel_rfl⟩, Tryz.call84⟩
theorem rFw_85 : FhOk Tryz.prog 85 (.code ⟨Tryz.f85, false, false, pls []⟩) := ⟨Tryz.func85, ⟨_, rfl, by kernel_rfl⟩, Tryz.call85⟩
theorem rFw_86 : FhOk Tryz.prog 86 (.code ⟨Tryz.f86, false, false, pls [(3, (pln [0, 2, 4, 6, 8, 10, 12, 14, 16, 18]))]⟩) := ⟨Tryz.func86, ⟨_, rfl, by kernel_rfl⟩, Tryz.call86⟩
theorem rFw_87 : FhOk Tryz.prog 87 (.hook hkIdx) := hkIdx_ok
theorem rFw_88 : FhOk Tryz.prog 88 (.hook hkSplit) := hkSplit_ok
theorem rFw_89 : FhOk Tryz.prog 89 (.hook hkTok) := hkTok_ok
theorem rFw_90 : FhOk Tryz.prog 90 (.code ⟨Tryz.f90, true, false, pls []⟩) := ⟨Tryz.func90, ⟨_, rfl, by kernel_rfl⟩, Tryz.call90⟩
theorem rFw_93 : FhOk Tryz.prog 93 (.code ⟨Tryz.f93, true, false, pls []⟩) := ⟨Tryz.func93, ⟨_, rfl, by kernel_rfl⟩, Tryz.call93⟩
theorem rFw_94 : FhOk Tryz.prog 94 (.code ⟨Tryz.f94, true, false, pls []⟩) := ⟨Tryz.func94, ⟨_, rfl, by kernel_rfl⟩, Tryz.call94⟩
theorem rFw_96 : FhOk Tryz.prog 96 (.code ⟨Tryz.f96, false, false, pls []⟩) := ⟨Tryz.func96, ⟨_, rfl, by kernel_rfl⟩, Tryz.call96⟩
theorem rFw_98 : FhOk Tryz.prog 98 (.code ⟨Tryz.f98, true, false, pls []⟩) := ⟨Tryz.func98, ⟨_, rfl, by kernel_rfl⟩, Tryz.call98⟩
theorem rFw_99 : FhOk Tryz.prog 99 (.code ⟨Tryz.f99, false, false, pls []⟩) := ⟨Tryz.func99, ⟨_, rfl, by kernel_rfl⟩, Tryz.call99⟩
theorem rFw_100 : FhOk Tryz.prog 100 (.code ⟨Tryz.f100, false, false, pls []⟩) := ⟨Tryz.func100, ⟨_, rfl, by kernel_rfl⟩, Tryz.call100⟩
theorem rFw_101 : FhOk Tryz.prog 101 (.hook hkHostP) := hkHostP_ok
theorem rFw_102 : FhOk Tryz.prog 102 (.code ⟨Tryz.f102, true, false, pls []⟩) := ⟨Tryz.func102, ⟨_, rfl, by kernel_rfl⟩, Tryz.call102⟩
theorem rFw_103 : FhOk Tryz.prog 103 (.code ⟨Tryz.f103, false, false, pls [(3, (pln [0, 2, 4, 6, 8, 10, 12, 14, 16, 18, 20, 22, 24]))]⟩) := ⟨Tryz.func103, ⟨_, rfl, by kernel_rfl⟩, Tryz.call103⟩
theorem rFw_104 : FhOk Tryz.prog 104 (.code ⟨Tryz.f104, false, false, pls []⟩) := ⟨Tryz.func104, ⟨_, rfl, by kernel_rfl⟩, Tryz.call104⟩
theorem rFw_105 : FhOk Tryz.prog 105 (.code ⟨Tryz.f105, false, false, pls [(1, (pln [0, 2, 4, 6, 8, 10, 12, 14, 16, 18, 20, 22]))]⟩) := ⟨Tryz.func105, ⟨_, rfl, by kernel_rfl⟩, Tryz.call105⟩
theorem rFw_106 : FhOk Tryz.prog 106 (.code ⟨Tryz.f106, true, false, pls []⟩) := ⟨Tryz.func106, ⟨_, rfl, by kernel_rfl⟩, Tryz.call106⟩
theorem rFw_107 : FhOk Tryz.prog 107 (.code ⟨Tryz.f107, true, false, pls []⟩) := ⟨Tryz.func107, ⟨_, rfl, by kernel_rfl⟩, Tryz.call107⟩
theorem rFw_108 : FhOk Tryz.prog 108 (.code ⟨Tryz.f108, true, false, pls []⟩) := ⟨Tryz.func108, ⟨_, rfl, by kernel_rfl⟩, Tryz.call108⟩
theorem rFw_109 : FhOk Tryz.prog 109 (.code ⟨Tryz.f109, false, false, pls [(7, (pln [0, 2, 4, 6, 8, 10, 12, 14, 16, 18, 20]))]⟩) := ⟨Tryz.func109, ⟨_, rfl, by kernel_rfl⟩, Tryz.call109⟩
theorem rFw_110 : FhOk Tryz.prog 110 (.code ⟨Tryz.f110, true, false, pls []⟩) := ⟨Tryz.func110, ⟨_, rfl, by kernel_rfl⟩, Tryz.call110⟩
theorem rFw_111 : FhOk Tryz.prog 111 (.code ⟨Tryz.f111, false, false, pls []⟩) := ⟨Tryz.func111, ⟨_, rfl, by kernel_rfl⟩, Tryz.call111⟩
theorem rFw_112 : FhOk Tryz.prog 112 (.code ⟨Tryz.f112, true, false, pls []⟩) := ⟨Tryz.func112, ⟨_, rfl, by kernel_rfl⟩, Tryz.call112⟩
theorem rFw_113 : FhOk Tryz.prog 113 (.code ⟨Tryz.f113, false, false, pls []⟩) := ⟨Tryz.func113, ⟨_, rfl, by kernel_rfl⟩, Tryz.call113⟩
theorem rFw_114 : FhOk Tryz.prog 114 (.hook hkCut) := hkCut_ok
theorem rFw_115 : FhOk Tryz.prog 115 (.hook hkDig) := hkDig_ok
theorem rFw_116 : FhOk Tryz.prog 116 (.code ⟨Tryz.f116, true, false, pls []⟩) := ⟨Tryz.func116, ⟨_, rfl, by kernel_rfl⟩, Tryz.call116⟩
theorem rFw_117 : FhOk Tryz.prog 117 (.code ⟨Tryz.f117, false, false, pls [(3, (pln [0, 2, 4, 6, 8, 10, 12, 14, 16, 18, 20]))]⟩) := ⟨Tryz.func117, ⟨_, rfl, by kernel_rfl⟩, Tryz.call117⟩
theorem rFw_118 : FhOk Tryz.prog 118 (.code ⟨Tryz.f118, true, false, pls []⟩) := ⟨Tryz.func118, ⟨_, rfl, by kernel_rfl⟩, Tryz.call118⟩
theorem rFw_119 : FhOk Tryz.prog 119 (.code ⟨Tryz.f119, true, false, pls []⟩) := ⟨Tryz.func119, ⟨_, rfl, by kernel_rfl⟩, Tryz.call119⟩
theorem rFw_120 : FhOk Tryz.prog 120 (.code ⟨Tryz.f120, true, false, pls []⟩) := ⟨Tryz.func120, ⟨_, rfl, by kernel_rfl⟩, Tryz.call120⟩
theorem rFw_121 : FhOk Tryz.prog 121 (.code ⟨Tryz.f121, true, false, pls []⟩) := ⟨Tryz.func121, ⟨_, rfl, by kernel_rfl⟩, Tryz.call121⟩
theorem rFw_122 : FhOk Tryz.prog 122 (.code ⟨Tryz.f122, false, false, pls []⟩) := ⟨Tryz.func122, ⟨_, rfl, by kernel_rfl⟩, Tryz.call122⟩
theorem rFw_123 : FhOk Tryz.prog 123 (.code ⟨Tryz.f123, false, false, pls []⟩) := ⟨Tryz.func123, ⟨_, rfl, by kernel_rfl⟩, Tryz.call123⟩
theorem rFw_124 : FhOk Tryz.prog 124 (.code ⟨Tryz.f124, false, false, pls []⟩) := ⟨Tryz.func124, ⟨_, rfl, by kernel_rfl⟩, Tryz.call124⟩
theorem rFw_125 : FhOk Tryz.prog 125 (.code ⟨Tryz.f125, false, false, pls [(5, (pln [0, 2, 4, 6, 8, 10, 12, 15, 16, 18, 20, 22, 24, 26, 28])), (6, (pln [0, 2, 4, 6, 8, 10, 12, 15, 16, 18, 20, 22, 24, 26, 28]))]⟩) := ⟨Tryz.func125, ⟨_, rfl, by kernel_rfl⟩, Tryz.call125⟩
theorem rFw_126 : FhOk Tryz.prog 126 (.code ⟨Tryz.f126, false, false, pls [(15, (pln [0, 2, 4, 6, 8, 10, 12, 14, 16, 18, 20, 22]))]⟩) := ⟨Tryz.func126, ⟨_, rfl, by kernel_rfl⟩, Tryz.call126⟩
theorem rFw_127 : FhOk Tryz.prog 127 (.code ⟨Tryz.f127, false, false, pls []⟩) := ⟨Tryz.func127, ⟨_, rfl, by kernel_rfl⟩, Tryz.call127⟩
theorem rFw_128 : FhOk Tryz.prog 128 (.code ⟨Tryz.f128, false, false, pls []⟩) := ⟨Tryz.func128, ⟨_, rfl, by kernel_rfl⟩, Tryz.call128⟩
theorem rFw_129 : FhOk Tryz.prog 129 (.code ⟨Tryz.f129, false, false, pls [(0, (pln [0, 2, 4, 6, 8, 10, 12, 14, 16, 18, 20, 23, 24, 26, 28, 30, 32])), (4, (pln [0, 2, 4, 6, 8, 10, 13]))]⟩) := ⟨Tryz.func129, ⟨_, rfl, by kernel_rfl⟩, Tryz.call129⟩
theorem rFw_130 : FhOk Tryz.prog 130 (.code ⟨Tryz.f130, false, false, pls []⟩) := ⟨Tryz.func130, ⟨_, rfl, by kernel_rfl⟩, Tryz.call130⟩
theorem rFw_131 : FhOk Tryz.prog 131 (.code ⟨Tryz.f131, false, false, pls []⟩) := ⟨Tryz.func131, ⟨_, rfl, by kernel_rfl⟩, Tryz.call131⟩
theorem rFw_132 : FhOk Tryz.prog 132 (.code ⟨Tryz.f132, false, false, pls []⟩) := ⟨Tryz.func132, ⟨_, rfl, by kernel_rfl⟩, Tryz.call132⟩
theorem rFw_133 : FhOk Tryz.prog 133 (.code ⟨Tryz.f133, false, false, pls []⟩) := ⟨Tryz.func133, ⟨_, rfl, by kernel_rfl⟩, Tryz.call133⟩
theorem rFw_134 : FhOk Tryz.prog 134 (.code ⟨Tryz.f134, false, false, pls []⟩) := ⟨Tryz.func134, ⟨_, rfl, by kernel_rfl⟩, Tryz.call134⟩
theorem rFw_135 : FhOk Tryz.prog 135 (.code ⟨Tryz.f135, false, false, pls []⟩) := ⟨Tryz.func135, ⟨_, rfl, by kernel_rfl⟩, Tryz.call135⟩
theorem rFw_136 : FhOk Tryz.prog 136 (.code ⟨Tryz.f136, false, false, pls []⟩) := ⟨Tryz.func136, ⟨_, rfl, by kernel_rfl⟩, Tryz.call136⟩
theorem rFw_137 : FhOk Tryz.prog 137 (.code ⟨Tryz.f137, false, false, pls []⟩) := ⟨Tryz.func137, ⟨_, rfl, by kernel_rfl⟩, Tryz.call137⟩
theorem rFw_138 : FhOk Tryz.prog 138 (.code ⟨Tryz.f138, false, false, pls [(3, (pln [0, 2, 4, 8, 10, 12, 7, 15, 16, 18]))]⟩) := ⟨Tryz.func138, ⟨_, rfl, by kernel_rfl⟩, Tryz.call138⟩
theorem rFw_139 : FhOk Tryz.prog 139 (.code ⟨Tryz.f139, true, false, pls []⟩) := ⟨Tryz.func139, ⟨_, rfl, by kernel_rfl⟩, Tryz.call139⟩
theorem rFw_140 : FhOk Tryz.prog 140 (.code ⟨Tryz.f140, false, false, pls [(3, (pln [0, 2, 4, 6, 8, 10, 12, 14, 16, 18, 20]))]⟩) := ⟨Tryz.func140, ⟨_, rfl, by kernel_rfl⟩, Tryz.call140⟩
theorem rFw_143 : FhOk Tryz.prog 143 (.code ⟨Tryz.f143, true, false, pls []⟩) := ⟨Tryz.func143, ⟨_, rfl, by kernel_rfl⟩, Tryz.call143⟩
theorem rFw_145 : FhOk Tryz.prog 145 (.code ⟨Tryz.f145, false, false, pls []⟩) := ⟨Tryz.func145, ⟨_, rfl, by kernel_rfl⟩, Tryz.call145⟩
theorem rFw_146 : FhOk Tryz.prog 146 (.code ⟨Tryz.f146, true, false, pls []⟩) := ⟨Tryz.func146, ⟨_, rfl, by kernel_rfl⟩, Tryz.call146⟩
theorem rFw_147 : FhOk Tryz.prog 147 (.code ⟨Tryz.f147, true, false, pls []⟩) := ⟨Tryz.func147, ⟨_, rfl, by kernel_rfl⟩, Tryz.call147⟩
theorem rFw_148 : FhOk Tryz.prog 148 (.code ⟨Tryz.f148, true, false, pls []⟩) := ⟨Tryz.func148, ⟨_, rfl, by kernel_rfl⟩, Tryz.call148⟩
theorem rFw_149 : FhOk Tryz.prog 149 (.code ⟨Tryz.f149, false, false, pls []⟩) := ⟨Tryz.func149, ⟨_, rfl, by kernel_rfl⟩, Tryz.call149⟩
theorem rFw_150 : FhOk Tryz.prog 150 (.code ⟨Tryz.f150, false, false, pls []⟩) := ⟨Tryz.func150, ⟨_, rfl, by kernel_rfl⟩, Tryz.call150⟩
theorem rFw_151 : FhOk Tryz.prog 151 (.code ⟨Tryz.f151, true, false, pls []⟩) := ⟨Tryz.func151, ⟨_, rfl, by kernel_rfl⟩, Tryz.call151⟩
theorem rFw_154 : FhOk Tryz.prog 154 (.code ⟨Tryz.f154, true, false, pls []⟩) := ⟨Tryz.func154, ⟨_, rfl, by kernel_rfl⟩, Tryz.call154⟩
theorem rFw_155 : FhOk Tryz.prog 155 (.code ⟨Tryz.f155, false, false, pls []⟩) := ⟨Tryz.func155, ⟨_, rfl, by kernel_rfl⟩, Tryz.call155⟩
theorem rFw_156 : FhOk Tryz.prog 156 (.code ⟨Tryz.f156, false, false, pls [(0, (pln [0, 2, 4, 6, 8, 10, 12, 14, 18, 20, 22, 24, 26, 16, 28, 30]))]⟩) := ⟨Tryz.func156, ⟨_, rfl, by kernel_rfl⟩, Tryz.call156⟩
theorem rFw_157 : FhOk Tryz.prog 157 (.code ⟨Tryz.f157, true, false, pls [(6, (pln [0, 2, 4, 6, 8, 10, 12])), (7, (pln [0, 2, 4, 6, 8, 10, 12, 14, 16])), (14, (pln [0, 2, 4, 6, 8, 10, 12, 14, 16, 18, 20])), (31, (pln [0, 2, 4, 6, 8, 10, 12, 14, 16, 18, 20]))]⟩) := ⟨Tryz.func157, ⟨_, rfl, by kernel_rfl⟩, Tryz.call157⟩
theorem rFw_158 : FhOk Tryz.prog 158 (.code ⟨Tryz.f158, true, false, pls []⟩) := ⟨Tryz.func158, ⟨_, rfl, by kernel_rfl⟩, Tryz.call158⟩
theorem rFw_159 : FhOk Tryz.prog 159 (.code ⟨Tryz.f159, false, false, pls []⟩) := ⟨Tryz.func159, ⟨_, rfl, by kernel_rfl⟩, Tryz.call159⟩
theorem rFw_160 : FhOk Tryz.prog 160 (.code ⟨Tryz.f160, true, false, pls []⟩) := ⟨Tryz.func160, ⟨_, rfl, by kernel_rfl⟩, Tryz.call160⟩
theorem rFw_161 : FhOk Tryz.prog 161 (.code ⟨Tryz.f161, false, false, pls []⟩) := ⟨Tryz.func161, ⟨_, rfl, by kernel_rfl⟩, Tryz.call161⟩
theorem rFw_162 : FhOk Tryz.prog 162 (.code ⟨Tryz.f162, true, false, pls []⟩) := ⟨Tryz.func162, ⟨_, rfl, by kernel_rfl⟩, Tryz.call162⟩
theorem rFw_164 : FhOk Tryz.prog 164 (.code ⟨Tryz.f164, false, false, pls []⟩) := ⟨Tryz.func164, ⟨_, rfl, by kernel_rfl⟩, Tryz.call164⟩
theorem rFw_165 : FhOk Tryz.prog 165 (.code ⟨Tryz.f165, true, false, pls []⟩) := ⟨Tryz.func165, ⟨_, rfl, by kernel_rfl⟩, Tryz.call165⟩
theorem rFw_166 : FhOk Tryz.prog 166 (.code ⟨Tryz.f166, true, false, pls []⟩) := ⟨Tryz.func166, ⟨_, rfl, by kernel_rfl⟩, Tryz.call166⟩
theorem rFw_167 : FhOk Tryz.prog 167 (.code ⟨Tryz.f167, true, false, pls []⟩) := ⟨Tryz.func167, ⟨_, rfl, by kernel_rfl⟩, Tryz.call167⟩
theorem rFw_168 : FhOk Tryz.prog 168 (.code ⟨Tryz.f168, true, false, pls []⟩) := ⟨Tryz.func168, ⟨_, rfl, by kernel_rfl⟩, Tryz.call168⟩
theorem rFw_169 : FhOk Tryz.prog 169 (.code ⟨Tryz.f169, true, false, pls []⟩) := ⟨Tryz.func169, ⟨_, rfl, by kernel_rfl⟩, Tryz.call169⟩
theorem rFw_170 : FhOk Tryz.prog 170 (.code ⟨Tryz.f170, true, false, pls []⟩) := ⟨Tryz.func170, ⟨_, rfl, by kernel_rfl⟩, Tryz.call170⟩
theorem rFw_171 : FhOk Tryz.prog 171 (.code ⟨Tryz.f171, true, false, pls []⟩) := ⟨Tryz.func171, ⟨_, rfl, by kernel_rfl⟩, Tryz.call171⟩
theorem rFw_172 : FhOk Tryz.prog 172 (.code ⟨Tryz.f172, false, false, pls []⟩) := ⟨Tryz.func172, ⟨_, rfl, by kernel_rfl⟩, Tryz.call172⟩
theorem rFw_173 : FhOk Tryz.prog 173 (.code ⟨Tryz.f173, false, false, pls [(1, (pln [0, 2, 4, 6, 8, 10, 12, 14, 16, 18, 20]))]⟩) := ⟨Tryz.func173, ⟨_, rfl, by kernel_rfl⟩, Tryz.call173⟩
theorem rFw_174 : FhOk Tryz.prog 174 (.code ⟨Tryz.f174, true, false, pls []⟩) := ⟨Tryz.func174, ⟨_, rfl, by kernel_rfl⟩, Tryz.call174⟩
theorem rFw_175 : FhOk Tryz.prog 175 (.code ⟨Tryz.f175, false, false, pls [(5, (pln [0, 2, 4, 6, 8])), (6, (plk [0, 2, 4, 6, 8, 10, 12, 14, 16, 18] (.two 10 14 (pln [22, 24, 26, 28, 30, 32]) (pln [20, 22, 24, 26, 30, 32])))), (8, (pln [0, 2, 4, 6, 8])), (9, (pln [0, 2, 4, 6, 8, 10, 12, 14, 16, 18, 20, 22])), (10, (pln [0, 2, 4, 6, 8, 10]))]⟩) := ⟨Tryz.func175, ⟨_, rfl, by kernel_rfl⟩, Tryz.call175⟩
theorem rFw_176 : FhOk Tryz.prog 176 (.code ⟨Tryz.f176, false, false, pls []⟩) := ⟨Tryz.func176, ⟨_, rfl, by kernel_rfl⟩, Tryz.call176⟩
theorem rFw_177 : FhOk Tryz.prog 177 (.code ⟨Tryz.f177, false, false, pls []⟩) := ⟨Tryz.func177, ⟨_, rfl, by kernel_rfl⟩, Tryz.call177⟩
theorem rFw_178 : FhOk Tryz.prog 178 (.code ⟨Tryz.f178, false, false, pls []⟩) := ⟨Tryz.func178, ⟨_, rfl, by kernel_rfl⟩, Tryz.call178⟩
theorem rFw_179 : FhOk Tryz.prog 179 (.code ⟨Tryz.f179, false, false, pls [(13, (pln [0, 2, 4, 6, 8, 10, 12, 14, 16]))]⟩) := ⟨Tryz.func179, ⟨_, rfl, by kernel_rfl⟩, Tryz.call179⟩
theorem rFw_180 : FhOk Tryz.prog 180 (.code ⟨Tryz.f180, false, false, pls []⟩) := ⟨Tryz.func180, ⟨_, rfl, by kernel_rfl⟩, Tryz.call180⟩
theorem rFw_181 : FhOk Tryz.prog 181 (.code ⟨Tryz.f181, false, false, pls [(6, (pln [0, 2, 4, 6, 8, 10, 12, 14, 16, 18])), (7, (pln [0, 2, 4, 6, 8, 10, 12, 14, 16, 18, 20, 22, 24, 26])), (8, (pln [0, 2, 4, 6, 8, 10, 12, 14, 16, 18, 20, 22, 24]))]⟩) := ⟨Tryz.func181, ⟨_, rfl, by kernel_rfl⟩, Tryz.call181⟩
theorem rFw_182 : FhOk Tryz.prog 182 (.code ⟨Tryz.f182, true, false, pls [(1, (pln [0, 2, 4, 6, 8, 10, 12, 14]))]⟩) := ⟨Tryz.func182, ⟨_, rfl, by kernel_rfl⟩, Tryz.call182⟩
theorem rFw_183 : FhOk Tryz.prog 183 (.code ⟨Tryz.f183, false, false, pls []⟩) := ⟨Tryz.func183, ⟨_, rfl, by kernel_rfl⟩, Tryz.call183⟩
theorem rFw_184 : FhOk Tryz.prog 184 (.code ⟨Tryz.f184, true, false, pls []⟩) := ⟨Tryz.func184, ⟨_, rfl, by kernel_rfl⟩, Tryz.call184⟩
theorem rFw_185 : FhOk Tryz.prog 185 (.code ⟨Tryz.f185, false, false, pls []⟩) := ⟨Tryz.func185, ⟨_, rfl, by kernel_rfl⟩, Tryz.call185⟩
theorem rFw_186 : FhOk Tryz.prog 186 (.code ⟨Tryz.f186, false, false, pls [(1, (plk [0, 2, 4, 6, 8, 10, 12, 14, 16, 18] (.two 10 14 (pln [22, 24, 26, 28, 30, 32]) (pln [20, 22, 24, 26, 30, 32])))), (4, (pln [0, 2, 4, 6, 8, 10, 12, 14, 16, 18, 20, 22]))]⟩) := ⟨Tryz.func186, ⟨_, rfl, by kernel_rfl⟩, Tryz.call186⟩
theorem rFw_187 : FhOk Tryz.prog 187 (.code ⟨Tryz.f187, false, false, pls [(5, (plk [0, 2, 4, 6, 8, 10, 12, 14, 16, 18] (.two 10 14 (pln [22, 24, 26, 28, 30, 32]) (pln [20, 22, 24, 26, 30, 32])))), (10, (pln [0, 2, 4, 6, 8, 10, 12, 16, 18, 20, 22, 24, 14, 26, 28, 30, 32, 34, 36])), (15, (pln [0, 2, 4, 6, 8, 10, 12, 15, 16, 18, 20, 22, 24, 26, 28])), (16, (pln [0, 2, 4, 6, 8, 10, 12, 15, 16, 18, 20, 22, 24, 26, 28]))]⟩) := ⟨Tryz.func187, ⟨_, rfl, by kernel_rfl⟩, Tryz.call187⟩
theorem rFw_188 : FhOk Tryz.prog 188 (.code ⟨Tryz.f188, false, false, pls []⟩) := ⟨Tryz.func188, ⟨_, rfl, by kernel_rfl⟩, Tryz.call188⟩
theorem rFw_189 : FhOk Tryz.prog 189 (.code ⟨Tryz.f189, false, false, pls []⟩) := ⟨Tryz.func189, ⟨_, rfl, by kernel_rfl⟩, Tryz.call189⟩
theorem rFw_190 : FhOk Tryz.prog 190 (.code ⟨Tryz.f190, false, false, pls []⟩) := ⟨Tryz.func190, ⟨_, rfl, by kernel_rfl⟩, Tryz.call190⟩
theorem rFw_191 : FhOk Tryz.prog 191 (.code ⟨Tryz.f191, false, false, pls [(1, (pln [0, 2, 4, 6, 10, 12, 14, 16, 22, 24, 26, 28, 8, 18, 20, 30, 32, 34]))]⟩) := ⟨Tryz.func191, ⟨_, rfl, by kernel_rfl⟩, Tryz.call191⟩
theorem rFw_192 : FhOk Tryz.prog 192 (.code ⟨Tryz.f192, true, false, pls []⟩) := ⟨Tryz.func192, ⟨_, rfl, by kernel_rfl⟩, Tryz.call192⟩
theorem rFw_193 : FhOk Tryz.prog 193 (.code ⟨Tryz.f193, false, false, pls []⟩) := ⟨Tryz.func193, ⟨_, rfl, by kernel_rfl⟩, Tryz.call193⟩
theorem rFw_196 : FhOk Tryz.prog 196 (.code ⟨Tryz.f196, true, false, pls []⟩) := ⟨Tryz.func196, ⟨_, rfl, by kernel_rfl⟩, Tryz.call196⟩
theorem rFw_199 : FhOk Tryz.prog 199 (.code ⟨Tryz.f199, true, false, pls []⟩) := ⟨Tryz.func199, ⟨_, rfl, by kernel_rfl⟩, Tryz.call199⟩
theorem rFw_200 : FhOk Tryz.prog 200 (.code ⟨Tryz.f200, true, false, pls []⟩) := ⟨Tryz.func200, ⟨_, rfl, by kernel_rfl⟩, Tryz.call200⟩
theorem rFw_201 : FhOk Tryz.prog 201 (.hook hkIdxB) := hkIdxB_ok
theorem rFw_202 : FhOk Tryz.prog 202 (.code ⟨Tryz.f202, true, false, pls []⟩) := ⟨Tryz.func202, ⟨_, rfl, by kernel_rfl⟩, Tryz.call202⟩
theorem rFw_203 : FhOk Tryz.prog 203 (.code ⟨Tryz.f203, true, false, pls []⟩) := ⟨Tryz.func203, ⟨_, rfl, by kernel_rfl⟩, Tryz.call203⟩
theorem rFw_204 : FhOk Tryz.prog 204 (.hook hkFold) := hkFold_ok
theorem rFw_205 : FhOk Tryz.prog 205 (.code ⟨Tryz.f205, true, false, pls []⟩) := ⟨Tryz.func205, ⟨_, rfl, by kernel_rfl⟩, Tryz.call205⟩
theorem rFw_206 : FhOk Tryz.prog 206 (.hook hkFour) := hkFour_ok
theorem rFw_207 : FhOk Tryz.prog 207 (.code ⟨Tryz.f207, true, false, pls []⟩) := ⟨Tryz.func207, ⟨_, rfl, by kernel_rfl⟩, Tryz.call207⟩
theorem rFw_208 : FhOk Tryz.prog 208 (.code ⟨Tryz.f208, true, false, pls []⟩) := ⟨Tryz.func208, ⟨_, rfl, by kernel_rfl⟩, Tryz.call208⟩
theorem rFw_209 : FhOk Tryz.prog 209 (.code ⟨Tryz.f209, true, false, pls []⟩) := ⟨Tryz.func209, ⟨_, rfl, by kernel_rfl⟩, Tryz.call209⟩
theorem rFw_210 : FhOk Tryz.prog 210 (.code ⟨Tryz.f210, true, false, pls [(7, (pln [0, 2, 4, 6, 8, 10, 12, 14, 16, 18, 20, 22, 24, 26, 28])), (8, (pln [0, 2, 4, 6, 8, 10, 12, 14, 16, 18, 20, 22, 24, 26, 28])), (9, (pln [0, 2, 4, 6, 8, 10, 12, 14, 16, 18, 20, 22, 24, 26, 28])), (10, (pln [0, 2, 4, 6, 8, 10, 12, 14, 16, 18, 20, 22, 24, 26, 28])), (17, (pln [0, 2, 4, 6, 8, 10, 12, 14, 16, 18, 20, 22, 24, 26, 28])), (18, (pln [0, 2, 4, 6, 8, 10, 12, 14, 16, 18, 20, 22, 24, 26, 28])), (23, (pln [0, 2, 4, 6, 8, 10, 12, 14, 16, 18, 20, 22, 24, 26, 28]))]⟩) := ⟨Tryz.func210, ⟨_, rfl, by kernel_rfl⟩, Tryz.call210⟩
theorem rFw_211 : FhOk Tryz.prog 211 (.code ⟨Tryz.f211, true, false, pls []⟩) := ⟨Tryz.func211, ⟨_, rfl, by kernel_rfl⟩, Tryz.call211⟩
theorem rFw_214 : FhOk Tryz.prog 214 (.code ⟨Tryz.f214, true, false, pls []⟩) := ⟨Tryz.func214, ⟨_, rfl, by kernel_rfl⟩, Tryz.call214⟩
theorem rFw_215 : FhOk Tryz.prog 215 (.code ⟨Tryz.f215, false, false, pls []⟩) := ⟨Tryz.func215, ⟨_, rfl, by kernel_rfl⟩, Tryz.call215⟩
theorem rFw_216 : FhOk Tryz.prog 216 (.code ⟨Tryz.f216, false, false, pls []⟩) := ⟨Tryz.func216, ⟨_, rfl, by kernel_rfl⟩, Tryz.call216⟩
theorem rFw_217 : FhOk Tryz.prog 217 (.code ⟨Tryz.f217, true, false, pls []⟩) := ⟨Tryz.func217, ⟨_, rfl, by kernel_rfl⟩, Tryz.call217⟩
theorem rFw_218 : FhOk Tryz.prog 218 (.code ⟨Tryz.f218, true, false, pls [(12, (pln [0, 2, 4, 6, 8, 10, 12, 14, 16]))]⟩) := ⟨Tryz.func218, ⟨_, rfl, by kernel_rfl⟩, Tryz.call218⟩
theorem rFw_219 : FhOk Tryz.prog 219 (.code ⟨Tryz.f219, true, false, pls []⟩) := ⟨Tryz.func219, ⟨_, rfl, by kernel_rfl⟩, Tryz.call219⟩
theorem rFw_220 : FhOk Tryz.prog 220 (.code ⟨Tryz.f220, true, false, pls []⟩) := ⟨Tryz.func220, ⟨_, rfl, by kernel_rfl⟩, Tryz.call220⟩
theorem rFw_221 : FhOk Tryz.prog 221 (.code ⟨Tryz.f221, false, false, pls []⟩) := ⟨Tryz.func221, ⟨_, rfl, by kernel_rfl⟩, Tryz.call221⟩
theorem rFw_222 : FhOk Tryz.prog 222 (.code ⟨Tryz.f222, false, false, pls []⟩) := ⟨Tryz.func222, ⟨_, rfl, by kernel_rfl⟩, Tryz.call222⟩
theorem rFw_223 : FhOk Tryz.prog 223 (.code ⟨Tryz.f223, false, false, pls []⟩) := ⟨Tryz.func223, ⟨_, rfl, by kernel_rfl⟩, Tryz.call223⟩
theorem rFw_224 : FhOk Tryz.prog 224 (.code ⟨Tryz.f224, true, false, pls []⟩) := ⟨Tryz.func224, ⟨_, rfl, by kernel_rfl⟩, Tryz.call224⟩
theorem rFw_225 : FhOk Tryz.prog 225 (.code ⟨Tryz.f225, true, false, pls []⟩) := ⟨Tryz.func225, ⟨_, rfl, by kernel_rfl⟩, Tryz.call225⟩
theorem rFw_226 : FhOk Tryz.prog 226 (.code ⟨Tryz.f226, true, false, pls []⟩) := ⟨Tryz.func226, ⟨_, rfl, by kernel_rfl⟩, Tryz.call226⟩
theorem rFw_227 : FhOk Tryz.prog 227 (.code ⟨Tryz.f227, true, false, pls []⟩) := ⟨Tryz.func227, ⟨_, rfl, by kernel_rfl⟩, Tryz.call227⟩
theorem rFw_228 : FhOk Tryz.prog 228 (.code ⟨Tryz.f228, true, false, pls [(4, (pln [0, 2, 6, 8, 10, 12, 14, 4, 16, 18, 20, 22, 24, 26, 28])), (10, (pln [0, 2, 4, 6, 8, 10, 12]))]⟩) := ⟨Tryz.func228, ⟨_, rfl, by kernel_rfl⟩, Tryz.call228⟩
theorem rFw_229 : FhOk Tryz.prog 229 (.code ⟨Tryz.f229, false, false, pls []⟩) := ⟨Tryz.func229, ⟨_, rfl, by kernel_rfl⟩, Tryz.call229⟩
theorem rFw_230 : FhOk Tryz.prog 230 (.code ⟨Tryz.f230, false, false, pls []⟩) := ⟨Tryz.func230, ⟨_, rfl, by kernel_rfl⟩, Tryz.call230⟩
theorem rFw_231 : FhOk Tryz.prog 231 (.code ⟨Tryz.f231, false, false, pls []⟩) := ⟨Tryz.func231, ⟨_, rfl, by kernel_rfl⟩, Tryz.call231⟩
theorem rFw_232 : FhOk Tryz.prog 232 (.code ⟨Tryz.f232, true, false, pls []⟩) := ⟨Tryz.func232, ⟨_, rfl, by kernel_rfl⟩, Tryz.call232⟩
theorem rFw_233 : FhOk Tryz.prog 233 (.code ⟨Tryz.f233, true, false, pls []⟩) := ⟨Tryz.func233, ⟨_, rfl, by kernel_rfl⟩, Tryz.call233⟩
theorem rFw_234 : FhOk Tryz.prog 234 (.code ⟨Tryz.f234, true, false, pls []⟩) := ⟨Tryz.func234, ⟨_, rfl, by kernel_rfl⟩, Tryz.call234⟩
theorem rFw_235 : FhOk Tryz.prog 235 (.code ⟨Tryz.f235, false, false, pls []⟩) := ⟨Tryz.func235, ⟨_, rfl, by kernel_rfl⟩, Tryz.call235⟩
theorem rFw_236 : FhOk Tryz.prog 236 (.code ⟨Tryz.f236, true, false, pls []⟩) := ⟨Tryz.func236, ⟨_, rfl, by kernel_rfl⟩, Tryz.call236⟩
theorem rFw_237 : FhOk Tryz.prog 237 (.code ⟨Tryz.f237, true, false, pls []⟩) := ⟨Tryz.func237, ⟨_, rfl, by kernel_rfl⟩, Tryz.call237⟩
theorem rFw_238 : FhOk Tryz.prog 238 (.code ⟨Tryz.f238, false, false, pls []⟩) := ⟨Tryz.func238, ⟨_, rfl, by kernel_rfl⟩, Tryz.call238⟩
theorem rFw_239 : FhOk Tryz.prog 239 (.code ⟨Tryz.f239, true, false, pls []⟩) := ⟨Tryz.func239, ⟨_, rfl, by kernel_rfl⟩, Tryz.call239⟩
theorem rFw_240 : FhOk Tryz.prog 240 (.code ⟨Tryz.f240, true, false, pls []⟩) := ⟨Tryz.func240, ⟨_, rfl, by kernel_rfl⟩, Tryz.call240⟩
theorem rFw_241 : FhOk Tryz.prog 241 (.code ⟨Tryz.f241, true, false, pls []⟩) := ⟨Tryz.func241, ⟨_, rfl, by kernel_rfl⟩, Tryz.call241⟩
theorem rFw_242 : FhOk Tryz.prog 242 (.code ⟨Tryz.f242, true, false, pls []⟩) := ⟨Tryz.func242, ⟨_, rfl, by kernel_rfl⟩, Tryz.call242⟩
theorem rFw_243 : FhOk Tryz.prog 243 (.code ⟨Tryz.f243, false, false, pls []⟩) := ⟨Tryz.func243, ⟨_, rfl, by kernel_rfl⟩, Tryz.call243⟩
theorem rFw_244 : FhOk Tryz.prog 244 (.code ⟨Tryz.f244, false, false, pls []⟩) := ⟨Tryz.func244, ⟨_, rfl, by kernel_rfl⟩, Tryz.call244⟩
theorem rFw_245 : FhOk Tryz.prog 245 (.code ⟨Tryz.f245, false, false, pls []⟩) := ⟨Tryz.func245, ⟨_, rfl, by kernel_rfl⟩, Tryz.call245⟩
theorem rFw_248 : FhOk Tryz.prog 248 (.code ⟨Tryz.f248, true, false, pls []⟩) := ⟨Tryz.func248, ⟨_, rfl, by kernel_rfl⟩, Tryz.call248⟩
theorem rFw_250 : FhOk Tryz.prog 250 (.code ⟨Tryz.f250, true, false, pls []⟩) := ⟨Tryz.func250, ⟨_, rfl, by kernel_rfl⟩, Tryz.call250⟩
theorem rFw_252 : FhOk Tryz.prog 252 (.code ⟨Tryz.f252, true, false, pls []⟩) := ⟨Tryz.func252, ⟨_, rfl, by kernel_rfl⟩, Tryz.call252⟩
theorem rFw_253 : FhOk Tryz.prog 253 (.hook hkUnr) := hkUnr_ok
theorem rFw_254 : FhOk Tryz.prog 254 (.hook hkSub) := hkSub_ok
theorem rFw_255 : FhOk Tryz.prog 255 (.code ⟨Tryz.f255, true, false, pls []⟩) := ⟨Tryz.func255, ⟨_, rfl, by kernel_rfl⟩, Tryz.call255⟩
theorem rFw_256 : FhOk Tryz.prog 256 (.code ⟨Tryz.f256, true, false, pls []⟩) := ⟨Tryz.func256, ⟨_, rfl, by kernel_rfl⟩, Tryz.call256⟩
theorem rFw_257 : FhOk Tryz.prog 257 (.code ⟨Tryz.f257, true, false, pls []⟩) := ⟨Tryz.func257, ⟨_, rfl, by kernel_rfl⟩, Tryz.call257⟩
theorem rFw_258 : FhOk Tryz.prog 258 (.code ⟨Tryz.f258, true, false, pls []⟩) := ⟨Tryz.func258, ⟨_, rfl, by kernel_rfl⟩, Tryz.call258⟩
theorem rFw_259 : FhOk Tryz.prog 259 (.code ⟨Tryz.f259, true, false, pls []⟩) := ⟨Tryz.func259, ⟨_, rfl, by kernel_rfl⟩, Tryz.call259⟩
theorem rFw_260 : FhOk Tryz.prog 260 (.code ⟨Tryz.f260, true, false, pls []⟩) := ⟨Tryz.func260, ⟨_, rfl, by kernel_rfl⟩, Tryz.call260⟩
theorem rFw_261 : FhOk Tryz.prog 261 (.hook hkPcut) := hkPcut_ok
theorem rFw_262 : FhOk Tryz.prog 262 (.code ⟨Tryz.f262, true, false, pls []⟩) := ⟨Tryz.func262, ⟨_, rfl, by kernel_rfl⟩, Tryz.call262⟩
theorem rFw_263 : FhOk Tryz.prog 263 (.code ⟨Tryz.f263, true, false, pls []⟩) := ⟨Tryz.func263, ⟨_, rfl, by kernel_rfl⟩, Tryz.call263⟩
theorem rFw_264 : FhOk Tryz.prog 264 (.code ⟨Tryz.f264, true, false, pls []⟩) := ⟨Tryz.func264, ⟨_, rfl, by kernel_rfl⟩, Tryz.call264⟩
theorem rFw_265 : FhOk Tryz.prog 265 (.code ⟨Tryz.f265, true, false, pls []⟩) := ⟨Tryz.func265, ⟨_, rfl, by kernel_rfl⟩, Tryz.call265⟩
theorem rFw_266 : FhOk Tryz.prog 266 (.code ⟨Tryz.f266, true, false, pls [(4, (pln [0, 2, 4, 6, 8, 10, 12, 14, 16, 18])), (13, (pln [0, 2, 4, 6, 8, 10]))]⟩) := ⟨Tryz.func266, ⟨_, rfl, by kernel_rfl⟩, Tryz.call266⟩
theorem rFw_267 : FhOk Tryz.prog 267 (.code ⟨Tryz.f267, true, false, pls []⟩) := ⟨Tryz.func267, ⟨_, rfl, by kernel_rfl⟩, Tryz.call267⟩
theorem rFw_268 : FhOk Tryz.prog 268 (.code ⟨Tryz.f268, true, false, pls []⟩) := ⟨Tryz.func268, ⟨_, rfl, by kernel_rfl⟩, Tryz.call268⟩
theorem rFw_269 : FhOk Tryz.prog 269 (.code ⟨Tryz.f269, true, false, pls []⟩) := ⟨Tryz.func269, ⟨_, rfl, by kernel_rfl⟩, Tryz.call269⟩
theorem rFw_270 : FhOk Tryz.prog 270 (.code ⟨Tryz.f270, true, false, pls []⟩) := ⟨Tryz.func270, ⟨_, rfl, by kernel_rfl⟩, Tryz.call270⟩
theorem rFw_271 : FhOk Tryz.prog 271 (.code ⟨Tryz.f271, true, false, pls []⟩) := ⟨Tryz.func271, ⟨_, rfl, by kernel_rfl⟩, Tryz.call271⟩
theorem rFw_272 : FhOk Tryz.prog 272 (.hook hkLen) := hkLen_ok
theorem rFw_273 : FhOk Tryz.prog 273 (.code ⟨Tryz.f273, true, false, pls [(1, (pln [0, 2, 8, 4, 6, 10, 12, 14])), (12, (pln [0, 2, 4, 6, 8, 10, 12, 14, 16, 18, 20, 22]))]⟩) := ⟨Tryz.func273, ⟨_, rfl, by kernel_rfl⟩, Tryz.call273⟩
theorem rFw_274 : FhOk Tryz.prog 274 (.code ⟨Tryz.f274, true, false, pls []⟩) := ⟨Tryz.func274, ⟨_, rfl, by kernel_rfl⟩, Tryz.call274⟩
theorem rFw_275 : FhOk Tryz.prog 275 (.hook hkKn) := hkKn_ok
theorem rFw_276 : FhOk Tryz.prog 276 (.code ⟨Tryz.f276, false, false, pls [(3, (pln [0, 6, 8, 12, 14, 2, 4, 10, 16, 18, 20, 22, 24, 26])), (9, (pln [0, 4, 2, 6, 8, 10]))]⟩) := ⟨Tryz.func276, ⟨_, rfl, by kernel_rfl⟩, Tryz.call276⟩
theorem rFw_277 : FhOk Tryz.prog 277 (.code ⟨Tryz.f277, true, false, pls []⟩) := ⟨Tryz.func277, ⟨_, rfl, by kernel_rfl⟩, Tryz.call277⟩
theorem rFw_278 : FhOk Tryz.prog 278 (.code ⟨Tryz.f278, false, false, pls []⟩) := ⟨Tryz.func278, ⟨_, rfl, by kernel_rfl⟩, Tryz.call278⟩
theorem rFw_279 : FhOk Tryz.prog 279 (.code ⟨Tryz.f279, false, false, pls []⟩) := ⟨Tryz.func279, ⟨_, rfl, by kernel_rfl⟩, Tryz.call279⟩
theorem rFw_280 : FhOk Tryz.prog 280 (.code ⟨Tryz.f280, false, false, pls [(5, (pln [0, 2, 4, 6, 8, 10, 12, 14, 16, 18, 20, 22, 24, 26]))]⟩) := ⟨Tryz.func280, ⟨_, rfl, by kernel_rfl⟩, Tryz.call280⟩
theorem rFw_281 : FhOk Tryz.prog 281 (.code ⟨Tryz.f281, true, false, pls []⟩) := ⟨Tryz.func281, ⟨_, rfl, by kernel_rfl⟩, Tryz.call281⟩
theorem rFw_282 : FhOk Tryz.prog 282 (.code ⟨Tryz.f282, true, false, pls []⟩) := ⟨Tryz.func282, ⟨_, rfl, by kernel_rfl⟩, Tryz.call282⟩
theorem rFw_283 : FhOk Tryz.prog 283 (.code ⟨Tryz.f283, false, false, pls []⟩) := ⟨Tryz.func283, ⟨_, rfl, by kernel_rfl⟩, Tryz.call283⟩
theorem rFw_284 : FhOk Tryz.prog 284 (.code ⟨Tryz.f284, true, false, pls []⟩) := ⟨Tryz.func284, ⟨_, rfl, by kernel_rfl⟩, Tryz.call284⟩
theorem rFw_285 : FhOk Tryz.prog 285 (.code ⟨Tryz.f285, false, false, pls []⟩) := ⟨Tryz.func285, ⟨_, rfl, by kernel_rfl⟩, Tryz.call285⟩
theorem rFw_286 : FhOk Tryz.prog 286 (.code ⟨Tryz.f286, true, false, pls []⟩) := ⟨Tryz.func286, ⟨_, rfl, by kernel_rfl⟩, Tryz.call286⟩
theorem rFw_287 : FhOk Tryz.prog 287 (.code ⟨Tryz.f287, true, false, pls []⟩) := ⟨Tryz.func287, ⟨_, rfl, by kernel_rfl⟩, Tryz.call287⟩
theorem rFw_288 : FhOk Tryz.prog 288 (.code ⟨Tryz.f288, true, false, pls []⟩) := ⟨Tryz.func288, ⟨_, rfl, by kernel_rfl⟩, Tryz.call288⟩
theorem rFw_289 : FhOk Tryz.prog 289 (.code ⟨Tryz.f289, false, false, pls []⟩) := ⟨Tryz.func289, ⟨_, rfl, by kernel_rfl⟩, Tryz.call289⟩
theorem rFw_290 : FhOk Tryz.prog 290 (.code ⟨Tryz.f290, false, false, pls []⟩) := ⟨Tryz.func290, ⟨_, rfl, by kernel_rfl⟩, Tryz.call290⟩
theorem rFw_291 : FhOk Tryz.prog 291 (.hook hkHex) := hkHex_ok
theorem rFw_293 : FhOk Tryz.prog 293 (.code ⟨Tryz.f293, true, false, pls []⟩) := ⟨Tryz.func293, ⟨_, rfl, by kernel_rfl⟩, Tryz.call293⟩
theorem rFw_294 : FhOk Tryz.prog 294 (.code ⟨Tryz.f294, true, false, pls []⟩) := ⟨Tryz.func294, ⟨_, rfl, by kernel_rfl⟩, Tryz.call294⟩
theorem rFw_297 : FhOk Tryz.prog 297 (.code ⟨Tryz.f297, true, false, pls []⟩) := ⟨Tryz.func297, ⟨_, rfl, by kernel_rfl⟩, Tryz.call297⟩
theorem rFw_298 : FhOk Tryz.prog 298 (.code ⟨Tryz.f298, true, false, pls []⟩) := ⟨Tryz.func298, ⟨_, rfl, by kernel_rfl⟩, Tryz.call298⟩
theorem rFw_299 : FhOk Tryz.prog 299 (.code ⟨Tryz.f299, true, false, pls []⟩) := ⟨Tryz.func299, ⟨_, rfl, by kernel_rfl⟩, Tryz.call299⟩
theorem rFw_300 : FhOk Tryz.prog 300 (.code ⟨Tryz.f300, true, false, pls [(3, (pln [0, 2, 4, 6, 8, 10, 12, 14]))]⟩) := ⟨Tryz.func300, ⟨_, rfl, by kernel_rfl⟩, Tryz.call300⟩
theorem rFw_301 : FhOk Tryz.prog 301 (.code ⟨Tryz.f301, true, false, pls []⟩) := ⟨Tryz.func301, ⟨_, rfl, by kernel_rfl⟩, Tryz.call301⟩
theorem rFw_302 : FhOk Tryz.prog 302 (.code ⟨Tryz.f302, true, false, pls []⟩) := ⟨Tryz.func302, ⟨_, rfl, by kernel_rfl⟩, Tryz.call302⟩
theorem rFw_303 : FhOk Tryz.prog 303 (.code ⟨Tryz.f303, true, false, pls []⟩) := ⟨Tryz.func303, ⟨_, rfl, by kernel_rfl⟩, Tryz.call303⟩
theorem rFw_304 : FhOk Tryz.prog 304 (.code ⟨Tryz.f304, true, false, pls []⟩) := ⟨Tryz.func304, ⟨_, rfl, by kernel_rfl⟩, Tryz.call304⟩
theorem rFw_305 : FhOk Tryz.prog 305 (.code ⟨Tryz.f305, true, false, pls []⟩) := ⟨Tryz.func305, ⟨_, rfl, by kernel_rfl⟩, Tryz.call305⟩
theorem rFw_306 : FhOk Tryz.prog 306 (.code ⟨Tryz.f306, true, false, pls []⟩) := ⟨Tryz.func306, ⟨_, rfl, by kernel_rfl⟩, Tryz.call306⟩
theorem rFw_307 : FhOk Tryz.prog 307 (.code ⟨Tryz.f307, true, false, pls [(6, (pln [0, 2, 4, 6, 8, 10, 12, 14, 16]))]⟩) := ⟨Tryz.func307, ⟨_, rfl, by kernel_rfl⟩, Tryz.call307⟩
theorem rFw_310 : FhOk Tryz.prog 310 (.code ⟨Tryz.f310, true, false, pls []⟩) := ⟨Tryz.func310, ⟨_, rfl, by kernel_rfl⟩, Tryz.call310⟩
theorem rFw_311 : FhOk Tryz.prog 311 (.code ⟨Tryz.f311, true, false, pls []⟩) := ⟨Tryz.func311, ⟨_, rfl, by kernel_rfl⟩, Tryz.call311⟩
theorem rFw_312 : FhOk Tryz.prog 312 (.code ⟨Tryz.f312, false, false, pls [(6, (pln [0, 2, 4, 6, 8, 10, 12, 14, 17]))]⟩) := ⟨Tryz.func312, ⟨_, rfl, by kernel_rfl⟩, Tryz.call312⟩
theorem rFw_313 : FhOk Tryz.prog 313 (.code ⟨Tryz.f313, true, false, pls []⟩) := ⟨Tryz.func313, ⟨_, rfl, by kernel_rfl⟩, Tryz.call313⟩
theorem rFw_314 : FhOk Tryz.prog 314 (.code ⟨Tryz.f314, false, false, pls []⟩) := ⟨Tryz.func314, ⟨_, rfl, by kernel_rfl⟩, Tryz.call314⟩
theorem rFw_315 : FhOk Tryz.prog 315 (.code ⟨Tryz.f315, true, false, pls []⟩) := ⟨Tryz.func315, ⟨_, rfl, by kernel_rfl⟩, Tryz.call315⟩
theorem rFw_316 : FhOk Tryz.prog 316 (.code ⟨Tryz.f316, true, false, pls []⟩) := ⟨Tryz.func316, ⟨_, rfl, by kernel_rfl⟩, Tryz.call316⟩
theorem rFw_318 : FhOk Tryz.prog 318 (.code ⟨Tryz.f318, true, false, pls []⟩) := ⟨Tryz.func318, ⟨_, rfl, by kernel_rfl⟩, Tryz.call318⟩
theorem rFw_319 : FhOk Tryz.prog 319 (.code ⟨Tryz.f319, true, false, pls []⟩) := ⟨Tryz.func319, ⟨_, rfl, by kernel_rfl⟩, Tryz.call319⟩
theorem rFw_320 : FhOk Tryz.prog 320 (.code ⟨Tryz.f320, true, false, pls []⟩) := ⟨Tryz.func320, ⟨_, rfl, by kernel_rfl⟩, Tryz.call320⟩
theorem rFw_321 : FhOk Tryz.prog 321 (.code ⟨Tryz.f321, false, false, pls []⟩) := ⟨Tryz.func321, ⟨_, rfl, by kernel_rfl⟩, Tryz.call321⟩
theorem rFw_322 : FhOk Tryz.prog 322 (.code ⟨Tryz.f322, false, false, pls [(8, (pln [0, 2, 4, 6, 8, 10, 12, 14, 16, 18, 20]))]⟩) := ⟨Tryz.func322, ⟨_, rfl, by kernel_rfl⟩, Tryz.call322⟩
theorem rFw_323 : FhOk Tryz.prog 323 (.code ⟨Tryz.f323, true, false, pls []⟩) := ⟨Tryz.func323, ⟨_, rfl, by kernel_rfl⟩, Tryz.call323⟩
theorem rFw_324 : FhOk Tryz.prog 324 (.code ⟨Tryz.f324, true, false, pls []⟩) := ⟨Tryz.func324, ⟨_, rfl, by kernel_rfl⟩, Tryz.call324⟩
theorem rFw_325 : FhOk Tryz.prog 325 (.code ⟨Tryz.f325, true, false, pls []⟩) := ⟨Tryz.func325, ⟨_, rfl, by kernel_rfl⟩, Tryz.call325⟩
theorem rFw_328 : FhOk Tryz.prog 328 (.code ⟨Tryz.f328, true, false, pls []⟩) := ⟨Tryz.func328, ⟨_, rfl, by kernel_rfl⟩, Tryz.call328⟩
theorem rFw_329 : FhOk Tryz.prog 329 (.code ⟨Tryz.f329, true, false, pls []⟩) := ⟨Tryz.func329, ⟨_, rfl, by kernel_rfl⟩, Tryz.call329⟩
theorem rFw_330 : FhOk Tryz.prog 330 (.hook hkPth) := hkPth_ok
theorem rFw_331 : FhOk Tryz.prog 331 (.code ⟨Tryz.f331, true, false, pls []⟩) := ⟨Tryz.func331, ⟨_, rfl, by kernel_rfl⟩, Tryz.call331⟩
theorem rFw_332 : FhOk Tryz.prog 332 (.code ⟨Tryz.f332, false, false, pls []⟩) := ⟨Tryz.func332, ⟨_, rfl, by kernel_rfl⟩, Tryz.call332⟩
theorem rFw_333 : FhOk Tryz.prog 333 (.code ⟨Tryz.f333, true, false, pls []⟩) := ⟨Tryz.func333, ⟨_, rfl, by kernel_rfl⟩, Tryz.call333⟩
theorem rFw_334 : FhOk Tryz.prog 334 (.code ⟨Tryz.f334, false, false, pls []⟩) := ⟨Tryz.func334, ⟨_, rfl, by kernel_rfl⟩, Tryz.call334⟩
theorem rFw_335 : FhOk Tryz.prog 335 (.code ⟨Tryz.f335, true, false, pls []⟩) := ⟨Tryz.func335, ⟨_, rfl, by kernel_rfl⟩, Tryz.call335⟩
theorem rFw_336 : FhOk Tryz.prog 336 (.code ⟨Tryz.f336, true, false, pls []⟩) := ⟨Tryz.func336, ⟨_, rfl, by kernel_rfl⟩, Tryz.call336⟩
theorem rFw_337 : FhOk Tryz.prog 337 (.code ⟨Tryz.f337, true, false, pls []⟩) := ⟨Tryz.func337, ⟨_, rfl, by kernel_rfl⟩, Tryz.call337⟩
theorem rFw_338 : FhOk Tryz.prog 338 (.code ⟨Tryz.f338, false, false, pls [(7, (pln [0, 2, 4, 6, 8, 10, 12, 14, 16, 18, 20, 22]))]⟩) := ⟨Tryz.func338, ⟨_, rfl, by kernel_rfl⟩, Tryz.call338⟩
theorem rFw_339 : FhOk Tryz.prog 339 (.code ⟨Tryz.f339, false, false, pls []⟩) := ⟨Tryz.func339, ⟨_, rfl, by kernel_rfl⟩, Tryz.call339⟩
theorem rFw_340 : FhOk Tryz.prog 340 (.code ⟨Tryz.f340, false, false, pls []⟩) := ⟨Tryz.func340, ⟨_, rfl, by kernel_rfl⟩, Tryz.call340⟩
theorem rFw_341 : FhOk Tryz.prog 341 (.code ⟨Tryz.f341, true, false, pls []⟩) := ⟨Tryz.func341, ⟨_, rfl, by kernel_rfl⟩, Tryz.call341⟩
theorem rFw_342 : FhOk Tryz.prog 342 (.code ⟨Tryz.f342, true, false, pls []⟩) := ⟨Tryz.func342, ⟨_, rfl, by kernel_rfl⟩, Tryz.call342⟩
theorem rFw_343 : FhOk Tryz.prog 343 (.code ⟨Tryz.f343, false, false, pls [(5, (pln [0, 2, 4, 6, 8, 10, 12, 14, 16, 18, 20, 22, 24]))]⟩) := ⟨Tryz.func343, ⟨_, rfl, by kernel_rfl⟩, Tryz.call343⟩
theorem rFw_344 : FhOk Tryz.prog 344 (.code ⟨Tryz.f344, false, false, pls []⟩) := ⟨Tryz.func344, ⟨_, rfl, by kernel_rfl⟩, Tryz.call344⟩
theorem rFw_345 : FhOk Tryz.prog 345 (.code ⟨Tryz.f345, false, false, pls [(5, (pln [0, 2, 4, 6, 8, 10, 12, 14, 16, 18, 20, 22, 24, 26, 28, 30, 32, 34, 36]))]⟩) := ⟨Tryz.func345, ⟨_, rfl, by kernel_rfl⟩, Tryz.call345⟩
theorem rFw_346 : FhOk Tryz.prog 346 (.code ⟨Tryz.f346, true, false, pls []⟩) := ⟨Tryz.func346, ⟨_, rfl, by kernel_rfl⟩, Tryz.call346⟩
theorem rFw_347 : FhOk Tryz.prog 347 (.code ⟨Tryz.f347, true, false, pls []⟩) := ⟨Tryz.func347, ⟨_, rfl, by kernel_rfl⟩, Tryz.call347⟩
theorem rFw_348 : FhOk Tryz.prog 348 (.code ⟨Tryz.f348, true, false, pls []⟩) := ⟨Tryz.func348, ⟨_, rfl, by kernel_rfl⟩, Tryz.call348⟩
theorem rFw_349 : FhOk Tryz.prog 349 (.code ⟨Tryz.f349, true, false, pls []⟩) := ⟨Tryz.func349, ⟨_, rfl, by kernel_rfl⟩, Tryz.call349⟩
theorem rFw_350 : FhOk Tryz.prog 350 (.code ⟨Tryz.f350, false, false, pls []⟩) := ⟨Tryz.func350, ⟨_, rfl, by kernel_rfl⟩, Tryz.call350⟩
theorem rFw_351 : FhOk Tryz.prog 351 (.code ⟨Tryz.f351, false, false, pls [(6, (pln [0, 2, 4, 6, 8, 10, 12, 14, 16, 18, 20]))]⟩) := ⟨Tryz.func351, ⟨_, rfl, by kernel_rfl⟩, Tryz.call351⟩
theorem rFw_352 : FhOk Tryz.prog 352 (.code ⟨Tryz.f352, true, false, pls []⟩) := ⟨Tryz.func352, ⟨_, rfl, by kernel_rfl⟩, Tryz.call352⟩
theorem rFw_353 : FhOk Tryz.prog 353 (.code ⟨Tryz.f353, false, false, pls []⟩) := ⟨Tryz.func353, ⟨_, rfl, by kernel_rfl⟩, Tryz.call353⟩
theorem rFw_354 : FhOk Tryz.prog 354 (.code ⟨Tryz.f354, false, false, pls [(0, (pln [0, 2, 4, 6, 8, 10, 12, 14, 16, 18, 20, 22]))]⟩) := ⟨Tryz.func354, ⟨_, rfl, by kernel_rfl⟩, Tryz.call354⟩
theorem rFw_355 : FhOk Tryz.prog 355 (.code ⟨Tryz.f355, false, false, pls []⟩) := ⟨Tryz.func355, ⟨_, rfl, by kernel_rfl⟩, Tryz.call355⟩
theorem rFw_356 : FhOk Tryz.prog 356 (.code ⟨Tryz.f356, false, false, pls []⟩) := ⟨Tryz.func356, ⟨_, rfl, by kernel_rfl⟩, Tryz.call356⟩
theorem rFw_357 : FhOk Tryz.prog 357 (.code ⟨Tryz.f357, true, false, pls []⟩) := ⟨Tryz.func357, ⟨_, rfl, by kernel_rfl⟩, Tryz.call357⟩
theorem rFw_358 : FhOk Tryz.prog 358 (.code ⟨Tryz.f358, false, false, pls []⟩) := ⟨Tryz.func358, ⟨_, rfl, by kernel_rfl⟩, Tryz.call358⟩
theorem rFw_359 : FhOk Tryz.prog 359 (.code ⟨Tryz.f359, false, false, pls []⟩) := ⟨Tryz.func359, ⟨_, rfl, by kernel_rfl⟩, Tryz.call359⟩
theorem rFw_360 : FhOk Tryz.prog 360 (.code ⟨Tryz.f360, true, false, pls [(11, (pln [0, 2, 4, 6, 8, 10, 12, 14, 16])), (15, (pln [0, 2, 4, 6, 8, 10, 12, 14, 16]))]⟩) := ⟨Tryz.func360, ⟨_, rfl, by kernel_rfl⟩, Tryz.call360⟩
theorem rFw_361 : FhOk Tryz.prog 361 (.code ⟨Tryz.f361, true, false, pls []⟩) := ⟨Tryz.func361, ⟨_, rfl, by kernel_rfl⟩, Tryz.call361⟩
theorem rFw_362 : FhOk Tryz.prog 362 (.code ⟨Tryz.f362, true, false, pls []⟩) := ⟨Tryz.func362, ⟨_, rfl, by kernel_rfl⟩, Tryz.call362⟩
theorem rFw_363 : FhOk Tryz.prog 363 (.code ⟨Tryz.f363, true, false, pls []⟩) := ⟨Tryz.func363, ⟨_, rfl, by kernel_rfl⟩, Tryz.call363⟩
theorem rFw_364 : FhOk Tryz.prog 364 (.code ⟨Tryz.f364, true, false, pls [(6, (pln [0, 2, 4, 6, 8, 10, 12, 14, 16, 18, 20, 22, 24]))]⟩) := ⟨Tryz.func364, ⟨_, rfl, by kernel_rfl⟩, Tryz.call364⟩
theorem rFw_365 : FhOk Tryz.prog 365 (.code ⟨Tryz.f365, true, false, pls []⟩) := ⟨Tryz.func365, ⟨_, rfl, by kernel_rfl⟩, Tryz.call365⟩
theorem rFw_366 : FhOk Tryz.prog 366 (.code ⟨Tryz.f366, true, false, pls []⟩) := ⟨Tryz.func366, ⟨_, rfl, by kernel_rfl⟩, Tryz.call366⟩
theorem rFw_367 : FhOk Tryz.prog 367 (.code ⟨Tryz.f367, true, false, pls [(3, (pln [0, 2, 4, 6, 8, 10, 12, 14, 16, 18, 20, 22, 24, 26, 28, 30, 32, 34, 36, 40, 42, 38, 44, 46, 48, 50]))]⟩) := ⟨Tryz.func367, ⟨_, rfl, by kernel_rfl⟩, Tryz.call367⟩
theorem rFw_368 : FhOk Tryz.prog 368 (.code ⟨Tryz.f368, true, false, pls [(8, (plk [0, 4] (.two 1 3 (pln [6, 8, 10]) (pln [2, 8, 10]))))]⟩) := ⟨Tryz.func368, ⟨_, rfl, by kernel_rfl⟩, Tryz.call368⟩
theorem rFw_369 : FhOk Tryz.prog 369 (.code ⟨Tryz.f369, false, false, pls [(3, (pln [0, 2, 4, 6, 8, 10, 12, 14, 16, 18, 20, 22]))]⟩) := ⟨Tryz.func369, ⟨_, rfl, by kernel_rfl⟩, Tryz.call369⟩
theorem rFw_370 : FhOk Tryz.prog 370 (.code ⟨Tryz.f370, false, false, pls [(1, (pln [0, 2, 4, 6, 8, 10, 13, 14, 16, 18, 20, 22]))]⟩) := ⟨Tryz.func370, ⟨_, rfl, by kernel_rfl⟩, Tryz.call370⟩
theorem rFw_371 : FhOk Tryz.prog 371 (.code ⟨Tryz.f371, false, false, pls [(3, (pln [0, 2, 4, 6, 8, 10, 12, 15])), (9, (pln [0, 2, 4, 6, 8, 10, 12, 14, 17]))]⟩) := ⟨Tryz.func371, ⟨_, rfl, by kernel_rfl⟩, Tryz.call371⟩
theorem rFw_372 : FhOk Tryz.prog 372 (.code ⟨Tryz.f372, true, false, pls []⟩) := ⟨Tryz.func372, ⟨_, rfl, by kernel_rfl⟩, Tryz.call372⟩
theorem rFw_373 : FhOk Tryz.prog 373 (.code ⟨Tryz.f373, true, false, pls []⟩) := ⟨Tryz.func373, ⟨_, rfl, by kernel_rfl⟩, Tryz.call373⟩
theorem rFw_374 : FhOk Tryz.prog 374 (.code ⟨Tryz.f374, true, false, pls []⟩) := ⟨Tryz.func374, ⟨_, rfl, by kernel_rfl⟩, Tryz.call374⟩
theorem rFw_375 : FhOk Tryz.prog 375 (.code ⟨Tryz.f375, true, false, pls []⟩) := ⟨Tryz.func375, ⟨_, rfl, by kernel_rfl⟩, Tryz.call375⟩
theorem rFw_376 : FhOk Tryz.prog 376 (.code ⟨Tryz.f376, false, false, pls []⟩) := ⟨Tryz.func376, ⟨_, rfl, by kernel_rfl⟩, Tryz.call376⟩
theorem rFw_377 : FhOk Tryz.prog 377 (.code ⟨Tryz.f377, true, false, pls []⟩) := ⟨Tryz.func377, ⟨_, rfl, by kernel_rfl⟩, Tryz.call377⟩
theorem rFw_378 : FhOk Tryz.prog 378 (.code ⟨Tryz.f378, false, false, pls []⟩) := ⟨Tryz.func378, ⟨_, rfl, by kernel_rfl⟩, Tryz.call378⟩
theorem rFw_379 : FhOk Tryz.prog 379 (.code ⟨Tryz.f379, false, false, pls []⟩) := ⟨Tryz.func379, ⟨_, rfl, by kernel_rfl⟩, Tryz.call379⟩
theorem rFw_380 : FhOk Tryz.prog 380 (.code ⟨Tryz.f380, false, false, pls []⟩) := ⟨Tryz.func380, ⟨_, rfl, by kernel_rfl⟩, Tryz.call380⟩
theorem rFw_381 : FhOk Tryz.prog 381 (.code ⟨Tryz.f381, false, false, pls []⟩) := ⟨Tryz.func381, ⟨_, rfl, by kernel_rfl⟩, Tryz.call381⟩
theorem rFw_383 : FhOk Tryz.prog 383 (.code ⟨Tryz.f383, true, false, pls []⟩) := ⟨Tryz.func383, ⟨_, rfl, by kernel_rfl⟩, Tryz.call383⟩
theorem rFw_384 : FhOk Tryz.prog 384 (.code ⟨Tryz.f384, true, false, pls []⟩) := ⟨Tryz.func384, ⟨_, rfl, by kernel_rfl⟩, Tryz.call384⟩
theorem rFw_385 : FhOk Tryz.prog 385 (.code ⟨Tryz.f385, true, false, pls []⟩) := ⟨Tryz.func385, ⟨_, rfl, by kernel_rfl⟩, Tryz.call385⟩
theorem rFw_386 : FhOk Tryz.prog 386 (.code ⟨Tryz.f386, true, false, pls []⟩) := ⟨Tryz.func386, ⟨_, rfl, by kernel_rfl⟩, Tryz.call386⟩
theorem rFw_387 : FhOk Tryz.prog 387 (.code ⟨Tryz.f387, true, false, pls []⟩) := ⟨Tryz.func387, ⟨_, rfl, by kernel_rfl⟩, Tryz.call387⟩
theorem rFw_388 : FhOk Tryz.prog 388 (.code ⟨Tryz.f388, true, false, pls []⟩) := ⟨Tryz.func388, ⟨_, rfl, by kernel_rfl⟩, Tryz.call388⟩
theorem rFw_389 : FhOk Tryz.prog 389 (.code ⟨Tryz.f389, true, false, pls []⟩) := ⟨Tryz.func389, ⟨_, rfl, by kernel_rfl⟩, Tryz.call389⟩
theorem rFw_390 : FhOk Tryz.prog 390 (.code ⟨Tryz.f390, true, false, pls []⟩) := ⟨Tryz.func390, ⟨_, rfl, by kernel_rfl⟩, Tryz.call390⟩
theorem rFw_391 : FhOk Tryz.prog 391 (.code ⟨Tryz.f391, true, false, pls []⟩) := ⟨Tryz.func391, ⟨_, rfl, by kernel_rfl⟩, Tryz.call391⟩
theorem rFw_392 : FhOk Tryz.prog 392 (.code ⟨Tryz.f392, true, false, pls [(11, (plk [0, 4] (.two 1 3 (pln [6, 8, 10]) (pln [2, 8, 10]))))]⟩) := ⟨Tryz.func392, ⟨_, rfl, by kernel_rfl⟩, Tryz.call392⟩
theorem rFw_393 : FhOk Tryz.prog 393 (.code ⟨Tryz.f393, false, false, pls [(1, (pln [0, 2, 4, 6, 8, 10, 12, 14, 18, 16, 20, 22]))]⟩) := ⟨Tryz.func393, ⟨_, rfl, by kernel_rfl⟩, Tryz.call393⟩
theorem rFw_394 : FhOk Tryz.prog 394 (.code ⟨Tryz.f394, false, false, pls []⟩) := ⟨Tryz.func394, ⟨_, rfl, by kernel_rfl⟩, Tryz.call394⟩
theorem rFw_395 : FhOk Tryz.prog 395 (.code ⟨Tryz.f395, true, false, pls []⟩) := ⟨Tryz.func395, ⟨_, rfl, by kernel_rfl⟩, Tryz.call395⟩
theorem rFw_396 : FhOk Tryz.prog 396 (.code ⟨Tryz.f396, true, false, pls []⟩) := ⟨Tryz.func396, ⟨_, rfl, by kernel_rfl⟩, Tryz.call396⟩
theorem rFw_397 : FhOk Tryz.prog 397 (.code ⟨Tryz.f397, true, false, pls []⟩) := ⟨Tryz.func397, ⟨_, rfl, by kernel_rfl⟩, Tryz.call397⟩
theorem rFw_398 : FhOk Tryz.prog 398 (.code ⟨Tryz.f398, false, false, pls []⟩) := ⟨Tryz.func398, ⟨_, rfl, by kernel_rfl⟩, Tryz.call398⟩
theorem rFw_399 : FhOk Tryz.prog 399 (.code ⟨Tryz.f399, false, false, pls []⟩) := ⟨Tryz.func399, ⟨_, rfl, by kernel_rfl⟩, Tryz.call399⟩
theorem rFw_400 : FhOk Tryz.prog 400 (.code ⟨Tryz.f400, false, false, pls []⟩) := ⟨Tryz.func400, ⟨_, rfl, by kernel_rfl⟩, Tryz.call400⟩
theorem rFw_401 : FhOk Tryz.prog 401 (.code ⟨Tryz.f401, false, false, pls []⟩) := ⟨Tryz.func401, ⟨_, rfl, by kernel_rfl⟩, Tryz.call401⟩
theorem rFw_402 : FhOk Tryz.prog 402 (.code ⟨Tryz.f402, true, false, pls []⟩) := ⟨Tryz.func402, ⟨_, rfl, by kernel_rfl⟩, Tryz.call402⟩
theorem rFw_403 : FhOk Tryz.prog 403 (.code ⟨Tryz.f403, true, false, pls []⟩) := ⟨Tryz.func403, ⟨_, rfl, by kernel_rfl⟩, Tryz.call403⟩
theorem rFw_404 : FhOk Tryz.prog 404 (.code ⟨Tryz.f404, true, false, pls []⟩) := ⟨Tryz.func404, ⟨_, rfl, by kernel_rfl⟩, Tryz.call404⟩
theorem rFw_405 : FhOk Tryz.prog 405 (.code ⟨Tryz.f405, true, false, pls []⟩) := ⟨Tryz.func405, ⟨_, rfl, by kernel_rfl⟩, Tryz.call405⟩
theorem rFw_406 : FhOk Tryz.prog 406 (.code ⟨Tryz.f406, true, false, pls [(6, (pln [0, 2, 4, 6, 8, 10, 12, 14, 16]))]⟩) := ⟨Tryz.func406, ⟨_, rfl, by kernel_rfl⟩, Tryz.call406⟩
theorem rFw_407 : FhOk Tryz.prog 407 (.code ⟨Tryz.f407, true, false, pls []⟩) := ⟨Tryz.func407, ⟨_, rfl, by kernel_rfl⟩, Tryz.call407⟩
theorem rFw_408 : FhOk Tryz.prog 408 (.code ⟨Tryz.f408, true, false, pls [(3, (pln [0, 2, 4, 6, 8, 10, 12, 14, 16, 18, 20, 22, 24, 26, 28, 30]))]⟩) := ⟨Tryz.func408, ⟨_, rfl, by kernel_rfl⟩, Tryz.call408⟩
theorem rFw_409 : FhOk Tryz.prog 409 (.code ⟨Tryz.f409, true, false, pls []⟩) := ⟨Tryz.func409, ⟨_, rfl, by kernel_rfl⟩, Tryz.call409⟩
theorem rFw_410 : FhOk Tryz.prog 410 (.code ⟨Tryz.f410, true, false, pls []⟩) := ⟨Tryz.func410, ⟨_, rfl, by kernel_rfl⟩, Tryz.call410⟩
theorem ftFw_ok : FhOks Tryz.prog ftFw :=
  .cons rFw_4 <|
  .cons rFw_5 <|
  .cons rFw_6 <|
  .cons rFw_7 <|
  .cons rFw_8 <|
  .cons rFw_11 <|
  .cons rFw_12 <|
  .cons rFw_13 <|
  .cons rFw_14 <|
  .cons rFw_15 <|
  .cons rFw_16 <|
  .cons rFw_17 <|
  .cons rFw_18 <|
  .cons rFw_19 <|
  .cons rFw_20 <|
  .cons rFw_23 <|
  .cons rFw_24 <|
  .cons rFw_25 <|
  .cons rFw_26 <|
  .cons rFw_27 <|
  .cons rFw_28 <|
  .cons rFw_29 <|
  .cons rFw_30 <|
  .cons rFw_31 <|
  .cons rFw_32 <|
  .cons rFw_33 <|
  .cons rFw_34 <|
  .cons rFw_35 <|
  .cons rFw_36 <|
  .cons rFw_37 <|
  .cons rFw_38 <|
  .cons rFw_39 <|
  .cons rFw_40 <|
  .cons rFw_41 <|
  .cons rFw_42 <|
  .cons rFw_43 <|
  .cons rFw_44 <|
  .cons rFw_45 <|
  .cons rFw_46 <|
  .cons rFw_47 <|
  .cons rFw_48 <|
  .cons rFw_49 <|
  .cons rFw_50 <|
  .cons rFw_51 <|
  .cons rFw_52 <|
  .cons rFw_53 <|
  .cons rFw_54 <|
  .cons rFw_55 <|
  .cons rFw_56 <|
  .cons rFw_57 <|
  .cons rFw_58 <|
  .cons rFw_59 <|
  .cons rFw_60 <|
  .cons rFw_61 <|
  .cons rFw_62 <|
  .cons rFw_63 <|
  .cons rFw_64 <|
  .cons rFw_65 <|
  .cons rFw_66 <|
  .cons rFw_67 <|
  .cons rFw_68 <|
  .cons rFw_69 <|
  .cons rFw_70 <|
  .cons rFw_71 <|
  .cons rFw_72 <|
  .cons rFw_73 <|
  .cons rFw_74 <|
  .cons rFw_75 <|
  .cons rFw_76 <|
  .cons rFw_77 <|
  .cons rFw_78 <|
  .cons rFw_79 <|
  .cons rFw_80 <|
  .cons rFw_81 <|
  .cons rFw_82 <|
  .cons rFw_84 <|
  .cons rFw_85 <|
  .cons rFw_86 <|
  .cons rFw_87 <|
  .cons rFw_88 <|
  .cons rFw_89 <|
  .cons rFw_90 <|
  .cons rFw_93 <|
  .cons rFw_94 <|
  .cons rFw_96 <|
  .cons rFw_98 <|
  .cons rFw_99 <|
  .cons rFw_100 <|
  .cons rFw_101 <|
  .cons rFw_102 <|
  .cons rFw_103 <|
  .cons rFw_104 <|
  .cons rFw_105 <|
  .cons rFw_106 <|
  .cons rFw_107 <|
  .cons rFw_108 <|
  .cons rFw_109 <|
  .cons rFw_110 <|
  .cons rFw_111 <|
  .cons rFw_112 <|
  .cons rFw_113 <|
  .cons rFw_114 <|
  .cons rFw_115 <|
  .cons rFw_116 <|
  .cons rFw_117 <|
  .cons rFw_118 <|
  .cons rFw_119 <|
  .cons rFw_120 <|
  .cons rFw_121 <|
  .cons rFw_122 <|
  .cons rFw_123 <|
  .cons rFw_124 <|
  .cons rFw_125 <|
  .cons rFw_126 <|
  .cons rFw_127 <|
  .cons rFw_128 <|
  .cons rFw_129 <|
  .cons rFw_130 <|
  .cons rFw_131 <|
  .cons rFw_132 <|
  .cons rFw_133 <|
  .cons rFw_134 <|
  .cons rFw_135 <|
  .cons rFw_136 <|
  .cons rFw_137 <|
  .cons rFw_138 <|
  .cons rFw_139 <|
  .cons rFw_140 <|
  .cons rFw_143 <|
  .cons rFw_145 <|
  .cons rFw_146 <|
  .cons rFw_147 <|
  .cons rFw_148 <|
  .cons rFw_149 <|
  .cons rFw_150 <|
  .cons rFw_151 <|
  .cons rFw_154 <|
  .cons rFw_155 <|
  .cons rFw_156 <|
  .cons rFw_157 <|
  .cons rFw_158 <|
  .cons rFw_159 <|
  .cons rFw_160 <|
  .cons rFw_161 <|
  .cons rFw_162 <|
  .cons rFw_164 <|
  .cons rFw_165 <|
  .cons rFw_166 <|
  .cons rFw_167 <|
  .cons rFw_168 <|
  .cons rFw_169 <|
  .cons rFw_170 <|
  .cons rFw_171 <|
  .cons rFw_172 <|
  .cons rFw_173 <|
  .cons rFw_174 <|
  .cons rFw_175 <|
  .cons rFw_176 <|
  .cons rFw_177 <|
  .cons rFw_178 <|
  .cons rFw_179 <|
  .cons rFw_180 <|
  .cons rFw_181 <|
  .cons rFw_182 <|
  .cons rFw_183 <|
  .cons rFw_184 <|
  .cons rFw_185 <|
  .cons rFw_186 <|
  .cons rFw_187 <|
  .cons rFw_188 <|
  .cons rFw_189 <|
  .cons rFw_190 <|
  .cons rFw_191 <|
  .cons rFw_192 <|
  .cons rFw_193 <|
  .cons rFw_196 <|
  .cons rFw_199 <|
  .cons rFw_200 <|
  .cons rFw_201 <|
  .cons rFw_202 <|
  .cons rFw_203 <|
  .cons rFw_204 <|
  .cons rFw_205 <|
  .cons rFw_206 <|
  .cons rFw_207 <|
  .cons rFw_208 <|
  .cons rFw_209 <|
  .cons rFw_210 <|
  .cons rFw_211 <|
  .cons rFw_214 <|
  .cons rFw_215 <|
  .cons rFw_216 <|
  .cons rFw_217 <|
  .cons rFw_218 <|
  .cons rFw_219 <|
  .cons rFw_220 <|
  .cons rFw_221 <|
  .cons rFw_222 <|
  .cons rFw_223 <|
  .cons rFw_224 <|
  .cons rFw_225 <|
  .cons rFw_226 <|
  .cons rFw_227 <|
  .cons rFw_228 <|
  .cons rFw_229 <|
  .cons rFw_230 <|
  .cons rFw_231 <|
  .cons rFw_232 <|
  .cons rFw_233 <|
  .cons rFw_234 <|
  .cons rFw_235 <|
  .cons rFw_236 <|
  .cons rFw_237 <|
  .cons rFw_238 <|
  .cons rFw_239 <|
  .cons rFw_240 <|
  .cons rFw_241 <|
  .cons rFw_242 <|
  .cons rFw_243 <|
  .cons rFw_244 <|
  .cons rFw_245 <|
  .cons rFw_248 <|
  .cons rFw_250 <|
  .cons rFw_252 <|
  .cons rFw_253 <|
  .cons rFw_254 <|
  .cons rFw_255 <|
  .cons rFw_256 <|
  .cons rFw_257 <|
  .cons rFw_258 <|
  .cons rFw_259 <|
  .cons rFw_260 <|
  .cons rFw_261 <|
  .cons rFw_262 <|
  .cons rFw_263 <|
  .cons rFw_264 <|
  .cons rFw_265 <|
  .cons rFw_266 <|
  .cons rFw_267 <|
  .cons rFw_268 <|
  .cons rFw_269 <|
  .cons rFw_270 <|
  .cons rFw_271 <|
  .cons rFw_272 <|
  .cons rFw_273 <|
  .cons rFw_274 <|
  .cons rFw_275 <|
  .cons rFw_276 <|
  .cons rFw_277 <|
  .cons rFw_278 <|
  .cons rFw_279 <|
  .cons rFw_280 <|
  .cons rFw_281 <|
  .cons rFw_282 <|
  .cons rFw_283 <|
  .cons rFw_284 <|
  .cons rFw_285 <|
  .cons rFw_286 <|
  .cons rFw_287 <|
  .cons rFw_288 <|
  .cons rFw_289 <|
  .cons rFw_290 <|
  .cons rFw_291 <|
  .cons rFw_293 <|
  .cons rFw_294 <|
  .cons rFw_297 <|
  .cons rFw_298 <|
  .cons rFw_299 <|
  .cons rFw_300 <|
  .cons rFw_301 <|
  .cons rFw_302 <|
  .cons rFw_303 <|
  .cons rFw_304 <|
  .cons rFw_305 <|
  .cons rFw_306 <|
  .cons rFw_307 <|
  .cons rFw_310 <|
  .cons rFw_311 <|
  .cons rFw_312 <|
  .cons rFw_313 <|
  .cons rFw_314 <|
  .cons rFw_315 <|
  .cons rFw_316 <|
  .cons rFw_318 <|
  .cons rFw_319 <|
  .cons rFw_320 <|
  .cons rFw_321 <|
  .cons rFw_322 <|
  .cons rFw_323 <|
  .cons rFw_324 <|
  .cons rFw_325 <|
  .cons rFw_328 <|
  .cons rFw_329 <|
  .cons rFw_330 <|
  .cons rFw_331 <|
  .cons rFw_332 <|
  .cons rFw_333 <|
  .cons rFw_334 <|
  .cons rFw_335 <|
  .cons rFw_336 <|
  .cons rFw_337 <|
  .cons rFw_338 <|
  .cons rFw_339 <|
  .cons rFw_340 <|
  .cons rFw_341 <|
  .cons rFw_342 <|
  .cons rFw_343 <|
  .cons rFw_344 <|
  .cons rFw_345 <|
  .cons rFw_346 <|
  .cons rFw_347 <|
  .cons rFw_348 <|
  .cons rFw_349 <|
  .cons rFw_350 <|
  .cons rFw_351 <|
  .cons rFw_352 <|
  .cons rFw_353 <|
  .cons rFw_354 <|
  .cons rFw_355 <|
  .cons rFw_356 <|
  .cons rFw_357 <|
  .cons rFw_358 <|
  .cons rFw_359 <|
  .cons rFw_360 <|
  .cons rFw_361 <|
  .cons rFw_362 <|
  .cons rFw_363 <|
  .cons rFw_364 <|
  .cons rFw_365 <|
  .cons rFw_366 <|
  .cons rFw_367 <|
  .cons rFw_368 <|
  .cons rFw_369 <|
  .cons rFw_370 <|
  .cons rFw_371 <|
  .cons rFw_372 <|
  .cons rFw_373 <|
  .cons rFw_374 <|
  .cons rFw_375 <|
  .cons rFw_376 <|
  .cons rFw_377 <|
  .cons rFw_378 <|
  .cons rFw_379 <|
  .cons rFw_380 <|
  .cons rFw_381 <|
  .cons rFw_383 <|
  .cons rFw_384 <|
  .cons rFw_385 <|
  .cons rFw_386 <|
  .cons rFw_387 <|
  .cons rFw_388 <|
  .cons rFw_389 <|
  .cons rFw_390 <|
  .cons rFw_391 <|
  .cons rFw_392 <|
  .cons rFw_393 <|
  .cons rFw_394 <|
  .cons rFw_395 <|
  .cons rFw_396 <|
  .cons rFw_397 <|
  .cons rFw_398 <|
  .cons rFw_399 <|
  .cons rFw_400 <|
  .cons rFw_401 <|
  .cons rFw_402 <|
  .cons rFw_403 <|
  .cons rFw_404 <|
  .cons rFw_405 <|
  .cons rFw_406 <|
  .cons rFw_407 <|
  .cons rFw_408 <|
  .cons rFw_409 <|
  .cons rFw_410 <|
  .nil
end Go.Proofs.YthnmbfiandpedaaGreatDoor
