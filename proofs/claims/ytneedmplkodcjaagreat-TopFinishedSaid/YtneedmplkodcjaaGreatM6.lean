/- Parts of the proof, in build order. -/
import Derived.Test.YtneedmplkodcjaaGreatM1
import Derived.Test.YtneedmplkodcjaaGreatM5
import Derived.Test.YtneedmplkodcjaaGreatProg
import Derived.WalkKit
import Derived.WalkSpells
import Derived.WalkLawsBesides
import Derived.Defers
import Derived.Recover
import Derived.Below
import Derived.Lib.Mul64
import Derived.Lib.BitFns
import Derived.Lib.Strings
import Derived.Lib.Slices
import Derived.Lib.Small
import Derived.Lib.Walk
import Derived.Laws.Bits64b
import Derived.Laws.Externs
import Derived.Deep.QuietTactic
import Derived.BigQuiet
import Derived.Outline
import Derived.LoopTactic
import Derived.Laws.BitsAllLaws
import Derived.Deep.DeepCutAuto
import Derived.Deep.CutBlock
import Derived.Deep.CutRange
import Derived.Deep.LoopGhost
import Derived.Deep.RegionHeld3
import Derived.StillTailTactics
import Derived.Shelf.Spec.BitsCarry
import Derived.RegionTactic
import Derived.ChangeAlike
import Derived.Shelf.Abstract
import Derived.Lib.Hide
namespace Go.Proofs.YtneedmplkodcjaaGreat
def tab:Tab:=[
 (0,⟨.other,1,0,none,none⟩),
 (1,⟨.other,1,8,some (.nilfn),none⟩),
 (2,⟨.int .i64,1,8,some (.int .i64 (0)),some (.int .i64)⟩),
 (3,⟨.int .i64,1,8,some (.int .i64 (0)),some (.int .i64)⟩),
 (4,⟨.bool,1,1,some (.bool false),some .bool⟩),
 (5,⟨.int .u8,1,1,some (.int .u8 (0)),some (.int .u8)⟩),
 (6,⟨.int .u8,1,1,some (.int .u8 (0)),some (.int .u8)⟩),
 (7,⟨.recd [(0,2),(1,3),(2,4),(3,6)],4,24,some (.agg [.int .i64 (0),.int .i64 (0),.bool false,.int .u8 (0)]),some (.recd (.cons (.int .i64) (.cons (.int .i64) (.cons .bool (.cons (.int .u8) .nil)))))⟩),
 (8,⟨.recd [(0,2),(1,3),(2,4),(3,6)],4,24,some (.agg [.int .i64 (0),.int .i64 (0),.bool false,.int .u8 (0)]),some (.recd (.cons (.int .i64) (.cons (.int .i64) (.cons .bool (.cons (.int .u8) .nil)))))⟩),
 (9,⟨.str,1,16,some (.str ByteArray.empty),some .str⟩),
 (10,⟨.str,1,16,some (.str ByteArray.empty),some .str⟩),
 (11,⟨.str,1,16,some (.str ByteArray.empty),some .str⟩),
 (12,⟨.int .u64,1,8,some (.int .u64 (0)),some (.int .u64)⟩),
 (15,⟨.other,1,8,some (.nilpt),none⟩),
 (16,⟨.other,1,8,some (.nilpt),none⟩),
 (17,⟨.other,1,8,some (.nilpt),none⟩),
 (20,⟨.ifc,1,16,some (.nilif),none⟩),
 (21,⟨.int .i32,1,4,some (.int .i32 (0)),some (.int .i32)⟩),
 (22,⟨.sl 43,1,24,some (.nils),some (.sl (.sl (.int .i64)))⟩),
 (23,⟨.arr 2 22,2,48,some (.agg [.nils,.nils]),some (.recd (.cons (.sl (.sl (.int .i64))) (.cons (.sl (.sl (.int .i64))) .nil)))⟩),
 (24,⟨.recd [(0,3),(1,23)],3,56,some (.agg [.int .i64 (0),.nils,.nils]),some (.recd (.cons (.int .i64) (.cons (.recd (.cons (.sl (.sl (.int .i64))) (.cons (.sl (.sl (.int .i64))) .nil))) .nil)))⟩),
 (25,⟨.recd [(0,3),(1,23)],3,56,some (.agg [.int .i64 (0),.nils,.nils]),some (.recd (.cons (.int .i64) (.cons (.recd (.cons (.sl (.sl (.int .i64))) (.cons (.sl (.sl (.int .i64))) .nil))) .nil)))⟩),
 (26,⟨.recd [(0,3),(1,3),(2,3)],3,24,some (.agg [.int .i64 (0),.int .i64 (0),.int .i64 (0)]),some (.recd (.cons (.int .i64) (.cons (.int .i64) (.cons (.int .i64) .nil))))⟩),
 (27,⟨.recd [(0,3),(1,3),(2,3)],3,24,some (.agg [.int .i64 (0),.int .i64 (0),.int .i64 (0)]),some (.recd (.cons (.int .i64) (.cons (.int .i64) (.cons (.int .i64) .nil))))⟩),
 (28,⟨.sl 61,1,24,some (.nils),some (.sl (.recd (.cons (.int .i64) (.cons (.int .i64) (.cons (.recd (.cons (.int .i64) (.cons (.int .i64) .nil))) .nil)))))⟩),
 (29,⟨.other,1,8,some (.nilfn),none⟩),
 (30,⟨.other,1,8,some (.nilfn),none⟩),
 (31,⟨.int .i64,1,8,some (.int .i64 (0)),some (.int .i64)⟩),
 (32,⟨.recd [(0,31),(1,31)],2,16,some (.agg [.int .i64 (0),.int .i64 (0)]),some (.recd (.cons (.int .i64) (.cons (.int .i64) .nil)))⟩),
 (33,⟨.recd [(0,31),(1,31)],2,16,some (.agg [.int .i64 (0),.int .i64 (0)]),some (.recd (.cons (.int .i64) (.cons (.int .i64) .nil)))⟩),
 (34,⟨.int .i64,1,8,some (.int .i64 (0)),some (.int .i64)⟩),
 (35,⟨.other,1,0,none,none⟩),
 (36,⟨.other,1,8,some (.nilfn),none⟩),
 (37,⟨.other,1,0,none,none⟩),
 (38,⟨.other,1,8,some (.nilfn),none⟩),
 (39,⟨.other,1,0,none,none⟩),
 (40,⟨.other,1,8,some (.nilfn),none⟩),
 (41,⟨.other,1,8,some (.nilfn),none⟩),
 (42,⟨.other,1,8,some (.nilfn),none⟩),
 (43,⟨.sl 3,1,24,some (.nils),some (.sl (.int .i64))⟩),
 (44,⟨.other,1,0,none,none⟩),
 (45,⟨.other,1,8,some (.nilfn),none⟩),
 (46,⟨.recd [(0,31),(1,31)],2,16,some (.agg [.int .i64 (0),.int .i64 (0)]),some (.recd (.cons (.int .i64) (.cons (.int .i64) .nil)))⟩),
 (47,⟨.recd [(0,31),(1,31)],2,16,some (.agg [.int .i64 (0),.int .i64 (0)]),some (.recd (.cons (.int .i64) (.cons (.int .i64) .nil)))⟩),
 (48,⟨.recd [(0,47),(2,31),(3,3),(4,3),(5,43),(6,43)],7,88,some (.agg [.int .i64 (0),.int .i64 (0),.int .i64 (0),.int .i64 (0),.int .i64 (0),.nils,.nils]),some (.recd (.cons (.recd (.cons (.int .i64) (.cons (.int .i64) .nil))) (.cons (.int .i64) (.cons (.int .i64) (.cons (.int .i64) (.cons (.sl (.int .i64)) (.cons (.sl (.int .i64)) .nil)))))))⟩),
 (49,⟨.recd [(0,47),(2,31),(3,3),(4,3),(5,43),(6,43)],7,88,some (.agg [.int .i64 (0),.int .i64 (0),.int .i64 (0),.int .i64 (0),.int .i64 (0),.nils,.nils]),some (.recd (.cons (.recd (.cons (.int .i64) (.cons (.int .i64) .nil))) (.cons (.int .i64) (.cons (.int .i64) (.cons (.int .i64) (.cons (.sl (.int .i64)) (.cons (.sl (.int .i64)) .nil)))))))⟩),
 (50,⟨.other,1,8,some (.nilfn),none⟩),
 (51,⟨.recd [(0,31),(1,31),(2,3),(3,3),(4,3)],5,40,some (.agg [.int .i64 (0),.int .i64 (0),.int .i64 (0),.int .i64 (0),.int .i64 (0)]),some (.recd (.cons (.int .i64) (.cons (.int .i64) (.cons (.int .i64) (.cons (.int .i64) (.cons (.int .i64) .nil))))))⟩),
 (52,⟨.recd [(0,31),(1,31),(2,3),(3,3),(4,3)],5,40,some (.agg [.int .i64 (0),.int .i64 (0),.int .i64 (0),.int .i64 (0),.int .i64 (0)]),some (.recd (.cons (.int .i64) (.cons (.int .i64) (.cons (.int .i64) (.cons (.int .i64) (.cons (.int .i64) .nil))))))⟩),
 (53,⟨.other,1,8,some (.nilfn),none⟩),
 (54,⟨.other,1,8,some (.nilfn),none⟩),
 (55,⟨.other,1,8,some (.nilpt),none⟩),
 (56,⟨.other,1,8,some (.nilfn),none⟩),
 (57,⟨.other,1,8,some (.nilfn),none⟩),
 (58,⟨.other,1,8,some (.nilfn),none⟩),
 (59,⟨.other,1,8,some (.nilfn),none⟩),
 (60,⟨.recd [(0,3),(1,3),(2,47)],4,32,some (.agg [.int .i64 (0),.int .i64 (0),.int .i64 (0),.int .i64 (0)]),some (.recd (.cons (.int .i64) (.cons (.int .i64) (.cons (.recd (.cons (.int .i64) (.cons (.int .i64) .nil))) .nil))))⟩),
 (61,⟨.recd [(0,3),(1,3),(2,47)],4,32,some (.agg [.int .i64 (0),.int .i64 (0),.int .i64 (0),.int .i64 (0)]),some (.recd (.cons (.int .i64) (.cons (.int .i64) (.cons (.recd (.cons (.int .i64) (.cons (.int .i64) .nil))) .nil))))⟩),
 (62,⟨.other,1,8,some (.nilfn),none⟩),
 (63,⟨.other,1,8,some (.nilfn),none⟩),
 (64,⟨.other,1,8,some (.nilfn),none⟩),
 (65,⟨.other,1,8,some (.nilfn),none⟩),
 (66,⟨.other,1,8,some (.nilfn),none⟩),
 (67,⟨.other,1,8,some (.nilfn),none⟩),
 (68,⟨.other,1,8,some (.nilfn),none⟩),
 (69,⟨.recd [(0,25),(3,68)],4,64,some (.agg [.int .i64 (0),.nils,.nils,.nilfn]),none⟩),
 (70,⟨.recd [(0,25),(3,68)],4,64,some (.agg [.int .i64 (0),.nils,.nils,.nilfn]),none⟩),
 (71,⟨.other,1,8,some (.nilfn),none⟩),
 (72,⟨.other,1,8,some (.nilfn),none⟩),
 (73,⟨.other,1,8,some (.nilfn),none⟩),
 (74,⟨.other,1,8,some (.nilfn),none⟩),
 (75,⟨.other,1,8,some (.nilfn),none⟩),
 (76,⟨.other,1,8,some (.nilfn),none⟩),
 (77,⟨.other,1,8,some (.nilfn),none⟩),
 (78,⟨.int .u64,1,8,some (.int .u64 (0)),some (.int .u64)⟩),
 (79,⟨.recd [(0,78),(1,78)],2,16,some (.agg [.int .u64 (0),.int .u64 (0)]),some (.recd (.cons (.int .u64) (.cons (.int .u64) .nil)))⟩),
 (80,⟨.recd [(0,78),(1,78)],2,16,some (.agg [.int .u64 (0),.int .u64 (0)]),some (.recd (.cons (.int .u64) (.cons (.int .u64) .nil)))⟩),
 (81,⟨.other,1,8,some (.nilfn),none⟩),
 (82,⟨.other,1,8,some (.nilfn),none⟩),
 (83,⟨.other,1,8,some (.nilfn),none⟩),
 (84,⟨.other,1,8,some (.nilfn),none⟩),
 (85,⟨.other,1,8,some (.nilfn),none⟩),
 (86,⟨.map 88 4,1,8,some (.nilmp),none⟩),
 (87,⟨.other,1,8,some (.nilfn),none⟩),
 (88,⟨.arr 2 3,2,16,some (.agg [.int .i64 (0),.int .i64 (0)]),some (.recd (.cons (.int .i64) (.cons (.int .i64) .nil)))⟩),
 (89,⟨.map 27 33,1,8,some (.nilmp),none⟩),
 (90,⟨.other,1,8,some (.nilfn),none⟩),
 (91,⟨.other,1,0,none,none⟩),
 (92,⟨.sl 33,1,24,some (.nils),some (.sl (.recd (.cons (.int .i64) (.cons (.int .i64) .nil))))⟩),
 (93,⟨.other,1,8,some (.nilfn),none⟩),
 (94,⟨.other,1,8,some (.nilfn),none⟩),
 (95,⟨.sl 147,1,24,some (.nils),some (.sl (.recd (.cons (.int .i64) (.cons (.int .i64) (.cons (.int .i64) .nil)))))⟩),
 (96,⟨.other,1,0,none,none⟩),
 (97,⟨.other,1,8,some (.nilfn),none⟩),
 (98,⟨.sl 102,1,24,some (.nils),some (.sl (.recd (.cons (.int .i64) (.cons (.int .i64) .nil))))⟩),
 (99,⟨.other,1,0,none,none⟩),
 (100,⟨.other,1,8,some (.nilfn),none⟩),
 (101,⟨.recd [(0,3),(1,3)],2,16,some (.agg [.int .i64 (0),.int .i64 (0)]),some (.recd (.cons (.int .i64) (.cons (.int .i64) .nil)))⟩),
 (102,⟨.recd [(0,3),(1,3)],2,16,some (.agg [.int .i64 (0),.int .i64 (0)]),some (.recd (.cons (.int .i64) (.cons (.int .i64) .nil)))⟩),
 (103,⟨.other,1,8,some (.nilfn),none⟩),
 (104,⟨.other,1,8,some (.nilfn),none⟩),
 (105,⟨.map 107 4,1,8,some (.nilmp),none⟩),
 (106,⟨.recd [(0,3),(1,3)],2,16,some (.agg [.int .i64 (0),.int .i64 (0)]),some (.recd (.cons (.int .i64) (.cons (.int .i64) .nil)))⟩),
 (107,⟨.recd [(0,3),(1,3)],2,16,some (.agg [.int .i64 (0),.int .i64 (0)]),some (.recd (.cons (.int .i64) (.cons (.int .i64) .nil)))⟩),
 (108,⟨.other,1,8,some (.nilfn),none⟩),
 (109,⟨.other,1,8,some (.nilfn),none⟩),
 (110,⟨.other,1,0,none,none⟩),
 (111,⟨.other,1,8,some (.nilfn),none⟩),
 (112,⟨.other,1,8,some (.nilfn),none⟩),
 (113,⟨.other,1,8,some (.nilfn),none⟩),
 (114,⟨.other,1,8,some (.nilfn),none⟩),
 (115,⟨.other,1,8,some (.nilfn),none⟩),
 (116,⟨.other,1,8,some (.nilfn),none⟩),
 (117,⟨.recd [(0,34)],1,8,some (.agg [.int .i64 (0)]),some (.recd (.cons (.int .i64) .nil))⟩),
 (118,⟨.recd [(0,34)],1,8,some (.agg [.int .i64 (0)]),some (.recd (.cons (.int .i64) .nil))⟩),
 (119,⟨.other,1,0,none,none⟩),
 (120,⟨.sl 31,1,24,some (.nils),some (.sl (.int .i64))⟩),
 (121,⟨.other,1,8,some (.nilfn),none⟩),
 (122,⟨.other,1,8,some (.nilfn),none⟩),
 (123,⟨.int .u64,1,8,some (.int .u64 (0)),some (.int .u64)⟩),
 (124,⟨.other,1,8,some (.nilfn),none⟩),
 (125,⟨.other,1,8,some (.nilfn),none⟩),
 (126,⟨.other,1,0,none,none⟩),
 (127,⟨.other,1,8,some (.nilfn),none⟩),
 (128,⟨.sl 47,1,24,some (.nils),some (.sl (.recd (.cons (.int .i64) (.cons (.int .i64) .nil))))⟩),
 (129,⟨.other,1,8,some (.nilfn),none⟩),
 (130,⟨.other,1,8,some (.nilfn),none⟩),
 (131,⟨.other,1,8,some (.nilfn),none⟩),
 (132,⟨.other,1,8,some (.nilfn),none⟩),
 (133,⟨.other,1,8,some (.nilfn),none⟩),
 (134,⟨.other,1,8,some (.nilfn),none⟩),
 (135,⟨.other,1,8,some (.nilfn),none⟩),
 (136,⟨.other,1,8,some (.nilfn),none⟩),
 (137,⟨.other,1,8,some (.nilfn),none⟩),
 (138,⟨.other,1,8,some (.nilfn),none⟩),
 (139,⟨.other,1,8,some (.nilfn),none⟩),
 (140,⟨.other,1,8,some (.nilfn),none⟩),
 (141,⟨.other,1,8,some (.nilfn),none⟩),
 (142,⟨.other,1,8,some (.nilfn),none⟩),
 (143,⟨.other,1,8,some (.nilfn),none⟩),
 (144,⟨.arr 2 143,2,16,some (.agg [.nilfn,.nilfn]),none⟩),
 (145,⟨.other,1,8,some (.nilfn),none⟩),
 (146,⟨.recd [(0,3),(1,31),(2,31)],3,24,some (.agg [.int .i64 (0),.int .i64 (0),.int .i64 (0)]),some (.recd (.cons (.int .i64) (.cons (.int .i64) (.cons (.int .i64) .nil))))⟩),
 (147,⟨.recd [(0,3),(1,31),(2,31)],3,24,some (.agg [.int .i64 (0),.int .i64 (0),.int .i64 (0)]),some (.recd (.cons (.int .i64) (.cons (.int .i64) (.cons (.int .i64) .nil))))⟩),
 (148,⟨.sl 147,1,24,some (.nils),some (.sl (.recd (.cons (.int .i64) (.cons (.int .i64) (.cons (.int .i64) .nil)))))⟩),
 (149,⟨.arr 2 148,2,48,some (.agg [.nils,.nils]),some (.recd (.cons (.sl (.recd (.cons (.int .i64) (.cons (.int .i64) (.cons (.int .i64) .nil))))) (.cons (.sl (.recd (.cons (.int .i64) (.cons (.int .i64) (.cons (.int .i64) .nil))))) .nil)))⟩),
 (150,⟨.other,1,0,none,none⟩),
 (151,⟨.other,1,8,some (.nilfn),none⟩),
 (152,⟨.map 102 4,1,8,some (.nilmp),none⟩),
 (153,⟨.other,1,8,some (.nilfn),none⟩),
 (154,⟨.other,1,8,some (.nilfn),none⟩),
 (155,⟨.other,1,8,some (.nilfn),none⟩),
 (156,⟨.other,1,8,some (.nilfn),none⟩),
 (157,⟨.other,1,8,some (.nilfn),none⟩),
 (158,⟨.other,1,8,some (.nilfn),none⟩),
 (159,⟨.other,1,8,some (.nilfn),none⟩),
 (160,⟨.other,1,8,some (.nilfn),none⟩),
 (161,⟨.other,1,8,some (.nilfn),none⟩),
 (162,⟨.other,1,8,some (.nilfn),none⟩),
 (163,⟨.other,1,8,some (.nilfn),none⟩),
 (164,⟨.other,1,8,some (.nilfn),none⟩),
 (165,⟨.other,1,8,some (.nilfn),none⟩),
 (166,⟨.other,1,0,none,none⟩),
 (167,⟨.other,1,8,some (.nilfn),none⟩),
 (168,⟨.other,1,8,some (.nilfn),none⟩),
 (169,⟨.other,1,8,some (.nilfn),none⟩),
 (170,⟨.other,1,8,some (.nilfn),none⟩),
 (171,⟨.other,1,8,some (.nilfn),none⟩),
 (172,⟨.other,1,0,none,none⟩),
 (173,⟨.other,1,8,some (.nilfn),none⟩),
 (174,⟨.other,1,8,some (.nilfn),none⟩),
 (175,⟨.other,1,8,some (.nilfn),none⟩),
 (176,⟨.other,1,0,none,none⟩),
 (177,⟨.other,1,8,some (.nilfn),none⟩),
 (178,⟨.other,1,8,some (.nilfn),none⟩),
 (179,⟨.other,1,8,some (.nilfn),none⟩),
 (180,⟨.other,1,0,none,none⟩),
 (181,⟨.other,1,8,some (.nilfn),none⟩),
 (182,⟨.other,1,8,some (.nilfn),none⟩),
 (183,⟨.other,1,8,some (.nilfn),none⟩),
 (184,⟨.other,1,8,some (.nilfn),none⟩),
 (185,⟨.other,1,8,some (.nilfn),none⟩),
 (186,⟨.other,1,8,some (.nilfn),none⟩),
 (187,⟨.other,1,8,some (.nilfn),none⟩),
 (188,⟨.other,1,8,some (.nilfn),none⟩),
 (189,⟨.other,1,8,some (.nilfn),none⟩),
 (190,⟨.other,1,8,some (.nilfn),none⟩),
 (191,⟨.other,1,8,some (.nilfn),none⟩),
 (192,⟨.other,1,8,some (.nilfn),none⟩),
 (193,⟨.other,1,8,some (.nilfn),none⟩),
 (194,⟨.other,1,0,none,none⟩),
 (195,⟨.other,1,8,some (.nilfn),none⟩),
 (196,⟨.other,1,8,some (.nilfn),none⟩),
 (197,⟨.other,1,8,some (.nilfn),none⟩),
 (198,⟨.other,1,8,some (.nilfn),none⟩),
 (199,⟨.other,1,8,some (.nilfn),none⟩),
 (200,⟨.other,1,8,some (.nilfn),none⟩),
 (201,⟨.other,1,8,some (.nilfn),none⟩),
 (202,⟨.other,1,8,some (.nilfn),none⟩),
 (203,⟨.other,1,8,some (.nilfn),none⟩),
 (204,⟨.other,1,8,some (.nilpt),none⟩),
 (205,⟨.other,1,8,some (.nilfn),none⟩),
 (206,⟨.other,1,8,some (.nilfn),none⟩),
 (207,⟨.other,1,8,some (.nilfn),none⟩),
 (208,⟨.arr 2 31,2,16,some (.agg [.int .i64 (0),.int .i64 (0)]),some (.recd (.cons (.int .i64) (.cons (.int .i64) .nil)))⟩),
 (209,⟨.other,1,8,some (.nilfn),none⟩),
 (210,⟨.int .i64,1,8,some (.int .i64 (0)),some (.int .i64)⟩),
 (211,⟨.other,1,0,none,none⟩),
 (212,⟨.other,1,8,some (.nilfn),none⟩),
 (213,⟨.other,1,8,some (.nilfn),none⟩),
 (214,⟨.other,1,8,some (.nilfn),none⟩),
 (215,⟨.other,1,8,some (.nilfn),none⟩),
 (216,⟨.other,1,8,some (.nilfn),none⟩),
 (217,⟨.int .u32,1,4,some (.int .u32 (0)),some (.int .u32)⟩),
 (218,⟨.other,1,8,some (.nilfn),none⟩),
 (219,⟨.other,1,8,some (.nilfn),none⟩),
 (220,⟨.other,1,8,some (.nilfn),none⟩),
 (221,⟨.other,1,8,some (.nilfn),none⟩),
 (222,⟨.other,1,8,some (.nilfn),none⟩),
 (223,⟨.other,1,8,some (.nilfn),none⟩),
 (224,⟨.other,1,8,some (.nilfn),none⟩),
 (225,⟨.int .u64,1,8,some (.int .u64 (0)),some (.int .u64)⟩),
 (226,⟨.other,1,8,some (.nilfn),none⟩),
 (227,⟨.other,1,8,some (.nilfn),none⟩),
 (228,⟨.other,1,8,some (.nilpt),none⟩),
 (229,⟨.other,1,8,some (.nilfn),none⟩),
 (230,⟨.ifc,1,16,some (.nilif),none⟩),
 (231,⟨.ifc,1,16,some (.nilif),none⟩),
 (232,⟨.other,1,8,some (.nilpt),none⟩),
 (233,⟨.other,1,8,some (.nilfn),none⟩),
 (234,⟨.other,1,8,some (.nilpt),none⟩),
 (235,⟨.other,1,8,some (.nilfn),none⟩),
 (238,⟨.arr 0 16,0,0,some (.agg []),some (.recd .nil)⟩),
 (241,⟨.other,1,8,some (.nilfn),none⟩),
 (242,⟨.int .u8,1,1,some (.int .u8 (0)),some (.int .u8)⟩),
 (243,⟨.int .u8,1,1,some (.int .u8 (0)),some (.int .u8)⟩),
 (244,⟨.other,1,8,some (.nilfn),none⟩),
 (245,⟨.other,1,8,some (.nilpt),none⟩),
 (246,⟨.int .i32,1,4,some (.int .i32 (0)),some (.int .i32)⟩),
 (247,⟨.int .i32,1,4,some (.int .i32 (0)),some (.int .i32)⟩),
 (250,⟨.recd [(0,9)],1,16,some (.agg [.str ByteArray.empty]),some (.recd (.cons .str .nil))⟩),
 (251,⟨.recd [(0,9)],1,16,some (.agg [.str ByteArray.empty]),some (.recd (.cons .str .nil))⟩),
 (252,⟨.other,1,8,some (.nilpt),none⟩)]
theorem tabOk:TabOk Tryz.prog tab:=tab_ok rfl (by kernel_rfl)
open Go.RowKit
structure CvAt (P:Program) (cv:Cv) (v:AVal):Prop where
 nat:∀(α:Type) args h (k:AExit→AVal→List ABlk→Option α),cv α v args h k=(cv _ v args h tripE).bind fun p=>k p.1 p.2.1 p.2.2
 ok:∀args h x u h1,cv _ v args h tripE=some (x,u,h1)→∀(K:Nat→Prop) g w (fv:Value) (cargs:Array Value),St K h g w→Rep h g w v fv→args.length=cargs.size →
  (∀(j:Nat) c z,args[j]?=some c→cargs[j]?=some z→Rep h g w c z)→CallV P fv cargs w (CvPost K h g w h1 x u)
theorem cv_of {P:Program} {cv:Cv} (h:∀v,CvAt P cv v):CvOk P cv:=⟨fun α v=>(h v).nat α,fun v=>(h v).ok⟩
theorem CvPost.drop {K h g w h1 x u e w'} (p:CvPost K h g w h1 x u e w') (keep:List Nat):CvPost K h g w (dropH keep h.length 0 h1) x u e w':=by
 obtain⟨g',s1,l1,hx⟩:=p
 have al:=drop_alike keep h.length h1
 refine⟨g',al.st s1,drop_le keep l1,?_⟩
 cases x with
 |normal=>obtain⟨z,h1,h2⟩:=hx; exact⟨z,h1,al.rep h2⟩
 |pan v=>obtain⟨z,h1,h2⟩:=hx; exact⟨z,h1,al.rep h2⟩
 |exit i=>exact hx
 |ret=>exact hx
theorem setTmps_rep {h g w}:∀(ps:List Nat) (args:List AVal) (cargs:List Value) (ts:List AVal) (tmps:Array Value),args.length=cargs.length→TRep h g w ts tmps →
  (∀(j:Nat) c z,args[j]?=some c→cargs[j]?=some z→Rep h g w c z)→TRep h g w (setTmps ts ps args) ((ps.zip cargs).foldl (fun tmps (t,a)=>tmps.setIfInBounds t a) tmps)
 | [],args,cargs,ts,tmps,_,ht,_=>by
   have:setTmps ts [] args=ts:=by cases args<;>rfl
   rw[this]; exact ht
 |p::ps,[],cargs,ts,tmps,hl,ht,_=>by
  have:cargs=[]:=List.eq_nil_of_length_eq_zero (by simpa using hl.symm)
  subst this
  exact ht
 |p::ps,a::args,[],ts,tmps,hl,ht,_=>by simp at hl
 |p::ps,a::args,z::cargs,ts,tmps,hl,ht,hr=>by
  simp only[setTmps,List.zip_cons_cons,List.foldl_cons]
  refine setTmps_rep ps args cargs _ _ (by simpa using hl) ?_ fun j c z' h1 h2=>hr (j+1) c z' (by simpa using h1) (by simpa using h2)
  have:=TRep.put (s:=⟨ts,h⟩) (a:={ tmps:=tmps,defers:=[] }) ht (some p) (hr 0 a z rfl rfl)
  exact this
section
variable {P:Program} {T:Tab} {env:Env}
theorem round_nat (hE:EnvOk P env) (N:Nat) (i:Nat) {α:Type} (args:List AVal) (h:List ABlk) (k:AExit→AVal→List ABlk→Option α) :
  evRound real T env N i args h k=(evRound real T env N i args h tripE).bind fun p=>k p.1 p.2.1 p.2.2:=by
 unfold evRound
 split
 ·rename_i ps asg bo _
  split
  ·cases hasRange asg || hasRange bo
   ·simp only[cond_false]
    refine bind_nat (e:=fun k=>ev real T env N asg _ k) (fun k=>ev_nat hE N asg _ k) (fun p:AExit × AVal × List ABlk=>k p.1 p.2.1 p.2.2) fun x s'=>?_
    cases x with
    |normal=>
     simp only
     split
     ·rename_i pend tmps ps' asg' bo' _
      refine bind_nat (e:=fun k=>ev real T env N bo _ k) (fun k=>ev_nat hE N bo _ k) (fun p:AExit × AVal × List ABlk=>k p.1 p.2.1 p.2.2) fun x s'=>?_
      split
      ·cases x<;>rfl
      ·rfl
     ·rfl
    |exit i=>rfl
    |ret=>rfl
    |pan v=>rfl
   ·rfl
  ·rfl
 ·rfl
theorem round_ok (hm:P.follows .mixedOrders=true) (hT:TabOk P T) (hE:EnvOk P env) (N:Nat) (i:Nat) {args:List AVal} {h h1:List ABlk} {x:AExit} {u:AVal} (hk:evRound real T env N i args h tripE=some (x,u,h1))
  {K:Nat→Prop} {g:Gh} {w:World} {fv:Value} {cargs:Array Value} (hs:St K h g w) (hv:Rep h g w (.yld i) fv) (hl:args.length=cargs.size) (hr:∀(j:Nat) c z,args[j]?=some c→cargs[j]?=some z→Rep h g w c z):CallV P fv cargs w (CvPost K h g w h1 x u):=by
 unfold evRound at hk
 split at hk
 case h_2=>cases hk
 rename_i st0 pend ts ps asg bo hh
 have hi:=getD_some (by simp) hh
 split at hk
 case isFalse=>cases hk
 rename_i hlen
 cases hrg:hasRange asg || hasRange bo
 case true=>rw[hrg] at hk; cases hk
 rw[hrg] at hk
 simp only[cond_false] at hk
 simp only[Bool.or_eq_false_iff] at hrg
 obtain⟨hr1,hr2⟩:=hrg
 obtain⟨l,arr,fn,Dd,d1,d2,d3,d4,hF⟩:=hs.blk i _ hi
 have hfv:fv=.func (.yield l) #[] #[]:=by
  cases hv with
  |yld _ _ _ _ h3=>rw[h3 _ _ _ _ _ _ hi,d1]
 have hy:=run_yield (P:=P) (args:=cargs) d2 (by simp; omega)
 refine .inr (.inl ⟨l,_,_,_,_,hfv,hy,?_⟩)
 obtain⟨y,s2,e1,e2⟩:=ev_pair hE hk
 have ht0:TRep h g w (setTmps ts ps args) ((ps.toArray.zip cargs).foldl (fun tmps (t,a)=>tmps.setIfInBounds t a) arr):=by
  have:=setTmps_rep (h:=h) (g:=g) (w:=w) ps args cargs.toList ts arr (by simpa using hl) ⟨d3.symm,d4⟩ (fun j c z hc hz=>hr j c z hc (by simpa using hz))
  rw[←Array.foldl_toList]
  simpa using this
 obtain⟨fnc,hfnc⟩:=hF
 refine round_of_wpB (fn:=fnc) (by rw[hT.pr]; exact hfnc) fun b hbf hbr=>?_
 have hxb:FnIn b.fn:=⟨fnc,by rw[hbf]; exact hfnc⟩
 have hnn:b.roundOf=none→False:=fun h=>by rw[hbr] at h; cases h
 refine ev_wp (K0:=fun _=>True) hm hT hE hxb N asg _ y s2 _ w g K _ (fun h=>(hnn h).elim) (fun _=>hr1) e1 hs ht0 MRep.nil ⟨fun K1 g1 a1 w1 e kk i1 i2 i3 i4 i5=>?_⟩
 cases y with
 |exit j=>cases e2
 |ret=>cases e2
 |pan v=>cases e2
 |normal=>
  rw[xr_normal i5]
  simp only at e2
  split at e2
  case h_2=>cases e2
  rename_i pend2 ts2 ps2 asg2 bo2 hh2
  have hi2:=getD_some (by simp) hh2
  have same2:ts2=ts∧ps2=ps∧asg2=asg∧bo2=bo∧g1.ρ i=g.ρ i:=by
   obtain⟨_,_,q1,q2⟩:=i2.lp i _ _ _ _ _ _ (Here.of hi (by simp)) hi2
   rw[hi] at q1
   cases q1
   exact⟨rfl,rfl,rfl,rfl,q2⟩
  obtain⟨rfl,rfl,rfl,rfl,hρ1⟩:=same2
  obtain⟨l1,r1,f1,f2,f3,f4,f5,f6,f7,f8,l12,s12⟩:=lp_set i1 hi2 .busy pend2
  have hl1:l1=l:=by rw[hρ1,d1] at f1; cases f1; rfl
  subst hl1
  have hrec:({ r1 with state:=.busy,pending:=pend2 }:Loop)={ r1 with state:=.busy }:=by cases r1; simp_all
  rw[hrec] at l12 s12
  refine⟨_,run_beginRound f2 f3,?_⟩
  obtain⟨y3,s3,e3,e4⟩:=ev_pair hE e2
  refine ev_wp (K0:=fun _=>True) hm hT hE hxb N bo2 _ y3 s3 a1 _ g1 K1 _ (fun h=>(hnn h).elim) (fun _=>hr2) e3 s12 (i3.mono l12) (i4.mono l12) ⟨fun K2 g3 a3 w3 e' kk2 j1 j2 j3 j4 j5=>?_⟩
  split at e4
  case h_2=>cases e4
  rename_i st4 pend4 ts4 ps4 asg4 bo4 hh4
  have hi4:=getD_some (by simp) hh4
  have hρ3:g3.ρ i=g.ρ i:=by
   have hlt:i<s2.heap.length:=(List.getElem?_eq_some_iff.1 hi2).1
   obtain⟨_,_,_,q2⟩:=j2.lp i _ _ _ _ _ _ (Here.of (b:=.lp .busy pend2 ts2 ps2 asg2 bo2) (by simp only; rw[List.getElem?_set,if_pos rfl,if_pos hlt]) (by simp)) hi4
   rw[q2,hρ1]
  -- behind the round
  have fin:∀(st5:LoopState) (p5:Option Code) (b:Bool),st5=(if p5.isNone then .ready else .done)→b=p5.isNone→tripE .normal (.bool b) (s3.heap.set i (.lp st5 p5 ts4 ps4 asg4 bo4))=some (x,u,h1) →
    ∃v w',(Instr.endRound l1 p5).run P w3=.ok v w'∧CvPost K h g w h1 x u (.returned v) w':=fun st5 p5 b hst hb he=>by
   obtain⟨l3,r3,g31,g32,g33,_,_,_,_,_,l34,s34⟩:=lp_set j1 hi4 st5 p5
   have hl3:l3=l1:=by rw[hρ3,d1] at g31; cases g31; rfl
   subst hl3
   cases he
   refine⟨_,_,run_endRound p5 g32,g3,?_,?_,.bool p5.isNone,rfl,by rw[hb]; exact .bool _⟩
   ·rw[←hst]; exact s34.less fun b hb=>kk2 b (kk b hb)
   ·rw[←hst]
    exact ((i2.trans (l12.less kk)).trans (j2.less kk)).trans (l34.less fun b hb=>kk2 b (kk b hb))
  cases y3 with
  |normal=>
   rw[xr_normal j5]
   exact fin .ready none true rfl rfl e4
  |ret=>
   rw[xr_ret j5]
   exact fin .done (some .ret) false rfl rfl e4
  |exit id=>
   rw[xr_exit j5]
   exact fin .done (some (.exit id)) false rfl rfl e4
  |pan v=>
   cases e4
   obtain⟨rs,_,r2,r3⟩:=j4
   have hd:a3.defers=[]:=by
    cases rs with
    |nil=>exact r2
    |cons q _=>exact absurd trivial (r3 q (List.mem_cons_self ..)).2.1
   cases e' with
   |panic ch=>
    obtain⟨z,rfl,hz⟩:=j5
    exact⟨hd,g3,j1.less fun b hb=>kk2 b (kk b hb),((i2.trans (l12.less kk)).trans (j2.less kk)),z,rfl,hz⟩
   |_=>cases j5
structure FnOk (P:Program) (f:FuncId) (fn:Func):Prop where
 get:P.funcs[f]?=some fn
 enter:∀args w,(callFunc f args).run P w=.ok (.enter f args) w
structure TwOk (P:Program) (tw:Tower):Prop where
 fs:∀f S,tw.fs f=some S→FspOk P f S
 sp:∀f S,tw.sp f=some S→∀cv,CvOk P cv→∀caps,CvAt P (S cv) (.fn f caps)
 fn:∀f fn,tw.fn f=some fn→FnOk P f fn
theorem args_caps {h g w} {args caps:List AVal} {cargs carr:Array Value} (hl:args.length=cargs.size) (hcl:caps.length=carr.size) (hr:∀(j:Nat) c z,args[j]?=some c→cargs[j]?=some z→Rep h g w c z) (hcr:∀(j:Nat) c z,caps[j]?=some c→carr[j]?=some z→Rep h g w c z) :
  (args++caps).length=(cargs++carr).size∧∀(j:Nat) c z,(args++caps)[j]?=some c→(cargs++carr)[j]?=some z→Rep h g w c z:=by
 refine⟨by simp[hl,hcl],fun j c z hc hz=>?_⟩
 rcases Nat.lt_or_ge j args.length with hj|hj
 ·rw[List.getElem?_append_left hj] at hc
  rw[Array.getElem?_append_left (by omega)] at hz
  exact hr j c z hc hz
 ·rw[List.getElem?_append_right hj] at hc
  rw[Array.getElem?_append_right (by omega),←hl] at hz
  exact hcr _ c z hc hz
theorem none_at {cv:Cv} {v:AVal} (h:∀(α:Type) args hp (k:AExit→AVal→List ABlk→Option α),cv α v args hp k=none):CvAt P cv v:=⟨fun α args hp k=>by rw[h,h]; rfl,fun args hp x u h1 hk=>by rw[h] at hk; cases hk⟩
theorem tower_cv {tw:Tower} (hm:P.follows .mixedOrders=true) (hT:TabOk P T) (ht:TwOk P tw) (N:Nat):∀n,CvOk P (cvN real T tw N n)
 |0=>cv_of fun v=>none_at fun _ _ _ _=>rfl
 |n+1=>cv_of fun v=>by
  have ih:=tower_cv hm hT ht N n
  have hE:EnvOk P { fs:=tw.fs,pr:=tw.pr,cv:=cvN real T tw N n }:=⟨ht.fs,ih⟩
  cases v with
  |fn f caps=>
   cases hsp:tw.sp f with
   |some S=>
    have e:∀(α:Type) args hp (k:AExit→AVal→List ABlk→Option α),cvN real T tw N (n+1) α (.fn f caps) args hp k=S (cvN real T tw N n) α (.fn f caps) args hp k:=fun α args hp k=>by simp only[cvN,hsp]
    have:=ht.sp f S hsp _ ih caps
    exact⟨fun α args hp k=>by rw[e,e]; exact this.nat α args hp k,fun args hp x u h1 hk=>by rw[e] at hk; exact this.ok args hp x u h1 hk⟩
   |none=>
    cases hfs:(bif Env.inn { fs:=tw.fs,pr:=tw.pr,cv:=fun _ _ _ _ _=>none } f then none else tw.fs f) with
    |some S=>
     have e:∀(α:Type) args hp (k:AExit→AVal→List ABlk→Option α),cvN real T tw N (n+1) α (.fn f caps) args hp k=evPure S false false (args++caps) hp k:=fun α args hp k=>by simp only[cvN,hsp,hfs]
     have hok:=ht.fs f S (by cases hin:Env.inn { fs:=tw.fs,pr:=tw.pr,cv:=fun _ _ _ _ _=>none } f<;>rw[hin] at hfs<;>first|exact hfs|cases hfs)
     refine⟨fun α args hp k=>by rw[e,e]; exact evPure_nat hok ..,fun args hp x u h1 hk K g w fv cargs hs hv hl hr=>?_⟩
     rw[e] at hk
     cases hv with
     |fn _ _ arr a1 a2=>
      obtain⟨b1,b2⟩:=args_caps hl a1 hr a2
      exact .inl ⟨f,arr,rfl,fun w=>hok.enter _ w,pure_calls hok hs false false _ _ b1 b2 hk⟩
    |none=>
     cases hfn:tw.fn f with
     |none=>exact none_at fun _ _ _ _=>by simp only[cvN,hsp,hfs,hfn]
     |some fn=>
      have e:∀(α:Type) args hp (k:AExit→AVal→List ABlk→Option α),cvN real T tw N (n+1) α (.fn f caps) args hp k=evBody real T { fs:=tw.fs,pr:=tw.pr,cv:=cvN real T tw N n } N fn (args++caps) hp fun x v h'=>k x v (dropH (keepB h' hp.length v) hp.length 0 h'):=fun α args hp k=>by simp only[cvN,hsp,hfs,hfn]
      have hok:=ht.fn f fn hfn
      refine⟨fun α args hp k=>?_,fun args hp x u h1 hk K g w fv cargs hs hv hl hr=>?_⟩
      ·rw[e,e,body_nat hE N fn (args++caps) hp (fun x v h'=>k x v (dropH (keepB h' hp.length v) hp.length 0 h')),body_nat hE N fn (args++caps) hp (fun x v h'=>tripE x v (dropH (keepB h' hp.length v) hp.length 0 h'))]
       cases evBody real T { fs:=tw.fs,pr:=tw.pr,cv:=cvN real T tw N n } N fn (args++caps) hp tripE<;>rfl
      ·rw[e,body_nat hE] at hk
       cases hq:evBody real T { fs:=tw.fs,pr:=tw.pr,cv:=cvN real T tw N n } N fn (args++caps) hp tripE with
       |none=>rw[hq] at hk; cases hk
       |some p=>
        obtain⟨x',u',h'⟩:=p
        rw[hq] at hk
        cases hk
        cases hv with
        |fn _ _ arr a1 a2=>
         obtain⟨b1,b2⟩:=args_caps hl a1 hr a2
         exact .inl ⟨f,arr,rfl,fun w=>hok.enter _ w,(body_calls hm hT hE N hok.get hq hs b1 b2).mono fun e w' hp=>hp.drop _⟩
  |yld i=>
   exact⟨fun α args hp k=>round_nat hE N i args hp k,fun args hp x u h1 hk K g w fv cargs hs hv hl hr=>round_ok hm hT hE N i hk hs hv hl hr⟩
  |_=>exact none_at fun _ _ _ _=>rfl
theorem tower_ok {tw:Tower} (hm:P.follows .mixedOrders=true) (hT:TabOk P T) (ht:TwOk P tw) (N n:Nat):EnvOk P (tw.env real T N n):=⟨ht.fs,tower_cv hm hT ht N n⟩
end
def AVal.v0:AVal→Value
 |.int k n=>.int k n
 |.bool b=>.bool b
 |.str s=>.string s
 |.fn f []=>.func (.func f) #[] #[]
 |_=>.nilIface
def AVal.v1:AVal→Value
 |.agg cs=>.agg (cs.map AVal.v0).toArray
 |v=>v.v0
def AVal.v2:AVal→Value
 |.tup cs=>.tuple (cs.map AVal.v1).toArray
 |.ifc t v=>.iface t v.v1
 |v=>v.v1
def AVal.p0:AVal→Bool
 |.int _ _|.bool _|.str _|.fn _ []=>true
 |_=>false
def AVal.p1:AVal→Bool
 |.agg cs=>cs.all AVal.p0
 |v=>v.p0
def AVal.p2:AVal→Bool
 |.tup cs=>cs.all AVal.p1
 |.ifc _ v=>v.p1
 |v=>v.p1
theorem rep_p0 {h g w} {v:AVal} {x:Value} (r:Rep h g w v x) (hp:v.p0=true):x=v.v0:=by
 cases r<;>first|(simp[AVal.p0] at hp; done)|rfl|skip
 rename_i f cs arr hl _
 cases cs with
 |nil=>
  have:arr=#[]:=Array.eq_empty_of_size_eq_zero hl.symm
  subst this; rfl
 |cons a b=>simp[AVal.p0] at hp
theorem rep_p1 {h g w} {v:AVal} {x:Value} (r:Rep h g w v x) (hp:v.p1=true):x=v.v1:=by
 cases r with
 |agg cs arr hl hr=>
  simp only[AVal.v1,Value.agg.injEq]
  apply Array.ext
  ·simp[hl]
  ·intro j h1 h2
   have hj:j<cs.length:=by simpa using h2
   have:=rep_p0 (hr j cs[j] arr[j] (List.getElem?_eq_getElem hj) (Array.getElem?_eq_getElem h1)) (List.all_eq_true.1 hp _ (List.getElem_mem hj))
   rw[this]; simp
 |any v=>simp[AVal.p1,AVal.p0] at hp
 |undef=>simp[AVal.p1,AVal.p0] at hp
 |int k n=>rfl
 |bool b=>rfl
 |str b=>rfl
 |fn f cs arr hl hr=>exact rep_p0 (.fn f cs arr hl hr) hp
 |_=>simp[AVal.p1,AVal.p0] at hp
theorem rep_v0 {h g w} {v:AVal} (hp:v.p0=true):Rep h g w v v.v0:=by
 cases v<;>first|(simp[AVal.p0] at hp; done)|constructor|skip
 rename_i f cs
 cases cs with
 |nil=>exact .fn f [] #[] rfl fun j c x hc=>by simp at hc
 |cons a b=>simp[AVal.p0] at hp
theorem rep_v1 {h g w} {v:AVal} (hp:v.p1=true):Rep h g w v v.v1:=by
 unfold AVal.p1 at hp
 split at hp
 ·rename_i cs
  refine .agg cs _ (by simp) fun j c x hc hx=>?_
  have hj:=(List.getElem?_eq_some_iff.1 hc).1
  simp[hc] at hx
  subst hx
  exact rep_v0 (List.all_eq_true.1 hp c (List.mem_of_getElem? hc))
 ·rename_i hn
  have:v.v1=v.v0:=by unfold AVal.v1; split<;>first|rfl|exact absurd rfl (hn _)
  rw[this]; exact rep_v0 hp
theorem rep_v2 {h g w} {v:AVal} (hp:v.p2=true):Rep h g w v v.v2:=by
 unfold AVal.p2 at hp
 split at hp
 ·rename_i cs
  refine .tup cs _ (by simp) fun j c x hc hx=>?_
  simp[hc] at hx
  subst hx
  exact rep_v1 (List.all_eq_true.1 hp c (List.mem_of_getElem? hc))
 ·rename_i t v
  exact .ifc t v _ (rep_v1 hp)
 ·rename_i h1 h2
  have:v.v2=v.v1:=by unfold AVal.v2; split<;>first|rfl|exact absurd rfl (h1 _)|exact absurd rfl (h2 _ _)
  rw[this]; exact rep_v1 hp
theorem reps_p1 {h g w} {args:List AVal} {cargs:Array Value} (hl:args.length=cargs.size) (hr:∀(j:Nat) c x,args[j]?=some c→cargs[j]?=some x→Rep h g w c x) (hp:args.all AVal.p1=true):cargs=(args.map AVal.v1).toArray:=by
 apply Array.ext
 ·simp[hl]
 ·intro j h1 h2
  have hj:j<args.length:=by simpa using h2
  have:=rep_p1 (hr j args[j] cargs[j] (List.getElem?_eq_getElem hj) (Array.getElem?_eq_getElem h1)) (List.all_eq_true.1 hp _ (List.getElem_mem hj))
  rw[this]; simp
def AOut.plain:AOut→Bool
 |.ret v=>v.p2
 |.pan v=>v.p2
def AOut.ending:AOut→Ending
 |.ret v=>.returned v.v2
 |.pan v=>.panicked [{ v:=v.v2,recovered:=false }]
def extS (S:Fsp) (_:Cv):Cv:=fun _ v args h k=>
 match v with
 |.fn _ []=>S _ args fun o=>
  match o with
  |.ret r=>k .normal r h
  |.pan _=>none
 |_=>none
theorem ext_at {P:Program} {f:FuncId} {S:Fsp} (hn:∀(α:Type) args (k:AOut→Option α),S α args k=(S AOut args some).bind k)
  (hF:∀args out,S AOut args some=some out→∃r,out=.ret r∧(∃c,args[0]?=some c∧∀f cs,c≠.fn f cs)∧args.all AVal.p1=true∧r.p2=true∧∀w,(callFunc f (args.map AVal.v1).toArray).run P w=.ok (.value r.v2) w) (cv:Cv) (_:CvOk P cv) (caps:List AVal):CvAt P (extS S cv) (.fn f caps) where
 nat:=fun α args h k=>by
  unfold extS
  cases caps with
  |nil=>
   simp only
   rw[hn,hn _ _ fun o=>match o with|.ret r=>tripE .normal r h|.pan _=>none]
   cases S AOut args some with
   |none=>rfl
   |some o=>cases o<;>rfl
  |cons a b=>rfl
 ok:=fun args h x u h1 hk K g w fv cargs s hfv hl hr=>by
  unfold extS at hk
  cases caps with
  |cons a b=>cases hk
  |nil=>
   simp only at hk
   rw[hn] at hk
   cases hq:S AOut args some with
   |none=>rw[hq] at hk; cases hk
   |some o=>
    obtain⟨r,rfl,⟨c0,e0,e0'⟩,e1,e2,e3⟩:=hF args _ hq
    rw[hq] at hk
    cases hk
    have hc:=reps_p1 hl hr e1
    have hfv':=rep_p1 hfv rfl
    subst hfv'
    refine .inr (.inr ⟨f,#[],_,rfl,?_,?_,g,s,.refl,_,rfl,rep_v2 e2⟩)
    ·rw[hc]
     refine⟨c0.v1,by simp[e0],fun a b c=>?_⟩
     have hp:=List.all_eq_true.1 e1 c0 (List.mem_of_getElem? e0)
     cases c0<;>simp[AVal.v1,AVal.v0]
     exact absurd rfl (e0' _ _)
    ·rw[Array.append_empty,hc]; exact e3 w
def lookF:List (Nat × Func)→Nat→Option Func
 | [],_=>none
 |(u,e)::r,t=>if t=u then some e else lookF r t
def AllFn (P:Program):List (Nat × Func)→Prop
 | []=>True
 |(u,e)::r=>FnOk P u e∧AllFn P r
theorem allCons {P:Program} {u:Nat} {e:Func} {l:List (Nat × Func)} (h:FnOk P u e) (r:AllFn P l):AllFn P ((u,e)::l):=⟨h,r⟩
theorem look_ok {P:Program}:∀ {l:List (Nat × Func)},AllFn P l→∀f fn,lookF l f=some fn→FnOk P f fn
 | [],_,f,fn,h=>by cases h
 |(u,e)::r,ha,f,fn,h=>by
  simp only[lookF] at h
  split at h
  ·rename_i e1; cases h; subst e1; exact ha.1
  ·exact look_ok ha.2 f fn h
noncomputable def fnsT:List (Nat × Func):=[(3,Tryz.f3),(4,Tryz.f4),(5,Tryz.f5),(6,Tryz.f6),(7,Tryz.f7),(8,Tryz.f8),(9,Tryz.f9),(10,Tryz.f10),(11,Tryz.f11),(12,Tryz.f12),(13,Tryz.f13),(14,Tryz.f14),(15,Tryz.f15),(16,Tryz.f16),(17,Tryz.f17),(18,Tryz.f18),(19,Tryz.f19),(20,Tryz.f20),(21,Tryz.f21),(22,Tryz.f22),(23,Tryz.f23),(24,Tryz.f24),(25,Tryz.f25),(26,Tryz.f26),(27,Tryz.f27),(28,Tryz.f28),(29,Tryz.f29),(30,Tryz.f30),(31,Tryz.f31),(32,Tryz.f32),(33,Tryz.f33),(34,Tryz.f34),(35,Tryz.f35),(36,Tryz.f36),(37,Tryz.f37),(38,Tryz.f38),(39,Tryz.f39),(40,Tryz.f40),(41,Tryz.f41),(42,Tryz.f42),(43,Tryz.f43),(44,Tryz.f44),(45,Tryz.f45),(46,Tryz.f46),(47,Tryz.f47),(48,Tryz.f48),(49,Tryz.f49),(50,Tryz.f50),(51,Tryz.f51),(52,Tryz.f52),(53,Tryz.f53),(54,Tryz.f54),(55,Tryz.f55),(56,Tryz.f56),(57,Tryz.f57),(58,Tryz.f58),(59,Tryz.f59),(60,Tryz.f60),(61,Tryz.f61),(62,Tryz.f62),(63,Tryz.f63),(64,Tryz.f64),(65,Tryz.f65),(66,Tryz.f66),(67,Tryz.f67),(68,Tryz.f68),(69,Tryz.f69),(70,Tryz.f70),(71,Tryz.f71),(72,Tryz.f72),(73,Tryz.f73),(74,Tryz.f74),(75,Tryz.f75),(76,Tryz.f76),(77,Tryz.f77),(78,Tryz.f78),(79,Tryz.f79),(80,Tryz.f80),(81,Tryz.f81),(82,Tryz.f82),(83,Tryz.f83),(84,Tryz.f84),(85,Tryz.f85),(86,Tryz.f86),(87,Tryz.f87),(88,Tryz.f88),(89,Tryz.f89),(90,Tryz.f90),(91,Tryz.f91),(92,Tryz.f92),(93,Tryz.f93),(94,Tryz.f94),(95,Tryz.f95),(96,Tryz.f96),(97,Tryz.f97),(98,Tryz.f98),(99,Tryz.f99),(100,Tryz.f100),(101,Tryz.f101),(102,Tryz.f102),(103,Tryz.f103),(104,Tryz.f104),(105,Tryz.f105),(106,Tryz.f106),(107,Tryz.f107),(108,Tryz.f108),(109,Tryz.f109),(110,Tryz.f110),(111,Tryz.f111),(112,Tryz.f112),(113,Tryz.f113),(114,Tryz.f114),(115,Tryz.f115),(116,Tryz.f116),(117,Tryz.f117),(118,Tryz.f118),(119,Tryz.f119),(120,Tryz.f120),(121,Tryz.f121),(122,Tryz.f122),(123,Tryz.f123),(124,Tryz.f124),(125,Tryz.f125),(126,Tryz.f126),(127,Tryz.f127),(128,Tryz.f128),(129,Tryz.f129),(130,Tryz.f130),(131,Tryz.f131),(132,Tryz.f132),(133,Tryz.f133),(134,Tryz.f134),(135,Tryz.f135),(136,Tryz.f136),(137,Tryz.f137),(138,Tryz.f138),(139,Tryz.f139),(140,Tryz.f140),(141,Tryz.f141),(142,Tryz.f142),(143,Tryz.f143),(144,Tryz.f144),(145,Tryz.f145),(146,Tryz.f146),(147,Tryz.f147),(148,Tryz.f148),(149,Tryz.f149),(150,Tryz.f150),(151,Tryz.f151),(152,Tryz.f152),(153,Tryz.f153),(155,Tryz.f155),(156,Tryz.f156),(157,Tryz.f157),(158,Tryz.f158),(159,Tryz.f159),(160,Tryz.f160),(161,Tryz.f161),(162,Tryz.f162),(164,Tryz.f164),(165,Tryz.f165),(166,Tryz.f166),(167,Tryz.f167),(168,Tryz.f168)]
set_option maxRecDepth 100000 in
theorem fnsT_ok:AllFn Tryz.prog fnsT:=
 allCons ⟨Tryz.func3,fun _ _=>by kernel_rfl⟩ <|
 allCons ⟨Tryz.func4,fun _ _=>by kernel_rfl⟩ <|
 allCons ⟨Tryz.func5,fun _ _=>by kernel_rfl⟩ <|
 allCons ⟨Tryz.func6,fun _ _=>by kernel_rfl⟩ <|
 allCons ⟨Tryz.func7,fun _ _=>by kernel_rfl⟩ <|
 allCons ⟨Tryz.func8,fun _ _=>by kernel_rfl⟩ <|
 allCons ⟨Tryz.func9,fun _ _=>by kernel_rfl⟩ <|
 allCons ⟨Tryz.func10,fun _ _=>by kernel_rfl⟩ <|
 allCons ⟨Tryz.func11,fun _ _=>by kernel_rfl⟩ <|
 allCons ⟨Tryz.func12,fun _ _=>by kernel_rfl⟩ <|
 allCons ⟨Tryz.func13,fun _ _=>by kernel_rfl⟩ <|
 allCons ⟨Tryz.func14,fun _ _=>by kernel_rfl⟩ <|
 allCons ⟨Tryz.func15,fun _ _=>by kernel_rfl⟩ <|
 allCons ⟨Tryz.func16,fun _ _=>by kernel_rfl⟩ <|
 allCons ⟨Tryz.func17,fun _ _=>by kernel_rfl⟩ <|
 allCons ⟨Tryz.func18,fun _ _=>by kernel_rfl⟩ <|
 allCons ⟨Tryz.func19,fun _ _=>by kernel_rfl⟩ <|
 allCons ⟨Tryz.func20,fun _ _=>by kernel_rfl⟩ <|
 allCons ⟨Tryz.func21,fun _ _=>by kernel_rfl⟩ <|
 allCons ⟨Tryz.func22,fun _ _=>by kernel_rfl⟩ <|
 allCons ⟨Tryz.func23,fun _ _=>by kernel_rfl⟩ <|
 allCons ⟨Tryz.func24,fun _ _=>by kernel_rfl⟩ <|
 allCons ⟨Tryz.func25,fun _ _=>by kernel_rfl⟩ <|
 allCons ⟨Tryz.func26,fun _ _=>by kernel_rfl⟩ <|
 allCons ⟨Tryz.func27,fun _ _=>by kernel_rfl⟩ <|
 allCons ⟨Tryz.func28,fun _ _=>by kernel_rfl⟩ <|
 allCons ⟨Tryz.func29,fun _ _=>by kernel_rfl⟩ <|
 allCons ⟨Tryz.func30,fun _ _=>by kernel_rfl⟩ <|
 allCons ⟨Tryz.func31,fun _ _=>by kernel_rfl⟩ <|
 allCons ⟨Tryz.func32,fun _ _=>by kernel_rfl⟩ <|
 allCons ⟨Tryz.func33,fun _ _=>by kernel_rfl⟩ <|
 allCons ⟨Tryz.func34,fun _ _=>by kernel_rfl⟩ <|
 allCons ⟨Tryz.func35,fun _ _=>by kernel_rfl⟩ <|
 allCons ⟨Tryz.func36,fun _ _=>by kernel_rfl⟩ <|
 allCons ⟨Tryz.func37,fun _ _=>by kernel_rfl⟩ <|
 allCons ⟨Tryz.func38,fun _ _=>by kernel_rfl⟩ <|
 allCons ⟨Tryz.func39,fun _ _=>by kernel_rfl⟩ <|
 allCons ⟨Tryz.func40,fun _ _=>by kernel_rfl⟩ <|
 allCons ⟨Tryz.func41,fun _ _=>by kernel_rfl⟩ <|
 allCons ⟨Tryz.func42,fun _ _=>by kernel_rfl⟩ <|
 allCons ⟨Tryz.func43,fun _ _=>by kernel_rfl⟩ <|
 allCons ⟨Tryz.func44,fun _ _=>by kernel_rfl⟩ <|
 allCons ⟨Tryz.func45,fun _ _=>by kernel_rfl⟩ <|
 allCons ⟨Tryz.func46,fun _ _=>by kernel_rfl⟩ <|
 allCons ⟨Tryz.func47,fun _ _=>by kernel_rfl⟩ <|
 allCons ⟨Tryz.func48,fun _ _=>by kernel_rfl⟩ <|
 allCons ⟨Tryz.func49,fun _ _=>by kernel_rfl⟩ <|
 allCons ⟨Tryz.func50,fun _ _=>by kernel_rfl⟩ <|
 allCons ⟨Tryz.func51,fun _ _=>by kernel_rfl⟩ <|
 allCons ⟨Tryz.func52,fun _ _=>by kernel_rfl⟩ <|
 allCons ⟨Tryz.func53,fun _ _=>by kernel_rfl⟩ <|
 allCons ⟨Tryz.func54,fun _ _=>by kernel_rfl⟩ <|
 allCons ⟨Tryz.func55,fun _ _=>by kernel_rfl⟩ <|
 allCons ⟨Tryz.func56,fun _ _=>by kernel_rfl⟩ <|
 allCons ⟨Tryz.func57,fun _ _=>by kernel_rfl⟩ <|
 allCons ⟨Tryz.func58,fun _ _=>by kernel_rfl⟩ <|
 allCons ⟨Tryz.func59,fun _ _=>by kernel_rfl⟩ <|
 allCons ⟨Tryz.func60,fun _ _=>by kernel_rfl⟩ <|
 allCons ⟨Tryz.func61,fun _ _=>by kernel_rfl⟩ <|
 allCons ⟨Tryz.func62,fun _ _=>by kernel_rfl⟩ <|
 allCons ⟨Tryz.func63,fun _ _=>by kernel_rfl⟩ <|
 allCons ⟨Tryz.func64,fun _ _=>by kernel_rfl⟩ <|
 allCons ⟨Tryz.func65,fun _ _=>by kernel_rfl⟩ <|
 allCons ⟨Tryz.func66,fun _ _=>by kernel_rfl⟩ <|
 allCons ⟨Tryz.func67,fun _ _=>by kernel_rfl⟩ <|
 allCons ⟨Tryz.func68,fun _ _=>by kernel_rfl⟩ <|
 allCons ⟨Tryz.func69,fun _ _=>by kernel_rfl⟩ <|
 allCons ⟨Tryz.func70,fun _ _=>by kernel_rfl⟩ <|
 allCons ⟨Tryz.func71,fun _ _=>by kernel_rfl⟩ <|
 allCons ⟨Tryz.func72,fun _ _=>by kernel_rfl⟩ <|
 allCons ⟨Tryz.func73,fun _ _=>by kernel_rfl⟩ <|
 allCons ⟨Tryz.func74,fun _ _=>by kernel_rfl⟩ <|
 allCons ⟨Tryz.func75,fun _ _=>by kernel_rfl⟩ <|
 allCons ⟨Tryz.func76,fun _ _=>by kernel_rfl⟩ <|
 allCons ⟨Tryz.func77,fun _ _=>by kernel_rfl⟩ <|
 allCons ⟨Tryz.func78,fun _ _=>by kernel_rfl⟩ <|
 allCons ⟨Tryz.func79,fun _ _=>by kernel_rfl⟩ <|
 allCons ⟨Tryz.func80,fun _ _=>by kernel_rfl⟩ <|
 allCons ⟨Tryz.func81,fun _ _=>by kernel_rfl⟩ <|
 allCons ⟨Tryz.func82,fun _ _=>by kernel_rfl⟩ <|
 allCons ⟨Tryz.func83,fun _ _=>by kernel_rfl⟩ <|
 allCons ⟨Tryz.func84,fun _ _=>by kernel_rfl⟩ <|
 allCons ⟨Tryz.func85,fun _ _=>by kernel_rfl⟩ <|
 allCons ⟨Tryz.func86,fun _ _=>by kernel_rfl⟩ <|
 allCons ⟨Tryz.func87,fun _ _=>by kernel_rfl⟩ <|
 allCons ⟨Tryz.func88,fun _ _=>by kernel_rfl⟩ <|
 allCons ⟨Tryz.func89,fun _ _=>by kernel_rfl⟩ <|
 allCons ⟨Tryz.func90,fun _ _=>by kernel_rfl⟩ <|
 allCons ⟨Tryz.func91,fun _ _=>by kernel_rfl⟩ <|
 allCons ⟨Tryz.func92,fun _ _=>by kernel_rfl⟩ <|
 allCons ⟨Tryz.func93,fun _ _=>by kernel_rfl⟩ <|
 allCons ⟨Tryz.func94,fun _ _=>by kernel_rfl⟩ <|
 allCons ⟨Tryz.func95,fun _ _=>by kernel_rfl⟩ <|
 allCons ⟨Tryz.func96,fun _ _=>by kernel_rfl⟩ <|
 allCons ⟨Tryz.func97,fun _ _=>by kernel_rfl⟩ <|
 allCons ⟨Tryz.func98,fun _ _=>by kernel_rfl⟩ <|
 allCons ⟨Tryz.func99,fun _ _=>by kernel_rfl⟩ <|
 allCons ⟨Tryz.func100,fun _ _=>by kernel_rfl⟩ <|
 allCons ⟨Tryz.func101,fun _ _=>by kernel_rfl⟩ <|
 allCons ⟨Tryz.func102,fun _ _=>by kernel_rfl⟩ <|
 allCons ⟨Tryz.func103,fun _ _=>by kernel_rfl⟩ <|
 allCons ⟨Tryz.func104,fun _ _=>by kernel_rfl⟩ <|
 allCons ⟨Tryz.func105,fun _ _=>by kernel_rfl⟩ <|
 allCons ⟨Tryz.func106,fun _ _=>by kernel_rfl⟩ <|
 allCons ⟨Tryz.func107,fun _ _=>by kernel_rfl⟩ <|
 allCons ⟨Tryz.func108,fun _ _=>by kernel_rfl⟩ <|
 allCons ⟨Tryz.func109,fun _ _=>by kernel_rfl⟩ <|
 allCons ⟨Tryz.func110,fun _ _=>by kernel_rfl⟩ <|
 allCons ⟨Tryz.func111,fun _ _=>by kernel_rfl⟩ <|
 allCons ⟨Tryz.func112,fun _ _=>by kernel_rfl⟩ <|
 allCons ⟨Tryz.func113,fun _ _=>by kernel_rfl⟩ <|
 allCons ⟨Tryz.func114,fun _ _=>by kernel_rfl⟩ <|
 allCons ⟨Tryz.func115,fun _ _=>by kernel_rfl⟩ <|
 allCons ⟨Tryz.func116,fun _ _=>by kernel_rfl⟩ <|
 allCons ⟨Tryz.func117,fun _ _=>by kernel_rfl⟩ <|
 allCons ⟨Tryz.func118,fun _ _=>by kernel_rfl⟩ <|
 allCons ⟨Tryz.func119,fun _ _=>by kernel_rfl⟩ <|
 allCons ⟨Tryz.func120,fun _ _=>by kernel_rfl⟩ <|
 allCons ⟨Tryz.func121,fun _ _=>by kernel_rfl⟩ <|
 allCons ⟨Tryz.func122,fun _ _=>by kernel_rfl⟩ <|
 allCons ⟨Tryz.func123,fun _ _=>by kernel_rfl⟩ <|
 allCons ⟨Tryz.func124,fun _ _=>by kernel_rfl⟩ <|
 allCons ⟨Tryz.func125,fun _ _=>by kernel_rfl⟩ <|
 allCons ⟨Tryz.func126,fun _ _=>by kernel_rfl⟩ <|
 allCons ⟨Tryz.func127,fun _ _=>by kernel_rfl⟩ <|
 allCons ⟨Tryz.func128,fun _ _=>by kernel_rfl⟩ <|
 allCons ⟨Tryz.func129,fun _ _=>by kernel_rfl⟩ <|
 allCons ⟨Tryz.func130,fun _ _=>by kernel_rfl⟩ <|
 allCons ⟨Tryz.func131,fun _ _=>by kernel_rfl⟩ <|
 allCons ⟨Tryz.func132,fun _ _=>by kernel_rfl⟩ <|
 allCons ⟨Tryz.func133,fun _ _=>by kernel_rfl⟩ <|
 allCons ⟨Tryz.func134,fun _ _=>by kernel_rfl⟩ <|
 allCons ⟨Tryz.func135,fun _ _=>by kernel_rfl⟩ <|
 allCons ⟨Tryz.func136,fun _ _=>by kernel_rfl⟩ <|
 allCons ⟨Tryz.func137,fun _ _=>by kernel_rfl⟩ <|
 allCons ⟨Tryz.func138,fun _ _=>by kernel_rfl⟩ <|
 allCons ⟨Tryz.func139,fun _ _=>by kernel_rfl⟩ <|
 allCons ⟨Tryz.func140,fun _ _=>by kernel_rfl⟩ <|
 allCons ⟨Tryz.func141,fun _ _=>by kernel_rfl⟩ <|
 allCons ⟨Tryz.func142,fun _ _=>by kernel_rfl⟩ <|
 allCons ⟨Tryz.func143,fun _ _=>by kernel_rfl⟩ <|
 allCons ⟨Tryz.func144,fun _ _=>by kernel_rfl⟩ <|
 allCons ⟨Tryz.func145,fun _ _=>by kernel_rfl⟩ <|
 allCons ⟨Tryz.func146,fun _ _=>by kernel_rfl⟩ <|
 allCons ⟨Tryz.func147,fun _ _=>by kernel_rfl⟩ <|
 allCons ⟨Tryz.func148,fun _ _=>by kernel_rfl⟩ <|
 allCons ⟨Tryz.func149,fun _ _=>by kernel_rfl⟩ <|
 allCons ⟨Tryz.func150,fun _ _=>by kernel_rfl⟩ <|
 allCons ⟨Tryz.func151,fun _ _=>by kernel_rfl⟩ <|
 allCons ⟨Tryz.func152,fun _ _=>by kernel_rfl⟩ <|
 allCons ⟨Tryz.func153,fun _ _=>by kernel_rfl⟩ <|
 allCons ⟨Tryz.func155,fun _ _=>by kernel_rfl⟩ <|
 allCons ⟨Tryz.func156,fun _ _=>by kernel_rfl⟩ <|
 allCons ⟨Tryz.func157,fun _ _=>by kernel_rfl⟩ <|
 allCons ⟨Tryz.func158,fun _ _=>by kernel_rfl⟩ <|
 allCons ⟨Tryz.func159,fun _ _=>by kernel_rfl⟩ <|
 allCons ⟨Tryz.func160,fun _ _=>by kernel_rfl⟩ <|
 allCons ⟨Tryz.func161,fun _ _=>by kernel_rfl⟩ <|
 allCons ⟨Tryz.func162,fun _ _=>by kernel_rfl⟩ <|
 allCons ⟨Tryz.func164,fun _ _=>by kernel_rfl⟩ <|
 allCons ⟨Tryz.func165,fun _ _=>by kernel_rfl⟩ <|
 allCons ⟨Tryz.func166,fun _ _=>by kernel_rfl⟩ <|
 allCons ⟨Tryz.func167,fun _ _=>by kernel_rfl⟩ <|
 allCons ⟨Tryz.func168,fun _ _=>by kernel_rfl⟩ <|
 trivial
end Go.Proofs.YtneedmplkodcjaaGreat
namespace Go.Proofs.YtneedmplkodcjaaGreat
def okB (a:Int):Bool:=decide (-70368744177664≤a)&&decide (a≤70368744177664)
def wayB (how:Int):Bool:=decide (0≤how)&&decide (how≤3)
def rateB (n:Int):Bool:=decide (-2147483648≤n)&&decide (n≤2147483648)
def ab (x:Int):Int:=if x<0 then -x else x
def ngB (x:Int):Bool:=decide (x<0)
def sg (neg:Bool) (n:Int):Int:=bif neg then -n else n
def up1 (how:Int) (neg:Bool) (r d:Int):Bool:=decide (0<r)&&(if how=1 then neg else if how=2 then !neg else if how=3 then decide (d≤r+r) else false)
def rnd (how:Int) (neg:Bool) (n d:Int):Int:=n / d+(bif up1 how neg (n % d) d then 1 else 0)
def fxB (n:Int):Bool:=decide (n≤70368744177664)
def fxV (neg:Bool) (n:Int):Int:=bif fxB n then sg neg n else 0
def fxE (n:Int):Int:=bif fxB n then 0 else 4
theorem ab_nn (x:Int):0≤ab x:=by unfold ab; split<;>omega
theorem ok_iff {a:Int}:okB a=true↔-70368744177664≤a∧a≤70368744177664:=by simp[okB]
theorem ok_ab {a:Int} (h:okB a=true):ab a≤70368744177664:=by rw[ok_iff] at h; unfold ab; split<;>omega
theorem way_cases {how:Int} (h:wayB how=true):how=0∨how=1∨how=2∨how=3:=by simp[wayB] at h; omega
theorem rate_iff {a:Int}:rateB a=true↔-2147483648≤a∧a≤2147483648:=by simp[rateB]
theorem rnd_nn {how:Int} {neg:Bool} {n d:Int} (hn:0≤n) (hd:0<d):0≤rnd how neg n d:=by
 unfold rnd
 have:=Int.ediv_nonneg hn (Int.le_of_lt hd)
 cases up1 how neg (n % d) d<;>simp<;>omega
def xorB (a b:Bool):Bool:=a != b
def scG (a n d:Int):Bool:=xorB (ngB a) (xorB (ngB n) (ngB d))
def bs (p:Nat→Bool):Nat→Nat→Nat
 |0,n=>n
 |k+1,n=>bif p (n+2^k) then bs p k (n+2^k) else bs p k n
theorem bs_spec (p:Nat→Bool) (hp:∀m n,n≤m→p m=true→p n=true):∀(k n:Nat),p n=true→p (n+2^k)=false→p (bs p k n)=true∧p (bs p k n+1)=false∧n≤bs p k n∧bs p k n<n+2^k
 |0,n,h1,h2=>⟨h1,h2,Nat.le_refl _,by simp[bs]⟩
 |k+1,n,h1,h2=>by
  have e:n+2^k+2^k=n+2^(k+1):=by rw[Nat.pow_succ]; omega
  have hpos:0<2^k:=Nat.two_pow_pos k
  simp only[bs]
  cases h:p (n+2^k)
  ·obtain⟨a,b,c,d⟩:=bs_spec p hp k n h1 h
   exact⟨a,b,c,by simp only[cond_false]; omega⟩
  ·obtain⟨a,b,c,d⟩:=bs_spec p hp k (n+2^k) h (by rw[e]; exact h2)
   exact⟨a,b,by simp only[cond_true]; omega,by simp only[cond_true]; omega⟩
def rtC (n:Int):Int:=((bs (fun m=>decide ((m:Int)*m≤n)) 63 0:Nat):Int)
theorem rt_ex:∃f:Int→Int,f=rtC:=⟨_,rfl⟩
noncomputable def rt:Int→Int:=Classical.choose rt_ex
theorem rt_C:rt=rtC:=Classical.choose_spec rt_ex
noncomputable def rtUp (a how:Int):Bool:=if how=2 then !(rt a*rt a==a) else if how=3 then decide ((2*rt a+1)*(2*rt a+1)≤4*a) else false
noncomputable def rtN (a how:Int):Int:=rt a+(bif rtUp a how then 1 else 0)
def rootB (a how:Int):Bool:=okB a&&wayB how
noncomputable def rootV (a how:Int):Int:=bif rootB a how then (bif ngB a then 0 else fxV false (rtN (a*65536) how)) else 0
noncomputable def rootE (a how:Int):Int:=bif rootB a how then (bif ngB a then 11 else fxE (rtN (a*65536) how)) else 2
def sq2 (x y:Int):Int:=ab x*ab x+ab y*ab y
def lenB (x y how:Int):Bool:=okB x&&okB y&&wayB how
noncomputable def lenV (x y how:Int):Int:=bif lenB x y how then fxV false (rtN (sq2 x y) how) else 0
noncomputable def lenE (x y how:Int):Int:=bif lenB x y how then fxE (rtN (sq2 x y) how) else 2
def shrC (x s:Int):Int:=((bs (fun m=>decide ((m:Int)*m*s≤4294967296*(x*x))) 17 0:Nat):Int)
theorem shr_ex:∃f:Int→Int→Int,f=shrC:=⟨_,rfl⟩
noncomputable def shr:Int→Int→Int:=Classical.choose shr_ex
def cmp3 (a b:Int):Int:=if a<b then -1 else if b<a then 1 else 0
def dgF:Nat→Nat→List Int
 |0,_=>[]
 |f+1,n=>if n=0 then [] else ((n % 32768:Nat):Int)::dgF f (n / 32768)
def dg (n:Int):List Int:=dgF n.toNat n.toNat
open Go.RowKit
theorem mixedT:Tryz.prog.follows .mixedOrders=true:=by kernel_rfl
theorem cond_bind {α β:Type} (c:Bool) (x y:Option α) (k:α→Option β):(bif c then x else y).bind k=bif c then x.bind k else y.bind k:=by cases c<;>rfl
noncomputable def twT (fs:FuncId→Option Fsp) (sp:FuncId→Option (Cv→Cv)):Tower:=⟨fs,fun _=>true,sp,lookF fnsT⟩
def SpOk (sp:FuncId→Option (Cv→Cv)):Prop:=∀f S,sp f=some S→∀cv,CvOk Tryz.prog cv→∀caps,CvAt Tryz.prog (S cv) (.fn f caps)
def FsOk (fs:FuncId→Option Fsp):Prop:=∀f S,fs f=some S→FspOk Tryz.prog f S
theorem twT_ok {fs:FuncId→Option Fsp} {sp:FuncId→Option (Cv→Cv)} (h:FsOk fs) (hs:SpOk sp):TwOk Tryz.prog (twT fs sp):=⟨h,hs,look_ok fnsT_ok⟩
theorem fs_nil:FsOk fun _=>none:=fun f S h=>by cases h
theorem fs_cons {fs:FuncId→Option Fsp} {f:FuncId} {S:Fsp} (h:FspOk Tryz.prog f S) (hE:FsOk fs):FsOk fun g=>if g=f then some S else fs g:=fun g S' hg=>by
 dsimp only at hg
 split at hg
 ·rename_i e; cases hg; subst e; exact h
 ·exact hE g S' hg
theorem sp_nil:SpOk fun _=>none:=fun f S h=>by cases h
theorem sp_cons {sp:FuncId→Option (Cv→Cv)} {f:FuncId} {S:Cv→Cv} (h:∀cv,CvOk Tryz.prog cv→∀caps,CvAt Tryz.prog (S cv) (.fn f caps)) (hE:SpOk sp):SpOk fun g=>if g=f then some S else sp g:=fun g S' hg=>by
 dsimp only at hg
 split at hg
 ·rename_i e; cases hg; subst e; exact h
 ·exact hE g S' hg
theorem tower_S {fs:FuncId→Option Fsp} {sp:FuncId→Option (Cv→Cv)} (h:FsOk fs) (hs:SpOk sp) {f:FuncId} {fn:Func} (hf:FnOk Tryz.prog f fn) {S:Fsp}
  (hn:∀(α:Type) args (k:AOut→Option α),S α args k=(S AOut args some).bind k)
  (hS:∀args out,(∀c∈args,Sm c)→S AOut args some=some out→∃N n,evFn real tab ((twT fs sp).env real tab N n) N fn AOut args some=some out):FspOk Tryz.prog f S where
 enter:=hf.enter
 nat:=hn
 calls:=fun args out hout M w cargs hM hl hr=>by
  have hsm:∀c∈args,Sm c:=fun c hc=>by
   obtain⟨j,hj,rfl⟩:=List.mem_iff_getElem.1 hc
   exact (hr j _ _ (List.getElem?_eq_getElem hj) (Array.getElem?_eq_getElem (by omega))).sm
  obtain⟨N,n,hN⟩:=hS args out hsm hout
  exact (fn_ok mixedT tabOk (tower_ok mixedT tabOk (twT_ok h hs) N n) N hf.get hf.enter).calls args out hN M w cargs hM hl hr
def cloneB (g:Nat):Bool:=
 if g=2000000+72 then true else
 false
noncomputable def twY (fs:FuncId→Option Fsp) (sp:FuncId→Option (Cv→Cv)):Tower:=⟨fs,fun g=>!(g==999961 || cloneB g),sp,lookF fnsT⟩
theorem twY_ok {fs:FuncId→Option Fsp} {sp:FuncId→Option (Cv→Cv)} (h:FsOk fs) (hs:SpOk sp):TwOk Tryz.prog (twY fs sp):=⟨h,hs,look_ok fnsT_ok⟩
theorem tower_Y {fs:FuncId→Option Fsp} {sp:FuncId→Option (Cv→Cv)} (h:FsOk fs) (hs:SpOk sp) {f:FuncId} {fn:Func} (hf:FnOk Tryz.prog f fn) {S:Fsp}
  (hn:∀(α:Type) args (k:AOut→Option α),S α args k=(S AOut args some).bind k)
  (hS:∀args out,(∀c∈args,Sm c)→S AOut args some=some out→∃N n,evFn real tab ((twY fs sp).env real tab N n) N fn AOut args some=some out):FspOk Tryz.prog f S where
 enter:=hf.enter
 nat:=hn
 calls:=fun args out hout M w cargs hM hl hr=>by
  have hsm:∀c∈args,Sm c:=fun c hc=>by
   obtain⟨j,hj,rfl⟩:=List.mem_iff_getElem.1 hc
   exact (hr j _ _ (List.getElem?_eq_getElem hj) (Array.getElem?_eq_getElem (by omega))).sm
  obtain⟨N,n,hN⟩:=hS args out hsm hout
  exact (fn_ok mixedT tabOk (tower_ok mixedT tabOk (twY_ok h hs) N n) N hf.get hf.enter).calls args out hN M w cargs hM hl hr
/-! As twY; rows that the call of a contract gives up stay readable. -/
noncomputable def twV (fs:FuncId→Option Fsp) (sp:FuncId→Option (Cv→Cv)):Tower:=⟨fs,fun g=>!(g==999961 || g==999953 || cloneB g),sp,lookF fnsT⟩
/-! As twV; rows that append makes are memory that stays. -/
/-! As twV; behind the call of tried all rows are memory that stays. -/
/-! As twY; nil slices in values that are built become rows. -/
noncomputable def twN (fs:FuncId→Option Fsp) (sp:FuncId→Option (Cv→Cv)):Tower:=⟨fs,fun g=>!(g==999961 || g==999947 || cloneB g),sp,lookF fnsT⟩
theorem twN_ok {fs:FuncId→Option Fsp} {sp:FuncId→Option (Cv→Cv)} (h:FsOk fs) (hs:SpOk sp):TwOk Tryz.prog (twN fs sp):=⟨h,hs,look_ok fnsT_ok⟩
theorem tower_N {fs:FuncId→Option Fsp} {sp:FuncId→Option (Cv→Cv)} (h:FsOk fs) (hs:SpOk sp) {f:FuncId} {fn:Func} (hf:FnOk Tryz.prog f fn) {S:Fsp}
  (hn:∀(α:Type) args (k:AOut→Option α),S α args k=(S AOut args some).bind k)
  (hS:∀args out,(∀c∈args,Sm c)→S AOut args some=some out→∃N n,evFn real tab ((twN fs sp).env real tab N n) N fn AOut args some=some out):FspOk Tryz.prog f S where
 enter:=hf.enter
 nat:=hn
 calls:=fun args out hout M w cargs hM hl hr=>by
  have hsm:∀c∈args,Sm c:=fun c hc=>by
   obtain⟨j,hj,rfl⟩:=List.mem_iff_getElem.1 hc
   exact (hr j _ _ (List.getElem?_eq_getElem hj) (Array.getElem?_eq_getElem (by omega))).sm
  obtain⟨N,n,hN⟩:=hS args out hsm hout
  exact (fn_ok mixedT tabOk (tower_ok mixedT tabOk (twN_ok h hs) N n) N hf.get hf.enter).calls args out hN M w cargs hM hl hr
/-! As twY; rows that are stored into are memory that stays behind their region. -/
def mis (t:TypeId) (e:Int):AOut:=.pan (.ifc t (.agg [.int .i64 e]))
abbrev iN (n:Int):AVal:=.int .i64 n
abbrev uN (n:Int):AVal:=.int .u64 n
abbrev bN (b:Bool):AVal:=.bool b
abbrev sN (x y:Int):AVal:=.agg [.int .i64 x,.int .i64 y]
def i1 (n:Int):AOut:=.ret (.int .i64 n)
def b1 (b:Bool):AOut:=.ret (.bool b)
def i2 (n e:Int):AOut:=.ret (.tup [.int .i64 n,.int .i64 e])
def b2 (b:Bool) (e:Int):AOut:=.ret (.tup [.bool b,.int .i64 e])
def s2 (x y e:Int):AOut:=.ret (.tup [.agg [.int .i64 x,.int .i64 y],.int .i64 e])
def t0:AOut:=.ret (.tup [])
def fxm:TypeId:=118
section
variable {X α σ:Type}
def fstX (q:X→Bool) (d:X) (xs:List X):Int:=match (List.range xs.length).find? fun i=>q (xs.getD i d) with
 |some i=>i
 |none=>-1
theorem any_rangeX (xs:List X) (d:X) (q:X→Bool):((List.range xs.length).any fun i=>q (xs.getD i d))=xs.any q:=by
 rw[Bool.eq_iff_iff,List.any_eq_true,List.any_eq_true]
 constructor
 ·rintro⟨i,hi,hq⟩
  have hlt:=List.mem_range.1 hi
  rw[List.getD_eq_getElem?_getD,List.getElem?_eq_getElem hlt] at hq
  exact⟨_,List.getElem_mem hlt,hq⟩
 ·rintro⟨x,hx,hq⟩
  obtain⟨i,hlt,rfl⟩:=List.mem_iff_getElem.1 hx
  refine⟨i,List.mem_range.2 hlt,?_⟩
  rw[List.getD_eq_getElem?_getD,List.getElem?_eq_getElem hlt]
  exact hq
theorem fst_anyX (q:X→Bool) (d:X) (xs:List X):decide (fstX q d xs≥0)=xs.any q:=by
 rw[←any_rangeX xs d]
 unfold fstX
 cases h:(List.range xs.length).find? fun i=>q (xs.getD i d) with
 |none=>
  rw[List.find?_eq_none] at h
  symm
  simpa using h
 |some i=>
  have h1:=List.find?_some h
  have h2:=List.mem_of_find?_eq_some h
  rw[List.any_eq_true.2 ⟨i,h2,h1⟩]
  simp
def findL (b N:Nat) (xs:List X) (d:X) (q:X→Bool) (R:Int→Option α) (E:Option α):Option α:=
 afterL
  (iterL N
   (fun x:Int × Unit=>
    bif decide (x.1<(xs.length:Int)) then
     if 0≤x.1∧x.1<(xs.length:Int) then
      bif q (xs.getD x.1.toNat d) then finL (R x.1)
      else some (LRes.cont (IntKind.i64.wrap (x.1+1),()))
     else none
    else some (LRes.brk b (x.1,())))
   (0,()))
  fun id _=>if id=b then E else none
theorem findL_eq (b:Nat) (xs:List X) (hl:xs.length≤maxLen) (d:X) (q:X→Bool) (R:Int→Option α) (E:Option α):findL b (xs.length+1) xs d q R E=bif xs.any q then R (fstX q d xs) else E:=by
 unfold findL
 generalize hf:(fun x:Int × Unit=>(_:Option (LRes (Int × Unit) α)))=f
 have e:iterL (xs.length+1) f (0,())=match (List.range xs.length).find? (fun i=>q (xs.getD i d)) with|some i=>finL (R (i:Int))|none=>some (.brk b ((xs.length:Int),())):=by
  refine iterL_find (f:=f) (fun i:Nat=>((i:Int),())) _ (fun i=>fin_not _) (brk_not _ _) xs.length (fun i hi=>?_) ?_
  ·rw[←hf]
   have h1:decide ((i:Int)<(xs.length:Int))=true:=decide_eq_true (by omega)
   simp only[h1,cond_true]
   rw[if_pos ⟨by omega,by omega⟩]
   have h2:IntKind.i64.wrap ((i:Int)+1)=((i+1:Nat):Int):=wrap_small (n:=i+1) (by omega)
   rw[h2]
   rfl
  ·rw[←hf]
   have h1:decide ((xs.length:Int)<(xs.length:Int))=false:=decide_eq_false (by omega)
   simp only[h1,cond_false]
 rw[e,←fst_anyX q d]
 unfold fstX
 cases (List.range xs.length).find? fun i=>q (xs.getD i d) with
 |none=>exact if_pos rfl
 |some i=>
  have:decide ((i:Int)≥0)=true:=decide_eq_true (by omega)
  simp only[this,cond_true]
  cases R (i:Int)<;>rfl
theorem findL_idx (b:Nat) (xs:List X) (hl:xs.length≤maxLen) (d:X) (q:X→Bool) (k:AOut→Option α):findL b (xs.length+1) xs d q (fun i=>k (i1 i)) (k (i1 (-1)))=k (i1 (fstX q d xs)):=by
 rw[findL_eq b xs hl,←fst_anyX q d]
 cases h:decide (fstX q d xs≥0)
 ·simp only[cond_false]
  have h:=of_decide_eq_false h
  unfold fstX at h ⊢
  cases hq:(List.range xs.length).find? fun i=>q (xs.getD i d) with
  |none=>rfl
  |some i=>rw[hq] at h; simp only at h; omega
 ·rfl
theorem count_loop {f:σ→Option (LRes σ α)} {K:Nat→σ→Option α} (st:Nat→σ) (n:Nat) {b:Nat} {y:σ} (h:∀i,i<n→f (st i)=some (.cont (st (i+1)))) (hend:f (st n)=some (.brk b y)) {N:Nat} (hN:n<N):afterL (iterL N f (st 0)) K=K b y:=by
 rw[iterL_count st (brk_not b y) n h hend 0 (Nat.zero_le _) N (by omega)]
 rfl
theorem any_loop {f:σ→Option (LRes σ α)} {K:Nat→σ→Option α} (st:Nat→σ) (n:Nat) (p:Nat→Bool) {b:Nat} {y:σ} (R:Option α) (h:∀i,i<n→f (st i)=bif p i then finL R else some (.cont (st (i+1)))) (hend:f (st n)=some (.brk b y)):afterL (iterL (n+1) f (st 0)) K=bif (List.range n).any p then R else K b y:=by
 rw[iterL_any st p (fin_not R) (brk_not b y) n h hend]
 cases (List.range n).any p
 ·rfl
 ·cases R<;>rfl
end
theorem lt_len {i n:Nat} (h:i<n):decide ((i:Int)<(n:Int))=true:=decide_eq_true (by omega)
theorem not_lt_len {n:Nat}:decide ((n:Int)<(n:Int))=false:=decide_eq_false (by omega)
theorem in_len {i n:Nat} (h:i<n):0≤(i:Int)∧(i:Int)<(n:Int):=⟨by omega,by omega⟩
theorem wrap_next {i n:Nat} (h:i<n) (hn:n≤maxLen):IntKind.i64.wrap ((i:Int)+1)=((i+1:Nat):Int):=wrap_small (n:=i+1) (by omega)
end Go.Proofs.YtneedmplkodcjaaGreat
namespace Go.Proofs.YtneedmplkodcjaaGreat
section
variable {α:Type}
theorem any_from {σ:Type} {f:σ→Option (LRes σ α)} (st:Nat→σ) (p:Nat→Bool) {R E:Option (LRes σ α)} (hR:∀y,R≠some (.cont y)) (hE:∀y,E≠some (.cont y)) (n:Nat) (h:∀i,i<n→f (st i)=bif p i then R else some (.cont (st (i+1)))) (hend:f (st n)=E) :
  ∀k m,m+k=n→∀N,k<N→iterL N f (st m)=bif (List.range' m k).any p then R else E
 |0,m,hm,N,hN=>by
  cases N with
  |zero=>omega
  |succ N=>
   have:m=n:=by omega
   subst this
   simp only[iterL,hend]
   simp only[List.range'_zero,List.any_nil,cond_false]
 |k+1,m,hm,N,hN=>by
  cases N with
  |zero=>omega
  |succ N=>
   have hf:=h m (by omega)
   have ih:=any_from st p hR hE n h hend k (m+1) (by omega) N (by omega)
   rw[List.range'_succ,List.any_cons]
   cases hp:p m
   ·rw[hp] at hf
    rw[Bool.false_or,←ih]
    conv=>lhs; unfold iterL
    rw[hf]
    rfl
   ·rw[hp] at hf
    simp only[iterL,hf,cond_true,Bool.true_or]
theorem any_loop' {σ:Type} {f:σ→Option (LRes σ α)} {K:Nat→σ→Option α} (st:Nat→σ) (n:Nat) (p:Nat→Bool) {b:Nat} {y:σ} (R:Option α) (h:∀i,i<n→f (st i)=bif p i then finL R else some (.cont (st (i+1)))) (hend:f (st n)=some (.brk b y)) {N:Nat} (hN:n<N):afterL (iterL N f (st 0)) K=bif (List.range n).any p then R else K b y:=by
 rw[any_from st p (fin_not R) (brk_not b y) n h hend n 0 (by omega) N hN,←List.range_eq_range']
 cases (List.range n).any p
 ·rfl
 ·cases R<;>rfl
end
open Go.RowKit
namespace MulN
theorem maskN (a:Nat) (ha:a<18446744073709551616):bits .and .u64 (a:Int) 4294967295=((a % 4294967296:Nat):Int):=by
 have h:=bits_and_u64_nat a 4294967295 ha (by omega)
 have e:a &&& 4294967295=a % 4294967296:=Nat.and_two_pow_sub_one_eq_mod a 32
 rw[e] at h
 exact h
theorem divN (a:Nat):(a:Int) / 4294967296=((a / 4294967296:Nat):Int):=by omega
theorem mulN (a b:Nat):(a:Int)*(b:Int)=((a*b:Nat):Int):=(Int.natCast_mul a b).symm
theorem addN (a b:Nat):(a:Int)+(b:Int)=((a+b:Nat):Int):=(Int.natCast_add a b).symm
theorem wrapN (a:Nat) (ha:a<18446744073709551616):IntKind.u64.wrap (a:Int)=(a:Int):=by rw[IntKind.wrap_u64]; omega
theorem wrapM (a:Nat):IntKind.u64.wrap (a:Int)=((a % 18446744073709551616:Nat):Int):=by rw[IntKind.wrap_u64]; omega
end MulN
set_option maxHeartbeats 1000000 in
theorem mul64_nat (x y:Nat) (hx:x<18446744073709551616) (hy:y<18446744073709551616) (w:World) :
  Calls Tryz.prog 61 #[.int .u64 x,.int .u64 y] w fun e w'=>e=.returned (.tuple #[.int .u64 ((x*y / 18446744073709551616:Nat):Int),.int .u64 ((x*y % 18446744073709551616:Nat):Int)])∧w=w':=by
 obtain⟨bd,bt,bw,hhi⟩:=Lib.mul64_hi x y hx hy
 have ba:=Lib.half_mul_le (a:=x / 4294967296) (b:=y / 4294967296) (by omega) (by omega)
 have bb:=Lib.half_mul_le (a:=x / 4294967296) (b:=y % 4294967296) (by omega) (by omega)
 have bc:=Lib.half_mul_le (a:=x % 4294967296) (b:=y / 4294967296) (by omega) (by omega)
 have ba':x / 4294967296*(y / 4294967296)<18446744073709551616:=by omega
 have bb':x / 4294967296*(y % 4294967296)<18446744073709551616:=by omega
 have bc':x % 4294967296*(y / 4294967296)<18446744073709551616:=by omega
 have bh1:x / 4294967296*(y / 4294967296)+(x / 4294967296*(y % 4294967296)+x % 4294967296*(y % 4294967296) / 4294967296) / 4294967296<18446744073709551616:=by omega
 have bh:x / 4294967296*(y / 4294967296)+(x / 4294967296*(y % 4294967296)+x % 4294967296*(y % 4294967296) / 4294967296) / 4294967296+((x / 4294967296*(y % 4294967296)+x % 4294967296*(y % 4294967296) / 4294967296) % 4294967296+x % 4294967296*(y / 4294967296)) / 4294967296<18446744073709551616:=by omega
 go_enter Tryz.func61,Tryz.ntmps61
 go_wp2
 simp only[MulN.maskN x hx,MulN.maskN y hy,MulN.divN,MulN.mulN,MulN.addN,MulN.wrapN _ bd,MulN.wrapN _ bb',MulN.wrapN _ bt,MulN.maskN _ bt,MulN.wrapN _ bc',MulN.wrapN _ bw,MulN.wrapN _ ba',MulN.wrapN _ bh1,MulN.wrapN _ bh,MulN.wrapM (x*y)]
 rw[hhi]
 go_ret2
 exact⟨rfl,rfl⟩
def Word (x:Int):Prop:=0≤x∧x<18446744073709551616
theorem mul64 (x y:Int) (hx:Word x) (hy:Word y) (w:World) :
  Calls Tryz.prog 61 #[.int .u64 x,.int .u64 y] w fun e w'=>e=.returned (.tuple #[.int .u64 (x*y / 18446744073709551616),.int .u64 (x*y % 18446744073709551616)])∧w=w':=by
 obtain⟨h1,h2⟩:=hx; obtain⟨h3,h4⟩:=hy
 obtain⟨x,rfl⟩:=Int.eq_ofNat_of_zero_le h1
 obtain⟨y,rfl⟩:=Int.eq_ofNat_of_zero_le h3
 exact mul64_nat x y (by omega) (by omega) w
theorem add64 (x y c:Int) (hx:0≤x) (hy:0≤y) (hc0:0≤c) (hc:c≤1) (w:World):(callFunc 154 #[.int .u64 x,.int .u64 y,.int .u64 c]).run Tryz.prog w =
  .ok (.value (.tuple #[.int .u64 ((x+y+c) % 18446744073709551616),.int .u64 ((x+y+c) / 18446744073709551616)])) w:=by
 rw[run_callFunc_extern Tryz.func154 (by kernel_rfl) (by kernel_rfl) (by kernel_rfl) (e:=add64Entry) (by kernel_rfl),run_add64 x y c hx hy hc0 hc]
 rfl
theorem len8_idx (i:Int) (h0:0≤i) (h1:i≤255) (h:i.toNat<Lib.len8tab.size):((Lib.len8tab[i.toNat]'h).toNat:Int)=Lib.bitLen i.toNat:=by
 have e:=Lib.len8_eq ⟨i.toNat,by omega⟩
 simp only[Int.toNat_of_nonneg h0,Lib.len8,ByteArray.getElem?_lt' _ _ h,Option.getD_some] at e
 exact e
theorem len_fin (x i k:Int) (h0:0≤i) (h1:i≤255) (h:i.toNat<Lib.len8tab.size) (hk0:0≤k) (hk1:k≤56) (hk:(Lib.bitLen x.toNat:Int)=k+Lib.bitLen i.toNat) :
  wrap64 (k+wrap64 ((Lib.len8tab[i.toNat]'h).toNat:Int))=Lib.bitLen x.toNat:=by
 have l:=Lib.bitLen_le8' i h0 h1
 rw[len8_idx i h0 h1 h,hk]
 unfold wrap64
 omega
theorem len_fin0 (x:Int) (h0:0≤x) (h1:x≤255) (h:x.toNat<Lib.len8tab.size) :
  wrap64 (wrap64 ((Lib.len8tab[x.toNat]'h).toNat:Int))=Lib.bitLen x.toNat:=by
 have l:=Lib.bitLen_le8' x h0 h1
 rw[len8_idx x h0 h1 h]
 unfold wrap64
 omega
set_option maxHeartbeats 4000000 in
set_option maxRecDepth 100000 in
theorem len64 (x:Int) (w:World) (h0:0≤x) (h1:x≤18446744073709551615) :
  Calls Tryz.prog 151 #[.int .u64 x] w fun e w'=>e=.returned (.int .i64 (Lib.bitLen x.toNat))∧w=w':=by
 have hsz:=Lib.len8tab_size
 go_enter Tryz.func151,Tryz.ntmps151
 go_wp2
 all_goals (go_ret; refine⟨congrArg Ending.returned (congrArg (Value.int IntKind.i64) ?_),rfl⟩)
 all_goals first
  |exact len_fin x (x / 4294967296 / 65536 / 256) 56 (by omega) (by omega) _ (by omega) (by omega) (by have s:=Lib.bitLen_shift56 x.toNat (by omega) (by omega); have e:(x / 4294967296 / 65536 / 256).toNat=x.toNat / 72057594037927936:=(by omega); rw[e]; omega)
  |exact len_fin x (x / 4294967296 / 65536) 48 (by omega) (by omega) _ (by omega) (by omega) (by have s:=Lib.bitLen_shift48 x.toNat (by omega) (by omega); have e:(x / 4294967296 / 65536).toNat=x.toNat / 281474976710656:=(by omega); rw[e]; omega)
  |exact len_fin x (x / 4294967296 / 256) 40 (by omega) (by omega) _ (by omega) (by omega) (by have s:=Lib.bitLen_shift40 x.toNat (by omega) (by omega); have e:(x / 4294967296 / 256).toNat=x.toNat / 1099511627776:=(by omega); rw[e]; omega)
  |exact len_fin x (x / 4294967296) 32 (by omega) (by omega) _ (by omega) (by omega) (by have s:=Lib.bitLen_shift32 x.toNat (by omega) (by omega); have e:(x / 4294967296).toNat=x.toNat / 4294967296:=(by omega); rw[e]; omega)
  |exact len_fin x (x / 65536 / 256) 24 (by omega) (by omega) _ (by omega) (by omega) (by have s:=Lib.bitLen_shift24 x.toNat (by omega) (by omega); have e:(x / 65536 / 256).toNat=x.toNat / 16777216:=(by omega); rw[e]; omega)
  |exact len_fin x (x / 65536) 16 (by omega) (by omega) _ (by omega) (by omega) (by have s:=Lib.bitLen_shift16 x.toNat (by omega) (by omega); have e:(x / 65536).toNat=x.toNat / 65536:=(by omega); rw[e]; omega)
  |exact len_fin x (x / 256) 8 (by omega) (by omega) _ (by omega) (by omega) (by have s:=Lib.bitLen_shift8 x.toNat (by omega) (by omega); have e:(x / 256).toNat=x.toNat / 256:=(by omega); rw[e]; omega)
  |exact len_fin0 x (by omega) (by omega) _
theorem bitLen_spec:∀(f x:Nat),0<x→x<2^f→0<Lib.bitLenAux f x∧Lib.bitLenAux f x≤f∧2^(Lib.bitLenAux f x-1)≤x∧x<2^Lib.bitLenAux f x
 |0,x,h,hx=>by simp at hx; omega
 |f+1,x,h,hx=>by
  simp only[Lib.bitLenAux]
  rw[if_neg (by omega)]
  by_cases h2:x / 2=0
  ·have hx1:x=1:=by omega
   subst hx1
   cases f with
   |zero=>simp[Lib.bitLenAux]
   |succ f=>simp[Lib.bitLenAux]
  ·obtain⟨a,b,c,d⟩:=bitLen_spec f (x / 2) (by omega) (by rw[Nat.pow_succ] at hx; omega)
   generalize Lib.bitLenAux f (x / 2)=k at *
   obtain⟨j,rfl⟩:∃j,k=j+1:=⟨k-1,by omega⟩
   have e1:1+(j+1)=(j+1)+1:=by omega
   rw[e1,Nat.add_sub_cancel,Nat.pow_succ 2 (j+1),Nat.pow_succ 2 j] at *
   exact⟨by omega,by omega,by omega,by omega⟩
theorem lead_fin (n k:Nat) (b:k≤64) (a:0<k) (c:2^(k-1)≤n) (d:n<2^k):64-k≤63∧2^63≤n*2^(64-k)∧n*2^(64-k)<2^64:=by
 have p1:2^(k-1)*2^(64-k)=2^63:=by
  rw[←Nat.pow_add,show k-1+(64-k)=63 by omega]
 have p2:2^k*2^(64-k)=2^64:=by
  rw[←Nat.pow_add,show k+(64-k)=64 by omega]
 have q1:=Nat.mul_le_mul_right (2^(64-k)) c
 have q2:=Nat.mul_lt_mul_of_pos_right d (Nat.two_pow_pos (64-k))
 rw[p1] at q1
 rw[p2] at q2
 exact⟨by omega,q1,q2⟩
theorem lead64 (n:Nat) (w:World) (h0:0<n) (h1:n<18446744073709551616) :
  Calls Tryz.prog 167 #[.int .u64 n] w fun e w'=>(∃s:Nat,e=.returned (.int .i64 s)∧s≤63∧2^63≤n*2^s∧n*2^s<2^64)∧w=w':=by
 obtain⟨a,b,c,d⟩:=bitLen_spec 64 n h0 (by have:(2:Nat)^64=18446744073709551616:=by decide
                                          omega)
 have hf:=lead_fin n _ b a c d
 have hb:Lib.bitLen n≤64:=b
 have hs:(64-Lib.bitLen n:Int)=((64-Lib.bitLen n:Nat):Int):=by omega
 have hf':64-Lib.bitLen n≤63∧2^63≤n*2^(64-Lib.bitLen n)∧n*2^(64-Lib.bitLen n)<2^64:=hf
 clear a b c d hf
 go_enter Tryz.func167,Tryz.ntmps167
 go_wp2_with (go_at_call 151; refine (len64 _ _ (by omega) (by omega)).mono ?_; rintro e w' ⟨rfl,rfl⟩; rw[Int.toNat_natCast])
 go_ret
 exact⟨⟨_,rfl,hf'⟩,rfl⟩
end Go.Proofs.YtneedmplkodcjaaGreat
namespace Go.Proofs.YtneedmplkodcjaaGreat.NumA
theorem digit_low (u v q r y1 y0 n1:Nat) (hv:v=y1*4294967296+y0) (hi:q*y1+r=u) (hy0:y0<4294967296)
  (ht:(q<4294967296∧q*y0≤4294967296*r+n1)∨(4294967296≤r∧q≤4294967296)):q*v≤u*4294967296+n1:=by
 have e:q*v=(q*y1)*4294967296+q*y0:=by rw[hv,Nat.mul_add,Nat.mul_assoc]
 have e2:u*4294967296=(q*y1)*4294967296+r*4294967296:=by rw[←hi,Nat.add_mul]
 rw[e,e2]
 have h:q*y0≤r*4294967296+n1:=by
  rcases ht with ⟨_,h⟩|⟨h1,h2⟩
  ·rw[Nat.mul_comm r]; exact h
  ·have:=Nat.mul_le_mul h2 (Nat.le_of_lt hy0)
   have:=Nat.mul_le_mul_right 4294967296 h1
   omega
 omega
theorem digit_high (u v q n1:Nat) (h:u*4294967296+n1<q*v):(u*4294967296+n1) / v<q:=by
 have hv:0<v:=by
  rcases Nat.eq_zero_or_pos v with h0|h0
  ·subst h0; omega
  ·exact h0
 exact (Nat.div_lt_iff_lt_mul hv).2 h
theorem digit_more (u v q r y1 y0 n1:Nat) (hv:v=y1*4294967296+y0) (hi:q*y1+r=u) (hn:n1<4294967296) (hu:u<v)
  (ht:4294967296≤q∨4294967296*r+n1<q*y0):(u*4294967296+n1) / v<q:=by
 apply digit_high
 rcases ht with h|h
 ·have h1:=Nat.mul_le_mul_right v h
  have h2:(u+1)*4294967296≤v*4294967296:=Nat.mul_le_mul_right _ hu
  rw[Nat.mul_comm] at h1
  omega
 ·have e:q*v=(q*y1)*4294967296+q*y0:=by rw[hv,Nat.mul_add,Nat.mul_assoc]
  have e2:u*4294967296=(q*y1)*4294967296+r*4294967296:=by rw[←hi,Nat.add_mul]
  omega
theorem digit_is (u v q n1:Nat) (hl:q*v≤u*4294967296+n1) (hh:(u*4294967296+n1) / v≤q) (hv:0<v):q=(u*4294967296+n1) / v:=
 Nat.le_antisymm ((Nat.le_div_iff_mul_le hv).2 hl) hh
theorem first_high (u v y1 y0 n1:Nat) (hv:v=y1*4294967296+y0) (hy0:y0<4294967296) (hy1:2147483648≤y1) (hn:n1<4294967296) (hu:u<v) :
  (u*4294967296+n1) / v≤u / y1∧u / y1≤4294967297:=by
 have hy:0<y1:=by omega
 constructor
 ·have h:=Nat.lt_mul_div_succ u hy
  apply Nat.le_of_lt_succ
  apply digit_high
  rw[hv]
  have e:(u / y1+1)*(y1*4294967296+y0)=y1*(u / y1+1)*4294967296+(u / y1+1)*y0:=by
   rw[Nat.mul_add,←Nat.mul_assoc,Nat.mul_comm (u / y1+1) y1]
  show _<(u / y1+1)*_
  rw[e]
  have:(u+1)*4294967296≤y1*(u / y1+1)*4294967296:=Nat.mul_le_mul_right _ h
  omega
 ·apply Nat.le_of_lt_succ
  rw[Nat.div_lt_iff_lt_mul hy]
  omega
theorem rest_is (u v n1:Nat):u*4294967296+n1-(u*4294967296+n1) / v*v=(u*4294967296+n1) % v:=by
 have:=Nat.div_add_mod (u*4294967296+n1) v
 rw[Nat.mul_comm] at this
 omega
theorem digit_lt (u v n1:Nat) (hn:n1<4294967296) (hu:u<v):(u*4294967296+n1) / v<4294967296:=by
 rw[Nat.div_lt_iff_lt_mul (by omega)]
 have:=Nat.mul_le_mul_right 4294967296 hu
 rw[Nat.mul_comm 4294967296]
 omega
theorem two_digits_of (B u v n1 n0:Nat) (hv:0<v) :
  (u*(B*B)+(n1*B+n0)) / v=(u*B+n1) / v*B+((u*B+n1) % v*B+n0) / v ∧
  (u*(B*B)+(n1*B+n0)) % v=((u*B+n1) % v*B+n0) % v:=by
 have h:=Nat.div_add_mod (u*B+n1) v
 generalize (u*B+n1) / v=q at *
 generalize (u*B+n1) % v=r at *
 have e:u*(B*B)+(n1*B+n0)=v*(q*B)+(r*B+n0):=by
  have:(v*q+r)*B=(u*B+n1)*B:=by rw[h]
  rw[Nat.add_mul,Nat.add_mul,Nat.mul_assoc,Nat.mul_assoc] at this
  omega
 rw[e]
 exact⟨by rw[Nat.mul_add_div hv],by rw[Nat.mul_add_mod]⟩
theorem two_digits (u v n1 n0:Nat) (hv:0<v) :
  (u*18446744073709551616+(n1*4294967296+n0)) / v=(u*4294967296+n1) / v*4294967296+((u*4294967296+n1) % v*4294967296+n0) / v ∧
  (u*18446744073709551616+(n1*4294967296+n0)) % v=((u*4294967296+n1) % v*4294967296+n0) % v:=
 two_digits_of 4294967296 u v n1 n0 hv
theorem shifted (n y s:Nat):n*2^s / (y*2^s)=n / y∧n*2^s % (y*2^s) / 2^s=n % y:=by
 have h:0<2^s:=Nat.two_pow_pos s
 exact⟨Nat.mul_div_mul_right _ _ h,by rw[Nat.mul_mod_mul_right,Nat.mul_div_cancel _ h]⟩
def Dig (u v y1 n1 Q R:Nat):Prop:=Q*y1+R=u∧(u*4294967296+n1) / v≤Q∧Q≤4294967297∧R<4294967296
def DigAt (u v n1 Q:Nat):Prop:=Q=(u*4294967296+n1) / v
structure Norm (v y1 y0:Nat):Prop where
 eq:v=y1*4294967296+y0
 low:y0<4294967296
 high:2147483648≤y1
 top:y1<4294967296
theorem Dig.first {u v y1 y0 n1:Nat} (h:Norm v y1 y0) (hn:n1<4294967296) (hu:u<v):Dig u v y1 n1 (u / y1) (u-u / y1*y1):=by
 obtain⟨a,b⟩:=first_high u v y1 y0 n1 h.eq h.low h.high hn hu
 have e:=Nat.div_add_mod' u y1
 have m:=Nat.mod_lt u (show 0<y1 by have:=h.high; omega)
 have t:=h.top
 exact⟨by omega,a,b,by omega⟩
theorem Dig.done {u v y1 y0 n1 Q R:Nat} (h:Norm v y1 y0) (d:Dig u v y1 n1 Q R) (h1:Q<4294967296) (h2:Q*y0≤4294967296*R+n1):DigAt u v n1 Q:=by
 have hh:=h.high
 exact digit_is u v Q n1 (digit_low u v Q R y1 y0 n1 h.eq d.1 h.low (.inl ⟨h1,h2⟩)) d.2.1 (by rw[h.eq]; omega)
theorem Dig.less {u v y1 y0 n1 Q R:Nat} (h:Norm v y1 y0) (d:Dig u v y1 n1 Q R) (hn:n1<4294967296) (hu:u<v) (ht:4294967296≤Q∨4294967296*R+n1<Q*y0) :
  0<Q∧(R+y1<4294967296→Dig u v y1 n1 (Q-1) (R+y1))∧(4294967296≤R+y1→DigAt u v n1 (Q-1)):=by
 have hm:=digit_more u v Q R y1 y0 n1 h.eq d.1 hn hu ht
 obtain⟨d1,d2,d3,d4⟩:=d
 have hh:=h.high
 have hQ:0<Q:=Nat.lt_of_le_of_lt (Nat.zero_le _) hm
 generalize hg:(u*4294967296+n1) / v=g at *
 obtain⟨q,rfl⟩:∃q,Q=q+1:=⟨Q-1,by omega⟩
 rw[Nat.add_sub_cancel]
 rw[Nat.add_mul,Nat.one_mul] at d1
 refine⟨by omega,fun hr=>⟨by omega,by rw[hg]; omega,by omega,hr⟩,fun hr=>?_⟩
 exact digit_is u v q n1 (digit_low u v q (R+y1) y1 y0 n1 h.eq (by omega) h.low (.inr ⟨hr,by omega⟩)) (by rw[hg]; omega) (by rw[h.eq]; omega)
theorem DigAt.rest {u v n1 Q:Nat} (d:DigAt u v n1 Q) (hu:u<v) (hn:n1<4294967296) (hv:v<18446744073709551616) :
  Q<4294967296∧((((u:Int)*4294967296 % 18446744073709551616+n1) % 18446744073709551616-(Q:Int)*v % 18446744073709551616) % 18446744073709551616=(((u*4294967296+n1) % v:Nat):Int))∧(u*4294967296+n1) % v<v:=by
 have hl:=digit_lt u v n1 hn hu
 have hr:=rest_is u v n1
 have hm:=Nat.mod_lt (u*4294967296+n1) (show 0<v by omega)
 have hd:=Nat.div_mul_le_self (u*4294967296+n1) v
 unfold DigAt at d
 rw[←d] at hr hl hd
 refine⟨hl,?_,hm⟩
 generalize (u*4294967296+n1) % v=r at *
 have e:(Q:Int)*v=((Q*v:Nat):Int):=(Int.natCast_mul Q v).symm
 rw[e]
 generalize Q*v=k at *
 omega
end Go.Proofs.YtneedmplkodcjaaGreat.NumA
namespace Go.Proofs.YtneedmplkodcjaaGreat
open Go.RowKit NumA
theorem div64_small (lo y:Nat) (w:World) (h0:0<y) (hy:y<18446744073709551616) (hlo:lo<18446744073709551616) :
  Calls Tryz.prog 153 #[.int .u64 0,.int .u64 lo,.int .u64 y] w fun e w'=>e=.returned (.tuple #[.int .u64 ((lo / y:Nat):Int),.int .u64 ((lo % y:Nat):Int)])∧∃n,w'=w.drewN n:=by
 have h1:((y:Int)==0)=false:=by simp; omega
 have h2:¬(y:Int)≤0:=by omega
 have h3:¬(y:Int)=0:=by omega
 have hl:=Nat.div_le_self lo y
 have e:∀k:Int,k=((lo / y:Nat):Int)→IntKind.u64.wrap k=((lo / y:Nat):Int):=by
  intro k hk; rw[hk,IntKind.wrap_u64]; generalize lo / y=g at *; omega
 have e':=e (lo / y) (Int.natCast_ediv lo y).symm
 clear e
 go_enter Tryz.func153,Tryz.ntmps153
 go_wp2
 go_quiet (fail)
 go_wp2
 go_ret2
 exact⟨rfl,_,rfl⟩
theorem shl_u (y s:Nat) (h2:y*2^s<2^64):IntKind.u64.wrap ((y:Int)*2^s)=((y*2^s:Nat):Int):=by
 have e:(y:Int)*2^s=((y*2^s:Nat):Int):=by rw[Int.natCast_mul,Int.natCast_pow]; rfl
 have h2':y*2^s<18446744073709551616:=h2
 rw[e,IntKind.wrap_u64]
 generalize y*2^s=k at *
 omega
theorem shl_mod (y s:Nat):IntKind.u64.wrap ((y:Int)*2^s)=((y*2^s % 18446744073709551616:Nat):Int):=by
 have e:(y:Int)*2^s=((y*2^s:Nat):Int):=by rw[Int.natCast_mul,Int.natCast_pow]; rfl
 rw[e,IntKind.wrap_u64]
 generalize y*2^s=k at *
 omega
structure Setup (hi lo y s v y1 y0 u n1 n0:Nat):Prop where
 norm:Norm v y1 y0
 ltv:v<18446744073709551616
 ltu:u<v
 lt1:n1<4294967296
 lt0:n0<4294967296
 quo:(u*18446744073709551616+(n1*4294967296+n0)) / v=(hi*18446744073709551616+lo) / y
 rem:(u*18446744073709551616+(n1*4294967296+n0)) % v / 2^s=(hi*18446744073709551616+lo) % y
theorem set_up (hi lo y s:Nat) (hh:hi<y) (hlo:lo<18446744073709551616) (hs:s≤63) (h1:2^63≤y*2^s) (h2:y*2^s<2^64) :
  ∃v y1 y0 u n1 n0 n10:Nat,IntKind.u64.wrap ((y:Int)*2^s)=(v:Int)∧bits .and .u64 (v:Int) 4294967295=(y0:Int)∧(v:Int) / 4294967296=(y1:Int) ∧
   bits .or .u64 (IntKind.u64.wrap ((hi:Int)*2^s)) ((lo:Int) / 2^(64-s))=(u:Int)∧IntKind.u64.wrap ((lo:Int)*2^s)=(n10:Int) ∧
   bits .and .u64 (n10:Int) 4294967295=(n0:Int)∧(n10:Int) / 4294967296=(n1:Int)∧Setup hi lo y s v y1 y0 u n1 n0:=by
 have hP:0<2^s:=Nat.two_pow_pos s
 have hPQ:2^s*2^(64-s)=18446744073709551616:=by rw[←Nat.pow_add,show s+(64-s)=64 by omega]
 have hQ:0<2^(64-s):=Nat.two_pow_pos _
 have hhs:(hi+1)*2^s≤y*2^s:=Nat.mul_le_mul_right _ hh
 rw[Nat.add_mul,Nat.one_mul] at hhs
 have h2':y*2^s<18446744073709551616:=h2
 have h1':9223372036854775808≤y*2^s:=h1
 have hl1:lo / 2^(64-s)<2^s:=by
  rw[Nat.div_lt_iff_lt_mul hQ,hPQ]; exact hlo
 have hor:hi*2^s ||| lo / 2^(64-s)=hi*2^s+lo / 2^(64-s):=nat_join s _ _ (by simp) hl1
 have ehi:=shl_u hi s (by show _<18446744073709551616; omega)
 have elo:((lo:Int) / 2^(64-s))=((lo / 2^(64-s):Nat):Int):=by
  rw[Int.natCast_ediv,Int.natCast_pow]; rfl
 have hdm:=Nat.div_add_mod lo (2^(64-s))
 have hsplit:lo*2^s=lo / 2^(64-s)*18446744073709551616+lo*2^s % 18446744073709551616:=by
  have:lo*2^s / 18446744073709551616=lo / 2^(64-s):=by
   rw[←hPQ,Nat.mul_comm lo,Nat.mul_div_mul_left _ _ hP]
  have:=Nat.div_add_mod (lo*2^s) 18446744073709551616
  omega
 have hsh:=shifted (hi*18446744073709551616+lo) y s
 have hall:(hi*18446744073709551616+lo)*2^s=(hi*2^s+lo / 2^(64-s))*18446744073709551616+(lo*2^s % 18446744073709551616 / 4294967296*4294967296+lo*2^s % 18446744073709551616 % 4294967296):=by
  rw[Nat.add_mul,Nat.mul_right_comm]
  omega
 rw[hall] at hsh
 refine⟨y*2^s,y*2^s / 4294967296,y*2^s % 4294967296,hi*2^s+lo / 2^(64-s),lo*2^s % 18446744073709551616 / 4294967296,lo*2^s % 18446744073709551616 % 4294967296,lo*2^s % 18446744073709551616,
  shl_u y s h2,MulN.maskN _ h2',by omega,?_,shl_mod lo s,MulN.maskN _ (by omega),by omega,⟨⟨by omega,by omega,by omega,by omega⟩,h2',by omega,by omega,by omega,hsh.1,hsh.2⟩⟩
 rw[ehi,elo,bits_or_u64_nat _ _ (by omega) (by omega),hor]
theorem u64_mul (a b:Nat) (h:a*b<18446744073709551616):IntKind.u64.wrap ((a:Int)*b)=((a*b:Nat):Int):=by
 rw[IntKind.wrap_u64,←Int.natCast_mul]; omega
theorem dig_setup {u v y1 y0 n1:Nat} (h:Norm v y1 y0) (hn:n1<4294967296) (hu:u<v) (hv:v<18446744073709551616) :
  ∃q p r:Nat,(u:Int) / y1=(q:Int)∧IntKind.u64.wrap ((q:Int)*y1)=(p:Int)∧(u:Int)-p=(r:Int)∧p≤u∧q≤4294967297∧r<4294967296∧0<y1∧y1<4294967296∧u<18446744073709551616∧Dig u v y1 n1 q r:=by
 have d:=Dig.first h hn hu
 have e:=Nat.div_mul_le_self u y1
 have t:=h.high
 have t':=h.top
 refine⟨u / y1,u / y1*y1,u-u / y1*y1,(Int.natCast_ediv u y1).symm,u64_mul _ _ (by omega),by omega,e,d.2.2.1,d.2.2.2,by omega,t',by omega,d⟩
theorem dig_test {u v y1 y0 n1 Q R:Nat} (h:Norm v y1 y0) (d:Dig u v y1 n1 Q R) (hn:n1<4294967296) (hu:u<v) (ht:4294967296≤Q∨4294967296*R+n1<Q*y0) :
  0<Q∧R<4294967296∧(R+y1<4294967296→Dig u v y1 n1 (Q-1) (R+y1))∧(4294967296≤R+y1→DigAt u v n1 (Q-1)):=
 let ⟨a,b,c⟩:=d.less h hn hu ht; ⟨a,d.2.2.2,b,c⟩
theorem num_pred {Q:Nat} (h:(1:Int)≤(Q:Int)):Value.int .u64 ((Q:Int)-1)=.int .u64 ((Q-1:Nat):Int):=by
 have:(Q:Int)-1=((Q-1:Nat):Int):=by omega
 rw[this]
theorem num_add (a b:Nat):Value.int .u64 ((a:Int)+(b:Int))=.int .u64 ((a+b:Nat):Int):=by rw[Int.natCast_add]
theorem ret_u64s {a b c d:Int} (h1:a=c) (h2:b=d):Ending.returned (.tuple #[.int .u64 a,.int .u64 b])=.returned (.tuple #[.int .u64 c,.int .u64 d]):=by rw[h1,h2]
theorem dig_bools {Q R y0 n1:Nat} (h:4294967296≤Q∨4294967296*R+n1<Q*y0) (hy0:y0<4294967296) (hn:n1<4294967296) (hR:(R:Int)<4294967296) :
  ∃m:Nat,((Q:Int)<4294967296→IntKind.u64.wrap ((Q:Int)*y0)=(m:Int))∧(decide ((4294967296:Int)≤(Q:Int))=true ∨
   (decide ((4294967296:Int)≤(Q:Int))=false∧IntKind.u64.wrap ((Q:Int)*y0)=(m:Int)∧decide ((4294967296:Int)*R+n1<(m:Int))=true)):=by
 refine⟨Q*y0,?_,?_⟩
 ·intro hq
  exact u64_mul Q y0 (by have:=Nat.mul_le_mul (show Q≤4294967295 by omega) (show y0≤4294967295 by omega); omega)
 ·by_cases hq:4294967296≤Q
  ·left; simp only[decide_eq_true_eq]; omega
  ·right
   have hl:=Nat.mul_le_mul (show Q≤4294967295 by omega) (show y0≤4294967295 by omega)
   refine⟨by simp only[decide_eq_false_iff_not]; omega,u64_mul Q y0 (by omega),?_⟩
   rcases h with h|h
   ·omega
   ·simp only[decide_eq_true_eq]; omega
theorem dig_bools_no {Q R y0 n1:Nat} (h:¬(4294967296≤Q∨4294967296*R+n1<Q*y0)) (hy0:y0<4294967296) (hn:n1<4294967296) (hR:(R:Int)<4294967296) :
  decide ((4294967296:Int)≤(Q:Int))=false∧∃m:Nat,IntKind.u64.wrap ((Q:Int)*y0)=(m:Int)∧decide ((4294967296:Int)*R+n1<(m:Int))=false:=by
 have hl:=Nat.mul_le_mul (show Q≤4294967295 by omega) (show y0≤4294967295 by omega)
 refine⟨by simp only[decide_eq_false_iff_not]; omega,Q*y0,u64_mul Q y0 (by omega),?_⟩
 simp only[decide_eq_false_iff_not]; omega
theorem rest_w {u v n1 Q:Nat} (d:DigAt u v n1 Q) (hu:u<v) (hn:n1<4294967296) (hv:v<18446744073709551616) :
  ∃r:Nat,IntKind.u64.wrap (IntKind.u64.wrap (IntKind.u64.wrap ((u:Int)*4294967296)+n1)-IntKind.u64.wrap ((Q:Int)*v))=(r:Int)∧Hid (r=(u*4294967296+n1) % v)∧r<v∧Q<4294967296:=by
 obtain⟨a,b,c⟩:=d.rest hu hn hv
 exact⟨_,by simp only[IntKind.wrap_u64]; exact b,rfl,c,a⟩
theorem div_fin {hi lo y s v y1 y0 u n1 n0 q1 r1 q0 r0:Nat} (h:Setup hi lo y s v y1 y0 u n1 n0) (d1:DigAt u v n1 q1) (e1:r1=(u*4294967296+n1) % v)
  (d0:DigAt r1 v n0 q0) (e0:r0=(r1*4294967296+n0) % v):q1*4294967296+q0=(hi*18446744073709551616+lo) / y∧r0 / 2^s=(hi*18446744073709551616+lo) % y:=by
 obtain⟨a,b⟩:=two_digits u v n1 n0 (by have:=h.ltu; omega)
 unfold DigAt at d1 d0
 rw[←h.quo,←h.rem,a,b,←e1,←d1,←e0,←d0]
 exact⟨rfl,rfl⟩
set_option maxHeartbeats 2000000 in
set_option maxRecDepth 100000 in
theorem div64_big (hi lo y:Nat) (w:World) (h0:0<hi) (hh:hi<y) (hy:y<18446744073709551616) (hlo:lo<18446744073709551616) :
  Calls Tryz.prog 153 #[.int .u64 hi,.int .u64 lo,.int .u64 y] w fun e w'=>e=.returned (.tuple #[.int .u64 (((hi*18446744073709551616+lo) / y:Nat):Int),.int .u64 (((hi*18446744073709551616+lo) % y:Nat):Int)])∧w=w':=by
 have h1:((y:Int)==0)=false:=by simp; omega
 have h2:¬(y:Int)≤hi:=by omega
 have h3:((hi:Int)==0)=false:=by simp; omega
 go_enter Tryz.func153,Tryz.ntmps153
 go_upto_block 0 with (go_at_call 167; refine (lead64 y _ (by omega) hy).mono ?_; rintro e w' ⟨⟨s,rfl,hs,hs1,hs2⟩,rfl⟩; obtain⟨v,y1,y0,u,n1,n0,n10,e1,e2,e3,e4,e5,e6,e7,hset⟩:=set_up hi lo y s hh hlo hs hs1 hs2; obtain⟨q,p,r,e8,e9,e10,hp,hq,hr,hy1,hy2,hu,hd⟩:=dig_setup hset.norm hset.lt1 hset.ltu hset.ltv)
 have hn1:=hset.lt1
 have hn0:=hset.lt0
 have hy0:=hset.norm.low
 have hv:=hset.ltv
 have hs':(s:Int)≤63:=by omega
 clear e1 e2 e3 e4 e5 e6 e7 e8 e9 e10 hs1 hs2 h1 h2 h3
 go_cut [15,16] (fun s15 s16 wx=>∃Q:Nat,s15=.int .u64 Q∧DigAt u v n1 Q∧w=wx)
 case first=>
  go_wp2_with fail
  go_loop [15,16] (fun s15 s16=>∃Q R:Nat,s15=.int .u64 Q∧s16=.int .u64 R∧Dig u v y1 n1 Q R) (fun s15 _=>(intOf s15).toNat)
  case atStart=>exact⟨q,r,rfl,rfl,hd⟩
  case round=>
   obtain⟨Q,R,rfl,rfl,hdig⟩:=hrel
   have hqi:(Q:Int)≤4294967297:=by have:=hdig.2.2.1; omega
   have hR:(R:Int)<4294967296:=by have:=hdig.2.2.2; omega
   by_cases hb:4294967296≤Q∨4294967296*R+n1<Q*y0
   ·obtain⟨g0,-,g1,g2⟩:=dig_test hset.norm hdig hn1 hset.ltu hb
    have hg0:(1:Int)≤(Q:Int):=by omega
    have ⟨m,hm,ht⟩:=dig_bools hb hy0 hn1 hR
    by_cases hc:R+y1<4294967296
    ·have g:=g1 hc
     have hcd:decide ((4294967296:Int)≤(R:Int)+(y1:Int))=false:=by simp only[decide_eq_false_iff_not]; omega
     clear g1 g2 hdig hb hc
     rcases ht with ht|⟨ht,ht'⟩
     all_goals
      go_wp2_with fail
      go_round
      case rel=>exact⟨Q-1,R+y1,num_pred hg0,num_add R y1,g⟩
      case measure=>simp[intOf]; omega
    ·have g:=g2 (by omega)
     have hcd:decide ((4294967296:Int)≤(R:Int)+(y1:Int))=true:=by simp only[decide_eq_true_eq]; omega
     clear g1 g2 hdig hb hc
     rcases ht with ht|⟨ht,ht'⟩
     all_goals
      go_wp2_with fail
      go_meet
      exact⟨Q-1,num_pred hg0,g,rfl⟩
   ·obtain⟨ht,m,hm,ht'⟩:=dig_bools_no hb hy0 hn1 hR
    have g:DigAt u v n1 Q:=hdig.done hset.norm (by omega) (by omega)
    clear hdig hb
    go_wp2_with fail
    go_meet
    exact⟨Q,rfl,g,rfl⟩
 case rest=>
  obtain⟨Q1,rfl,d1,rfl⟩:=hcut
  obtain⟨r1,e1,hr1,hv1,hQ1⟩:=rest_w d1 hset.ltu hn1 hv
  obtain⟨q',p',r',e8,e9,e10,hp',hq',hr',-,-,hu',hd'⟩:=dig_setup hset.norm hn0 hv1 hv
  go_upto_block 2 with fail
  clear e1 e8 e9 e10
  go_cut [16,18] (fun s16 s18 wx=>∃Q:Nat,s18=.int .u64 Q∧DigAt r1 v n0 Q∧w=wx)
  case first=>
   go_wp2_with fail
   go_loop [16,18] (fun s16 s18=>∃Q R:Nat,s18=.int .u64 Q∧s16=.int .u64 R∧Dig r1 v y1 n0 Q R) (fun _ s18=>(intOf s18).toNat)
   case atStart=>exact⟨q',r',rfl,rfl,hd'⟩
   case round=>
    obtain⟨Q,R,rfl,rfl,hdig⟩:=hrel
    have hqi:(Q:Int)≤4294967297:=by have:=hdig.2.2.1; omega
    have hR:(R:Int)<4294967296:=by have:=hdig.2.2.2; omega
    by_cases hb:4294967296≤Q∨4294967296*R+n0<Q*y0
    ·obtain⟨g0,-,g1,g2⟩:=dig_test hset.norm hdig hn0 hv1 hb
     have hg0:(1:Int)≤(Q:Int):=by omega
     have ⟨m,hm,ht⟩:=dig_bools hb hy0 hn0 hR
     by_cases hc:R+y1<4294967296
     ·have g:=g1 hc
      have hcd:decide ((4294967296:Int)≤(R:Int)+(y1:Int))=false:=by simp only[decide_eq_false_iff_not]; omega
      clear g1 g2 hdig hb hc
      rcases ht with ht|⟨ht,ht'⟩
      all_goals
       go_wp2_with fail
       go_round
       case rel=>exact⟨Q-1,R+y1,num_pred hg0,num_add R y1,g⟩
       case measure=>simp[intOf]; omega
     ·have g:=g2 (by omega)
      have hcd:decide ((4294967296:Int)≤(R:Int)+(y1:Int))=true:=by simp only[decide_eq_true_eq]; omega
      clear g1 g2 hdig hb hc
      rcases ht with ht|⟨ht,ht'⟩
      all_goals
       go_wp2_with fail
       go_meet
       exact⟨Q-1,num_pred hg0,g,rfl⟩
    ·obtain⟨ht,m,hm,ht'⟩:=dig_bools_no hb hy0 hn0 hR
     have g:DigAt r1 v n0 Q:=hdig.done hset.norm (by omega) (by omega)
     clear hdig hb
     go_wp2_with fail
     go_meet
     exact⟨Q,rfl,g,rfl⟩
  case rest=>
   obtain⟨Q0,rfl,d0,rfl⟩:=hcut
   obtain⟨r0,e1,hr0,hv0,hQ0⟩:=rest_w d0 hv1 hn0 hv
   have hQ1':(Q1:Int)<4294967296:=by omega
   have hQ0':(Q0:Int)<4294967296:=by omega
   go_wp2_with fail
   go_ret2
   obtain⟨f1,f2⟩:=div_fin hset d1 hr1.out d0 hr0.out
   refine⟨?_,rfl⟩
   rw[←f1,←f2]
   exact ret_u64s (by omega) (by rw[Int.natCast_ediv,Int.natCast_pow]; rfl)
theorem div64 (hi lo y:Nat) (w:World) (hh:hi<y) (hy:y<18446744073709551616) (hlo:lo<18446744073709551616) :
  Calls Tryz.prog 153 #[.int .u64 hi,.int .u64 lo,.int .u64 y] w fun e w'=>e=.returned (.tuple #[.int .u64 (((hi*18446744073709551616+lo) / y:Nat):Int),.int .u64 (((hi*18446744073709551616+lo) % y:Nat):Int)])∧∃n,w'=w.drewN n:=by
 rcases Nat.eq_zero_or_pos hi with h|h
 ·subst h
  rw[Nat.zero_mul,Nat.zero_add]
  exact div64_small lo y w hh hy hlo
 ·exact (div64_big hi lo y w h hh hy hlo).mono fun e w' ⟨h1,h2⟩=>⟨h1,0,by rw[←h2]; rfl⟩
def hiW (n:Int):Int:=n / 18446744073709551616
def loW (n:Int):Int:=n % 18446744073709551616
theorem hiW_word {n:Int} (h0:0≤n) (h1:n<340282366920938463463374607431768211456):Word (hiW n):=by unfold Word hiW; omega
theorem loW_word (n:Int):Word (loW n):=by unfold Word loW; omega
theorem hiW_loW (n:Int):hiW n*18446744073709551616+loW n=n:=by unfold hiW loW; omega
abbrev wideV (h l:Int):Value:=.agg #[.int .u64 h,.int .u64 l]
theorem product_c (x y:Int) (w:World) (hx:Word x) (hy:Word y) :
  Calls Tryz.prog 30 #[.int .u64 x,.int .u64 y] w fun e w'=>e=.returned (wideV (hiW (x*y)) (loW (x*y)))∧Below w.heap.size w w':=by
 go_enter Tryz.func30,Tryz.ntmps30
 go_wp2_with (go_at_call 61; refine (mul64 _ _ hx hy _).mono ?_; rintro e w' ⟨rfl,rfl⟩)
 exact bodyPost_ret (v:=wideV (hiW (x*y)) (loW (x*y))) (by simp[results,Tryz.results30,go_sem,hiW,loW]) rfl ⟨rfl,(Below.refl _ _).alloc (Nat.le_refl _) _⟩
def cmpI (a b:Int):Int:=if a<b then -1 else if b<a then 1 else 0
theorem isNaN_c (x:Int) (w:World):Calls Tryz.prog 119 #[.int .u64 x] w fun e w'=>e=.returned (.bool false)∧w=w':=by
 go_enter Tryz.func119,Tryz.ntmps119
 go_wp2
 go_ret
 exact⟨by simp,rfl⟩
theorem compare_c (x y:Int) (w:World):Calls Tryz.prog 89 #[.int .u64 x,.int .u64 y] w fun e w'=>e=.returned (.int .i64 (cmpI x y))∧w=w':=by
 unfold cmpI
 go_enter Tryz.func89,Tryz.ntmps89
 go_wp2_with (go_at_call 119; refine (isNaN_c _ _).mono ?_; rintro e w' ⟨rfl,rfl⟩)
 all_goals (go_ret; exact⟨by simp[*],rfl⟩)
def orI (x y:Int):Int:=if x=0 then y else x
theorem or_c (x y:Int) (b:Nat) (w:World) (h0:w.cell? ⟨b,0,none⟩=some (.int .i64 x)) (h1:w.cell? ⟨b,1,none⟩=some (.int .i64 y)) :
  Calls Tryz.prog 88 #[.slice (some ⟨b,0,none⟩) 2 2] w fun e w'=>e=.returned (.int .i64 (orI x y))∧w=w':=by
 unfold orI
 go_enter Tryz.func88,Tryz.ntmps88
 go_wp2
 go_loop [5,8] (fun _ i=>i=.int .i64 0∨(i=.int .i64 1∧x=0)∨(i=.int .i64 2∧x=0∧y=0)) (fun _ i=>(2-intOf i).toNat)
 case atStart=>exact .inl rfl
 case round=>
  rcases hrel with rfl|⟨rfl,rfl⟩|⟨rfl,rfl,rfl⟩
  ·by_cases hx:x=0
   ·subst hx
    go_wp2
    go_round
    case rel=>simp
    case measure=>simp[intOf]
   ·have hxb:(x != 0)=true:=by simpa using hx
    go_wp2
    go_ret
    exact⟨by simp[hx],rfl⟩
  ·by_cases hy:y=0
   ·subst hy
    go_wp2
    go_round
    case rel=>simp
    case measure=>simp[intOf]
   ·have hxb:(y != 0)=true:=by simpa using hy
    go_wp2
    go_ret
    exact⟨by simp,rfl⟩
  ·go_wp2
   go_ret
   exact⟨by simp,rfl⟩
set_option maxHeartbeats 1000000 in
theorem wcompare_c (a b c d:Int) (w:World) :
  Calls Tryz.prog 59 #[wideV a b,wideV c d] w fun e w'=>e=.returned (.int .i64 (orI (cmpI a c) (cmpI b d)))∧Below w.heap.size w w':=by
 go_enter Tryz.func59,Tryz.ntmps59
 go_wp2_with fail
 go_region_held3 (fun w'=>w'.cell? ⟨w.heap.size,0,none⟩=some (.int .u64 a)∧w'.cell? ⟨w.heap.size,1,none⟩=some (.int .u64 b)∧w'.cell? ⟨w.heap.size+1,0,none⟩=some (.int .u64 c)∧w'.cell? ⟨w.heap.size+1,1,none⟩=some (.int .u64 d)) (simp[go_sem,World.cell?_alloc_past])
  (first
   |(go_at_call_of 89 (Value.int .u64 a); refine (compare_c a c _).mono ?_; rintro e w' ⟨rfl,rfl⟩)
   |(go_at_call_of 89 (Value.int .u64 b); refine (compare_c b d _).mono ?_; rintro e w' ⟨rfl,rfl⟩)
   |(go_at_call 88; refine (or_c (cmpI a c) (cmpI b d) (w.heap.size+2) _ (by simp[go_sem]) (by simp[go_sem])).mono ?_; rintro e w' ⟨rfl,rfl⟩))
 go_wp2
 go_ret
 refine⟨rfl,?_⟩
 exact ((((Below.refl _ _).alloc (Nat.le_refl _) _).alloc (by simp) _).alloc (by simp; omega) _).drew
def quoI (h l b:Int):Int:=(h*18446744073709551616+l) / b
def remI (h l b:Int):Int:=(h*18446744073709551616+l) % b
theorem div64_i (h l b:Int) (w:World) (hh:0≤h) (hl:Word l) (hb:b<18446744073709551616) (hlt:h<b) :
  Calls Tryz.prog 153 #[.int .u64 h,.int .u64 l,.int .u64 b] w fun e w'=>e=.returned (.tuple #[.int .u64 (quoI h l b),.int .u64 (remI h l b)])∧∃n,w'=w.drewN n:=by
 obtain⟨l1,l2⟩:=hl
 obtain⟨h,rfl⟩:=Int.eq_ofNat_of_zero_le hh
 obtain⟨l,rfl⟩:=Int.eq_ofNat_of_zero_le l1
 obtain⟨b,rfl⟩:=Int.eq_ofNat_of_zero_le (show 0≤b by omega)
 have e1:quoI (h:Int) l b=(((h*18446744073709551616+l) / b:Nat):Int):=by unfold quoI; rw[Int.natCast_ediv,Int.natCast_add,Int.natCast_mul]; rfl
 have e2:remI (h:Int) l b=(((h*18446744073709551616+l) % b:Nat):Int):=by unfold remI; rw[Int.natCast_emod,Int.natCast_add,Int.natCast_mul]; rfl
 rw[e1,e2]
 exact div64 h l b w (by omega) (by omega) (by omega)
theorem over_yes (h l b:Int) (w:World) (hh:0≤h) (hl:Word l) (hb:b<18446744073709551616) (hlt:h<b) :
  Calls Tryz.prog 121 #[wideV h l,.int .u64 b] w fun e w'=>e=.returned (.tuple #[.int .u64 (quoI h l b),.int .u64 (remI h l b),.bool true])∧Below w.heap.size w w':=by
 have hd:decide ((b:Int)≤(h:Int))=false:=by simp only[decide_eq_false_iff_not]; omega
 go_enter Tryz.func121,Tryz.ntmps121
 go_wp2_with (go_at_call 153; refine (div64_i h l b _ hh hl hb hlt).mono ?_; rintro e w' ⟨rfl,n,rfl⟩)
 go_ret3
 exact⟨rfl,((Below.refl _ _).alloc (Nat.le_refl _) _).trans ⟨rfl,rfl,rfl,Nat.le_refl _,fun _ _=>rfl⟩⟩
theorem over_no (h l b:Int) (w:World) (hlt:b≤h) :
  Calls Tryz.prog 121 #[wideV h l,.int .u64 b] w fun e w'=>e=.returned (.tuple #[.int .u64 0,.int .u64 0,.bool false])∧Below w.heap.size w w':=by
 have hd:decide ((b:Int)≤(h:Int))=true:=by simp only[decide_eq_true_eq]; omega
 go_enter Tryz.func121,Tryz.ntmps121
 go_wp2_with fail
 go_ret3
 exact⟨rfl,(Below.refl _ _).alloc (Nat.le_refl _) _⟩
end Go.Proofs.YtneedmplkodcjaaGreat
namespace Go.Proofs.YtneedmplkodcjaaGreat
open Go.RowKit
theorem fsp_walkS {P:Program} {f:FuncId} {S:Fsp} (hn:∀(α:Type) args (k:AOut→Option α),S α args k=(S AOut args some).bind k) (hen:∀args w,(callFunc f args).run P w=.ok (.enter f args) w)
  (h:∀args out,S AOut args some=some out→args.all AVal.p1=true∧out.plain=true∧∀w,Calls P f (args.map AVal.v1).toArray w fun e w'=>e=out.ending∧Below w.heap.size w w'):FspOk P f S where
 enter:=hen
 nat:=hn
 calls:=fun args out hout M w cargs hM hl hr=>by
  obtain⟨h1,h2,h3⟩:=h args out hout
  rw[reps_p1 hl hr h1]
  refine (h3 w).mono ?_
  rintro e w' ⟨rfl,hb⟩
  refine⟨M,fun _ h=>h,fun _ h=>.inl h,fun b h=>Nat.lt_of_lt_of_le (hM b h) hb.size,hb,?_⟩
  cases out with
  |ret v=>exact⟨_,rfl,rep_v2 h2⟩
  |pan v=>exact⟨_,rfl,rep_v2 h2⟩
def wB (x:Int):Bool:=decide (0≤x)&&decide (x<18446744073709551616)
theorem wB_iff {x:Int}:wB x=true↔Word x:=by simp[wB,Word]
def mul64S:Fsp:=fun _ args k=>match args with
 | [.int .u64 x,.int .u64 y]=>bif wB x&&wB y then k (.ret (.tup [uN (hiW (x*y)),uN (loW (x*y))])) else none
 |_=>none
theorem mul64S_ok:FspOk Tryz.prog 61 mul64S:=fsp_walkS (by intro α args k; unfold mul64S; split<;>simp only[cond_bind,Option.bind_some,Option.bind_none]) (fun args w=>by kernel_rfl) fun args out h=>by
 unfold mul64S at h
 split at h
 ·rename_i x y
  cases hw:wB x&&wB y
  ·rw[hw] at h; cases h
  ·rw[hw] at h; cases h
   simp only[Bool.and_eq_true,wB_iff] at hw
   refine⟨rfl,rfl,fun w=>(mul64 x y hw.1 hw.2 w).mono ?_⟩
   rintro e w' ⟨rfl,rfl⟩
   exact⟨rfl,Below.refl _ _⟩
 ·cases h
def prodS:Fsp:=fun _ args k=>match args with
 | [.int .u64 x,.int .u64 y]=>bif wB x&&wB y then k (.ret (.agg [uN (hiW (x*y)),uN (loW (x*y))])) else none
 |_=>none
theorem prodS_ok:FspOk Tryz.prog 30 prodS:=fsp_walkS (by intro α args k; unfold prodS; split<;>simp only[cond_bind,Option.bind_some,Option.bind_none]) (fun args w=>by kernel_rfl) fun args out h=>by
 unfold prodS at h
 split at h
 ·rename_i x y
  cases hw:wB x&&wB y
  ·rw[hw] at h; cases h
  ·rw[hw] at h; cases h
   simp only[Bool.and_eq_true,wB_iff] at hw
   refine⟨rfl,rfl,fun w=>(product_c x y w hw.1 hw.2).mono ?_⟩
   rintro e w' ⟨rfl,hb⟩
   exact⟨rfl,hb⟩
 ·cases h
def cmpWS:Fsp:=fun _ args k=>match args with
 | [.agg [.int .u64 a,.int .u64 b],.agg [.int .u64 c,.int .u64 d]]=>k (.ret (.int .i64 (orI (cmpI a c) (cmpI b d))))
 |_=>none
theorem cmpWS_ok:FspOk Tryz.prog 59 cmpWS:=fsp_walkS (by intro α args k; unfold cmpWS; split<;>rfl) (fun args w=>by kernel_rfl) fun args out h=>by
 unfold cmpWS at h
 split at h
 ·rename_i a b c d
  cases h
  refine⟨rfl,rfl,fun w=>(wcompare_c a b c d w).mono ?_⟩
  rintro e w' ⟨rfl,hb⟩
  exact⟨rfl,hb⟩
 ·cases h
def overS:Fsp:=fun _ args k=>match args with
 | [.agg [.int .u64 h,.int .u64 l],.int .u64 d]=>bif wB h&&wB l&&wB d then (bif decide (d≤h) then k (.ret (.tup [uN 0,uN 0,bN false])) else k (.ret (.tup [uN (quoI h l d),uN (remI h l d),bN true]))) else none
 |_=>none
theorem overS_ok:FspOk Tryz.prog 121 overS:=fsp_walkS (by intro α args k; unfold overS; split<;>simp only[cond_bind,Option.bind_some,Option.bind_none]) (fun args w=>by kernel_rfl) fun args out h=>by
 unfold overS at h
 split at h
 ·rename_i x y d
  cases hw:wB x&&wB y&&wB d
  ·rw[hw] at h; cases h
  ·rw[hw] at h
   simp only[Bool.and_eq_true,wB_iff] at hw
   by_cases hd:d≤x
   ·rw[decide_eq_true hd] at h; cases h
    refine⟨rfl,rfl,fun w=>(over_no x y d w hd).mono ?_⟩
    rintro e w' ⟨rfl,hb⟩
    exact⟨rfl,hb⟩
   ·rw[decide_eq_false hd] at h; cases h
    refine⟨rfl,rfl,fun w=>(over_yes x y d w hw.1.1.1 hw.1.2 hw.2.2 (by omega)).mono ?_⟩
    rintro e w' ⟨rfl,hb⟩
    exact⟨rfl,hb⟩
 ·cases h
def add64E:Fsp:=fun _ args k=>match args with
 | [.int .u64 x,.int .u64 y,.int .u64 c]=>bif wB x&&wB y&&(decide (0≤c)&&decide (c≤1)) then k (.ret (.tup [uN ((x+y+c) % 18446744073709551616),uN ((x+y+c) / 18446744073709551616)])) else none
 |_=>none
theorem add64E_at (cv:Cv) (h:CvOk Tryz.prog cv) (caps:List AVal):CvAt Tryz.prog (extS add64E cv) (.fn 154 caps):=ext_at (by intro α args k; unfold add64E; split<;>simp only[cond_bind,Option.bind_some,Option.bind_none]) (fun args r h=>by
 unfold add64E at h
 split at h
 ·rename_i x y c
  cases hw:wB x&&wB y&&(decide (0≤c)&&decide (c≤1))
  ·rw[hw] at h; cases h
  ·rw[hw] at h; cases h
   simp only[Bool.and_eq_true,wB_iff,decide_eq_true_eq] at hw
   exact⟨_,rfl,⟨_,rfl,fun f cs=>by simp⟩,rfl,rfl,fun w=>add64 x y c hw.1.1.1 hw.1.2.1 hw.2.1 hw.2.2 w⟩
 ·cases h) cv h caps
noncomputable def spA:FuncId→Option (Cv→Cv):=fun g=>if g=154 then some (extS add64E) else
 none
theorem spA_ok:SpOk spA:=sp_cons add64E_at <|
 sp_nil
def fsA:FuncId→Option Fsp:=fun g=>if g=61 then some mul64S else
 if g=30 then some prodS else
 if g=59 then some cmpWS else
 if g=121 then some overS else
 none
theorem fsA_ok:FsOk fsA:=fs_cons mul64S_ok <|
 fs_cons prodS_ok <|
 fs_cons cmpWS_ok <|
 fs_cons overS_ok <|
 fs_nil
theorem i64w (n:Int) (h:-9223372036854775808≤n∧n≤9223372036854775807):IntKind.i64.wrap n=n:=by rw[IntKind.wrap_i64]; omega
theorem u64w (n:Int) (h:0≤n∧n≤18446744073709551615):IntKind.u64.wrap n=n:=by rw[IntKind.wrap_u64]; omega
def vw (h l:Int):Int:=h*18446744073709551616+l
theorem vw_hl (n:Int):vw (hiW n) (loW n)=n:=hiW_loW n
def i6 (x:Int):Bool:=decide (-9223372036854775808≤x)&&decide (x≤9223372036854775807)
theorem i6_iff {x:Int}:i6 x=true↔-9223372036854775808≤x∧x≤9223372036854775807:=by simp[i6]
theorem i6_ok {x:Int} (h:okB x=true):i6 x=true:=by rw[ok_iff] at h; rw[i6_iff]; omega
theorem wB_ab {x:Int} (h:i6 x=true):wB (ab x)=true:=by rw[i6_iff] at h; rw[wB_iff]; unfold Word ab; split<;>omega
theorem hi_wB {n:Int} (h:0≤n∧n<340282366920938463463374607431768211456):wB (hiW n)=true:=wB_iff.2 (hiW_word h.1 h.2)
theorem lo_wB (n:Int):wB (loW n)=true:=wB_iff.2 (loW_word n)
def sizeS:Fsp:=fun _ args k=>match args with
 | [.int .i64 x]=>bif i6 x then k (.ret (.int .u64 (ab x))) else none
 |_=>none
theorem size_plain {α:Type} (x:Int) (hx:i6 x=true) (k:AOut→Option α):(bif decide (x<0) then k (AOut.ret (AVal.int IntKind.u64 (IntKind.u64.wrap (0-IntKind.u64.wrap x)))) else k (AOut.ret (AVal.int IntKind.u64 (IntKind.u64.wrap x))))=k (.ret (.int .u64 (ab x))):=by
 rw[i6_iff] at hx
 unfold ab
 by_cases h:x<0
 ·rw[decide_eq_true h,if_pos h,cond_true,IntKind.wrap_u64,IntKind.wrap_u64]
  congr 3; omega
 ·rw[decide_eq_false h,if_neg h,cond_false,u64w _ (by omega)]
theorem size_text (N n:Nat) (α:Type) (x:Int) (k:AOut→Option α):evFn real tab ((twT fsA spA).env real tab N n) N Tryz.f99 α [iN x] k =
 bif decide (x<0) then k (AOut.ret (AVal.int IntKind.u64 (IntKind.u64.wrap (0-IntKind.u64.wrap x)))) else k (AOut.ret (AVal.int IntKind.u64 (IntKind.u64.wrap x))):=by
 kernel_rfl
theorem sizeS_ok:FspOk Tryz.prog 99 sizeS:=tower_S fsA_ok spA_ok ⟨Tryz.func99,fun _ _=>by kernel_rfl⟩ (by intro α args k; unfold sizeS; split<;>simp only[cond_bind,Option.bind_some,Option.bind_none]) fun args out hs h=>by
 unfold sizeS at h
 split at h
 ·rename_i x
  cases hx:i6 x
  ·rw[hx] at h; cases h
  ·rw[hx] at h; exact⟨1,1,(size_text 1 1 AOut x some).trans ((size_plain x hx some).trans h)⟩
 ·cases h
theorem isize_text (N n:Nat) (α:Type) (x:Int) (k:AOut→Option α):evFn real tab ((twT fsA spA).env real tab N n) N Tryz.f100 α [iN x] k =
 bif decide (x<0) then k (AOut.ret (AVal.int IntKind.u64 (IntKind.u64.wrap (0-IntKind.u64.wrap x)))) else k (AOut.ret (AVal.int IntKind.u64 (IntKind.u64.wrap x))):=by
 kernel_rfl
theorem isizeS_ok:FspOk Tryz.prog 100 sizeS:=tower_S fsA_ok spA_ok ⟨Tryz.func100,fun _ _=>by kernel_rfl⟩ (by intro α args k; unfold sizeS; split<;>simp only[cond_bind,Option.bind_some,Option.bind_none]) fun args out hs h=>by
 unfold sizeS at h
 split at h
 ·rename_i x
  cases hx:i6 x
  ·rw[hx] at h; cases h
  ·rw[hx] at h; exact⟨1,1,(isize_text 1 1 AOut x some).trans ((size_plain x hx some).trans h)⟩
 ·cases h
def signedS:Fsp:=fun _ args k=>match args with
 | [.int .u64 n,.bool neg]=>bif wB n then (bif fxB n then k (i1 (sg neg n)) else k (mis fxm 4)) else none
 |_=>none
theorem signed_fin {n:Int} (neg:Bool) (h0:0≤n) (h1:n≤70368744177664) {α:Type} (k:AOut→Option α):(bif neg then k (AOut.ret (AVal.int IntKind.i64 (IntKind.i64.wrap (0-IntKind.i64.wrap n)))) else k (AOut.ret (AVal.int IntKind.i64 (IntKind.i64.wrap n))))=k (i1 (sg neg n)):=by
 cases neg
 ·rw[cond_false,i64w _ (by omega)]; rfl
 ·rw[cond_true,i64w n (by omega),i64w _ (by omega),Int.zero_sub]; rfl
theorem signed_text (N n:Nat) (α:Type) (x:Int) (b:Bool) (k:AOut→Option α):evFn real tab ((twT fsA spA).env real tab N (n+1)) N Tryz.f60 α [uN x,.bool b] k =
 bif !decide (x≤70368744177664) then k (mis fxm 4) else bif b then k (AOut.ret (AVal.int IntKind.i64 (IntKind.i64.wrap (0-IntKind.i64.wrap x)))) else k (AOut.ret (AVal.int
 IntKind.i64 (IntKind.i64.wrap x))):=by kernel_rfl
theorem signedS_ok:FspOk Tryz.prog 60 signedS:=tower_S fsA_ok spA_ok ⟨Tryz.func60,fun _ _=>by kernel_rfl⟩ (by intro α args k; unfold signedS; split<;>simp only[cond_bind,Option.bind_some,Option.bind_none]) fun args out hs h=>by
 unfold signedS at h
 split at h
 ·rename_i x b
  cases hx:wB x
  ·rw[hx] at h; cases h
  ·rw[hx] at h
   rw[wB_iff] at hx
   refine⟨1,2,(signed_text 1 1 AOut x b some).trans ?_⟩
   rw[cond_true] at h
   rw[←h]
   unfold fxB
   by_cases hd:x≤70368744177664
   ·rw[decide_eq_true hd,Bool.not_true,cond_false,cond_true,signed_fin b hx.1 hd]
   ·rw[decide_eq_false hd,Bool.not_false,cond_false,cond_true]
 ·cases h
def rightS:Fsp:=fun _ args k=>match args with
 | [.ro (.int .i64) xs]=>bif List.all (α:=Int) xs okB then k t0 else k (mis fxm 2)
 |_=>none
theorem right_text (N n:Nat) (α:Type) (x:List Int) (k:AOut→Option α):evFn real tab ((twT fsA spA).env real tab N (n+1)) N Tryz.f26 α [.ro (.int .i64) x] k =
 afterL (iterL N (fun y:Int × Unit=>bif decide (y.1<(x.length:Int)) then if 0≤y.1∧y.1<(x.length:Int) then bif decide (x.getD y.1.toNat (Int.ofNat 0) ≥
 -70368744177664) then bif !decide (x.getD y.1.toNat (Int.ofNat 0)≤70368744177664) then finL (k (mis fxm 2)) else some (LRes.cont (IntKind.i64.wrap (y.1+1),())) else finL (k
 (mis fxm 2)) else none else some (LRes.brk 0 (y.1,()))) (0,())) fun id _=>if id=0 then k (AOut.ret (AVal.tup [])) else none:=by kernel_rfl
theorem right_plain {α:Type} (x:List Int) (hl:x.length≤maxLen) (k:AOut→Option α):evFn real tab ((twT fsA spA).env real tab (x.length+1) 2) (x.length+1) Tryz.f26 α [.ro (.int .i64) x] k=bif x.all okB then k t0 else k (mis fxm 2):=by
 rw[right_text]
 generalize hf:(fun y:Int × Unit=>(_:Option (LRes (Int × Unit) α)))=f
 have e:iterL (x.length+1) f (0,())=bif (List.range x.length).any (fun i=>!okB (x.getD i 0)) then finL (k (mis fxm 2)) else some (.brk 0 ((x.length:Int),())):=by
  refine iterL_any (f:=f) (fun i:Nat=>((i:Int),())) _ (fin_not _) (brk_not _ _) x.length (fun i hi=>?_) ?_
  ·rw[←hf]
   have h1:decide ((i:Int)<(x.length:Int))=true:=decide_eq_true (by omega)
   have h2:IntKind.i64.wrap ((i:Int)+1)=((i+1:Nat):Int):=wrap_small (n:=i+1) (by omega)
   simp only[h1,cond_true,h2,show Int.ofNat 0=0 from rfl,show ((i:Int)).toNat=i from rfl]
   rw[if_pos ⟨by omega,by omega⟩]
   unfold okB
   by_cases a:-70368744177664≤x.getD i 0
   ·rw[decide_eq_true a]
    cases decide (x.getD i 0≤70368744177664)<;>rfl
   ·rw[decide_eq_false a]; rfl
  ·rw[←hf]
   have h1:decide ((x.length:Int)<(x.length:Int))=false:=decide_eq_false (by omega)
   simp only[h1,cond_false]
 rw[e,any_range x fun n=>!okB n]
 have:x.any (fun n=>!okB n)=!x.all okB:=by rw[List.not_all_eq_any_not]
 rw[this]
 cases x.all okB
 ·simp only[Bool.not_false,cond_true,cond_false]
  cases k (mis fxm 2)<;>rfl
 ·rfl
theorem rightS_ok:FspOk Tryz.prog 26 rightS:=tower_S fsA_ok spA_ok ⟨Tryz.func26,fun _ _=>by kernel_rfl⟩ (by intro α args k; unfold rightS; split<;>simp only[cond_bind,Option.bind_some,Option.bind_none]) fun args out hs h=>by
 unfold rightS at h
 split at h
 ·rename_i x
  exact⟨_,2,(right_plain x (hs _ (by simp)).len some).trans h⟩
 ·cases h
def plusS:Fsp:=fun _ args k=>match args with
 | [.agg [.int .u64 a,.int .u64 b],.agg [.int .u64 c,.int .u64 d]]=>bif wB a&&wB b&&wB c&&wB d&&decide (vw a b+vw c d<340282366920938463463374607431768211456) then k (.ret (.agg [uN (hiW (vw a b+vw c d)),uN (loW (vw a b+vw c d))])) else none
 |_=>none
theorem plus_text (N n:Nat) (α:Type) (a b c d:Int) (k:AOut→Option α):evFn real tab ((twT fsA spA).env real tab N (n+1)) N Tryz.f122 α [.agg [uN a,uN b],.agg [uN c,uN d]] k =
 bif wB b&&wB d&&(decide ((0:Int)≤0)&&decide ((0:Int)≤1)) then bif wB a&&wB c&&(decide (0≤(b+d+0) / 18446744073709551616)&&decide ((b+d+0) /
 18446744073709551616≤1)) then k (AOut.ret (AVal.agg [AVal.int IntKind.u64 ((a+c+(b+d+0) / 18446744073709551616) % 18446744073709551616),AVal.int IntKind.u64 ((b+d+0)
 % 18446744073709551616)])) else none else none:=by kernel_rfl
theorem plusS_ok:FspOk Tryz.prog 122 plusS:=tower_S fsA_ok spA_ok ⟨Tryz.func122,fun _ _=>by kernel_rfl⟩ (by intro α args k; unfold plusS; split<;>simp only[cond_bind,Option.bind_some,Option.bind_none]) fun args out hs h=>by
 unfold plusS at h
 split at h
 ·rename_i a b c d
  cases hx:wB a&&wB b&&wB c&&wB d&&decide (vw a b+vw c d<340282366920938463463374607431768211456)
  ·rw[hx] at h; cases h
  ·rw[hx,cond_true] at h
   refine⟨1,2,(plus_text 1 1 AOut a b c d some).trans (Eq.trans ?_ h)⟩
   simp only[Bool.and_eq_true,decide_eq_true_eq] at hx
   obtain⟨⟨⟨⟨h1,h2⟩,h3⟩,h4⟩,h5⟩:=hx
   rw[h1,h2,h3,h4]
   rw[wB_iff] at h1 h2 h3 h4
   unfold Word at h1 h2 h3 h4
   unfold vw at h5
   rw[decide_eq_true (show (0:Int)≤(b+d+0) / 18446744073709551616 by omega),decide_eq_true (show (b+d+0) / 18446744073709551616≤1 by omega)]
   have e1:(a+c+(b+d+0) / 18446744073709551616) % 18446744073709551616=hiW (vw a b+vw c d):=by unfold hiW vw; omega
   have e2:(b+d+0) % 18446744073709551616=loW (vw a b+vw c d):=by unfold loW vw; omega
   rw[e1,e2]
   rfl
 ·cases h
theorem cmp_vw {a b c d:Int} (hb:Word b) (hd:Word d):orI (cmpI a c) (cmpI b d)=cmp3 (vw a b) (vw c d):=by
 unfold Word at hb hd
 unfold orI cmpI cmp3 vw
 repeat' split
 all_goals omega
def cmpVS:Fsp:=fun _ args k=>match args with
 | [.agg [.int .u64 a,.int .u64 b],.agg [.int .u64 c,.int .u64 d]]=>bif wB b&&wB d then k (.ret (.int .i64 (cmp3 (vw a b) (vw c d)))) else none
 |_=>none
theorem cmpVS_ok:FspOk Tryz.prog 59 cmpVS where
 enter:=cmpWS_ok.enter
 nat:=by intro α args k; unfold cmpVS; split<;>simp only[cond_bind,Option.bind_some,Option.bind_none]
 calls:=fun args out h=>cmpWS_ok.calls args out (by
  unfold cmpVS at h
  split at h
  ·rename_i a b c d
   cases hx:wB b&&wB d
   ·rw[hx] at h; cases h
   ·rw[hx] at h; cases h
    simp only[Bool.and_eq_true,wB_iff] at hx
    simp only[cmpWS,cmp_vw hx.1 hx.2]
  ·cases h)
def howOf (g:Nat):Option Int:=
 if g=53 then some 0 else
 if g=54 then some 1 else
 if g=55 then some 2 else
 if g=56 then some 3 else
 none
def fsB:FuncId→Option Fsp:=fun g=>
 if g=99 then some sizeS else
 if g=100 then some sizeS else
 if g=60 then some signedS else
 if g=26 then some rightS else
 if g=122 then some plusS else
 if g=59 then some cmpVS else fsA g
theorem fsB_ok:FsOk fsB:=
 fs_cons sizeS_ok <|
 fs_cons isizeS_ok <|
 fs_cons signedS_ok <|
 fs_cons rightS_ok <|
 fs_cons plusS_ok <|
 fs_cons cmpVS_ok <|
 fsA_ok
def rndP (how:Int) (neg:Bool) (n d:Int):Int:=bif decide (n / d<18446744073709551616) then rnd how neg n d % 18446744073709551616 else 18446744073709551616
def fitK {α:Type} (neg:Bool) (n:Int) (k:AOut→Option α):Option α:=bif fxB n then k (i1 (sg neg n)) else k (mis fxm 4)
def qEnd {α:Type} (q:Int) (neg:Bool) (k:AOut→Option α):Option α:=bif wB q then fitK neg q k else none
theorem fitK_bind {α β:Type} (neg:Bool) (n:Int) (k:AOut→Option α) (K:α→Option β):(fitK neg n k).bind K=fitK neg n fun o=>(k o).bind K:=by unfold fitK; rw[cond_bind]
def quotS:Fsp:=fun _ args k=>match args with
 | [.agg [.int .u64 h,.int .u64 l],.int .u64 d,.bool neg,.fn g []]=>
   match howOf g with
   |some how=>bif wB h&&wB l&&wB d&&decide (0<d) then fitK neg (rndP how neg (vw h l) d) k else none
   |none=>none
 |_=>none
theorem qEnd_of {α:Type} {q:Int} (neg:Bool) (k:AOut→Option α) (h:0≤q∧q<18446744073709551616):qEnd q neg k=fitK neg q k:=by
 unfold qEnd
 rw[wB_iff.2 h,cond_true]
theorem rem_mod {h l d:Int}:remI h l d=vw h l % d:=rfl
theorem quot_big {how:Int} {neg:Bool} {h l d:Int} (h0:0<d) (hl:Word l) (hd:d≤h) {α:Type} (k:AOut→Option α):fitK neg (rndP how neg (vw h l) d) k=k (mis fxm 4):=by
 have:¬vw h l / d<18446744073709551616:=by
  have e:18446744073709551616*d≤vw h l:=by unfold vw; unfold Word at hl; omega
  have:=Int.le_ediv_of_mul_le h0 e
  omega
 unfold rndP
 rw[decide_eq_false this]
 rfl
theorem quot_small {how:Int} {neg:Bool} {h l d:Int} (hh:Word h) (hl:Word l) (hd:h<d) {b:Bool} (hb:up1 how neg (remI h l d) d=b):rndP how neg (vw h l) d=(quoI h l d+bif b then 1 else 0) % 18446744073709551616∧0≤quoI h l d∧quoI h l d<18446744073709551616:=by
 unfold Word at hh hl
 have h1:vw h l / d<18446744073709551616:=by
  refine Int.ediv_lt_of_lt_mul (by omega) ?_
  unfold vw
  have:(h+1)*18446744073709551616≤d*18446744073709551616:=Int.mul_le_mul_of_nonneg_right (by omega) (by omega)
  rw[Int.mul_comm 18446744073709551616]
  omega
 have h2:0≤vw h l / d:=Int.ediv_nonneg (by unfold vw; omega) (by omega)
 refine⟨?_,h2,h1⟩
 unfold rndP rnd
 rw[decide_eq_true h1,cond_true,←rem_mod,hb]
 rfl
theorem quot_up {α:Type} {q:Int} (neg b:Bool) (k:AOut→Option α) (h:0≤q∧q<18446744073709551616):(bif b then qEnd (IntKind.u64.wrap (q+1)) neg k else qEnd q neg k)=fitK neg ((q+bif b then 1 else 0) % 18446744073709551616) k:=by
 cases b
 ·rw[cond_false,cond_false,qEnd_of _ _ h,Int.add_zero,show q % 18446744073709551616=q by omega]
 ·rw[cond_true,cond_true,IntKind.wrap_u64,qEnd_of _ _ (by omega)]
theorem quot_plain {α:Type} {h l d:Int} {neg:Bool} {how:Int} (hx:(wB h&&wB l&&wB d&&decide (0<d))=true) (m:Bool) (hm:0<remI h l d→up1 how neg (remI h l d) d=m) (k:AOut→Option α) (M:Option α)
  (hM:M=bif m then qEnd (IntKind.u64.wrap (quoI h l d+1)) neg k else qEnd (quoI h l d) neg k) :
  (bif wB h&&wB l&&wB d then
   bif decide (d≤h) then k (mis fxm 4)
   else
    bif decide (remI h l d>0) then
     bif wB 0&&wB (remI h l d)&&wB 0&&wB (remI h l d)&&decide (vw 0 (remI h l d)+vw 0 (remI h l d)<340282366920938463463374607431768211456) then
      bif wB (loW (vw 0 (remI h l d)+vw 0 (remI h l d)))&&wB d then M
      else none
     else none
    else qEnd (quoI h l d) neg k
  else none)=fitK neg (rndP how neg (vw h l) d) k:=by
 simp only[Bool.and_eq_true,decide_eq_true_eq] at hx
 obtain⟨⟨⟨h1,h2⟩,h3⟩,h4⟩:=hx
 rw[h1,h2,h3]
 rw[wB_iff] at h1 h2 h3
 simp only[Bool.and_self,cond_true]
 by_cases hd:d≤h
 ·rw[decide_eq_true hd,cond_true,quot_big h4 h2 hd]
 ·rw[decide_eq_false hd,cond_false]
  have r0:=Int.emod_nonneg (vw h l) (show d≠0 by omega)
  have r1:=Int.emod_lt_of_pos (vw h l) h4
  rw[←rem_mod] at r0 r1
  by_cases hr:0<remI h l d
  ·have hw:wB (remI h l d)=true:=wB_iff.2 (by unfold Word at *; omega)
   rw[decide_eq_true (show remI h l d>0 from hr),cond_true,hw,wB_iff.2 (show Word 0 by unfold Word; omega),decide_eq_true (show vw 0 (remI h l d)+vw 0 (remI h l d)<340282366920938463463374607431768211456 by unfold vw; unfold Word at h3; omega),lo_wB]
   simp only[Bool.and_self,cond_true,hM]
   obtain⟨e1,e2⟩:=quot_small (neg:=neg) h1 h2 (by omega) (hm hr)
   rw[quot_up _ _ _ e2,e1]
  ·rw[decide_eq_false (show ¬remI h l d>0 from hr),cond_false]
   have hu:up1 how neg (remI h l d) d=false:=by unfold up1; rw[decide_eq_false hr]; rfl
   obtain⟨e1,e2⟩:=quot_small (neg:=neg) h1 h2 (by omega) hu
   rw[qEnd_of _ _ e2,e1,cond_false,Int.add_zero,show quoI h l d % 18446744073709551616=quoI h l d by omega]
theorem quot0_text (N n:Nat) (α:Type) (h l d:Int) (neg:Bool) (k:AOut→Option α):evFn real tab ((twT fsB spA).env real tab N (n+2)) N Tryz.f98 α [.agg [uN h,uN l],uN d,.bool neg,.fn 53 []] k =
 bif wB h&&wB l&&wB d then bif decide (d≤h) then k (mis fxm 4) else bif decide (remI h l d>0) then bif wB 0&&wB (remI h l d)&&wB 0&&wB (remI h l d)&&decide (vw 0
 (remI h l d)+vw 0 (remI h l d)<340282366920938463463374607431768211456) then bif wB (loW (vw 0 (remI h l d)+vw 0 (remI h l d)))&&wB d then qEnd (quoI h l d) neg k else none
 else none else qEnd (quoI h l d) neg k else none:=by kernel_rfl
theorem quot0_plain (N n:Nat) (α:Type) (h l d:Int) (neg:Bool) (hx:(wB h&&wB l&&wB d&&decide (0<d))=true) (k:AOut→Option α):evFn real tab ((twT fsB spA).env real tab N (n+2)) N Tryz.f98 α [.agg [uN h,uN l],uN d,.bool neg,.fn 53 []] k=fitK neg (rndP 0 neg (vw h l) d) k:=
 (quot0_text N n α h l d neg k).trans (quot_plain hx (false) (fun hr=>by unfold up1; rw[decide_eq_true hr]; rfl) k _ rfl)
theorem quot1_text (N n:Nat) (α:Type) (h l d:Int) (neg:Bool) (k:AOut→Option α):evFn real tab ((twT fsB spA).env real tab N (n+2)) N Tryz.f98 α [.agg [uN h,uN l],uN d,.bool neg,.fn 54 []] k =
 bif wB h&&wB l&&wB d then bif decide (d≤h) then k (mis fxm 4) else bif decide (remI h l d>0) then bif wB 0&&wB (remI h l d)&&wB 0&&wB (remI h l d)&&decide (vw 0
 (remI h l d)+vw 0 (remI h l d)<340282366920938463463374607431768211456) then bif wB (loW (vw 0 (remI h l d)+vw 0 (remI h l d)))&&wB d then bif neg then qEnd
 (IntKind.u64.wrap (quoI h l d+1)) neg k else qEnd (quoI h l d) neg k else none else none else qEnd (quoI h l d) neg k else none:=by kernel_rfl
theorem quot1_plain (N n:Nat) (α:Type) (h l d:Int) (neg:Bool) (hx:(wB h&&wB l&&wB d&&decide (0<d))=true) (k:AOut→Option α):evFn real tab ((twT fsB spA).env real tab N (n+2)) N Tryz.f98 α [.agg [uN h,uN l],uN d,.bool neg,.fn 54 []] k=fitK neg (rndP 1 neg (vw h l) d) k:=
 (quot1_text N n α h l d neg k).trans (quot_plain hx (neg) (fun hr=>by unfold up1; rw[decide_eq_true hr]; rfl) k _ rfl)
theorem quot2_text (N n:Nat) (α:Type) (h l d:Int) (neg:Bool) (k:AOut→Option α):evFn real tab ((twT fsB spA).env real tab N (n+2)) N Tryz.f98 α [.agg [uN h,uN l],uN d,.bool neg,.fn 55 []] k =
 bif wB h&&wB l&&wB d then bif decide (d≤h) then k (mis fxm 4) else bif decide (remI h l d>0) then bif wB 0&&wB (remI h l d)&&wB 0&&wB (remI h l d)&&decide (vw 0
 (remI h l d)+vw 0 (remI h l d)<340282366920938463463374607431768211456) then bif wB (loW (vw 0 (remI h l d)+vw 0 (remI h l d)))&&wB d then bif !neg then qEnd
 (IntKind.u64.wrap (quoI h l d+1)) neg k else qEnd (quoI h l d) neg k else none else none else qEnd (quoI h l d) neg k else none:=by kernel_rfl
theorem quot2_plain (N n:Nat) (α:Type) (h l d:Int) (neg:Bool) (hx:(wB h&&wB l&&wB d&&decide (0<d))=true) (k:AOut→Option α):evFn real tab ((twT fsB spA).env real tab N (n+2)) N Tryz.f98 α [.agg [uN h,uN l],uN d,.bool neg,.fn 55 []] k=fitK neg (rndP 2 neg (vw h l) d) k:=
 (quot2_text N n α h l d neg k).trans (quot_plain hx (!neg) (fun hr=>by unfold up1; rw[decide_eq_true hr]; rfl) k _ rfl)
theorem quot3_text (N n:Nat) (α:Type) (h l d:Int) (neg:Bool) (k:AOut→Option α):evFn real tab ((twT fsB spA).env real tab N (n+2)) N Tryz.f98 α [.agg [uN h,uN l],uN d,.bool neg,.fn 56 []] k =
 bif wB h&&wB l&&wB d then bif decide (d≤h) then k (mis fxm 4) else bif decide (remI h l d>0) then bif wB 0&&wB (remI h l d)&&wB 0&&wB (remI h l d)&&decide (vw 0
 (remI h l d)+vw 0 (remI h l d)<340282366920938463463374607431768211456) then bif wB (loW (vw 0 (remI h l d)+vw 0 (remI h l d)))&&wB d then bif decide (cmp3 (vw (hiW (vw 0
 (remI h l d)+vw 0 (remI h l d))) (loW (vw 0 (remI h l d)+vw 0 (remI h l d)))) (vw 0 d)≥0) then qEnd (IntKind.u64.wrap (quoI h l d+1)) neg k else qEnd (quoI h l d) neg k else
 none else none else qEnd (quoI h l d) neg k else none:=by kernel_rfl
theorem quot3_plain (N n:Nat) (α:Type) (h l d:Int) (neg:Bool) (hx:(wB h&&wB l&&wB d&&decide (0<d))=true) (k:AOut→Option α):evFn real tab ((twT fsB spA).env real tab N (n+2)) N Tryz.f98 α [.agg [uN h,uN l],uN d,.bool neg,.fn 56 []] k=fitK neg (rndP 3 neg (vw h l) d) k:=
 (quot3_text N n α h l d neg k).trans (quot_plain hx (decide (cmp3 (vw (hiW (vw 0 (remI h l d)+vw 0 (remI h l d))) (loW (vw 0 (remI h l d)+vw 0 (remI h l d)))) (vw 0 d)≥0)) (fun hr=>by
  unfold up1; rw[decide_eq_true hr,vw_hl]
  show decide (d≤remI h l d+remI h l d)=_
  rw[decide_eq_decide]; unfold cmp3 vw; repeat' split
  all_goals omega) k _ rfl)
theorem how_cases {g:Nat} {how:Int} (h:howOf g=some how):False
 ∨ (g=53∧how=0)
 ∨ (g=54∧how=1)
 ∨ (g=55∧how=2)
 ∨ (g=56∧how=3)
 := by
 unfold howOf at h
 repeat' split at h
 all_goals first|(cases h; simp[*]; done)|cases h
theorem quotS_ok:FspOk Tryz.prog 98 quotS:=tower_S fsB_ok spA_ok ⟨Tryz.func98,fun _ _=>by kernel_rfl⟩ (by intro α args k; unfold quotS; split<;>(try split)<;>simp only[cond_bind,fitK_bind,Option.bind_some,Option.bind_none]) fun args out hs h=>by
 unfold quotS at h
 split at h
 ·rename_i h1 l d neg g
  split at h
  ·rename_i how hg
   cases hx:wB h1&&wB l&&wB d&&decide (0<d)
   ·rw[hx] at h; cases h
   ·rw[hx,cond_true] at h
    rcases how_cases hg with hf
     |⟨rfl,rfl⟩
     |⟨rfl,rfl⟩
     |⟨rfl,rfl⟩
     |⟨rfl,rfl⟩
    ·cases hf
    ·exact⟨1,2,(quot0_plain 1 0 AOut h1 l d neg hx some).trans h⟩
    ·exact⟨1,2,(quot1_plain 1 0 AOut h1 l d neg hx some).trans h⟩
    ·exact⟨1,2,(quot2_plain 1 0 AOut h1 l d neg hx some).trans h⟩
    ·exact⟨1,2,(quot3_plain 1 0 AOut h1 l d neg hx some).trans h⟩
  ·cases h
 ·cases h
theorem or_add {X Y:Int} (k:Nat) (hX:0≤X∧X<18446744073709551616) (hk:X % (2^k:Nat)=0) (hY:0≤Y∧Y<(2^k:Nat)) (hs:X+Y<18446744073709551616):IntKind.u64.wrap (((BitVec.ofInt 64 X ||| BitVec.ofInt 64 Y).toNat:Nat):Int)=X+Y:=by
 obtain⟨x,rfl⟩:=Int.eq_ofNat_of_zero_le hX.1
 obtain⟨y,rfl⟩:=Int.eq_ofNat_of_zero_le hY.1
 have hy:y<2^k:=by exact_mod_cast hY.2
 have hx:x % 2^k=0:=by exact_mod_cast hk
 have e:x=2^k*(x / 2^k):=by have:=Nat.div_add_mod x (2^k); omega
 have e1:(BitVec.ofInt 64 (x:Int)).toNat=x:=by rw[BitVec.toNat_ofInt]; have:x<18446744073709551616:=by omega
                                               simp; omega
 have e2:(BitVec.ofInt 64 (y:Int)).toNat=y:=by rw[BitVec.toNat_ofInt]; have:y<18446744073709551616:=by omega
                                               simp; omega
 rw[BitVec.toNat_or,e1,e2]
 have e3:x ||| y=x+y:=by
  rw[e,←Nat.two_pow_add_eq_or_of_lt hy]
 rw[e3,u64w _ (by omega)]
 omega
theorem bit_search {α:Type} {f:Int × Int × Unit→Option (LRes (Int × Int × Unit) α)} (p:Nat→Bool) (K:Nat)
  (hf:∀n k,n % 2^(k+1)=0→n+2^(k+1)≤2^K→p n=true→f ((n:Int),((2^k:Nat):Int),())=some (.cont (((bif p (n+2^k) then n+2^k else n:Nat):Int),((2^k / 2:Nat):Int),())))
  (hend:∀n:Nat,f ((n:Int),0,())=some (.brk 0 ((n:Int),0,()))) :
  ∀(k:Nat) (n:Nat),n % 2^k=0→n+2^k≤2^K→p n=true→∀N,k<N→iterL N f ((n:Int),((2^k / 2:Nat):Int),())=some (.brk 0 (((bs p k n:Nat):Int),0,()))
 |0,n,h1,h2,h3,N,hN=>by
  obtain⟨N,rfl⟩:∃M,N=M+1:=⟨N-1,by omega⟩
  have e:(((2^0 / 2:Nat)):Int)=0:=rfl
  rw[e]
  simp only[iterL,hend]
  rfl
 |k+1,n,h1,h2,h3,N,hN=>by
  obtain⟨N,rfl⟩:∃M,N=M+1:=⟨N-1,by omega⟩
  have e0:2^(k+1) / 2=2^k:=by rw[Nat.pow_succ]; omega
  have e1:2^(k+1)=2^k+2^k:=by rw[Nat.pow_succ]; omega
  have hd:n % 2^k=0:=by
   have:(n % 2^(k+1)) % 2^k=n % 2^k:=Nat.mod_mod_of_dvd _ ⟨2,by rw[Nat.pow_succ]⟩
   rw[h1] at this
   simpa using this.symm
  have hf':=hf n k h1 h2 h3
  rw[e0]
  simp only[iterL,hf',bs]
  cases hp:p (n+2^k)
  ·exact bit_search p K hf hend k n hd (by omega) h3 N (by omega)
  ·exact bit_search p K hf hend k (n+2^k) (by rw[Nat.add_mod_right]; exact hd) (by omega) hp N (by omega)
theorem fdiv_pos (a:Int) {b:Int} (hb:0≤b):a.fdiv b=a / b:=Int.fdiv_eq_ediv_of_nonneg a hb
def fsC:FuncId→Option Fsp:=fun g=>
 if g=98 then some quotS else fsB g
theorem fsC_ok:FsOk fsC:=
 fs_cons quotS_ok <|
 fsB_ok
theorem all2 (a b:Int):List.all [a,b] okB=(okB a&&okB b):=by simp
theorem all1 (a:Int):List.all [a] okB=okB a:=by simp
theorem ab_mul_in {a b:Int} (ha:okB a=true) (hb:okB b=true):0≤ab a*ab b∧ab a*ab b≤4951760157141521099596496896:=
 ⟨Int.mul_nonneg (ab_nn a) (ab_nn b),Int.mul_le_mul (ok_ab ha) (ok_ab hb) (ab_nn b) (by omega)⟩
def squareS:Fsp:=fun _ args k=>match args with
 | [.agg [.int .i64 x,.int .i64 y]]=>bif okB x&&okB y then k (.ret (.agg [uN (hiW (sq2 x y)),uN (loW (sq2 x y))])) else k (mis fxm 2)
 |_=>none
theorem square_text (N n:Nat) (α:Type) (a b:Int) (k:AOut→Option α):evFn real tab ((twT fsC spA).env real tab N (n+2)) N Tryz.f107 α [sN a b] k =
 bif [a,b].all okB then bif i6 a then bif i6 a then bif wB (ab a)&&wB (ab a) then bif i6 b then bif i6 b then bif wB (ab b)&&wB (ab b) then bif wB (hiW (ab a*ab a))&&wB (loW
 (ab a*ab a))&&wB (hiW (ab b*ab b))&&wB (loW (ab b*ab b))&&decide (vw (hiW (ab a*ab a)) (loW (ab a*ab a))+vw (hiW (ab b*ab b)) (loW (ab b*ab b)) <
 340282366920938463463374607431768211456) then k (AOut.ret (AVal.agg [AVal.int IntKind.u64 (hiW (vw (hiW (ab a*ab a)) (loW (ab a*ab a))+vw (hiW (ab b*ab b)) (loW (ab b*ab
 b)))),AVal.int IntKind.u64 (loW (vw (hiW (ab a*ab a)) (loW (ab a*ab a))+vw (hiW (ab b*ab b)) (loW (ab b*ab b))))])) else none else none else none else none else none else
 none else none else k (mis fxm 2):=by kernel_rfl
theorem squareS_ok:FspOk Tryz.prog 107 squareS:=tower_S fsC_ok spA_ok ⟨Tryz.func107,fun _ _=>by kernel_rfl⟩ (by intro α args k; unfold squareS; split<;>simp only[cond_bind,Option.bind_some,Option.bind_none]) fun args out hs h=>by
 unfold squareS at h
 split at h
 ·rename_i x y
  refine⟨8,2,(square_text 8 0 AOut x y some).trans (Eq.trans ?_ h)⟩
  rw[all2]
  cases hx:okB x
  ·rfl
  ·cases hy:okB y
   ·rfl
   ·have a1:=ab_mul_in hx hx
    have a2:=ab_mul_in hy hy
    simp only[i6_ok hx,i6_ok hy,wB_ab (i6_ok hx),wB_ab (i6_ok hy),hi_wB (show 0≤ab x*ab x∧ab x*ab x<_ from ⟨a1.1,by omega⟩),hi_wB (show 0≤ab y*ab y∧ab y*ab y<_ from ⟨a2.1,by omega⟩),lo_wB,vw_hl,Bool.and_self,cond_true,decide_eq_true (show ab x*ab x+ab y*ab y<340282366920938463463374607431768211456 by omega)]
    rfl
 ·cases h
structure Exd (n D:Nat) (w w':World):Prop where
 os:w'.os=w.os
 tape:w'.tape=w.tape
 output:w'.output=w.output
 size:w.heap.size≤w'.heap.size
 block:∀k,k<n→k≠D→w'.heap[k]?=w.heap[k]?
theorem Exd.of {n D:Nat} {w w':World} (h:Below n w w'):Exd n D w w':=⟨h.os,h.tape,h.output,h.size,fun k hk _=>h.block k hk⟩
theorem Exd.trans {n D:Nat} {a b c:World} (h:Exd n D a b) (k:Exd n D b c):Exd n D a c:=
 ⟨k.os.trans h.os,k.tape.trans h.tape,k.output.trans h.output,Nat.le_trans h.size k.size,fun i hi hd=>(k.block i hi hd).trans (h.block i hi hd)⟩
theorem Exd.set {n D:Nat} {w:World} (v:Value):Exd n D w (w.setCell ⟨D,0,none⟩ v):=
 ⟨rfl,rfl,rfl,by simp[World.setCell],fun k _ hd=>Below.heap_setCell _ _ _ _ hd⟩
theorem hidOf {p:Prop} (h:p):Hid p:=h
theorem cellSet {w:World} {a:Addr} {u:Value} (v:Value) (h:w.cell? a=some u):(w.setCell a v).cell? a=some v:=World.cell?_setCell_same w a v h
theorem rep_fn {h g w} {f:FuncId} {caps:List AVal} {z:Value} (r:Rep h g w (.fn f caps) z):∃arr,z=.func (.func f) #[] arr∧caps.length=arr.size:=by
 cases r with
 |fn _ _ arr hl _=>exact⟨arr,rfl,hl⟩
end Go.Proofs.YtneedmplkodcjaaGreat
